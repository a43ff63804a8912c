/- Part 5 of the texts behind the claim: S1b S2 S3 S4 S5. -/
import Derived.Test.YtjnjiemaoinblaaZS4
set_option linter.unusedSimpArgs false
set_option linter.unusedVariables false
namespace Go.Flong
open Go Go.Eng Go.Proofs
theorem B66 : BldT Try.prog 66 [(0,1),(1,1),(2,1)] [.int .i64 0,.int .i64 0,.int .i64 0] := BldT.mk (ns := [1,1,1]) Try.underlying66 ⟨Try.sizeOf3,Try.sizeOf3,Try.sizeOf3,trivial⟩ rfl Try.zeroValue66 rfl
theorem R44 : RowT Try.prog 44 66 3 24 [.int .i64 0,.int .i64 0,.int .i64 0] := ⟨Try.underlying44,⟨Try.t66,_,by kernel_rfl,rfl,rfl,rfl,rfl⟩,rfl,by decide⟩
theorem R27 : RowT Try.prog 27 24 1 24 [.slice none 0 0] := ⟨Try.underlying27,⟨Try.t24,_,by kernel_rfl,rfl,rfl,rfl,rfl⟩,rfl,by decide⟩
theorem Z26 : Zero Try.prog 26 [.v (.slice none 0 0),.v (.slice none 0 0),.v (.slice none 0 0),ai (0)] := .mk Try.zeroValue26 rfl rfl
theorem R22 : RowT Try.prog 22 68 3 24 [.int .i64 0,.int .i64 0,.int .i64 0] := ⟨Try.underlying22,⟨Try.t68,_,by kernel_rfl,rfl,rfl,rfl,rfl⟩,rfl,by decide⟩
theorem R23 : RowT Try.prog 23 58 3 24 [.int .i64 0,.int .i64 0,.int .i64 0] := ⟨Try.underlying23,⟨Try.t58,_,by kernel_rfl,rfl,rfl,rfl,rfl⟩,rfl,by decide⟩
theorem B26 : BldT Try.prog 26 [(0,1),(1,1),(2,1),(3,1)] [.slice none 0 0,.slice none 0 0,.slice none 0 0,.int .i64 0] := BldT.mk (ns := [1,1,1,1]) Try.underlying26 ⟨Try.sizeOf22,Try.sizeOf23,Try.sizeOf24,Try.sizeOf3,trivial⟩ rfl Try.zeroValue26 rfl
theorem Z29 : Zero Try.prog 29 [.v (.slice none 0 0),.v (.slice none 0 0),.v (.slice none 0 0),ai (0),.v (.slice none 0 0),.v (.slice none 0 0)] := .mk Try.zeroValue29 rfl rfl
theorem e98 : Enters' Try.prog 98 := Try.call98
theorem e99 : Enters' Try.prog 99 := Try.call99
theorem B29 : BldT Try.prog 29 [(0,4),(4,1),(5,1)] [.slice none 0 0,.slice none 0 0,.slice none 0 0,.int .i64 0,.slice none 0 0,.slice none 0 0] := BldT.mk (ns := [4,1,1]) Try.underlying29 ⟨Try.sizeOf26,Try.sizeOf24,Try.sizeOf27,trivial⟩ rfl Try.zeroValue29 rfl
theorem e46 : Enters' Try.prog 46 := Try.call46
theorem e47 : Enters' Try.prog 47 := Try.call47
theorem e78 : Enters' Try.prog 78 := Try.call78
theorem B68 : BldT Try.prog 68 [(0,1),(1,1),(2,1)] [.int .i64 0,.int .i64 0,.int .i64 0] := BldT.mk (ns := [1,1,1]) Try.underlying68 ⟨Try.sizeOf3,Try.sizeOf3,Try.sizeOf3,trivial⟩ rfl Try.zeroValue68 rfl
theorem B58 : BldT Try.prog 58 [(0,1),(1,1),(2,1)] [.int .i64 0,.int .i64 0,.int .i64 0] := BldT.mk (ns := [1,1,1]) Try.underlying58 ⟨Try.sizeOf3,Try.sizeOf3,Try.sizeOf3,trivial⟩ rfl Try.zeroValue58 rfl
theorem e50 : Enters' Try.prog 50 := Try.call50
theorem e33 : Enters' Try.prog 33 := Try.call33
theorem e66 : Enters' Try.prog 66 := Try.call66
abbrev Add2  : Pred := Pred.fall fun (o : AddD) => FvP Try.prog [.i (o.1.1),.i (o.1.2)] [] (.i (o.1.1 + o.1.2)) []
theorem F75_0 : Fld Try.prog 75 0 0 := .mk Try.underlying75 rfl rfl rfl Try.sizeOf29 rfl
theorem e68 : Enters' Try.prog 68 := Try.call68
theorem e67 : Enters' Try.prog 67 := Try.call67
theorem G79 : TyG Try.prog 79 3 := ⟨Try.isAgg79,Try.sizeOf79⟩
theorem Z79 : Zero Try.prog 79 [ai (0),ai (0),ai (0)] := .mk Try.zeroValue79 rfl rfl
theorem e34 : Enters' Try.prog 34 := Try.call34
theorem e35 : Enters' Try.prog 35 := Try.call35
theorem e36 : Enters' Try.prog 36 := Try.call36
theorem e37 : Enters' Try.prog 37 := Try.call37
theorem w9 {l : List Plate} : ∀ x ∈ ([.e (.a (.q 0))] : List SV),x.res (keys (α := Pred) [(0,PL EPl (l))]) := by simp [SV.res,El.res,At.res,keys]
theorem r9 {l : List Plate} : SV.res (keys (α := Pred) [(0,PL EP.int (countsR l))]) (.e (.a (.q 0))) := by simp [SV.res,El.res,At.res,keys]
set_option maxHeartbeats 4000000 in
theorem c9 (l : List Plate) (h : PlsOK l) : Sig Try.prog 9 [.e (.a (.q 0))] [(0,PL EPl (l))] (.e (.a (.q 0))) [(0,PL EP.int (countsR l))] := by
  have hn := h.n
  refine Sig.intro Try.func9 rfl 1 [(0,.e (.a (.q 0)))] rfl w9 rfl rfl fun I w => ?_
  refine WP.seq (WP.region ?_)
  refine WPl.v rfl (o_assign rfl) ?_
  refine WPl.nil (EX.then (WP.seq (WP.region ?_)))
  refine WPl.l 1 2 rfl rfl rfl (o_make (z := 0) (E := EP.int) 12 R24 (fun _ => rfl) rfl rfl (by first | omega | (simp; omega)) (by first | omega | (simp; omega))) ?_
  refine WPl.v rfl (o_assign rfl) ?_
  refine WPl.nil (EX.then (WP.seq (WP.seq (WP.region ?_))))
  refine WPl.v rfl (o_assign rfl) ?_
  refine WPl.nil (EX.then (WP.block ?_))
  refine WP.loop (Gh := Nat) (fun i => ⟨2,[(0,.e (.a (.q 0))),(2,.e (.a (.v (.slice none 0 0)))),(3,.e (.a (.q 1))),(4,.i ((i : Int)))],[(0,PL EPl (l))],[(1,.own 3 EP.int.size (cntTo l i).length (RP EP.int (cntTo l i)))],[],[]⟩) (fun i => i ≤ l.length) (fun i => l.length - i) (0) id ?_ (LeR.of ⟨rfl,rfl,rfl,rfl,trivial⟩ ⟨(lx rfl),trivial⟩ ⟨rfl,trivial⟩ rfl rfl rfl rfl rfl) ?_
  · first | trivial | omega | (constructor <;> omega) | simp
  intro i hφ
  have hi : i ≤ l.length := hφ
  refine WP.seq (WP.seq (WP.region ?_))
  refine WPl.v rfl (o_move rfl) ?_
  refine WPl.v rfl (o_move rfl) ?_
  refine WPl.v rfl (o_lenq L44 rfl (lx rfl)) ?_
  refine WPl.v rfl (o_lss rfl rfl) ?_
  refine WPl.nil (EX.then ?_)
  refine WP.cond rfl (fun hc1 => ?_) (fun hc1 => ?_)
  · try simp only [cnd] at hc1
    have hp := h.p i (by omega)
    have hpi := plc_in (x := (nth l (i : Int)).page) (y := (nth l (i : Int)).bore) (by omega)
    have hcb := cntTo_bnd h (i := i) (by omega) hpi.1 hpi.2
    have hlen := cntTo_len l i
    refine WP.skip (EX.then (WP.seq (WP.block ?_)))
    refine WP.draw (nf := 5) [⟨[13,14,15,16,17,18,19,20,21,22,23,26,27,28,29,30],[2,3,4],[],[],[]⟩,⟨[12,14,18,19,20,21,22,26,27,28,29,30],[3,4],[],[],[]⟩,⟨[12,13,18,19,20,21,22,26,27,28,29,30],[3,4],[],[],[]⟩,⟨[12,18,19,20,21,22,26,27,28,29,30],[3,4],[2],[2],[1,2]⟩,⟨[12,18,19,20,21,22,26,27,28,29,30],[3,4],[],[],[1,2,3]⟩,⟨[12,18,19,20,21,22,26,27,28,29,30],[3,4],[],[],[1,2,3,4]⟩,⟨[12,13,14,15,16,17,19,26,27,28,29,30],[2,4],[],[],[]⟩,⟨[12,13,14,15,16,17,18,26,27,28,29,30],[2,4],[],[],[]⟩,⟨[12,13,14,15,16,17,26,27,28,29,30],[2,4],[3],[3],[6,7]⟩,⟨[12,13,14,15,16,17,26,27,28,29,30],[2,4],[],[],[6,7,8]⟩,⟨[12,13,14,15,16,17,26,27,28,29,30],[2,4],[],[],[6,7,8,9]⟩,⟨[12,26,27,28,29,30],[4],[],[],[1,2,3,4,5,6,7,8,9,10]⟩,⟨[26,27,28,29,30],[4],[],[],[0,1,2,3,4,5,6,7,8,9,10,11]⟩,⟨[26,27,28,29,30],[4],[],[],[0,1,2,3,4,5,6,7,8,9,10,11,12]⟩,⟨[12,13,14,15,16,17,18,19,20,21,22,23,24,25,27],[2,3],[],[],[]⟩,⟨[12,13,14,15,16,17,18,19,20,21,22,23,24,25,26],[2,3],[],[],[]⟩,⟨[12,13,14,15,16,17,18,19,20,21,22,23,24,25],[2,3],[4],[4],[14,15]⟩,⟨[12,13,14,15,16,17,18,19,20,21,22,23,24,25],[2,3],[],[],[14,15,16]⟩,⟨[12,13,14,15,16,17,18,19,20,21,22,23,24,25],[2,3],[],[],[14,15,16,17]⟩,⟨[],[],[],[],[0,1,2,3,4,5,6,7,8,9,10,11,12,13,14,15,16,17,18]⟩,⟨[],[],[],[],[0,1,2,3,4,5,6,7,8,9,10,11,12,13,14,15,16,17,18,19]⟩,⟨[],[],[],[1],[0,1,2,3,4,5,6,7,8,9,10,11,12,13,14,15,16,17,18,19,20]⟩] (by kernel_rfl) (by kernel_rfl) ?_
    refine DRQ.v rfl rfl rfl (o_move rfl) ?_
    refine DRQ.v rfl rfl rfl (o_move rfl) ?_
    refine DRQ.v rfl rfl rfl (o_move rfl) ?_
    refine DRQ.x 2 rfl rfl rfl rfl (o_idx L44 rfl (lx rfl) rfl (by first | omega | (simp; omega)) (by first | omega | (simp; omega))) ?_
    refine DRQ.v rfl rfl rfl (o_fldq F66_0 rfl (lx rfl)) ?_
    refine DRQ.v rfl rfl rfl (o_lde S3 rfl (lx rfl) (strI rfl)) ?_
    refine DRQ.v rfl rfl rfl (o_move rfl) ?_
    refine DRQ.v rfl rfl rfl (o_move rfl) ?_
    refine DRQ.x 3 rfl rfl rfl rfl (o_idx L44 rfl (lx rfl) rfl (by first | omega | (simp; omega)) (by first | omega | (simp; omega))) ?_
    refine DRQ.v rfl rfl rfl (o_fldq F66_1 rfl (lx rfl)) ?_
    refine DRQ.v rfl rfl rfl (o_lde S3 rfl (lx rfl) (strI rfl)) ?_
    refine DRQ.cs rfl rfl rfl rfl (o_sig 4 id (c28 ((nth l (i : Int)).page) ((nth l (i : Int)).bore) (by omega) (by omega)) e28 rfl rfl rfl w28 trivial r28) ?_
    refine DRQ.v rfl rfl rfl (o_idxo L24 rfl rfl rfl (by first | omega | (simp; omega)) (by first | omega | (simp; omega))) ?_
    refine DRQ.v rfl rfl rfl (o_ldoi S3 rfl rfl rfl rfl (by first | omega | (simp; omega)) (by first | omega | (simp; omega))) ?_
    refine DRQ.v rfl rfl rfl (o_move rfl) ?_
    refine DRQ.v rfl rfl rfl (o_move rfl) ?_
    refine DRQ.x 4 rfl rfl rfl rfl (o_idx L44 rfl (lx rfl) rfl (by first | omega | (simp; omega)) (by first | omega | (simp; omega))) ?_
    refine DRQ.v rfl rfl rfl (o_fldq F66_2 rfl (lx rfl)) ?_
    refine DRQ.v rfl rfl rfl (o_lde S3 rfl (lx rfl) (strI rfl)) ?_
    refine DRQ.v rfl rfl rfl (o_add rfl rfl (by first | omega | (simp; omega)) (by first | omega | (simp; omega))) ?_
    refine DRQ.v rfl rfl rfl (o_idxo L24 rfl rfl rfl (by first | omega | (simp; omega)) (by first | omega | (simp; omega))) ?_
    refine DRQ.s 1 rfl rfl rfl (o_steE2 Try.sizeOf3 rfl rfl rfl rfl eok_int rfl rfl rfl (by first | omega | (simp; omega)) (by first | omega | (simp; omega))) ?_
    refine DRQ.nil' ?_
    refine EX.blk (EX.then (WP.region ?_))
    refine WPl.v rfl (o_move rfl) ?_
    refine WPl.v rfl (o_add rfl rfl (by first | omega | (simp; omega)) (by first | omega | (simp; omega))) ?_
    refine WPl.v rfl (o_assign rfl) ?_
    refine WPl.nil ?_
    refine EX.again (i + 1) id (by first | omega | (constructor <;> omega)) (by omega) (LeR.of ⟨rfl,rfl,rfl,rfl,trivial⟩ ⟨(lx rfl),trivial⟩ ⟨rfl,trivial⟩ rfl rfl rfl rfl rfl)
  · try simp only [cnd] at hc1
    refine WP.exit (EX.exit_then (EX.exit_then (EX.exit_blk (EX.then (WP.seq (WP.region ?_))))))
    refine WPl.v rfl (o_move rfl) ?_
    refine WPl.v rfl (o_assign rfl) ?_
    refine WPl.nil (EX.then (WP.ret ?_))
    refine EX.imp (Imp.frz (E := EP.int) (l := cntTo l i) 1 rfl rfl) ?_
    have he : i = l.length := by omega
    subst he
    exact EX.fin (ren [(0,1)]) (.inl rfl) rfl (.tmp rfl .nil) rfl (by simp [SV.res,El.res,At.res,keys]) ⟨(lx rfl),trivial⟩ (by simp) (by simp)
theorem w9O {l : List Plate} : ∀ x ∈ ([.e (.a (.q 0))] : List SV),x.res (keys (α := Pred) [(0,PL EPl (l))]) := by simp [SV.res,El.res,At.res,keys]
theorem r9O  : SV.res (keys (α := Pred) [(0,Pred.top)]) (.e (.a (.q 0))) := by simp [SV.res,El.res,At.res,keys]
set_option maxHeartbeats 4000000 in
theorem c9O (l : List Plate) (h : PlsOK l) : SigO Try.prog 9 [.e (.a (.q 0))] [(0,PL EPl (l))] (.e (.a (.q 0))) [(0,Pred.top)] [(0,.own 3 EP.int.size (countsR l).length (RP EP.int (countsR l)))] := by
  have hn := h.n
  refine SigO.intro Try.func9 rfl 1 [(0,.e (.a (.q 0)))] rfl w9O rfl rfl fun I w => ?_
  refine WP.seq (WP.region ?_)
  refine WPl.v rfl (o_assign rfl) ?_
  refine WPl.nil (EX.then (WP.seq (WP.region ?_)))
  refine WPl.l 1 2 rfl rfl rfl (o_make (z := 0) (E := EP.int) 12 R24 (fun _ => rfl) rfl rfl (by first | omega | (simp; omega)) (by first | omega | (simp; omega))) ?_
  refine WPl.v rfl (o_assign rfl) ?_
  refine WPl.nil (EX.then (WP.seq (WP.seq (WP.region ?_))))
  refine WPl.v rfl (o_assign rfl) ?_
  refine WPl.nil (EX.then (WP.block ?_))
  refine WP.loop (Gh := Nat) (fun i => ⟨2,[(0,.e (.a (.q 0))),(2,.e (.a (.v (.slice none 0 0)))),(3,.e (.a (.q 1))),(4,.i ((i : Int)))],[(0,PL EPl (l))],[(1,.own 3 EP.int.size (cntTo l i).length (RP EP.int (cntTo l i)))],[],[]⟩) (fun i => i ≤ l.length) (fun i => l.length - i) (0) id ?_ (LeR.of ⟨rfl,rfl,rfl,rfl,trivial⟩ ⟨(lx rfl),trivial⟩ ⟨rfl,trivial⟩ rfl rfl rfl rfl rfl) ?_
  · first | trivial | omega | (constructor <;> omega) | simp
  intro i hφ
  have hi : i ≤ l.length := hφ
  refine WP.seq (WP.seq (WP.region ?_))
  refine WPl.v rfl (o_move rfl) ?_
  refine WPl.v rfl (o_move rfl) ?_
  refine WPl.v rfl (o_lenq L44 rfl (lx rfl)) ?_
  refine WPl.v rfl (o_lss rfl rfl) ?_
  refine WPl.nil (EX.then ?_)
  refine WP.cond rfl (fun hc1 => ?_) (fun hc1 => ?_)
  · try simp only [cnd] at hc1
    have hp := h.p i (by omega)
    have hpi := plc_in (x := (nth l (i : Int)).page) (y := (nth l (i : Int)).bore) (by omega)
    have hcb := cntTo_bnd h (i := i) (by omega) hpi.1 hpi.2
    have hlen := cntTo_len l i
    refine WP.skip (EX.then (WP.seq (WP.block ?_)))
    refine WP.draw (nf := 5) [⟨[13,14,15,16,17,18,19,20,21,22,23,26,27,28,29,30],[2,3,4],[],[],[]⟩,⟨[12,14,18,19,20,21,22,26,27,28,29,30],[3,4],[],[],[]⟩,⟨[12,13,18,19,20,21,22,26,27,28,29,30],[3,4],[],[],[]⟩,⟨[12,18,19,20,21,22,26,27,28,29,30],[3,4],[2],[2],[1,2]⟩,⟨[12,18,19,20,21,22,26,27,28,29,30],[3,4],[],[],[1,2,3]⟩,⟨[12,18,19,20,21,22,26,27,28,29,30],[3,4],[],[],[1,2,3,4]⟩,⟨[12,13,14,15,16,17,19,26,27,28,29,30],[2,4],[],[],[]⟩,⟨[12,13,14,15,16,17,18,26,27,28,29,30],[2,4],[],[],[]⟩,⟨[12,13,14,15,16,17,26,27,28,29,30],[2,4],[3],[3],[6,7]⟩,⟨[12,13,14,15,16,17,26,27,28,29,30],[2,4],[],[],[6,7,8]⟩,⟨[12,13,14,15,16,17,26,27,28,29,30],[2,4],[],[],[6,7,8,9]⟩,⟨[12,26,27,28,29,30],[4],[],[],[1,2,3,4,5,6,7,8,9,10]⟩,⟨[26,27,28,29,30],[4],[],[],[0,1,2,3,4,5,6,7,8,9,10,11]⟩,⟨[26,27,28,29,30],[4],[],[],[0,1,2,3,4,5,6,7,8,9,10,11,12]⟩,⟨[12,13,14,15,16,17,18,19,20,21,22,23,24,25,27],[2,3],[],[],[]⟩,⟨[12,13,14,15,16,17,18,19,20,21,22,23,24,25,26],[2,3],[],[],[]⟩,⟨[12,13,14,15,16,17,18,19,20,21,22,23,24,25],[2,3],[4],[4],[14,15]⟩,⟨[12,13,14,15,16,17,18,19,20,21,22,23,24,25],[2,3],[],[],[14,15,16]⟩,⟨[12,13,14,15,16,17,18,19,20,21,22,23,24,25],[2,3],[],[],[14,15,16,17]⟩,⟨[],[],[],[],[0,1,2,3,4,5,6,7,8,9,10,11,12,13,14,15,16,17,18]⟩,⟨[],[],[],[],[0,1,2,3,4,5,6,7,8,9,10,11,12,13,14,15,16,17,18,19]⟩,⟨[],[],[],[1],[0,1,2,3,4,5,6,7,8,9,10,11,12,13,14,15,16,17,18,19,20]⟩] (by kernel_rfl) (by kernel_rfl) ?_
    refine DRQ.v rfl rfl rfl (o_move rfl) ?_
    refine DRQ.v rfl rfl rfl (o_move rfl) ?_
    refine DRQ.v rfl rfl rfl (o_move rfl) ?_
    refine DRQ.x 2 rfl rfl rfl rfl (o_idx L44 rfl (lx rfl) rfl (by first | omega | (simp; omega)) (by first | omega | (simp; omega))) ?_
    refine DRQ.v rfl rfl rfl (o_fldq F66_0 rfl (lx rfl)) ?_
    refine DRQ.v rfl rfl rfl (o_lde S3 rfl (lx rfl) (strI rfl)) ?_
    refine DRQ.v rfl rfl rfl (o_move rfl) ?_
    refine DRQ.v rfl rfl rfl (o_move rfl) ?_
    refine DRQ.x 3 rfl rfl rfl rfl (o_idx L44 rfl (lx rfl) rfl (by first | omega | (simp; omega)) (by first | omega | (simp; omega))) ?_
    refine DRQ.v rfl rfl rfl (o_fldq F66_1 rfl (lx rfl)) ?_
    refine DRQ.v rfl rfl rfl (o_lde S3 rfl (lx rfl) (strI rfl)) ?_
    refine DRQ.cs rfl rfl rfl rfl (o_sig 4 id (c28 ((nth l (i : Int)).page) ((nth l (i : Int)).bore) (by omega) (by omega)) e28 rfl rfl rfl w28 trivial r28) ?_
    refine DRQ.v rfl rfl rfl (o_idxo L24 rfl rfl rfl (by first | omega | (simp; omega)) (by first | omega | (simp; omega))) ?_
    refine DRQ.v rfl rfl rfl (o_ldoi S3 rfl rfl rfl rfl (by first | omega | (simp; omega)) (by first | omega | (simp; omega))) ?_
    refine DRQ.v rfl rfl rfl (o_move rfl) ?_
    refine DRQ.v rfl rfl rfl (o_move rfl) ?_
    refine DRQ.x 4 rfl rfl rfl rfl (o_idx L44 rfl (lx rfl) rfl (by first | omega | (simp; omega)) (by first | omega | (simp; omega))) ?_
    refine DRQ.v rfl rfl rfl (o_fldq F66_2 rfl (lx rfl)) ?_
    refine DRQ.v rfl rfl rfl (o_lde S3 rfl (lx rfl) (strI rfl)) ?_
    refine DRQ.v rfl rfl rfl (o_add rfl rfl (by first | omega | (simp; omega)) (by first | omega | (simp; omega))) ?_
    refine DRQ.v rfl rfl rfl (o_idxo L24 rfl rfl rfl (by first | omega | (simp; omega)) (by first | omega | (simp; omega))) ?_
    refine DRQ.s 1 rfl rfl rfl (o_steE2 Try.sizeOf3 rfl rfl rfl rfl eok_int rfl rfl rfl (by first | omega | (simp; omega)) (by first | omega | (simp; omega))) ?_
    refine DRQ.nil' ?_
    refine EX.blk (EX.then (WP.region ?_))
    refine WPl.v rfl (o_move rfl) ?_
    refine WPl.v rfl (o_add rfl rfl (by first | omega | (simp; omega)) (by first | omega | (simp; omega))) ?_
    refine WPl.v rfl (o_assign rfl) ?_
    refine WPl.nil ?_
    refine EX.again (i + 1) id (by first | omega | (constructor <;> omega)) (by omega) (LeR.of ⟨rfl,rfl,rfl,rfl,trivial⟩ ⟨(lx rfl),trivial⟩ ⟨rfl,trivial⟩ rfl rfl rfl rfl rfl)
  · try simp only [cnd] at hc1
    refine WP.exit (EX.exit_then (EX.exit_then (EX.exit_blk (EX.then (WP.seq (WP.region ?_))))))
    refine WPl.v rfl (o_move rfl) ?_
    refine WPl.v rfl (o_assign rfl) ?_
    refine WPl.nil (EX.then (WP.ret ?_))
    refine EX.imp (Imp.topX 1 rfl) ?_
    have he : i = l.length := by omega
    subst he
    exact EX.finO (ren [(0,1)]) rfl (.inl rfl) rfl (.tmp rfl .nil) rfl (by simp [SV.res,El.res,At.res,keys]) ⟨lx rfl,trivial⟩ ⟨rfl,trivial⟩ rfl rfl (by simp) (by simp)
theorem w16 {c : List Int} : ∀ x ∈ ([.e (.a (.q 0))] : List SV),x.res (keys (α := Pred) [(0,PL EP.int (c))]) := by simp [SV.res,El.res,At.res,keys]
theorem r16 {c : List Int} : SV.res (keys (α := Pred) [(0,PL EPl (setOf c))]) (.e (.a (.q 0))) := by simp [SV.res,El.res,At.res,keys]
theorem w16F {c : List Int} : ∀ x ∈ ([.e (.a (.q 0))] : List SV),x.res (keys (α := Pred) [(0,PL EP.int (c))]) := by simp [SV.res,El.res,At.res,keys]
set_option maxHeartbeats 4000000 in
theorem c16F (c : List Int) (hl : c.length ≤ 1000) : SigF Try.prog 16 [.e (.a (.q 0))] [(0,PL EP.int (c))] (.e (.a (.q 0))) [(0,PL EPl (setOf c))] := by
  refine SigF.intro Try.func16 rfl 1 [(0,.e (.a (.q 0)))] rfl w16F rfl rfl fun I w => ?_
  refine WP.seq (WP.region ?_)
  refine WPl.v rfl (o_assign rfl) ?_
  refine WPl.nil (EX.then (WP.seq (WP.region ?_)))
  refine WPl.v rfl (o_assign rfl) ?_
  refine WPl.imp (Imp.namo EPl 1 2 66 rfl rfl) ?_
  refine WPl.imp (Imp.swF 3 1 rfl (lx rfl)) ?_
  refine WPl.nil (EX.then (WP.seq (WP.seq (WP.region ?_))))
  refine WPl.v rfl (o_assign rfl) ?_
  refine WPl.nil (EX.then (WP.block ?_))
  refine WP.loop (Gh := Nat) (fun i => ⟨2,[(0,.e (.a (.q 0))),(2,.e (.a (.v (.slice none 0 0)))),(3,.e (.a (.q 1))),(4,.i ((i : Int)))],[(0,PL EP.int (c))],[(1,.own 66 EPl.size (setTo c i).length (RP EPl (setTo c i)))],[],[]⟩) (fun i => i ≤ c.length) (fun i => c.length - i) (0) id ?_ (LeR.of ⟨rfl,rfl,rfl,rfl,trivial⟩ ⟨(lx rfl),trivial⟩ ⟨rfl,trivial⟩ rfl rfl rfl rfl rfl) ?_
  · first | trivial | omega | (constructor <;> omega) | simp
  intro i hφ
  have hi : i ≤ c.length := hφ
  refine WP.seq (WP.seq (WP.region ?_))
  refine WPl.v rfl (o_move rfl) ?_
  refine WPl.v rfl (o_move rfl) ?_
  refine WPl.v rfl (o_lenq L24 rfl (lx rfl)) ?_
  refine WPl.v rfl (o_lss rfl rfl) ?_
  refine WPl.nil (EX.then ?_)
  refine WP.cond rfl (fun hc1 => ?_) (fun hc1 => ?_)
  · try simp only [cnd] at hc1
    refine WP.skip (EX.then (WP.seq (WP.block (WP.seq (WP.region ?_)))))
    refine WPl.v rfl (o_move rfl) ?_
    refine WPl.v rfl (o_move rfl) ?_
    refine WPl.x 2 3 rfl rfl rfl (o_idx L24 rfl (lx rfl) rfl (by first | omega | (simp; omega)) (by first | omega | (simp; omega))) ?_
    refine WPl.v rfl (o_ldq S3 rfl (lx rfl) intc) ?_
    refine WPl.v rfl (o_gtr rfl rfl) ?_
    refine WPl.nil (EX.then ?_)
    refine WP.cond rfl (fun hc2 => ?_) (fun hc2 => ?_)
    · try simp only [cnd] at hc2
      refine WP.region ?_
      refine WPl.v rfl (o_move rfl) ?_
      refine WPl.v rfl (o_move rfl) ?_
      refine WPl.v rfl (o_quo rfl rfl (by first | omega | (simp; omega)) (by first | omega | (simp; omega)) (by first | omega | (simp; omega))) ?_
      refine WPl.v rfl (o_move rfl) ?_
      refine WPl.v rfl (o_rem rfl rfl (by first | omega | (simp; omega)) (by first | omega | (simp; omega))) ?_
      refine WPl.v rfl (o_move rfl) ?_
      refine WPl.v rfl (o_move rfl) ?_
      refine WPl.x 3 4 rfl rfl rfl (o_idx L24 rfl (lx rfl) rfl (by first | omega | (simp; omega)) (by first | omega | (simp; omega))) ?_
      refine WPl.v rfl (o_ldq S3 rfl (lx rfl) intc) ?_
      refine WPl.v rfl (o_build B66 rfl ⟨rfl,rfl,rfl,trivial⟩ rfl rfl) ?_
      refine WPl.l 4 5 rfl rfl rfl (o_bsl (E := EPl) (l := [(⟨(i : Int).tdiv 3,(i : Int) % 3,nth c (i : Int)⟩ : Plate)]) R44 rfl rfl (.cons (⟨rfl,rfl,rfl,trivial⟩) rfl (eok_str ⟨rfl,rfl,rfl,trivial⟩) (.nil)) rfl rfl) ?_
      refine WPl.u1 (k := 5) (m := 6) rfl rfl rfl (o_appo R44 EP.str_one rfl rfl rfl rfl (by have := setTo_len c i; first | omega | (simp; omega)) (by have := setTo_len c i; first | omega | (simp; omega))) ?_
      refine WPl.v rfl (o_assign rfl) ?_
      refine WPl.nil (EX.blk (EX.then (WP.region ?_)))
      refine WPl.v rfl (o_move rfl) ?_
      refine WPl.v rfl (o_add rfl rfl (by first | omega | (simp; omega)) (by first | omega | (simp; omega))) ?_
      refine WPl.v rfl (o_assign rfl) ?_
      refine WPl.nil ?_
      refine EX.again (i + 1) (ren [(1,5)]) (by first | omega | (constructor <;> omega)) (by omega) (LeR.of ⟨rfl,rfl,rfl,rfl,trivial⟩ ⟨(lx rfl),trivial⟩ ⟨(congrArg (fun z => some (Ent.own 66 EPl.size (List.length z) (RP EPl z))) (show ((setTo c i) ++ [(⟨(i : Int).tdiv 3,(i : Int) % 3,nth c (i : Int)⟩ : Plate)]) = ((fun i => setTo c i) (i + 1)) from by dsimp only; simp only [setTo]; rw [if_pos hc2])),trivial⟩ rfl rfl rfl rfl rfl)
    · try simp only [cnd] at hc2
      refine WP.skip (EX.blk (EX.then (WP.region ?_)))
      refine WPl.v rfl (o_move rfl) ?_
      refine WPl.v rfl (o_add rfl rfl (by first | omega | (simp; omega)) (by first | omega | (simp; omega))) ?_
      refine WPl.v rfl (o_assign rfl) ?_
      refine WPl.nil ?_
      refine EX.again (i + 1) id (by first | omega | (constructor <;> omega)) (by omega) (LeR.of ⟨rfl,rfl,rfl,rfl,trivial⟩ ⟨(lx rfl),trivial⟩ ⟨(congrArg (fun z => some (Ent.own 66 EPl.size (List.length z) (RP EPl z))) (show (setTo c i) = ((fun i => setTo c i) (i + 1)) from by dsimp only; simp only [setTo]; rw [if_neg hc2])),trivial⟩ rfl rfl rfl rfl rfl)
  · try simp only [cnd] at hc1
    refine WP.exit (EX.exit_then (EX.exit_then (EX.exit_blk (EX.then (WP.seq (WP.region ?_))))))
    refine WPl.v rfl (o_move rfl) ?_
    refine WPl.v rfl (o_assign rfl) ?_
    refine WPl.nil (EX.then (WP.ret ?_))
    refine EX.imp (Imp.frzf (E := EPl) (l := setTo c i) 1 (str_free rfl) rfl rfl) ?_
    have he : i = c.length := by omega
    subst he
    exact EX.fin (ren [(0,1)]) (.inl rfl) rfl (.tmp rfl .nil) rfl (by simp [SV.res,El.res,At.res,keys]) ⟨(lx rfl),trivial⟩ (by simp) (by simp)
theorem w99 {p : List (List Int)} : ∀ x ∈ ([.e (.a (.q 0))] : List SV),x.res (keys (α := Pred) [(0,PL (EP.sl EP.int) (p))]) := by simp [SV.res,El.res,At.res,keys]
theorem r99 {p : List (List Int)} : SV.res (keys (α := Pred) [(0,PL (EP.sl EP.int) (p))]) (.e (.a (.q 0))) := by simp [SV.res,El.res,At.res,keys]
set_option maxHeartbeats 4000000 in
theorem c99 (p : List (List Int)) (hl : p.length ≤ 1000) (hr : ∀ i : Nat,i < p.length → (nth p (i : Int)).length ≤ 1000) : Sig Try.prog 99 [.e (.a (.q 0))] [(0,PL (EP.sl EP.int) (p))] (.e (.a (.q 0))) [(0,PL (EP.sl EP.int) (p))] := by
  refine Sig.intro Try.func99 rfl 1 [(0,.e (.a (.q 0)))] rfl w99 rfl rfl fun I w => ?_
  refine WP.seq (WP.region ?_)
  refine WPl.v rfl (o_assign rfl) ?_
  refine WPl.nil (EX.then (WP.seq (WP.region ?_)))
  refine WPl.v rfl (o_assign rfl) ?_
  refine WPl.imp (Imp.namo (EP.sl EP.int) 1 2 24 rfl rfl) ?_
  refine WPl.imp (Imp.swF 3 1 rfl (lx rfl)) ?_
  refine WPl.nil (EX.then (WP.seq (WP.seq (WP.region ?_))))
  refine WPl.v rfl (o_assign rfl) ?_
  refine WPl.nil (EX.then (WP.block ?_))
  refine WP.loop (Gh := Nat) (fun i => ⟨2,[(0,.e (.a (.q 0))),(2,.e (.a (.v (.slice none 0 0)))),(3,.e (.a (.q 1))),(4,.i ((i : Int)))],[(0,PL (EP.sl EP.int) (p))],[(1,.own 24 (EP.sl EP.int).size (p.take i).length (RP (EP.sl EP.int) (p.take i)))],[],[]⟩) (fun i => i ≤ p.length) (fun i => p.length - i) (0) id ?_ (LeR.of ⟨rfl,rfl,rfl,rfl,trivial⟩ ⟨(lx rfl),trivial⟩ ⟨(congrArg (fun z => some (Ent.own 24 (EP.sl EP.int).size (List.length z) (RP (EP.sl EP.int) z))) (show ([]) = ((fun i => p.take i) 0) from by simp)),trivial⟩ rfl rfl rfl rfl rfl) ?_
  · first | trivial | omega | (constructor <;> omega) | simp
  intro i hφ
  have hi : i ≤ p.length := hφ
  refine WP.seq (WP.seq (WP.region ?_))
  refine WPl.v rfl (o_move rfl) ?_
  refine WPl.v rfl (o_move rfl) ?_
  refine WPl.v rfl (o_lenq L27 rfl (lx rfl)) ?_
  refine WPl.v rfl (o_lss rfl rfl) ?_
  refine WPl.nil (EX.then ?_)
  refine WP.cond rfl (fun hc1 => ?_) (fun hc1 => ?_)
  · try simp only [cnd] at hc1
    refine WP.skip (EX.then (WP.seq (WP.block (WP.region ?_))))
    refine WPl.v rfl (o_move rfl) ?_
    refine WPl.l 2 3 rfl rfl rfl (o_bsl (E := EP.int) (l := []) R24 rfl rfl (.nil) rfl rfl) ?_
    refine WPl.v rfl (o_move rfl) ?_
    refine WPl.v rfl (o_move rfl) ?_
    refine WPl.x 3 4 rfl rfl rfl (o_idx L27 rfl (lx rfl) rfl (by first | omega | (simp; omega)) (by first | omega | (simp; omega))) ?_
    refine WPl.x 4 5 rfl rfl rfl (o_ldqx S24 rfl (lx rfl) slx) ?_
    refine WPl.u1 (k := 5) (m := 6) rfl rfl rfl (OpG.settle1 (.inl rfl) rfl (o_apps R24 EP.int_one rfl rfl rfl (lx rfl) (by have := hr i (by omega); simp; omega) (by have := hr i (by omega); simp; omega))) ?_
    refine WPl.l 6 7 rfl rfl rfl (o_bsl (E := (EP.sl EP.int)) (l := [[] ++ (nth p (i : Int))]) R27 rfl rfl (.cons ((.inl ⟨_,(lx rfl),PL.one⟩)) rfl (eok_sl (lx rfl)) (.nil)) rfl rfl) ?_
    refine WPl.u1 (k := 7) (m := 8) rfl rfl rfl (o_appo R27 EP.sl_one rfl rfl rfl rfl (by simp; omega) (by simp; omega)) ?_
    refine WPl.v rfl (o_assign rfl) ?_
    refine WPl.nil (EX.blk (EX.then (WP.region ?_)))
    refine WPl.v rfl (o_move rfl) ?_
    refine WPl.v rfl (o_add rfl rfl (by first | omega | (simp; omega)) (by first | omega | (simp; omega))) ?_
    refine WPl.v rfl (o_assign rfl) ?_
    refine WPl.nil ?_
    refine EX.again (i + 1) (ren [(1,7)]) (by first | omega | (constructor <;> omega)) (by omega) (LeR.of ⟨rfl,rfl,rfl,rfl,trivial⟩ ⟨(lx rfl),trivial⟩ ⟨(congrArg (fun z => some (Ent.own 24 (EP.sl EP.int).size (List.length z) (RP (EP.sl EP.int) z))) (show ((p.take i) ++ [[] ++ (nth p (i : Int))]) = ((fun i => p.take i) (i + 1)) from by dsimp only; rw [List.nil_append]; exact take_snoc (by omega))),trivial⟩ rfl rfl rfl rfl rfl)
  · try simp only [cnd] at hc1
    refine WP.exit (EX.exit_then (EX.exit_then (EX.exit_blk (EX.then (WP.seq (WP.region ?_))))))
    refine WPl.v rfl (o_move rfl) ?_
    refine WPl.v rfl (o_assign rfl) ?_
    refine WPl.nil (EX.then (WP.ret ?_))
    refine EX.imp (Imp.frz (E := (EP.sl EP.int)) (l := p.take i) 1 rfl rfl) ?_
    have hie : i = p.length := by omega
    rw [hie,List.take_length]
    exact EX.fin (ren [(0,1)]) (.inl rfl) rfl (.tmp rfl .nil) rfl (by simp [SV.res,El.res,At.res,keys]) ⟨(lx rfl),trivial⟩ (by simp) (by simp)
theorem w18 {l : List Plate} : ∀ x ∈ ([.e (.a (.q 0))] : List SV),x.res (keys (α := Pred) [(0,PL EPl (l))]) := by simp [SV.res,El.res,At.res,keys]
theorem r18 {l : List Plate} : SV.res (keys (α := Pred) [(0,PL EPl (l))]) (.e (.a (.q 0))) := by simp [SV.res,El.res,At.res,keys]
set_option maxHeartbeats 4000000 in
theorem c18 (l : List Plate) (hl : l.length ≤ 1000) : Sig Try.prog 18 [.e (.a (.q 0))] [(0,PL EPl (l))] (.e (.a (.q 0))) [(0,PL EPl (l))] := by
  refine Sig.intro Try.func18 rfl 1 [(0,.e (.a (.q 0)))] rfl w18 rfl rfl fun I w => ?_
  refine WP.seq (WP.region ?_)
  refine WPl.v rfl (o_assign rfl) ?_
  refine WPl.nil (EX.then (WP.seq (WP.region ?_)))
  refine WPl.l 1 2 rfl rfl rfl (o_bsl (E := EPl) (l := []) R44 rfl rfl (.nil) rfl rfl) ?_
  refine WPl.v rfl (o_move rfl) ?_
  refine WPl.u1 (k := 2) (m := 3) rfl rfl rfl (o_apps R44 EP.str_one rfl rfl rfl (lx rfl) (by simp; omega) (by simp; omega)) ?_
  refine WPl.v rfl (o_assign rfl) ?_
  refine WPl.nil (EX.then (WP.ret ?_))
  refine EX.imp (Imp.frz (E := EPl) (l := [] ++ l) 2 rfl rfl) ?_
  exact EX.fin (ren [(0,2)]) (.inl rfl) rfl (.tmp rfl .nil) rfl r18 ⟨(lx rfl),trivial⟩ (by simp) (by simp)
theorem w98 {h : Hall} : ∀ x ∈ ([.e (.g [.q 0,.q 1,.q 2,ai (h.change)])] : List SV),x.res (keys (α := Pred) [(0,PL ETm (h.machs)),(1,PL EBd (h.buns)),(2,PL EP.int (h.trains))]) := by simp [SV.res,El.res,At.res,keys]
theorem r98 {h : Hall} : SV.res (keys (α := Pred) [(0,PL ETm (h.machs)),(1,PL EBd (h.buns)),(2,PL EP.int (h.trains))]) (.e (.g [.q 0,.q 1,.q 2,ai (h.change)])) := by simp [SV.res,El.res,At.res,keys]
set_option maxHeartbeats 4000000 in
theorem c98 (h : Hall) (hm : h.Small) : Sig Try.prog 98 [.e (.g [.q 0,.q 1,.q 2,ai (h.change)])] [(0,PL ETm (h.machs)),(1,PL EBd (h.buns)),(2,PL EP.int (h.trains))] (.e (.g [.q 0,.q 1,.q 2,ai (h.change)])) [(0,PL ETm (h.machs)),(1,PL EBd (h.buns)),(2,PL EP.int (h.trains))] := by
  have hm1 := hm.m
  have hm2 := hm.b
  have hm3 := hm.t
  refine Sig.intro Try.func98 rfl 3 [(0,.e (.g [.q 0,.q 1,.q 2,ai (h.change)]))] rfl w98 rfl rfl fun I w => ?_
  refine WP.seq (WP.region ?_)
  refine WPl.l 3 4 rfl rfl rfl (o_boxg rfl) ?_
  refine WPl.l 4 5 rfl rfl rfl (o_alloc Z26) ?_
  refine WPl.nil (EX.then (WP.seq ?_))
  refine WP.draw (nf := 11) [⟨[4,5,7,8,9,11,12,13,15,16],[7,9],[5],[5],[]⟩,⟨[3,7,8,9,11,12,13,15,16],[5,7,9],[],[],[]⟩,⟨[3,7,8,9,11,12,13,15,16],[5,7,9],[],[],[1]⟩,⟨[7,8,9,11,12,13,15,16],[7,9],[6],[6,5],[0,1,2]⟩,⟨[3,4,5,6,8,9,11,12,13,15,16],[5,6,9],[7],[7],[]⟩,⟨[3,4,5,6,7,11,12,13,15,16],[5,6,7,9],[],[],[]⟩,⟨[3,4,5,6,7,11,12,13,15,16],[5,6,7,9],[],[],[5]⟩,⟨[11,12,13,15,16],[9],[8],[8,7],[0,1,2,3,4,5,6]⟩,⟨[3,4,5,6,7,8,9,10,12,13,15,16],[5,6,7,8],[9],[9],[]⟩,⟨[3,4,5,6,7,8,9,10,11,15,16],[5,6,7,8,9],[],[],[]⟩,⟨[3,4,5,6,7,8,9,10,11,15,16],[5,6,7,8,9],[],[],[9]⟩,⟨[15,16],[],[10],[10,9],[0,1,2,3,4,5,6,7,8,9,10]⟩,⟨[3,4,5,6,7,8,9,10,11,12,13,14],[5,6,7,8,9,10],[],[],[]⟩,⟨[3,4,5,6,7,8,9,10,11,12,13,14],[5,6,7,8,9,10],[],[],[12]⟩,⟨[],[],[],[],[0,1,2,3,4,5,6,7,8,9,10,11,12,13]⟩,⟨[],[],[],[4],[0,1,2,3,4,5,6,7,8,9,10,11,12,13,14]⟩] (by kernel_rfl) (by kernel_rfl) ?_
  refine DRQ.l 5 rfl rfl rfl rfl (o_bsl (E := ETm) (l := []) R22 rfl rfl (.nil) rfl rfl) ?_
  refine DRQ.v rfl rfl rfl (o_fldp F26_0 rfl) ?_
  refine DRQ.v rfl rfl rfl (o_ldp S22 rfl rfl rfl) ?_
  refine DRQ.l2 6 5 rfl rfl rfl rfl (o_apps R22 EP.str_one rfl rfl rfl (lx rfl) (by simp; omega) (by simp; omega)) ?_
  refine DRQ.l 7 rfl rfl rfl rfl (o_bsl (E := EBd) (l := []) R23 rfl rfl (.nil) rfl rfl) ?_
  refine DRQ.v rfl rfl rfl (o_fldp F26_1 rfl) ?_
  refine DRQ.v rfl rfl rfl (o_ldp S23 rfl rfl rfl) ?_
  refine DRQ.l2 8 7 rfl rfl rfl rfl (o_apps R23 EP.str_one rfl rfl rfl (lx rfl) (by simp; omega) (by simp; omega)) ?_
  refine DRQ.l 9 rfl rfl rfl rfl (o_bsl (E := EP.int) (l := []) R24 rfl rfl (.nil) rfl rfl) ?_
  refine DRQ.v rfl rfl rfl (o_fldp F26_2 rfl) ?_
  refine DRQ.v rfl rfl rfl (o_ldp S24 rfl rfl rfl) ?_
  refine DRQ.l2 10 9 rfl rfl rfl rfl (o_apps R24 EP.int_one rfl rfl rfl (lx rfl) (by simp; omega) (by simp; omega)) ?_
  refine DRQ.v rfl rfl rfl (o_fldp F26_3 rfl) ?_
  refine DRQ.v rfl rfl rfl (o_ldp S3 rfl rfl rfl) ?_
  refine DRQ.v rfl rfl rfl (o_build B26 rfl ⟨(.inr ⟨_,_,_,_,rfl⟩),(.inr ⟨_,_,_,_,rfl⟩),(.inr ⟨_,_,_,_,rfl⟩),rfl,trivial⟩ rfl rfl) ?_
  refine DRQ.s 4 rfl rfl rfl (o_stag G26 rfl rfl rfl ⟨(.inr ⟨_,_,_,_,rfl⟩),(.inr ⟨_,_,_,_,rfl⟩),(.inr ⟨_,_,_,_,rfl⟩),rfl,trivial⟩ rfl rfl) ?_
  refine DRQ.nil' ?_
  refine EX.then (WP.ret ?_)
  refine EX.imp (Imp.frz (E := ETm) (l := [] ++ h.machs) 6 rfl rfl) ?_
  refine EX.imp (Imp.frz (E := EBd) (l := [] ++ h.buns) 8 rfl rfl) ?_
  refine EX.imp (Imp.frz (E := EP.int) (l := [] ++ h.trains) 10 rfl rfl) ?_
  exact EX.fin (ren [(0,6),(1,8),(2,10)]) (.inl rfl) rfl (.cellg G26 rfl rfl rfl (.nil)) rfl r98 ⟨(lx rfl),(lx rfl),(lx rfl),trivial⟩ (by simp) (by simp)
theorem w78O {h : Hall} : ∀ x ∈ ([.e (.g [.q 0,.q 1,.q 2,ai (h.change),.q 3,.q 4])] : List SV),x.res (keys (α := Pred) [(0,PL ETm (h.machs)),(1,PL EBd (h.buns)),(2,PL EP.int (h.trains)),(3,PL EP.int (h.bores)),(4,PL (EP.sl EP.int) (h.eds))]) := by simp [SV.res,El.res,At.res,keys]
theorem r78O {h : Hall} : SV.res (keys (α := Pred) [(0,PL ETm (h.machs)),(1,PL EBd (h.buns)),(2,PL EP.int (h.trains)),(3,Pred.top),(4,PL (EP.sl EP.int) (h.eds))]) (.e (.g [.q 0,.q 1,.q 2,ai (h.change),.q 3,.q 4])) := by simp [SV.res,El.res,At.res,keys]
set_option maxHeartbeats 4000000 in
theorem c78O (h : Hall) (hm : h.Small) : SigO Try.prog 78 [.e (.g [.q 0,.q 1,.q 2,ai (h.change),.q 3,.q 4])] [(0,PL ETm (h.machs)),(1,PL EBd (h.buns)),(2,PL EP.int (h.trains)),(3,PL EP.int (h.bores)),(4,PL (EP.sl EP.int) (h.eds))] (.e (.g [.q 0,.q 1,.q 2,ai (h.change),.q 3,.q 4])) [(0,PL ETm (h.machs)),(1,PL EBd (h.buns)),(2,PL EP.int (h.trains)),(3,Pred.top),(4,PL (EP.sl EP.int) (h.eds))] [(3,.own 3 EP.int.size ([] ++ h.bores).length (RP EP.int ([] ++ h.bores)))] := by
  have hm4 := hm.o
  have hm5 := hm.e
  have hm6 := hm.p
  refine SigO.intro Try.func78 rfl 5 [(0,.e (.g [.q 0,.q 1,.q 2,ai (h.change),.q 3,.q 4]))] rfl w78O rfl rfl fun I w => ?_
  refine WP.seq (WP.region ?_)
  refine WPl.l 5 6 rfl rfl rfl (o_boxg rfl) ?_
  refine WPl.l 6 7 rfl rfl rfl (o_alloc Z29) ?_
  refine WPl.nil (EX.then (WP.seq ?_))
  refine WP.draw (nf := 13) [⟨[6,7,8,10,11],[10],[],[],[]⟩,⟨[6,7,8,10,11],[10],[],[],[0]⟩,⟨[6,7,8,10,11],[10],[7,8,9],[7,8,9],[0,1]⟩,⟨[3,4,5,7,8,10,11],[7,8,9],[10],[10],[]⟩,⟨[3,4,5,6,10,11],[7,8,9,10],[],[],[]⟩,⟨[3,4,5,6,10,11],[7,8,9,10],[],[],[4]⟩,⟨[10,11],[],[11],[11,10],[0,1,2,3,4,5]⟩,⟨[3,4,5,6,7,8,9],[7,8,9,10,11],[],[],[]⟩,⟨[3,4,5,6,7,8,9],[7,8,9,10,11],[],[],[7]⟩,⟨[],[],[12],[12],[0,1,2,3,4,5,6,7,8]⟩,⟨[],[],[],[],[0,1,2,3,4,5,6,7,8,9]⟩,⟨[],[],[],[6],[0,1,2,3,4,5,6,7,8,9,10]⟩] (by kernel_rfl) (by kernel_rfl) ?_
  refine DRQ.v rfl rfl rfl (o_fldp F29_0 rfl) ?_
  refine DRQ.v rfl rfl rfl (o_ldpg G26 rfl rfl rfl) ?_
  refine DRQ.cs rfl rfl rfl rfl (o_sig 7 (ren [(0,0),(1,1),(2,2)]) (c98 h hm) e98 rfl rfl rfl w98 ⟨(lx rfl),(lx rfl),(lx rfl),trivial⟩ r98) ?_
  refine DRQ.l 10 rfl rfl rfl rfl (o_bsl (E := EP.int) (l := []) R24 rfl rfl (.nil) rfl rfl) ?_
  refine DRQ.v rfl rfl rfl (o_fldp F29_1 rfl) ?_
  refine DRQ.v rfl rfl rfl (o_ldp S24 rfl rfl rfl) ?_
  refine DRQ.l2 11 10 rfl rfl rfl rfl (o_apps R24 EP.int_one rfl rfl rfl (lx rfl) (by simp; omega) (by simp; omega)) ?_
  refine DRQ.v rfl rfl rfl (o_fldp F29_2 rfl) ?_
  refine DRQ.v rfl rfl rfl (o_ldp S27 rfl rfl rfl) ?_
  refine DRQ.cs rfl rfl rfl rfl (o_sig 12 (ren [(0,4)]) (c99 h.eds (by omega) (fun i hi => by have := hm6 i hi; omega)) e99 rfl rfl rfl w99 ⟨(lx rfl),trivial⟩ r99) ?_
  refine DRQ.v rfl rfl rfl (o_build B29 rfl ⟨(.inr ⟨_,_,_,_,rfl⟩),(.inl ⟨_,(lx rfl),PL.one⟩),trivial⟩ rfl rfl) ?_
  refine DRQ.s 6 rfl rfl rfl (o_stag G29 rfl rfl rfl ⟨(.inl ⟨_,(lx rfl),PL.one⟩),(.inl ⟨_,(lx rfl),PL.one⟩),(.inl ⟨_,(lx rfl),PL.one⟩),rfl,(.inr ⟨_,_,_,_,rfl⟩),(.inl ⟨_,(lx rfl),PL.one⟩),trivial⟩ rfl rfl) ?_
  refine DRQ.nil' ?_
  refine EX.then (WP.ret ?_)
  refine EX.imp (Imp.topX 11 rfl) ?_
  exact EX.finO (ren [(0,7),(1,8),(2,9),(3,11),(4,12)]) rfl (.inl rfl) rfl (.cellg G29 rfl rfl rfl (.nil)) rfl r78O ⟨(lx rfl),(lx rfl),(lx rfl),lx rfl,(lx rfl),trivial⟩ ⟨rfl,trivial⟩ rfl rfl (by simp) (by simp)
theorem w47 {p : List (List Int)} : ∀ x ∈ ([.e (.a (.q 0))] : List SV),x.res (keys (α := Pred) [(0,PL (EP.sl EP.int) (p))]) := by simp [SV.res,El.res,At.res,keys]
theorem r47 {p : List (List Int)} : SV.res (keys (α := Pred) []) (.b (longP p)) := by simp [SV.res,El.res,At.res,keys]
set_option maxHeartbeats 4000000 in
theorem c47 (p : List (List Int))  : Sig Try.prog 47 [.e (.a (.q 0))] [(0,PL (EP.sl EP.int) (p))] (.b (longP p)) [] := by
  refine Sig.intro Try.func47 rfl 1 [(0,.e (.a (.q 0)))] rfl w47 rfl rfl fun I w => ?_
  refine WP.seq (WP.region ?_)
  refine WPl.v rfl (o_assign rfl) ?_
  refine WPl.nil (EX.then (WP.seq (WP.seq (WP.region ?_))))
  refine WPl.v rfl (o_move rfl) ?_
  refine WPl.v rfl (o_lenq L27 rfl (lx rfl)) ?_
  refine WPl.v rfl (o_gtr rfl rfl) ?_
  refine WPl.nil (EX.then ?_)
  refine WP.cond rfl (fun hc1 => ?_) (fun hc1 => ?_)
  · try simp only [cnd] at hc1
    refine WP.seq (WP.region ?_)
    refine WPl.v rfl (o_assign rfl) ?_
    refine WPl.nil (EX.then (WP.ret (EX.ret_then ?_)))
    rw [show longP p = true from by unfold longP; rw [decide_eq_true hc1]; rfl]
    exact EX.fin id (.inl rfl) rfl (.tmp rfl .nil) rfl (by simp [SV.res,El.res,At.res,keys]) trivial (by simp) (by simp)
  · try simp only [cnd] at hc1
    refine WP.skip (EX.then (WP.seq (WP.seq (WP.region ?_))))
    refine WPl.v rfl (o_assign rfl) ?_
    refine WPl.nil (EX.then (WP.block ?_))
    refine WP.loop (Gh := Nat) (fun i => ⟨1,[(0,.e (.a (.q 0))),(2,.b (false)),(3,.i ((i : Int)))],[(0,PL (EP.sl EP.int) (p))],[],[],[]⟩) (fun i => i ≤ p.length ∧ allI (fun i => !decide (40 < ((nth p i).length : Int))) i = true) (fun i => p.length - i) (0) id ?_ (LeR.of ⟨rfl,rfl,rfl,trivial⟩ ⟨(lx rfl),trivial⟩ trivial rfl rfl rfl rfl rfl) ?_
    · exact ⟨by omega,rfl⟩
    intro i hφ
    have hi : i ≤ p.length := hφ.1
    have hall := hφ.2
    refine WP.seq (WP.seq (WP.region ?_))
    refine WPl.v rfl (o_move rfl) ?_
    refine WPl.v rfl (o_move rfl) ?_
    refine WPl.v rfl (o_lenq L27 rfl (lx rfl)) ?_
    refine WPl.v rfl (o_lss rfl rfl) ?_
    refine WPl.nil (EX.then ?_)
    refine WP.cond rfl (fun hc2 => ?_) (fun hc2 => ?_)
    · try simp only [cnd] at hc2
      refine WP.skip (EX.then (WP.seq (WP.block (WP.seq (WP.region ?_)))))
      refine WPl.v rfl (o_move rfl) ?_
      refine WPl.v rfl (o_move rfl) ?_
      refine WPl.x 1 2 rfl rfl rfl (o_idx L27 rfl (lx rfl) rfl (by first | omega | (simp; omega)) (by first | omega | (simp; omega))) ?_
      refine WPl.x 2 3 rfl rfl rfl (o_ldqx S24 rfl (lx rfl) slx) ?_
      refine WPl.v rfl (o_lenq L24 rfl (lx rfl)) ?_
      refine WPl.v rfl (o_gtr rfl rfl) ?_
      refine WPl.nil (EX.then ?_)
      refine WP.cond rfl (fun hc3 => ?_) (fun hc3 => ?_)
      · try simp only [cnd] at hc3
        refine WP.seq (WP.region ?_)
        refine WPl.v rfl (o_assign rfl) ?_
        refine WPl.nil (EX.then (WP.ret (EX.ret_blk (EX.ret_then (EX.ret_then (EX.ret_blk (EX.ret_then ?_)))))))
        rw [show longP p = true from by unfold longP; rw [not_allI (show i < p.length by omega) (by simp only [Bool.not_eq_false',decide_eq_true_eq]; exact hc3)]; simp]
        exact EX.fin id (.inl rfl) rfl (.tmp rfl .nil) rfl (by simp [SV.res,El.res,At.res,keys]) trivial (by simp) (by simp)
      · try simp only [cnd] at hc3
        refine WP.skip (EX.blk (EX.then (WP.region ?_)))
        refine WPl.v rfl (o_move rfl) ?_
        refine WPl.v rfl (o_add rfl rfl (by first | omega | (simp; omega)) (by first | omega | (simp; omega))) ?_
        refine WPl.v rfl (o_assign rfl) ?_
        refine WPl.nil ?_
        refine EX.again (i + 1) id (by exact ⟨by omega,by simp only [allI,hall,Bool.true_and,Bool.not_eq_true',decide_eq_false_iff_not]; exact hc3⟩) (by omega) (LeR.of ⟨rfl,rfl,rfl,trivial⟩ ⟨(lx rfl),trivial⟩ trivial rfl rfl rfl rfl rfl)
    · try simp only [cnd] at hc2
      refine WP.exit (EX.exit_then (EX.exit_then (EX.exit_blk (EX.then (WP.seq (WP.region ?_))))))
      refine WPl.v rfl (o_assign rfl) ?_
      refine WPl.nil (EX.then (WP.ret ?_))
      have hie : i = p.length := by omega
      rw [show longP p = false from by unfold longP; rw [decide_eq_false (by omega),← hie,hall]; rfl]
      exact EX.fin id (.inl rfl) rfl (.tmp rfl .nil) rfl (by simp [SV.res,El.res,At.res,keys]) trivial (by simp) (by simp)
theorem w46 {h : Hall} : ∀ x ∈ ([.e (.g [.q 0,.q 1,.q 2,ai (h.change)])] : List SV),x.res (keys (α := Pred) [(0,PL ETm (h.machs)),(1,PL EBd (h.buns)),(2,PL EP.int (h.trains))]) := by simp [SV.res,El.res,At.res,keys]
theorem r46 {h : Hall} : SV.res (keys (α := Pred) []) (.b (hugeHo h)) := by simp [SV.res,El.res,At.res,keys]
set_option maxHeartbeats 4000000 in
theorem c46 (h : Hall)  : Sig Try.prog 46 [.e (.g [.q 0,.q 1,.q 2,ai (h.change)])] [(0,PL ETm (h.machs)),(1,PL EBd (h.buns)),(2,PL EP.int (h.trains))] (.b (hugeHo h)) [] := by
  refine Sig.intro Try.func46 rfl 3 [(0,.e (.g [.q 0,.q 1,.q 2,ai (h.change)]))] rfl w46 rfl rfl fun I w => ?_
  refine WP.seq (WP.region ?_)
  refine WPl.l 3 4 rfl rfl rfl (o_boxg rfl) ?_
  refine WPl.v rfl (o_assign rfl) ?_
  refine WPl.nil (EX.then (WP.seq (WP.region ?_)))
  refine WPl.v rfl (o_fldp F26_0 rfl) ?_
  refine WPl.v rfl (o_ldp S22 rfl rfl rfl) ?_
  refine WPl.v rfl (o_lenq L22 rfl (lx rfl)) ?_
  refine WPl.v rfl (o_gtr rfl rfl) ?_
  refine WPl.v rfl (o_move rfl) ?_
  refine WPl.bit 4 5 (!(decide (40 < (h.machs.length : Int)))) rfl rfl ?_
  refine WPl.gv 4 rfl rfl (.plain rfl (by first | (simp; done) | simp only [Bool.not_eq_true']) rfl) (fun hb => o_fldp F26_1 rfl) ?_
  refine WPl.gv 4 rfl rfl (.plain rfl (by first | (simp; done) | simp only [Bool.not_eq_true']) rfl) (fun hb => o_ldp S23 rfl rfl rfl) ?_
  refine WPl.gv 4 rfl rfl (.plain rfl (by first | (simp; done) | simp only [Bool.not_eq_true']) rfl) (fun hb => o_lenq L23 rfl (lx rfl)) ?_
  refine WPl.gv 4 rfl rfl (.plain rfl (by first | (simp; done) | simp only [Bool.not_eq_true']) rfl) (fun hb => o_gtr rfl rfl) ?_
  refine WPl.v rfl (o_or rfl rfl rfl (by first | (simp; done) | exact fun h => by rw [h]; rfl | exact fun h => Bool.and_eq_true_iff.2 ⟨hb,by rw [h]; rfl⟩ | simp_all)) ?_
  refine WPl.v rfl (o_move rfl) ?_
  refine WPl.bit 5 6 (!((decide (40 < (h.machs.length : Int))) || (decide (40 < (h.buns.length : Int))))) rfl rfl ?_
  refine WPl.gv 5 rfl rfl (.plain rfl (by first | (simp; done) | simp only [Bool.not_eq_true']) rfl) (fun hb => o_fldp F26_2 rfl) ?_
  refine WPl.gv 5 rfl rfl (.plain rfl (by first | (simp; done) | simp only [Bool.not_eq_true']) rfl) (fun hb => o_ldp S24 rfl rfl rfl) ?_
  refine WPl.gv 5 rfl rfl (.plain rfl (by first | (simp; done) | simp only [Bool.not_eq_true']) rfl) (fun hb => o_lenq L24 rfl (lx rfl)) ?_
  refine WPl.gv 5 rfl rfl (.plain rfl (by first | (simp; done) | simp only [Bool.not_eq_true']) rfl) (fun hb => o_gtr rfl rfl) ?_
  refine WPl.v rfl (o_or rfl rfl rfl (by first | (simp; done) | exact fun h => by rw [h]; rfl | exact fun h => Bool.and_eq_true_iff.2 ⟨hb,by rw [h]; rfl⟩ | simp_all)) ?_
  refine WPl.v rfl (o_assign rfl) ?_
  refine WPl.nil (EX.then (WP.ret ?_))
  exact EX.fin id (.inl rfl) rfl (.tmp rfl .nil) rfl r46 trivial (by simp) (by simp)
theorem w21 {h : Hall} : ∀ x ∈ ([.e (.g [.q 0,.q 1,.q 2,ai (h.change),.q 3,.q 4])] : List SV),x.res (keys (α := Pred) [(0,PL ETm (h.machs)),(1,PL EBd (h.buns)),(2,PL EP.int (h.trains)),(3,PL EP.int (h.bores)),(4,PL (EP.sl EP.int) (h.eds))]) := by simp [SV.res,El.res,At.res,keys]
theorem r21 {h : Hall} : SV.res (keys (α := Pred) []) (.b (hugeH h)) := by simp [SV.res,El.res,At.res,keys]
set_option maxHeartbeats 4000000 in
theorem c21 (h : Hall)  : Sig Try.prog 21 [.e (.g [.q 0,.q 1,.q 2,ai (h.change),.q 3,.q 4])] [(0,PL ETm (h.machs)),(1,PL EBd (h.buns)),(2,PL EP.int (h.trains)),(3,PL EP.int (h.bores)),(4,PL (EP.sl EP.int) (h.eds))] (.b (hugeH h)) [] := by
  refine Sig.intro Try.func21 rfl 5 [(0,.e (.g [.q 0,.q 1,.q 2,ai (h.change),.q 3,.q 4]))] rfl w21 rfl rfl fun I w => ?_
  refine WP.seq (WP.region ?_)
  refine WPl.l 5 6 rfl rfl rfl (o_boxg rfl) ?_
  refine WPl.v rfl (o_assign rfl) ?_
  refine WPl.nil (EX.then (WP.seq (WP.region ?_)))
  refine WPl.v rfl (o_fldp F29_0 rfl) ?_
  refine WPl.v rfl (o_ldpg G26 rfl rfl rfl) ?_
  refine WPl.cs 6 rfl rfl rfl rfl (o_sig 6 (ren [(0,0),(1,1),(2,2)]) (c46 h) e46 rfl rfl rfl w46 ⟨(lx rfl),(lx rfl),(lx rfl),trivial⟩ r46) ?_
  refine WPl.v rfl (o_move rfl) ?_
  refine WPl.bit 6 7 (!(hugeHo h)) rfl rfl ?_
  refine WPl.gv 6 rfl rfl (.plain rfl (by first | (simp; done) | simp only [Bool.not_eq_true']) rfl) (fun hb => o_fldp F29_1 rfl) ?_
  refine WPl.gv 6 rfl rfl (.plain rfl (by first | (simp; done) | simp only [Bool.not_eq_true']) rfl) (fun hb => o_ldp S24 rfl rfl rfl) ?_
  refine WPl.gv 6 rfl rfl (.plain rfl (by first | (simp; done) | simp only [Bool.not_eq_true']) rfl) (fun hb => o_lenq L24 rfl (lx rfl)) ?_
  refine WPl.gv 6 rfl rfl (.plain rfl (by first | (simp; done) | simp only [Bool.not_eq_true']) rfl) (fun hb => o_gtr rfl rfl) ?_
  refine WPl.v rfl (o_or rfl rfl rfl (by first | (simp; done) | exact fun h => by rw [h]; rfl | exact fun h => Bool.and_eq_true_iff.2 ⟨hb,by rw [h]; rfl⟩ | simp_all)) ?_
  refine WPl.v rfl (o_move rfl) ?_
  refine WPl.bit 7 8 (!((hugeHo h) || (decide (40 < (h.bores.length : Int))))) rfl rfl ?_
  refine WPl.gv 7 rfl rfl (.plain rfl (by first | (simp; done) | simp only [Bool.not_eq_true']) rfl) (fun hb => o_fldp F29_2 rfl) ?_
  refine WPl.gv 7 rfl rfl (.plain rfl (by first | (simp; done) | simp only [Bool.not_eq_true']) rfl) (fun hb => o_ldp S27 rfl rfl rfl) ?_
  refine WPl.gc0 7 rfl rfl (.plain rfl (by first | (simp; done) | simp only [Bool.not_eq_true']) rfl) (fun hb => o_sig 8 (ren [(0,4)]) (c47 h.eds) e47 rfl rfl rfl w47 ⟨(lx rfl),trivial⟩ r47) ?_
  refine WPl.v rfl (o_or rfl rfl rfl (by first | (simp; done) | exact fun h => by rw [h]; rfl | exact fun h => Bool.and_eq_true_iff.2 ⟨hb,by rw [h]; rfl⟩ | simp_all)) ?_
  refine WPl.v rfl (o_assign rfl) ?_
  refine WPl.nil (EX.then (WP.ret ?_))
  exact EX.fin id (.inl rfl) rfl (.tmp rfl .nil) rfl r21 trivial (by simp) (by simp)
theorem w50 {h : Hall} {m n : Int} : ∀ x ∈ ([.e (.g [.q 0,.q 1,.q 2,ai (h.change),.q 3,.q 4]),.i (m),.i (n)] : List SV),x.res (keys (α := Pred) [(0,PL ETm (h.machs)),(1,PL EBd (h.buns)),(2,PL EP.int (h.trains)),(3,PL EP.int (h.bores)),(4,PL (EP.sl EP.int) (h.eds))]) := by simp [SV.res,El.res,At.res,keys]
theorem r50 {h : Hall} {m n : Int} : SV.res (keys (α := Pred) [(0,PL ETm (h.machs)),(1,PL EBd (h.buns)),(2,PL EP.int (h.trains)),(3,PL EP.int ((lset h.bores m (nth h.bores n)))),(4,PL (EP.sl EP.int) (h.eds))]) (.e (.g [.q 0,.q 1,.q 2,ai (h.change),.q 3,.q 4])) := by simp [SV.res,El.res,At.res,keys]
set_option maxHeartbeats 4000000 in
theorem c50 (h : Hall) (m n : Int) (hm : h.Small) (h1 : 0 ≤ m ∧ m < h.bores.length) (h2 : 0 ≤ n ∧ n < h.bores.length) : Sig Try.prog 50 [.e (.g [.q 0,.q 1,.q 2,ai (h.change),.q 3,.q 4]),.i (m),.i (n)] [(0,PL ETm (h.machs)),(1,PL EBd (h.buns)),(2,PL EP.int (h.trains)),(3,PL EP.int (h.bores)),(4,PL (EP.sl EP.int) (h.eds))] (.e (.g [.q 0,.q 1,.q 2,ai (h.change),.q 3,.q 4])) [(0,PL ETm (h.machs)),(1,PL EBd (h.buns)),(2,PL EP.int (h.trains)),(3,PL EP.int ((lset h.bores m (nth h.bores n)))),(4,PL (EP.sl EP.int) (h.eds))] := by
  refine Sig.intro Try.func50 rfl 5 [(0,.e (.g [.q 0,.q 1,.q 2,ai (h.change),.q 3,.q 4])),(1,.i (m)),(2,.i (n))] rfl w50 rfl rfl fun I w => ?_
  refine WP.seq (WP.region ?_)
  refine WPl.l 5 6 rfl rfl rfl (o_boxg rfl) ?_
  refine WPl.l 6 7 rfl rfl rfl (o_alloc Z29) ?_
  refine WPl.nil (EX.then (WP.seq (WP.region ?_)))
  refine WPl.v rfl (o_ldpa G29 rfl rfl rfl) ?_
  refine WPl.cL 12 rfl rfl rfl rfl rfl (o_sigo 7 (ren [(0,0),(1,1),(2,2),(3,3),(4,4)]) (c78O h hm) e78 rfl rfl SvsOK.rf w78O ⟨(lx rfl),(lx rfl),(lx rfl),(lx rfl),(lx rfl),trivial⟩ r78O rfl rfl) ?_
  refine WPl.l 12 13 rfl rfl rfl (o_alloc Z29) ?_
  refine WPl.s1 (o_stag G29 rfl rfl rfl ⟨(.inl ⟨_,(lx rfl),PL.one⟩),(.inl ⟨_,(lx rfl),PL.one⟩),(.inl ⟨_,(lx rfl),PL.one⟩),rfl,(.inr ⟨_,_,_,_,rfl⟩),(.inl ⟨_,(lx rfl),PL.one⟩),trivial⟩ rfl rfl) ?_
  refine WPl.nil (EX.then (WP.seq ?_))
  refine WP.draw (nf := 14) [⟨[12,13,14,15,16,17],[13],[],[],[]⟩,⟨[12,13,14,15,16,17],[13],[],[],[0]⟩,⟨[10,11,13,14,15,16,17],[13],[],[],[]⟩,⟨[10,11,12,15],[],[],[],[]⟩,⟨[10,11,12,15],[],[],[],[3]⟩,⟨[10,11,12,13,14],[],[],[],[]⟩,⟨[10,11,12],[],[13],[13],[3,4,5]⟩,⟨[10,11,12],[],[],[],[3,4,5,6]⟩,⟨[],[],[],[],[0,1,2,3,4,5,6,7]⟩,⟨[],[],[],[10],[0,1,2,3,4,5,6,7,8]⟩] (by kernel_rfl) (by kernel_rfl) ?_
  refine DRQ.v rfl rfl rfl (o_fldp F29_1 rfl) ?_
  refine DRQ.v rfl rfl rfl (o_ldp S24 rfl rfl rfl) ?_
  refine DRQ.v rfl rfl rfl (o_move rfl) ?_
  refine DRQ.v rfl rfl rfl (o_fldp F29_1 rfl) ?_
  refine DRQ.v rfl rfl rfl (o_ldp S24 rfl rfl rfl) ?_
  refine DRQ.v rfl rfl rfl (o_move rfl) ?_
  refine DRQ.x 13 rfl rfl rfl rfl (o_idx L24 rfl (lx rfl) rfl (by first | omega | (simp; omega)) (by first | omega | (simp; omega))) ?_
  refine DRQ.v rfl rfl rfl (o_ldq S3 rfl (lx rfl) intc) ?_
  refine DRQ.v rfl rfl rfl (o_idxo L24 rfl rfl rfl (by first | omega | (simp; omega)) (by first | omega | (simp; omega))) ?_
  refine DRQ.s 10 rfl rfl rfl (o_steE2 Try.sizeOf3 rfl rfl rfl rfl eok_int rfl rfl rfl (by first | omega | (simp; omega)) (by first | omega | (simp; omega))) ?_
  refine DRQ.nil' ?_
  refine EX.then (WP.seq (WP.region ?_))
  refine WPl.v rfl (o_ldpa G29 rfl rfl rfl) ?_
  refine WPl.s1 (o_stag G29 rfl rfl rfl ⟨(.inl ⟨_,(lx rfl),PL.one⟩),(.inl ⟨_,(lx rfl),PL.one⟩),(.inl ⟨_,(lx rfl),PL.one⟩),rfl,(.inr ⟨_,_,_,_,rfl⟩),(.inl ⟨_,(lx rfl),PL.one⟩),trivial⟩ rfl rfl) ?_
  refine WPl.nil (EX.then (WP.ret ?_))
  refine EX.imp (Imp.frz (E := EP.int) (l := lset ([] ++ h.bores) m (nth h.bores n)) 10 rfl rfl) ?_
  exact EX.fin (ren [(0,7),(1,8),(2,9),(3,10),(4,11)]) (.inl rfl) rfl (.cellg G29 rfl rfl rfl (.nil)) rfl r50 ⟨(lx rfl),(lx rfl),(lx rfl),(lx rfl),(lx rfl),trivial⟩ (by simp) (by simp)
theorem w25  : ∀ x ∈ ([] : List SV),x.res (keys (α := Pred) []) := by simp [SV.res,El.res,At.res,keys]
theorem r25  : SV.res (keys (α := Pred) [(0,PL ETm (exK.machs)),(1,PL EBd (exK.buns)),(2,PL EP.int (exK.trains)),(3,PL EP.int (exK.bores)),(4,PL (EP.sl EP.int) (exK.eds)),(5,PL ETm (exL.machs)),(6,PL EBd (exL.buns)),(7,PL EP.int (exL.trains)),(8,PL EP.int (exL.bores)),(9,PL (EP.sl EP.int) (exL.eds))]) (.t [.g [.q 0,.q 1,.q 2,ai (exK.change),.q 3,.q 4],.g [.q 5,.q 6,.q 7,ai (exL.change),.q 8,.q 9]]) := by simp [SV.res,El.res,At.res,keys]
set_option maxHeartbeats 4000000 in
theorem c25   : Sig Try.prog 25 [] [] (.t [.g [.q 0,.q 1,.q 2,ai (exK.change),.q 3,.q 4],.g [.q 5,.q 6,.q 7,ai (exL.change),.q 8,.q 9]]) [(0,PL ETm (exK.machs)),(1,PL EBd (exK.buns)),(2,PL EP.int (exK.trains)),(3,PL EP.int (exK.bores)),(4,PL (EP.sl EP.int) (exK.eds)),(5,PL ETm (exL.machs)),(6,PL EBd (exL.buns)),(7,PL EP.int (exL.trains)),(8,PL EP.int (exL.bores)),(9,PL (EP.sl EP.int) (exL.eds))] := by
  refine Sig.intro Try.func25 rfl 0 [] rfl w25 rfl rfl fun I w => ?_
  refine WP.seq (WP.region ?_)
  refine WPl.l 0 1 rfl rfl rfl (o_alloc Z29) ?_
  refine WPl.l 1 2 rfl rfl rfl (o_alloc Z29) ?_
  refine WPl.nil (EX.then (WP.seq (WP.region ?_)))
  refine WPl.v rfl (o_build B68 rfl ⟨rfl,rfl,trivial⟩ rfl rfl) ?_
  refine WPl.v rfl (o_build B68 rfl ⟨rfl,rfl,trivial⟩ rfl rfl) ?_
  refine WPl.x 2 3 rfl rfl rfl (OpG.settle0 (o_bsl (E := ETm) (l := [(⟨0,2,1⟩ : TM),(⟨0,2,1⟩ : TM)]) R22 rfl rfl (.cons (⟨rfl,rfl,rfl,trivial⟩) rfl (eok_str ⟨rfl,rfl,rfl,trivial⟩) (.cons (⟨rfl,rfl,rfl,trivial⟩) rfl (eok_str ⟨rfl,rfl,rfl,trivial⟩) (.nil))) rfl rfl)) ?_
  refine WPl.v rfl (o_build B58 rfl ⟨rfl,rfl,rfl,trivial⟩ rfl rfl) ?_
  refine WPl.v rfl (o_build B58 rfl ⟨rfl,rfl,rfl,trivial⟩ rfl rfl) ?_
  refine WPl.x 3 4 rfl rfl rfl (OpG.settle0 (o_bsl (E := EBd) (l := [(⟨0,2,0⟩ : TBd),(⟨1,3,1⟩ : TBd)]) R23 rfl rfl (.cons (⟨rfl,rfl,rfl,trivial⟩) rfl (eok_str ⟨rfl,rfl,rfl,trivial⟩) (.cons (⟨rfl,rfl,rfl,trivial⟩) rfl (eok_str ⟨rfl,rfl,rfl,trivial⟩) (.nil))) rfl rfl)) ?_
  refine WPl.x 4 5 rfl rfl rfl (OpG.settle0 (o_bsl (E := EP.int) (l := [5,12]) R24 rfl rfl (.cons (rfl) rfl (eok_int) (.cons (rfl) rfl (eok_int) (.nil))) rfl rfl)) ?_
  refine WPl.v rfl (o_build B26 rfl ⟨(.inl ⟨_,(lx rfl),PL.one⟩),(.inl ⟨_,(lx rfl),PL.one⟩),(.inl ⟨_,(lx rfl),PL.one⟩),rfl,trivial⟩ rfl rfl) ?_
  refine WPl.x 5 6 rfl rfl rfl (OpG.settle0 (o_bsl (E := EP.int) (l := [0,1]) R24 rfl rfl (.cons (rfl) rfl (eok_int) (.cons (rfl) rfl (eok_int) (.nil))) rfl rfl)) ?_
  refine WPl.x 6 7 rfl rfl rfl (OpG.settle0 (o_bsl (E := EP.int) (l := [0,1]) R24 rfl rfl (.cons (rfl) rfl (eok_int) (.cons (rfl) rfl (eok_int) (.nil))) rfl rfl)) ?_
  refine WPl.x 7 8 rfl rfl rfl (OpG.settle0 (o_bsl (E := EP.int) (l := [0,2]) R24 rfl rfl (.cons (rfl) rfl (eok_int) (.cons (rfl) rfl (eok_int) (.nil))) rfl rfl)) ?_
  refine WPl.x 8 9 rfl rfl rfl (OpG.settle0 (o_bsl (E := (EP.sl EP.int)) (l := [[0,1],[0,2]]) R27 rfl rfl (.cons ((.inl ⟨_,(lx rfl),PL.one⟩)) rfl (eok_sl (lx rfl)) (.cons ((.inl ⟨_,(lx rfl),PL.one⟩)) rfl (eok_sl (lx rfl)) (.nil))) rfl rfl)) ?_
  refine WPl.v rfl (o_build B29 rfl ⟨(.inl ⟨_,(lx rfl),PL.one⟩),(.inl ⟨_,(lx rfl),PL.one⟩),trivial⟩ rfl rfl) ?_
  refine WPl.s1 (o_stag G29 rfl rfl rfl ⟨(.inl ⟨_,(lx rfl),PL.one⟩),(.inl ⟨_,(lx rfl),PL.one⟩),(.inl ⟨_,(lx rfl),PL.one⟩),rfl,(.inl ⟨_,(lx rfl),PL.one⟩),(.inl ⟨_,(lx rfl),PL.one⟩),trivial⟩ rfl rfl) ?_
  refine WPl.nil (EX.then (WP.seq ?_))
  refine WP.draw (nf := 14) [⟨[16,17],[9,10,11,12,13],[],[],[]⟩,⟨[15],[],[],[],[]⟩,⟨[15],[],[9,10,11,12,13],[9,10,11,12,13],[1]⟩,⟨[],[],[],[0],[0,1,2]⟩,⟨[],[],[],[1],[0,1,2,3]⟩] (by kernel_rfl) (by kernel_rfl) ?_
  refine DRQ.v rfl rfl rfl (o_ldpa G29 rfl rfl rfl) ?_
  refine DRQ.v rfl rfl rfl (o_ldpa G29 rfl rfl rfl) ?_
  refine DRQ.cs rfl rfl rfl rfl (o_sig 9 (ren [(0,2),(1,3),(2,4),(3,5),(4,8)]) (c50 exK 1 0 exK_small (by decide) (by decide)) e50 rfl rfl rfl w50 ⟨(lx rfl),(lx rfl),(lx rfl),(lx rfl),(lx rfl),trivial⟩ r50) ?_
  refine DRQ.s 0 rfl rfl rfl (o_stag G29 rfl rfl rfl ⟨(.inl ⟨_,(lx rfl),PL.one⟩),(.inl ⟨_,(lx rfl),PL.one⟩),(.inl ⟨_,(lx rfl),PL.one⟩),rfl,(.inl ⟨_,(lx rfl),PL.one⟩),(.inl ⟨_,(lx rfl),PL.one⟩),trivial⟩ rfl rfl) ?_
  refine DRQ.s 1 rfl rfl rfl (o_stag G29 rfl rfl rfl ⟨(.inl ⟨_,(lx rfl),PL.one⟩),(.inl ⟨_,(lx rfl),PL.one⟩),(.inl ⟨_,(lx rfl),PL.one⟩),rfl,(.inl ⟨_,(lx rfl),PL.one⟩),(.inl ⟨_,(lx rfl),PL.one⟩),trivial⟩ rfl rfl) ?_
  refine DRQ.nil' ?_
  refine EX.then (WP.ret ?_)
  exact EX.fin (ren [(0,2),(1,3),(2,4),(3,5),(4,8),(5,9),(6,10),(7,11),(8,12),(9,13)]) (.inl rfl) rfl (.cellg G29 rfl rfl rfl (.cellg G29 rfl rfl rfl (.nil))) rfl r25 ⟨(lx rfl),(lx rfl),(lx rfl),(lx rfl),(lx rfl),(lx rfl),(lx rfl),(lx rfl),(lx rfl),(lx rfl),trivial⟩ (by simp) (by simp)
theorem w13 {h : Hall} {p : Plan} : ∀ x ∈ ([.e (.g [.q 0,.q 1,.q 2,ai (h.change)]),.e (.a (.q 3))] : List SV),x.res (keys (α := Pred) [(0,PL ETm (h.machs)),(1,PL EBd (h.buns)),(2,PL EP.int (h.trains)),(3,PL (EP.sl EP.int) (p))]) := by simp [SV.res,El.res,At.res,keys]
theorem r13 {h : Hall} {p : Plan} : SV.res (keys (α := Pred) []) (.b (isPlanR h p)) := by simp [SV.res,El.res,At.res,keys]
set_option maxHeartbeats 4000000 in
theorem c13 (h : Hall) (p : Plan) (hm : h.Small) (hr : RowsP p) : Sig Try.prog 13 [.e (.g [.q 0,.q 1,.q 2,ai (h.change)]),.e (.a (.q 3))] [(0,PL ETm (h.machs)),(1,PL EBd (h.buns)),(2,PL EP.int (h.trains)),(3,PL (EP.sl EP.int) (p))] (.b (isPlanR h p)) [] := by
  have hm1 := hm.m
  have hm2 := hm.b
  have hn := hr.n
  refine Sig.intro Try.func13 rfl 4 [(0,.e (.g [.q 0,.q 1,.q 2,ai (h.change)])),(1,.e (.a (.q 3)))] rfl w13 rfl rfl fun I w => ?_
  refine WP.seq (WP.region ?_)
  refine WPl.l 4 5 rfl rfl rfl (o_boxg rfl) ?_
  refine WPl.v rfl (o_assign rfl) ?_
  refine WPl.nil (EX.then (WP.seq (WP.seq (WP.region ?_))))
  refine WPl.v rfl (o_move rfl) ?_
  refine WPl.v rfl (o_lenq L27 rfl (lx rfl)) ?_
  refine WPl.v rfl (o_fldp F26_0 rfl) ?_
  refine WPl.v rfl (o_ldp S22 rfl rfl rfl) ?_
  refine WPl.v rfl (o_lenq L22 rfl (lx rfl)) ?_
  refine WPl.v rfl (o_neq rfl rfl) ?_
  refine WPl.nil (EX.then ?_)
  refine WP.cond rfl (fun hc1 => ?_) (fun hc1 => ?_)
  · try simp only [cnd] at hc1
    refine WP.seq (WP.region ?_)
    refine WPl.v rfl (o_assign rfl) ?_
    refine WPl.nil (EX.then (WP.ret (EX.ret_then ?_)))
    rw [show isPlanR h p = false from by unfold isPlanR; rw [decide_eq_false hc1]; rfl]
    exact EX.fin id (.inl rfl) rfl (.tmp rfl .nil) rfl (by simp [SV.res,El.res,At.res,keys]) trivial (by simp) (by simp)
  · try simp only [cnd] at hc1
    refine WP.skip (EX.then (WP.seq (WP.region ?_)))
    refine WPl.v rfl (o_assign rfl) ?_
    refine WPl.imp (Imp.namo EP.int 5 6 3 rfl rfl) ?_
    refine WPl.imp (Imp.swF 5 5 rfl (lx rfl)) ?_
    refine WPl.nil (EX.then (WP.seq (WP.seq (WP.region ?_))))
    refine WPl.v rfl (o_assign rfl) ?_
    refine WPl.nil (EX.then (WP.block ?_))
    refine WP.loop (Gh := Nat) (fun i => ⟨6,[(1,.e (.a (.q 3))),(2,.e (.a (.p 4 (0)))),(4,.b (false)),(5,.e (.a (.q 5))),(6,.i ((i : Int)))],[(0,PL ETm (h.machs)),(1,PL EBd (h.buns)),(2,PL EP.int (h.trains)),(3,PL (EP.sl EP.int) (p))],[(4,.blk [.q 0,.q 1,.q 2,ai (h.change)] 26),(5,.own 3 EP.int.size (sTo p i).length (RP EP.int (sTo p i)))],[],[]⟩) (fun i => i ≤ p.length ∧ allI (okRow h p) i = true) (fun i => p.length - i) (0) id ?_ (LeR.of ⟨rfl,rfl,rfl,rfl,rfl,trivial⟩ ⟨(lx rfl),(lx rfl),(lx rfl),(lx rfl),trivial⟩ ⟨rfl,rfl,trivial⟩ rfl rfl rfl rfl rfl) ?_
    · exact ⟨by omega,rfl⟩
    intro i hφ
    have hi : i ≤ p.length := hφ.1
    have hall := hφ.2
    refine WP.seq (WP.seq (WP.region ?_))
    refine WPl.v rfl (o_move rfl) ?_
    refine WPl.v rfl (o_move rfl) ?_
    refine WPl.v rfl (o_lenq L27 rfl (lx rfl)) ?_
    refine WPl.v rfl (o_lss rfl rfl) ?_
    refine WPl.nil (EX.then ?_)
    refine WP.cond rfl (fun hc2 => ?_) (fun hc2 => ?_)
    · try simp only [cnd] at hc2
      have hri := hr.r i (by omega)
      refine WP.skip (EX.then (WP.seq (WP.block (WP.seq (WP.region ?_)))))
      refine WPl.v rfl (o_assign rfl) ?_
      refine WPl.nil (EX.then (WP.block ?_))
      refine WP.loop (Gh := Nat) (fun j => ⟨6,[(1,.e (.a (.q 3))),(2,.e (.a (.p 4 (0)))),(4,.b (false)),(5,.e (.a (.q 5))),(6,.i ((i : Int))),(15,.i ((i : Int))),(16,.e (.a (.q 3))),(17,.i ((p.length : Int))),(18,.b (decide ((i : Int) < (p.length : Int)))),(7,.i ((j : Int)))],[(0,PL ETm (h.machs)),(1,PL EBd (h.buns)),(2,PL EP.int (h.trains)),(3,PL (EP.sl EP.int) (p))],[(4,.blk [.q 0,.q 1,.q 2,ai (h.change)] 26),(5,.own 3 EP.int.size ((sTo p i ++ (nth p (i : Int)).take j)).length (RP EP.int ((sTo p i ++ (nth p (i : Int)).take j))))],[],[]⟩) (fun j => j ≤ (nth p (i : Int)).length ∧ allI (okAt h p i) j = true) (fun j => (nth p (i : Int)).length - j) (0) id ?_ (LeR.of ⟨rfl,rfl,rfl,rfl,rfl,rfl,rfl,rfl,rfl,rfl,trivial⟩ ⟨(lx rfl),(lx rfl),(lx rfl),(lx rfl),trivial⟩ ⟨rfl,(congrArg (fun z => some (Ent.own 3 EP.int.size (List.length z) (RP EP.int z))) (show (sTo p i) = ((fun j => (sTo p i ++ (nth p (i : Int)).take j)) 0) from by dsimp only; rw [List.take_zero,List.append_nil])),trivial⟩ rfl rfl rfl rfl rfl) ?_
      · exact ⟨by omega,rfl⟩
      intro j hφ
      have hj : j ≤ (nth p (i : Int)).length := hφ.1
      have hrow := hφ.2
      refine WP.seq (WP.seq (WP.region ?_))
      refine WPl.v rfl (o_move rfl) ?_
      refine WPl.v rfl (o_move rfl) ?_
      refine WPl.v rfl (o_move rfl) ?_
      refine WPl.x 6 7 rfl rfl rfl (o_idx L27 rfl (lx rfl) rfl (by first | omega | (simp; omega)) (by first | omega | (simp; omega))) ?_
      refine WPl.x 7 8 rfl rfl rfl (o_ldqx S24 rfl (lx rfl) slx) ?_
      refine WPl.v rfl (o_lenq L24 rfl (lx rfl)) ?_
      refine WPl.v rfl (o_lss rfl rfl) ?_
      refine WPl.nil (EX.then ?_)
      refine WP.cond rfl (fun hc3 => ?_) (fun hc3 => ?_)
      · try simp only [cnd] at hc3
        have hsl := seen_len hr (i := i) (j := j) (by omega)
        refine WP.skip (EX.then (WP.seq (WP.block (WP.seq (WP.seq (WP.region ?_))))))
        refine WPl.v rfl (o_move rfl) ?_
        refine WPl.v rfl (o_move rfl) ?_
        refine WPl.x 8 9 rfl rfl rfl (o_idx L27 rfl (lx rfl) rfl (by first | omega | (simp; omega)) (by first | omega | (simp; omega))) ?_
        refine WPl.x 9 10 rfl rfl rfl (o_ldqx S24 rfl (lx rfl) slx) ?_
        refine WPl.v rfl (o_move rfl) ?_
        refine WPl.x 10 11 rfl rfl rfl (o_idx L24 rfl (lx rfl) rfl (by first | omega | (simp; omega)) (by first | omega | (simp; omega))) ?_
        refine WPl.v rfl (o_ldq S3 rfl (lx rfl) intc) ?_
        refine WPl.v rfl (o_assign rfl) ?_
        refine WPl.nil (EX.then (WP.seq (WP.region ?_)))
        refine WPl.v rfl (o_move rfl) ?_
        refine WPl.v rfl (o_fldp F26_1 rfl) ?_
        refine WPl.v rfl (o_ldp S23 rfl rfl rfl) ?_
        refine WPl.v rfl (o_lenq L23 rfl (lx rfl)) ?_
        refine WPl.v rfl (o_sub rfl rfl (by first | omega | (simp; omega)) (by first | omega | (simp; omega))) ?_
        refine WPl.cs 11 rfl rfl rfl rfl (o_sig 11 id (c32 (nth (nth p (i : Int)) (j : Int)) 0 ((h.buns.length : Int) - 1)) e32 rfl rfl rfl w32 trivial r32) ?_
        refine WPl.v rfl (o_not rfl) ?_
        refine WPl.v rfl (o_move rfl) ?_
        refine WPl.bit 11 12 (!(!(within (nth (nth p (i : Int)) (j : Int)) 0 ((h.buns.length : Int) - 1)))) rfl rfl ?_
        refine WPl.gv 11 rfl rfl (.plain rfl (by first | (simp; done) | simp only [Bool.not_eq_true']) rfl) (fun hb => o_move rfl) ?_
        refine WPl.gv 11 rfl rfl (.plain rfl (by first | (simp; done) | simp only [Bool.not_eq_true']) rfl) (fun hb => o_move rfl) ?_
        refine WPl.gc0 11 rfl rfl (.plain rfl (by first | (simp; done) | simp only [Bool.not_eq_true']) rfl) (fun hb => o_sigbc 12 (ren [(0,5)]) (Sig.free (c33 (sTo p i ++ (nth p (i : Int)).take j) (nth (nth p (i : Int)) (j : Int)) (by omega))) e33 rfl rfl SvsOK.rf w33 ⟨.own rfl rfl,trivial⟩ r33) ?_
        refine WPl.v rfl (o_or rfl rfl rfl (by first | (simp; done) | exact fun h => by rw [h]; rfl | exact fun h => Bool.and_eq_true_iff.2 ⟨hb,by rw [h]; rfl⟩ | simp_all)) ?_
        refine WPl.nil (EX.then ?_)
        refine WP.cond rfl (fun hc4 => ?_) (fun hc4 => ?_)
        · try simp only [cnd] at hc4
          refine WP.seq (WP.region ?_)
          refine WPl.v rfl (o_assign rfl) ?_
          refine WPl.nil (EX.then (WP.ret (EX.ret_then (EX.ret_blk (EX.ret_then (EX.ret_then (EX.ret_blk (EX.ret_blk (EX.ret_then (EX.ret_then (EX.ret_blk (EX.ret_then ?_))))))))))))
          rw [show isPlanR h p = false from by unfold isPlanR; rw [not_allI (show i < p.length by omega) (show okRow h p i = false from not_allI (show j < (nth p (i : Int)).length by omega) (by simp only [okAt,Bool.and_eq_false_iff,Bool.not_eq_false']; exact hc4))]; simp]
          exact EX.fin id (.inl rfl) rfl (.tmp rfl .nil) rfl (by simp [SV.res,El.res,At.res,keys]) trivial (by simp) (by simp)
        · try simp only [cnd] at hc4
          refine WP.skip (EX.then (WP.region ?_))
          refine WPl.v rfl (o_move rfl) ?_
          refine WPl.v rfl (o_move rfl) ?_
          refine WPl.v rfl (o_move rfl) ?_
          refine WPl.x 12 13 rfl rfl rfl (o_idx L27 rfl (lx rfl) rfl (by first | omega | (simp; omega)) (by first | omega | (simp; omega))) ?_
          refine WPl.x 13 14 rfl rfl rfl (o_ldqx S24 rfl (lx rfl) slx) ?_
          refine WPl.v rfl (o_move rfl) ?_
          refine WPl.x 14 15 rfl rfl rfl (o_idx L24 rfl (lx rfl) rfl (by first | omega | (simp; omega)) (by first | omega | (simp; omega))) ?_
          refine WPl.v rfl (o_ldq S3 rfl (lx rfl) intc) ?_
          refine WPl.l 15 16 rfl rfl rfl (o_bsl (E := EP.int) (l := [nth (nth p (i : Int)) (j : Int)]) R24 rfl rfl (.cons (rfl) rfl (eok_int) (.nil)) rfl rfl) ?_
          refine WPl.u1 (k := 16) (m := 17) rfl rfl rfl (o_appo R24 EP.int_one rfl rfl rfl rfl (by simp at hsl ⊢; omega) (by simp at hsl ⊢; omega)) ?_
          refine WPl.v rfl (o_assign rfl) ?_
          refine WPl.nil (EX.blk (EX.then (WP.region ?_)))
          refine WPl.v rfl (o_move rfl) ?_
          refine WPl.v rfl (o_add rfl rfl (by first | omega | (simp; omega)) (by first | omega | (simp; omega))) ?_
          refine WPl.v rfl (o_assign rfl) ?_
          refine WPl.nil ?_
          refine EX.again (j + 1) (ren [(5,16)]) (by exact ⟨by omega,by simp only [allI,hrow,Bool.true_and,okAt,Bool.and_eq_true,Bool.not_eq_true']; exact hc4⟩) (by omega) (LeR.of ⟨rfl,rfl,rfl,rfl,rfl,rfl,rfl,rfl,rfl,rfl,trivial⟩ ⟨(lx rfl),(lx rfl),(lx rfl),(lx rfl),trivial⟩ ⟨rfl,(congrArg (fun z => some (Ent.own 3 EP.int.size (List.length z) (RP EP.int z))) (show ((sTo p i ++ (nth p (i : Int)).take j) ++ [nth (nth p (i : Int)) (j : Int)]) = ((fun j => (sTo p i ++ (nth p (i : Int)).take j)) (j + 1)) from by dsimp only; rw [List.append_assoc,take_snoc (by omega)])),trivial⟩ rfl rfl rfl rfl rfl)
      · try simp only [cnd] at hc3
        refine WP.exit (EX.exit_then (EX.exit_then (EX.exit_blk (EX.blk (EX.then (WP.region ?_))))))
        refine WPl.v rfl (o_move rfl) ?_
        refine WPl.v rfl (o_add rfl rfl (by first | omega | (simp; omega)) (by first | omega | (simp; omega))) ?_
        refine WPl.v rfl (o_assign rfl) ?_
        refine WPl.nil ?_
        have hje : j = (nth p (i : Int)).length := by omega
        refine EX.again (i + 1) id (by exact ⟨by omega,by simp only [allI,hall,Bool.true_and]; unfold okRow; rw [← hje]; exact hrow⟩) (by omega) (LeR.of ⟨rfl,rfl,rfl,rfl,rfl,trivial⟩ ⟨(lx rfl),(lx rfl),(lx rfl),(lx rfl),trivial⟩ ⟨rfl,(congrArg (fun z => some (Ent.own 3 EP.int.size (List.length z) (RP EP.int z))) (show ((sTo p i ++ (nth p (i : Int)).take j)) = ((fun i => sTo p i) (i + 1)) from by dsimp only; rw [hje,List.take_length]; rfl)),trivial⟩ rfl rfl rfl rfl rfl)
    · try simp only [cnd] at hc2
      refine WP.exit (EX.exit_then (EX.exit_then (EX.exit_blk (EX.then (WP.seq (WP.region ?_))))))
      refine WPl.v rfl (o_assign rfl) ?_
      refine WPl.nil (EX.then (WP.ret ?_))
      have hie : i = p.length := by omega
      rw [show isPlanR h p = true from by unfold isPlanR; rw [decide_eq_true (by first | exact hc1 | simpa using hc1),← hie,hall]; rfl]
      exact EX.fin id (.inl rfl) rfl (.tmp rfl .nil) rfl (by simp [SV.res,El.res,At.res,keys]) trivial (by simp) (by simp)
theorem w66 {h : Hall} {p : Plan} : ∀ x ∈ ([.e (.g [.q 0,.q 1,.q 2,ai (h.change)]),.e (.a (.q 3))] : List SV),x.res (keys (α := Pred) [(0,PL ETm (h.machs)),(1,PL EBd (h.buns)),(2,PL EP.int (h.trains)),(3,PL (EP.sl EP.int) (p))]) := by simp [SV.res,El.res,At.res,keys]
theorem r66  : SV.res (keys (α := Pred) []) (.b (true)) := by simp [SV.res,El.res,At.res,keys]
set_option maxHeartbeats 4000000 in
theorem c66 (h : Hall) (p : Plan) (hc : h.chk = true) (hp : isPlanR h p = true) (hr : RowsP p) : Sig Try.prog 66 [.e (.g [.q 0,.q 1,.q 2,ai (h.change)]),.e (.a (.q 3))] [(0,PL ETm (h.machs)),(1,PL EBd (h.buns)),(2,PL EP.int (h.trains)),(3,PL (EP.sl EP.int) (p))] (.b (true)) [] := by
  have hC := hallC hc
  have hP := planQ hp
  have h5 := hC.n5
  have hn := hr.n
  refine Sig.intro Try.func66 rfl 4 [(0,.e (.g [.q 0,.q 1,.q 2,ai (h.change)])),(1,.e (.a (.q 3)))] rfl w66 rfl rfl fun I w => ?_
  refine WP.seq (WP.region ?_)
  refine WPl.l 4 5 rfl rfl rfl (o_boxg rfl) ?_
  refine WPl.v rfl (o_assign rfl) ?_
  refine WPl.nil (EX.then (WP.seq (WP.region ?_)))
  refine WPl.v rfl (o_assign rfl) ?_
  refine WPl.nil (EX.then (WP.seq (WP.seq (WP.region ?_))))
  refine WPl.v rfl (o_move rfl) ?_
  refine WPl.v rfl (o_lenq L27 rfl (lx rfl)) ?_
  refine WPl.v rfl (o_move rfl) ?_
  refine WPl.nil (EX.then (WP.block ?_))
  refine WP.loop (Gh := Nat) (fun i => ⟨5,[(1,.e (.a (.q 3))),(2,.e (.a (.p 4 (0)))),(4,.b (false)),(5,.i (((msk (sTo p i) : Nat) : Int))),(10,.e (.a (.q 3))),(11,.i ((p.length : Int))),(12,.i ((i : Int)))],[(0,PL ETm (h.machs)),(1,PL EBd (h.buns)),(2,PL EP.int (h.trains)),(3,PL (EP.sl EP.int) (p))],[(4,.blk [.q 0,.q 1,.q 2,ai (h.change)] 26)],[],[]⟩) (fun i => i ≤ p.length) (fun i => p.length - i) (0) id ?_ (LeR.of ⟨rfl,rfl,rfl,(congrArg (fun z => some (SV.i z)) (show (0) = ((fun i => ((msk (sTo p i) : Nat) : Int)) 0) from rfl)),rfl,rfl,rfl,trivial⟩ ⟨(lx rfl),(lx rfl),(lx rfl),(lx rfl),trivial⟩ ⟨rfl,trivial⟩ rfl rfl rfl rfl rfl) ?_
  · first | trivial | omega | (constructor <;> omega) | simp
  intro i hφ
  have hi : i ≤ p.length := hφ
  refine WP.seq (WP.region ?_)
  refine WPl.v rfl (o_lss rfl rfl) ?_
  refine WPl.nil (EX.then (WP.seq ?_))
  refine WP.cond rfl (fun hc1 => ?_) (fun hc1 => ?_)
  · try simp only [cnd] at hc1
    refine WP.skip (EX.then (WP.seq (WP.block (WP.seq (WP.region ?_)))))
    refine WPl.x 5 6 rfl rfl rfl (o_idx L27 rfl (lx rfl) rfl (by first | omega | (simp; omega)) (by first | omega | (simp; omega))) ?_
    refine WPl.x 6 7 rfl rfl rfl (o_ldqx S24 rfl (lx rfl) slx) ?_
    refine WPl.v rfl (o_assign rfl) ?_
    refine WPl.nil (EX.then (WP.seq (WP.region ?_)))
    refine WPl.v rfl (o_move rfl) ?_
    refine WPl.v rfl (o_lenq L24 rfl (lx rfl)) ?_
    refine WPl.v rfl (o_move rfl) ?_
    refine WPl.nil (EX.then (WP.block ?_))
    refine WP.loop (Gh := Nat) (fun j => ⟨7,[(1,.e (.a (.q 3))),(2,.e (.a (.p 4 (0)))),(4,.b (false)),(5,.i (((msk (sTo p i ++ (nth p (i : Int)).take j) : Nat) : Int))),(10,.e (.a (.q 3))),(11,.i ((p.length : Int))),(12,.i ((i : Int))),(13,.b (decide ((i : Int) < (p.length : Int)))),(14,.e (.a (.q 5))),(15,.e (.a (.q 6))),(7,.e (.a (.q 6))),(16,.e (.a (.q 6))),(17,.i (((nth p (i : Int)).length : Int))),(18,.i ((j : Int)))],[(0,PL ETm (h.machs)),(1,PL EBd (h.buns)),(2,PL EP.int (h.trains)),(3,PL (EP.sl EP.int) (p)),(5,PP (EP.sl EP.int) (nth p (i : Int))),(6,PL EP.int (nth p (i : Int)))],[(4,.blk [.q 0,.q 1,.q 2,ai (h.change)] 26)],[],[]⟩) (fun j => j ≤ (nth p (i : Int)).length) (fun j => (nth p (i : Int)).length - j) (0) id ?_ (LeR.of ⟨rfl,rfl,rfl,(congrArg (fun z => some (SV.i z)) (show (((msk (sTo p i) : Nat) : Int)) = ((fun j => ((msk (sTo p i ++ (nth p (i : Int)).take j) : Nat) : Int)) 0) from by dsimp only; rw [List.take_zero,List.append_nil])),rfl,rfl,rfl,rfl,rfl,rfl,rfl,rfl,rfl,rfl,trivial⟩ ⟨(lx rfl),(lx rfl),(lx rfl),(lx rfl),(lx rfl),(lx rfl),trivial⟩ ⟨rfl,trivial⟩ rfl rfl rfl rfl rfl) ?_
    · first | trivial | omega | (constructor <;> omega) | simp
    intro j hφ
    have hj : j ≤ (nth p (i : Int)).length := hφ
    refine WP.seq (WP.region ?_)
    refine WPl.v rfl (o_lss rfl rfl) ?_
    refine WPl.nil (EX.then (WP.seq ?_))
    refine WP.cond rfl (fun hc2 => ?_) (fun hc2 => ?_)
    · try simp only [cnd] at hc2
      have hri := hr.r i (by omega)
      have hsk := seen_ok hP h5 (i := i) (j := j) (by omega) (by omega)
      have hx := hsk.x
      refine WP.skip (EX.then (WP.seq (WP.block (WP.seq (WP.region ?_)))))
      refine WPl.x 7 8 rfl rfl rfl (o_idx L24 rfl (lx rfl) rfl (by first | omega | (simp; omega)) (by first | omega | (simp; omega))) ?_
      refine WPl.v rfl (o_ldq S3 rfl (lx rfl) intc) ?_
      refine WPl.v rfl (o_assign rfl) ?_
      refine WPl.nil (EX.then (WP.seq (WP.seq (WP.region ?_))))
      refine WPl.v rfl (o_move rfl) ?_
      refine WPl.v rfl (o_fldp F26_1 rfl) ?_
      refine WPl.v rfl (o_ldp S23 rfl rfl rfl) ?_
      refine WPl.v rfl (o_lenq L23 rfl (lx rfl)) ?_
      refine WPl.v rfl (o_sub rfl rfl (by first | omega | (simp; omega)) (by first | omega | (simp; omega))) ?_
      refine WPl.cs 8 rfl rfl rfl rfl (o_sig 8 id (c52 (nth (nth p (i : Int)) (j : Int)) 0 ((h.buns.length : Int) - 1)) e52 rfl rfl rfl w52 trivial r52) ?_
      refine WPl.v rfl (o_not rfl) ?_
      refine WPl.v rfl (o_move rfl) ?_
      refine WPl.bit 8 9 (!(!(within (nth (nth p (i : Int)) (j : Int)) 0 ((h.buns.length : Int) - 1)))) rfl rfl ?_
      refine WPl.gv 8 rfl rfl (.plain rfl (by first | (simp; done) | simp only [Bool.not_eq_true']) rfl) (fun hb => o_move rfl) ?_
      refine WPl.gv 8 rfl rfl (.plain rfl (by first | (simp; done) | simp only [Bool.not_eq_true']) rfl) (fun hb => o_move rfl) ?_
      refine WPl.gv 8 rfl rfl (.plain rfl (by first | (simp; done) | simp only [Bool.not_eq_true']) rfl) (fun hb => o_ishr rfl rfl (by omega) hsk.m.r) ?_
      refine WPl.gv 8 rfl rfl (.plain rfl (by first | (simp; done) | simp only [Bool.not_eq_true']) rfl) (fun hb => o_iand rfl rfl hsk.m.a) ?_
      refine WPl.gv 8 rfl rfl (.plain rfl (by first | (simp; done) | simp only [Bool.not_eq_true']) rfl) (fun hb => o_eql rfl rfl) ?_
      refine WPl.v rfl (o_or rfl rfl rfl (by first | (simp; done) | exact fun h => by rw [h]; rfl | exact fun h => Bool.and_eq_true_iff.2 ⟨hb,by rw [h]; rfl⟩ | simp_all)) ?_
      refine WPl.nil (EX.then ?_)
      refine WP.cond rfl (fun hc3 => ?_) (fun hc3 => ?_)
      · try simp only [cnd] at hc3
        exfalso
        rcases hc3 with g | g
        · simp only [within,Bool.and_eq_false_iff,decide_eq_false_iff_not] at g; omega
        · exact hsk.n (by omega)
      · try simp only [cnd] at hc3
        refine WP.skip (EX.then (WP.region ?_))
        refine WPl.v rfl (o_move rfl) ?_
        refine WPl.v rfl (o_move rfl) ?_
        refine WPl.v rfl (o_ishl rfl rfl (by omega) hsk.m.l) ?_
        refine WPl.v rfl (o_ior rfl rfl hsk.m.o) ?_
        refine WPl.v rfl (o_assign rfl) ?_
        refine WPl.nil (EX.blk (EX.then (WP.region ?_)))
        refine WPl.v rfl (o_add rfl rfl (by first | omega | (simp; omega)) (by first | omega | (simp; omega))) ?_
        refine WPl.v rfl (o_move rfl) ?_
        refine WPl.nil ?_
        refine EX.again (j + 1) id (by first | omega | (constructor <;> omega)) (by omega) (LeR.of ⟨rfl,rfl,rfl,(congrArg (fun z => some (SV.i z)) (show (((msk (sTo p i ++ (nth p (i : Int)).take j) ||| 2 ^ (nth (nth p (i : Int)) (j : Int)).toNat : Nat) : Int)) = ((fun j => ((msk (sTo p i ++ (nth p (i : Int)).take j) : Nat) : Int)) (j + 1)) from by dsimp only; rw [← take_snoc (show j < (nth p (i : Int)).length by omega),← List.append_assoc,msk_snoc])),rfl,rfl,rfl,rfl,rfl,rfl,rfl,rfl,rfl,rfl,trivial⟩ ⟨(lx rfl),(lx rfl),(lx rfl),(lx rfl),(lx rfl),(lx rfl),trivial⟩ ⟨rfl,trivial⟩ rfl rfl rfl rfl rfl)
    · try simp only [cnd] at hc2
      refine WP.exit (EX.exit_then (EX.exit_then (EX.exit_blk (EX.blk (EX.then (WP.region ?_))))))
      refine WPl.v rfl (o_add rfl rfl (by first | omega | (simp; omega)) (by first | omega | (simp; omega))) ?_
      refine WPl.v rfl (o_move rfl) ?_
      refine WPl.nil ?_
      have hje : j = (nth p (i : Int)).length := by omega
      refine EX.again (i + 1) id (by first | omega | (constructor <;> omega)) (by omega) (LeR.of ⟨rfl,rfl,rfl,(congrArg (fun z => some (SV.i z)) (show (((msk (sTo p i ++ (nth p (i : Int)).take j) : Nat) : Int)) = ((fun i => ((msk (sTo p i) : Nat) : Int)) (i + 1)) from by dsimp only; rw [hje,List.take_length]; rfl)),rfl,rfl,rfl,trivial⟩ ⟨(lx rfl),(lx rfl),(lx rfl),(lx rfl),trivial⟩ ⟨rfl,trivial⟩ rfl rfl rfl rfl rfl)
  · try simp only [cnd] at hc1
    refine WP.exit (EX.exit_then (EX.exit_then (EX.exit_blk (EX.then (WP.seq (WP.region ?_))))))
    refine WPl.v rfl (o_move rfl) ?_
    refine WPl.v rfl (o_lenq L27 rfl (lx rfl)) ?_
    refine WPl.v rfl (o_fldp F26_0 rfl) ?_
    refine WPl.v rfl (o_ldp S22 rfl rfl rfl) ?_
    refine WPl.v rfl (o_lenq L22 rfl (lx rfl)) ?_
    refine WPl.v rfl (o_eql rfl rfl) ?_
    refine WPl.v rfl (o_assign rfl) ?_
    refine WPl.nil (EX.then (WP.ret ?_))
    refine EX.imp (Imp.bitF 4 (b' := true) rfl (decide_eq_true (by have h := hP.n; omega))) ?_
    exact EX.fin id (.inl rfl) rfl (.tmp rfl .nil) rfl (by simp [SV.res,El.res,At.res,keys]) trivial (by simp) (by simp)
theorem w35 {h : Hall} {p : Plan} : ∀ x ∈ ([.e (.g [.q 0,.q 1,.q 2,ai (h.change)]),.e (.a (.q 3))] : List SV),x.res (keys (α := Pred) [(0,PL ETm (h.machs)),(1,PL EBd (h.buns)),(2,PL EP.int (h.trains)),(3,PL (EP.sl EP.int) (p))]) := by simp [SV.res,El.res,At.res,keys]
theorem r35  : SV.res (keys (α := Pred) []) (.t [.a (.v (.bool (true))),.a (ai (0))]) := by simp [SV.res,El.res,At.res,keys]
set_option maxHeartbeats 4000000 in
theorem c35 (h : Hall) (p : Plan) (hm : h.Small) (hc : h.chk = true) (hp : isPlanR h p = true) (hr : RowsP p) : Sig Try.prog 35 [.e (.g [.q 0,.q 1,.q 2,ai (h.change)]),.e (.a (.q 3))] [(0,PL ETm (h.machs)),(1,PL EBd (h.buns)),(2,PL EP.int (h.trains)),(3,PL (EP.sl EP.int) (p))] (.t [.a (.v (.bool (true))),.a (ai (0))]) [] := by
  have hh : h.house = true := by simp only [Hall.chk,Hall.hallHd,Bool.and_eq_true] at hc; exact hc.1.1.1.1.1
  refine Sig.intro Try.func35 rfl 4 [(0,.e (.g [.q 0,.q 1,.q 2,ai (h.change)])),(1,.e (.a (.q 3)))] rfl w35 rfl rfl fun I w => ?_
  refine WP.seq (WP.region ?_)
  refine WPl.l 4 5 rfl rfl rfl (o_boxg rfl) ?_
  refine WPl.v rfl (o_assign rfl) ?_
  refine WPl.v rfl (o_assign rfl) ?_
  refine WPl.nil (EX.then (WP.seq (WP.seq (WP.region ?_))))
  refine WPl.v rfl (o_ldpa G26 rfl rfl rfl) ?_
  refine WPl.cs 5 rfl rfl rfl rfl (o_sig 5 (ren [(0,0),(1,1),(2,2)]) (c26 h hm) e26 rfl rfl rfl w26 ⟨(lx rfl),(lx rfl),(lx rfl),trivial⟩ r26) ?_
  refine WPl.v rfl (o_assign rfl) ?_
  refine WPl.nil (EX.then (WP.seq (WP.region ?_)))
  refine WPl.v rfl (o_move rfl) ?_
  refine WPl.v rfl (o_neq rfl rfl) ?_
  refine WPl.nil (EX.then ?_)
  refine WP.cond rfl (fun hc1 => ?_) (fun hc1 => ?_)
  · try simp only [cnd] at hc1
    exact absurd (errH_eq.2 hh) hc1
  · try simp only [cnd] at hc1
    refine WP.skip (EX.then (WP.seq (WP.region ?_)))
    refine WPl.v rfl (o_ldpa G26 rfl rfl rfl) ?_
    refine WPl.v rfl (o_move rfl) ?_
    refine WPl.cs 5 rfl rfl rfl rfl (o_sig 5 (ren [(0,0),(1,1),(2,2),(3,3)]) (c66 h p hc hp hr) e66 rfl rfl rfl w66 ⟨(lx rfl),(lx rfl),(lx rfl),(lx rfl),trivial⟩ r66) ?_
    refine WPl.v rfl (o_assign rfl) ?_
    refine WPl.v rfl (o_assign rfl) ?_
    refine WPl.nil (EX.then (WP.ret ?_))
    exact EX.fin id (.inl rfl) rfl (.tmp rfl (.tmp rfl .nil)) rfl r35 trivial (by simp) (by simp)
theorem w68 {a b : Int} : ∀ x ∈ ([.i (a),.i (b)] : List SV),x.res (keys (α := Pred) []) := by simp [SV.res,El.res,At.res,keys]
theorem r68 {a b : Int} : SV.res (keys (α := Pred) []) (.i (a + b)) := by simp [SV.res,El.res,At.res,keys]
set_option maxHeartbeats 4000000 in
theorem c68 (a b : Int) (h1 : 0 ≤ a ∧ a ≤ 1000) (h2 : 0 ≤ b ∧ b ≤ 1000) : Sig Try.prog 68 [.i (a),.i (b)] [] (.i (a + b)) [] := by
  refine Sig.intro Try.func68 rfl 0 [(0,.i (a)),(1,.i (b))] rfl w68 rfl rfl fun I w => ?_
  refine WP.seq (WP.region ?_)
  refine WPl.v rfl (o_assign rfl) ?_
  refine WPl.nil (EX.then (WP.seq (WP.region ?_)))
  refine WPl.v rfl (o_move rfl) ?_
  refine WPl.v rfl (o_move rfl) ?_
  refine WPl.v rfl (o_add rfl rfl (by first | omega | (simp; omega)) (by first | omega | (simp; omega))) ?_
  refine WPl.v rfl (o_assign rfl) ?_
  refine WPl.nil (EX.then (WP.ret ?_))
  exact EX.fin id (.inl rfl) rfl (.tmp rfl .nil) rfl r68 trivial (by simp) (by simp)
theorem w67 {a b : List Int} : ∀ x ∈ ([.e (.g [ai (nth a 0),ai (nth a 1),ai (nth a 2),ai (nth a 3),ai (nth a 4),ai (nth a 5),ai (nth a 6),ai (nth a 7),ai (nth a 8),ai (nth a 9),ai (nth a 10),ai (nth a 11)]),.e (.g [ai (nth b 0),ai (nth b 1),ai (nth b 2),ai (nth b 3),ai (nth b 4),ai (nth b 5),ai (nth b 6),ai (nth b 7),ai (nth b 8),ai (nth b 9),ai (nth b 10),ai (nth b 11)]),.e (.a (.q 0))] : List SV),x.res (keys (α := Pred) [(0,Add2)]) := by simp [SV.res,El.res,At.res,keys]
theorem r67 {a b : List Int} : SV.res (keys (α := Pred) []) (.e (.g [ai (nth (eachN a b 12) 0),ai (nth (eachN a b 12) 1),ai (nth (eachN a b 12) 2),ai (nth (eachN a b 12) 3),ai (nth (eachN a b 12) 4),ai (nth (eachN a b 12) 5),ai (nth (eachN a b 12) 6),ai (nth (eachN a b 12) 7),ai (nth (eachN a b 12) 8),ai (nth (eachN a b 12) 9),ai (nth (eachN a b 12) 10),ai (nth (eachN a b 12) 11)])) := by simp [SV.res,El.res,At.res,keys]
set_option maxHeartbeats 4000000 in
theorem c67 (a b : List Int) (ha : a.length = 12) (hb : b.length = 12) (h1 : ∀ k : Nat,k < 12 → 0 ≤ nth a (k : Int) ∧ nth a (k : Int) ≤ 1000) (h2 : ∀ k : Nat,k < 12 → 0 ≤ nth b (k : Int) ∧ nth b (k : Int) ≤ 1000) : Sig Try.prog 67 [.e (.g [ai (nth a 0),ai (nth a 1),ai (nth a 2),ai (nth a 3),ai (nth a 4),ai (nth a 5),ai (nth a 6),ai (nth a 7),ai (nth a 8),ai (nth a 9),ai (nth a 10),ai (nth a 11)]),.e (.g [ai (nth b 0),ai (nth b 1),ai (nth b 2),ai (nth b 3),ai (nth b 4),ai (nth b 5),ai (nth b 6),ai (nth b 7),ai (nth b 8),ai (nth b 9),ai (nth b 10),ai (nth b 11)]),.e (.a (.q 0))] [(0,Add2)] (.e (.g [ai (nth (eachN a b 12) 0),ai (nth (eachN a b 12) 1),ai (nth (eachN a b 12) 2),ai (nth (eachN a b 12) 3),ai (nth (eachN a b 12) 4),ai (nth (eachN a b 12) 5),ai (nth (eachN a b 12) 6),ai (nth (eachN a b 12) 7),ai (nth (eachN a b 12) 8),ai (nth (eachN a b 12) 9),ai (nth (eachN a b 12) 10),ai (nth (eachN a b 12) 11)])) [] := by
  refine Sig.intro Try.func67 rfl 1 [(0,.e (.g [ai (nth a 0),ai (nth a 1),ai (nth a 2),ai (nth a 3),ai (nth a 4),ai (nth a 5),ai (nth a 6),ai (nth a 7),ai (nth a 8),ai (nth a 9),ai (nth a 10),ai (nth a 11)])),(1,.e (.g [ai (nth b 0),ai (nth b 1),ai (nth b 2),ai (nth b 3),ai (nth b 4),ai (nth b 5),ai (nth b 6),ai (nth b 7),ai (nth b 8),ai (nth b 9),ai (nth b 10),ai (nth b 11)])),(2,.e (.a (.q 0)))] rfl w67 rfl rfl fun I w => ?_
  refine WP.seq (WP.region ?_)
  refine WPl.l 1 2 rfl rfl rfl (o_boxg rfl) ?_
  refine WPl.l 2 3 rfl rfl rfl (o_boxg rfl) ?_
  refine WPl.l 3 4 rfl rfl rfl (o_alloc Z81) ?_
  refine WPl.nil (EX.then (WP.seq (WP.seq (WP.region ?_))))
  refine WPl.v rfl (o_move rfl) ?_
  refine WPl.nil (EX.then (WP.block ?_))
  refine WP.loop (Gh := Nat) (fun i => ⟨4,[(2,.e (.a (.q 0))),(3,.e (.a (.p 1 (0)))),(4,.e (.a (.p 2 (0)))),(6,.e (.a (.p 3 (0)))),(9,.i ((i : Int)))],[(0,Add2)],[(1,.blk [ai (nth a 0),ai (nth a 1),ai (nth a 2),ai (nth a 3),ai (nth a 4),ai (nth a 5),ai (nth a 6),ai (nth a 7),ai (nth a 8),ai (nth a 9),ai (nth a 10),ai (nth a 11)] 81),(2,.blk [ai (nth b 0),ai (nth b 1),ai (nth b 2),ai (nth b 3),ai (nth b 4),ai (nth b 5),ai (nth b 6),ai (nth b 7),ai (nth b 8),ai (nth b 9),ai (nth b 10),ai (nth b 11)] 81),(3,.blk [ai (nth (eachN a b (3 * i)) 0),ai (nth (eachN a b (3 * i)) 1),ai (nth (eachN a b (3 * i)) 2),ai (nth (eachN a b (3 * i)) 3),ai (nth (eachN a b (3 * i)) 4),ai (nth (eachN a b (3 * i)) 5),ai (nth (eachN a b (3 * i)) 6),ai (nth (eachN a b (3 * i)) 7),ai (nth (eachN a b (3 * i)) 8),ai (nth (eachN a b (3 * i)) 9),ai (nth (eachN a b (3 * i)) 10),ai (nth (eachN a b (3 * i)) 11)] 81)],[],[]⟩) (fun i => i ≤ 4) (fun i => 4 - i) (0) id ?_ (LeR.of ⟨rfl,rfl,rfl,rfl,rfl,trivial⟩ ⟨(lx rfl),trivial⟩ ⟨rfl,rfl,rfl,trivial⟩ rfl rfl rfl rfl rfl) ?_
  · first | trivial | omega | (constructor <;> omega) | simp
  intro i hφ
  have hi : i ≤ 4 := hφ
  refine WP.seq (WP.region ?_)
  refine WPl.v rfl (o_lss rfl rfl) ?_
  refine WPl.nil (EX.then (WP.seq ?_))
  refine WP.cond rfl (fun hc1 => ?_) (fun hc1 => ?_)
  · try simp only [cnd] at hc1
    refine WP.skip (EX.then (WP.seq (WP.block (WP.seq (WP.region ?_)))))
    refine WPl.v rfl (o_move rfl) ?_
    refine WPl.v rfl (o_assign rfl) ?_
    refine WPl.nil (EX.then (WP.seq (WP.region ?_)))
    refine WPl.v rfl (o_move rfl) ?_
    refine WPl.nil (EX.then (WP.block ?_))
    refine WP.loop (Gh := Nat) (fun j => ⟨4,[(2,.e (.a (.q 0))),(3,.e (.a (.p 1 (0)))),(4,.e (.a (.p 2 (0)))),(6,.e (.a (.p 3 (0)))),(9,.i ((i : Int))),(10,.b (decide ((i : Int) < 4))),(11,.i ((i : Int))),(7,.i ((i : Int))),(12,.i ((j : Int)))],[(0,Add2)],[(1,.blk [ai (nth a 0),ai (nth a 1),ai (nth a 2),ai (nth a 3),ai (nth a 4),ai (nth a 5),ai (nth a 6),ai (nth a 7),ai (nth a 8),ai (nth a 9),ai (nth a 10),ai (nth a 11)] 81),(2,.blk [ai (nth b 0),ai (nth b 1),ai (nth b 2),ai (nth b 3),ai (nth b 4),ai (nth b 5),ai (nth b 6),ai (nth b 7),ai (nth b 8),ai (nth b 9),ai (nth b 10),ai (nth b 11)] 81),(3,.blk [ai (nth (eachN a b (3 * i + j)) 0),ai (nth (eachN a b (3 * i + j)) 1),ai (nth (eachN a b (3 * i + j)) 2),ai (nth (eachN a b (3 * i + j)) 3),ai (nth (eachN a b (3 * i + j)) 4),ai (nth (eachN a b (3 * i + j)) 5),ai (nth (eachN a b (3 * i + j)) 6),ai (nth (eachN a b (3 * i + j)) 7),ai (nth (eachN a b (3 * i + j)) 8),ai (nth (eachN a b (3 * i + j)) 9),ai (nth (eachN a b (3 * i + j)) 10),ai (nth (eachN a b (3 * i + j)) 11)] 81)],[],[]⟩) (fun j => j ≤ 3) (fun j => 3 - j) (0) id ?_ (LeR.of ⟨rfl,rfl,rfl,rfl,rfl,rfl,rfl,rfl,rfl,trivial⟩ ⟨(lx rfl),trivial⟩ ⟨rfl,rfl,rfl,trivial⟩ rfl rfl rfl rfl rfl) ?_
    · first | trivial | omega | (constructor <;> omega) | simp
    intro j hφ
    have hj : j ≤ 3 := hφ
    refine WP.seq (WP.region ?_)
    refine WPl.v rfl (o_lss rfl rfl) ?_
    refine WPl.nil (EX.then (WP.seq ?_))
    refine WP.cond rfl (fun hc2 => ?_) (fun hc2 => ?_)
    · try simp only [cnd] at hc2
      have hij : ((3 * i + j : Nat) : Int) = ((i : Int) * 3 + (j : Int)) := by omega
      have hk1 := h1 (3 * i + j) (by omega)
      have hk2 := h2 (3 * i + j) (by omega)
      rw [hij] at hk1 hk2
      refine WP.skip (EX.then (WP.seq (WP.block (WP.seq (WP.region ?_)))))
      refine WPl.v rfl (o_move rfl) ?_
      refine WPl.v rfl (o_assign rfl) ?_
      refine WPl.nil (EX.then ?_)
      refine WP.draw (nf := 4) [⟨[16,17,18,19,20,21,22,23,24,25,26,27,28],[],[],[],[]⟩,⟨[15,17,18,19,20,21,22,23,24,25,26,27,28,29],[],[],[],[]⟩,⟨[15,16,18,19,20,21,22,23,24,25,26,27,29],[],[],[],[]⟩,⟨[15,16,17,19,23,24,25,26,27,29],[],[],[],[]⟩,⟨[15,16,17,18,20,23,24,25,26,27,29],[],[],[],[]⟩,⟨[15,16,17,19,23,24,25,26,27,29],[],[],[],[3]⟩,⟨[15,16,17,23,24,25,26,27,29],[],[],[],[3,4,5]⟩,⟨[15,16,17,23,24,25,26,27,29],[],[],[],[3,4,5,6]⟩,⟨[15,16,17,18,19,20,21,22,24,29],[],[],[],[]⟩,⟨[15,16,17,18,19,20,21,22,23,25,29],[],[],[],[]⟩,⟨[15,16,17,18,19,20,21,22,24,29],[],[],[],[8]⟩,⟨[15,16,17,18,19,20,21,22,29],[],[],[],[8,9,10]⟩,⟨[15,16,17,18,19,20,21,22,29],[],[],[],[8,9,10,11]⟩,⟨[15,16,29],[],[],[],[2,3,4,5,6,7,8,9,10,11,12]⟩,⟨[16,17,18,19,20,21,22,23,24,25,26,27,28],[],[],[],[0]⟩,⟨[],[],[],[],[0,1,2,3,4,5,6,7,8,9,10,11,12,13,14]⟩,⟨[],[],[],[3],[0,1,2,3,4,5,6,7,8,9,10,11,12,13,14,15]⟩] (by kernel_rfl) (by kernel_rfl) ?_
      refine DRQ.v rfl rfl rfl (o_move rfl) ?_
      refine DRQ.v rfl rfl rfl (o_move rfl) ?_
      refine DRQ.v rfl rfl rfl (o_move rfl) ?_
      refine DRQ.v rfl rfl rfl (o_move rfl) ?_
      refine DRQ.v rfl rfl rfl (o_move rfl) ?_
      refine DRQ.v rfl rfl rfl (o_idxpr A81 rfl rfl (by first | omega | (simp; omega)) (by first | omega | (simp; omega))) ?_
      refine DRQ.v rfl rfl rfl (o_idxpc ((i : Int) * 3 + (j : Int)) A79 rfl rfl (by first | omega | (simp; omega)) (by first | omega | (simp; omega)) (by omega)) ?_
      refine DRQ.v rfl rfl rfl (o_ldpn (n := 12) (l := a) S3 rfl rfl rfl (by omega) (by omega)) ?_
      refine DRQ.v rfl rfl rfl (o_move rfl) ?_
      refine DRQ.v rfl rfl rfl (o_move rfl) ?_
      refine DRQ.v rfl rfl rfl (o_idxpr A81 rfl rfl (by first | omega | (simp; omega)) (by first | omega | (simp; omega))) ?_
      refine DRQ.v rfl rfl rfl (o_idxpc ((i : Int) * 3 + (j : Int)) A79 rfl rfl (by first | omega | (simp; omega)) (by first | omega | (simp; omega)) (by omega)) ?_
      refine DRQ.v rfl rfl rfl (o_ldpn (n := 12) (l := b) S3 rfl rfl rfl (by omega) (by omega)) ?_
      refine DRQ.cs rfl rfl rfl rfl (o_callfv (svs := [.i ((⟨(nth a ((i : Int) * 3 + (j : Int)),nth b ((i : Int) * 3 + (j : Int))),hk1,hk2⟩ : AddD).1.1),.i ((⟨(nth a ((i : Int) * 3 + (j : Int)),nth b ((i : Int) * 3 + (j : Int))),hk1,hk2⟩ : AddD).1.2)]) 4 id rfl (show Has _ 0 (FvP Try.prog [.i ((⟨(nth a ((i : Int) * 3 + (j : Int)),nth b ((i : Int) * 3 + (j : Int))),hk1,hk2⟩ : AddD).1.1),.i ((⟨(nth a ((i : Int) * 3 + (j : Int)),nth b ((i : Int) * 3 + (j : Int))),hk1,hk2⟩ : AddD).1.2)] [] (.i ((⟨(nth a ((i : Int) * 3 + (j : Int)),nth b ((i : Int) * 3 + (j : Int))),hk1,hk2⟩ : AddD).1.1 + (⟨(nth a ((i : Int) * 3 + (j : Int)),nth b ((i : Int) * 3 + (j : Int))),hk1,hk2⟩ : AddD).1.2)) []) from (Has.of (lx rfl) fun _ _ h => Pred.fall_at h ((⟨(nth a ((i : Int) * 3 + (j : Int)),nth b ((i : Int) * 3 + (j : Int))),hk1,hk2⟩ : AddD)))) rfl rfl SvsOK.rf (by simp [SV.res,El.res,At.res,keys]) trivial (by simp [SV.res,El.res,At.res,keys])) ?_
      refine DRQ.v rfl rfl rfl (o_idxpr A81 rfl rfl (by first | omega | (simp; omega)) (by first | omega | (simp; omega))) ?_
      refine DRQ.v rfl rfl rfl (o_idxpc ((i : Int) * 3 + (j : Int)) A79 rfl rfl (by first | omega | (simp; omega)) (by first | omega | (simp; omega)) (by omega)) ?_
      refine DRQ.s 3 rfl rfl rfl (o_stpn (n := 12) (l := eachN a b (3 * i + j)) (cs' := [ai (nth (lset (eachN a b (3 * i + j)) ((i : Int) * 3 + (j : Int)) ((⟨(nth a ((i : Int) * 3 + (j : Int)),nth b ((i : Int) * 3 + (j : Int))),hk1,hk2⟩ : AddD).1.1 + (⟨(nth a ((i : Int) * 3 + (j : Int)),nth b ((i : Int) * 3 + (j : Int))),hk1,hk2⟩ : AddD).1.2)) 0),ai (nth (lset (eachN a b (3 * i + j)) ((i : Int) * 3 + (j : Int)) ((⟨(nth a ((i : Int) * 3 + (j : Int)),nth b ((i : Int) * 3 + (j : Int))),hk1,hk2⟩ : AddD).1.1 + (⟨(nth a ((i : Int) * 3 + (j : Int)),nth b ((i : Int) * 3 + (j : Int))),hk1,hk2⟩ : AddD).1.2)) 1),ai (nth (lset (eachN a b (3 * i + j)) ((i : Int) * 3 + (j : Int)) ((⟨(nth a ((i : Int) * 3 + (j : Int)),nth b ((i : Int) * 3 + (j : Int))),hk1,hk2⟩ : AddD).1.1 + (⟨(nth a ((i : Int) * 3 + (j : Int)),nth b ((i : Int) * 3 + (j : Int))),hk1,hk2⟩ : AddD).1.2)) 2),ai (nth (lset (eachN a b (3 * i + j)) ((i : Int) * 3 + (j : Int)) ((⟨(nth a ((i : Int) * 3 + (j : Int)),nth b ((i : Int) * 3 + (j : Int))),hk1,hk2⟩ : AddD).1.1 + (⟨(nth a ((i : Int) * 3 + (j : Int)),nth b ((i : Int) * 3 + (j : Int))),hk1,hk2⟩ : AddD).1.2)) 3),ai (nth (lset (eachN a b (3 * i + j)) ((i : Int) * 3 + (j : Int)) ((⟨(nth a ((i : Int) * 3 + (j : Int)),nth b ((i : Int) * 3 + (j : Int))),hk1,hk2⟩ : AddD).1.1 + (⟨(nth a ((i : Int) * 3 + (j : Int)),nth b ((i : Int) * 3 + (j : Int))),hk1,hk2⟩ : AddD).1.2)) 4),ai (nth (lset (eachN a b (3 * i + j)) ((i : Int) * 3 + (j : Int)) ((⟨(nth a ((i : Int) * 3 + (j : Int)),nth b ((i : Int) * 3 + (j : Int))),hk1,hk2⟩ : AddD).1.1 + (⟨(nth a ((i : Int) * 3 + (j : Int)),nth b ((i : Int) * 3 + (j : Int))),hk1,hk2⟩ : AddD).1.2)) 5),ai (nth (lset (eachN a b (3 * i + j)) ((i : Int) * 3 + (j : Int)) ((⟨(nth a ((i : Int) * 3 + (j : Int)),nth b ((i : Int) * 3 + (j : Int))),hk1,hk2⟩ : AddD).1.1 + (⟨(nth a ((i : Int) * 3 + (j : Int)),nth b ((i : Int) * 3 + (j : Int))),hk1,hk2⟩ : AddD).1.2)) 6),ai (nth (lset (eachN a b (3 * i + j)) ((i : Int) * 3 + (j : Int)) ((⟨(nth a ((i : Int) * 3 + (j : Int)),nth b ((i : Int) * 3 + (j : Int))),hk1,hk2⟩ : AddD).1.1 + (⟨(nth a ((i : Int) * 3 + (j : Int)),nth b ((i : Int) * 3 + (j : Int))),hk1,hk2⟩ : AddD).1.2)) 7),ai (nth (lset (eachN a b (3 * i + j)) ((i : Int) * 3 + (j : Int)) ((⟨(nth a ((i : Int) * 3 + (j : Int)),nth b ((i : Int) * 3 + (j : Int))),hk1,hk2⟩ : AddD).1.1 + (⟨(nth a ((i : Int) * 3 + (j : Int)),nth b ((i : Int) * 3 + (j : Int))),hk1,hk2⟩ : AddD).1.2)) 8),ai (nth (lset (eachN a b (3 * i + j)) ((i : Int) * 3 + (j : Int)) ((⟨(nth a ((i : Int) * 3 + (j : Int)),nth b ((i : Int) * 3 + (j : Int))),hk1,hk2⟩ : AddD).1.1 + (⟨(nth a ((i : Int) * 3 + (j : Int)),nth b ((i : Int) * 3 + (j : Int))),hk1,hk2⟩ : AddD).1.2)) 9),ai (nth (lset (eachN a b (3 * i + j)) ((i : Int) * 3 + (j : Int)) ((⟨(nth a ((i : Int) * 3 + (j : Int)),nth b ((i : Int) * 3 + (j : Int))),hk1,hk2⟩ : AddD).1.1 + (⟨(nth a ((i : Int) * 3 + (j : Int)),nth b ((i : Int) * 3 + (j : Int))),hk1,hk2⟩ : AddD).1.2)) 10),ai (nth (lset (eachN a b (3 * i + j)) ((i : Int) * 3 + (j : Int)) ((⟨(nth a ((i : Int) * 3 + (j : Int)),nth b ((i : Int) * 3 + (j : Int))),hk1,hk2⟩ : AddD).1.1 + (⟨(nth a ((i : Int) * 3 + (j : Int)),nth b ((i : Int) * 3 + (j : Int))),hk1,hk2⟩ : AddD).1.2)) 11)]) S3 rfl rfl rfl rfl rfl (by rw [eachN_len]) (by omega) (by omega)) ?_
      refine DRQ.nil' ?_
      refine EX.blk (EX.then (WP.region ?_))
      refine WPl.v rfl (o_add rfl rfl (by first | omega | (simp; omega)) (by first | omega | (simp; omega))) ?_
      refine WPl.v rfl (o_move rfl) ?_
      refine WPl.nil ?_
      refine EX.again (j + 1) id (by first | omega | (constructor <;> omega)) (by omega) (LeR.of ⟨rfl,rfl,rfl,rfl,rfl,rfl,rfl,rfl,rfl,trivial⟩ ⟨(lx rfl),trivial⟩ ⟨rfl,rfl,(congrArg (fun z => some (Ent.blk z 81)) (List.cons_eq_cons.2 ⟨(congrArg (fun z => ai z) (show (nth (lset (eachN a b (3 * i + j)) ((i : Int) * 3 + (j : Int)) ((⟨(nth a ((i : Int) * 3 + (j : Int)),nth b ((i : Int) * 3 + (j : Int))),hk1,hk2⟩ : AddD).1.1 + (⟨(nth a ((i : Int) * 3 + (j : Int)),nth b ((i : Int) * 3 + (j : Int))),hk1,hk2⟩ : AddD).1.2)) 0) = ((fun j => nth (eachN a b (3 * i + j)) 0) (j + 1)) from by dsimp only; rw [show 3 * i + (j + 1) = (3 * i + j) + 1 from rfl,each_step hij])),(List.cons_eq_cons.2 ⟨(congrArg (fun z => ai z) (show (nth (lset (eachN a b (3 * i + j)) ((i : Int) * 3 + (j : Int)) ((⟨(nth a ((i : Int) * 3 + (j : Int)),nth b ((i : Int) * 3 + (j : Int))),hk1,hk2⟩ : AddD).1.1 + (⟨(nth a ((i : Int) * 3 + (j : Int)),nth b ((i : Int) * 3 + (j : Int))),hk1,hk2⟩ : AddD).1.2)) 1) = ((fun j => nth (eachN a b (3 * i + j)) 1) (j + 1)) from by dsimp only; rw [show 3 * i + (j + 1) = (3 * i + j) + 1 from rfl,each_step hij])),(List.cons_eq_cons.2 ⟨(congrArg (fun z => ai z) (show (nth (lset (eachN a b (3 * i + j)) ((i : Int) * 3 + (j : Int)) ((⟨(nth a ((i : Int) * 3 + (j : Int)),nth b ((i : Int) * 3 + (j : Int))),hk1,hk2⟩ : AddD).1.1 + (⟨(nth a ((i : Int) * 3 + (j : Int)),nth b ((i : Int) * 3 + (j : Int))),hk1,hk2⟩ : AddD).1.2)) 2) = ((fun j => nth (eachN a b (3 * i + j)) 2) (j + 1)) from by dsimp only; rw [show 3 * i + (j + 1) = (3 * i + j) + 1 from rfl,each_step hij])),(List.cons_eq_cons.2 ⟨(congrArg (fun z => ai z) (show (nth (lset (eachN a b (3 * i + j)) ((i : Int) * 3 + (j : Int)) ((⟨(nth a ((i : Int) * 3 + (j : Int)),nth b ((i : Int) * 3 + (j : Int))),hk1,hk2⟩ : AddD).1.1 + (⟨(nth a ((i : Int) * 3 + (j : Int)),nth b ((i : Int) * 3 + (j : Int))),hk1,hk2⟩ : AddD).1.2)) 3) = ((fun j => nth (eachN a b (3 * i + j)) 3) (j + 1)) from by dsimp only; rw [show 3 * i + (j + 1) = (3 * i + j) + 1 from rfl,each_step hij])),(List.cons_eq_cons.2 ⟨(congrArg (fun z => ai z) (show (nth (lset (eachN a b (3 * i + j)) ((i : Int) * 3 + (j : Int)) ((⟨(nth a ((i : Int) * 3 + (j : Int)),nth b ((i : Int) * 3 + (j : Int))),hk1,hk2⟩ : AddD).1.1 + (⟨(nth a ((i : Int) * 3 + (j : Int)),nth b ((i : Int) * 3 + (j : Int))),hk1,hk2⟩ : AddD).1.2)) 4) = ((fun j => nth (eachN a b (3 * i + j)) 4) (j + 1)) from by dsimp only; rw [show 3 * i + (j + 1) = (3 * i + j) + 1 from rfl,each_step hij])),(List.cons_eq_cons.2 ⟨(congrArg (fun z => ai z) (show (nth (lset (eachN a b (3 * i + j)) ((i : Int) * 3 + (j : Int)) ((⟨(nth a ((i : Int) * 3 + (j : Int)),nth b ((i : Int) * 3 + (j : Int))),hk1,hk2⟩ : AddD).1.1 + (⟨(nth a ((i : Int) * 3 + (j : Int)),nth b ((i : Int) * 3 + (j : Int))),hk1,hk2⟩ : AddD).1.2)) 5) = ((fun j => nth (eachN a b (3 * i + j)) 5) (j + 1)) from by dsimp only; rw [show 3 * i + (j + 1) = (3 * i + j) + 1 from rfl,each_step hij])),(List.cons_eq_cons.2 ⟨(congrArg (fun z => ai z) (show (nth (lset (eachN a b (3 * i + j)) ((i : Int) * 3 + (j : Int)) ((⟨(nth a ((i : Int) * 3 + (j : Int)),nth b ((i : Int) * 3 + (j : Int))),hk1,hk2⟩ : AddD).1.1 + (⟨(nth a ((i : Int) * 3 + (j : Int)),nth b ((i : Int) * 3 + (j : Int))),hk1,hk2⟩ : AddD).1.2)) 6) = ((fun j => nth (eachN a b (3 * i + j)) 6) (j + 1)) from by dsimp only; rw [show 3 * i + (j + 1) = (3 * i + j) + 1 from rfl,each_step hij])),(List.cons_eq_cons.2 ⟨(congrArg (fun z => ai z) (show (nth (lset (eachN a b (3 * i + j)) ((i : Int) * 3 + (j : Int)) ((⟨(nth a ((i : Int) * 3 + (j : Int)),nth b ((i : Int) * 3 + (j : Int))),hk1,hk2⟩ : AddD).1.1 + (⟨(nth a ((i : Int) * 3 + (j : Int)),nth b ((i : Int) * 3 + (j : Int))),hk1,hk2⟩ : AddD).1.2)) 7) = ((fun j => nth (eachN a b (3 * i + j)) 7) (j + 1)) from by dsimp only; rw [show 3 * i + (j + 1) = (3 * i + j) + 1 from rfl,each_step hij])),(List.cons_eq_cons.2 ⟨(congrArg (fun z => ai z) (show (nth (lset (eachN a b (3 * i + j)) ((i : Int) * 3 + (j : Int)) ((⟨(nth a ((i : Int) * 3 + (j : Int)),nth b ((i : Int) * 3 + (j : Int))),hk1,hk2⟩ : AddD).1.1 + (⟨(nth a ((i : Int) * 3 + (j : Int)),nth b ((i : Int) * 3 + (j : Int))),hk1,hk2⟩ : AddD).1.2)) 8) = ((fun j => nth (eachN a b (3 * i + j)) 8) (j + 1)) from by dsimp only; rw [show 3 * i + (j + 1) = (3 * i + j) + 1 from rfl,each_step hij])),(List.cons_eq_cons.2 ⟨(congrArg (fun z => ai z) (show (nth (lset (eachN a b (3 * i + j)) ((i : Int) * 3 + (j : Int)) ((⟨(nth a ((i : Int) * 3 + (j : Int)),nth b ((i : Int) * 3 + (j : Int))),hk1,hk2⟩ : AddD).1.1 + (⟨(nth a ((i : Int) * 3 + (j : Int)),nth b ((i : Int) * 3 + (j : Int))),hk1,hk2⟩ : AddD).1.2)) 9) = ((fun j => nth (eachN a b (3 * i + j)) 9) (j + 1)) from by dsimp only; rw [show 3 * i + (j + 1) = (3 * i + j) + 1 from rfl,each_step hij])),(List.cons_eq_cons.2 ⟨(congrArg (fun z => ai z) (show (nth (lset (eachN a b (3 * i + j)) ((i : Int) * 3 + (j : Int)) ((⟨(nth a ((i : Int) * 3 + (j : Int)),nth b ((i : Int) * 3 + (j : Int))),hk1,hk2⟩ : AddD).1.1 + (⟨(nth a ((i : Int) * 3 + (j : Int)),nth b ((i : Int) * 3 + (j : Int))),hk1,hk2⟩ : AddD).1.2)) 10) = ((fun j => nth (eachN a b (3 * i + j)) 10) (j + 1)) from by dsimp only; rw [show 3 * i + (j + 1) = (3 * i + j) + 1 from rfl,each_step hij])),(List.cons_eq_cons.2 ⟨(congrArg (fun z => ai z) (show (nth (lset (eachN a b (3 * i + j)) ((i : Int) * 3 + (j : Int)) ((⟨(nth a ((i : Int) * 3 + (j : Int)),nth b ((i : Int) * 3 + (j : Int))),hk1,hk2⟩ : AddD).1.1 + (⟨(nth a ((i : Int) * 3 + (j : Int)),nth b ((i : Int) * 3 + (j : Int))),hk1,hk2⟩ : AddD).1.2)) 11) = ((fun j => nth (eachN a b (3 * i + j)) 11) (j + 1)) from by dsimp only; rw [show 3 * i + (j + 1) = (3 * i + j) + 1 from rfl,each_step hij])),(Eq.refl [])⟩)⟩)⟩)⟩)⟩)⟩)⟩)⟩)⟩)⟩)⟩)⟩)),trivial⟩ rfl rfl rfl rfl rfl)
    · try simp only [cnd] at hc2
      refine WP.exit (EX.exit_then (EX.exit_then (EX.exit_blk (EX.blk (EX.then (WP.region ?_))))))
      refine WPl.v rfl (o_add rfl rfl (by first | omega | (simp; omega)) (by first | omega | (simp; omega))) ?_
      refine WPl.v rfl (o_move rfl) ?_
      refine WPl.nil ?_
      have hje : j = 3 := by omega
      refine EX.again (i + 1) id (by first | omega | (constructor <;> omega)) (by omega) (LeR.of ⟨rfl,rfl,rfl,rfl,rfl,trivial⟩ ⟨(lx rfl),trivial⟩ ⟨rfl,rfl,(congrArg (fun z => some (Ent.blk z 81)) (List.cons_eq_cons.2 ⟨(congrArg (fun z => ai z) (show (nth (eachN a b (3 * i + j)) 0) = ((fun i => nth (eachN a b (3 * i)) 0) (i + 1)) from by dsimp only; rw [show 3 * i + j = 3 * (i + 1) by omega])),(List.cons_eq_cons.2 ⟨(congrArg (fun z => ai z) (show (nth (eachN a b (3 * i + j)) 1) = ((fun i => nth (eachN a b (3 * i)) 1) (i + 1)) from by dsimp only; rw [show 3 * i + j = 3 * (i + 1) by omega])),(List.cons_eq_cons.2 ⟨(congrArg (fun z => ai z) (show (nth (eachN a b (3 * i + j)) 2) = ((fun i => nth (eachN a b (3 * i)) 2) (i + 1)) from by dsimp only; rw [show 3 * i + j = 3 * (i + 1) by omega])),(List.cons_eq_cons.2 ⟨(congrArg (fun z => ai z) (show (nth (eachN a b (3 * i + j)) 3) = ((fun i => nth (eachN a b (3 * i)) 3) (i + 1)) from by dsimp only; rw [show 3 * i + j = 3 * (i + 1) by omega])),(List.cons_eq_cons.2 ⟨(congrArg (fun z => ai z) (show (nth (eachN a b (3 * i + j)) 4) = ((fun i => nth (eachN a b (3 * i)) 4) (i + 1)) from by dsimp only; rw [show 3 * i + j = 3 * (i + 1) by omega])),(List.cons_eq_cons.2 ⟨(congrArg (fun z => ai z) (show (nth (eachN a b (3 * i + j)) 5) = ((fun i => nth (eachN a b (3 * i)) 5) (i + 1)) from by dsimp only; rw [show 3 * i + j = 3 * (i + 1) by omega])),(List.cons_eq_cons.2 ⟨(congrArg (fun z => ai z) (show (nth (eachN a b (3 * i + j)) 6) = ((fun i => nth (eachN a b (3 * i)) 6) (i + 1)) from by dsimp only; rw [show 3 * i + j = 3 * (i + 1) by omega])),(List.cons_eq_cons.2 ⟨(congrArg (fun z => ai z) (show (nth (eachN a b (3 * i + j)) 7) = ((fun i => nth (eachN a b (3 * i)) 7) (i + 1)) from by dsimp only; rw [show 3 * i + j = 3 * (i + 1) by omega])),(List.cons_eq_cons.2 ⟨(congrArg (fun z => ai z) (show (nth (eachN a b (3 * i + j)) 8) = ((fun i => nth (eachN a b (3 * i)) 8) (i + 1)) from by dsimp only; rw [show 3 * i + j = 3 * (i + 1) by omega])),(List.cons_eq_cons.2 ⟨(congrArg (fun z => ai z) (show (nth (eachN a b (3 * i + j)) 9) = ((fun i => nth (eachN a b (3 * i)) 9) (i + 1)) from by dsimp only; rw [show 3 * i + j = 3 * (i + 1) by omega])),(List.cons_eq_cons.2 ⟨(congrArg (fun z => ai z) (show (nth (eachN a b (3 * i + j)) 10) = ((fun i => nth (eachN a b (3 * i)) 10) (i + 1)) from by dsimp only; rw [show 3 * i + j = 3 * (i + 1) by omega])),(List.cons_eq_cons.2 ⟨(congrArg (fun z => ai z) (show (nth (eachN a b (3 * i + j)) 11) = ((fun i => nth (eachN a b (3 * i)) 11) (i + 1)) from by dsimp only; rw [show 3 * i + j = 3 * (i + 1) by omega])),(Eq.refl [])⟩)⟩)⟩)⟩)⟩)⟩)⟩)⟩)⟩)⟩)⟩)⟩)),trivial⟩ rfl rfl rfl rfl rfl)
  · try simp only [cnd] at hc1
    refine WP.exit (EX.exit_then (EX.exit_then (EX.exit_blk (EX.then (WP.seq (WP.region ?_))))))
    refine WPl.v rfl (o_ldpa G81 rfl rfl rfl) ?_
    refine WPl.s1 (o_stag G81 rfl rfl rfl ⟨rfl,rfl,rfl,rfl,rfl,rfl,rfl,rfl,rfl,rfl,rfl,rfl,trivial⟩ rfl rfl) ?_
    refine WPl.nil (EX.then (WP.ret ?_))
    have hie : i = 4 := by omega
    subst hie
    exact EX.fin id (.inl rfl) rfl (.cellg G81 rfl rfl rfl (.nil)) rfl (by simp [SV.res,El.res,At.res,keys]) trivial (by simp) (by simp)
theorem w36 {h : Hall} {p : Plan} : ∀ x ∈ ([.e (.g [.q 0,.q 1,.q 2,ai (h.change),.q 3,.q 4]),.e (.a (.q 5))] : List SV),x.res (keys (α := Pred) [(0,PL ETm (h.machs)),(1,PL EBd (h.buns)),(2,PL EP.int (h.trains)),(3,PL EP.int (h.bores)),(4,PL (EP.sl EP.int) (h.eds)),(5,PL (EP.sl EP.int) (p))]) := by simp [SV.res,El.res,At.res,keys]
theorem r36 {h : Hall} {p : Plan} : SV.res (keys (α := Pred) []) (.e (.g [ai (nth (needL h p) 0),ai (nth (needL h p) 1),ai (nth (needL h p) 2),ai (nth (needL h p) 3),ai (nth (needL h p) 4),ai (nth (needL h p) 5),ai (nth (needL h p) 6),ai (nth (needL h p) 7),ai (nth (needL h p) 8),ai (nth (needL h p) 9),ai (nth (needL h p) 10),ai (nth (needL h p) 11)])) := by simp [SV.res,El.res,At.res,keys]
set_option maxHeartbeats 4000000 in
theorem c36 (h : Hall) (p : Plan) (hm : h.Small) (hc : h.chk = true) (hp : isPlanR h p = true) (hr : RowsP p) : Sig Try.prog 36 [.e (.g [.q 0,.q 1,.q 2,ai (h.change),.q 3,.q 4]),.e (.a (.q 5))] [(0,PL ETm (h.machs)),(1,PL EBd (h.buns)),(2,PL EP.int (h.trains)),(3,PL EP.int (h.bores)),(4,PL (EP.sl EP.int) (h.eds)),(5,PL (EP.sl EP.int) (p))] (.e (.g [ai (nth (needL h p) 0),ai (nth (needL h p) 1),ai (nth (needL h p) 2),ai (nth (needL h p) 3),ai (nth (needL h p) 4),ai (nth (needL h p) 5),ai (nth (needL h p) 6),ai (nth (needL h p) 7),ai (nth (needL h p) 8),ai (nth (needL h p) 9),ai (nth (needL h p) 10),ai (nth (needL h p) 11)])) [] := by
  have hC := hallC hc
  have hP := planQ hp
  have hn := hr.n
  have hpn := hP.n
  have hbo := hC.o
  have hm3 := hC.m
  refine Sig.intro Try.func36 rfl 6 [(0,.e (.g [.q 0,.q 1,.q 2,ai (h.change),.q 3,.q 4])),(1,.e (.a (.q 5)))] rfl w36 rfl rfl fun I w => ?_
  refine WP.seq (WP.region ?_)
  refine WPl.l 6 7 rfl rfl rfl (o_boxg rfl) ?_
  refine WPl.l 7 8 rfl rfl rfl (o_alloc Z81) ?_
  refine WPl.nil (EX.then (WP.seq (WP.seq (WP.region ?_))))
  refine WPl.v rfl (o_move rfl) ?_
  refine WPl.v rfl (o_lenq L27 rfl (lx rfl)) ?_
  refine WPl.v rfl (o_move rfl) ?_
  refine WPl.nil (EX.then (WP.block ?_))
  refine WP.loop (Gh := Nat) (fun i => ⟨8,[(2,.e (.a (.p 6 (0)))),(4,.e (.a (.p 7 (0)))),(12,.e (.a (.q 5))),(13,.i ((p.length : Int))),(14,.i ((i : Int)))],[(0,PL ETm (h.machs)),(1,PL EBd (h.buns)),(2,PL EP.int (h.trains)),(3,PL EP.int (h.bores)),(4,PL (EP.sl EP.int) (h.eds)),(5,PL (EP.sl EP.int) (p))],[(6,.blk [.q 0,.q 1,.q 2,ai (h.change),.q 3,.q 4] 75),(7,.blk [ai (nth (needTo h p i) 0),ai (nth (needTo h p i) 1),ai (nth (needTo h p i) 2),ai (nth (needTo h p i) 3),ai (nth (needTo h p i) 4),ai (nth (needTo h p i) 5),ai (nth (needTo h p i) 6),ai (nth (needTo h p i) 7),ai (nth (needTo h p i) 8),ai (nth (needTo h p i) 9),ai (nth (needTo h p i) 10),ai (nth (needTo h p i) 11)] 81)],[],[]⟩) (fun i => i ≤ p.length) (fun i => p.length - i) (0) id ?_ (LeR.of ⟨rfl,rfl,rfl,rfl,rfl,trivial⟩ ⟨(lx rfl),(lx rfl),(lx rfl),(lx rfl),(lx rfl),(lx rfl),trivial⟩ ⟨rfl,rfl,trivial⟩ rfl rfl rfl rfl rfl) ?_
  · first | trivial | omega | (constructor <;> omega) | simp
  intro i hφ
  have hi : i ≤ p.length := hφ
  refine WP.seq (WP.region ?_)
  refine WPl.v rfl (o_lss rfl rfl) ?_
  refine WPl.nil (EX.then (WP.seq ?_))
  refine WP.cond rfl (fun hc1 => ?_) (fun hc1 => ?_)
  · try simp only [cnd] at hc1
    have hri := hr.r i (by omega)
    have hbi := hC.b i (by omega)
    refine WP.skip (EX.then (WP.seq (WP.block (WP.seq (WP.region ?_)))))
    refine WPl.v rfl (o_move rfl) ?_
    refine WPl.x 8 9 rfl rfl rfl (o_idx L27 rfl (lx rfl) rfl (by first | omega | (simp; omega)) (by first | omega | (simp; omega))) ?_
    refine WPl.x 9 10 rfl rfl rfl (o_ldqx S24 rfl (lx rfl) slx) ?_
    refine WPl.v rfl (o_assign rfl) ?_
    refine WPl.v rfl (o_assign rfl) ?_
    refine WPl.nil (EX.then (WP.seq (WP.region ?_)))
    refine WPl.l 10 11 rfl rfl rfl (o_alloc Z81) ?_
    refine WPl.nil (EX.then (WP.seq (WP.seq (WP.region ?_))))
    refine WPl.v rfl (o_move rfl) ?_
    refine WPl.v rfl (o_lenq L24 rfl (lx rfl)) ?_
    refine WPl.v rfl (o_move rfl) ?_
    refine WPl.nil (EX.then (WP.block ?_))
    refine WP.loop (Gh := Nat) (fun j => ⟨11,[(2,.e (.a (.p 6 (0)))),(4,.e (.a (.p 7 (0)))),(12,.e (.a (.q 5))),(13,.i ((p.length : Int))),(14,.i ((i : Int))),(15,.b (decide ((i : Int) < (p.length : Int)))),(16,.i ((i : Int))),(17,.e (.a (.q 8))),(18,.e (.a (.q 9))),(5,.i ((i : Int))),(6,.e (.a (.q 9))),(7,.e (.a (.p 10 (0)))),(19,.e (.a (.q 9))),(20,.i (((nth p (i : Int)).length : Int))),(21,.i ((j : Int)))],[(0,PL ETm (h.machs)),(1,PL EBd (h.buns)),(2,PL EP.int (h.trains)),(3,PL EP.int (h.bores)),(4,PL (EP.sl EP.int) (h.eds)),(5,PL (EP.sl EP.int) (p)),(8,PP (EP.sl EP.int) (nth p (i : Int))),(9,PL EP.int (nth p (i : Int)))],[(6,.blk [.q 0,.q 1,.q 2,ai (h.change),.q 3,.q 4] 75),(7,.blk [ai (nth (needTo h p i) 0),ai (nth (needTo h p i) 1),ai (nth (needTo h p i) 2),ai (nth (needTo h p i) 3),ai (nth (needTo h p i) 4),ai (nth (needTo h p i) 5),ai (nth (needTo h p i) 6),ai (nth (needTo h p i) 7),ai (nth (needTo h p i) 8),ai (nth (needTo h p i) 9),ai (nth (needTo h p i) 10),ai (nth (needTo h p i) 11)] 81),(10,.blk [ai (nth (rowTo h p i j) 0),ai (nth (rowTo h p i j) 1),ai (nth (rowTo h p i j) 2),ai (nth (rowTo h p i j) 3),ai (nth (rowTo h p i j) 4),ai (nth (rowTo h p i j) 5),ai (nth (rowTo h p i j) 6),ai (nth (rowTo h p i j) 7),ai (nth (rowTo h p i j) 8),ai (nth (rowTo h p i j) 9),ai (nth (rowTo h p i j) 10),ai (nth (rowTo h p i j) 11)] 81)],[],[]⟩) (fun j => j ≤ (nth p (i : Int)).length) (fun j => (nth p (i : Int)).length - j) (0) id ?_ (LeR.of ⟨rfl,rfl,rfl,rfl,rfl,rfl,rfl,rfl,rfl,rfl,rfl,rfl,rfl,rfl,rfl,trivial⟩ ⟨(lx rfl),(lx rfl),(lx rfl),(lx rfl),(lx rfl),(lx rfl),(lx rfl),(lx rfl),trivial⟩ ⟨rfl,rfl,rfl,trivial⟩ rfl rfl rfl rfl rfl) ?_
    · first | trivial | omega | (constructor <;> omega) | simp
    intro j hφ
    have hj : j ≤ (nth p (i : Int)).length := hφ
    refine WP.seq (WP.region ?_)
    refine WPl.v rfl (o_lss rfl rfl) ?_
    refine WPl.nil (EX.then (WP.seq ?_))
    refine WP.cond rfl (fun hc2 => ?_) (fun hc2 => ?_)
    · try simp only [cnd] at hc2
      have hx := hP.b i (by omega) j (by omega)
      have hxe := hC.ed _ hx.1 hx.2
      have hpl := hm.p (nth h.buns (nth (nth p (i : Int)) (j : Int))).edition.toNat (by omega)
      rw [show (((nth h.buns (nth (nth p (i : Int)) (j : Int))).edition.toNat : Nat) : Int) = (nth h.buns (nth (nth p (i : Int)) (j : Int))).edition by omega] at hpl
      refine WP.skip (EX.then (WP.seq (WP.block (WP.seq (WP.region ?_)))))
      refine WPl.x 11 12 rfl rfl rfl (o_idx L24 rfl (lx rfl) rfl (by first | omega | (simp; omega)) (by first | omega | (simp; omega))) ?_
      refine WPl.v rfl (o_ldq S3 rfl (lx rfl) intc) ?_
      refine WPl.v rfl (o_assign rfl) ?_
      refine WPl.nil (EX.then (WP.seq ?_))
      refine WP.draw (nf := 15) [⟨[28,29,30,31,32,33,34,35,39],[12],[],[],[]⟩,⟨[28,29,30,31,32,33,34,35,39],[12],[],[],[0]⟩,⟨[28,29,30,31,32,33,34,35,39],[12],[],[],[0,1]⟩,⟨[25,26,27,32,39],[],[],[],[]⟩,⟨[25,26,27,32,39],[],[],[],[3]⟩,⟨[25,26,27,32,39],[],[],[],[3,4]⟩,⟨[25,26,27,32,39],[],[],[],[3,4,5]⟩,⟨[25,26,27,28,29,30,31,39],[],[],[],[]⟩,⟨[25,26,27,39],[],[12],[12],[3,4,5,6,7]⟩,⟨[25,26,27,39],[],[],[],[3,4,5,6,7,8]⟩,⟨[25,26,27,39],[],[],[],[3,4,5,6,7,8,9]⟩,⟨[39],[],[13],[13],[0,1,2,3,4,5,6,7,8,9,10]⟩,⟨[39],[],[14],[14],[0,1,2,3,4,5,6,7,8,9,10,11]⟩,⟨[39],[],[],[],[0,1,2,3,4,5,6,7,8,9,10,11,12]⟩,⟨[25,26,27,28,29,30,31,32,33,34,35,36,37,38],[12,13,14],[],[],[]⟩] (by kernel_rfl) (by kernel_rfl) ?_
      refine DRQ.v rfl rfl rfl (o_fldp F75_0 rfl) ?_
      refine DRQ.v rfl rfl rfl (o_fldp F29_2 rfl) ?_
      refine DRQ.v rfl rfl rfl (o_ldp S27 rfl rfl rfl) ?_
      refine DRQ.v rfl rfl rfl (o_fldp F75_0 rfl) ?_
      refine DRQ.v rfl rfl rfl (o_fldp F29_0 rfl) ?_
      refine DRQ.v rfl rfl rfl (o_fldp F26_1 rfl) ?_
      refine DRQ.v rfl rfl rfl (o_ldp S23 rfl rfl rfl) ?_
      refine DRQ.v rfl rfl rfl (o_move rfl) ?_
      refine DRQ.x 12 rfl rfl rfl rfl (o_idx L23 rfl (lx rfl) rfl (by first | omega | (simp; omega)) (by first | omega | (simp; omega))) ?_
      refine DRQ.v rfl rfl rfl (o_fldq F58_2 rfl (lx rfl)) ?_
      refine DRQ.v rfl rfl rfl (o_lde S3 rfl (lx rfl) (strI rfl)) ?_
      refine DRQ.x 13 rfl rfl rfl rfl (o_idx L27 rfl (lx rfl) rfl (by first | omega | (simp; omega)) (by first | omega | (simp; omega))) ?_
      refine DRQ.x 14 rfl rfl rfl rfl (o_ldqx S24 rfl (lx rfl) slx) ?_
      refine DRQ.v rfl rfl rfl (o_lenq L24 rfl (lx rfl)) ?_
      refine DRQ.v rfl rfl rfl (o_move rfl) ?_
      refine DRQ.nil' ?_
      refine EX.then (WP.block ?_)
      refine WP.loop (Gh := Nat) (fun k => ⟨15,[(2,.e (.a (.p 6 (0)))),(4,.e (.a (.p 7 (0)))),(12,.e (.a (.q 5))),(13,.i ((p.length : Int))),(14,.i ((i : Int))),(15,.b (decide ((i : Int) < (p.length : Int)))),(16,.i ((i : Int))),(17,.e (.a (.q 8))),(18,.e (.a (.q 9))),(5,.i ((i : Int))),(6,.e (.a (.q 9))),(7,.e (.a (.p 10 (0)))),(19,.e (.a (.q 9))),(20,.i (((nth p (i : Int)).length : Int))),(21,.i ((j : Int))),(22,.b (decide ((j : Int) < ((nth p (i : Int)).length : Int)))),(23,.e (.a (.q 11))),(24,.i (nth (nth p (i : Int)) (j : Int))),(9,.i (nth (nth p (i : Int)) (j : Int))),(25,.e (.a (.p 6 (0)))),(26,.e (.a (.p 6 (5)))),(27,.e (.a (.q 4))),(28,.e (.a (.p 6 (0)))),(29,.e (.a (.p 6 (0)))),(30,.e (.a (.p 6 (1)))),(31,.e (.a (.q 1))),(32,.i (nth (nth p (i : Int)) (j : Int))),(33,.e (.a (.q 12))),(34,.e (.a (.e 12 (2)))),(35,.i ((nth h.buns (nth (nth p (i : Int)) (j : Int))).edition)),(36,.e (.a (.q 13))),(37,.e (.a (.q 14))),(38,.i (((nth h.eds ((nth h.buns (nth (nth p (i : Int)) (j : Int))).edition)).length : Int))),(39,.i ((k : Int)))],[(0,PL ETm (h.machs)),(1,PL EBd (h.buns)),(2,PL EP.int (h.trains)),(3,PL EP.int (h.bores)),(4,PL (EP.sl EP.int) (h.eds)),(5,PL (EP.sl EP.int) (p)),(8,PP (EP.sl EP.int) (nth p (i : Int))),(9,PL EP.int (nth p (i : Int))),(11,PP EP.int (nth (nth p (i : Int)) (j : Int))),(12,PP EBd (nth h.buns (nth (nth p (i : Int)) (j : Int)))),(13,PP (EP.sl EP.int) (nth h.eds ((nth h.buns (nth (nth p (i : Int)) (j : Int))).edition))),(14,PL EP.int (nth h.eds ((nth h.buns (nth (nth p (i : Int)) (j : Int))).edition)))],[(6,.blk [.q 0,.q 1,.q 2,ai (h.change),.q 3,.q 4] 75),(7,.blk [ai (nth (needTo h p i) 0),ai (nth (needTo h p i) 1),ai (nth (needTo h p i) 2),ai (nth (needTo h p i) 3),ai (nth (needTo h p i) 4),ai (nth (needTo h p i) 5),ai (nth (needTo h p i) 6),ai (nth (needTo h p i) 7),ai (nth (needTo h p i) 8),ai (nth (needTo h p i) 9),ai (nth (needTo h p i) 10),ai (nth (needTo h p i) 11)] 81),(10,.blk [ai (nth (setPg (rowTo h p i j) (nth h.eds (nth h.buns (nth (nth p (i : Int)) (j : Int))).edition) (nth h.bores (i : Int)) k) 0),ai (nth (setPg (rowTo h p i j) (nth h.eds (nth h.buns (nth (nth p (i : Int)) (j : Int))).edition) (nth h.bores (i : Int)) k) 1),ai (nth (setPg (rowTo h p i j) (nth h.eds (nth h.buns (nth (nth p (i : Int)) (j : Int))).edition) (nth h.bores (i : Int)) k) 2),ai (nth (setPg (rowTo h p i j) (nth h.eds (nth h.buns (nth (nth p (i : Int)) (j : Int))).edition) (nth h.bores (i : Int)) k) 3),ai (nth (setPg (rowTo h p i j) (nth h.eds (nth h.buns (nth (nth p (i : Int)) (j : Int))).edition) (nth h.bores (i : Int)) k) 4),ai (nth (setPg (rowTo h p i j) (nth h.eds (nth h.buns (nth (nth p (i : Int)) (j : Int))).edition) (nth h.bores (i : Int)) k) 5),ai (nth (setPg (rowTo h p i j) (nth h.eds (nth h.buns (nth (nth p (i : Int)) (j : Int))).edition) (nth h.bores (i : Int)) k) 6),ai (nth (setPg (rowTo h p i j) (nth h.eds (nth h.buns (nth (nth p (i : Int)) (j : Int))).edition) (nth h.bores (i : Int)) k) 7),ai (nth (setPg (rowTo h p i j) (nth h.eds (nth h.buns (nth (nth p (i : Int)) (j : Int))).edition) (nth h.bores (i : Int)) k) 8),ai (nth (setPg (rowTo h p i j) (nth h.eds (nth h.buns (nth (nth p (i : Int)) (j : Int))).edition) (nth h.bores (i : Int)) k) 9),ai (nth (setPg (rowTo h p i j) (nth h.eds (nth h.buns (nth (nth p (i : Int)) (j : Int))).edition) (nth h.bores (i : Int)) k) 10),ai (nth (setPg (rowTo h p i j) (nth h.eds (nth h.buns (nth (nth p (i : Int)) (j : Int))).edition) (nth h.bores (i : Int)) k) 11)] 81)],[],[]⟩) (fun k => k ≤ (nth h.eds (nth h.buns (nth (nth p (i : Int)) (j : Int))).edition).length) (fun k => (nth h.eds (nth h.buns (nth (nth p (i : Int)) (j : Int))).edition).length - k) (0) id ?_ (LeR.of ⟨rfl,rfl,rfl,rfl,rfl,rfl,rfl,rfl,rfl,rfl,rfl,rfl,rfl,rfl,rfl,rfl,rfl,rfl,rfl,rfl,rfl,rfl,rfl,rfl,rfl,rfl,rfl,rfl,rfl,rfl,rfl,rfl,rfl,rfl,trivial⟩ ⟨(lx rfl),(lx rfl),(lx rfl),(lx rfl),(lx rfl),(lx rfl),(lx rfl),(lx rfl),(lx rfl),(lx rfl),(lx rfl),(lx rfl),trivial⟩ ⟨rfl,rfl,rfl,trivial⟩ rfl rfl rfl rfl rfl) ?_
      · first | trivial | omega | (constructor <;> omega) | simp
      intro k hφ
      have hk : k ≤ (nth h.eds (nth h.buns (nth (nth p (i : Int)) (j : Int))).edition).length := hφ
      refine WP.seq (WP.region ?_)
      refine WPl.v rfl (o_lss rfl rfl) ?_
      refine WPl.nil (EX.then (WP.seq ?_))
      refine WP.cond rfl (fun hc3 => ?_) (fun hc3 => ?_)
      · try simp only [cnd] at hc3
        have hpg : 0 ≤ nth (nth h.eds (nth h.buns (nth (nth p (i : Int)) (j : Int))).edition) (k : Int) ∧ nth (nth h.eds (nth h.buns (nth (nth p (i : Int)) (j : Int))).edition) (k : Int) < 4 := edOf_in hC hx.1 hx.2 k (show k < (nth h.eds (nth h.buns (nth (nth p (i : Int)) (j : Int))).edition).length by omega)
        refine WP.skip (EX.then (WP.seq (WP.block (WP.seq (WP.region ?_)))))
        refine WPl.x 15 16 rfl rfl rfl (o_idx L24 rfl (lx rfl) rfl (by first | omega | (simp; omega)) (by first | omega | (simp; omega))) ?_
        refine WPl.v rfl (o_ldq S3 rfl (lx rfl) intc) ?_
        refine WPl.v rfl (o_assign rfl) ?_
        refine WPl.nil (EX.then ?_)
        refine WP.draw (nf := 17) [⟨[44,45,46,47,48,49],[16],[],[],[]⟩,⟨[43,47,50],[],[],[],[]⟩,⟨[43,47,50],[],[],[],[1]⟩,⟨[43,47,50],[],[],[],[1,2]⟩,⟨[43,44,45,46,50],[],[],[],[]⟩,⟨[43,50],[],[16],[16],[1,2,3,4]⟩,⟨[43,50],[],[],[],[1,2,3,4,5]⟩,⟨[44,45,46,47,48,49],[16],[],[],[0]⟩,⟨[],[],[],[],[0,1,2,3,4,5,6,7]⟩,⟨[],[],[],[10],[0,1,2,3,4,5,6,7,8]⟩] (by kernel_rfl) (by kernel_rfl) ?_
        refine DRQ.v rfl rfl rfl (o_move rfl) ?_
        refine DRQ.v rfl rfl rfl (o_fldp F75_0 rfl) ?_
        refine DRQ.v rfl rfl rfl (o_fldp F29_1 rfl) ?_
        refine DRQ.v rfl rfl rfl (o_ldp S24 rfl rfl rfl) ?_
        refine DRQ.v rfl rfl rfl (o_move rfl) ?_
        refine DRQ.x 16 rfl rfl rfl rfl (o_idx L24 rfl (lx rfl) rfl (by first | omega | (simp; omega)) (by first | omega | (simp; omega))) ?_
        refine DRQ.v rfl rfl rfl (o_ldq S3 rfl (lx rfl) intc) ?_
        refine DRQ.v rfl rfl rfl (o_idxpr A81 rfl rfl (by first | omega | (simp; omega)) (by first | omega | (simp; omega))) ?_
        refine DRQ.v rfl rfl rfl (o_idxpc ((nth (nth h.eds ((nth h.buns (nth (nth p (i : Int)) (j : Int))).edition)) (k : Int)) * 3 + (nth h.bores (i : Int))) A79 rfl rfl (by first | omega | (simp; omega)) (by first | omega | (simp; omega)) (by omega)) ?_
        refine DRQ.s 10 rfl rfl rfl (o_stpn (n := 12) (l := setPg (rowTo h p i j) (nth h.eds (nth h.buns (nth (nth p (i : Int)) (j : Int))).edition) (nth h.bores (i : Int)) k) (cs' := [ai (nth (lset (setPg (rowTo h p i j) (nth h.eds (nth h.buns (nth (nth p (i : Int)) (j : Int))).edition) (nth h.bores (i : Int)) k) ((nth (nth h.eds ((nth h.buns (nth (nth p (i : Int)) (j : Int))).edition)) (k : Int)) * 3 + (nth h.bores (i : Int))) 1) 0),ai (nth (lset (setPg (rowTo h p i j) (nth h.eds (nth h.buns (nth (nth p (i : Int)) (j : Int))).edition) (nth h.bores (i : Int)) k) ((nth (nth h.eds ((nth h.buns (nth (nth p (i : Int)) (j : Int))).edition)) (k : Int)) * 3 + (nth h.bores (i : Int))) 1) 1),ai (nth (lset (setPg (rowTo h p i j) (nth h.eds (nth h.buns (nth (nth p (i : Int)) (j : Int))).edition) (nth h.bores (i : Int)) k) ((nth (nth h.eds ((nth h.buns (nth (nth p (i : Int)) (j : Int))).edition)) (k : Int)) * 3 + (nth h.bores (i : Int))) 1) 2),ai (nth (lset (setPg (rowTo h p i j) (nth h.eds (nth h.buns (nth (nth p (i : Int)) (j : Int))).edition) (nth h.bores (i : Int)) k) ((nth (nth h.eds ((nth h.buns (nth (nth p (i : Int)) (j : Int))).edition)) (k : Int)) * 3 + (nth h.bores (i : Int))) 1) 3),ai (nth (lset (setPg (rowTo h p i j) (nth h.eds (nth h.buns (nth (nth p (i : Int)) (j : Int))).edition) (nth h.bores (i : Int)) k) ((nth (nth h.eds ((nth h.buns (nth (nth p (i : Int)) (j : Int))).edition)) (k : Int)) * 3 + (nth h.bores (i : Int))) 1) 4),ai (nth (lset (setPg (rowTo h p i j) (nth h.eds (nth h.buns (nth (nth p (i : Int)) (j : Int))).edition) (nth h.bores (i : Int)) k) ((nth (nth h.eds ((nth h.buns (nth (nth p (i : Int)) (j : Int))).edition)) (k : Int)) * 3 + (nth h.bores (i : Int))) 1) 5),ai (nth (lset (setPg (rowTo h p i j) (nth h.eds (nth h.buns (nth (nth p (i : Int)) (j : Int))).edition) (nth h.bores (i : Int)) k) ((nth (nth h.eds ((nth h.buns (nth (nth p (i : Int)) (j : Int))).edition)) (k : Int)) * 3 + (nth h.bores (i : Int))) 1) 6),ai (nth (lset (setPg (rowTo h p i j) (nth h.eds (nth h.buns (nth (nth p (i : Int)) (j : Int))).edition) (nth h.bores (i : Int)) k) ((nth (nth h.eds ((nth h.buns (nth (nth p (i : Int)) (j : Int))).edition)) (k : Int)) * 3 + (nth h.bores (i : Int))) 1) 7),ai (nth (lset (setPg (rowTo h p i j) (nth h.eds (nth h.buns (nth (nth p (i : Int)) (j : Int))).edition) (nth h.bores (i : Int)) k) ((nth (nth h.eds ((nth h.buns (nth (nth p (i : Int)) (j : Int))).edition)) (k : Int)) * 3 + (nth h.bores (i : Int))) 1) 8),ai (nth (lset (setPg (rowTo h p i j) (nth h.eds (nth h.buns (nth (nth p (i : Int)) (j : Int))).edition) (nth h.bores (i : Int)) k) ((nth (nth h.eds ((nth h.buns (nth (nth p (i : Int)) (j : Int))).edition)) (k : Int)) * 3 + (nth h.bores (i : Int))) 1) 9),ai (nth (lset (setPg (rowTo h p i j) (nth h.eds (nth h.buns (nth (nth p (i : Int)) (j : Int))).edition) (nth h.bores (i : Int)) k) ((nth (nth h.eds ((nth h.buns (nth (nth p (i : Int)) (j : Int))).edition)) (k : Int)) * 3 + (nth h.bores (i : Int))) 1) 10),ai (nth (lset (setPg (rowTo h p i j) (nth h.eds (nth h.buns (nth (nth p (i : Int)) (j : Int))).edition) (nth h.bores (i : Int)) k) ((nth (nth h.eds ((nth h.buns (nth (nth p (i : Int)) (j : Int))).edition)) (k : Int)) * 3 + (nth h.bores (i : Int))) 1) 11)]) S3 rfl rfl rfl rfl rfl (by rw [setPg_len,rowTo_len]) (by omega) (by omega)) ?_
        refine DRQ.nil' ?_
        refine EX.blk (EX.then (WP.region ?_))
        refine WPl.v rfl (o_add rfl rfl (by first | omega | (simp; omega)) (by first | omega | (simp; omega))) ?_
        refine WPl.v rfl (o_move rfl) ?_
        refine WPl.nil ?_
        refine EX.again (k + 1) id (by first | omega | (constructor <;> omega)) (by omega) (LeR.of ⟨rfl,rfl,rfl,rfl,rfl,rfl,rfl,rfl,rfl,rfl,rfl,rfl,rfl,rfl,rfl,rfl,rfl,rfl,rfl,rfl,rfl,rfl,rfl,rfl,rfl,rfl,rfl,rfl,rfl,rfl,rfl,rfl,rfl,rfl,trivial⟩ ⟨(lx rfl),(lx rfl),(lx rfl),(lx rfl),(lx rfl),(lx rfl),(lx rfl),(lx rfl),(lx rfl),(lx rfl),(lx rfl),(lx rfl),trivial⟩ ⟨rfl,rfl,rfl,trivial⟩ rfl rfl rfl rfl rfl)
      · try simp only [cnd] at hc3
        refine WP.exit (EX.exit_then (EX.exit_then (EX.exit_blk (EX.blk (EX.then (WP.region ?_))))))
        have hke : k = (nth h.eds (nth h.buns (nth (nth p (i : Int)) (j : Int))).edition).length := by omega
        rw [show setPg (rowTo h p i j) (nth h.eds (nth h.buns (nth (nth p (i : Int)) (j : Int))).edition) (nth h.bores (i : Int)) k = setPg (rowTo h p i j) (nth h.eds (nth h.buns (nth (nth p (i : Int)) (j : Int))).edition) (nth h.bores (i : Int)) (nth h.eds (nth h.buns (nth (nth p (i : Int)) (j : Int))).edition).length from by rw [← hke]]
        refine WPl.v rfl (o_add rfl rfl (by first | omega | (simp; omega)) (by first | omega | (simp; omega))) ?_
        refine WPl.v rfl (o_move rfl) ?_
        refine WPl.nil ?_
        refine EX.again (j + 1) id (by first | omega | (constructor <;> omega)) (by omega) (LeR.of ⟨rfl,rfl,rfl,rfl,rfl,rfl,rfl,rfl,rfl,rfl,rfl,rfl,rfl,rfl,rfl,trivial⟩ ⟨(lx rfl),(lx rfl),(lx rfl),(lx rfl),(lx rfl),(lx rfl),(lx rfl),(lx rfl),trivial⟩ ⟨rfl,rfl,rfl,trivial⟩ rfl rfl rfl rfl rfl)
    · try simp only [cnd] at hc2
      refine WP.exit (EX.exit_then (EX.exit_then (EX.exit_blk (EX.then (WP.region ?_)))))
      have hje : j = (nth p (i : Int)).length := by omega
      rw [show rowTo h p i j = rowTo h p i (nth p (i : Int)).length from by rw [← hje]]
      refine WPl.v rfl (o_ldpa G81 rfl rfl rfl) ?_
      refine WPl.v rfl (o_ldpa G81 rfl rfl rfl) ?_
      refine WPl.imp (Imp.nam 11 12 (.func (.func 68) #[] #[]) (R := (Add2).and (Pred.is (.func (.func 68) #[] #[]))) (fun I => FvP.namee (fun (o : AddD) => (c68 o.1.1 o.1.2 o.2.1 o.2.2)) e68 (fun _ => (by simp [SV.res,El.res,At.res,keys])) I) rfl rfl) ?_
      refine WPl.cs 12 rfl rfl rfl rfl (o_sigc 12 (ren [(0,11)]) (c67 (needTo h p i) (rowTo h p i (nth p (i : Int)).length) (needTo_len h p i) (rowTo_len h p i _) (fun k hk => by have h1 := needTo_nth hC hP i (by omega) k hk; omega) (fun k hk => by rw [row_needs hC hP (show i < p.length by omega) hk]; split <;> omega)) e67 rfl rfl ⟨.inl rfl,.inl rfl,.inr ⟨_,_,rfl,fun _ => rfl,(lxr rfl)⟩,trivial⟩ w67 ⟨(lxl rfl),trivial⟩ r67) ?_
      refine WPl.s1 (o_stag G81 rfl rfl rfl ⟨rfl,rfl,rfl,rfl,rfl,rfl,rfl,rfl,rfl,rfl,rfl,rfl,trivial⟩ rfl rfl) ?_
      refine WPl.nil (EX.blk (EX.then (WP.region ?_)))
      refine WPl.v rfl (o_add rfl rfl (by first | omega | (simp; omega)) (by first | omega | (simp; omega))) ?_
      refine WPl.v rfl (o_move rfl) ?_
      refine WPl.nil ?_
      refine EX.again (i + 1) id (by first | omega | (constructor <;> omega)) (by omega) (LeR.of ⟨rfl,rfl,rfl,rfl,rfl,trivial⟩ ⟨(lx rfl),(lx rfl),(lx rfl),(lx rfl),(lx rfl),(lx rfl),trivial⟩ ⟨rfl,rfl,trivial⟩ rfl rfl rfl rfl rfl)
  · try simp only [cnd] at hc1
    refine WP.exit (EX.exit_then (EX.exit_then (EX.exit_blk (EX.then (WP.seq (WP.region ?_))))))
    refine WPl.v rfl (o_ldpa G81 rfl rfl rfl) ?_
    refine WPl.s1 (o_stag G81 rfl rfl rfl ⟨rfl,rfl,rfl,rfl,rfl,rfl,rfl,rfl,rfl,rfl,rfl,rfl,trivial⟩ rfl rfl) ?_
    refine WPl.nil (EX.then (WP.ret ?_))
    have hie : i = p.length := by omega
    subst hie
    rw [show needL h p = needTo h p p.length from rfl]
    exact EX.fin id (.inl rfl) rfl (.cellg G81 rfl rfl rfl (.nil)) rfl (by simp [SV.res,El.res,At.res,keys]) trivial (by simp) (by simp)
theorem w37 {L : List Int} : ∀ x ∈ ([.e (.g [ai (nth L 0),ai (nth L 1),ai (nth L 2),ai (nth L 3),ai (nth L 4),ai (nth L 5),ai (nth L 6),ai (nth L 7),ai (nth L 8),ai (nth L 9),ai (nth L 10),ai (nth L 11)])] : List SV),x.res (keys (α := Pred) []) := by simp [SV.res,El.res,At.res,keys]
theorem r37 {L : List Int} : SV.res (keys (α := Pred) [(0,PL EPl (setOf L))]) (.e (.a (.q 0))) := by simp [SV.res,El.res,At.res,keys]
set_option maxHeartbeats 4000000 in
theorem c37 (L : List Int) (hL : L.length = 12) : Sig Try.prog 37 [.e (.g [ai (nth L 0),ai (nth L 1),ai (nth L 2),ai (nth L 3),ai (nth L 4),ai (nth L 5),ai (nth L 6),ai (nth L 7),ai (nth L 8),ai (nth L 9),ai (nth L 10),ai (nth L 11)])] [] (.e (.a (.q 0))) [(0,PL EPl (setOf L))] := by
  refine Sig.intro Try.func37 rfl 0 [(0,.e (.g [ai (nth L 0),ai (nth L 1),ai (nth L 2),ai (nth L 3),ai (nth L 4),ai (nth L 5),ai (nth L 6),ai (nth L 7),ai (nth L 8),ai (nth L 9),ai (nth L 10),ai (nth L 11)]))] rfl w37 rfl rfl fun I w => ?_
  refine WP.seq (WP.region ?_)
  refine WPl.l 0 1 rfl rfl rfl (o_boxg rfl) ?_
  refine WPl.v rfl (o_assign rfl) ?_
  refine WPl.nil (EX.then (WP.seq (WP.region ?_)))
  refine WPl.v rfl (o_assign rfl) ?_
  refine WPl.imp (Imp.namo EPl 1 2 66 rfl rfl) ?_
  refine WPl.imp (Imp.swF 3 1 rfl (lx rfl)) ?_
  refine WPl.nil (EX.then (WP.seq (WP.seq (WP.region ?_))))
  refine WPl.v rfl (o_ldpa G81 rfl rfl rfl) ?_
  refine WPl.v rfl (o_move rfl) ?_
  refine WPl.nil (EX.then (WP.block ?_))
  refine WP.loop (Gh := Nat) (fun i => ⟨2,[(2,.e (.a (.v (.slice none 0 0)))),(3,.e (.a (.q 1))),(8,.e (.g [ai (nth L 0),ai (nth L 1),ai (nth L 2),ai (nth L 3),ai (nth L 4),ai (nth L 5),ai (nth L 6),ai (nth L 7),ai (nth L 8),ai (nth L 9),ai (nth L 10),ai (nth L 11)])),(9,.i ((i : Int)))],[],[(1,.own 66 EPl.size (setTo L (3 * i)).length (RP EPl (setTo L (3 * i))))],[],[]⟩) (fun i => i ≤ 4) (fun i => 4 - i) (0) id ?_ (LeR.of ⟨rfl,rfl,rfl,rfl,trivial⟩ trivial ⟨rfl,trivial⟩ rfl rfl rfl rfl rfl) ?_
  · first | trivial | omega | (constructor <;> omega) | simp
  intro i hφ
  have hi : i ≤ 4 := hφ
  refine WP.seq (WP.region ?_)
  refine WPl.v rfl (o_lss rfl rfl) ?_
  refine WPl.nil (EX.then (WP.seq ?_))
  refine WP.cond rfl (fun hc1 => ?_) (fun hc1 => ?_)
  · try simp only [cnd] at hc1
    refine WP.skip (EX.then (WP.seq (WP.block (WP.seq (WP.region ?_)))))
    refine WPl.v rfl (o_move rfl) ?_
    refine WPl.v rfl (o_idxv Try.underlying81 G79 rfl rfl (by omega) (by omega) (row12 (by omega))) ?_
    refine WPl.l 2 3 rfl rfl rfl (o_alloc Z79) ?_
    refine WPl.v rfl (o_assign rfl) ?_
    refine WPl.s1 (o_stag G79 rfl rfl rfl ⟨rfl,rfl,rfl,trivial⟩ rfl rfl) ?_
    refine WPl.nil (EX.then (WP.seq (WP.region ?_)))
    refine WPl.v rfl (o_ldpa G79 rfl rfl rfl) ?_
    refine WPl.v rfl (o_move rfl) ?_
    refine WPl.nil (EX.then (WP.block ?_))
    refine WP.loop (Gh := Nat) (fun j => ⟨3,[(2,.e (.a (.v (.slice none 0 0)))),(3,.e (.a (.q 1))),(8,.e (.g [ai (nth L 0),ai (nth L 1),ai (nth L 2),ai (nth L 3),ai (nth L 4),ai (nth L 5),ai (nth L 6),ai (nth L 7),ai (nth L 8),ai (nth L 9),ai (nth L 10),ai (nth L 11)])),(9,.i ((i : Int))),(10,.b (decide ((i : Int) < 4))),(11,.i ((i : Int))),(12,.e (.g [ai (nth L ((i : Int) * 3 + 0)),ai (nth L ((i : Int) * 3 + 1)),ai (nth L ((i : Int) * 3 + 2))])),(5,.e (.a (.p 2 (0)))),(4,.i ((i : Int))),(13,.e (.g [ai (nth L ((i : Int) * 3 + 0)),ai (nth L ((i : Int) * 3 + 1)),ai (nth L ((i : Int) * 3 + 2))])),(14,.i ((j : Int)))],[],[(1,.own 66 EPl.size (setTo L (3 * i + j)).length (RP EPl (setTo L (3 * i + j)))),(2,.blk [ai (nth L ((i : Int) * 3 + 0)),ai (nth L ((i : Int) * 3 + 1)),ai (nth L ((i : Int) * 3 + 2))] 79)],[],[]⟩) (fun j => j ≤ 3) (fun j => 3 - j) (0) id ?_ (LeR.of ⟨rfl,rfl,rfl,rfl,rfl,rfl,rfl,rfl,rfl,rfl,rfl,trivial⟩ trivial ⟨rfl,rfl,trivial⟩ rfl rfl rfl rfl rfl) ?_
    · first | trivial | omega | (constructor <;> omega) | simp
    intro j hφ
    have hj : j ≤ 3 := hφ
    refine WP.seq (WP.region ?_)
    refine WPl.v rfl (o_lss rfl rfl) ?_
    refine WPl.nil (EX.then (WP.seq ?_))
    refine WP.cond rfl (fun hc2 => ?_) (fun hc2 => ?_)
    · try simp only [cnd] at hc2
      refine WP.skip (EX.then (WP.seq (WP.block (WP.seq (WP.region ?_)))))
      refine WPl.v rfl (o_move rfl) ?_
      refine WPl.v rfl (o_idxv1 Try.underlying79 S3 rfl rfl (by omega) (by omega) (col3 (by omega))) ?_
      refine WPl.v rfl (o_assign rfl) ?_
      refine WPl.v rfl (o_assign rfl) ?_
      refine WPl.nil (EX.then (WP.seq (WP.region ?_)))
      refine WPl.v rfl (o_move rfl) ?_
      refine WPl.v rfl (o_gtr rfl rfl) ?_
      refine WPl.nil (EX.then ?_)
      refine WP.cond rfl (fun hc3 => ?_) (fun hc3 => ?_)
      · try simp only [cnd] at hc3
        refine WP.region ?_
        refine WPl.v rfl (o_move rfl) ?_
        refine WPl.v rfl (o_move rfl) ?_
        refine WPl.v rfl (o_move rfl) ?_
        refine WPl.v rfl (o_move rfl) ?_
        refine WPl.v rfl (o_build B66 rfl ⟨rfl,rfl,rfl,trivial⟩ rfl rfl) ?_
        refine WPl.l 3 4 rfl rfl rfl (o_bsl (E := EPl) (l := [(⟨(i : Int),(j : Int),nth L ((i : Int) * 3 + (j : Int))⟩ : Plate)]) R44 rfl rfl (.cons (⟨rfl,rfl,rfl,trivial⟩) rfl (eok_str ⟨rfl,rfl,rfl,trivial⟩) (.nil)) rfl rfl) ?_
        refine WPl.u1 (k := 4) (m := 5) rfl rfl rfl (o_appo R44 EP.str_one rfl rfl rfl rfl (by have h1 := setTo_len L (3 * i + j); first | omega | (simp; omega)) (by have h1 := setTo_len L (3 * i + j); first | omega | (simp; omega))) ?_
        refine WPl.v rfl (o_assign rfl) ?_
        refine WPl.nil (EX.blk (EX.then (WP.region ?_)))
        refine WPl.v rfl (o_add rfl rfl (by first | omega | (simp; omega)) (by first | omega | (simp; omega))) ?_
        refine WPl.v rfl (o_move rfl) ?_
        refine WPl.nil ?_
        refine EX.again (j + 1) (ren [(1,4)]) (by first | omega | (constructor <;> omega)) (by omega) (LeR.of ⟨rfl,rfl,rfl,rfl,rfl,rfl,rfl,rfl,rfl,rfl,rfl,trivial⟩ trivial ⟨(congrArg (fun z => some (Ent.own 66 EPl.size (List.length z) (RP EPl z))) (show ((setTo L (3 * i + j)) ++ [(⟨(i : Int),(j : Int),nth L ((i : Int) * 3 + (j : Int))⟩ : Plate)]) = ((fun j => setTo L (3 * i + j)) (j + 1)) from by dsimp only; rw [set_step1 (by omega) (by omega) hc3])),rfl,trivial⟩ rfl rfl rfl rfl rfl)
      · try simp only [cnd] at hc3
        refine WP.skip (EX.blk (EX.then (WP.region ?_)))
        refine WPl.v rfl (o_add rfl rfl (by first | omega | (simp; omega)) (by first | omega | (simp; omega))) ?_
        refine WPl.v rfl (o_move rfl) ?_
        refine WPl.nil ?_
        refine EX.again (j + 1) id (by first | omega | (constructor <;> omega)) (by omega) (LeR.of ⟨rfl,rfl,rfl,rfl,rfl,rfl,rfl,rfl,rfl,rfl,rfl,trivial⟩ trivial ⟨(congrArg (fun z => some (Ent.own 66 EPl.size (List.length z) (RP EPl z))) (show (setTo L (3 * i + j)) = ((fun j => setTo L (3 * i + j)) (j + 1)) from by dsimp only; rw [set_step2 (by omega) (by omega) hc3])),rfl,trivial⟩ rfl rfl rfl rfl rfl)
    · try simp only [cnd] at hc2
      refine WP.exit (EX.exit_then (EX.exit_then (EX.exit_blk (EX.blk (EX.then (WP.region ?_))))))
      refine WPl.v rfl (o_add rfl rfl (by first | omega | (simp; omega)) (by first | omega | (simp; omega))) ?_
      refine WPl.v rfl (o_move rfl) ?_
      refine WPl.nil ?_
      have hje : j = 3 := by omega
      refine EX.again (i + 1) id (by first | omega | (constructor <;> omega)) (by omega) (LeR.of ⟨rfl,rfl,rfl,rfl,trivial⟩ trivial ⟨(congrArg (fun z => some (Ent.own 66 EPl.size (List.length z) (RP EPl z))) (show (setTo L (3 * i + j)) = ((fun i => setTo L (3 * i)) (i + 1)) from by rw [show 3 * i + j = 3 * (i + 1) by omega])),trivial⟩ rfl rfl rfl rfl rfl)
  · try simp only [cnd] at hc1
    refine WP.exit (EX.exit_then (EX.exit_then (EX.exit_blk (EX.then (WP.seq (WP.region ?_))))))
    refine WPl.v rfl (o_move rfl) ?_
    refine WPl.v rfl (o_assign rfl) ?_
    refine WPl.nil (EX.then (WP.ret ?_))
    refine EX.imp (Imp.frz (E := EPl) (l := setTo L (3 * i)) 1 rfl rfl) ?_
    have hie : i = 4 := by omega
    subst hie
    rw [show setOf L = setTo L 12 from by unfold setOf; rw [hL]]
    exact EX.fin (ren [(0,1)]) (.inl rfl) rfl (.tmp rfl .nil) rfl (by simp [SV.res,El.res,At.res,keys]) ⟨(lx rfl),trivial⟩ (by simp) (by simp)
theorem w14 {h : Hall} {p : Plan} : ∀ x ∈ ([.e (.g [.q 0,.q 1,.q 2,ai (h.change),.q 3,.q 4]),.e (.a (.q 5))] : List SV),x.res (keys (α := Pred) [(0,PL ETm (h.machs)),(1,PL EBd (h.buns)),(2,PL EP.int (h.trains)),(3,PL EP.int (h.bores)),(4,PL (EP.sl EP.int) (h.eds)),(5,PL (EP.sl EP.int) (p))]) := by simp [SV.res,El.res,At.res,keys]
theorem r14 {h : Hall} {p : Plan} : SV.res (keys (α := Pred) [(0,PL EPl (setOf (needL h p)))]) (.t [.a (.q 0),.a (ai (0))]) := by simp [SV.res,El.res,At.res,keys]
set_option maxHeartbeats 4000000 in
theorem c14 (h : Hall) (p : Plan) (hm : h.Small) (hc : h.chk = true) (hp : isPlanR h p = true) (hr : RowsP p) : Sig Try.prog 14 [.e (.g [.q 0,.q 1,.q 2,ai (h.change),.q 3,.q 4]),.e (.a (.q 5))] [(0,PL ETm (h.machs)),(1,PL EBd (h.buns)),(2,PL EP.int (h.trains)),(3,PL EP.int (h.bores)),(4,PL (EP.sl EP.int) (h.eds)),(5,PL (EP.sl EP.int) (p))] (.t [.a (.q 0),.a (ai (0))]) [(0,PL EPl (setOf (needL h p)))] := by
  refine Sig.intro Try.func14 rfl 6 [(0,.e (.g [.q 0,.q 1,.q 2,ai (h.change),.q 3,.q 4])),(1,.e (.a (.q 5)))] rfl w14 rfl rfl fun I w => ?_
  refine WP.seq (WP.region ?_)
  refine WPl.l 6 7 rfl rfl rfl (o_boxg rfl) ?_
  refine WPl.v rfl (o_assign rfl) ?_
  refine WPl.v rfl (o_assign rfl) ?_
  refine WPl.nil (EX.then (WP.seq (WP.region ?_)))
  refine WPl.v rfl (o_ldpa G29 rfl rfl rfl) ?_
  refine WPl.cs 12 rfl rfl rfl rfl (o_sig 7 (ren [(0,0),(1,1),(2,2),(3,3),(4,4)]) (c34 h true hm hc rfl) e34 rfl rfl rfl w34 ⟨(lx rfl),(lx rfl),(lx rfl),(lx rfl),(lx rfl),trivial⟩ r34) ?_
  refine WPl.v rfl (o_move rfl) ?_
  refine WPl.v rfl (o_extract rfl rfl) ?_
  refine WPl.v rfl (o_extract rfl rfl) ?_
  refine WPl.l 12 13 rfl rfl rfl (o_alloc Z75) ?_
  refine WPl.s1 (o_stag G75 rfl rfl rfl ⟨(.inl ⟨_,(lx rfl),PL.one⟩),(.inl ⟨_,(lx rfl),PL.one⟩),(.inl ⟨_,(lx rfl),PL.one⟩),rfl,(.inl ⟨_,(lx rfl),PL.one⟩),(.inl ⟨_,(lx rfl),PL.one⟩),trivial⟩ rfl rfl) ?_
  refine WPl.v rfl (o_assign rfl) ?_
  refine WPl.nil (EX.then (WP.seq (WP.seq (WP.region ?_))))
  refine WPl.v rfl (o_move rfl) ?_
  refine WPl.v rfl (o_neq rfl rfl) ?_
  refine WPl.nil (EX.then ?_)
  refine WP.cond rfl (fun hc1 => ?_) (fun hc1 => ?_)
  · try simp only [cnd] at hc1
    simp at hc1
  · try simp only [cnd] at hc1
    refine WP.skip (EX.then (WP.seq (WP.seq (WP.region ?_))))
    refine WPl.v rfl (o_fldp F29_0 rfl) ?_
    refine WPl.v rfl (o_ldpg G26 rfl rfl rfl) ?_
    refine WPl.v rfl (o_move rfl) ?_
    refine WPl.cs 13 rfl rfl rfl rfl (o_sig 13 (ren [(0,0),(1,1),(2,2),(3,5)]) (c35 h p hm hc hp hr) e35 rfl rfl rfl w35 ⟨(lx rfl),(lx rfl),(lx rfl),(lx rfl),trivial⟩ r35) ?_
    refine WPl.v rfl (o_move rfl) ?_
    refine WPl.v rfl (o_extract rfl rfl) ?_
    refine WPl.v rfl (o_extract rfl rfl) ?_
    refine WPl.v rfl (o_assign rfl) ?_
    refine WPl.v rfl (o_assign rfl) ?_
    refine WPl.nil (EX.then (WP.seq (WP.region ?_)))
    refine WPl.v rfl (o_move rfl) ?_
    refine WPl.v rfl (o_not rfl) ?_
    refine WPl.nil (EX.then ?_)
    refine WP.cond rfl (fun h => by cases h) (fun _ => ?_)
    refine WP.skip (EX.then (WP.seq (WP.region ?_)))
    refine WPl.v rfl (o_ldpa G75 rfl rfl rfl) ?_
    refine WPl.v rfl (o_move rfl) ?_
    refine WPl.cs 13 rfl rfl rfl rfl (o_sig 13 (ren [(0,7),(1,8),(2,9),(3,10),(4,11),(5,5)]) (c36 h p hm hc hp hr) e36 rfl rfl rfl w36 ⟨(lx rfl),(lx rfl),(lx rfl),(lx rfl),(lx rfl),(lx rfl),trivial⟩ r36) ?_
    refine WPl.cs 14 rfl rfl rfl rfl (o_sig 13 id (c37 (needL h p) (needTo_len h p _)) e37 rfl rfl rfl w37 trivial r37) ?_
    refine WPl.v rfl (o_assign rfl) ?_
    refine WPl.v rfl (o_assign rfl) ?_
    refine WPl.nil (EX.then (WP.ret ?_))
    exact EX.fin (ren [(0,13)]) (.inl rfl) rfl (.tmp rfl (.tmp rfl .nil)) rfl r14 ⟨(lx rfl),trivial⟩ (by simp) (by simp)
end Go.Flong
namespace Go.Flong
open Go Go.Eng Go.Proofs
theorem Z128 : Zero Try.prog 128 [ai (0),ai (0),ai (0),ai (0),ai (0)] := .mk Try.zeroValue128 rfl rfl
theorem A128 : IsArr Try.prog 128 3 5 := ⟨Try.underlying128,Try.sizeOf3⟩
theorem G128 : TyG Try.prog 128 5 := ⟨Try.isAgg128,Try.sizeOf128⟩
theorem Z108 : Zero Try.prog 108 [ai (0),ai (0),ai (0),ai (0)] := .mk Try.zeroValue108 rfl rfl
theorem A108 : IsArr Try.prog 108 3 4 := ⟨Try.underlying108,Try.sizeOf3⟩
theorem G108 : TyG Try.prog 108 4 := ⟨Try.isAgg108,Try.sizeOf108⟩
theorem w86 {h : Hall} {p : Plan} : ∀ x ∈ ([.e (.g [.q 0,.q 1,.q 2,ai (h.change)]),.e (.a (.q 3))] : List SV),x.res (keys (α := Pred) [(0,PL ETm (h.machs)),(1,PL EBd (h.buns)),(2,PL EP.int (h.trains)),(3,PL (EP.sl EP.int) (p))]) := by simp [SV.res,El.res,At.res,keys]
theorem r86 {h : Hall} {p : Plan} : SV.res (keys (α := Pred) []) (.e (.g [ai (nth (outTo h p p.length) 0),ai (nth (outTo h p p.length) 1),ai (nth (outTo h p p.length) 2),ai (nth (outTo h p p.length) 3),ai (nth (outTo h p p.length) 4)])) := by simp [SV.res,El.res,At.res,keys]
set_option maxHeartbeats 4000000 in
theorem c86 (h : Hall) (p : Plan) (hh : HouC h) (hp : PlB h p) : Sig Try.prog 86 [.e (.g [.q 0,.q 1,.q 2,ai (h.change)]),.e (.a (.q 3))] [(0,PL ETm (h.machs)),(1,PL EBd (h.buns)),(2,PL EP.int (h.trains)),(3,PL (EP.sl EP.int) (p))] (.e (.g [ai (nth (outTo h p p.length) 0),ai (nth (outTo h p p.length) 1),ai (nth (outTo h p p.length) 2),ai (nth (outTo h p p.length) 3),ai (nth (outTo h p p.length) 4)])) [] := by
  have hn := hp.n
  have hm1 := hh.m
  have hb1 := hh.b
  have hc1_ := hh.c
  have hol := outTo_len h p
  have hrl := outR_len h
  have hnl := negTo_len
  refine Sig.intro Try.func86 rfl 4 [(0,.e (.g [.q 0,.q 1,.q 2,ai (h.change)])),(1,.e (.a (.q 3)))] rfl w86 rfl rfl fun I w => ?_
  refine WP.seq (WP.region ?_)
  refine WPl.l 4 5 rfl rfl rfl (o_boxg rfl) ?_
  refine WPl.l 5 6 rfl rfl rfl (o_alloc Z128) ?_
  refine WPl.nil (EX.then (WP.seq (WP.region ?_)))
  refine WPl.l 6 7 rfl rfl rfl (o_alloc Z128) ?_
  refine WPl.nil (EX.then (WP.seq (WP.seq (WP.region ?_))))
  refine WPl.v rfl (o_move rfl) ?_
  refine WPl.nil (EX.then (WP.block ?_))
  refine WP.loop (Gh := Nat) (fun k => ⟨7,[(1,.e (.a (.q 3))),(2,.e (.a (.p 4 (0)))),(4,.e (.a (.p 5 (0)))),(5,.e (.a (.p 6 (0)))),(14,.i ((k : Int)))],[(0,PL ETm (h.machs)),(1,PL EBd (h.buns)),(2,PL EP.int (h.trains)),(3,PL (EP.sl EP.int) (p))],[(4,.blk [.q 0,.q 1,.q 2,ai (h.change)] 26),(5,.blk [ai (0),ai (0),ai (0),ai (0),ai (0)] 128),(6,.blk [ai (nth (negTo k) 0),ai (nth (negTo k) 1),ai (nth (negTo k) 2),ai (nth (negTo k) 3),ai (nth (negTo k) 4)] 128)],[],[]⟩) (fun k => k ≤ 5) (fun k => 5 - k) (0) id ?_ (LeR.of ⟨rfl,rfl,rfl,rfl,rfl,trivial⟩ ⟨(lx rfl),(lx rfl),(lx rfl),(lx rfl),trivial⟩ ⟨rfl,rfl,rfl,trivial⟩ rfl rfl rfl rfl rfl) ?_
  · first | trivial | omega | (constructor <;> omega) | simp
  intro k hφ
  have hk : k ≤ 5 := hφ
  refine WP.seq (WP.region ?_)
  refine WPl.v rfl (o_lss rfl rfl) ?_
  refine WPl.nil (EX.then (WP.seq ?_))
  refine WP.cond rfl (fun hc1 => ?_) (fun hc1 => ?_)
  · try simp only [cnd] at hc1
    refine WP.skip (EX.then (WP.seq (WP.block (WP.seq (WP.region ?_)))))
    refine WPl.v rfl (o_move rfl) ?_
    refine WPl.v rfl (o_assign rfl) ?_
    refine WPl.nil (EX.then (WP.region ?_))
    refine WPl.v rfl (o_move rfl) ?_
    refine WPl.v rfl (o_idxp A128 rfl rfl (by first | omega | (simp; omega)) (by first | omega | (simp; omega))) ?_
    refine WPl.s1 (o_stpn (n := 5) (l := negTo k) (cs' := [ai (nth (lset (negTo k) (k : Int) (-1)) 0),ai (nth (lset (negTo k) (k : Int) (-1)) 1),ai (nth (lset (negTo k) (k : Int) (-1)) 2),ai (nth (lset (negTo k) (k : Int) (-1)) 3),ai (nth (lset (negTo k) (k : Int) (-1)) 4)]) S3 rfl rfl rfl rfl rfl (by first | exact negTo_len _ | exact outTo_len h p _ | (rw [outR_len]; exact outTo_len h p _)) (by first | omega | (simp; omega)) (by first | omega | (simp; omega))) ?_
    refine WPl.nil (EX.blk (EX.then (WP.region ?_)))
    refine WPl.v rfl (o_add rfl rfl (by first | omega | (simp; omega)) (by first | omega | (simp; omega))) ?_
    refine WPl.v rfl (o_move rfl) ?_
    refine WPl.nil ?_
    refine EX.again (k + 1) id (by first | omega | (constructor <;> omega)) (by omega) (LeR.of ⟨rfl,rfl,rfl,rfl,rfl,trivial⟩ ⟨(lx rfl),(lx rfl),(lx rfl),(lx rfl),trivial⟩ ⟨rfl,rfl,rfl,trivial⟩ rfl rfl rfl rfl rfl)
  · try simp only [cnd] at hc1
    refine WP.exit (EX.exit_then (EX.exit_then (EX.exit_blk (EX.then (WP.seq (WP.seq (WP.region ?_)))))))
    refine WPl.v rfl (o_move rfl) ?_
    refine WPl.v rfl (o_lenq L27 rfl (lx rfl)) ?_
    refine WPl.v rfl (o_move rfl) ?_
    refine WPl.nil (EX.then (WP.block ?_))
    refine WP.loop (Gh := Nat) (fun i => ⟨7,[(2,.e (.a (.p 4 (0)))),(4,.e (.a (.p 5 (0)))),(5,.e (.a (.p 6 (0)))),(20,.e (.a (.q 3))),(21,.i ((p.length : Int))),(22,.i ((i : Int)))],[(0,PL ETm (h.machs)),(1,PL EBd (h.buns)),(2,PL EP.int (h.trains)),(3,PL (EP.sl EP.int) (p))],[(4,.blk [.q 0,.q 1,.q 2,ai (h.change)] 26),(5,.blk [ai (0),ai (0),ai (0),ai (0),ai (0)] 128),(6,.blk [ai (nth (outTo h p i) 0),ai (nth (outTo h p i) 1),ai (nth (outTo h p i) 2),ai (nth (outTo h p i) 3),ai (nth (outTo h p i) 4)] 128)],[],[]⟩) (fun i => i ≤ p.length) (fun i => p.length - i) (0) id ?_ (LeR.of ⟨rfl,rfl,rfl,rfl,rfl,rfl,trivial⟩ ⟨(lx rfl),(lx rfl),(lx rfl),(lx rfl),trivial⟩ ⟨rfl,rfl,(congrArg (fun z => some (Ent.blk z 128)) (List.cons_eq_cons.2 ⟨(congrArg (fun z => ai z) (show (nth (negTo k) 0) = ((fun i => nth (outTo h p i) 0) 0) from by dsimp only; rw [show k = 5 by omega]; rfl)),(List.cons_eq_cons.2 ⟨(congrArg (fun z => ai z) (show (nth (negTo k) 1) = ((fun i => nth (outTo h p i) 1) 0) from by dsimp only; rw [show k = 5 by omega]; rfl)),(List.cons_eq_cons.2 ⟨(congrArg (fun z => ai z) (show (nth (negTo k) 2) = ((fun i => nth (outTo h p i) 2) 0) from by dsimp only; rw [show k = 5 by omega]; rfl)),(List.cons_eq_cons.2 ⟨(congrArg (fun z => ai z) (show (nth (negTo k) 3) = ((fun i => nth (outTo h p i) 3) 0) from by dsimp only; rw [show k = 5 by omega]; rfl)),(List.cons_eq_cons.2 ⟨(congrArg (fun z => ai z) (show (nth (negTo k) 4) = ((fun i => nth (outTo h p i) 4) 0) from by dsimp only; rw [show k = 5 by omega]; rfl)),(Eq.refl [])⟩)⟩)⟩)⟩)⟩)),trivial⟩ rfl rfl rfl rfl rfl) ?_
    · first | trivial | omega | (constructor <;> omega) | simp
    intro i hφ
    have hi : i ≤ p.length := hφ
    refine WP.seq (WP.region ?_)
    refine WPl.v rfl (o_lss rfl rfl) ?_
    refine WPl.nil (EX.then (WP.seq ?_))
    refine WP.cond rfl (fun hc2 => ?_) (fun hc2 => ?_)
    · try simp only [cnd] at hc2
      refine WP.skip (EX.then (WP.seq (WP.block (WP.seq (WP.region ?_)))))
      refine WPl.v rfl (o_move rfl) ?_
      refine WPl.x 7 8 rfl rfl rfl (o_idx L27 rfl (lx rfl) rfl (by first | omega | (simp; omega)) (by first | omega | (simp; omega))) ?_
      have hri := hp.r i (by omega)
      have hma := hh.ma i (by omega)
      refine WPl.x 8 9 rfl rfl rfl (o_ldqx S24 rfl (lx rfl) slx) ?_
      refine WPl.v rfl (o_assign rfl) ?_
      refine WPl.v rfl (o_assign rfl) ?_
      refine WPl.nil (EX.then (WP.seq (WP.region ?_)))
      refine WPl.v rfl (o_fldp F26_0 rfl) ?_
      refine WPl.v rfl (o_ldp S22 rfl rfl rfl) ?_
      refine WPl.v rfl (o_move rfl) ?_
      refine WPl.x 9 10 rfl rfl rfl (o_idx L22 rfl (lx rfl) rfl (by first | omega | (simp; omega)) (by first | omega | (simp; omega))) ?_
      refine WPl.v rfl (o_fldq F68_0 rfl (lx rfl)) ?_
      refine WPl.v rfl (o_lde S3 rfl (lx rfl) (strI rfl)) ?_
      refine WPl.v rfl (o_assign rfl) ?_
      refine WPl.v rfl (o_assign rfl) ?_
      refine WPl.nil (EX.then (WP.seq (WP.region ?_)))
      refine WPl.v rfl (o_move rfl) ?_
      refine WPl.v rfl (o_lenq L24 rfl (lx rfl)) ?_
      refine WPl.v rfl (o_move rfl) ?_
      refine WPl.nil (EX.then (WP.block ?_))
      refine WP.loop (Gh := Nat) (fun j => ⟨10,[(2,.e (.a (.p 4 (0)))),(4,.e (.a (.p 5 (0)))),(5,.e (.a (.p 6 (0)))),(20,.e (.a (.q 3))),(21,.i ((p.length : Int))),(22,.i ((i : Int))),(23,.b (decide ((i : Int) < (p.length : Int)))),(24,.i ((i : Int))),(25,.e (.a (.q 7))),(26,.e (.a (.q 8))),(7,.i ((i : Int))),(8,.e (.a (.q 8))),(27,.e (.a (.p 4 (0)))),(28,.e (.a (.q 0))),(29,.i ((i : Int))),(30,.e (.a (.q 9))),(31,.e (.a (.e 9 (0)))),(32,.i ((nth h.machs (i : Int)).ready)),(9,.i ((nbTo h (nth h.machs (i : Int)) (nth p (i : Int)) j).1)),(10,.i ((nbTo h (nth h.machs (i : Int)) (nth p (i : Int)) j).2)),(33,.e (.a (.q 8))),(34,.i (((nth p (i : Int)).length : Int))),(35,.i ((j : Int)))],[(0,PL ETm (h.machs)),(1,PL EBd (h.buns)),(2,PL EP.int (h.trains)),(3,PL (EP.sl EP.int) (p)),(7,PP (EP.sl EP.int) (nth p (i : Int))),(8,PL EP.int (nth p (i : Int))),(9,PP ETm (nth h.machs (i : Int)))],[(4,.blk [.q 0,.q 1,.q 2,ai (h.change)] 26),(5,.blk [ai (0),ai (0),ai (0),ai (0),ai (0)] 128),(6,.blk [ai (nth (outR h (nth h.machs (i : Int)) (nth p (i : Int)) (outTo h p i) j) 0),ai (nth (outR h (nth h.machs (i : Int)) (nth p (i : Int)) (outTo h p i) j) 1),ai (nth (outR h (nth h.machs (i : Int)) (nth p (i : Int)) (outTo h p i) j) 2),ai (nth (outR h (nth h.machs (i : Int)) (nth p (i : Int)) (outTo h p i) j) 3),ai (nth (outR h (nth h.machs (i : Int)) (nth p (i : Int)) (outTo h p i) j) 4)] 128)],[],[]⟩) (fun j => j ≤ (nth p (i : Int)).length) (fun j => (nth p (i : Int)).length - j) (0) id ?_ (LeR.of ⟨rfl,rfl,rfl,rfl,rfl,rfl,rfl,rfl,rfl,rfl,rfl,rfl,rfl,rfl,rfl,rfl,rfl,rfl,(congrArg (fun z => some (SV.i z)) (show ((nth h.machs (i : Int)).ready) = ((fun j => (nbTo h (nth h.machs (i : Int)) (nth p (i : Int)) j).1) 0) from rfl)),(congrArg (fun z => some (SV.i z)) (show (-1) = ((fun j => (nbTo h (nth h.machs (i : Int)) (nth p (i : Int)) j).2) 0) from rfl)),rfl,rfl,rfl,trivial⟩ ⟨(lx rfl),(lx rfl),(lx rfl),(lx rfl),(lx rfl),(lx rfl),(lx rfl),trivial⟩ ⟨rfl,rfl,(congrArg (fun z => some (Ent.blk z 128)) (List.cons_eq_cons.2 ⟨(congrArg (fun z => ai z) (show (nth (outTo h p i) 0) = ((fun j => nth (outR h (nth h.machs (i : Int)) (nth p (i : Int)) (outTo h p i) j) 0) 0) from rfl)),(List.cons_eq_cons.2 ⟨(congrArg (fun z => ai z) (show (nth (outTo h p i) 1) = ((fun j => nth (outR h (nth h.machs (i : Int)) (nth p (i : Int)) (outTo h p i) j) 1) 0) from rfl)),(List.cons_eq_cons.2 ⟨(congrArg (fun z => ai z) (show (nth (outTo h p i) 2) = ((fun j => nth (outR h (nth h.machs (i : Int)) (nth p (i : Int)) (outTo h p i) j) 2) 0) from rfl)),(List.cons_eq_cons.2 ⟨(congrArg (fun z => ai z) (show (nth (outTo h p i) 3) = ((fun j => nth (outR h (nth h.machs (i : Int)) (nth p (i : Int)) (outTo h p i) j) 3) 0) from rfl)),(List.cons_eq_cons.2 ⟨(congrArg (fun z => ai z) (show (nth (outTo h p i) 4) = ((fun j => nth (outR h (nth h.machs (i : Int)) (nth p (i : Int)) (outTo h p i) j) 4) 0) from rfl)),(Eq.refl [])⟩)⟩)⟩)⟩)⟩)),trivial⟩ rfl rfl rfl rfl rfl) ?_
      · first | trivial | omega | (constructor <;> omega) | simp
      intro j hφ
      have hj : j ≤ (nth p (i : Int)).length := hφ
      refine WP.seq (WP.region ?_)
      refine WPl.v rfl (o_lss rfl rfl) ?_
      refine WPl.nil (EX.then (WP.seq ?_))
      refine WP.cond rfl (fun hc3 => ?_) (fun hc3 => ?_)
      · try simp only [cnd] at hc3
        refine WP.skip (EX.then (WP.seq (WP.block (WP.seq (WP.region ?_)))))
        refine WPl.x 10 11 rfl rfl rfl (o_idx L24 rfl (lx rfl) rfl (by first | omega | (simp; omega)) (by first | omega | (simp; omega))) ?_
        have hx := hp.b i (by omega) j (by omega)
        have hbx := hh.bu (nth (nth p (i : Int)) (j : Int)).toNat (by omega)
        rw [show (((nth (nth p (i : Int)) (j : Int)).toNat : Nat) : Int) = nth (nth p (i : Int)) (j : Int) by omega] at hbx
        have hpr := prod_b hbx.2.1 hma.2.1
        have hnb := nbTo_b hh hp (show i < p.length by omega) j (by omega)
        refine WPl.v rfl (o_ldq S3 rfl (lx rfl) intc) ?_
        refine WPl.v rfl (o_assign rfl) ?_
        refine WPl.nil (EX.then (WP.seq (WP.region ?_)))
        refine WPl.v rfl (o_fldp F26_1 rfl) ?_
        refine WPl.v rfl (o_ldp S23 rfl rfl rfl) ?_
        refine WPl.v rfl (o_move rfl) ?_
        refine WPl.x 11 12 rfl rfl rfl (o_idx L23 rfl (lx rfl) rfl (by first | omega | (simp; omega)) (by first | omega | (simp; omega))) ?_
        refine WPl.v rfl (o_ldqg G58 rfl (lx rfl) (strG rfl) rfl rfl) ?_
        refine WPl.l 12 13 rfl rfl rfl (o_alloc Z58) ?_
        refine WPl.s1 (o_stag G58 rfl rfl rfl ⟨rfl,rfl,rfl,trivial⟩ rfl rfl) ?_
        refine WPl.nil (EX.then (WP.seq (WP.seq (WP.region ?_))))
        refine WPl.v rfl (o_move rfl) ?_
        refine WPl.v rfl (o_geq rfl rfl) ?_
        refine WPl.v rfl (o_move rfl) ?_
        refine WPl.bit 13 14 (decide (0 ≤ ((nbTo h (nth h.machs (i : Int)) (nth p (i : Int)) j).2))) rfl rfl ?_
        refine WPl.gv 13 rfl rfl (.plain rfl Iff.rfl rfl) (fun hb => o_fldp F58_2 rfl) ?_
        refine WPl.gv 13 rfl rfl (.plain rfl Iff.rfl rfl) (fun hb => o_ldp S3 rfl rfl rfl) ?_
        refine WPl.gv 13 rfl rfl (.plain rfl Iff.rfl rfl) (fun hb => o_move rfl) ?_
        refine WPl.gv 13 rfl rfl (.plain rfl Iff.rfl rfl) (fun hb => o_neq rfl rfl) ?_
        refine WPl.v rfl (o_and rfl rfl rfl id) ?_
        refine WPl.nil (EX.then ?_)
        refine WP.cond rfl (fun hc4 => ?_) (fun hc4 => ?_)
        · try simp only [cnd] at hc4
          refine WP.region ?_
          refine WPl.v rfl (o_move rfl) ?_
          refine WPl.v rfl (o_fldp F26_3 rfl) ?_
          refine WPl.v rfl (o_ldp S3 rfl rfl rfl) ?_
          refine WPl.v rfl (o_add rfl rfl (by first | omega | (simp; omega)) (by first | omega | (simp; omega))) ?_
          refine WPl.v rfl (o_assign rfl) ?_
          refine WPl.nil (EX.then (WP.seq ?_))
          refine WP.draw (nf := 15) [⟨[57,58,59,60,61,62,63,64,65],[14],[],[],[]⟩,⟨[56,59,60,61,62,63,64],[14],[],[],[]⟩,⟨[56,59,60,61,62,63,64],[14],[],[],[1]⟩,⟨[56,57,58,61],[],[],[],[]⟩,⟨[56,57,58,61],[],[],[],[3]⟩,⟨[56,57,58,59,60],[],[],[],[]⟩,⟨[56,57,58],[],[14],[14],[3,4,5]⟩,⟨[56,57,58],[],[],[],[3,4,5,6]⟩,⟨[56,57,58],[],[],[],[3,4,5,6,7]⟩,⟨[56],[],[],[],[1,2,3,4,5,6,7,8]⟩,⟨[],[],[],[],[0,1,2,3,4,5,6,7,8,9]⟩,⟨[],[],[],[],[0,1,2,3,4,5,6,7,8,9,10]⟩] (by kernel_rfl) (by kernel_rfl) ?_
          refine DRQ.v rfl rfl rfl (o_move rfl) ?_
          refine DRQ.v rfl rfl rfl (o_fldp F58_1 rfl) ?_
          refine DRQ.v rfl rfl rfl (o_ldp S3 rfl rfl rfl) ?_
          refine DRQ.v rfl rfl rfl (o_fldp F26_0 rfl) ?_
          refine DRQ.v rfl rfl rfl (o_ldp S22 rfl rfl rfl) ?_
          refine DRQ.v rfl rfl rfl (o_move rfl) ?_
          refine DRQ.x 14 rfl rfl rfl rfl (o_idx L22 rfl (lx rfl) rfl (by first | omega | (simp; omega)) (by first | omega | (simp; omega))) ?_
          refine DRQ.v rfl rfl rfl (o_fldq F68_1 rfl (lx rfl)) ?_
          refine DRQ.v rfl rfl rfl (o_lde S3 rfl (lx rfl) (strI rfl)) ?_
          refine DRQ.v rfl rfl rfl (o_mul rfl rfl (by first | omega | (simp; omega)) (by first | omega | (simp; omega))) ?_
          refine DRQ.v rfl rfl rfl (o_add rfl rfl (by first | omega | (simp; omega)) (by first | omega | (simp; omega))) ?_
          refine DRQ.v rfl rfl rfl (o_assign rfl) ?_
          refine DRQ.nil' ?_
          refine EX.then ?_
          refine WP.draw (nf := 15) [⟨[68,69,70],[],[],[],[]⟩,⟨[67,69,70],[],[],[],[]⟩,⟨[67,68,71],[6],[],[],[]⟩,⟨[67,68,71],[6],[],[],[2]⟩,⟨[69,70],[],[],[],[0,1]⟩,⟨[69,70],[],[],[6],[0,1,4]⟩,⟨[],[],[],[],[0,1,2,3,4,5]⟩] (by kernel_rfl) (by kernel_rfl) ?_
          refine DRQ.v rfl rfl rfl (o_move rfl) ?_
          refine DRQ.v rfl rfl rfl (o_move rfl) ?_
          refine DRQ.v rfl rfl rfl (o_fldp F58_2 rfl) ?_
          refine DRQ.v rfl rfl rfl (o_ldp S3 rfl rfl rfl) ?_
          refine DRQ.v rfl rfl rfl (o_idxp A128 rfl rfl (by first | omega | (simp; omega)) (by first | omega | (simp; omega))) ?_
          refine DRQ.s 6 rfl rfl rfl (o_stpn (n := 5) (l := outR h (nth h.machs (i : Int)) (nth p (i : Int)) (outTo h p i) j) (cs' := [ai (nth (lset (outR h (nth h.machs (i : Int)) (nth p (i : Int)) (outTo h p i) j) (nth (nth p (i : Int)) (j : Int)) ((((nbTo h (nth h.machs (i : Int)) (nth p (i : Int)) j).1) + h.change) + (((nth h.buns (nth (nth p (i : Int)) (j : Int))).hundreds) * ((nth h.machs (i : Int)).pace)))) 0),ai (nth (lset (outR h (nth h.machs (i : Int)) (nth p (i : Int)) (outTo h p i) j) (nth (nth p (i : Int)) (j : Int)) ((((nbTo h (nth h.machs (i : Int)) (nth p (i : Int)) j).1) + h.change) + (((nth h.buns (nth (nth p (i : Int)) (j : Int))).hundreds) * ((nth h.machs (i : Int)).pace)))) 1),ai (nth (lset (outR h (nth h.machs (i : Int)) (nth p (i : Int)) (outTo h p i) j) (nth (nth p (i : Int)) (j : Int)) ((((nbTo h (nth h.machs (i : Int)) (nth p (i : Int)) j).1) + h.change) + (((nth h.buns (nth (nth p (i : Int)) (j : Int))).hundreds) * ((nth h.machs (i : Int)).pace)))) 2),ai (nth (lset (outR h (nth h.machs (i : Int)) (nth p (i : Int)) (outTo h p i) j) (nth (nth p (i : Int)) (j : Int)) ((((nbTo h (nth h.machs (i : Int)) (nth p (i : Int)) j).1) + h.change) + (((nth h.buns (nth (nth p (i : Int)) (j : Int))).hundreds) * ((nth h.machs (i : Int)).pace)))) 3),ai (nth (lset (outR h (nth h.machs (i : Int)) (nth p (i : Int)) (outTo h p i) j) (nth (nth p (i : Int)) (j : Int)) ((((nbTo h (nth h.machs (i : Int)) (nth p (i : Int)) j).1) + h.change) + (((nth h.buns (nth (nth p (i : Int)) (j : Int))).hundreds) * ((nth h.machs (i : Int)).pace)))) 4)]) S3 rfl rfl rfl rfl rfl (by first | exact negTo_len _ | exact outTo_len h p _ | (rw [outR_len]; exact outTo_len h p _)) (by first | omega | (simp; omega)) (by first | omega | (simp; omega))) ?_
          refine DRQ.v rfl rfl rfl (o_assign rfl) ?_
          refine DRQ.nil' ?_
          refine EX.blk (EX.then (WP.region ?_))
          refine WPl.v rfl (o_add rfl rfl (by first | omega | (simp; omega)) (by first | omega | (simp; omega))) ?_
          refine WPl.v rfl (o_move rfl) ?_
          refine WPl.nil ?_
          refine EX.again (j + 1) id (by first | omega | (constructor <;> omega)) (by omega) (LeR.of ⟨rfl,rfl,rfl,rfl,rfl,rfl,rfl,rfl,rfl,rfl,rfl,rfl,rfl,rfl,rfl,rfl,rfl,rfl,(congrArg (fun z => some (SV.i z)) (show ((((nbTo h (nth h.machs (i : Int)) (nth p (i : Int)) j).1) + h.change) + (((nth h.buns (nth (nth p (i : Int)) (j : Int))).hundreds) * ((nth h.machs (i : Int)).pace))) = ((fun j => (nbTo h (nth h.machs (i : Int)) (nth p (i : Int)) j).1) (j + 1)) from by simp only [nbTo]; rw [if_pos ⟨hc4.1,hc4.2⟩])),(congrArg (fun z => some (SV.i z)) (show ((nth h.buns (nth (nth p (i : Int)) (j : Int))).edition) = ((fun j => (nbTo h (nth h.machs (i : Int)) (nth p (i : Int)) j).2) (j + 1)) from by simp only [nbTo])),rfl,rfl,rfl,trivial⟩ ⟨(lx rfl),(lx rfl),(lx rfl),(lx rfl),(lx rfl),(lx rfl),(lx rfl),trivial⟩ ⟨rfl,rfl,(congrArg (fun z => some (Ent.blk z 128)) (List.cons_eq_cons.2 ⟨(congrArg (fun z => ai z) (show (nth (lset (outR h (nth h.machs (i : Int)) (nth p (i : Int)) (outTo h p i) j) (nth (nth p (i : Int)) (j : Int)) ((((nbTo h (nth h.machs (i : Int)) (nth p (i : Int)) j).1) + h.change) + (((nth h.buns (nth (nth p (i : Int)) (j : Int))).hundreds) * ((nth h.machs (i : Int)).pace)))) 0) = ((fun j => nth (outR h (nth h.machs (i : Int)) (nth p (i : Int)) (outTo h p i) j) 0) (j + 1)) from by simp only [outR,nbTo]; rw [if_pos ⟨hc4.1,hc4.2⟩])),(List.cons_eq_cons.2 ⟨(congrArg (fun z => ai z) (show (nth (lset (outR h (nth h.machs (i : Int)) (nth p (i : Int)) (outTo h p i) j) (nth (nth p (i : Int)) (j : Int)) ((((nbTo h (nth h.machs (i : Int)) (nth p (i : Int)) j).1) + h.change) + (((nth h.buns (nth (nth p (i : Int)) (j : Int))).hundreds) * ((nth h.machs (i : Int)).pace)))) 1) = ((fun j => nth (outR h (nth h.machs (i : Int)) (nth p (i : Int)) (outTo h p i) j) 1) (j + 1)) from by simp only [outR,nbTo]; rw [if_pos ⟨hc4.1,hc4.2⟩])),(List.cons_eq_cons.2 ⟨(congrArg (fun z => ai z) (show (nth (lset (outR h (nth h.machs (i : Int)) (nth p (i : Int)) (outTo h p i) j) (nth (nth p (i : Int)) (j : Int)) ((((nbTo h (nth h.machs (i : Int)) (nth p (i : Int)) j).1) + h.change) + (((nth h.buns (nth (nth p (i : Int)) (j : Int))).hundreds) * ((nth h.machs (i : Int)).pace)))) 2) = ((fun j => nth (outR h (nth h.machs (i : Int)) (nth p (i : Int)) (outTo h p i) j) 2) (j + 1)) from by simp only [outR,nbTo]; rw [if_pos ⟨hc4.1,hc4.2⟩])),(List.cons_eq_cons.2 ⟨(congrArg (fun z => ai z) (show (nth (lset (outR h (nth h.machs (i : Int)) (nth p (i : Int)) (outTo h p i) j) (nth (nth p (i : Int)) (j : Int)) ((((nbTo h (nth h.machs (i : Int)) (nth p (i : Int)) j).1) + h.change) + (((nth h.buns (nth (nth p (i : Int)) (j : Int))).hundreds) * ((nth h.machs (i : Int)).pace)))) 3) = ((fun j => nth (outR h (nth h.machs (i : Int)) (nth p (i : Int)) (outTo h p i) j) 3) (j + 1)) from by simp only [outR,nbTo]; rw [if_pos ⟨hc4.1,hc4.2⟩])),(List.cons_eq_cons.2 ⟨(congrArg (fun z => ai z) (show (nth (lset (outR h (nth h.machs (i : Int)) (nth p (i : Int)) (outTo h p i) j) (nth (nth p (i : Int)) (j : Int)) ((((nbTo h (nth h.machs (i : Int)) (nth p (i : Int)) j).1) + h.change) + (((nth h.buns (nth (nth p (i : Int)) (j : Int))).hundreds) * ((nth h.machs (i : Int)).pace)))) 4) = ((fun j => nth (outR h (nth h.machs (i : Int)) (nth p (i : Int)) (outTo h p i) j) 4) (j + 1)) from by simp only [outR,nbTo]; rw [if_pos ⟨hc4.1,hc4.2⟩])),(Eq.refl [])⟩)⟩)⟩)⟩)⟩)),trivial⟩ rfl rfl rfl rfl rfl)
        · try simp only [cnd] at hc4
          refine WP.skip (EX.then (WP.seq ?_))
          refine WP.draw (nf := 15) [⟨[57,58,59,60,61,62,63,64,65],[14],[],[],[]⟩,⟨[56,59,60,61,62,63,64],[14],[],[],[]⟩,⟨[56,59,60,61,62,63,64],[14],[],[],[1]⟩,⟨[56,57,58,61],[],[],[],[]⟩,⟨[56,57,58,61],[],[],[],[3]⟩,⟨[56,57,58,59,60],[],[],[],[]⟩,⟨[56,57,58],[],[14],[14],[3,4,5]⟩,⟨[56,57,58],[],[],[],[3,4,5,6]⟩,⟨[56,57,58],[],[],[],[3,4,5,6,7]⟩,⟨[56],[],[],[],[1,2,3,4,5,6,7,8]⟩,⟨[],[],[],[],[0,1,2,3,4,5,6,7,8,9]⟩,⟨[],[],[],[],[0,1,2,3,4,5,6,7,8,9,10]⟩] (by kernel_rfl) (by kernel_rfl) ?_
          refine DRQ.v rfl rfl rfl (o_move rfl) ?_
          refine DRQ.v rfl rfl rfl (o_fldp F58_1 rfl) ?_
          refine DRQ.v rfl rfl rfl (o_ldp S3 rfl rfl rfl) ?_
          refine DRQ.v rfl rfl rfl (o_fldp F26_0 rfl) ?_
          refine DRQ.v rfl rfl rfl (o_ldp S22 rfl rfl rfl) ?_
          refine DRQ.v rfl rfl rfl (o_move rfl) ?_
          refine DRQ.x 14 rfl rfl rfl rfl (o_idx L22 rfl (lx rfl) rfl (by first | omega | (simp; omega)) (by first | omega | (simp; omega))) ?_
          refine DRQ.v rfl rfl rfl (o_fldq F68_1 rfl (lx rfl)) ?_
          refine DRQ.v rfl rfl rfl (o_lde S3 rfl (lx rfl) (strI rfl)) ?_
          refine DRQ.v rfl rfl rfl (o_mul rfl rfl (by first | omega | (simp; omega)) (by first | omega | (simp; omega))) ?_
          refine DRQ.v rfl rfl rfl (o_add rfl rfl (by first | omega | (simp; omega)) (by first | omega | (simp; omega))) ?_
          refine DRQ.v rfl rfl rfl (o_assign rfl) ?_
          refine DRQ.nil' ?_
          refine EX.then ?_
          refine WP.draw (nf := 15) [⟨[68,69,70],[],[],[],[]⟩,⟨[67,69,70],[],[],[],[]⟩,⟨[67,68,71],[6],[],[],[]⟩,⟨[67,68,71],[6],[],[],[2]⟩,⟨[69,70],[],[],[],[0,1]⟩,⟨[69,70],[],[],[6],[0,1,4]⟩,⟨[],[],[],[],[0,1,2,3,4,5]⟩] (by kernel_rfl) (by kernel_rfl) ?_
          refine DRQ.v rfl rfl rfl (o_move rfl) ?_
          refine DRQ.v rfl rfl rfl (o_move rfl) ?_
          refine DRQ.v rfl rfl rfl (o_fldp F58_2 rfl) ?_
          refine DRQ.v rfl rfl rfl (o_ldp S3 rfl rfl rfl) ?_
          refine DRQ.v rfl rfl rfl (o_idxp A128 rfl rfl (by first | omega | (simp; omega)) (by first | omega | (simp; omega))) ?_
          refine DRQ.s 6 rfl rfl rfl (o_stpn (n := 5) (l := outR h (nth h.machs (i : Int)) (nth p (i : Int)) (outTo h p i) j) (cs' := [ai (nth (lset (outR h (nth h.machs (i : Int)) (nth p (i : Int)) (outTo h p i) j) (nth (nth p (i : Int)) (j : Int)) (((nbTo h (nth h.machs (i : Int)) (nth p (i : Int)) j).1) + (((nth h.buns (nth (nth p (i : Int)) (j : Int))).hundreds) * ((nth h.machs (i : Int)).pace)))) 0),ai (nth (lset (outR h (nth h.machs (i : Int)) (nth p (i : Int)) (outTo h p i) j) (nth (nth p (i : Int)) (j : Int)) (((nbTo h (nth h.machs (i : Int)) (nth p (i : Int)) j).1) + (((nth h.buns (nth (nth p (i : Int)) (j : Int))).hundreds) * ((nth h.machs (i : Int)).pace)))) 1),ai (nth (lset (outR h (nth h.machs (i : Int)) (nth p (i : Int)) (outTo h p i) j) (nth (nth p (i : Int)) (j : Int)) (((nbTo h (nth h.machs (i : Int)) (nth p (i : Int)) j).1) + (((nth h.buns (nth (nth p (i : Int)) (j : Int))).hundreds) * ((nth h.machs (i : Int)).pace)))) 2),ai (nth (lset (outR h (nth h.machs (i : Int)) (nth p (i : Int)) (outTo h p i) j) (nth (nth p (i : Int)) (j : Int)) (((nbTo h (nth h.machs (i : Int)) (nth p (i : Int)) j).1) + (((nth h.buns (nth (nth p (i : Int)) (j : Int))).hundreds) * ((nth h.machs (i : Int)).pace)))) 3),ai (nth (lset (outR h (nth h.machs (i : Int)) (nth p (i : Int)) (outTo h p i) j) (nth (nth p (i : Int)) (j : Int)) (((nbTo h (nth h.machs (i : Int)) (nth p (i : Int)) j).1) + (((nth h.buns (nth (nth p (i : Int)) (j : Int))).hundreds) * ((nth h.machs (i : Int)).pace)))) 4)]) S3 rfl rfl rfl rfl rfl (by first | exact negTo_len _ | exact outTo_len h p _ | (rw [outR_len]; exact outTo_len h p _)) (by first | omega | (simp; omega)) (by first | omega | (simp; omega))) ?_
          refine DRQ.v rfl rfl rfl (o_assign rfl) ?_
          refine DRQ.nil' ?_
          refine EX.blk (EX.then (WP.region ?_))
          refine WPl.v rfl (o_add rfl rfl (by first | omega | (simp; omega)) (by first | omega | (simp; omega))) ?_
          refine WPl.v rfl (o_move rfl) ?_
          refine WPl.nil ?_
          refine EX.again (j + 1) id (by first | omega | (constructor <;> omega)) (by omega) (LeR.of ⟨rfl,rfl,rfl,rfl,rfl,rfl,rfl,rfl,rfl,rfl,rfl,rfl,rfl,rfl,rfl,rfl,rfl,rfl,(congrArg (fun z => some (SV.i z)) (show (((nbTo h (nth h.machs (i : Int)) (nth p (i : Int)) j).1) + (((nth h.buns (nth (nth p (i : Int)) (j : Int))).hundreds) * ((nth h.machs (i : Int)).pace))) = ((fun j => (nbTo h (nth h.machs (i : Int)) (nth p (i : Int)) j).1) (j + 1)) from by simp only [nbTo]; rw [if_neg (by rintro ⟨g1,g2⟩; rcases hc4 with g | g; exact g g1; exact g2 g)])),(congrArg (fun z => some (SV.i z)) (show ((nth h.buns (nth (nth p (i : Int)) (j : Int))).edition) = ((fun j => (nbTo h (nth h.machs (i : Int)) (nth p (i : Int)) j).2) (j + 1)) from by simp only [nbTo])),rfl,rfl,rfl,trivial⟩ ⟨(lx rfl),(lx rfl),(lx rfl),(lx rfl),(lx rfl),(lx rfl),(lx rfl),trivial⟩ ⟨rfl,rfl,(congrArg (fun z => some (Ent.blk z 128)) (List.cons_eq_cons.2 ⟨(congrArg (fun z => ai z) (show (nth (lset (outR h (nth h.machs (i : Int)) (nth p (i : Int)) (outTo h p i) j) (nth (nth p (i : Int)) (j : Int)) (((nbTo h (nth h.machs (i : Int)) (nth p (i : Int)) j).1) + (((nth h.buns (nth (nth p (i : Int)) (j : Int))).hundreds) * ((nth h.machs (i : Int)).pace)))) 0) = ((fun j => nth (outR h (nth h.machs (i : Int)) (nth p (i : Int)) (outTo h p i) j) 0) (j + 1)) from by simp only [outR,nbTo]; rw [if_neg (by rintro ⟨g1,g2⟩; rcases hc4 with g | g; exact g g1; exact g2 g)])),(List.cons_eq_cons.2 ⟨(congrArg (fun z => ai z) (show (nth (lset (outR h (nth h.machs (i : Int)) (nth p (i : Int)) (outTo h p i) j) (nth (nth p (i : Int)) (j : Int)) (((nbTo h (nth h.machs (i : Int)) (nth p (i : Int)) j).1) + (((nth h.buns (nth (nth p (i : Int)) (j : Int))).hundreds) * ((nth h.machs (i : Int)).pace)))) 1) = ((fun j => nth (outR h (nth h.machs (i : Int)) (nth p (i : Int)) (outTo h p i) j) 1) (j + 1)) from by simp only [outR,nbTo]; rw [if_neg (by rintro ⟨g1,g2⟩; rcases hc4 with g | g; exact g g1; exact g2 g)])),(List.cons_eq_cons.2 ⟨(congrArg (fun z => ai z) (show (nth (lset (outR h (nth h.machs (i : Int)) (nth p (i : Int)) (outTo h p i) j) (nth (nth p (i : Int)) (j : Int)) (((nbTo h (nth h.machs (i : Int)) (nth p (i : Int)) j).1) + (((nth h.buns (nth (nth p (i : Int)) (j : Int))).hundreds) * ((nth h.machs (i : Int)).pace)))) 2) = ((fun j => nth (outR h (nth h.machs (i : Int)) (nth p (i : Int)) (outTo h p i) j) 2) (j + 1)) from by simp only [outR,nbTo]; rw [if_neg (by rintro ⟨g1,g2⟩; rcases hc4 with g | g; exact g g1; exact g2 g)])),(List.cons_eq_cons.2 ⟨(congrArg (fun z => ai z) (show (nth (lset (outR h (nth h.machs (i : Int)) (nth p (i : Int)) (outTo h p i) j) (nth (nth p (i : Int)) (j : Int)) (((nbTo h (nth h.machs (i : Int)) (nth p (i : Int)) j).1) + (((nth h.buns (nth (nth p (i : Int)) (j : Int))).hundreds) * ((nth h.machs (i : Int)).pace)))) 3) = ((fun j => nth (outR h (nth h.machs (i : Int)) (nth p (i : Int)) (outTo h p i) j) 3) (j + 1)) from by simp only [outR,nbTo]; rw [if_neg (by rintro ⟨g1,g2⟩; rcases hc4 with g | g; exact g g1; exact g2 g)])),(List.cons_eq_cons.2 ⟨(congrArg (fun z => ai z) (show (nth (lset (outR h (nth h.machs (i : Int)) (nth p (i : Int)) (outTo h p i) j) (nth (nth p (i : Int)) (j : Int)) (((nbTo h (nth h.machs (i : Int)) (nth p (i : Int)) j).1) + (((nth h.buns (nth (nth p (i : Int)) (j : Int))).hundreds) * ((nth h.machs (i : Int)).pace)))) 4) = ((fun j => nth (outR h (nth h.machs (i : Int)) (nth p (i : Int)) (outTo h p i) j) 4) (j + 1)) from by simp only [outR,nbTo]; rw [if_neg (by rintro ⟨g1,g2⟩; rcases hc4 with g | g; exact g g1; exact g2 g)])),(Eq.refl [])⟩)⟩)⟩)⟩)⟩)),trivial⟩ rfl rfl rfl rfl rfl)
      · try simp only [cnd] at hc3
        refine WP.exit (EX.exit_then (EX.exit_then (EX.exit_blk (EX.blk (EX.then (WP.region ?_))))))
        refine WPl.v rfl (o_add rfl rfl (by first | omega | (simp; omega)) (by first | omega | (simp; omega))) ?_
        refine WPl.v rfl (o_move rfl) ?_
        refine WPl.nil ?_
        refine EX.again (i + 1) id (by first | omega | (constructor <;> omega)) (by omega) (LeR.of ⟨rfl,rfl,rfl,rfl,rfl,rfl,trivial⟩ ⟨(lx rfl),(lx rfl),(lx rfl),(lx rfl),trivial⟩ ⟨rfl,rfl,(congrArg (fun z => some (Ent.blk z 128)) (List.cons_eq_cons.2 ⟨(congrArg (fun z => ai z) (show (nth (outR h (nth h.machs (i : Int)) (nth p (i : Int)) (outTo h p i) j) 0) = ((fun i => nth (outTo h p i) 0) (i + 1)) from by dsimp only; rw [outTo,show (nth p (i : Int)).length = j by omega])),(List.cons_eq_cons.2 ⟨(congrArg (fun z => ai z) (show (nth (outR h (nth h.machs (i : Int)) (nth p (i : Int)) (outTo h p i) j) 1) = ((fun i => nth (outTo h p i) 1) (i + 1)) from by dsimp only; rw [outTo,show (nth p (i : Int)).length = j by omega])),(List.cons_eq_cons.2 ⟨(congrArg (fun z => ai z) (show (nth (outR h (nth h.machs (i : Int)) (nth p (i : Int)) (outTo h p i) j) 2) = ((fun i => nth (outTo h p i) 2) (i + 1)) from by dsimp only; rw [outTo,show (nth p (i : Int)).length = j by omega])),(List.cons_eq_cons.2 ⟨(congrArg (fun z => ai z) (show (nth (outR h (nth h.machs (i : Int)) (nth p (i : Int)) (outTo h p i) j) 3) = ((fun i => nth (outTo h p i) 3) (i + 1)) from by dsimp only; rw [outTo,show (nth p (i : Int)).length = j by omega])),(List.cons_eq_cons.2 ⟨(congrArg (fun z => ai z) (show (nth (outR h (nth h.machs (i : Int)) (nth p (i : Int)) (outTo h p i) j) 4) = ((fun i => nth (outTo h p i) 4) (i + 1)) from by dsimp only; rw [outTo,show (nth p (i : Int)).length = j by omega])),(Eq.refl [])⟩)⟩)⟩)⟩)⟩)),trivial⟩ rfl rfl rfl rfl rfl)
    · try simp only [cnd] at hc2
      refine WP.exit (EX.exit_then (EX.exit_then (EX.exit_blk (EX.then (WP.seq (WP.region ?_))))))
      refine WPl.v rfl (o_ldpa G128 rfl rfl rfl) ?_
      refine WPl.s1 (o_stag G128 rfl rfl rfl ⟨rfl,rfl,rfl,rfl,rfl,trivial⟩ rfl rfl) ?_
      refine WPl.nil (EX.then (WP.ret ?_))
      have he : i = p.length := by omega
      subst he
      exact EX.fin id (.inl rfl) rfl (.cellg G128 rfl rfl rfl (.nil)) rfl (by simp [SV.res,El.res,At.res,keys]) trivial (by simp) (by simp)
theorem w85 {h : Hall} {t : List Int} : ∀ x ∈ ([.e (.g [.q 0,.q 1,.q 2,ai (h.change)]),.e (.g [ai (nth t 0),ai (nth t 1),ai (nth t 2),ai (nth t 3),ai (nth t 4)])] : List SV),x.res (keys (α := Pred) [(0,PL ETm (h.machs)),(1,PL EBd (h.buns)),(2,PL EP.int (h.trains))]) := by simp [SV.res,El.res,At.res,keys]
theorem r85 {h : Hall} {t : List Int} : SV.res (keys (α := Pred) []) (.e (.g [ai (nth (rdTo h t h.buns.length) 0),ai (nth (rdTo h t h.buns.length) 1),ai (nth (rdTo h t h.buns.length) 2),ai (nth (rdTo h t h.buns.length) 3)])) := by simp [SV.res,El.res,At.res,keys]
set_option maxHeartbeats 4000000 in
theorem c85 (h : Hall) (t : List Int) (hh : HouC h) (ht : t.length = 5) : Sig Try.prog 85 [.e (.g [.q 0,.q 1,.q 2,ai (h.change)]),.e (.g [ai (nth t 0),ai (nth t 1),ai (nth t 2),ai (nth t 3),ai (nth t 4)])] [(0,PL ETm (h.machs)),(1,PL EBd (h.buns)),(2,PL EP.int (h.trains))] (.e (.g [ai (nth (rdTo h t h.buns.length) 0),ai (nth (rdTo h t h.buns.length) 1),ai (nth (rdTo h t h.buns.length) 2),ai (nth (rdTo h t h.buns.length) 3)])) [] := by
  have hb1 := hh.b
  have ht1 := hh.t
  refine Sig.intro Try.func85 rfl 3 [(0,.e (.g [.q 0,.q 1,.q 2,ai (h.change)])),(1,.e (.g [ai (nth t 0),ai (nth t 1),ai (nth t 2),ai (nth t 3),ai (nth t 4)]))] rfl w85 rfl rfl fun I w => ?_
  refine WP.seq (WP.region ?_)
  refine WPl.l 3 4 rfl rfl rfl (o_boxg rfl) ?_
  refine WPl.l 4 5 rfl rfl rfl (o_boxg rfl) ?_
  refine WPl.l 5 6 rfl rfl rfl (o_alloc Z108) ?_
  refine WPl.nil (EX.then (WP.seq (WP.region ?_)))
  refine WPl.l 6 7 rfl rfl rfl (o_alloc Z108) ?_
  refine WPl.nil (EX.then (WP.seq (WP.seq (WP.region ?_))))
  refine WPl.v rfl (o_fldp F26_1 rfl) ?_
  refine WPl.v rfl (o_ldp S23 rfl rfl rfl) ?_
  refine WPl.v rfl (o_lenq L23 rfl (lx rfl)) ?_
  refine WPl.v rfl (o_move rfl) ?_
  refine WPl.nil (EX.then (WP.block ?_))
  refine WP.loop (Gh := Nat) (fun i => ⟨7,[(3,.e (.a (.p 4 (0)))),(4,.e (.a (.p 5 (0)))),(5,.e (.a (.p 6 (0)))),(9,.e (.a (.q 1))),(10,.i ((h.buns.length : Int))),(11,.i ((i : Int)))],[(1,PL EBd (h.buns))],[(4,.blk [ai (nth (tN t i) 0),ai (nth (tN t i) 1),ai (nth (tN t i) 2),ai (nth (tN t i) 3),ai (nth (tN t i) 4)] 128),(5,.blk [ai (0),ai (0),ai (0),ai (0)] 108),(6,.blk [ai (nth (rdTo h t i) 0),ai (nth (rdTo h t i) 1),ai (nth (rdTo h t i) 2),ai (nth (rdTo h t i) 3)] 108)],[],[]⟩) (fun i => i ≤ h.buns.length) (fun i => h.buns.length - i) (0) id ?_ (LeR.of ⟨rfl,rfl,rfl,rfl,rfl,rfl,trivial⟩ ⟨(lx rfl),trivial⟩ ⟨(congrArg (fun z => some (Ent.blk z 128)) (List.cons_eq_cons.2 ⟨(congrArg (fun z => ai z) (show (nth t 0) = ((fun i => nth (tN t i) 0) 0) from rfl)),(List.cons_eq_cons.2 ⟨(congrArg (fun z => ai z) (show (nth t 1) = ((fun i => nth (tN t i) 1) 0) from rfl)),(List.cons_eq_cons.2 ⟨(congrArg (fun z => ai z) (show (nth t 2) = ((fun i => nth (tN t i) 2) 0) from rfl)),(List.cons_eq_cons.2 ⟨(congrArg (fun z => ai z) (show (nth t 3) = ((fun i => nth (tN t i) 3) 0) from rfl)),(List.cons_eq_cons.2 ⟨(congrArg (fun z => ai z) (show (nth t 4) = ((fun i => nth (tN t i) 4) 0) from rfl)),(Eq.refl [])⟩)⟩)⟩)⟩)⟩)),rfl,(congrArg (fun z => some (Ent.blk z 108)) (List.cons_eq_cons.2 ⟨(congrArg (fun z => ai z) (show (0) = ((fun i => nth (rdTo h t i) 0) 0) from rfl)),(List.cons_eq_cons.2 ⟨(congrArg (fun z => ai z) (show (0) = ((fun i => nth (rdTo h t i) 1) 0) from rfl)),(List.cons_eq_cons.2 ⟨(congrArg (fun z => ai z) (show (0) = ((fun i => nth (rdTo h t i) 2) 0) from rfl)),(List.cons_eq_cons.2 ⟨(congrArg (fun z => ai z) (show (0) = ((fun i => nth (rdTo h t i) 3) 0) from rfl)),(Eq.refl [])⟩)⟩)⟩)⟩)),trivial⟩ rfl rfl rfl rfl rfl) ?_
  · first | trivial | omega | (constructor <;> omega) | simp
  intro i hφ
  have hi : i ≤ h.buns.length := hφ
  refine WP.seq (WP.region ?_)
  refine WPl.v rfl (o_lss rfl rfl) ?_
  refine WPl.nil (EX.then (WP.seq ?_))
  refine WP.cond rfl (fun hc1 => ?_) (fun hc1 => ?_)
  · try simp only [cnd] at hc1
    refine WP.skip (EX.then (WP.seq (WP.block (WP.seq (WP.region ?_)))))
    refine WPl.v rfl (o_move rfl) ?_
    refine WPl.x 7 8 rfl rfl rfl (o_idx L23 rfl (lx rfl) rfl (by first | omega | (simp; omega)) (by first | omega | (simp; omega))) ?_
    have hbx := hh.bu i (by omega)
    refine WPl.v rfl (o_ldqg G58 rfl (lx rfl) (strG rfl) rfl rfl) ?_
    refine WPl.l 8 9 rfl rfl rfl (o_alloc Z58) ?_
    refine WPl.v rfl (o_assign rfl) ?_
    refine WPl.s1 (o_stag G58 rfl rfl rfl ⟨rfl,rfl,rfl,trivial⟩ rfl rfl) ?_
    refine WPl.nil (EX.then (WP.seq (WP.seq (WP.region ?_))))
    refine WPl.v rfl (o_move rfl) ?_
    refine WPl.v rfl (o_idxp A128 rfl rfl (by first | omega | (simp; omega)) (by first | omega | (simp; omega))) ?_
    refine WPl.v rfl (o_ldpn (n := 5) (l := tN t i) S3 rfl rfl rfl (by first | omega | (simp; omega)) (by first | omega | (simp; omega))) ?_
    refine WPl.v rfl (o_eql rfl rfl) ?_
    refine WPl.nil (EX.then ?_)
    refine WP.cond rfl (fun hc2 => ?_) (fun hc2 => ?_)
    · try simp only [cnd] at hc2
      refine WP.region ?_
      refine WPl.v rfl (o_move rfl) ?_
      refine WPl.v rfl (o_idxp A128 rfl rfl (by first | omega | (simp; omega)) (by first | omega | (simp; omega))) ?_
      refine WPl.s1 (o_stpn (n := 5) (l := tN t i) (cs' := [ai (nth (lset (tN t i) (i : Int) 1048576) 0),ai (nth (lset (tN t i) (i : Int) 1048576) 1),ai (nth (lset (tN t i) (i : Int) 1048576) 2),ai (nth (lset (tN t i) (i : Int) 1048576) 3),ai (nth (lset (tN t i) (i : Int) 1048576) 4)]) S3 rfl rfl rfl rfl rfl (by first | exact rdTo_len h t _ | (rw [tN_len]; exact ht) | (rw [lset_len,tN_len]; exact ht)) (by first | omega | (simp; omega)) (by first | omega | (simp; omega))) ?_
      refine WPl.nil (EX.then ?_)
      refine WP.draw (nf := 9) [⟨[24,25,26,27,28,29,30,31],[],[],[],[]⟩,⟨[24,25,26,27,28,29,30,31],[],[],[],[0]⟩,⟨[22,23,28,29,30],[],[],[],[]⟩,⟨[22,23,28,29,30],[],[],[],[2]⟩,⟨[22,23,28,29,30],[],[],[],[2,3]⟩,⟨[22,23,28,29,30],[],[],[],[2,3,4]⟩,⟨[22,23,24,25,26,27],[],[],[],[]⟩,⟨[22,23,24,25,26,27],[],[],[],[6]⟩,⟨[22,23,24,25,26,27],[],[],[],[6,7]⟩,⟨[22,23],[],[],[],[2,3,4,5,6,7,8]⟩,⟨[],[],[],[],[0,1,2,3,4,5,6,7,8,9]⟩,⟨[],[],[],[6],[0,1,2,3,4,5,6,7,8,9,10]⟩] (by kernel_rfl) (by kernel_rfl) ?_
      refine DRQ.v rfl rfl rfl (o_fldp F58_0 rfl) ?_
      refine DRQ.v rfl rfl rfl (o_ldp S3 rfl rfl rfl) ?_
      refine DRQ.v rfl rfl rfl (o_fldp F58_0 rfl) ?_
      refine DRQ.v rfl rfl rfl (o_ldp S3 rfl rfl rfl) ?_
      refine DRQ.v rfl rfl rfl (o_idxp A108 rfl rfl (by first | omega | (simp; omega)) (by first | omega | (simp; omega))) ?_
      refine DRQ.v rfl rfl rfl (o_ldpn (n := 4) (l := rdTo h t i) S3 rfl rfl rfl (by first | omega | (simp; omega)) (by first | omega | (simp; omega))) ?_
      refine DRQ.v rfl rfl rfl (o_move rfl) ?_
      refine DRQ.v rfl rfl rfl (o_idxp A128 rfl rfl (by first | omega | (simp; omega)) (by first | omega | (simp; omega))) ?_
      refine DRQ.v rfl rfl rfl (o_ldpn (n := 5) (l := lset (tN t i) (i : Int) 1048576) S3 rfl rfl rfl (by first | omega | (simp; omega)) (by first | omega | (simp; omega))) ?_
      refine DRQ.v rfl rfl rfl (o_max rfl rfl) ?_
      refine DRQ.v rfl rfl rfl (o_idxp A108 rfl rfl (by first | omega | (simp; omega)) (by first | omega | (simp; omega))) ?_
      refine DRQ.s 6 rfl rfl rfl (o_stpn (n := 4) (l := rdTo h t i) (cs' := [ai (nth (lset (rdTo h t i) ((nth h.buns (i : Int)).train) (max (nth (rdTo h t i) ((nth h.buns (i : Int)).train)) (nth (lset (tN t i) (i : Int) 1048576) (i : Int)))) 0),ai (nth (lset (rdTo h t i) ((nth h.buns (i : Int)).train) (max (nth (rdTo h t i) ((nth h.buns (i : Int)).train)) (nth (lset (tN t i) (i : Int) 1048576) (i : Int)))) 1),ai (nth (lset (rdTo h t i) ((nth h.buns (i : Int)).train) (max (nth (rdTo h t i) ((nth h.buns (i : Int)).train)) (nth (lset (tN t i) (i : Int) 1048576) (i : Int)))) 2),ai (nth (lset (rdTo h t i) ((nth h.buns (i : Int)).train) (max (nth (rdTo h t i) ((nth h.buns (i : Int)).train)) (nth (lset (tN t i) (i : Int) 1048576) (i : Int)))) 3)]) S3 rfl rfl rfl rfl rfl (by first | exact rdTo_len h t _ | (rw [tN_len]; exact ht) | (rw [lset_len,tN_len]; exact ht)) (by first | omega | (simp; omega)) (by first | omega | (simp; omega))) ?_
      refine DRQ.nil' ?_
      refine EX.blk (EX.then (WP.region ?_))
      refine WPl.v rfl (o_add rfl rfl (by first | omega | (simp; omega)) (by first | omega | (simp; omega))) ?_
      refine WPl.v rfl (o_move rfl) ?_
      refine WPl.nil ?_
      refine EX.again (i + 1) id (by first | omega | (constructor <;> omega)) (by omega) (LeR.of ⟨rfl,rfl,rfl,rfl,rfl,rfl,trivial⟩ ⟨(lx rfl),trivial⟩ ⟨(congrArg (fun z => some (Ent.blk z 128)) (List.cons_eq_cons.2 ⟨(congrArg (fun z => ai z) (show (nth (lset (tN t i) (i : Int) 1048576) 0) = ((fun i => nth (tN t i) 0) (i + 1)) from by simp only [tN]; rw [if_pos hc2])),(List.cons_eq_cons.2 ⟨(congrArg (fun z => ai z) (show (nth (lset (tN t i) (i : Int) 1048576) 1) = ((fun i => nth (tN t i) 1) (i + 1)) from by simp only [tN]; rw [if_pos hc2])),(List.cons_eq_cons.2 ⟨(congrArg (fun z => ai z) (show (nth (lset (tN t i) (i : Int) 1048576) 2) = ((fun i => nth (tN t i) 2) (i + 1)) from by simp only [tN]; rw [if_pos hc2])),(List.cons_eq_cons.2 ⟨(congrArg (fun z => ai z) (show (nth (lset (tN t i) (i : Int) 1048576) 3) = ((fun i => nth (tN t i) 3) (i + 1)) from by simp only [tN]; rw [if_pos hc2])),(List.cons_eq_cons.2 ⟨(congrArg (fun z => ai z) (show (nth (lset (tN t i) (i : Int) 1048576) 4) = ((fun i => nth (tN t i) 4) (i + 1)) from by simp only [tN]; rw [if_pos hc2])),(Eq.refl [])⟩)⟩)⟩)⟩)⟩)),rfl,(congrArg (fun z => some (Ent.blk z 108)) (List.cons_eq_cons.2 ⟨(congrArg (fun z => ai z) (show (nth (lset (rdTo h t i) ((nth h.buns (i : Int)).train) (max (nth (rdTo h t i) ((nth h.buns (i : Int)).train)) (nth (lset (tN t i) (i : Int) 1048576) (i : Int)))) 0) = ((fun i => nth (rdTo h t i) 0) (i + 1)) from by simp only [rdTo,tN]; rw [if_pos hc2])),(List.cons_eq_cons.2 ⟨(congrArg (fun z => ai z) (show (nth (lset (rdTo h t i) ((nth h.buns (i : Int)).train) (max (nth (rdTo h t i) ((nth h.buns (i : Int)).train)) (nth (lset (tN t i) (i : Int) 1048576) (i : Int)))) 1) = ((fun i => nth (rdTo h t i) 1) (i + 1)) from by simp only [rdTo,tN]; rw [if_pos hc2])),(List.cons_eq_cons.2 ⟨(congrArg (fun z => ai z) (show (nth (lset (rdTo h t i) ((nth h.buns (i : Int)).train) (max (nth (rdTo h t i) ((nth h.buns (i : Int)).train)) (nth (lset (tN t i) (i : Int) 1048576) (i : Int)))) 2) = ((fun i => nth (rdTo h t i) 2) (i + 1)) from by simp only [rdTo,tN]; rw [if_pos hc2])),(List.cons_eq_cons.2 ⟨(congrArg (fun z => ai z) (show (nth (lset (rdTo h t i) ((nth h.buns (i : Int)).train) (max (nth (rdTo h t i) ((nth h.buns (i : Int)).train)) (nth (lset (tN t i) (i : Int) 1048576) (i : Int)))) 3) = ((fun i => nth (rdTo h t i) 3) (i + 1)) from by simp only [rdTo,tN]; rw [if_pos hc2])),(Eq.refl [])⟩)⟩)⟩)⟩)),trivial⟩ rfl rfl rfl rfl rfl)
    · try simp only [cnd] at hc2
      refine WP.skip (EX.then ?_)
      refine WP.draw (nf := 9) [⟨[24,25,26,27,28,29,30,31],[],[],[],[]⟩,⟨[24,25,26,27,28,29,30,31],[],[],[],[0]⟩,⟨[22,23,28,29,30],[],[],[],[]⟩,⟨[22,23,28,29,30],[],[],[],[2]⟩,⟨[22,23,28,29,30],[],[],[],[2,3]⟩,⟨[22,23,28,29,30],[],[],[],[2,3,4]⟩,⟨[22,23,24,25,26,27],[],[],[],[]⟩,⟨[22,23,24,25,26,27],[],[],[],[6]⟩,⟨[22,23,24,25,26,27],[],[],[],[6,7]⟩,⟨[22,23],[],[],[],[2,3,4,5,6,7,8]⟩,⟨[],[],[],[],[0,1,2,3,4,5,6,7,8,9]⟩,⟨[],[],[],[6],[0,1,2,3,4,5,6,7,8,9,10]⟩] (by kernel_rfl) (by kernel_rfl) ?_
      refine DRQ.v rfl rfl rfl (o_fldp F58_0 rfl) ?_
      refine DRQ.v rfl rfl rfl (o_ldp S3 rfl rfl rfl) ?_
      refine DRQ.v rfl rfl rfl (o_fldp F58_0 rfl) ?_
      refine DRQ.v rfl rfl rfl (o_ldp S3 rfl rfl rfl) ?_
      refine DRQ.v rfl rfl rfl (o_idxp A108 rfl rfl (by first | omega | (simp; omega)) (by first | omega | (simp; omega))) ?_
      refine DRQ.v rfl rfl rfl (o_ldpn (n := 4) (l := rdTo h t i) S3 rfl rfl rfl (by first | omega | (simp; omega)) (by first | omega | (simp; omega))) ?_
      refine DRQ.v rfl rfl rfl (o_move rfl) ?_
      refine DRQ.v rfl rfl rfl (o_idxp A128 rfl rfl (by first | omega | (simp; omega)) (by first | omega | (simp; omega))) ?_
      refine DRQ.v rfl rfl rfl (o_ldpn (n := 5) (l := tN t i) S3 rfl rfl rfl (by first | omega | (simp; omega)) (by first | omega | (simp; omega))) ?_
      refine DRQ.v rfl rfl rfl (o_max rfl rfl) ?_
      refine DRQ.v rfl rfl rfl (o_idxp A108 rfl rfl (by first | omega | (simp; omega)) (by first | omega | (simp; omega))) ?_
      refine DRQ.s 6 rfl rfl rfl (o_stpn (n := 4) (l := rdTo h t i) (cs' := [ai (nth (lset (rdTo h t i) ((nth h.buns (i : Int)).train) (max (nth (rdTo h t i) ((nth h.buns (i : Int)).train)) (nth (tN t i) (i : Int)))) 0),ai (nth (lset (rdTo h t i) ((nth h.buns (i : Int)).train) (max (nth (rdTo h t i) ((nth h.buns (i : Int)).train)) (nth (tN t i) (i : Int)))) 1),ai (nth (lset (rdTo h t i) ((nth h.buns (i : Int)).train) (max (nth (rdTo h t i) ((nth h.buns (i : Int)).train)) (nth (tN t i) (i : Int)))) 2),ai (nth (lset (rdTo h t i) ((nth h.buns (i : Int)).train) (max (nth (rdTo h t i) ((nth h.buns (i : Int)).train)) (nth (tN t i) (i : Int)))) 3)]) S3 rfl rfl rfl rfl rfl (by first | exact rdTo_len h t _ | (rw [tN_len]; exact ht) | (rw [lset_len,tN_len]; exact ht)) (by first | omega | (simp; omega)) (by first | omega | (simp; omega))) ?_
      refine DRQ.nil' ?_
      refine EX.blk (EX.then (WP.region ?_))
      refine WPl.v rfl (o_add rfl rfl (by first | omega | (simp; omega)) (by first | omega | (simp; omega))) ?_
      refine WPl.v rfl (o_move rfl) ?_
      refine WPl.nil ?_
      refine EX.again (i + 1) id (by first | omega | (constructor <;> omega)) (by omega) (LeR.of ⟨rfl,rfl,rfl,rfl,rfl,rfl,trivial⟩ ⟨(lx rfl),trivial⟩ ⟨(congrArg (fun z => some (Ent.blk z 128)) (List.cons_eq_cons.2 ⟨(congrArg (fun z => ai z) (show (nth (tN t i) 0) = ((fun i => nth (tN t i) 0) (i + 1)) from by simp only [tN]; rw [if_neg hc2])),(List.cons_eq_cons.2 ⟨(congrArg (fun z => ai z) (show (nth (tN t i) 1) = ((fun i => nth (tN t i) 1) (i + 1)) from by simp only [tN]; rw [if_neg hc2])),(List.cons_eq_cons.2 ⟨(congrArg (fun z => ai z) (show (nth (tN t i) 2) = ((fun i => nth (tN t i) 2) (i + 1)) from by simp only [tN]; rw [if_neg hc2])),(List.cons_eq_cons.2 ⟨(congrArg (fun z => ai z) (show (nth (tN t i) 3) = ((fun i => nth (tN t i) 3) (i + 1)) from by simp only [tN]; rw [if_neg hc2])),(List.cons_eq_cons.2 ⟨(congrArg (fun z => ai z) (show (nth (tN t i) 4) = ((fun i => nth (tN t i) 4) (i + 1)) from by simp only [tN]; rw [if_neg hc2])),(Eq.refl [])⟩)⟩)⟩)⟩)⟩)),rfl,(congrArg (fun z => some (Ent.blk z 108)) (List.cons_eq_cons.2 ⟨(congrArg (fun z => ai z) (show (nth (lset (rdTo h t i) ((nth h.buns (i : Int)).train) (max (nth (rdTo h t i) ((nth h.buns (i : Int)).train)) (nth (tN t i) (i : Int)))) 0) = ((fun i => nth (rdTo h t i) 0) (i + 1)) from by simp only [rdTo,tN]; rw [if_neg hc2])),(List.cons_eq_cons.2 ⟨(congrArg (fun z => ai z) (show (nth (lset (rdTo h t i) ((nth h.buns (i : Int)).train) (max (nth (rdTo h t i) ((nth h.buns (i : Int)).train)) (nth (tN t i) (i : Int)))) 1) = ((fun i => nth (rdTo h t i) 1) (i + 1)) from by simp only [rdTo,tN]; rw [if_neg hc2])),(List.cons_eq_cons.2 ⟨(congrArg (fun z => ai z) (show (nth (lset (rdTo h t i) ((nth h.buns (i : Int)).train) (max (nth (rdTo h t i) ((nth h.buns (i : Int)).train)) (nth (tN t i) (i : Int)))) 2) = ((fun i => nth (rdTo h t i) 2) (i + 1)) from by simp only [rdTo,tN]; rw [if_neg hc2])),(List.cons_eq_cons.2 ⟨(congrArg (fun z => ai z) (show (nth (lset (rdTo h t i) ((nth h.buns (i : Int)).train) (max (nth (rdTo h t i) ((nth h.buns (i : Int)).train)) (nth (tN t i) (i : Int)))) 3) = ((fun i => nth (rdTo h t i) 3) (i + 1)) from by simp only [rdTo,tN]; rw [if_neg hc2])),(Eq.refl [])⟩)⟩)⟩)⟩)),trivial⟩ rfl rfl rfl rfl rfl)
  · try simp only [cnd] at hc1
    refine WP.exit (EX.exit_then (EX.exit_then (EX.exit_blk (EX.then (WP.seq (WP.region ?_))))))
    refine WPl.v rfl (o_ldpa G108 rfl rfl rfl) ?_
    refine WPl.s1 (o_stag G108 rfl rfl rfl ⟨rfl,rfl,rfl,rfl,trivial⟩ rfl rfl) ?_
    refine WPl.nil (EX.then (WP.ret ?_))
    have he : i = h.buns.length := by omega
    subst he
    exact EX.fin id (.inl rfl) rfl (.cellg G108 rfl rfl rfl (.nil)) rfl (by simp [SV.res,El.res,At.res,keys]) trivial (by simp) (by simp)
theorem w62 {h : Hall} {r : List Int} : ∀ x ∈ ([.e (.g [.q 0,.q 1,.q 2,ai (h.change)]),.e (.g [ai (nth r 0),ai (nth r 1),ai (nth r 2),ai (nth r 3)])] : List SV),x.res (keys (α := Pred) [(0,PL ETm (h.machs)),(1,PL EBd (h.buns)),(2,PL EP.int (h.trains))]) := by simp [SV.res,El.res,At.res,keys]
theorem r62 {h : Hall} {r : List Int} : SV.res (keys (α := Pred) []) (.e (.a (.v (.int .u64 ((latM h r : Nat) : Int))))) := by simp [SV.res,El.res,At.res,keys]
set_option maxHeartbeats 4000000 in
theorem c62 (h : Hall) (r : List Int) (hh : HouC h) (hr : r.length = 4) : Sig Try.prog 62 [.e (.g [.q 0,.q 1,.q 2,ai (h.change)]),.e (.g [ai (nth r 0),ai (nth r 1),ai (nth r 2),ai (nth r 3)])] [(0,PL ETm (h.machs)),(1,PL EBd (h.buns)),(2,PL EP.int (h.trains))] (.e (.a (.v (.int .u64 ((latM h r : Nat) : Int))))) [] := by
  have ht1 := hh.t
  refine Sig.intro Try.func62 rfl 3 [(0,.e (.g [.q 0,.q 1,.q 2,ai (h.change)])),(1,.e (.g [ai (nth r 0),ai (nth r 1),ai (nth r 2),ai (nth r 3)]))] rfl w62 rfl rfl fun I w => ?_
  refine WP.seq (WP.region ?_)
  refine WPl.l 3 4 rfl rfl rfl (o_boxg rfl) ?_
  refine WPl.l 4 5 rfl rfl rfl (o_boxg rfl) ?_
  refine WPl.v rfl (o_assign rfl) ?_
  refine WPl.nil (EX.then (WP.seq (WP.region ?_)))
  refine WPl.v rfl (o_assign rfl) ?_
  refine WPl.nil (EX.then (WP.seq (WP.seq (WP.region ?_))))
  refine WPl.v rfl (o_fldp F26_2 rfl) ?_
  refine WPl.v rfl (o_ldp S24 rfl rfl rfl) ?_
  refine WPl.v rfl (o_lenq L24 rfl (lx rfl)) ?_
  refine WPl.v rfl (o_move rfl) ?_
  refine WPl.nil (EX.then (WP.block ?_))
  refine WP.loop (Gh := Nat) (fun i => ⟨5,[(3,.e (.a (.p 4 (0)))),(4,.e (.a (.v (.int .u64 0)))),(5,.e (.a (.v (.int .u64 ((latTo h r i : Nat) : Int))))),(9,.e (.a (.q 2))),(10,.i ((h.trains.length : Int))),(11,.i ((i : Int)))],[(2,PL EP.int (h.trains))],[(4,.blk [ai (nth r 0),ai (nth r 1),ai (nth r 2),ai (nth r 3)] 108)],[],[]⟩) (fun i => i ≤ h.trains.length) (fun i => h.trains.length - i) (0) id ?_ (LeR.of ⟨rfl,rfl,(congrArg (fun z => some (SV.e (El.a (At.v (Value.int .u64 z))))) (show (0) = (fun i => ((latTo h r i : Nat) : Int)) 0 from rfl)),rfl,rfl,rfl,trivial⟩ ⟨(lx rfl),trivial⟩ ⟨(congrArg (fun z => some (Ent.blk z 108)) (List.cons_eq_cons.2 ⟨(congrArg (fun z => ai z) (show (nth r 0) = ((fun i => nth r 0) 0) from rfl)),(List.cons_eq_cons.2 ⟨(congrArg (fun z => ai z) (show (nth r 1) = ((fun i => nth r 1) 0) from rfl)),(List.cons_eq_cons.2 ⟨(congrArg (fun z => ai z) (show (nth r 2) = ((fun i => nth r 2) 0) from rfl)),(List.cons_eq_cons.2 ⟨(congrArg (fun z => ai z) (show (nth r 3) = ((fun i => nth r 3) 0) from rfl)),(Eq.refl [])⟩)⟩)⟩)⟩)),trivial⟩ rfl rfl rfl rfl rfl) ?_
  · first | trivial | omega | (constructor <;> omega) | simp
  intro i hφ
  have hi : i ≤ h.trains.length := hφ
  refine WP.seq (WP.region ?_)
  refine WPl.v rfl (o_lss rfl rfl) ?_
  refine WPl.nil (EX.then (WP.seq ?_))
  refine WP.cond rfl (fun hc1 => ?_) (fun hc1 => ?_)
  · try simp only [cnd] at hc1
    refine WP.skip (EX.then (WP.seq (WP.block (WP.seq (WP.region ?_)))))
    refine WPl.v rfl (o_move rfl) ?_
    refine WPl.x 5 6 rfl rfl rfl (o_idx L24 rfl (lx rfl) rfl (by first | omega | (simp; omega)) (by first | omega | (simp; omega))) ?_
    refine WPl.v rfl (o_ldq S3 rfl (lx rfl) intc) ?_
    refine WPl.v rfl (o_assign rfl) ?_
    refine WPl.v rfl (o_assign rfl) ?_
    refine WPl.nil (EX.then (WP.seq (WP.region ?_)))
    refine WPl.v rfl (o_move rfl) ?_
    refine WPl.v rfl (o_idxp A108 rfl rfl (by first | omega | (simp; omega)) (by first | omega | (simp; omega))) ?_
    refine WPl.v rfl (o_ldpn (n := 4) (l := r) S3 rfl rfl rfl (by first | omega | (simp; omega)) (by first | omega | (simp; omega))) ?_
    refine WPl.v rfl (o_move rfl) ?_
    refine WPl.v rfl (o_gtr rfl rfl) ?_
    refine WPl.nil (EX.then ?_)
    refine WP.cond rfl (fun hc2 => ?_) (fun hc2 => ?_)
    · try simp only [cnd] at hc2
      refine WP.region ?_
      refine WPl.v rfl (o_move rfl) ?_
      refine WPl.v rfl (o_move rfl) ?_
      refine WPl.v rfl (o_ush rfl rfl (by first | omega | (simp; omega)) (by simp)) ?_
      refine WPl.v rfl (o_ua rfl rfl (by simp)) ?_
      refine WPl.v rfl (o_assign rfl) ?_
      refine WPl.nil (EX.blk (EX.then (WP.region ?_)))
      refine WPl.v rfl (o_add rfl rfl (by first | omega | (simp; omega)) (by first | omega | (simp; omega))) ?_
      refine WPl.v rfl (o_move rfl) ?_
      refine WPl.nil ?_
      refine EX.again (i + 1) id (by first | omega | (constructor <;> omega)) (by omega) (LeR.of ⟨rfl,rfl,(congrArg (fun z => some (SV.e (El.a (At.v (Value.int .u64 z))))) (show (ui .or ((latTo h r i : Nat) : Int) (ui .shl 1 (i : Int))) = (fun i => ((latTo h r i : Nat) : Int)) (i + 1) from by dsimp only; rw [latTo,if_pos hc2]; exact lat_or (Nat.lt_of_lt_of_le (latTo_b h r i (by omega)) (Nat.pow_le_pow_right (by omega) (show i ≤ 4 by omega))) (by omega))),rfl,rfl,rfl,trivial⟩ ⟨(lx rfl),trivial⟩ ⟨(congrArg (fun z => some (Ent.blk z 108)) (List.cons_eq_cons.2 ⟨(congrArg (fun z => ai z) (show (nth r 0) = ((fun i => nth r 0) (i + 1)) from rfl)),(List.cons_eq_cons.2 ⟨(congrArg (fun z => ai z) (show (nth r 1) = ((fun i => nth r 1) (i + 1)) from rfl)),(List.cons_eq_cons.2 ⟨(congrArg (fun z => ai z) (show (nth r 2) = ((fun i => nth r 2) (i + 1)) from rfl)),(List.cons_eq_cons.2 ⟨(congrArg (fun z => ai z) (show (nth r 3) = ((fun i => nth r 3) (i + 1)) from rfl)),(Eq.refl [])⟩)⟩)⟩)⟩)),trivial⟩ rfl rfl rfl rfl rfl)
    · try simp only [cnd] at hc2
      refine WP.skip (EX.blk (EX.then (WP.region ?_)))
      refine WPl.v rfl (o_add rfl rfl (by first | omega | (simp; omega)) (by first | omega | (simp; omega))) ?_
      refine WPl.v rfl (o_move rfl) ?_
      refine WPl.nil ?_
      refine EX.again (i + 1) id (by first | omega | (constructor <;> omega)) (by omega) (LeR.of ⟨rfl,rfl,(congrArg (fun z => some (SV.e (El.a (At.v (Value.int .u64 z))))) (show ((latTo h r i : Nat) : Int) = (fun i => ((latTo h r i : Nat) : Int)) (i + 1) from by dsimp only; rw [latTo,if_neg hc2])),rfl,rfl,rfl,trivial⟩ ⟨(lx rfl),trivial⟩ ⟨(congrArg (fun z => some (Ent.blk z 108)) (List.cons_eq_cons.2 ⟨(congrArg (fun z => ai z) (show (nth r 0) = ((fun i => nth r 0) (i + 1)) from rfl)),(List.cons_eq_cons.2 ⟨(congrArg (fun z => ai z) (show (nth r 1) = ((fun i => nth r 1) (i + 1)) from rfl)),(List.cons_eq_cons.2 ⟨(congrArg (fun z => ai z) (show (nth r 2) = ((fun i => nth r 2) (i + 1)) from rfl)),(List.cons_eq_cons.2 ⟨(congrArg (fun z => ai z) (show (nth r 3) = ((fun i => nth r 3) (i + 1)) from rfl)),(Eq.refl [])⟩)⟩)⟩)⟩)),trivial⟩ rfl rfl rfl rfl rfl)
  · try simp only [cnd] at hc1
    refine WP.exit (EX.exit_then (EX.exit_then (EX.exit_blk (EX.then (WP.seq (WP.region ?_))))))
    refine WPl.v rfl (o_move rfl) ?_
    refine WPl.v rfl (o_assign rfl) ?_
    refine WPl.nil (EX.then (WP.ret ?_))
    have he : i = h.trains.length := by omega
    subst he
    exact EX.fin id (.inl rfl) rfl (.tmp rfl .nil) rfl (by simp [SV.res,El.res,At.res,keys]) trivial (by simp) (by simp)
theorem w95 {s : Nat} : ∀ x ∈ ([.e (.a (.v (.int .u64 ((s : Nat) : Int))))] : List SV),x.res (keys (α := Pred) []) := by simp [SV.res,El.res,At.res,keys]
theorem r95 {s : Nat} : SV.res (keys (α := Pred) [(0,PL EP.int (lstTo s 4))]) (.e (.a (.q 0))) := by simp [SV.res,El.res,At.res,keys]
set_option maxHeartbeats 4000000 in
theorem c95 (s : Nat) (hs : s < 16) : Sig Try.prog 95 [.e (.a (.v (.int .u64 ((s : Nat) : Int))))] [] (.e (.a (.q 0))) [(0,PL EP.int (lstTo s 4))] := by
  refine Sig.intro Try.func95 rfl 0 [(0,.e (.a (.v (.int .u64 ((s : Nat) : Int)))))] rfl w95 rfl rfl fun I w => ?_
  refine WP.seq (WP.region ?_)
  refine WPl.v rfl (o_assign rfl) ?_
  refine WPl.nil (EX.then (WP.seq (WP.region ?_)))
  refine WPl.v rfl (o_assign rfl) ?_
  refine WPl.imp (Imp.namo EP.int 0 1 3 rfl rfl) ?_
  refine WPl.imp (Imp.swF 3 0 rfl (lx rfl)) ?_
  refine WPl.nil (EX.then (WP.seq (WP.seq (WP.region ?_))))
  refine WPl.v rfl (o_move rfl) ?_
  refine WPl.nil (EX.then (WP.block ?_))
  refine WP.loop (Gh := Nat) (fun i => ⟨1,[(0,.e (.a (.v (.int .u64 ((s : Nat) : Int))))),(2,.e (.a (.v (.slice none 0 0)))),(3,.e (.a (.q 0))),(5,.i ((i : Int)))],[],[(0,.own 3 EP.int.size (lstTo s i).length (RP EP.int (lstTo s i)))],[],[]⟩) (fun i => i ≤ 4) (fun i => 4 - i) (0) id ?_ (LeR.of ⟨rfl,rfl,rfl,rfl,trivial⟩ trivial ⟨(congrArg (fun z => some (Ent.own 3 EP.int.size (List.length z) (RP EP.int z))) (show ([]) = ((fun i => lstTo s i) 0) from rfl)),trivial⟩ rfl rfl rfl rfl rfl) ?_
  · first | trivial | omega | (constructor <;> omega) | simp
  intro i hφ
  have hi : i ≤ 4 := hφ
  refine WP.seq (WP.region ?_)
  refine WPl.v rfl (o_lss rfl rfl) ?_
  refine WPl.nil (EX.then (WP.seq ?_))
  refine WP.cond rfl (fun hc1 => ?_) (fun hc1 => ?_)
  · try simp only [cnd] at hc1
    refine WP.skip (EX.then (WP.seq (WP.block (WP.seq (WP.region ?_)))))
    refine WPl.v rfl (o_move rfl) ?_
    refine WPl.v rfl (o_assign rfl) ?_
    refine WPl.nil (EX.then (WP.seq (WP.region ?_)))
    refine WPl.v rfl (o_move rfl) ?_
    refine WPl.v rfl (o_move rfl) ?_
    refine WPl.v rfl (o_ush rfl rfl (by first | omega | (simp; omega)) (by simp)) ?_
    refine WPl.v rfl (o_ua rfl rfl (by simp)) ?_
    refine WPl.v rfl (o_ueq rfl rfl) ?_
    refine WPl.nil (EX.then ?_)
    refine WP.cond rfl (fun hc2 => ?_) (fun hc2 => ?_)
    · try simp only [cnd] at hc2
      refine WP.region ?_
      refine WPl.v rfl (o_move rfl) ?_
      refine WPl.v rfl (o_move rfl) ?_
      refine WPl.l 1 2 rfl rfl rfl (o_bsl (E := EP.int) (l := [(i : Int)]) R24 rfl rfl (.cons (rfl) rfl (eok_int) (.nil)) rfl rfl) ?_
      refine WPl.u1 (k := 2) (m := 3) rfl rfl rfl (o_appo R24 EP.int_one rfl rfl rfl rfl (by have := lstTo_len s i; first | omega | (simp; omega)) (by have := lstTo_len s i; first | omega | (simp; omega))) ?_
      refine WPl.v rfl (o_assign rfl) ?_
      refine WPl.nil (EX.blk (EX.then (WP.region ?_)))
      refine WPl.v rfl (o_add rfl rfl (by first | omega | (simp; omega)) (by first | omega | (simp; omega))) ?_
      refine WPl.v rfl (o_move rfl) ?_
      refine WPl.nil ?_
      refine EX.again (i + 1) (ren [(0,2)]) (by first | omega | (constructor <;> omega)) (by omega) (LeR.of ⟨rfl,rfl,rfl,rfl,trivial⟩ trivial ⟨(congrArg (fun z => some (Ent.own 3 EP.int.size (List.length z) (RP EP.int z))) (show ((lstTo s i) ++ [(i : Int)]) = ((fun i => lstTo s i) (i + 1)) from by dsimp only; rw [lstTo,if_pos hc2])),trivial⟩ rfl rfl rfl rfl rfl)
    · try simp only [cnd] at hc2
      refine WP.skip (EX.blk (EX.then (WP.region ?_)))
      refine WPl.v rfl (o_add rfl rfl (by first | omega | (simp; omega)) (by first | omega | (simp; omega))) ?_
      refine WPl.v rfl (o_move rfl) ?_
      refine WPl.nil ?_
      refine EX.again (i + 1) id (by first | omega | (constructor <;> omega)) (by omega) (LeR.of ⟨rfl,rfl,rfl,rfl,trivial⟩ trivial ⟨(congrArg (fun z => some (Ent.own 3 EP.int.size (List.length z) (RP EP.int z))) (show (lstTo s i) = ((fun i => lstTo s i) (i + 1)) from by dsimp only; rw [lstTo,if_neg hc2])),trivial⟩ rfl rfl rfl rfl rfl)
  · try simp only [cnd] at hc1
    refine WP.exit (EX.exit_then (EX.exit_then (EX.exit_blk (EX.then (WP.seq (WP.region ?_))))))
    refine WPl.v rfl (o_move rfl) ?_
    refine WPl.v rfl (o_assign rfl) ?_
    refine WPl.nil (EX.then (WP.ret ?_))
    refine EX.imp (Imp.frz (E := EP.int) (l := lstTo s i) 0 rfl rfl) ?_
    have he : i = 4 := by omega
    subst he
    exact EX.fin (ren [(0,0)]) (.inl rfl) rfl (.tmp rfl .nil) rfl (by simp [SV.res,El.res,At.res,keys]) ⟨(lx rfl),trivial⟩ (by simp) (by simp)
end Go.Flong
namespace Go.Flong
open Go Go.Eng Go.Proofs
theorem S125 : TyS Try.prog 125 := ⟨Try.isAgg125,Try.sizeOf125⟩
theorem e86 : Enters' Try.prog 86 := Try.call86
theorem e85 : Enters' Try.prog 85 := Try.call85
theorem Z27 : Zero Try.prog 27 [.v (.slice none 0 0)] := .mk Try.zeroValue27 rfl rfl
theorem Z3 : Zero Try.prog 3 [ai (0)] := .mk Try.zeroValue3 rfl rfl
theorem e84 : Enters' Try.prog 84 := Try.call84
theorem w84 {n1 l : Nat} {I0 : IH} {F0 : Nat → Prop} {B0 U : Nat} {Y : Nat → YI n1} {K : YI n1} {h : Hall} {stop : Int} {k m : Nat} : ∀ x ∈ ([.i ((m : Int)),.e (.a (.q 0)),.e (.a (.q 1)),.e (.a (.q 2)),.e (.a (.q 3)),.e (.a (.q 4)),.e (.a (.q 5))] : List SV),x.res (keys (α := Pred) [(0,PP (EP.box (Pred.is (rowsV B0 h.machs.length))) ()),(1,PP (EP.box (Pred.is (yv l))) ()),(2,PP EHo (h)),(3,PP (EP.box (PlanP (Try.prog) (n1 := n1) I0 F0 B0 U Y K h stop k)) ()),(4,PP EP.int (stop)),(5,Pred.is (.pointer (some ⟨U,0,none⟩)))]) := by simp [SV.res,El.res,At.res,keys]
set_option maxHeartbeats 4000000 in
theorem c84 (n1 l : Nat) (I0 : IH) (F0 : Nat → Prop) (B0 U : Nat) (Y : Nat → YI n1) (K : YI n1) (h : Hall) (stop : Int) (k m a : Nat) (p : Plan) (u : Nat) (hround : Rounds Try.prog l n1 I0 F0 Y K (planItems h stop)) (hF0b : ∀ c,F0 c → c < n1) (hh : HouC h) (hst : -1 ≤ stop ∧ stop ≤ 100) (hk : okP h.machs.length h.buns.length stop (k + 1) (plansV h stop) (m,a,p,u)) : SigG Try.prog 84 [.i ((m : Int)),.e (.a (.q 0)),.e (.a (.q 1)),.e (.a (.q 2)),.e (.a (.q 3)),.e (.a (.q 4)),.e (.a (.q 5))] [(0,PP (EP.box (Pred.is (rowsV B0 h.machs.length))) ()),(1,PP (EP.box (Pred.is (yv l))) ()),(2,PP EHo (h)),(3,PP (EP.box (PlanP (Try.prog) (n1 := n1) I0 F0 B0 U Y K h stop k)) ()),(4,PP EP.int (stop)),(5,Pred.is (.pointer (some ⟨U,0,none⟩)))] I0 F0 (plY B0 24 3 U 3 h.machs.length (Y (a)) p ((u : Nat) : Int)) (plY B0 24 3 U 3 h.machs.length (Y (a + (plansF h.machs.length h.buns.length stop (k + 1) m p).length)) p ((u : Nat) : Int)) (plY B0 24 3 U 3 h.machs.length K p ((u : Nat) : Int)) := by
  have hm1 : m ≤ h.machs.length := hk.m1
  have hpI : PlanI h.machs.length h.buns.length p := hk.p1
  have hka : AtP (plansV h stop) a (plansF h.machs.length h.buns.length stop (k + 1) m p) := hk.at'
  have hku : MaskIs u p.flatten := hk.u1
  have hpn : h.machs.length = p.length := hpI.len.symm
  have hb5 := hh.b
  have hm3 := hh.m
  refine SigG.introF Try.func84 rfl 7 6 [(0,.i ((m : Int))),(1,.e (.a (.q 0))),(2,.e (.a (.q 1))),(3,.e (.a (.q 2))),(4,.e (.a (.q 3))),(5,.e (.a (.q 4))),(6,.e (.a (.q 5)))] rfl w84 rfl rfl rfl fun I w F hI0 hn1 hF hE0 => ?_
  have hE : ∀ c,F c → F c := fun _ h => h
  have hF00 : ∀ c,F0 c → F c := hF
  refine WP.seq (WP.region ?_)
  refine WPl.v rfl (o_assign rfl) ?_
  refine WPl.nil (EX.then (WP.seq (WP.seq (WP.region ?_))))
  refine WPl.v rfl (o_move rfl) ?_
  refine WPl.v rfl (o_ldqis S27 rfl (lx rfl)) ?_
  refine WPl.v rfl (o_lenr L27 rfl) ?_
  refine WPl.v rfl (o_eql rfl rfl) ?_
  refine WPl.nil (EX.then ?_)
  refine WP.cond rfl (fun hc1 => ?_) (fun hc1 => ?_)
  · try simp only [cnd] at hc1
    refine WP.seq ?_
    refine WP.openY (ky := 6) (m := 9) (x := plX B0 24 3 h.machs.length p) (y := fun _ => usedXP U 3 ((u : Nat) : Int)) (hx := fun _ => ⟨rowsXP.fine,usedXP.fine⟩) 7 8 rfl rfl rfl rfl fun F1 rv1 hA1 hB1 _ _ => ?_
    have hEo : ∀ c,F c → F1 c ∨ n1 ≤ c := fun c hc => hB1 c (hE c hc)
    have hF : ∀ c,F0 c → F1 c := fun c hc => (hB1 c (hF c hc)).resolve_right (by have := hF0b c hc; omega)
    refine WP.imp (Imp.nam 9 10 (rowsV B0 h.machs.length) (R := Pred.is (rowsV B0 h.machs.length)) (fun _ => rfl) rfl rfl) ?_
    refine WP.draw2 (nf := 16) 7 [⟨[16,17,18,19,20,21],[10,11,12,13,14,15],[],[],[]⟩,⟨[15,17,18,19,20,21],[10,11,12,13,14,15],[],[],[]⟩,⟨[15,16,18,19,20],[13,14,15],[10,11,12],[10,11,12],[]⟩,⟨[15,16,17,19],[10,11,12],[13,14,15],[13,14,15],[]⟩,⟨[15,16,17,18],[10,11,12,13,14,15],[],[],[]⟩,⟨[15,16,17],[10,11,12],[],[],[3,4]⟩,⟨[15,16],[],[],[],[2,3,4,5]⟩,⟨[],[],[],[],[0,1,2,3,4,5,6]⟩,⟨[],[],[],[],[0,1,2,3,4,5,6,7]⟩] #[true,true,true,true,true,true,true,false,false] (by kernel_rfl) (by kernel_rfl) ⟨by kernel_rfl,by kernel_rfl⟩ ?_
    refine DRQ.v rfl rfl rfl (o_ldqis S125 rfl (lx rfl)) ?_
    refine DRQ.v rfl rfl rfl (o_ldqis S27 rfl (lx rfl)) ?_
    refine DRQ.cs rfl rfl rfl rfl (o_ldqm (cs0 := [.q 10,.q 11,.q 12,ai (h.change)]) (X' := [(10,PL ETm (h.machs)),(11,PL EBd (h.buns)),(12,PL EP.int (h.trains))]) 10 G26 rfl (lx rfl) rfl rfl rfl) ?_
    refine DRQ.cs rfl rfl rfl rfl (o_ldqm (cs0 := [.q 13,.q 14,.q 15,ai (h.change)]) (X' := [(13,PL ETm (h.machs)),(14,PL EBd (h.buns)),(15,PL EP.int (h.trains))]) 13 G26 rfl (lx rfl) rfl rfl rfl) ?_
    refine DRQ.v rfl rfl rfl (o_ldqis S27 rfl (lx rfl)) ?_
    refine DRQ.cs rfl rfl rfl rfl (o_sigbc 16 (ren [(0,13),(1,14),(2,15),(3,9)]) (Sig.free (c86 h p hh hpI.plB)) e86 rfl rfl ⟨.inl rfl,.inr ⟨_,_,rfl,fun _ => rfl,(lx rfl)⟩,trivial⟩ w86 ⟨.x (lx rfl),.x (lx rfl),.x (lx rfl),.mem (kp := 7) (lx rfl) rfl (rows_pl hpn),trivial⟩ r86) ?_
    refine DRQ.cs rfl rfl rfl rfl (o_sig 16 (ren [(0,10),(1,11),(2,12)]) (c85 h (outTo h p p.length) hh (outTo_len _ _ _)) e85 rfl rfl rfl w85 ⟨(lx rfl),(lx rfl),(lx rfl),trivial⟩ r85) ?_
    refine DRQ.nil' (EX.rest ?_)
    refine AnyS.step 7 [] (by kernel_rfl) (StepsS.one ?_)
    refine StepS.yield (Y' := Y (a + 1)) (K' := K) 6 rfl rfl rfl rfl rfl rfl rfl (yieldG (ky := 6) (J := [0]) (it := ⟨[.e (.a (.q 0)),.e (.g [ai (nth (rdyL h p) 0),ai (nth (rdyL h p) 1),ai (nth (rdyL h p) 2),ai (nth (rdyL h p) 3)])],[],[(0,PL (EP.sl EP.int) (p))]⟩) (ren [(0,9)]) (hround (a) _ (planItems_at (AtP.leaf (by rw [show m = h.machs.length by omega] at hka; exact hka)))) hI0 hn1 rfl (hF) ⟨.inr ⟨_,_,rfl,fun _ => rfl,(lx rfl)⟩,.inl rfl,trivial⟩ (by simp [SV.res,El.res,At.res,keys]) trivial ((fun _ => rowsE rv1.1)) ⟨rfl,rfl,rfl⟩ ⟨.mem (kp := 7) (lx rfl) rfl (by decide) (rows_lend hpn trivial),trivial⟩) fun by22 F2 hF2 => ?_
    have hF : ∀ c,F0 c → F2 c := fun c hc => hF2 c (hF c hc)
    have hEo : ∀ c,F c → F2 c ∨ n1 ≤ c := fun c hc => (hEo c hc).imp (hF2 c) id
    cases by22
    · skip
      refine AnyS.closeY (Y := K) (x := plX B0 24 3 h.machs.length p) (y := fun _ => usedXP U 3 ((u : Nat) : Int)) (hx := fun _ => ⟨rowsXP.fine,usedXP.fine⟩) 6 7 8 ⟨rv1.1,rv1.2⟩ rfl rfl rfl rfl hEo hE0 fun F3 hE => ?_
      have hE : ∀ c,F c → F3 c := hE
      have hF : ∀ c,F0 c → F3 c := fun c hc => hE c (hF00 c hc)
      refine AnyS.step 8 [] (by kernel_rfl) (StepsS.one ?_)
      refine StepS.v rfl rfl (o_assign rfl) ?_
      refine AnyS.done (by kernel_rfl) ?_
      refine EX.then (WP.ret (EX.ret_then ?_))
      exact EX.finG (Y := plY B0 24 3 U 3 h.machs.length (Y (a + (plansF h.machs.length h.buns.length stop (k + 1) m p).length)) p ((u : Nat) : Int)) (K := plY B0 24 3 U 3 h.machs.length K p ((u : Nat) : Int)) false 6 (.inl rfl) rfl (.tmp rfl .nil) rfl hE rfl (by simp) (by simp)
    · skip
      refine AnyS.closeY (Y := Y (a + 1)) (x := plX B0 24 3 h.machs.length p) (y := fun _ => usedXP U 3 ((u : Nat) : Int)) (hx := fun _ => ⟨rowsXP.fine,usedXP.fine⟩) 6 7 8 ⟨rv1.1,rv1.2⟩ rfl rfl rfl rfl hEo hE0 fun F4 hE => ?_
      have hE : ∀ c,F c → F4 c := hE
      have hF : ∀ c,F0 c → F4 c := fun c hc => hE c (hF00 c hc)
      refine AnyS.step 8 [] (by kernel_rfl) (StepsS.one ?_)
      refine StepS.v rfl rfl (o_assign rfl) ?_
      refine AnyS.done (by kernel_rfl) ?_
      refine EX.then (WP.ret (EX.ret_then ?_))
      have hend : (plansF h.machs.length h.buns.length stop (k + 1) m p).length = 1 := by rw [show m = h.machs.length by omega]; exact plansF_leaf
      exact EX.finG (Y := plY B0 24 3 U 3 h.machs.length (Y (a + (plansF h.machs.length h.buns.length stop (k + 1) m p).length)) p ((u : Nat) : Int)) (K := plY B0 24 3 U 3 h.machs.length K p ((u : Nat) : Int)) true 6 (.inl rfl) rfl (.tmp rfl .nil) rfl hE (by rw [hend]; rfl) (by simp) (by simp)
  · try simp only [cnd] at hc1
    have hmn : m ≠ h.machs.length := by omega
    have hmp : m < p.length := by omega
    refine WP.skip (EX.then (WP.seq (WP.seq (WP.region ?_))))
    refine WPl.x 7 8 rfl rfl rfl (o_ldqx S97 rfl (lx rfl) boxx) ?_
    refine WPl.v rfl (o_move rfl) ?_
    refine WPl.v rfl (o_add rfl rfl (by first | omega | (simp; omega)) (by first | omega | (simp; omega))) ?_
    refine WPl.callG (Y' := plY B0 24 3 U 3 h.machs.length (Y (a + (plansF h.machs.length h.buns.length stop k (m + 1) p).length)) p ((u : Nat) : Int)) (K' := plY B0 24 3 U 3 h.machs.length K p ((u : Nat) : Int)) 6 rfl rfl rfl rfl rfl (by refine goH (I0 := I0) (F0 := F0) (Yi := fun i : Nat × Nat × Plan × Nat => plY B0 24 3 U 3 h.machs.length (Y i.2.1) i.2.2.1 (i.2.2.2 : Int)) (Yo := fun i : Nat × Nat × Plan × Nat => plY B0 24 3 U 3 h.machs.length (Y (i.2.1 + (plansF h.machs.length h.buns.length stop k i.1 i.2.2.1).length)) i.2.2.1 (i.2.2.2 : Int)) (Ko := fun i : Nat × Nat × Plan × Nat => plY B0 24 3 U 3 h.machs.length K i.2.2.1 (i.2.2.2 : Int)) (ky := 6) (svs := (fun i => [.i ((i.1 : Nat) : Int)])) (X0 := fun _ => []) id ((m + 1,a,p,u)) ?_ (hk.next hmn) ?_ ?_ ?_ ?_ ?_ ?_ ?_; (exact (lx rfl)); (exact hI0); (exact hn1); (exact rfl); (exact hF); (exact SvsOK.rf); (simp [SV.res,El.res,At.res,keys]); (exact trivial)) fun b26 F5 hF5 => ?_
    have hF : ∀ c,F0 c → F5 c := fun c hc => hF5 c (hF c hc)
    have hE : ∀ c,F c → F5 c := fun c hc => hF5 c (hE c hc)
    cases b26
    · skip
      refine WPl.v rfl (o_not rfl) ?_
      refine WPl.nil (EX.then ?_)
      refine WP.cond rfl (fun _ => ?_) (fun h => by cases h)
      refine WP.seq (WP.region ?_)
      refine WPl.v rfl (o_assign rfl) ?_
      refine WPl.nil (EX.then (WP.ret (EX.ret_then ?_)))
      exact EX.finG (Y := plY B0 24 3 U 3 h.machs.length (Y (a + (plansF h.machs.length h.buns.length stop (k + 1) m p).length)) p ((u : Nat) : Int)) (K := plY B0 24 3 U 3 h.machs.length K p ((u : Nat) : Int)) false 6 (.inl rfl) rfl (.tmp rfl .nil) rfl hE rfl (by simp) (by simp)
    · skip
      refine WPl.v rfl (o_not rfl) ?_
      refine WPl.nil (EX.then ?_)
      refine WP.cond rfl (fun h => by cases h) (fun _ => ?_)
      refine WP.skip (EX.then (WP.seq (WP.seq (WP.region ?_))))
      refine WPl.v rfl (o_move rfl) ?_
      refine WPl.v rfl (o_ldq S3 rfl (lx rfl) intc) ?_
      refine WPl.v rfl (o_eql rfl rfl) ?_
      refine WPl.nil (EX.then ?_)
      refine WP.cond rfl (fun hc3 => ?_) (fun hc3 => ?_)
      · try simp only [cnd] at hc3
        refine WP.seq (WP.region ?_)
        refine WPl.v rfl (o_assign rfl) ?_
        refine WPl.nil (EX.then (WP.ret (EX.ret_then ?_)))
        have hend := plansF_stop (n := h.machs.length) (B := h.buns.length) (k := k) (p := p) hmn hc3
        exact EX.finG (Y := plY B0 24 3 U 3 h.machs.length (Y (a + (plansF h.machs.length h.buns.length stop (k + 1) m p).length)) p ((u : Nat) : Int)) (K := plY B0 24 3 U 3 h.machs.length K p ((u : Nat) : Int)) true 6 (.inl rfl) rfl (.tmp rfl .nil) rfl hE (by rw [hend]; rfl) (by simp) (by simp)
      · try simp only [cnd] at hc3
        have hms : (m : Int) ≠ stop := hc3
        refine WP.skip (EX.then (WP.seq (WP.seq (WP.region ?_))))
        refine WPl.v rfl (o_fldq F26_1 rfl (lx rfl)) ?_
        refine WPl.x 8 9 rfl rfl rfl (o_ldex S23 rfl (lx rfl) (strS rfl)) ?_
        refine WPl.v rfl (o_lenq L23 rfl (lx rfl)) ?_
        refine WPl.v rfl (o_move rfl) ?_
        refine WPl.nil (EX.then (WP.block ?_))
        refine WP.loop (Gh := Nat × (Nat → Prop)) (fun (⟨j,Fj⟩ : Nat × (Nat → Prop)) => ⟨9,[(0,.i ((m : Int))),(1,.e (.a (.q 0))),(4,.e (.a (.q 3))),(6,.e (.a (.q 5))),(8,.b (false)),(33,.i ((h.buns.length : Int))),(34,.i ((j : Int)))],[(0,PP (EP.box (Pred.is (rowsV B0 h.machs.length))) ()),(3,PP (EP.box (PlanP (Try.prog) (n1 := n1) I0 F0 B0 U Y K h stop k)) ()),(5,Pred.is (.pointer (some ⟨U,0,none⟩)))],[(6,.ext ((plY B0 24 3 U 3 h.machs.length (Y (a + posP h.machs.length h.buns.length stop k m p j)) p ((u : Nat) : Int)).xp Fj))],[],[]⟩) (fun (⟨j,Fj⟩ : Nat × (Nat → Prop)) => j ≤ h.buns.length ∧ (∀ c,F0 c → Fj c) ∧ ∀ c,F c → Fj c) (fun (⟨j,Fj⟩ : Nat × (Nat → Prop)) => h.buns.length - j) ((0,F5)) id ?_ (LeR.of ⟨rfl,rfl,rfl,rfl,rfl,rfl,rfl,trivial⟩ ⟨(lx rfl),(lx rfl),(lx rfl),trivial⟩ ⟨rfl,trivial⟩ rfl rfl rfl rfl rfl) ?_
        · exact ⟨by omega,hF,hE⟩
        rintro ⟨j,Fj⟩ hφ
        obtain ⟨hj,hF,hE⟩ : j ≤ h.buns.length ∧ (∀ c,F0 c → Fj c) ∧ ∀ c,F c → Fj c := hφ
        refine WP.seq (WP.region ?_)
        refine WPl.v rfl (o_lss rfl rfl) ?_
        refine WPl.nil (EX.then (WP.seq ?_))
        refine WP.cond rfl (fun hc4 => ?_) (fun hc4 => ?_)
        · try simp only [cnd] at hc4
          have hj5 : j < 5 := by omega
          have hmk := msk_ok hku.1 hj5
          refine WP.skip (EX.then (WP.seq (WP.block (WP.seq (WP.region ?_)))))
          refine WPl.openY (ky := 6) (m := 11) (x := plX B0 24 3 h.machs.length p) (y := fun _ => usedXP U 3 ((u : Nat) : Int)) (hx := fun _ => ⟨rowsXP.fine,usedXP.fine⟩) 9 10 rfl rfl rfl rfl fun F6 rv6 hA6 hB6 _ _ => ?_
          have hEo : ∀ c,F c → F6 c ∨ n1 ≤ c := fun c hc => hB6 c (hE c hc)
          have hF : ∀ c,F0 c → F6 c := fun c hc => (hB6 c (hF c hc)).resolve_right (by have := hF0b c hc; omega)
          refine WPl.v rfl (o_move rfl) ?_
          refine WPl.v rfl (o_assign rfl) ?_
          refine WPl.nil (EX.then (WP.seq (WP.seq (WP.region ?_))))
          refine WPl.v rfl (o_ldu (kx := 10) S3 rfl (lx rfl) rfl) ?_
          refine WPl.v rfl (o_move rfl) ?_
          refine WPl.v rfl (o_ishr rfl rfl (by omega) hmk.r) ?_
          refine WPl.v rfl (o_iand rfl rfl hmk.a) ?_
          refine WPl.v rfl (o_eql rfl rfl) ?_
          refine WPl.nil (EX.then ?_)
          refine WP.cond rfl (fun hc5 => ?_) (fun hc5 => ?_)
          · try simp only [cnd] at hc5
            have hin : (j : Int) ∈ p.flatten := (mask_in hku hj5).1 hc5
            refine WP.closeY (Y := Y (a + posP h.machs.length h.buns.length stop k m p j)) (x := plX B0 24 3 h.machs.length p) (y := fun _ => usedXP U 3 ((u : Nat) : Int)) (hx := fun _ => ⟨rowsXP.fine,usedXP.fine⟩) 6 9 10 ⟨rv6.1,rv6.2⟩ rfl rfl rfl rfl hEo hE0 fun F7 hE => ?_
            have hE : ∀ c,F c → F7 c := hE
            have hF : ∀ c,F0 c → F7 c := fun c hc => hE c (hF00 c hc)
            refine WP.exit (EX.exit_then (EX.exit_blk (EX.then (WP.region ?_))))
            refine WPl.v rfl (o_add rfl rfl (by first | omega | (simp; omega)) (by first | omega | (simp; omega))) ?_
            refine WPl.v rfl (o_move rfl) ?_
            refine WPl.nil ?_
            refine EX.again ((j + 1,F7)) id (by exact ⟨by omega,hF,hE⟩) (by first | omega | (dsimp only; omega) | (simp only []; omega)) (LeR.of ⟨rfl,rfl,rfl,rfl,rfl,rfl,rfl,trivial⟩ ⟨(lx rfl),(lx rfl),(lx rfl),trivial⟩ ⟨(congrArg (fun z => some (Ent.ext ((plY B0 24 3 U 3 h.machs.length (Y z) p (u : Int)).xp F7))) (show a + posP h.machs.length h.buns.length stop k m p j = a + posP h.machs.length h.buns.length stop k m p (j + 1) from by rw [posP_in hin])),trivial⟩ rfl rfl rfl rfl rfl)
          · try simp only [cnd] at hc5
            have hin : (j : Int) ∉ p.flatten := fun h => hc5 ((mask_in hku hj5).2 h)
            have hro := hpI.row (show m < h.machs.length by omega)
            have hrl : (p.getD m [] ++ [(j : Int)]).length = (p.getD m []).length + 1 := by rw [List.length_append,List.length_singleton]
            refine WP.skip (EX.then (WP.seq ?_))
            refine WP.draw (nf := 11) [⟨[43,44],[],[],[],[]⟩,⟨[42],[],[],[],[]⟩,⟨[42],[],[],[],[1]⟩,⟨[],[],[],[],[0,1,2]⟩,⟨[],[],[],[10],[0,1,2,3]⟩] (by kernel_rfl) (by kernel_rfl) ?_
            refine DRQ.v rfl rfl rfl (o_ldu (kx := 10) S3 rfl (lx rfl) rfl) ?_
            refine DRQ.v rfl rfl rfl (o_move rfl) ?_
            refine DRQ.v rfl rfl rfl (o_ishl rfl rfl (by omega) hmk.l) ?_
            refine DRQ.v rfl rfl rfl (o_ior rfl rfl hmk.o) ?_
            refine DRQ.s 10 rfl rfl rfl (o_stu (kx := 10) S3 rfl (lx rfl) rfl rfl) ?_
            refine DRQ.nil' ?_
            refine EX.then (WP.seq ?_)
            obtain ⟨u8,hu8⟩ : ∃ u,rv6.1[m]? = some u := ⟨_,List.getElem?_eq_getElem (by rw [rv6.2]; omega)⟩
            refine WP.imp (Imp.nam 11 12 u8 (R := Pred.is u8) (fun _ => rfl) rfl rfl) ?_
            refine WP.imp (Imp.openRow (u := u8) (l := p.getD m []) 9 11 rfl (lx rfl) rfl hu8 rfl) ?_
            refine WP.draw2 (nf := 14) 10 [⟨[47,48,49,50,51,52,53,54],[11,12,13],[],[],[]⟩,⟨[46,48,49,50,51,52,53,54],[11,12,13],[],[],[]⟩,⟨[46,47,49,52,53],[12],[],[],[]⟩,⟨[46,47,48,52,53],[12],[],[],[]⟩,⟨[46,47,52,53],[12],[],[],[2,3]⟩,⟨[46,47,52,53],[12],[],[],[2,3,4]⟩,⟨[46,47,48,49,50,51],[],[],[],[]⟩,⟨[46,47,48,49,50,51],[],[12],[12],[6]⟩,⟨[46,47],[],[13],[13,11],[2,3,4,5,6,7]⟩,⟨[],[],[],[],[0,1,2,3,4,5,6,7,8]⟩,⟨[],[],[],[],[0,1,2,3,4,5,6,7,8,9]⟩] #[true,true,true,true,true,true,true,true,true,true,false] (by kernel_rfl) (by kernel_rfl) ⟨by kernel_rfl,by kernel_rfl⟩ ?_
            refine DRQ.v rfl rfl rfl (o_ldqis S27 rfl (lx rfl)) ?_
            refine DRQ.v rfl rfl rfl (o_move rfl) ?_
            refine DRQ.v rfl rfl rfl (o_ldqis S27 rfl (lx rfl)) ?_
            refine DRQ.v rfl rfl rfl (o_move rfl) ?_
            refine DRQ.v rfl rfl rfl (o_idxC L27 rfl rfl (by first | omega | (simp; omega)) (by first | omega | (simp; omega))) ?_
            refine DRQ.v rfl rfl rfl (o_ldrow (kx := 9) (kr := 11) S24 rfl rfl hu8 (lx rfl)) ?_
            refine DRQ.v rfl rfl rfl (o_move rfl) ?_
            refine DRQ.l 12 rfl rfl rfl rfl (o_bsl (E := EP.int) (l := [(j : Int)]) R24 rfl rfl (.cons (rfl) rfl (eok_int) (.nil)) rfl rfl) ?_
            refine DRQ.l2 13 11 rfl rfl rfl rfl (o_appo R24 EP.int_one rfl rfl rfl rfl (by first | omega | (simp; omega) | (simp at *; omega)) (by first | omega | (simp; omega) | (simp at *; omega))) ?_
            refine DRQ.v rfl rfl rfl (o_idxC L27 rfl rfl (by first | omega | (simp; omega)) (by first | omega | (simp; omega))) ?_
            refine DRQ.nil' (EX.rest ?_)
            refine AnyS.pino 13 rfl fun u9 h1u9 => ?_
            refine AnyS.step 10 [] (by kernel_rfl) (StepsS.one ?_)
            refine StepS.s rfl (o_strow (kx := 9) S24 rfl rfl rfl (lx rfl) h1u9 (by rw [rv6.2]; omega)) ?_
            refine AnyS.done (by kernel_rfl) ?_
            refine EX.then (WP.seq (WP.region ?_))
            refine WPl.imp (Imp.closeRow (u := u9) (l := (p.getD m []) ++ [(j : Int)]) (pl' := (addB p m j)) 9 13 rfl (lx rfl) rfl rfl (by rw [List.getElem?_set_self (by rw [rv6.2]; omega)]) rfl) ?_
            refine WPl.closeY (Y := Y (a + posP h.machs.length h.buns.length stop k m p j)) (x := plX B0 24 3 h.machs.length (addB p m j)) (y := fun _ => usedXP U 3 ((u ||| 2 ^ j : Nat) : Int)) (hx := fun _ => ⟨rowsXP.fine,usedXP.fine⟩) 6 9 10 ⟨rv6.1.set m u9,(by rw [List.length_set]; exact rv6.2)⟩ rfl rfl rfl rfl hEo hE0 fun F10 hE => ?_
            have hE : ∀ c,F c → F10 c := hE
            have hF : ∀ c,F0 c → F10 c := fun c hc => hE c (hF00 c hc)
            refine WPl.x 14 15 rfl rfl rfl (o_ldqx S97 rfl (lx rfl) boxx) ?_
            refine WPl.v rfl (o_move rfl) ?_
            refine WPl.callG (Y' := plY B0 24 3 U 3 h.machs.length (Y (a + posP h.machs.length h.buns.length stop k m p j + (plansF h.machs.length h.buns.length stop k m (addB p m j)).length)) (addB p m j) ((u ||| 2 ^ j : Nat) : Int)) (K' := plY B0 24 3 U 3 h.machs.length K (addB p m j) ((u ||| 2 ^ j : Nat) : Int)) 6 rfl rfl rfl rfl rfl (by refine goH (I0 := I0) (F0 := F0) (Yi := fun i : Nat × Nat × Plan × Nat => plY B0 24 3 U 3 h.machs.length (Y i.2.1) i.2.2.1 (i.2.2.2 : Int)) (Yo := fun i : Nat × Nat × Plan × Nat => plY B0 24 3 U 3 h.machs.length (Y (i.2.1 + (plansF h.machs.length h.buns.length stop k i.1 i.2.2.1).length)) i.2.2.1 (i.2.2.2 : Int)) (Ko := fun i : Nat × Nat × Plan × Nat => plY B0 24 3 U 3 h.machs.length K i.2.2.1 (i.2.2.2 : Int)) (ky := 6) (svs := (fun i => [.i ((i.1 : Nat) : Int)])) (X0 := fun _ => []) id ((m,a + posP h.machs.length h.buns.length stop k m p j,addB p m j,u ||| 2 ^ j)) ?_ (hk.sub hmn hms (by omega) hin) ?_ ?_ ?_ ?_ ?_ ?_ ?_; (exact (lx rfl)); (exact hI0); (exact hn1); (exact rfl); (exact hF); (exact SvsOK.rf); (simp [SV.res,El.res,At.res,keys]); (exact trivial)) fun b58 F11 hF11 => ?_
            have hF : ∀ c,F0 c → F11 c := fun c hc => hF11 c (hF c hc)
            have hE : ∀ c,F c → F11 c := fun c hc => hF11 c (hE c hc)
            cases b58
            · skip
              refine WPl.v rfl (o_assign rfl) ?_
              refine WPl.nil (EX.then (WP.seq ?_))
              refine WP.openY (ky := 6) (m := 17) (x := plX B0 24 3 h.machs.length (addB p m j)) (y := fun _ => usedXP U 3 ((u ||| 2 ^ j : Nat) : Int)) (hx := fun _ => ⟨rowsXP.fine,usedXP.fine⟩) 15 16 rfl rfl rfl rfl fun F12 rv12 hA12 hB12 _ _ => ?_
              have hEo : ∀ c,F c → F12 c ∨ n1 ≤ c := fun c hc => hB12 c (hE c hc)
              have hF : ∀ c,F0 c → F12 c := fun c hc => (hB12 c (hF c hc)).resolve_right (by have := hF0b c hc; omega)
              obtain ⟨u13,hu13⟩ : ∃ u,rv12.1[m]? = some u := ⟨_,List.getElem?_eq_getElem (by rw [rv12.2]; omega)⟩
              refine WP.imp (Imp.nam 17 18 u13 (R := Pred.is u13) (fun _ => rfl) rfl rfl) ?_
              refine WP.imp (Imp.openRow (u := u13) (l := p.getD m [] ++ [(j : Int)]) 15 17 rfl (lx rfl) rfl hu13 (by rw [addB_getD hmp,if_pos rfl])) ?_
              refine WP.draw2 (nf := 19) 14 [⟨[60,61,62,63,64,65,66,67,68,69,70,71],[17,18],[],[],[]⟩,⟨[59,61,62,63,64,65,66,67,68,69,70,71],[17,18],[],[],[]⟩,⟨[59,60,62,65,66,67,68,69,70],[],[],[],[]⟩,⟨[59,60,61,65,66,67,68,69,70],[],[],[],[]⟩,⟨[59,60,65,66,67,68,69,70],[],[],[],[2,3]⟩,⟨[59,60,65,66,67,68,69,70],[],[],[],[2,3,4]⟩,⟨[59,60,61,62,63,64,66],[],[],[],[]⟩,⟨[59,60,61,62,63,64,65],[],[],[],[]⟩,⟨[59,60,61,62,63,64],[],[],[],[6,7]⟩,⟨[59,60,61,62,63,64],[],[],[],[6,7,8]⟩,⟨[59,60,61,62,63,64],[],[],[],[6,7,8,9]⟩,⟨[59,60,61,62,63,64],[],[],[],[6,7,8,9,10]⟩,⟨[59,60],[],[18],[18,17],[2,3,4,5,6,7,8,9,10,11]⟩,⟨[],[],[],[],[0,1,2,3,4,5,6,7,8,9,10,11,12]⟩,⟨[],[],[],[],[0,1,2,3,4,5,6,7,8,9,10,11,12,13]⟩] #[true,true,true,true,true,true,true,true,true,true,true,true,true,true,false] (by kernel_rfl) (by kernel_rfl) ⟨by kernel_rfl,by kernel_rfl⟩ ?_
              refine DRQ.v rfl rfl rfl (o_ldqis S27 rfl (lx rfl)) ?_
              refine DRQ.v rfl rfl rfl (o_move rfl) ?_
              refine DRQ.v rfl rfl rfl (o_ldqis S27 rfl (lx rfl)) ?_
              refine DRQ.v rfl rfl rfl (o_move rfl) ?_
              refine DRQ.v rfl rfl rfl (o_idxC L27 rfl rfl (by first | omega | (simp; omega)) (by first | omega | (simp; omega))) ?_
              refine DRQ.v rfl rfl rfl (o_ldrow (kx := 15) (kr := 17) S24 rfl rfl hu13 (lx rfl)) ?_
              refine DRQ.v rfl rfl rfl (o_ldqis S27 rfl (lx rfl)) ?_
              refine DRQ.v rfl rfl rfl (o_move rfl) ?_
              refine DRQ.v rfl rfl rfl (o_idxC L27 rfl rfl (by first | omega | (simp; omega)) (by first | omega | (simp; omega))) ?_
              refine DRQ.v rfl rfl rfl (o_ldrow (kx := 15) (kr := 17) S24 rfl rfl hu13 (lx rfl)) ?_
              refine DRQ.v rfl rfl rfl (o_leno L24 rfl rfl) ?_
              refine DRQ.v rfl rfl rfl (o_sub rfl rfl (by first | omega | (simp; omega)) (by first | omega | (simp; omega))) ?_
              refine DRQ.l2 18 17 rfl rfl rfl rfl (o_shrink (k0 := 17) (l := p.getD m [] ++ [(j : Int)]) L24 rfl rfl rfl (by simp)) ?_
              refine DRQ.v rfl rfl rfl (o_idxC L27 rfl rfl (by first | omega | (simp; omega)) (by first | omega | (simp; omega))) ?_
              refine DRQ.nil' (EX.rest ?_)
              refine AnyS.pino 18 rfl fun u14 h1u14 => ?_
              refine AnyS.step 14 [] (by kernel_rfl) (StepsS.one ?_)
              refine StepS.s rfl (o_strow (kx := 15) S24 rfl rfl rfl (lx rfl) h1u14 (by rw [rv12.2]; omega)) ?_
              refine AnyS.done (by kernel_rfl) ?_
              refine EX.then (WP.seq ?_)
              refine WP.draw (nf := 19) [⟨[74,75],[],[],[],[]⟩,⟨[73],[],[],[],[]⟩,⟨[73],[],[],[],[1]⟩,⟨[],[],[],[],[0,1,2]⟩,⟨[],[],[],[16],[0,1,2,3]⟩] (by kernel_rfl) (by kernel_rfl) ?_
              refine DRQ.v rfl rfl rfl (o_ldu (kx := 16) S3 rfl (lx rfl) rfl) ?_
              refine DRQ.v rfl rfl rfl (o_move rfl) ?_
              refine DRQ.v rfl rfl rfl (o_ishl rfl rfl (by omega) hmk.l) ?_
              refine DRQ.v rfl rfl rfl (o_iandn rfl rfl (mask_off hku.1 hj5 (fun h => hin ((hku.2 j hj5).1 h)))) ?_
              refine DRQ.s 16 rfl rfl rfl (o_stu (kx := 16) S3 rfl (lx rfl) rfl rfl) ?_
              refine DRQ.nil' ?_
              refine EX.then (WP.seq (WP.region ?_))
              refine WPl.imp (Imp.closeRow (u := u14) (l := (p.getD m [] ++ [(j : Int)]).dropLast) (pl' := p) 15 18 rfl (lx rfl) rfl rfl (by rw [List.getElem?_set_self (by rw [rv12.2]; omega)]) (by have := addB_undo (b := j) hmp; rw [addB_getD hmp,if_pos rfl] at this; exact this)) ?_
              refine WPl.closeY (Y := K) (x := plX B0 24 3 h.machs.length p) (y := fun _ => usedXP U 3 ((u : Nat) : Int)) (hx := fun _ => ⟨rowsXP.fine,usedXP.fine⟩) 6 15 16 ⟨rv12.1.set m u14,(by rw [List.length_set]; exact rv12.2)⟩ rfl rfl rfl rfl hEo hE0 fun F15 hE => ?_
              have hE : ∀ c,F c → F15 c := hE
              have hF : ∀ c,F0 c → F15 c := fun c hc => hE c (hF00 c hc)
              refine WPl.v rfl (o_move rfl) ?_
              refine WPl.v rfl (o_not rfl) ?_
              refine WPl.nil (EX.then ?_)
              refine WP.cond rfl (fun _ => ?_) (fun h => by cases h)
              refine WP.seq (WP.region ?_)
              refine WPl.v rfl (o_assign rfl) ?_
              refine WPl.nil (EX.then (WP.ret (EX.ret_blk (EX.ret_then (EX.ret_then (EX.ret_blk (EX.ret_then ?_)))))))
              exact EX.finG (Y := plY B0 24 3 U 3 h.machs.length (Y (a + (plansF h.machs.length h.buns.length stop (k + 1) m p).length)) p ((u : Nat) : Int)) (K := plY B0 24 3 U 3 h.machs.length K p ((u : Nat) : Int)) false 6 (.inl rfl) rfl (.tmp rfl .nil) rfl hE rfl (by simp) (by simp)
            · skip
              refine WPl.v rfl (o_assign rfl) ?_
              refine WPl.nil (EX.then (WP.seq ?_))
              refine WP.openY (ky := 6) (m := 17) (x := plX B0 24 3 h.machs.length (addB p m j)) (y := fun _ => usedXP U 3 ((u ||| 2 ^ j : Nat) : Int)) (hx := fun _ => ⟨rowsXP.fine,usedXP.fine⟩) 15 16 rfl rfl rfl rfl fun F16 rv16 hA16 hB16 _ _ => ?_
              have hEo : ∀ c,F c → F16 c ∨ n1 ≤ c := fun c hc => hB16 c (hE c hc)
              have hF : ∀ c,F0 c → F16 c := fun c hc => (hB16 c (hF c hc)).resolve_right (by have := hF0b c hc; omega)
              obtain ⟨u17,hu17⟩ : ∃ u,rv16.1[m]? = some u := ⟨_,List.getElem?_eq_getElem (by rw [rv16.2]; omega)⟩
              refine WP.imp (Imp.nam 17 18 u17 (R := Pred.is u17) (fun _ => rfl) rfl rfl) ?_
              refine WP.imp (Imp.openRow (u := u17) (l := p.getD m [] ++ [(j : Int)]) 15 17 rfl (lx rfl) rfl hu17 (by rw [addB_getD hmp,if_pos rfl])) ?_
              refine WP.draw2 (nf := 19) 14 [⟨[60,61,62,63,64,65,66,67,68,69,70,71],[17,18],[],[],[]⟩,⟨[59,61,62,63,64,65,66,67,68,69,70,71],[17,18],[],[],[]⟩,⟨[59,60,62,65,66,67,68,69,70],[],[],[],[]⟩,⟨[59,60,61,65,66,67,68,69,70],[],[],[],[]⟩,⟨[59,60,65,66,67,68,69,70],[],[],[],[2,3]⟩,⟨[59,60,65,66,67,68,69,70],[],[],[],[2,3,4]⟩,⟨[59,60,61,62,63,64,66],[],[],[],[]⟩,⟨[59,60,61,62,63,64,65],[],[],[],[]⟩,⟨[59,60,61,62,63,64],[],[],[],[6,7]⟩,⟨[59,60,61,62,63,64],[],[],[],[6,7,8]⟩,⟨[59,60,61,62,63,64],[],[],[],[6,7,8,9]⟩,⟨[59,60,61,62,63,64],[],[],[],[6,7,8,9,10]⟩,⟨[59,60],[],[18],[18,17],[2,3,4,5,6,7,8,9,10,11]⟩,⟨[],[],[],[],[0,1,2,3,4,5,6,7,8,9,10,11,12]⟩,⟨[],[],[],[],[0,1,2,3,4,5,6,7,8,9,10,11,12,13]⟩] #[true,true,true,true,true,true,true,true,true,true,true,true,true,true,false] (by kernel_rfl) (by kernel_rfl) ⟨by kernel_rfl,by kernel_rfl⟩ ?_
              refine DRQ.v rfl rfl rfl (o_ldqis S27 rfl (lx rfl)) ?_
              refine DRQ.v rfl rfl rfl (o_move rfl) ?_
              refine DRQ.v rfl rfl rfl (o_ldqis S27 rfl (lx rfl)) ?_
              refine DRQ.v rfl rfl rfl (o_move rfl) ?_
              refine DRQ.v rfl rfl rfl (o_idxC L27 rfl rfl (by first | omega | (simp; omega)) (by first | omega | (simp; omega))) ?_
              refine DRQ.v rfl rfl rfl (o_ldrow (kx := 15) (kr := 17) S24 rfl rfl hu17 (lx rfl)) ?_
              refine DRQ.v rfl rfl rfl (o_ldqis S27 rfl (lx rfl)) ?_
              refine DRQ.v rfl rfl rfl (o_move rfl) ?_
              refine DRQ.v rfl rfl rfl (o_idxC L27 rfl rfl (by first | omega | (simp; omega)) (by first | omega | (simp; omega))) ?_
              refine DRQ.v rfl rfl rfl (o_ldrow (kx := 15) (kr := 17) S24 rfl rfl hu17 (lx rfl)) ?_
              refine DRQ.v rfl rfl rfl (o_leno L24 rfl rfl) ?_
              refine DRQ.v rfl rfl rfl (o_sub rfl rfl (by first | omega | (simp; omega)) (by first | omega | (simp; omega))) ?_
              refine DRQ.l2 18 17 rfl rfl rfl rfl (o_shrink (k0 := 17) (l := p.getD m [] ++ [(j : Int)]) L24 rfl rfl rfl (by simp)) ?_
              refine DRQ.v rfl rfl rfl (o_idxC L27 rfl rfl (by first | omega | (simp; omega)) (by first | omega | (simp; omega))) ?_
              refine DRQ.nil' (EX.rest ?_)
              refine AnyS.pino 18 rfl fun u18 h1u18 => ?_
              refine AnyS.step 14 [] (by kernel_rfl) (StepsS.one ?_)
              refine StepS.s rfl (o_strow (kx := 15) S24 rfl rfl rfl (lx rfl) h1u18 (by rw [rv16.2]; omega)) ?_
              refine AnyS.done (by kernel_rfl) ?_
              refine EX.then (WP.seq ?_)
              refine WP.draw (nf := 19) [⟨[74,75],[],[],[],[]⟩,⟨[73],[],[],[],[]⟩,⟨[73],[],[],[],[1]⟩,⟨[],[],[],[],[0,1,2]⟩,⟨[],[],[],[16],[0,1,2,3]⟩] (by kernel_rfl) (by kernel_rfl) ?_
              refine DRQ.v rfl rfl rfl (o_ldu (kx := 16) S3 rfl (lx rfl) rfl) ?_
              refine DRQ.v rfl rfl rfl (o_move rfl) ?_
              refine DRQ.v rfl rfl rfl (o_ishl rfl rfl (by omega) hmk.l) ?_
              refine DRQ.v rfl rfl rfl (o_iandn rfl rfl (mask_off hku.1 hj5 (fun h => hin ((hku.2 j hj5).1 h)))) ?_
              refine DRQ.s 16 rfl rfl rfl (o_stu (kx := 16) S3 rfl (lx rfl) rfl rfl) ?_
              refine DRQ.nil' ?_
              refine EX.then (WP.seq (WP.region ?_))
              refine WPl.imp (Imp.closeRow (u := u18) (l := (p.getD m [] ++ [(j : Int)]).dropLast) (pl' := p) 15 18 rfl (lx rfl) rfl rfl (by rw [List.getElem?_set_self (by rw [rv16.2]; omega)]) (by have := addB_undo (b := j) hmp; rw [addB_getD hmp,if_pos rfl] at this; exact this)) ?_
              refine WPl.closeY (Y := Y (a + posP h.machs.length h.buns.length stop k m p j + (plansF h.machs.length h.buns.length stop k m (addB p m j)).length)) (x := plX B0 24 3 h.machs.length p) (y := fun _ => usedXP U 3 ((u : Nat) : Int)) (hx := fun _ => ⟨rowsXP.fine,usedXP.fine⟩) 6 15 16 ⟨rv16.1.set m u18,(by rw [List.length_set]; exact rv16.2)⟩ rfl rfl rfl rfl hEo hE0 fun F19 hE => ?_
              have hE : ∀ c,F c → F19 c := hE
              have hF : ∀ c,F0 c → F19 c := fun c hc => hE c (hF00 c hc)
              refine WPl.v rfl (o_move rfl) ?_
              refine WPl.v rfl (o_not rfl) ?_
              refine WPl.nil (EX.then ?_)
              refine WP.cond rfl (fun h => by cases h) (fun _ => ?_)
              refine WP.skip (EX.blk (EX.then (WP.region ?_)))
              refine WPl.v rfl (o_add rfl rfl (by first | omega | (simp; omega)) (by first | omega | (simp; omega))) ?_
              refine WPl.v rfl (o_move rfl) ?_
              refine WPl.nil ?_
              refine EX.again ((j + 1,F19)) id (by exact ⟨by omega,hF,hE⟩) (by first | omega | (dsimp only; omega) | (simp only []; omega)) (LeR.of ⟨rfl,rfl,rfl,rfl,rfl,rfl,rfl,trivial⟩ ⟨(lx rfl),(lx rfl),(lx rfl),trivial⟩ ⟨(congrArg (fun z => some (Ent.ext ((plY B0 24 3 U 3 h.machs.length (Y z) p (u : Int)).xp F19))) (show a + posP h.machs.length h.buns.length stop k m p j + (plansF h.machs.length h.buns.length stop k m (addB p m j)).length = a + posP h.machs.length h.buns.length stop k m p (j + 1) from by rw [posP_out hin,Nat.add_assoc])),trivial⟩ rfl rfl rfl rfl rfl)
        · try simp only [cnd] at hc4
          refine WP.exit (EX.exit_then (EX.exit_then (EX.exit_blk (EX.then (WP.seq (WP.region ?_))))))
          refine WPl.v rfl (o_assign rfl) ?_
          refine WPl.nil (EX.then (WP.ret ?_))
          have hend : (plansF h.machs.length h.buns.length stop (k + 1) m p).length = posP h.machs.length h.buns.length stop k m p j := by rw [plansF_len hmn hms,show j = h.buns.length by omega]
          exact EX.finG (Y := plY B0 24 3 U 3 h.machs.length (Y (a + (plansF h.machs.length h.buns.length stop (k + 1) m p).length)) p ((u : Nat) : Int)) (K := plY B0 24 3 U 3 h.machs.length K p ((u : Nat) : Int)) true 6 (.inl rfl) rfl (.tmp rfl .nil) rfl hE (by rw [hend]; rfl) (by simp) (by simp)
theorem w83 {h : Hall} {stop : Int} : ∀ x ∈ ([.e (.a (.q 0)),.e (.a (.q 1))] : List SV),x.res (keys (α := Pred) [(0,PP EHo (h)),(1,PP EP.int (stop))]) := by simp [SV.res,El.res,At.res,keys]
set_option maxHeartbeats 4000000 in
theorem c83 (h : Hall) (stop : Int) (hh : HouC h) (hst : -1 ≤ stop ∧ stop ≤ 100) : SigI Try.prog 83 [.e (.a (.q 0)),.e (.a (.q 1))] [(0,PP EHo (h)),(1,PP EP.int (stop))] (planItems h stop) := by
  have hb5 := hh.b
  have hm3 := hh.m
  refine SigI.introF Try.func83 rfl 3 2 w83 rfl rfl rfl fun I w l Y K F0 hE0 hround => ?_
  have hF : ∀ c,F0 c → F0 c := fun _ h => h
  have hI0 : IH.le I I := IH.le.rfl'
  have hn1 : w.heap.size ≤ w.heap.size := Nat.le_refl _
  refine WP.seq (WP.region ?_)
  refine WPl.x 3 4 rfl rfl rfl (o_boxq (cs := [.v (yv l)]) (E := EP.box (Pred.is (yv l))) (y := ()) rfl (fun _ _ _ _ _ _ => rfl) (bok_con)) ?_
  refine WPl.nil (EX.then (WP.seq (WP.region ?_)))
  refine WPl.v rfl (o_fldq F26_0 rfl (lx rfl)) ?_
  refine WPl.x 4 5 rfl rfl rfl (o_ldex S22 rfl (lx rfl) (strS rfl)) ?_
  refine WPl.v rfl (o_lenq L22 rfl (lx rfl)) ?_
  refine WPl.mkrows (T1 := 3) h.machs.length 5 6 rfl rfl rfl R27 rfl rfl (by omega) (by omega) fun B0 hB0 => ?_
  refine WPl.allocq (u := rowsV B0 h.machs.length) Z27 trivial S27 rfl rfl rfl ?_
  refine WPl.nil (EX.then (WP.seq (WP.region ?_)))
  refine WPl.l 7 8 rfl rfl rfl (o_alloc Z3) ?_
  refine WPl.s1 (o_sta S3 rfl rfl rfl rfl rfl) ?_
  refine WPl.nil (EX.then ?_)
  refine WP.boxU (s := 5) (k := 7) rfl rfl fun U => ?_
  refine WP.knot (R := PlanP (Try.prog) (n1 := w.heap.size) I F0 B0 U Y K h stop (h.machs.length + h.buns.length + 1)) Z97 S97 rfl rfl rfl rfl (fun ε I1 a1 w1 hs1 I2 hle hcell => GoP.knot (ι := Nat × Nat × Plan × Nat) (I0 := I) (F0 := F0) (ok := fun k => okP h.machs.length h.buns.length stop k (plansV h stop)) (cs := [.e (.a (.q 0)),.e (.a (.q 1)),.e (.a (.q 2)),.e (.a (.q 3)),.e (.a (.q 4)),.e (.a (.q 5))]) (Yi := fun i => plY B0 24 3 U 3 h.machs.length (Y i.2.1) i.2.2.1 (i.2.2.2 : Int)) (Yo := fun k i => plY B0 24 3 U 3 h.machs.length (Y (i.2.1 + (plansF h.machs.length h.buns.length stop k i.1 i.2.2.1).length)) i.2.2.1 (i.2.2.2 : Int)) (Ko := fun i => plY B0 24 3 U 3 h.machs.length K i.2.2.1 (i.2.2.2 : Int)) (svs := fun i => [.i ((i.1 : Nat) : Int)]) (X0 := fun _ => []) (Xc := fun k => [(0,PP (EP.box (Pred.is (rowsV B0 h.machs.length))) ()),(1,PP (EP.box (Pred.is (yv l))) ()),(2,PP EHo h),(3,PP (EP.box (PlanP Try.prog I F0 B0 U Y K h stop k)) ()),(4,PP EP.int stop),(5,Pred.is (.pointer (some ⟨U,0,none⟩)))]) e84 (fun i h => Nat.not_lt_zero _ h.k1) (fun k i hi => c84 _ l I F0 B0 U Y K h stop k i.1 i.2.1 i.2.2.1 i.2.2.2 hround (fun c hc => (hE0 c hc).1) hh hst hi) (fun _ _ => rfl) (fun _ => by simp [SV.res,El.res,At.res,keys]) (fun _ => by simp [SV.res,El.res,At.res,keys]) (ν := fun j => match j with | 0 => ε.ν 6 | 1 => ε.ν 3 | 2 => ε.ν 0 | 3 => .pointer (some ⟨ε.β 9,0,none⟩) | 4 => ε.ν 1 | 5 => ε.ν 8 | _ => undef) rfl (fun k hG => ⟨(PP (EP.box (Pred.is (rowsV B0 h.machs.length))) ()).mono hle (hs1.has (lx rfl)),(PP (EP.box (Pred.is (yv l))) ()).mono hle (hs1.has (lx rfl)),(PP EHo h).mono hle (hs1.has (lx rfl)),pp_cell hcell hG,(PP EP.int stop).mono hle (hs1.has (lx rfl)),(Pred.is (.pointer (some ⟨U,0,none⟩))).mono hle (hs1.has (lx rfl)),trivial⟩) (h.machs.length + h.buns.length + 1)) ?_
  refine WPl.nil (EX.then (WP.region ?_))
  have hEo : ∀ c,F0 c → F0 c ∨ w.heap.size ≤ c := fun c hc => .inl hc
  have hF00 : ∀ c,F0 c → F0 c := fun c hc => hc
  refine WPl.closeY (Y := Y 0) (x := plX B0 24 3 h.machs.length (List.replicate h.machs.length [])) (y := fun _ => usedXP U 3 0) (hx := fun _ => ⟨rowsXP.fine,usedXP.fine⟩) 2 5 7 ⟨List.replicate h.machs.length (.slice none 0 0),(by rw [List.length_replicate])⟩ rfl rfl rfl rfl hEo hE0 fun F1 hF => ?_
  have hF : ∀ c,F0 c → F1 c := hF
  refine WPl.x 11 12 rfl rfl rfl (o_ldqx S97 rfl (lx rfl) boxx) ?_
  refine WPl.callG (Y' := plY B0 24 3 U 3 h.machs.length (Y (0 + (plansF h.machs.length h.buns.length stop (h.machs.length + h.buns.length + 1) 0 (List.replicate h.machs.length [])).length)) (List.replicate h.machs.length []) ((0 : Nat) : Int)) (K' := plY B0 24 3 U 3 h.machs.length K (List.replicate h.machs.length []) ((0 : Nat) : Int)) 2 rfl rfl rfl rfl rfl (by refine goH (I0 := I) (F0 := F0) (Yi := fun i : Nat × Nat × Plan × Nat => plY B0 24 3 U 3 h.machs.length (Y i.2.1) i.2.2.1 (i.2.2.2 : Int)) (Yo := fun i : Nat × Nat × Plan × Nat => plY B0 24 3 U 3 h.machs.length (Y (i.2.1 + (plansF h.machs.length h.buns.length stop (h.machs.length + h.buns.length + 1) i.1 i.2.2.1).length)) i.2.2.1 (i.2.2.2 : Int)) (Ko := fun i : Nat × Nat × Plan × Nat => plY B0 24 3 U 3 h.machs.length K i.2.2.1 (i.2.2.2 : Int)) (ky := 2) (svs := (fun i => [.i ((i.1 : Nat) : Int)])) (X0 := fun _ => []) id ((0,0,List.replicate h.machs.length [],0)) ?_ (okP_root hb5 stop) ?_ ?_ ?_ ?_ ?_ ?_ ?_; (exact (lx rfl)); (exact hI0); (exact hn1); (exact rfl); (exact hF); (exact SvsOK.rf); (simp [SV.res,El.res,At.res,keys]); (exact trivial)) fun b13 F2 hF2 => ?_
  have hF : ∀ c,F0 c → F2 c := fun c hc => hF2 c (hF c hc)
  cases b13
  · skip
    refine WPl.nil ?_
    refine EX.openY (ky := 2) (m := 14) (x := plX B0 24 3 h.machs.length (List.replicate h.machs.length [])) (y := fun _ => usedXP U 3 ((0 : Nat) : Int)) (hx := fun _ => ⟨rowsXP.fine,usedXP.fine⟩) 12 13 rfl rfl rfl rfl fun F3 rv3 _ _ _ _ => ?_
    exact EX.finI (.inr rfl) rfl rfl (ky := 2) (Y := K) rfl (fun _ _ h => .inr h)
  · skip
    refine WPl.nil ?_
    have hend : 0 + (plansF h.machs.length h.buns.length stop (h.machs.length + h.buns.length + 1) 0 (List.replicate h.machs.length [])).length = (planItems h stop).length := by rw [Nat.zero_add,planItems,List.length_map]; rfl
    refine EX.openY (ky := 2) (m := 14) (x := plX B0 24 3 h.machs.length (List.replicate h.machs.length [])) (y := fun _ => usedXP U 3 ((0 : Nat) : Int)) (hx := fun _ => ⟨rowsXP.fine,usedXP.fine⟩) 12 13 rfl rfl rfl rfl fun F4 rv4 _ _ _ _ => ?_
    exact EX.finI (.inr rfl) rfl rfl (ky := 2) (Y := Y (0 + (plansF h.machs.length h.buns.length stop (h.machs.length + h.buns.length + 1) 0 (List.replicate h.machs.length [])).length)) rfl (fun _ _ h => .inl (by rw [hend] at h; exact h))
end Go.Flong
namespace Go.Flong
open Go Go.Eng Go.Proofs
theorem e83 : Enters' Try.prog 83 := Try.call83
theorem e82 : Enters' Try.prog 82 := Try.call82
theorem w61 {h : Hall} {stop : Int} : ∀ x ∈ ([.e (.g [.q 0,.q 1,.q 2,ai (h.change)]),.i (stop)] : List SV),x.res (keys (α := Pred) [(0,PL ETm (h.machs)),(1,PL EBd (h.buns)),(2,PL EP.int (h.trains))]) := by simp [SV.res,El.res,At.res,keys]
theorem r61 {h : Hall} {stop : Int} : SV.res (keys (α := Pred) [(0,ItP Try.prog (planItems h stop))]) (.e (.a (.q 0))) := by simp [SV.res,El.res,At.res,keys]
set_option maxHeartbeats 4000000 in
theorem c61 (h : Hall) (stop : Int) (hh : HouC h) (hst : -1 ≤ stop ∧ stop ≤ 100) : Sig Try.prog 61 [.e (.g [.q 0,.q 1,.q 2,ai (h.change)]),.i (stop)] [(0,PL ETm (h.machs)),(1,PL EBd (h.buns)),(2,PL EP.int (h.trains))] (.e (.a (.q 0))) [(0,ItP Try.prog (planItems h stop))] := by
  refine Sig.intro Try.func61 rfl 3 [(0,.e (.g [.q 0,.q 1,.q 2,ai (h.change)])),(1,.i (stop))] rfl w61 rfl rfl fun I w => ?_
  refine WP.seq (WP.region ?_)
  refine WPl.l 3 4 rfl rfl rfl (o_boxg rfl) ?_
  refine WPl.l 4 5 rfl rfl rfl (o_boxa rfl rfl) ?_
  refine WPl.v rfl (o_assign rfl) ?_
  refine WPl.nil (EX.then (WP.seq (WP.region ?_)))
  refine WPl.imp (Imp.frzb (E := EHo) (y := h) 3 5 6 rfl rfl (bok_str ⟨⟨_,rfl,(lx rfl)⟩,⟨_,rfl,(lx rfl)⟩,⟨_,rfl,(lx rfl)⟩,rfl,trivial⟩) rfl rfl rfl) ?_
  refine WPl.imp (Imp.frzb (E := EP.int) (y := stop) 4 6 7 rfl rfl (bok_int) rfl rfl rfl) ?_
  refine WPl.x 7 8 rfl rfl rfl (o_mkit 7 (ren [(0,5),(1,6)]) (c83 h stop hh hst) e83 rfl SvsOK.rf w83 ⟨(lx rfl),(lx rfl),trivial⟩) ?_
  refine WPl.v rfl (o_assign rfl) ?_
  refine WPl.nil (EX.then (WP.ret ?_))
  exact EX.fin (ren [(0,7)]) (.inl rfl) rfl (.tmp rfl .nil) rfl r61 ⟨(lx rfl),trivial⟩ (by simp) (by simp)
theorem w82 {h : Hall} : ∀ x ∈ ([.e (.a (.q 0))] : List SV),x.res (keys (α := Pred) [(0,PP EHo (h))]) := by simp [SV.res,El.res,At.res,keys]
set_option maxHeartbeats 4000000 in
theorem c82 (h : Hall) (hh : HouC h) : SigI Try.prog 82 [.e (.a (.q 0))] [(0,PP EHo (h))] (caseItems h) := by
  have hm3 := hh.m
  refine SigI.intro Try.func82 rfl 2 1 w82 rfl rfl rfl fun I w l Y K F0 hround => ?_
  have hF : ∀ c,F0 c → F0 c := fun _ h => h
  refine WP.seq (WP.seq (WP.region ?_))
  refine WPl.v rfl (o_move rfl) ?_
  refine WPl.yield (Y' := Y (1)) (K' := K) 1 rfl rfl rfl rfl rfl rfl (yieldH (ky := 1) (J := []) (it := ⟨[.i (-1)],[],[]⟩) id (hround (0) _ (caseItems_at (cases_first h))) rfl (hF) SvsOK.rf (by simp [SV.res,El.res,At.res,keys]) trivial (fun _ => undef) ⟨rfl,rfl,rfl⟩ trivial) fun by6 F1 hF1 => ?_
  have hF : ∀ c,F0 c → F1 c := fun c hc => hF1 c (hF c hc)
  cases by6
  · skip
    refine WPl.v rfl (o_not rfl) ?_
    refine WPl.nil (EX.then ?_)
    refine WP.cond rfl (fun _ => ?_) (fun h => by cases h)
    refine WP.ret (EX.ret_then ?_)
    exact EX.finI (.inl rfl) rfl rfl (ky := 1) (Y := K) rfl (fun _ _ h => .inr h)
  · skip
    refine WPl.v rfl (o_not rfl) ?_
    refine WPl.nil (EX.then ?_)
    refine WP.cond rfl (fun h => by cases h) (fun _ => ?_)
    refine WP.skip (EX.then (WP.seq (WP.region ?_)))
    refine WPl.v rfl (o_fldq F26_0 rfl (lx rfl)) ?_
    refine WPl.x 2 3 rfl rfl rfl (o_ldex S22 rfl (lx rfl) (strS rfl)) ?_
    refine WPl.v rfl (o_lenq L22 rfl (lx rfl)) ?_
    refine WPl.v rfl (o_move rfl) ?_
    refine WPl.nil (EX.then (WP.block ?_))
    refine WP.loop (Gh := Nat × (Nat → Prop)) (fun (⟨i,F⟩ : Nat × (Nat → Prop)) => ⟨3,[(0,.e (.a (.v (yv l)))),(9,.e (.a (.q 2))),(10,.i ((h.machs.length : Int))),(11,.i ((i : Int)))],[(2,PL ETm (h.machs))],[(1,.ext ((Y ((cTo h i).length)).xp F))],[],[]⟩) (fun (⟨i,F⟩ : Nat × (Nat → Prop)) => i ≤ h.machs.length ∧ ∀ c,F0 c → F c) (fun (⟨i,F⟩ : Nat × (Nat → Prop)) => h.machs.length - i) ((0,F1)) id ?_ (LeR.of ⟨rfl,rfl,rfl,rfl,trivial⟩ ⟨(lx rfl),trivial⟩ ⟨rfl,trivial⟩ rfl rfl rfl rfl rfl) ?_
    · exact ⟨by omega,hF⟩
    rintro ⟨i,F⟩ hφ
    obtain ⟨hi,hF⟩ : i ≤ h.machs.length ∧ ∀ c,F0 c → F c := hφ
    refine WP.seq (WP.region ?_)
    refine WPl.v rfl (o_lss rfl rfl) ?_
    refine WPl.nil (EX.then (WP.seq ?_))
    refine WP.cond rfl (fun hc2 => ?_) (fun hc2 => ?_)
    · try simp only [cnd] at hc2
      refine WP.skip (EX.then (WP.seq (WP.block (WP.seq (WP.region ?_)))))
      refine WPl.v rfl (o_move rfl) ?_
      refine WPl.x 3 4 rfl rfl rfl (o_idx L22 rfl (lx rfl) rfl (by first | omega | (simp; omega)) (by first | omega | (simp; omega))) ?_
      refine WPl.v rfl (o_ldqg G68 rfl (lx rfl) (strG rfl) rfl rfl) ?_
      refine WPl.l 4 5 rfl rfl rfl (o_alloc Z68) ?_
      refine WPl.v rfl (o_assign rfl) ?_
      refine WPl.s1 (o_stag G68 rfl rfl rfl ⟨rfl,rfl,rfl,trivial⟩ rfl rfl) ?_
      refine WPl.nil (EX.then (WP.seq (WP.region ?_)))
      refine WPl.v rfl (o_fldp F68_2 rfl) ?_
      refine WPl.v rfl (o_ldp S3 rfl rfl rfl) ?_
      refine WPl.v rfl (o_eql rfl rfl) ?_
      rcases Bool.eq_false_or_eq_true (decide (((nth h.machs (i : Int)).stops) = 1)) with hs18 | hs18
      · refine WPl.imp (Imp.bitF 18 (b' := true) rfl hs18) ?_
        refine WPl.v rfl (o_move rfl) ?_
        refine WPl.on rfl ⟨_,_,rfl,rfl,rfl⟩ (o_move rfl) ?_
        refine WPl.on rfl ⟨_,_,rfl,rfl,rfl⟩ (o_move rfl) ?_
        refine WPl.ung ⟨_,_,rfl,rfl,rfl⟩ ?_
        refine WPl.yield (Y' := Y ((cTo h i).length + 1)) (K' := K) 1 rfl rfl rfl rfl rfl rfl (yieldH (ky := 1) (J := []) (it := ⟨[.i ((i : Int))],[],[]⟩) id (hround ((cTo h i).length) _ (caseItems_at (cases_at (by omega) (of_decide_eq_true hs18)))) rfl (hF) SvsOK.rf (by simp [SV.res,El.res,At.res,keys]) trivial (fun _ => undef) ⟨rfl,rfl,rfl⟩ trivial) fun by22 F2 hF2 => ?_
        have hF : ∀ c,F0 c → F2 c := fun c hc => hF2 c (hF c hc)
        cases by22
        · skip
          refine WPl.on rfl ⟨_,_,rfl,rfl,rfl⟩ (o_not rfl) ?_
          refine WPl.v rfl (o_pickT rfl rfl) ?_
          refine WPl.nil (EX.then ?_)
          refine WP.cond rfl (fun _ => ?_) (fun h => by cases h)
          refine WP.ret (EX.ret_blk (EX.ret_then (EX.ret_then (EX.ret_blk ?_))))
          exact EX.finI (.inl rfl) rfl rfl (ky := 1) (Y := K) rfl (fun _ _ h => .inr h)
        · skip
          refine WPl.on rfl ⟨_,_,rfl,rfl,rfl⟩ (o_not rfl) ?_
          refine WPl.v rfl (o_pickT rfl rfl) ?_
          refine WPl.nil (EX.then ?_)
          refine WP.cond rfl (fun h => by cases h) (fun _ => ?_)
          refine WP.skip (EX.blk (EX.then (WP.region ?_)))
          refine WPl.v rfl (o_add rfl rfl (by first | omega | (simp; omega)) (by first | omega | (simp; omega))) ?_
          refine WPl.v rfl (o_move rfl) ?_
          refine WPl.nil ?_
          refine EX.again ((i + 1,F2)) id (by exact ⟨by omega,hF⟩) (by first | omega | (dsimp only; omega) | (simp only []; omega)) (LeR.of ⟨rfl,rfl,rfl,rfl,trivial⟩ ⟨(lx rfl),trivial⟩ ⟨(congrArg (fun z => some (Ent.ext ((Y z).xp F2))) (show (cTo h i).length + 1 = (cTo h (i + 1)).length from by rw [cTo,if_pos (of_decide_eq_true hs18),List.length_append]; rfl)),trivial⟩ rfl rfl rfl rfl rfl)
      · refine WPl.imp (Imp.bitF 18 (b' := false) rfl hs18) ?_
        refine WPl.v rfl (o_move rfl) ?_
        refine WPl.off rfl ⟨_,_,rfl,rfl,rfl⟩ ?_
        refine WPl.off rfl ⟨_,_,rfl,rfl,rfl⟩ ?_
        refine WPl.off rfl ⟨_,_,rfl,rfl,rfl⟩ ?_
        refine WPl.off rfl ⟨_,_,rfl,rfl,rfl⟩ ?_
        refine WPl.v rfl (o_pickF rfl rfl) ?_
        refine WPl.nil (EX.then ?_)
        refine WP.cond rfl (fun h => by cases h) (fun _ => ?_)
        refine WP.skip (EX.blk (EX.then (WP.region ?_)))
        refine WPl.v rfl (o_add rfl rfl (by first | omega | (simp; omega)) (by first | omega | (simp; omega))) ?_
        refine WPl.v rfl (o_move rfl) ?_
        refine WPl.nil ?_
        refine EX.again ((i + 1,F)) id (by exact ⟨by omega,hF⟩) (by first | omega | (dsimp only; omega) | (simp only []; omega)) (LeR.of ⟨rfl,rfl,rfl,rfl,trivial⟩ ⟨(lx rfl),trivial⟩ ⟨(congrArg (fun z => some (Ent.ext ((Y z).xp F))) (show (cTo h i).length = (cTo h (i + 1)).length from by rw [cTo,if_neg (of_decide_eq_false hs18)])),trivial⟩ rfl rfl rfl rfl rfl)
    · try simp only [cnd] at hc2
      refine WP.exit (EX.exit_then (EX.exit_then (EX.exit_blk ?_)))
      have hend : (cTo h i).length = (caseItems h).length := by rw [caseItems,List.length_map,casesL,show h.machs.length = i by omega]
      exact EX.finI (.inr rfl) rfl rfl (ky := 1) (Y := Y ((cTo h i).length)) rfl (fun _ _ h => .inl (by rw [hend] at h; exact h))
theorem w60 {h : Hall} : ∀ x ∈ ([.e (.g [.q 0,.q 1,.q 2,ai (h.change)])] : List SV),x.res (keys (α := Pred) [(0,PL ETm (h.machs)),(1,PL EBd (h.buns)),(2,PL EP.int (h.trains))]) := by simp [SV.res,El.res,At.res,keys]
theorem r60 {h : Hall} : SV.res (keys (α := Pred) [(0,ItP Try.prog (caseItems h))]) (.e (.a (.q 0))) := by simp [SV.res,El.res,At.res,keys]
set_option maxHeartbeats 4000000 in
theorem c60 (h : Hall) (hh : HouC h) : Sig Try.prog 60 [.e (.g [.q 0,.q 1,.q 2,ai (h.change)])] [(0,PL ETm (h.machs)),(1,PL EBd (h.buns)),(2,PL EP.int (h.trains))] (.e (.a (.q 0))) [(0,ItP Try.prog (caseItems h))] := by
  refine Sig.intro Try.func60 rfl 3 [(0,.e (.g [.q 0,.q 1,.q 2,ai (h.change)]))] rfl w60 rfl rfl fun I w => ?_
  refine WP.seq (WP.region ?_)
  refine WPl.l 3 4 rfl rfl rfl (o_boxg rfl) ?_
  refine WPl.v rfl (o_assign rfl) ?_
  refine WPl.nil (EX.then (WP.seq (WP.region ?_)))
  refine WPl.imp (Imp.frzb (E := EHo) (y := h) 3 4 5 rfl rfl (bok_str ⟨⟨_,rfl,(lx rfl)⟩,⟨_,rfl,(lx rfl)⟩,⟨_,rfl,(lx rfl)⟩,rfl,trivial⟩) rfl rfl rfl) ?_
  refine WPl.x 5 6 rfl rfl rfl (o_mkit 5 (ren [(0,4)]) (c82 h hh) e82 rfl SvsOK.rf w82 ⟨(lx rfl),trivial⟩) ?_
  refine WPl.v rfl (o_assign rfl) ?_
  refine WPl.nil (EX.then (WP.ret ?_))
  exact EX.fin (ren [(0,5)]) (.inl rfl) rfl (.tmp rfl .nil) rfl r60 ⟨(lx rfl),trivial⟩ (by simp) (by simp)
theorem w64 {l : List Int} : ∀ x ∈ ([.e (.a (.q 0))] : List SV),x.res (keys (α := Pred) [(0,PL EP.int (l))]) := by simp [SV.res,El.res,At.res,keys]
theorem r64 {l : List Int} : SV.res (keys (α := Pred) [(0,PL EP.int (l))]) (.e (.a (.q 0))) := by simp [SV.res,El.res,At.res,keys]
set_option maxHeartbeats 4000000 in
theorem c64 (l : List Int) (h : l.length ≤ 1000) : SigF Try.prog 64 [.e (.a (.q 0))] [(0,PL EP.int (l))] (.e (.a (.q 0))) [(0,PL EP.int (l))] := by
  refine SigF.intro Try.func64 rfl 1 [(0,.e (.a (.q 0)))] rfl w64 rfl rfl fun I w => ?_
  refine WP.seq (WP.region ?_)
  refine WPl.v rfl (o_assign rfl) ?_
  refine WPl.nil (EX.then (WP.seq (WP.seq (WP.region ?_))))
  refine WPl.v rfl (o_move rfl) ?_
  refine WPl.eqnil Try.underlying24 rfl rfl (lx rfl) fun bn4 hbn4 => ?_
  refine WPl.nil (EX.then ?_)
  refine WP.cond rfl (fun hc1 => ?_) (fun hc1 => ?_)
  · try simp only [cnd] at hc1
    obtain rfl : l = [] := hbn4 hc1
    refine WP.seq (WP.region ?_)
    refine WPl.v rfl (o_assign rfl) ?_
    refine WPl.nil (EX.then (WP.ret (EX.ret_then ?_)))
    refine EX.imp (Imp.nam 1 2 (.slice none 0 0) (R := (Pred.from w.heap.size (PL EP.int [])).and (Pred.is (.slice none 0 0))) (fun _ => ⟨pl_nil,rfl⟩) rfl rfl) ?_
    refine EX.imp (Imp.swF 2 1 rfl (lxr rfl)) ?_
    exact EX.fin (ren [(0,1)]) (.inl rfl) rfl (.tmp rfl .nil) rfl (by simp [SV.res,El.res,At.res,keys]) ⟨lxl rfl,trivial⟩ (by simp) (by simp)
  · try simp only [cnd] at hc1
    refine WP.skip (EX.then (WP.seq (WP.region ?_)))
    refine WPl.l 1 2 rfl rfl rfl (o_bsl (E := EP.int) (l := []) R24 rfl rfl (.nil) rfl rfl) ?_
    refine WPl.v rfl (o_move rfl) ?_
    refine WPl.u1 (k := 2) (m := 3) rfl rfl rfl (o_apps R24 EP.int_one rfl rfl rfl (lx rfl) (by first | omega | (simp; omega) | (simp at *; omega)) (by first | omega | (simp; omega) | (simp at *; omega))) ?_
    refine WPl.v rfl (o_assign rfl) ?_
    refine WPl.nil (EX.then (WP.ret ?_))
    refine EX.imp (Imp.frzf (E := EP.int) (l := [] ++ l) 2 EP.fix_free rfl rfl) ?_
    exact EX.fin (ren [(0,2)]) (.inl rfl) rfl (.tmp rfl .nil) rfl (by simp [SV.res,El.res,At.res,keys]) ⟨(lx rfl),trivial⟩ (by simp) (by simp)
end Go.Flong
namespace Go.Flong
open Go Go.Eng Go.Proofs
theorem e61 : Enters' Try.prog 61 := Try.call61
theorem e62 : Enters' Try.prog 62 := Try.call62
theorem e63 : Enters' Try.prog 63 := Try.call63
theorem e64 : Enters' Try.prog 64 := Try.call64
theorem Z4 : Zero Try.prog 4 [.v (.bool (false))] := .mk Try.zeroValue4 rfl rfl
theorem e60 : Enters' Try.prog 60 := Try.call60
theorem S63 : TyS Try.prog 63 := ⟨Try.isAgg63,Try.sizeOf63⟩
theorem S4 : TyS Try.prog 4 := ⟨Try.isAgg4,Try.sizeOf4⟩
theorem w29 {h : Hall} {stop : Int} : ∀ x ∈ ([.e (.g [.q 0,.q 1,.q 2,ai (h.change)]),.i (stop)] : List SV),x.res (keys (α := Pred) [(0,PL ETm (h.machs)),(1,PL EBd (h.buns)),(2,PL EP.int (h.trains))]) := by simp [SV.res,El.res,At.res,keys]
theorem r29 {h : Hall} {stop : Int} : SV.res (keys (α := Pred) [(0,PL (EP.sl EP.int) ((bpV h stop).1))]) (.t [.a (.q 0),.a (ai ((bpV h stop).2))]) := by simp [SV.res,El.res,At.res,keys]
set_option maxHeartbeats 4000000 in
theorem c29 (h : Hall) (stop : Int) (hh : HouC h) (hst : -1 ≤ stop ∧ stop ≤ 100) : Sig Try.prog 29 [.e (.g [.q 0,.q 1,.q 2,ai (h.change)]),.i (stop)] [(0,PL ETm (h.machs)),(1,PL EBd (h.buns)),(2,PL EP.int (h.trains))] (.t [.a (.q 0),.a (ai ((bpV h stop).2))]) [(0,PL (EP.sl EP.int) ((bpV h stop).1))] := by
  have hb5 := hh.b
  have ht4 := hh.t
  refine Sig.intro Try.func29 rfl 3 [(0,.e (.g [.q 0,.q 1,.q 2,ai (h.change)])),(1,.i (stop))] rfl w29 rfl rfl fun I w => ?_
  refine WP.seq (WP.region ?_)
  refine WPl.l 3 4 rfl rfl rfl (o_boxg rfl) ?_
  refine WPl.l 4 5 rfl rfl rfl (o_alloc Z27) ?_
  refine WPl.l 5 6 rfl rfl rfl (o_alloc Z3) ?_
  refine WPl.nil (EX.then (WP.seq (WP.region ?_)))
  refine WPl.v rfl (o_fldp F26_2 rfl) ?_
  refine WPl.v rfl (o_ldp S24 rfl rfl rfl) ?_
  refine WPl.v rfl (o_lenq L24 rfl (lx rfl)) ?_
  refine WPl.v rfl (o_add rfl rfl (by first | omega | (simp; omega)) (by first | omega | (simp; omega))) ?_
  refine WPl.s1 (o_sta S3 rfl rfl rfl rfl rfl) ?_
  refine WPl.nil (EX.then (WP.seq (WP.seq (WP.region ?_))))
  refine WPl.v rfl (o_ldpa G26 rfl rfl rfl) ?_
  refine WPl.v rfl (o_move rfl) ?_
  refine WPl.cs 7 rfl rfl rfl rfl (o_sig 6 (ren [(0,0),(1,1),(2,2)]) (c61 h stop hh hst) e61 rfl rfl rfl w61 ⟨(lx rfl),(lx rfl),(lx rfl),trivial⟩ r61) ?_
  refine WPl.nil (EX.then (WP.block ?_))
  refine WP.leR (S' := ⟨7,[(2,.e (.a (.p 3 (0)))),(4,.e (.a (.p 4 (0)))),(5,.e (.a (.p 5 (0)))),(17,.e (.a (.q 6)))],[(0,PL ETm (h.machs)),(1,PL EBd (h.buns)),(2,PL EP.int (h.trains)),(6,ItP Try.prog (planItems h stop))],[(3,.blk [.q 0,.q 1,.q 2,ai (h.change)] 26),(4,.blk [.v (.slice none 0 0)] 27),(5,.blk [ai ((h.trains.length : Int) + 1)] 3)],[],[]⟩) id (LeR.of ⟨rfl,rfl,rfl,rfl,trivial⟩ ⟨(lx rfl),(lx rfl),(lx rfl),(lx rfl),trivial⟩ ⟨rfl,rfl,rfl,trivial⟩ rfl rfl rfl rfl rfl) ?_
  refine WP.imp (Imp.namo (EP.sl EP.int) 7 8 24 rfl rfl) ?_
  refine WP.imp (Imp.swL 4 0 7 rfl rfl (lx rfl)) ?_
  refine WP.imp (Imp.nam 8 9 (.bool true) (R := Pred.pure ((bpTo h stop 0).2 ≠ 0)) (fun _ => (by show (h.trains.length : Int) + 1 ≠ 0; omega)) rfl rfl) ?_
  refine WP.rangeG 13 1 ((plansV h stop).length) (fun g => ⟨[.e (.a (.q 0)),.e (.g [ai (nth (rdyL h (nth (plansV h stop) (g : Int))) 0),ai (nth (rdyL h (nth (plansV h stop) (g : Int))) 1),ai (nth (rdyL h (nth (plansV h stop) (g : Int))) 2),ai (nth (rdyL h (nth (plansV h stop) (g : Int))) 3)])],[],[(0,PL (EP.sl EP.int) ((nth (plansV h stop) (g : Int))))]⟩) (fun g => ⟨13,[(2,.e (.a (.p 3 (0)))),(4,.e (.a (.p 4 (0)))),(5,.e (.a (.p 5 (0)))),(17,.e (.a (.q 6)))],[(0,PL ETm (h.machs)),(1,PL EBd (h.buns)),(2,PL EP.int (h.trains)),(6,ItP Try.prog (planItems h stop)),(12,Pred.pure ((bpTo h stop g).2 ≠ 0))],[(3,.blk [.q 0,.q 1,.q 2,ai (h.change)] 26),(4,.blk [.q 11] 27),(5,.blk [ai ((bpTo h stop g).2)] 3),(9,.ob (.deferred (some []))),(11,.own 24 (EP.sl EP.int).size ((bpTo h stop g).1).length (RP (EP.sl EP.int) ((bpTo h stop g).1)))],[9],[]⟩) (fun c T => (True ∧ c = .exit 0 ∧ T = ⟨13,[(2,.e (.a (.p 3 (0)))),(4,.e (.a (.p 4 (0)))),(5,.e (.a (.p 5 (0)))),(17,.e (.a (.q 6)))],[(0,PL ETm (h.machs)),(1,PL EBd (h.buns)),(2,PL EP.int (h.trains)),(6,ItP Try.prog (planItems h stop))],[(3,.blk [.q 0,.q 1,.q 2,ai (h.change)] 26),(4,.blk [.q 11] 27),(5,.blk [ai ((bpV h stop).2)] 3),(9,.ob (.deferred (some []))),(11,.own 24 (EP.sl EP.int).size ((bpV h stop).1).length (RP (EP.sl EP.int) ((bpV h stop).1)))],[9],[]⟩)) rfl rfl (lx rfl) (planItems_map h stop) (fun _ => RSt.of rfl rfl rfl rfl rfl rfl) ((by rintro c T (⟨_,rfl,rfl⟩) <;> exact RSt.of rfl rfl rfl rfl rfl rfl)) rfl rfl rfl (fun _ _ => ItemOK.of rfl) rfl rfl (ren [(12,8),(11,7)]) (LeR.of ⟨rfl,rfl,rfl,rfl,trivial⟩ ⟨(lx rfl),(lx rfl),(lx rfl),(lx rfl),(lx rfl),trivial⟩ ⟨rfl,rfl,rfl,rfl,rfl,trivial⟩ rfl rfl rfl rfl rfl) ?_ ?_ ?_
  · intro g hg w1 E1 I1 R1 pβ1 pν1 us1
    refine WP.pure 12 (lx rfl) fun hinv1 => ?_
    have hpI := plansV_nth (stop := stop) hb5 hg
    have hpB := hpI.plB
    have hpl := hpB.n
    have hm3 := hh.m
    refine WP.seq (WP.region ?_)
    refine WPl.v rfl (o_assign rfl) ?_
    refine WPl.nil (EX.then (WP.region ?_))
    refine WPl.l 14 15 rfl rfl rfl (o_alloc Z108) ?_
    refine WPl.s1 (o_stag G108 rfl rfl rfl ⟨rfl,rfl,rfl,rfl,trivial⟩ rfl rfl) ?_
    refine WPl.nil ?_
    refine EX.beg rfl ?_
    refine WP.block (WP.seq (WP.seq (WP.region ?_)))
    refine WPl.v rfl (o_ldpa G26 rfl rfl rfl) ?_
    refine WPl.v rfl (o_ldpa G108 rfl rfl rfl) ?_
    refine WPl.cs 15 rfl rfl rfl rfl (o_sig 15 (ren [(0,0),(1,1),(2,2)]) (c62 h (rdyL h (nth (plansV h stop) (g : Int))) hh (rdyL_len _ _)) e62 rfl rfl rfl w62 ⟨(lx rfl),(lx rfl),(lx rfl),trivial⟩ r62) ?_
    refine WPl.cs 15 rfl rfl rfl rfl (o_sig 15 id (c63 (latM h (rdyL h (nth (plansV h stop) (g : Int)))) (by have := lateP_b hh (nth (plansV h stop) (g : Int)); unfold lateP at this; omega)) e63 rfl rfl rfl w63 trivial r63) ?_
    refine WPl.v rfl (o_assign rfl) ?_
    refine WPl.nil (EX.then (WP.seq (WP.region ?_)))
    refine WPl.v rfl (o_move rfl) ?_
    refine WPl.v rfl (o_ldp S3 rfl rfl rfl) ?_
    refine WPl.v rfl (o_lss rfl rfl) ?_
    refine WPl.nil (EX.then ?_)
    refine WP.cond rfl (fun hc1 => ?_) (fun hc1 => ?_)
    · try simp only [cnd] at hc1
      have hn : bpTo h stop (g + 1) = ((nth (plansV h stop) (g : Int)),(popc (lateP h (nth (plansV h stop) (g : Int))) : Int)) := by rw [bpTo,if_neg hinv1]; exact if_pos hc1
      refine WP.seq (WP.region ?_)
      refine WPl.v rfl (o_move rfl) ?_
      refine WPl.s1 (o_sta S27 rfl rfl rfl rfl rfl) ?_
      refine WPl.s1 (o_sta S3 rfl rfl rfl rfl rfl) ?_
      refine WPl.nil (EX.then (WP.seq (WP.region ?_)))
      refine WPl.v rfl (o_move rfl) ?_
      refine WPl.v rfl (o_lenL L27 rfl (lx rfl) rfl) ?_
      refine WPl.v rfl (o_move rfl) ?_
      refine WPl.nil (EX.then (WP.block ?_))
      refine WP.imp (Imp.namo (EP.sl EP.int) 15 16 24 rfl rfl) ?_
      refine WP.imp (Imp.swL 4 0 15 rfl rfl (lx rfl)) ?_
      refine WP.loop (Gh := Nat) (fun i => ⟨16,[(2,.e (.a (.p 3 (0)))),(4,.e (.a (.p 4 (0)))),(5,.e (.a (.p 5 (0)))),(17,.e (.a (.q 6))),(18,.e (.a (.q 13))),(19,.e (.g [ai (nth (rdyL h (nth (plansV h stop) (g : Int))) 0),ai (nth (rdyL h (nth (plansV h stop) (g : Int))) 1),ai (nth (rdyL h (nth (plansV h stop) (g : Int))) 2),ai (nth (rdyL h (nth (plansV h stop) (g : Int))) 3)])),(6,.e (.a (.q 13))),(7,.e (.a (.p 14 (0)))),(20,.e (.g [.q 0,.q 1,.q 2,ai (h.change)])),(21,.e (.g [ai (nth (rdyL h (nth (plansV h stop) (g : Int))) 0),ai (nth (rdyL h (nth (plansV h stop) (g : Int))) 1),ai (nth (rdyL h (nth (plansV h stop) (g : Int))) 2),ai (nth (rdyL h (nth (plansV h stop) (g : Int))) 3)])),(22,.e (.a (.v (.int .u64 ((latM h (rdyL h (nth (plansV h stop) (g : Int))) : Nat) : Int))))),(23,.i ((popc (latM h (rdyL h (nth (plansV h stop) (g : Int)))) : Int))),(8,.i ((popc (latM h (rdyL h (nth (plansV h stop) (g : Int)))) : Int))),(24,.i ((popc (latM h (rdyL h (nth (plansV h stop) (g : Int)))) : Int))),(25,.i ((bpTo h stop g).2)),(26,.b (decide ((popc (latM h (rdyL h (nth (plansV h stop) (g : Int)))) : Int) < ((bpTo h stop g).2)))),(27,.i ((popc (latM h (rdyL h (nth (plansV h stop) (g : Int)))) : Int))),(28,.e (.a (.q 13))),(29,.i (((nth (plansV h stop) (g : Int)).length : Int))),(30,.i ((i : Int)))],[(0,PL ETm (h.machs)),(1,PL EBd (h.buns)),(2,PL EP.int (h.trains)),(6,ItP Try.prog (planItems h stop)),(13,Pred.is (us1 0))],[(3,.blk [.q 0,.q 1,.q 2,ai (h.change)] 26),(4,.blk [.q 15] 27),(5,.blk [ai ((popc (latM h (rdyL h (nth (plansV h stop) (g : Int)))) : Int))] 3),(9,.ob (.deferred (some []))),(13,.ext (lentXP (us1 0) (us1 (1000 + 0)) (PL (EP.sl EP.int) ((nth (plansV h stop) (g : Int)))))),(10,.ob (.loop { R1 with state := .busy })),(14,.blk [ai (nth (rdyL h (nth (plansV h stop) (g : Int))) 0),ai (nth (rdyL h (nth (plansV h stop) (g : Int))) 1),ai (nth (rdyL h (nth (plansV h stop) (g : Int))) 2),ai (nth (rdyL h (nth (plansV h stop) (g : Int))) 3)] 108),(15,.own 24 (EP.sl EP.int).size ((nth (plansV h stop) (g : Int)).take i).length (RP (EP.sl EP.int) ((nth (plansV h stop) (g : Int)).take i)))],[],[]⟩) (fun i => i ≤ (nth (plansV h stop) (g : Int)).length) (fun i => (nth (plansV h stop) (g : Int)).length - i) (0) id ?_ (LeR.of ⟨rfl,rfl,rfl,rfl,rfl,rfl,rfl,rfl,rfl,rfl,rfl,rfl,rfl,rfl,rfl,rfl,rfl,rfl,rfl,rfl,trivial⟩ ⟨(lx rfl),(lx rfl),(lx rfl),(lx rfl),(lx rfl),trivial⟩ ⟨rfl,rfl,rfl,rfl,rfl,rfl,rfl,(congrArg (fun z => some (Ent.own 24 (EP.sl EP.int).size (List.length z) (RP (EP.sl EP.int) z))) (show ([]) = ((fun i => (nth (plansV h stop) (g : Int)).take i) 0) from by simp)),trivial⟩ rfl rfl rfl rfl rfl) ?_
      · first | trivial | omega | (constructor <;> omega) | simp
      intro i hφ
      have hi : i ≤ (nth (plansV h stop) (g : Int)).length := hφ
      refine WP.seq (WP.region ?_)
      refine WPl.v rfl (o_lss rfl rfl) ?_
      refine WPl.nil (EX.then (WP.seq ?_))
      refine WP.cond rfl (fun hc2 => ?_) (fun hc2 => ?_)
      · try simp only [cnd] at hc2
        refine WP.skip (EX.then (WP.seq (WP.block (WP.seq (WP.region ?_)))))
        refine WPl.v rfl (o_idxL L27 rfl (lx rfl) rfl rfl (by first | omega | (simp; omega)) (by first | omega | (simp; omega))) ?_
        refine WPl.ldL 16 17 rfl rfl rfl S24 rfl (lx rfl) rfl (by first | omega | (simp; omega)) (by first | omega | (simp; omega)) fun vl16 => ?_
        refine WPl.v rfl (o_assign rfl) ?_
        refine WPl.nil (EX.then ?_)
        refine WP.draw (nf := 20) [⟨[35,36,37],[17,18],[],[],[]⟩,⟨[34],[],[],[],[]⟩,⟨[34],[],[17],[17],[1]⟩,⟨[34],[],[18],[18,18],[1,2]⟩,⟨[],[],[19],[19,15],[0,1,2,3]⟩,⟨[],[],[],[4],[0,1,2,3,4]⟩] (by kernel_rfl) (by kernel_rfl) ?_
        refine DRQ.v rfl rfl rfl (o_ldp S27 rfl rfl rfl) ?_
        refine DRQ.v rfl rfl rfl (o_move rfl) ?_
        refine DRQ.cs rfl rfl rfl rfl (o_sigbc 17 (ren [(0,16)]) (c64 (nth (nth (plansV h stop) (g : Int)) (i : Int)) (by have := hpB.r i (by omega); omega)) e64 rfl rfl SvsOK.rf w64 ⟨.mem (kp := 16) (lx rfl) rfl lentR_all,trivial⟩ r64) ?_
        refine DRQ.u1 18 rfl rfl rfl (OpG.newer0 (o_bsl (E := (EP.sl EP.int)) (l := [(nth (nth (plansV h stop) (g : Int)) (i : Int))]) R27 rfl rfl (.cons ((.inl ⟨_,(lx rfl),PL.one⟩)) rfl (eok_sl (lx rfl)) (.nil)) rfl rfl)) rfl ?_
        refine DRQ.l2 19 15 rfl rfl rfl rfl (o_appo R27 EP.sl_one rfl rfl rfl rfl (by have h1 := List.length_take_le' i (nth (plansV h stop) (g : Int)); have := hpB.n; have := hh.m; first | omega | (simp only [List.length_singleton]; omega) | (simp; omega)) (by have h1 := List.length_take_le' i (nth (plansV h stop) (g : Int)); have := hpB.n; have := hh.m; first | omega | (simp only [List.length_singleton]; omega) | (simp; omega))) ?_
        refine DRQ.s 4 rfl rfl rfl (o_sta S27 rfl rfl rfl (.inr ⟨_,_,_,_,rfl⟩) rfl) ?_
        refine DRQ.nil' ?_
        refine EX.blk (EX.then (WP.region ?_))
        refine WPl.v rfl (o_add rfl rfl (by first | omega | (simp; omega)) (by first | omega | (simp; omega))) ?_
        refine WPl.v rfl (o_move rfl) ?_
        refine WPl.nil ?_
        refine EX.again (i + 1) (ren [(15,19)]) (by first | omega | (constructor <;> omega)) (by omega) (LeR.of ⟨rfl,rfl,rfl,rfl,rfl,rfl,rfl,rfl,rfl,rfl,rfl,rfl,rfl,rfl,rfl,rfl,rfl,rfl,rfl,rfl,trivial⟩ ⟨(lx rfl),(lx rfl),(lx rfl),(lx rfl),(lx rfl),trivial⟩ ⟨rfl,rfl,rfl,rfl,rfl,rfl,rfl,(congrArg (fun z => some (Ent.own 24 (EP.sl EP.int).size (List.length z) (RP (EP.sl EP.int) z))) (show (((nth (plansV h stop) (g : Int)).take i) ++ [(nth (nth (plansV h stop) (g : Int)) (i : Int))]) = ((fun i => (nth (plansV h stop) (g : Int)).take i) (i + 1)) from by dsimp only; exact take_snoc (by omega))),trivial⟩ rfl rfl rfl rfl rfl)
      · try simp only [cnd] at hc2
        have hie : i = (nth (plansV h stop) (g : Int)).length := by omega
        refine WP.exit (EX.exit_then (EX.exit_then (EX.exit_blk (EX.then (WP.seq (WP.region ?_))))))
        refine WPl.v rfl (o_ldp S3 rfl rfl rfl) ?_
        refine WPl.v rfl (o_eql rfl rfl) ?_
        refine WPl.nil (EX.then ?_)
        refine WP.cond rfl (fun hc3 => ?_) (fun hc3 => ?_)
        · try simp only [cnd] at hc3
          have hfin : bpV h stop = bpTo h stop (g + 1) := bpTo_stay (by rw [hn]; exact hc3) (by omega)
          refine WP.exit (EX.exit_out rfl ?_)
          exact EX.jexit (ren [(11,15)]) ⟨(by trivial),rfl,rfl⟩ (LeR.of trivial ⟨(lx rfl),(lx rfl),(lx rfl),(lx rfl),trivial⟩ ⟨rfl,rfl,rfl,(congrArg (fun z => some (Ent.blk z 3)) (List.cons_eq_cons.2 ⟨(congrArg (fun z => ai z) (show ((popc (latM h (rdyL h (nth (plansV h stop) (g : Int)))) : Int)) = ((bpV h stop).2) from (congrArg Prod.snd (hfin.trans hn)).symm)),(Eq.refl [])⟩)),rfl,(congrArg (fun z => some (Ent.own 24 (EP.sl EP.int).size (List.length z) (RP (EP.sl EP.int) z))) (show ((nth (plansV h stop) (g : Int)).take i) = ((bpV h stop).1) from by rw [hfin,hn,hie,List.take_length])),trivial⟩ rfl rfl rfl rfl rfl)
        · try simp only [cnd] at hc3
          refine WP.skip (EX.blk ?_)
          have hinvn : (bpTo h stop (g + 1)).2 ≠ 0 := by rw [hn]; first | exact hinv1 | exact hc3
          refine EX.imp (Imp.nam 16 17 (.bool true) (R := Pred.pure ((bpTo h stop (g + 1)).2 ≠ 0)) (fun _ => hinvn) rfl rfl) ?_
          exact EX.next (ren [(12,16),(11,15)]) (LeR.of trivial ⟨(lx rfl),(lx rfl),(lx rfl),(lx rfl),(lx rfl),trivial⟩ ⟨rfl,rfl,rfl,(congrArg (fun z => some (Ent.blk z 3)) (List.cons_eq_cons.2 ⟨(congrArg (fun z => ai z) (show ((popc (latM h (rdyL h (nth (plansV h stop) (g : Int)))) : Int)) = ((fun g => (bpTo h stop g).2) (g + 1)) from (congrArg Prod.snd hn).symm)),(Eq.refl [])⟩)),rfl,(congrArg (fun z => some (Ent.own 24 (EP.sl EP.int).size (List.length z) (RP (EP.sl EP.int) z))) (show ((nth (plansV h stop) (g : Int)).take i) = ((fun g => (bpTo h stop g).1) (g + 1)) from by dsimp only; rw [hn,hie,List.take_length])),trivial⟩ rfl rfl rfl rfl rfl)
    · try simp only [cnd] at hc1
      have hn : bpTo h stop (g + 1) = bpTo h stop g := by rw [bpTo,if_neg hinv1]; exact if_neg hc1
      refine WP.skip (EX.then (WP.seq (WP.region ?_)))
      refine WPl.v rfl (o_ldp S3 rfl rfl rfl) ?_
      refine WPl.v rfl (o_eql rfl rfl) ?_
      refine WPl.nil (EX.then ?_)
      refine WP.cond rfl (fun hc4 => ?_) (fun hc4 => ?_)
      · try simp only [cnd] at hc4
        exact absurd hc4 hinv1
      · try simp only [cnd] at hc4
        refine WP.skip (EX.blk ?_)
        have hinvn : (bpTo h stop (g + 1)).2 ≠ 0 := by rw [hn]; first | exact hinv1 | exact hc3
        refine EX.imp (Imp.nam 15 16 (.bool true) (R := Pred.pure ((bpTo h stop (g + 1)).2 ≠ 0)) (fun _ => hinvn) rfl rfl) ?_
        exact EX.next (ren [(12,15)]) (LeR.of trivial ⟨(lx rfl),(lx rfl),(lx rfl),(lx rfl),(lx rfl),trivial⟩ ⟨rfl,rfl,rfl,(congrArg (fun z => some (Ent.blk z 3)) (List.cons_eq_cons.2 ⟨(congrArg (fun z => ai z) (show ((bpTo h stop g).2) = ((fun g => (bpTo h stop g).2) (g + 1)) from (congrArg Prod.snd hn).symm)),(Eq.refl [])⟩)),rfl,(congrArg (fun z => some (Ent.own 24 (EP.sl EP.int).size (List.length z) (RP (EP.sl EP.int) z))) (show ((bpTo h stop g).1) = ((fun g => (bpTo h stop g).1) (g + 1)) from (congrArg Prod.fst hn).symm)),trivial⟩ rfl rfl rfl rfl rfl)
  · rintro c T (⟨hj,rfl,rfl⟩)
    · skip
      refine WP.exit (EX.exit_blk (EX.then (WP.seq ?_)))
      refine WP.draw (nf := 13) [⟨[43],[],[],[],[]⟩,⟨[42],[4],[],[],[]⟩,⟨[43],[],[],[4],[0]⟩,⟨[],[],[],[5],[0,1,2]⟩] (by kernel_rfl) (by kernel_rfl) ?_
      refine DRQ.v rfl rfl rfl (o_ldp S27 rfl rfl rfl) ?_
      refine DRQ.v rfl rfl rfl (o_ldp S3 rfl rfl rfl) ?_
      refine DRQ.s 4 rfl rfl rfl (o_sta S27 rfl rfl rfl (.inr ⟨_,_,_,_,rfl⟩) rfl) ?_
      refine DRQ.s 5 rfl rfl rfl (o_sta S3 rfl rfl rfl rfl rfl) ?_
      refine DRQ.nil' ?_
      refine EX.then (WP.ret ?_)
      refine EX.imp (Imp.frz (E := (EP.sl EP.int)) (l := (bpV h stop).1) 11 rfl rfl) ?_
      exact EX.fin (ren [(0,11)]) (.inl rfl) rfl (.cell1 S27 rfl rfl (.cell1 S3 rfl rfl (.nil))) rfl r29 ⟨(lx rfl),trivial⟩ (marks rfl) (by simp)
  · refine EX.pure 12 (lx rfl) fun hinv1 => ?_
    refine EX.blk (EX.then (WP.seq ?_))
    refine WP.draw (nf := 13) [⟨[43],[],[],[],[]⟩,⟨[42],[4],[],[],[]⟩,⟨[43],[],[],[4],[0]⟩,⟨[],[],[],[5],[0,1,2]⟩] (by kernel_rfl) (by kernel_rfl) ?_
    refine DRQ.v rfl rfl rfl (o_ldp S27 rfl rfl rfl) ?_
    refine DRQ.v rfl rfl rfl (o_ldp S3 rfl rfl rfl) ?_
    refine DRQ.s 4 rfl rfl rfl (o_sta S27 rfl rfl rfl (.inr ⟨_,_,_,_,rfl⟩) rfl) ?_
    refine DRQ.s 5 rfl rfl rfl (o_sta S3 rfl rfl rfl rfl rfl) ?_
    refine DRQ.nil' ?_
    refine EX.then (WP.ret ?_)
    refine EX.imp (Imp.frz (E := (EP.sl EP.int)) (l := (bpTo h stop ((plansV h stop).length)).1) 11 rfl rfl) ?_
    exact EX.fin (ren [(0,11)]) (.inl rfl) rfl (.cell1 S27 rfl rfl (.cell1 S3 rfl rfl (.nil))) rfl r29 ⟨(lx rfl),trivial⟩ (marks rfl) (by simp)
theorem w27 {h : Hall} : ∀ x ∈ ([.e (.g [.q 0,.q 1,.q 2,ai (h.change)]),.e (.a (.v (.int .u64 (0))))] : List SV),x.res (keys (α := Pred) [(0,PL ETm (h.machs)),(1,PL EBd (h.buns)),(2,PL EP.int (h.trains))]) := by simp [SV.res,El.res,At.res,keys]
theorem r27 {h : Hall} : SV.res (keys (α := Pred) []) (.b (sureV h)) := by simp [SV.res,El.res,At.res,keys]
set_option maxHeartbeats 4000000 in
theorem c27 (h : Hall) (hh : HouC h) : Sig Try.prog 27 [.e (.g [.q 0,.q 1,.q 2,ai (h.change)]),.e (.a (.v (.int .u64 (0))))] [(0,PL ETm (h.machs)),(1,PL EBd (h.buns)),(2,PL EP.int (h.trains))] (.b (sureV h)) [] := by
  have hb5 := hh.b
  have ht4 := hh.t
  have hm3 := hh.m
  refine Sig.intro Try.func27 rfl 3 [(0,.e (.g [.q 0,.q 1,.q 2,ai (h.change)])),(1,.e (.a (.v (.int .u64 (0)))))] rfl w27 rfl rfl fun I w => ?_
  refine WP.seq (WP.region ?_)
  refine WPl.l 3 4 rfl rfl rfl (o_boxg rfl) ?_
  refine WPl.l 4 5 rfl rfl rfl (o_boxa rfl rfl) ?_
  refine WPl.l 5 6 rfl rfl rfl (o_alloc Z4) ?_
  refine WPl.nil (EX.then ?_)
  refine WP.scope ?_
  refine WP.seq ?_
  refine WP.label ?_
  refine EX.then (WP.seq (WP.seq (WP.region ?_)))
  refine WPl.v rfl (o_ldpa G26 rfl rfl rfl) ?_
  refine WPl.cs 7 rfl rfl rfl rfl (o_sig 6 (ren [(0,0),(1,1),(2,2)]) (c60 h hh) e60 rfl rfl rfl w60 ⟨(lx rfl),(lx rfl),(lx rfl),trivial⟩ r60) ?_
  refine WPl.nil (EX.then (WP.block ?_))
  refine WP.leR (S' := ⟨7,[(2,.e (.a (.p 3 (0)))),(3,.e (.a (.p 4 (0)))),(4,.e (.a (.p 5 (0)))),(9,.e (.a (.q 6)))],[(0,PL ETm (h.machs)),(1,PL EBd (h.buns)),(2,PL EP.int (h.trains)),(6,ItP Try.prog (caseItems h))],[(3,.blk [.q 0,.q 1,.q 2,ai (h.change)] 26),(4,.blk [.v (.int .u64 (0))] 63),(5,.blk [.v (.bool (false))] 4)],[],[]⟩) id (LeR.of ⟨rfl,rfl,rfl,rfl,trivial⟩ ⟨(lx rfl),(lx rfl),(lx rfl),(lx rfl),trivial⟩ ⟨rfl,rfl,rfl,trivial⟩ rfl rfl rfl rfl rfl) ?_
  refine WP.imp (Imp.nam 7 8 (.bool true) (R := Pred.pure (∀ x : Nat,x < 0 → sureC h (nth (casesL h) (x : Int)) = true)) (fun _ => (fun x hx => absurd hx (Nat.not_lt_zero x))) rfl rfl) ?_
  refine WP.rangeG 11 0 ((casesL h).length) (fun gc => ⟨[.i (nth (casesL h) (gc : Int))],[],[]⟩) (fun gc => ⟨11,[(2,.e (.a (.p 3 (0)))),(3,.e (.a (.p 4 (0)))),(4,.e (.a (.p 5 (0)))),(9,.e (.a (.q 6)))],[(0,PL ETm (h.machs)),(1,PL EBd (h.buns)),(2,PL EP.int (h.trains)),(6,ItP Try.prog (caseItems h)),(10,Pred.pure (∀ x : Nat,x < gc → sureC h (nth (casesL h) (x : Int)) = true))],[(3,.blk [.q 0,.q 1,.q 2,ai (h.change)] 26),(4,.blk [.v (.int .u64 (0))] 63),(5,.blk [.v (.bool (false))] 4),(8,.ob (.deferred (some [])))],[8],[]⟩) (fun c T => (sureV h = false ∧ c = .ret ∧ T = ⟨11,[(2,.e (.a (.p 3 (0)))),(3,.e (.a (.p 4 (0)))),(4,.e (.a (.p 5 (0)))),(9,.e (.a (.q 6)))],[(0,PL ETm (h.machs)),(1,PL EBd (h.buns)),(2,PL EP.int (h.trains)),(6,ItP Try.prog (caseItems h))],[(3,.blk [.q 0,.q 1,.q 2,ai (h.change)] 26),(4,.blk [.v (.int .u64 (0))] 63),(5,.blk [.v (.bool (false))] 4),(8,.ob (.deferred (some [])))],[8],[]⟩)) rfl rfl (lx rfl) (caseItems_map h) (fun _ => RSt.of rfl rfl rfl rfl rfl rfl) ((by rintro c T (⟨_,rfl,rfl⟩) <;> exact RSt.of rfl rfl rfl rfl rfl rfl)) rfl rfl rfl (fun _ _ => ItemOK.of rfl) rfl rfl (ren [(10,7)]) (LeR.of ⟨rfl,rfl,rfl,rfl,trivial⟩ ⟨(lx rfl),(lx rfl),(lx rfl),(lx rfl),(lx rfl),trivial⟩ ⟨rfl,rfl,rfl,rfl,trivial⟩ rfl rfl rfl rfl rfl) ?_ ?_ ?_
  · intro gc hgc w1 E1 I1 R1 pβ1 pν1 us1
    refine WP.pure 10 (lx rfl) fun hinv1 => ?_
    have hcb := cases_b hgc
    refine WP.region ?_
    refine WPl.v rfl (o_assign rfl) ?_
    refine WPl.nil ?_
    refine EX.beg rfl ?_
    refine WP.block (WP.seq (WP.seq (WP.region ?_)))
    refine WPl.v rfl (o_ldpa G26 rfl rfl rfl) ?_
    refine WPl.v rfl (o_move rfl) ?_
    refine WPl.cs 12 rfl rfl rfl rfl (o_sig 11 (ren [(0,0),(1,1),(2,2)]) (c61 h (nth (casesL h) (gc : Int)) hh (by omega)) e61 rfl rfl rfl w61 ⟨(lx rfl),(lx rfl),(lx rfl),trivial⟩ r61) ?_
    refine WPl.nil (EX.then (WP.block ?_))
    refine WP.leR (S' := ⟨12,[(2,.e (.a (.p 3 (0)))),(3,.e (.a (.p 4 (0)))),(4,.e (.a (.p 5 (0)))),(9,.e (.a (.q 6))),(10,.i (nth (casesL h) (gc : Int))),(5,.i (nth (casesL h) (gc : Int))),(11,.e (.g [.q 0,.q 1,.q 2,ai (h.change)])),(12,.i (nth (casesL h) (gc : Int))),(13,.e (.a (.q 11)))],[(0,PL ETm (h.machs)),(1,PL EBd (h.buns)),(2,PL EP.int (h.trains)),(6,ItP Try.prog (caseItems h)),(11,ItP Try.prog (planItems h (nth (casesL h) (gc : Int))))],[(3,.blk [.q 0,.q 1,.q 2,ai (h.change)] 26),(4,.blk [.v (.int .u64 (0))] 63),(5,.blk [.v (.bool (false))] 4),(8,.ob (.deferred (some []))),(9,.ob (.loop { R1 with state := .busy }))],[],[]⟩) id (LeR.of ⟨rfl,rfl,rfl,rfl,rfl,rfl,rfl,rfl,rfl,trivial⟩ ⟨(lx rfl),(lx rfl),(lx rfl),(lx rfl),(lx rfl),trivial⟩ ⟨rfl,rfl,rfl,rfl,rfl,trivial⟩ rfl rfl rfl rfl rfl) ?_
    refine WP.imp (Imp.nam 12 13 (.bool true) (R := Pred.pure (∀ y : Nat,y < 0 → lateP h (nth (plansV h (nth (casesL h) (gc : Int))) (y : Int)) ≠ 0)) (fun _ => (fun y hy => absurd hy (Nat.not_lt_zero y))) rfl rfl) ?_
    refine WP.rangeG2 9 16 1 ((plansV h (nth (casesL h) (gc : Int))).length) (fun g => ⟨[.e (.a (.q 0)),.e (.g [ai (nth (rdyL h (nth (plansV h (nth (casesL h) (gc : Int))) (g : Int))) 0),ai (nth (rdyL h (nth (plansV h (nth (casesL h) (gc : Int))) (g : Int))) 1),ai (nth (rdyL h (nth (plansV h (nth (casesL h) (gc : Int))) (g : Int))) 2),ai (nth (rdyL h (nth (plansV h (nth (casesL h) (gc : Int))) (g : Int))) 3)])],[],[(0,PL (EP.sl EP.int) ((nth (plansV h (nth (casesL h) (gc : Int))) (g : Int))))]⟩) (fun g => ⟨16,[(2,.e (.a (.p 3 (0)))),(3,.e (.a (.p 4 (0)))),(4,.e (.a (.p 5 (0)))),(9,.e (.a (.q 6))),(10,.i (nth (casesL h) (gc : Int))),(5,.i (nth (casesL h) (gc : Int))),(11,.e (.g [.q 0,.q 1,.q 2,ai (h.change)])),(12,.i (nth (casesL h) (gc : Int))),(13,.e (.a (.q 11)))],[(0,PL ETm (h.machs)),(1,PL EBd (h.buns)),(2,PL EP.int (h.trains)),(6,ItP Try.prog (caseItems h)),(11,ItP Try.prog (planItems h (nth (casesL h) (gc : Int)))),(15,Pred.pure (∀ y : Nat,y < g → lateP h (nth (plansV h (nth (casesL h) (gc : Int))) (y : Int)) ≠ 0))],[(3,.blk [.q 0,.q 1,.q 2,ai (h.change)] 26),(4,.blk [.v (.int .u64 (0))] 63),(5,.blk [.v (.bool (false))] 4),(8,.ob (.deferred (some []))),(9,.ob (.loop { R1 with state := .busy }))],[],[]⟩) (fun c T => (sureC h (nth (casesL h) (gc : Int)) = true ∧ c = .exit 1 ∧ T = ⟨16,[(2,.e (.a (.p 3 (0)))),(3,.e (.a (.p 4 (0)))),(4,.e (.a (.p 5 (0)))),(9,.e (.a (.q 6))),(10,.i (nth (casesL h) (gc : Int))),(5,.i (nth (casesL h) (gc : Int))),(11,.e (.g [.q 0,.q 1,.q 2,ai (h.change)])),(12,.i (nth (casesL h) (gc : Int))),(13,.e (.a (.q 11)))],[(0,PL ETm (h.machs)),(1,PL EBd (h.buns)),(2,PL EP.int (h.trains)),(6,ItP Try.prog (caseItems h)),(11,ItP Try.prog (planItems h (nth (casesL h) (gc : Int))))],[(3,.blk [.q 0,.q 1,.q 2,ai (h.change)] 26),(4,.blk [.v (.int .u64 (0))] 63),(5,.blk [.v (.bool (false))] 4),(8,.ob (.deferred (some []))),(9,.ob (.loop { R1 with state := .busy }))],[],[]⟩)) rfl rfl rfl rfl rfl (lx rfl) (planItems_map h (nth (casesL h) (gc : Int))) (fun _ => RSt.of rfl rfl rfl rfl rfl rfl) ((by rintro c T (⟨_,rfl,rfl⟩) <;> exact RSt.of rfl rfl rfl rfl rfl rfl)) rfl rfl rfl (fun _ _ => ItemOK.of rfl) rfl rfl (ren [(15,12)]) (LeR.of ⟨rfl,rfl,rfl,rfl,rfl,rfl,rfl,rfl,rfl,trivial⟩ ⟨(lx rfl),(lx rfl),(lx rfl),(lx rfl),(lx rfl),(lx rfl),trivial⟩ ⟨rfl,rfl,rfl,rfl,rfl,trivial⟩ rfl rfl rfl rfl rfl) ?_ ?_ ?_
    · intro g hg w2 E2 I2 R2 pβ2 pν2 us2
      refine WP.pure 15 (lx rfl) fun hinv2 => ?_
      refine WP.region ?_
      refine WPl.l 17 18 rfl rfl rfl (o_alloc Z108) ?_
      refine WPl.s1 (o_stag G108 rfl rfl rfl ⟨rfl,rfl,rfl,rfl,trivial⟩ rfl rfl) ?_
      refine WPl.nil ?_
      refine EX.beg rfl ?_
      refine WP.block (WP.seq ?_)
      refine WP.draw (nf := 18) [⟨[17,19],[],[],[],[]⟩,⟨[16,19],[],[],[],[]⟩,⟨[19],[],[],[],[0,1]⟩,⟨[16,17,18],[],[],[],[]⟩,⟨[],[],[],[],[0,1,2,3]⟩,⟨[],[],[],[],[0,1,2,3,4]⟩] (by kernel_rfl) (by kernel_rfl) ?_
      refine DRQ.v rfl rfl rfl (o_ldpa G26 rfl rfl rfl) ?_
      refine DRQ.v rfl rfl rfl (o_ldpa G108 rfl rfl rfl) ?_
      refine DRQ.cs rfl rfl rfl rfl (o_sig 18 (ren [(0,0),(1,1),(2,2)]) (c62 h (rdyL h (nth (plansV h (nth (casesL h) (gc : Int))) (g : Int))) hh (rdyL_len _ _)) e62 rfl rfl rfl w62 ⟨(lx rfl),(lx rfl),(lx rfl),trivial⟩ r62) ?_
      refine DRQ.v rfl rfl rfl (o_ldp S63 rfl rfl rfl) ?_
      refine DRQ.v rfl rfl rfl (o_ua rfl rfl (by simp)) ?_
      refine DRQ.v rfl rfl rfl (o_ueq rfl rfl) ?_
      refine DRQ.nil' ?_
      refine EX.then ?_
      refine WP.cond rfl (fun hc1 => ?_) (fun hc1 => ?_)
      · try simp only [cnd] at hc1
        have hl0 : lateP h (nth (plansV h (nth (casesL h) (gc : Int))) (g : Int)) = 0 := by have e := notU (lateP_b hh (nth (plansV h (nth (casesL h) (gc : Int))) (g : Int))); unfold lateP at e ⊢; rw [e] at hc1; omega
        refine WP.exit (EX.exit_out rfl ?_)
        exact EX.jexit id ⟨(by exact sureC_t hg hl0),rfl,rfl⟩ (LeR.of trivial ⟨(lx rfl),(lx rfl),(lx rfl),(lx rfl),(lx rfl),trivial⟩ ⟨rfl,rfl,rfl,rfl,rfl,rfl,trivial⟩ rfl rfl rfl rfl rfl)
      · try simp only [cnd] at hc1
        have hl0 : lateP h (nth (plansV h (nth (casesL h) (gc : Int))) (g : Int)) ≠ 0 := by have e := notU (lateP_b hh (nth (plansV h (nth (casesL h) (gc : Int))) (g : Int))); unfold lateP at e ⊢; rw [e] at hc1; omega
        refine WP.skip (EX.blk ?_)
        have hinvn : ∀ y : Nat,y < (g + 1) → lateP h (nth (plansV h (nth (casesL h) (gc : Int))) (y : Int)) ≠ 0 := by intro y hy; rcases Nat.lt_or_ge y g with h1 | h1; exact hinv2 y h1; rw [show y = g by omega]; exact hl0
        refine EX.imp (Imp.nam 18 19 (.bool true) (R := Pred.pure (∀ y : Nat,y < (g + 1) → lateP h (nth (plansV h (nth (casesL h) (gc : Int))) (y : Int)) ≠ 0)) (fun _ => hinvn) rfl rfl) ?_
        exact EX.next (ren [(15,18)]) (LeR.of trivial ⟨(lx rfl),(lx rfl),(lx rfl),(lx rfl),(lx rfl),(lx rfl),trivial⟩ ⟨rfl,rfl,rfl,rfl,rfl,rfl,trivial⟩ rfl rfl rfl rfl rfl)
    · rintro c T (⟨hj,rfl,rfl⟩)
      · skip
        refine WP.exit (EX.exit_out rfl (EX.exit_then (EX.exit_blk ?_)))
        have hinvn : ∀ x : Nat,x < (gc + 1) → sureC h (nth (casesL h) (x : Int)) = true := by intro x hx; rcases Nat.lt_or_ge x gc with h1 | h1; exact hinv1 x h1; rw [show x = gc by omega]; exact hj
        refine EX.imp (Imp.nam 16 17 (.bool true) (R := Pred.pure (∀ x : Nat,x < (gc + 1) → sureC h (nth (casesL h) (x : Int)) = true)) (fun _ => hinvn) rfl rfl) ?_
        exact EX.next (ren [(10,16)]) (LeR.of trivial ⟨(lx rfl),(lx rfl),(lx rfl),(lx rfl),(lx rfl),trivial⟩ ⟨rfl,rfl,rfl,rfl,rfl,trivial⟩ rfl rfl rfl rfl rfl)
    · refine EX.pure 15 (lx rfl) fun hinv2 => ?_
      refine EX.blk (EX.then (WP.seq (WP.region ?_)))
      refine WPl.s1 (o_sta S4 rfl rfl rfl rfl rfl) ?_
      refine WPl.nil (EX.then (WP.ret (EX.ret_blk ?_)))
      exact EX.jret id ⟨(by exact sureV_f hgc (sureC_f hinv2)),rfl,rfl⟩ (LeR.of trivial ⟨(lx rfl),(lx rfl),(lx rfl),(lx rfl),trivial⟩ ⟨rfl,rfl,rfl,rfl,rfl,trivial⟩ rfl rfl rfl rfl rfl)
  · rintro c T (⟨hj,rfl,rfl⟩)
    · skip
      refine WP.ret (EX.ret_blk (EX.ret_then ?_))
      refine EX.scope (fun _ h => by cases h) ?_
      rw [show sureV h = false from hj]
      exact EX.fin id (.inl rfl) rfl (.cell1 S4 rfl rfl (.nil)) rfl (by simp [SV.res,El.res,At.res,keys]) trivial (marks rfl) (by simp)
  · refine EX.pure 10 (lx rfl) fun hinv1 => ?_
    have hsv : sureV h = true := sureV_t hinv1
    refine EX.blk (EX.then (WP.seq (WP.region ?_)))
    refine WPl.s1 (o_sta S4 rfl rfl rfl rfl rfl) ?_
    refine WPl.nil (EX.then (WP.ret ?_))
    refine EX.scope (fun _ h => by cases h) ?_
    rw [show sureV h = true from hsv]
    exact EX.fin id (.inl rfl) rfl (.cell1 S4 rfl rfl (.nil)) rfl (by simp [SV.res,El.res,At.res,keys]) trivial (marks rfl) (by simp)
end Go.Flong
