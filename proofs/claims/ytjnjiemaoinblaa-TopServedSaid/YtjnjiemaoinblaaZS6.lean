/- TopServed returns true for every input and leaves its arguments as they were (the hall). No condition. -/
import Derived.Test.YtjnjiemaoinblaaZS5
set_option linter.unusedSimpArgs false
set_option linter.unusedVariables false
namespace Go.Flong
open Go Go.Eng Go.Proofs
theorem e27 : Enters' Try.prog 27 := Try.call27
theorem e29 : Enters' Try.prog 29 := Try.call29
theorem e31 : Enters' Try.prog 31 := Try.call31
theorem e30 : Enters' Try.prog 30 := Try.call30
theorem e94 : Enters' Try.prog 94 := Try.call94
theorem e95 : Enters' Try.prog 95 := Try.call95
theorem w30 {h : Hall} {v : Bool} : ∀ x ∈ ([.e (.g [.q 0,.q 1,.q 2,ai (h.change)]),.b (v)] : List SV),x.res (keys (α := Pred) [(0,PL ETm (h.machs)),(1,PL EBd (h.buns)),(2,PL EP.int (h.trains))]) := by simp [SV.res,El.res,At.res,keys]
theorem r30  : SV.res (keys (α := Pred) []) (.i (0)) := by simp [SV.res,El.res,At.res,keys]
set_option maxHeartbeats 4000000 in
theorem c30 (h : Hall) (v : Bool) (hm : h.Small) (hh : h.house = true) (hv : v = true) : Sig Try.prog 30 [.e (.g [.q 0,.q 1,.q 2,ai (h.change)]),.b (v)] [(0,PL ETm (h.machs)),(1,PL EBd (h.buns)),(2,PL EP.int (h.trains))] (.i (0)) [] := by
  refine Sig.intro Try.func30 rfl 3 [(0,.e (.g [.q 0,.q 1,.q 2,ai (h.change)])),(1,.b (v))] rfl w30 rfl rfl fun I w => ?_
  refine WP.seq (WP.region ?_)
  refine WPl.l 3 4 rfl rfl rfl (o_boxg rfl) ?_
  refine WPl.v rfl (o_assign rfl) ?_
  refine WPl.nil (EX.then (WP.seq (WP.seq (WP.region ?_))))
  refine WPl.v rfl (o_ldpa G26 rfl rfl rfl) ?_
  refine WPl.cs 4 rfl rfl rfl rfl (o_sig 4 (ren [(0,0),(1,1),(2,2)]) (c26 h hm) e26 rfl rfl rfl w26 ⟨(lx rfl),(lx rfl),(lx rfl),trivial⟩ r26) ?_
  refine WPl.v rfl (o_assign rfl) ?_
  refine WPl.nil (EX.then (WP.seq (WP.region ?_)))
  refine WPl.v rfl (o_move rfl) ?_
  refine WPl.v rfl (o_neq rfl rfl) ?_
  refine WPl.nil (EX.then ?_)
  refine WP.cond rfl (fun hc1 => ?_) (fun hc1 => ?_)
  · try simp only [cnd] at hc1
    exact absurd (errH_eq.2 hh) hc1
  · try simp only [cnd] at hc1
    refine WP.skip (EX.then (WP.seq (WP.seq (WP.region ?_))))
    refine WPl.v rfl (o_move rfl) ?_
    refine WPl.v rfl (o_not rfl) ?_
    refine WPl.nil (EX.then ?_)
    refine WP.cond rfl (fun hc2 => ?_) (fun hc2 => ?_)
    · try simp only [cnd] at hc2
      simp [hv] at hc2
    · try simp only [cnd] at hc2
      refine WP.skip (EX.then (WP.seq (WP.region ?_)))
      refine WPl.v rfl (o_assign rfl) ?_
      refine WPl.nil (EX.then (WP.ret ?_))
      exact EX.fin id (.inl rfl) rfl (.tmp rfl .nil) rfl r30 trivial (by simp) (by simp)
theorem w31 {h : Hall} {n : Int} : ∀ x ∈ ([.e (.g [.q 0,.q 1,.q 2,ai (h.change)]),.i (n)] : List SV),x.res (keys (α := Pred) [(0,PL ETm (h.machs)),(1,PL EBd (h.buns)),(2,PL EP.int (h.trains))]) := by simp [SV.res,El.res,At.res,keys]
theorem r31 {h : Hall} {n : Int} : SV.res (keys (α := Pred) []) (.b (within n 0 ((h.machs.length : Int) - 1))) := by simp [SV.res,El.res,At.res,keys]
set_option maxHeartbeats 4000000 in
theorem c31 (h : Hall) (n : Int) (hl : h.machs.length ≤ 1000) : Sig Try.prog 31 [.e (.g [.q 0,.q 1,.q 2,ai (h.change)]),.i (n)] [(0,PL ETm (h.machs)),(1,PL EBd (h.buns)),(2,PL EP.int (h.trains))] (.b (within n 0 ((h.machs.length : Int) - 1))) [] := by
  refine Sig.intro Try.func31 rfl 3 [(0,.e (.g [.q 0,.q 1,.q 2,ai (h.change)])),(1,.i (n))] rfl w31 rfl rfl fun I w => ?_
  refine WP.seq (WP.region ?_)
  refine WPl.l 3 4 rfl rfl rfl (o_boxg rfl) ?_
  refine WPl.v rfl (o_assign rfl) ?_
  refine WPl.nil (EX.then (WP.seq (WP.region ?_)))
  refine WPl.v rfl (o_move rfl) ?_
  refine WPl.v rfl (o_fldp F26_0 rfl) ?_
  refine WPl.v rfl (o_ldp S22 rfl rfl rfl) ?_
  refine WPl.v rfl (o_lenq L22 rfl (lx rfl)) ?_
  refine WPl.v rfl (o_sub rfl rfl (by first | omega | (simp; omega)) (by first | omega | (simp; omega))) ?_
  refine WPl.cs 4 rfl rfl rfl rfl (o_sig 4 id (c52 n 0 ((h.machs.length : Int) - 1)) e52 rfl rfl rfl w52 trivial r52) ?_
  refine WPl.v rfl (o_assign rfl) ?_
  refine WPl.nil (EX.then (WP.ret ?_))
  exact EX.fin id (.inl rfl) rfl (.tmp rfl .nil) rfl r31 trivial (by simp) (by simp)
theorem w7 {h : Hall} : ∀ x ∈ ([.e (.g [.q 0,.q 1,.q 2,ai (h.change)])] : List SV),x.res (keys (α := Pred) [(0,PL ETm (h.machs)),(1,PL EBd (h.buns)),(2,PL EP.int (h.trains))]) := by simp [SV.res,El.res,At.res,keys]
theorem r7 {h : Hall} : SV.res (keys (α := Pred) []) (.t [.a (.v (.bool (sureV h))),.a (ai (0))]) := by simp [SV.res,El.res,At.res,keys]
set_option maxHeartbeats 4000000 in
theorem c7 (h : Hall) (hm : h.Small) (hh : h.house = true) : Sig Try.prog 7 [.e (.g [.q 0,.q 1,.q 2,ai (h.change)])] [(0,PL ETm (h.machs)),(1,PL EBd (h.buns)),(2,PL EP.int (h.trains))] (.t [.a (.v (.bool (sureV h))),.a (ai (0))]) [] := by
  have hC := houC hh
  refine Sig.intro Try.func7 rfl 3 [(0,.e (.g [.q 0,.q 1,.q 2,ai (h.change)]))] rfl w7 rfl rfl fun I w => ?_
  refine WP.seq (WP.region ?_)
  refine WPl.l 3 4 rfl rfl rfl (o_boxg rfl) ?_
  refine WPl.v rfl (o_assign rfl) ?_
  refine WPl.v rfl (o_assign rfl) ?_
  refine WPl.nil (EX.then (WP.seq (WP.seq (WP.region ?_))))
  refine WPl.v rfl (o_ldpa G26 rfl rfl rfl) ?_
  refine WPl.cs 4 rfl rfl rfl rfl (o_sig 4 (ren [(0,0),(1,1),(2,2)]) (c26 h hm) e26 rfl rfl rfl w26 ⟨(lx rfl),(lx rfl),(lx rfl),trivial⟩ r26) ?_
  refine WPl.v rfl (o_assign rfl) ?_
  refine WPl.nil (EX.then (WP.seq (WP.region ?_)))
  refine WPl.v rfl (o_move rfl) ?_
  refine WPl.v rfl (o_neq rfl rfl) ?_
  refine WPl.nil (EX.then ?_)
  refine WP.cond rfl (fun hc1 => ?_) (fun hc1 => ?_)
  · try simp only [cnd] at hc1
    exact absurd (errH_eq.2 hh) hc1
  · try simp only [cnd] at hc1
    refine WP.skip (EX.then (WP.seq (WP.region ?_)))
    refine WPl.v rfl (o_ldpa G26 rfl rfl rfl) ?_
    refine WPl.cs 4 rfl rfl rfl rfl (o_sig 4 (ren [(0,0),(1,1),(2,2)]) (c27 h hC) e27 rfl rfl rfl w27 ⟨(lx rfl),(lx rfl),(lx rfl),trivial⟩ r27) ?_
    refine WPl.v rfl (o_assign rfl) ?_
    refine WPl.v rfl (o_assign rfl) ?_
    refine WPl.nil (EX.then (WP.ret ?_))
    exact EX.fin id (.inl rfl) rfl (.tmp rfl (.tmp rfl .nil)) rfl r7 trivial (by simp) (by simp)
theorem w11 {h : Hall} : ∀ x ∈ ([.e (.g [.q 0,.q 1,.q 2,ai (h.change)])] : List SV),x.res (keys (α := Pred) [(0,PL ETm (h.machs)),(1,PL EBd (h.buns)),(2,PL EP.int (h.trains))]) := by simp [SV.res,El.res,At.res,keys]
theorem r11 {h : Hall} : SV.res (keys (α := Pred) [(0,PL (EP.sl EP.int) ((bpV h (-1)).1))]) (.t [.a (.q 0),.a (ai (0))]) := by simp [SV.res,El.res,At.res,keys]
set_option maxHeartbeats 4000000 in
theorem c11 (h : Hall) (hm : h.Small) (hh : h.house = true) : Sig Try.prog 11 [.e (.g [.q 0,.q 1,.q 2,ai (h.change)])] [(0,PL ETm (h.machs)),(1,PL EBd (h.buns)),(2,PL EP.int (h.trains))] (.t [.a (.q 0),.a (ai (0))]) [(0,PL (EP.sl EP.int) ((bpV h (-1)).1))] := by
  have hC := houC hh
  refine Sig.intro Try.func11 rfl 3 [(0,.e (.g [.q 0,.q 1,.q 2,ai (h.change)]))] rfl w11 rfl rfl fun I w => ?_
  refine WP.seq (WP.region ?_)
  refine WPl.l 3 4 rfl rfl rfl (o_boxg rfl) ?_
  refine WPl.v rfl (o_assign rfl) ?_
  refine WPl.v rfl (o_assign rfl) ?_
  refine WPl.nil (EX.then (WP.seq (WP.seq (WP.region ?_))))
  refine WPl.v rfl (o_ldpa G26 rfl rfl rfl) ?_
  refine WPl.cs 4 rfl rfl rfl rfl (o_sig 4 (ren [(0,0),(1,1),(2,2)]) (c26 h hm) e26 rfl rfl rfl w26 ⟨(lx rfl),(lx rfl),(lx rfl),trivial⟩ r26) ?_
  refine WPl.v rfl (o_assign rfl) ?_
  refine WPl.nil (EX.then (WP.seq (WP.region ?_)))
  refine WPl.v rfl (o_move rfl) ?_
  refine WPl.v rfl (o_neq rfl rfl) ?_
  refine WPl.nil (EX.then ?_)
  refine WP.cond rfl (fun hc1 => ?_) (fun hc1 => ?_)
  · try simp only [cnd] at hc1
    exact absurd (errH_eq.2 hh) hc1
  · try simp only [cnd] at hc1
    refine WP.skip (EX.then (WP.seq (WP.region ?_)))
    refine WPl.v rfl (o_ldpa G26 rfl rfl rfl) ?_
    refine WPl.cs 5 rfl rfl rfl rfl (o_sig 4 (ren [(0,0),(1,1),(2,2)]) (c29 h (-1) hC (by omega)) e29 rfl rfl rfl w29 ⟨(lx rfl),(lx rfl),(lx rfl),trivial⟩ r29) ?_
    refine WPl.v rfl (o_move rfl) ?_
    refine WPl.v rfl (o_extract rfl rfl) ?_
    refine WPl.v rfl (o_extract rfl rfl) ?_
    refine WPl.v rfl (o_assign rfl) ?_
    refine WPl.v rfl (o_assign rfl) ?_
    refine WPl.nil (EX.then (WP.seq (WP.region ?_)))
    refine WPl.v rfl (o_move rfl) ?_
    refine WPl.v rfl (o_assign rfl) ?_
    refine WPl.v rfl (o_assign rfl) ?_
    refine WPl.nil (EX.then (WP.ret ?_))
    exact EX.fin (ren [(0,4)]) (.inl rfl) rfl (.tmp rfl (.tmp rfl .nil)) rfl r11 ⟨(lx rfl),trivial⟩ (by simp) (by simp)
theorem w12 {h : Hall} {m : Int} : ∀ x ∈ ([.e (.g [.q 0,.q 1,.q 2,ai (h.change)]),.i (m)] : List SV),x.res (keys (α := Pred) [(0,PL ETm (h.machs)),(1,PL EBd (h.buns)),(2,PL EP.int (h.trains))]) := by simp [SV.res,El.res,At.res,keys]
theorem r12 {h : Hall} {m : Int} : SV.res (keys (α := Pred) [(0,PL (EP.sl EP.int) ((bpV h m).1))]) (.t [.a (.q 0),.a (ai (0))]) := by simp [SV.res,El.res,At.res,keys]
set_option maxHeartbeats 4000000 in
theorem c12 (h : Hall) (m : Int) (hm : h.Small) (hh : h.house = true) (h0 : 0 ≤ m ∧ m < h.machs.length) : Sig Try.prog 12 [.e (.g [.q 0,.q 1,.q 2,ai (h.change)]),.i (m)] [(0,PL ETm (h.machs)),(1,PL EBd (h.buns)),(2,PL EP.int (h.trains))] (.t [.a (.q 0),.a (ai (0))]) [(0,PL (EP.sl EP.int) ((bpV h m).1))] := by
  have hC := houC hh
  have hm3 := hC.m
  refine Sig.intro Try.func12 rfl 3 [(0,.e (.g [.q 0,.q 1,.q 2,ai (h.change)])),(1,.i (m))] rfl w12 rfl rfl fun I w => ?_
  refine WP.seq (WP.region ?_)
  refine WPl.l 3 4 rfl rfl rfl (o_boxg rfl) ?_
  refine WPl.v rfl (o_assign rfl) ?_
  refine WPl.v rfl (o_assign rfl) ?_
  refine WPl.nil (EX.then (WP.seq (WP.seq ?_)))
  refine WP.draw (nf := 4) [⟨[10,11,12],[],[],[],[]⟩,⟨[9,11],[],[],[],[]⟩,⟨[9,10],[],[],[],[]⟩,⟨[9],[],[],[],[1,2]⟩,⟨[],[],[],[],[0,1,2,3]⟩,⟨[],[],[],[],[0,1,2,3,4]⟩] (by kernel_rfl) (by kernel_rfl) ?_
  refine DRQ.v rfl rfl rfl (o_ldpa G26 rfl rfl rfl) ?_
  refine DRQ.v rfl rfl rfl (o_ldpa G26 rfl rfl rfl) ?_
  refine DRQ.v rfl rfl rfl (o_move rfl) ?_
  refine DRQ.cs rfl rfl rfl rfl (o_sig 4 (ren [(0,0),(1,1),(2,2)]) (c31 h m (by omega)) e31 rfl rfl rfl w31 ⟨(lx rfl),(lx rfl),(lx rfl),trivial⟩ r31) ?_
  refine DRQ.cs rfl rfl rfl rfl (o_sig 4 (ren [(0,0),(1,1),(2,2)]) (c30 h (within m 0 ((h.machs.length : Int) - 1)) hm hh (by simp only [within,Bool.and_eq_true,decide_eq_true_eq]; omega)) e30 rfl rfl rfl w30 ⟨(lx rfl),(lx rfl),(lx rfl),trivial⟩ r30) ?_
  refine DRQ.v rfl rfl rfl (o_assign rfl) ?_
  refine DRQ.nil' ?_
  refine EX.then (WP.seq (WP.region ?_))
  refine WPl.v rfl (o_move rfl) ?_
  refine WPl.v rfl (o_neq rfl rfl) ?_
  refine WPl.nil (EX.then ?_)
  refine WP.cond rfl (fun hc1 => ?_) (fun hc1 => ?_)
  · try simp only [cnd] at hc1
    first | exact absurd trivial hc1 | exact absurd rfl hc1
  · try simp only [cnd] at hc1
    refine WP.skip (EX.then (WP.seq (WP.region ?_)))
    refine WPl.v rfl (o_ldpa G26 rfl rfl rfl) ?_
    refine WPl.v rfl (o_move rfl) ?_
    refine WPl.cs 5 rfl rfl rfl rfl (o_sig 4 (ren [(0,0),(1,1),(2,2)]) (c29 h m hC (by omega)) e29 rfl rfl rfl w29 ⟨(lx rfl),(lx rfl),(lx rfl),trivial⟩ r29) ?_
    refine WPl.v rfl (o_move rfl) ?_
    refine WPl.v rfl (o_extract rfl rfl) ?_
    refine WPl.v rfl (o_extract rfl rfl) ?_
    refine WPl.v rfl (o_assign rfl) ?_
    refine WPl.v rfl (o_assign rfl) ?_
    refine WPl.nil (EX.then (WP.seq (WP.region ?_)))
    refine WPl.v rfl (o_move rfl) ?_
    refine WPl.v rfl (o_assign rfl) ?_
    refine WPl.v rfl (o_assign rfl) ?_
    refine WPl.nil (EX.then (WP.ret ?_))
    exact EX.fin (ren [(0,4)]) (.inl rfl) rfl (.tmp rfl (.tmp rfl .nil)) rfl r12 ⟨(lx rfl),trivial⟩ (by simp) (by simp)
theorem w94 {h : Hall} {p : Plan} : ∀ x ∈ ([.e (.g [.q 0,.q 1,.q 2,ai (h.change)]),.e (.a (.q 3))] : List SV),x.res (keys (α := Pred) [(0,PL ETm (h.machs)),(1,PL EBd (h.buns)),(2,PL EP.int (h.trains)),(3,PL (EP.sl EP.int) (p))]) := by simp [SV.res,El.res,At.res,keys]
theorem r94  : SV.res (keys (α := Pred) []) (.i (0)) := by simp [SV.res,El.res,At.res,keys]
set_option maxHeartbeats 4000000 in
theorem c94 (h : Hall) (p : Plan) (hm : h.Small) (hc : h.chk = true) (hp : isPlanR h p = true) (hr : RowsP p) : Sig Try.prog 94 [.e (.g [.q 0,.q 1,.q 2,ai (h.change)]),.e (.a (.q 3))] [(0,PL ETm (h.machs)),(1,PL EBd (h.buns)),(2,PL EP.int (h.trains)),(3,PL (EP.sl EP.int) (p))] (.i (0)) [] := by
  have hh : h.house = true := by simp only [Hall.chk,Hall.hallHd,Bool.and_eq_true] at hc; exact hc.1.1.1.1.1
  refine Sig.intro Try.func94 rfl 4 [(0,.e (.g [.q 0,.q 1,.q 2,ai (h.change)])),(1,.e (.a (.q 3)))] rfl w94 rfl rfl fun I w => ?_
  refine WP.seq (WP.region ?_)
  refine WPl.l 4 5 rfl rfl rfl (o_boxg rfl) ?_
  refine WPl.v rfl (o_assign rfl) ?_
  refine WPl.nil (EX.then (WP.seq (WP.seq (WP.region ?_))))
  refine WPl.v rfl (o_ldpa G26 rfl rfl rfl) ?_
  refine WPl.cs 5 rfl rfl rfl rfl (o_sig 5 (ren [(0,0),(1,1),(2,2)]) (c26 h hm) e26 rfl rfl rfl w26 ⟨(lx rfl),(lx rfl),(lx rfl),trivial⟩ r26) ?_
  refine WPl.v rfl (o_assign rfl) ?_
  refine WPl.nil (EX.then (WP.seq (WP.region ?_)))
  refine WPl.v rfl (o_move rfl) ?_
  refine WPl.v rfl (o_neq rfl rfl) ?_
  refine WPl.nil (EX.then ?_)
  refine WP.cond rfl (fun hc1 => ?_) (fun hc1 => ?_)
  · try simp only [cnd] at hc1
    exact absurd (errH_eq.2 hh) hc1
  · try simp only [cnd] at hc1
    refine WP.skip (EX.then (WP.seq ?_))
    refine WP.draw (nf := 5) [⟨[12,13,14],[],[],[],[]⟩,⟨[11,13],[],[],[],[]⟩,⟨[11,12],[],[],[],[]⟩,⟨[11],[],[],[],[1,2]⟩,⟨[],[],[],[],[0,1,2,3]⟩,⟨[],[],[],[],[0,1,2,3,4]⟩] (by kernel_rfl) (by kernel_rfl) ?_
    refine DRQ.v rfl rfl rfl (o_ldpa G26 rfl rfl rfl) ?_
    refine DRQ.v rfl rfl rfl (o_ldpa G26 rfl rfl rfl) ?_
    refine DRQ.v rfl rfl rfl (o_move rfl) ?_
    refine DRQ.cs rfl rfl rfl rfl (o_sig 5 (ren [(0,0),(1,1),(2,2),(3,3)]) (c66 h p hc hp hr) e66 rfl rfl rfl w66 ⟨(lx rfl),(lx rfl),(lx rfl),(lx rfl),trivial⟩ r66) ?_
    refine DRQ.cs rfl rfl rfl rfl (o_sig 5 (ren [(0,0),(1,1),(2,2)]) (c30 h true hm hh rfl) e30 rfl rfl rfl w30 ⟨(lx rfl),(lx rfl),(lx rfl),trivial⟩ r30) ?_
    refine DRQ.v rfl rfl rfl (o_assign rfl) ?_
    refine DRQ.nil' ?_
    refine EX.then (WP.ret ?_)
    exact EX.fin id (.inl rfl) rfl (.tmp rfl .nil) rfl r94 trivial (by simp) (by simp)
theorem w75 {h : Hall} {p : Plan} : ∀ x ∈ ([.e (.g [.q 0,.q 1,.q 2,ai (h.change)]),.e (.a (.q 3))] : List SV),x.res (keys (α := Pred) [(0,PL ETm (h.machs)),(1,PL EBd (h.buns)),(2,PL EP.int (h.trains)),(3,PL (EP.sl EP.int) (p))]) := by simp [SV.res,El.res,At.res,keys]
theorem r75 {h : Hall} {p : Plan} : SV.res (keys (α := Pred) [(0,(PSl (lstTo (lateP h p) 4).length))]) (.t [.a (.q 0),.a (ai (0))]) := by simp [SV.res,El.res,At.res,keys]
set_option maxHeartbeats 4000000 in
theorem c75 (h : Hall) (p : Plan) (hm : h.Small) (hc : h.chk = true) (hp : isPlanR h p = true) (hr : RowsP p) (hb : PlB h p) : Sig Try.prog 75 [.e (.g [.q 0,.q 1,.q 2,ai (h.change)]),.e (.a (.q 3))] [(0,PL ETm (h.machs)),(1,PL EBd (h.buns)),(2,PL EP.int (h.trains)),(3,PL (EP.sl EP.int) (p))] (.t [.a (.q 0),.a (ai (0))]) [(0,(PSl (lstTo (lateP h p) 4).length))] := by
  have hh : h.house = true := by simp only [Hall.chk,Hall.hallHd,Bool.and_eq_true] at hc; exact hc.1.1.1.1.1
  have hC := houC hh
  refine Sig.intro Try.func75 rfl 4 [(0,.e (.g [.q 0,.q 1,.q 2,ai (h.change)])),(1,.e (.a (.q 3)))] rfl w75 rfl rfl fun I w => ?_
  refine WP.seq (WP.region ?_)
  refine WPl.l 4 5 rfl rfl rfl (o_boxg rfl) ?_
  refine WPl.v rfl (o_assign rfl) ?_
  refine WPl.v rfl (o_assign rfl) ?_
  refine WPl.nil (EX.then (WP.seq (WP.seq (WP.region ?_))))
  refine WPl.v rfl (o_ldpa G26 rfl rfl rfl) ?_
  refine WPl.v rfl (o_move rfl) ?_
  refine WPl.cs 5 rfl rfl rfl rfl (o_sig 5 (ren [(0,0),(1,1),(2,2),(3,3)]) (c94 h p hm hc hp hr) e94 rfl rfl rfl w94 ⟨(lx rfl),(lx rfl),(lx rfl),(lx rfl),trivial⟩ r94) ?_
  refine WPl.v rfl (o_assign rfl) ?_
  refine WPl.nil (EX.then (WP.seq (WP.region ?_)))
  refine WPl.v rfl (o_move rfl) ?_
  refine WPl.v rfl (o_neq rfl rfl) ?_
  refine WPl.nil (EX.then ?_)
  refine WP.cond rfl (fun hc1 => ?_) (fun hc1 => ?_)
  · try simp only [cnd] at hc1
    first | exact absurd trivial hc1 | exact absurd rfl hc1
  · try simp only [cnd] at hc1
    refine WP.skip (EX.then (WP.seq ?_))
    refine WP.draw (nf := 6) [⟨[14,15,16,17,18],[],[],[],[]⟩,⟨[13,15,16,17],[],[],[],[]⟩,⟨[13,14,16],[],[],[],[]⟩,⟨[13,14,15],[],[],[],[]⟩,⟨[13,14],[],[],[],[2,3]⟩,⟨[13],[],[],[],[1,2,3,4]⟩,⟨[],[],[],[],[0,1,2,3,4,5]⟩,⟨[],[],[5],[5],[0,1,2,3,4,5,6]⟩,⟨[],[],[],[],[0,1,2,3,4,5,6,7]⟩,⟨[],[],[],[],[0,1,2,3,4,5,6,7,8]⟩] (by kernel_rfl) (by kernel_rfl) ?_
    refine DRQ.v rfl rfl rfl (o_ldpa G26 rfl rfl rfl) ?_
    refine DRQ.v rfl rfl rfl (o_ldpa G26 rfl rfl rfl) ?_
    refine DRQ.v rfl rfl rfl (o_ldpa G26 rfl rfl rfl) ?_
    refine DRQ.v rfl rfl rfl (o_move rfl) ?_
    refine DRQ.cs rfl rfl rfl rfl (o_sig 5 (ren [(0,0),(1,1),(2,2),(3,3)]) (c86 h p hC hb) e86 rfl rfl rfl w86 ⟨(lx rfl),(lx rfl),(lx rfl),(lx rfl),trivial⟩ r86) ?_
    refine DRQ.cs rfl rfl rfl rfl (o_sig 5 (ren [(0,0),(1,1),(2,2)]) (c85 h (outTo h p p.length) hC (outTo_len _ _ _)) e85 rfl rfl rfl w85 ⟨(lx rfl),(lx rfl),(lx rfl),trivial⟩ r85) ?_
    refine DRQ.cs rfl rfl rfl rfl (o_sig 5 (ren [(0,0),(1,1),(2,2)]) (c62 h (rdTo h (outTo h p p.length) h.buns.length) hC (rdyL_len _ _)) e62 rfl rfl rfl w62 ⟨(lx rfl),(lx rfl),(lx rfl),trivial⟩ r62) ?_
    refine DRQ.cs rfl rfl rfl rfl (o_sig 5 id (c95 (latM h (rdyL h p)) (lateP_b hC p)) e95 rfl rfl rfl w95 trivial r95) ?_
    refine DRQ.v rfl rfl rfl (o_assign rfl) ?_
    refine DRQ.v rfl rfl rfl (o_assign rfl) ?_
    refine DRQ.nil' ?_
    refine EX.then (WP.ret ?_)
    exact EX.fin (ren [(0,5)]) (.inl rfl) rfl (.tmp rfl (.tmp rfl .nil)) rfl r75 ⟨(Has.of (lx rfl) PSl.of),trivial⟩ (by simp) (by simp)
end Go.Flong
namespace Go.Flong
open Go Go.Eng Go.Proofs
theorem e75 : Enters' Try.prog 75 := Try.call75
theorem S116 : TyS Try.prog 116 := ⟨Try.isAgg116,Try.sizeOf116⟩
theorem Q3 : FlatT Try.prog 3 1 1 false := .int Try.underlying3 S3
theorem Q79 : FlatT Try.prog 79 3 2 true := .array Try.underlying79 G79 Q3
theorem Q81 : FlatT Try.prog 81 12 3 true := .arrayG Try.underlying81 G81 (by decide) Q79
theorem M116 : MapT Try.prog 116 12 3 true := .struct Try.underlying116 (by simp only [Try.underlying81]) Q81 rfl Try.zeroValue3
theorem S117 : TyS Try.prog 117 := ⟨Try.isAgg117,Try.sizeOf117⟩
theorem w74 {n1 : Nat} {I0 : IH} {B0 b : Nat} {h : Hall} {stop : Int} {k m : Nat} {u : Nat} : ∀ x ∈ ([.i ((m : Int)),.i ((u : Int)),.e (.a (.q 0)),.e (.a (.q 1)),.e (.a (.q 2)),.e (.a (.q 3)),.e (.a (.q 4))] : List SV),x.res (keys (α := Pred) [(0,PP (EP.box (Pred.is (rowsV B0 h.machs.length))) ()),(1,PP EHa (h)),(2,PP (EP.box (Pred.is (.map (some b)))) ()),(3,PP (EP.box (PlanH (Try.prog) (n1 := n1) I0 B0 b h stop k)) ()),(4,PP EP.int (stop))]) := by simp [SV.res,El.res,At.res,keys]
set_option maxHeartbeats 4000000 in
theorem c74 (n1 : Nat) (I0 : IH) (B0 b : Nat) (h : Hall) (stop : Int) (k m : Nat) (p : Plan) (u : Nat) (l : MapL) (hm : h.Small) (hc : h.chk = true) (hst : -1 ≤ stop ∧ stop ≤ 100) (hk : okN h.machs.length h.buns.length stop (k + 1) (m,p,u,l)) : SigH Try.prog 74 [.i ((m : Int)),.i ((u : Int)),.e (.a (.q 0)),.e (.a (.q 1)),.e (.a (.q 2)),.e (.a (.q 3)),.e (.a (.q 4))] [(0,PP (EP.box (Pred.is (rowsV B0 h.machs.length))) ()),(1,PP EHa (h)),(2,PP (EP.box (Pred.is (.map (some b)))) ()),(3,PP (EP.box (PlanH (Try.prog) (n1 := n1) I0 B0 b h stop k)) ()),(4,PP EP.int (stop))] I0 (plH (n1 := n1) B0 h.machs.length b p l) (plH (n1 := n1) B0 h.machs.length b p (vis h l (plansF h.machs.length h.buns.length stop (k + 1) m p))) := by
  have hh : h.house = true := by simp only [Hall.chk,Hall.hallHd,Bool.and_eq_true] at hc; exact hc.1.1.1.1.1
  have hC := houC hh
  have hm1 : m ≤ h.machs.length := hk.m1
  have hpI : PlanI h.machs.length h.buns.length p := hk.p1
  have hku : MaskIs u p.flatten := hk.u1
  have hnd : p.flatten.Nodup := hk.d1
  have hbu : Bud l (plansF h.machs.length h.buns.length stop (k + 1) m p).length := hk.b1
  have hpn : h.machs.length = p.length := hpI.len.symm
  have hb5 := hC.b
  have hm3 := hC.m
  have hip := planI_is hpI hnd
  have hir := planI_rows hpI (by omega)
  refine SigH.intro Try.func74 rfl 6 5 [(0,.i ((m : Int))),(1,.i ((u : Int))),(2,.e (.a (.q 0))),(3,.e (.a (.q 1))),(4,.e (.a (.q 2))),(5,.e (.a (.q 3))),(6,.e (.a (.q 4)))] rfl w74 rfl rfl rfl fun I w F hI0 hn1 hE0 => ?_
  have hE : ∀ c,F c → F c := fun _ h => h
  refine WP.seq (WP.seq (WP.region ?_))
  refine WPl.v rfl (o_move rfl) ?_
  refine WPl.v rfl (o_ldqis S27 rfl (lx rfl)) ?_
  refine WPl.v rfl (o_lenr L27 rfl) ?_
  refine WPl.v rfl (o_eql rfl rfl) ?_
  refine WPl.nil (EX.then ?_)
  refine WP.cond rfl (fun hc1 => ?_) (fun hc1 => ?_)
  · try simp only [cnd] at hc1
    have hmn : m = h.machs.length := by omega
    have hlb := lst_ok (lateP_b hC p)
    have hbk := hbu (key12 (needL h p))
    unfold key12 at hbk
    have hl1 : 1 ≤ (plansF h.machs.length h.buns.length stop (k + 1) m p).length := by rw [hmn,plansF_leaf]; exact Nat.le_refl _
    refine WP.seq (WP.seq (WP.region ?_))
    refine WPl.openY (ky := 5) (m := 8) (Y := noneY n1) (x := plX B0 24 3 h.machs.length p) (y := fun _ => mapSP true 12 b l) (hx := fun _ => ⟨rowsXP.fine,mapSP.fine⟩) 6 7 rfl rfl rfl rfl fun F1 rv1 hA1 hB1 _ _ => ?_
    have hEo : ∀ c,F c → F1 c ∨ n1 ≤ c := fun c hc => hB1 c (hE c hc)
    refine WPl.imp (Imp.nam 8 9 (rowsV B0 h.machs.length) (R := Pred.is (rowsV B0 h.machs.length)) (fun _ => rfl) rfl rfl) ?_
    refine WPl.v rfl (o_fldq F75_0 rfl (lx rfl)) ?_
    refine WPl.v rfl (o_flde F29_0 rfl (lx rfl)) ?_
    refine WPl.cs 12 rfl rfl rfl rfl (o_ldem (cs0 := [.q 9,.q 10,.q 11,ai (h.change)]) (X' := [(9,PL ETm (h.machs)),(10,PL EBd (h.buns)),(11,PL EP.int (h.trains))]) 9 G26 rfl (lx rfl) rfl rfl rfl) ?_
    refine WPl.v rfl (o_ldqis S27 rfl (lx rfl)) ?_
    refine WPl.cs 13 rfl rfl rfl rfl (o_sigbc 12 (ren [(0,9),(1,10),(2,11),(3,8)]) (Sig.freeP psl_free (c75 h p hm hc hip hir hpI.plB)) e75 rfl rfl ⟨.inl rfl,.inr ⟨_,_,rfl,fun _ => rfl,(lx rfl)⟩,trivial⟩ w75 ⟨.x (lx rfl),.x (lx rfl),.x (lx rfl),.mem (kp := 6) (lx rfl) rfl (rows_pl hpn),trivial⟩ r75) ?_
    refine WPl.v rfl (o_move rfl) ?_
    refine WPl.v rfl (o_extract rfl rfl) ?_
    refine WPl.v rfl (o_extract rfl rfl) ?_
    refine WPl.v rfl (o_assign rfl) ?_
    refine WPl.v rfl (o_assign rfl) ?_
    refine WPl.nil (EX.then (WP.seq (WP.region ?_)))
    refine WPl.v rfl (o_move rfl) ?_
    refine WPl.v rfl (o_lenS L24 rfl (lx rfl)) ?_
    refine WPl.v rfl (o_eql rfl rfl) ?_
    refine WPl.nil (EX.then ?_)
    refine WP.cond rfl (fun hc2 => ?_) (fun hc2 => ?_)
    · try simp only [cnd] at hc2
      have hl0 : lateP h p = 0 := hlb.1.1 (by omega)
      refine WP.tree (S' := ⟨18,[(0,.i ((m : Int))),(1,.i ((u : Int))),(2,.e (.a (.q 0))),(3,.e (.a (.q 1))),(4,.e (.a (.q 2))),(5,.e (.a (.q 3))),(6,.e (.a (.q 4))),(12,.i ((m : Int))),(13,.e (.a (.v (rowsV B0 h.machs.length)))),(14,.i ((h.machs.length : Int))),(15,.b (decide ((m : Int) = (h.machs.length : Int)))),(17,.e (.a (.e 1 (0)))),(18,.e (.a (.e 1 (0)))),(19,.e (.g [.q 9,.q 10,.q 11,ai (h.change)])),(20,.e (.a (.v (rowsV B0 h.machs.length)))),(21,.t [.a (.q 12),.a (ai (0))]),(16,.t [.a (.q 12),.a (ai (0))]),(22,.e (.a (.q 12))),(23,.i (0)),(9,.e (.a (.q 12))),(10,.i (0)),(24,.e (.a (.q 12))),(25,.i ((((lstTo (lateP h p) 4).length) : Int))),(26,.b (decide ((((lstTo (lateP h p) 4).length) : Int) = 0))),(27,.e (.a (.v (.map (some b))))),(28,.e (.g [.q 13,.q 14,.q 15,ai (h.change),.q 16,.q 17])),(29,.e (.a (.v (rowsV B0 h.machs.length)))),(30,.e (.g [ai (nth (needL h p) 0),ai (nth (needL h p) 1),ai (nth (needL h p) 2),ai (nth (needL h p) 3),ai (nth (needL h p) 4),ai (nth (needL h p) 5),ai (nth (needL h p) 6),ai (nth (needL h p) 7),ai (nth (needL h p) 8),ai (nth (needL h p) 9),ai (nth (needL h p) 10),ai (nth (needL h p) 11)])),(31,.i ((mget l [nth (needL h p) 0,nth (needL h p) 1,nth (needL h p) 2,nth (needL h p) 3,nth (needL h p) 4,nth (needL h p) 5,nth (needL h p) 6,nth (needL h p) 7,nth (needL h p) 8,nth (needL h p) 9,nth (needL h p) 10,nth (needL h p) 11]).getD 0)),(32,.i (((mget l [nth (needL h p) 0,nth (needL h p) 1,nth (needL h p) 2,nth (needL h p) 3,nth (needL h p) 4,nth (needL h p) 5,nth (needL h p) 6,nth (needL h p) 7,nth (needL h p) 8,nth (needL h p) 9,nth (needL h p) 10,nth (needL h p) 11]).getD 0) + 1)),(33,.t [.a (ai ((mget l [nth (needL h p) 0,nth (needL h p) 1,nth (needL h p) 2,nth (needL h p) 3,nth (needL h p) 4,nth (needL h p) 5,nth (needL h p) 6,nth (needL h p) 7,nth (needL h p) 8,nth (needL h p) 9,nth (needL h p) 10,nth (needL h p) 11]).getD 0)),.a (ai ((midx l [nth (needL h p) 0,nth (needL h p) 1,nth (needL h p) 2,nth (needL h p) 3,nth (needL h p) 4,nth (needL h p) 5,nth (needL h p) 6,nth (needL h p) 7,nth (needL h p) 8,nth (needL h p) 9,nth (needL h p) 10,nth (needL h p) 11] : Int)))]),(34,.i ((midx l [nth (needL h p) 0,nth (needL h p) 1,nth (needL h p) 2,nth (needL h p) 3,nth (needL h p) 4,nth (needL h p) 5,nth (needL h p) 6,nth (needL h p) 7,nth (needL h p) 8,nth (needL h p) 9,nth (needL h p) 10,nth (needL h p) 11] : Int)))],[(0,PP (EP.box (Pred.is (rowsV B0 h.machs.length))) ()),(1,PP EHa (h)),(2,PP (EP.box (Pred.is (.map (some b)))) ()),(3,PP (EP.box (PlanH (Try.prog) (n1 := n1) I0 B0 b h stop k)) ()),(4,PP EP.int (stop)),(8,Pred.is (rowsV B0 h.machs.length)),(9,PL ETm (h.machs)),(10,PL EBd (h.buns)),(11,PL EP.int (h.trains)),(12,(PSl ((lstTo (lateP h p) 4).length))),(13,PL ETm (h.machs)),(14,PL EBd (h.buns)),(15,PL EP.int (h.trains)),(16,PL EP.int (h.bores)),(17,PL (EP.sl EP.int) (h.eds))],[(6,.ext (rowsXP B0 24 3 rv1.1 p none)),(7,.ext (mapSP true 12 b (mset l [nth (needL h p) 0,nth (needL h p) 1,nth (needL h p) 2,nth (needL h p) 3,nth (needL h p) 4,nth (needL h p) 5,nth (needL h p) 6,nth (needL h p) 7,nth (needL h p) 8,nth (needL h p) 9,nth (needL h p) 10,nth (needL h p) 11] (((mget l [nth (needL h p) 0,nth (needL h p) 1,nth (needL h p) 2,nth (needL h p) 3,nth (needL h p) 4,nth (needL h p) 5,nth (needL h p) 6,nth (needL h p) 7,nth (needL h p) 8,nth (needL h p) 9,nth (needL h p) 10,nth (needL h p) 11]).getD 0) + 1)))),(5,.ext ((noneY n1).xp F1))],[],[]⟩) (by kernel_rfl) (fun Q hQ => ?_) ?_
      · skip
        refine AnyS.cut 5 #[true,true,true,true,false,false,false,false,false] ⟨18,[(0,.i ((m : Int))),(1,.i ((u : Int))),(2,.e (.a (.q 0))),(3,.e (.a (.q 1))),(4,.e (.a (.q 2))),(5,.e (.a (.q 3))),(6,.e (.a (.q 4))),(12,.i ((m : Int))),(13,.e (.a (.v (rowsV B0 h.machs.length)))),(14,.i ((h.machs.length : Int))),(15,.b (decide ((m : Int) = (h.machs.length : Int)))),(17,.e (.a (.e 1 (0)))),(18,.e (.a (.e 1 (0)))),(19,.e (.g [.q 9,.q 10,.q 11,ai (h.change)])),(20,.e (.a (.v (rowsV B0 h.machs.length)))),(21,.t [.a (.q 12),.a (ai (0))]),(16,.t [.a (.q 12),.a (ai (0))]),(22,.e (.a (.q 12))),(23,.i (0)),(9,.e (.a (.q 12))),(10,.i (0)),(24,.e (.a (.q 12))),(25,.i ((((lstTo (lateP h p) 4).length) : Int))),(26,.b (decide ((((lstTo (lateP h p) 4).length) : Int) = 0))),(27,.e (.a (.v (.map (some b))))),(28,.e (.g [.q 13,.q 14,.q 15,ai (h.change),.q 16,.q 17])),(29,.e (.a (.v (rowsV B0 h.machs.length)))),(30,.e (.g [ai (nth (needL h p) 0),ai (nth (needL h p) 1),ai (nth (needL h p) 2),ai (nth (needL h p) 3),ai (nth (needL h p) 4),ai (nth (needL h p) 5),ai (nth (needL h p) 6),ai (nth (needL h p) 7),ai (nth (needL h p) 8),ai (nth (needL h p) 9),ai (nth (needL h p) 10),ai (nth (needL h p) 11)]))],[(0,PP (EP.box (Pred.is (rowsV B0 h.machs.length))) ()),(1,PP EHa (h)),(2,PP (EP.box (Pred.is (.map (some b)))) ()),(3,PP (EP.box (PlanH (Try.prog) (n1 := n1) I0 B0 b h stop k)) ()),(4,PP EP.int (stop)),(8,Pred.is (rowsV B0 h.machs.length)),(9,PL ETm (h.machs)),(10,PL EBd (h.buns)),(11,PL EP.int (h.trains)),(12,(PSl ((lstTo (lateP h p) 4).length))),(13,PL ETm (h.machs)),(14,PL EBd (h.buns)),(15,PL EP.int (h.trains)),(16,PL EP.int (h.bores)),(17,PL (EP.sl EP.int) (h.eds))],[(6,.ext (rowsXP B0 24 3 rv1.1 p none)),(7,.ext (mapSP true 12 b (l))),(5,.ext ((noneY n1).xp F1))],[],[]⟩ ?_ fun hcut4 => ?_
        · skip
          refine AnyS.step 4 [6] (by kernel_rfl) ⟨?_,?_,trivial⟩
          · refine StepS.v rfl rfl (o_lookSv (v := (mget l [nth (needL h p) 0,nth (needL h p) 1,nth (needL h p) 2,nth (needL h p) 3,nth (needL h p) 4,nth (needL h p) 5,nth (needL h p) 6,nth (needL h p) 7,nth (needL h p) 8,nth (needL h p) 9,nth (needL h p) 10,nth (needL h p) 11]).getD 0) (km := 7) (a := [nth (needL h p) 0,nth (needL h p) 1,nth (needL h p) 2,nth (needL h p) 3,nth (needL h p) 4,nth (needL h p) 5,nth (needL h p) 6,nth (needL h p) 7,nth (needL h p) 8,nth (needL h p) 9,nth (needL h p) 10,nth (needL h p) 11]) M116 rfl rfl isKey.g rfl rfl rfl) ?_
            refine AnyS.step 5 [6] (by kernel_rfl) ⟨?_,?_,trivial⟩
            · refine StepS.v rfl rfl (o_add rfl rfl (by first | omega | (simp; omega)) (by first | omega | (simp; omega))) ?_
              refine AnyS.step 6 [] (by kernel_rfl) ⟨?_,trivial⟩
              refine StepS.vl rfl rfl (o_entry (km := 7) (a := [nth (needL h p) 0,nth (needL h p) 1,nth (needL h p) 2,nth (needL h p) 3,nth (needL h p) 4,nth (needL h p) 5,nth (needL h p) 6,nth (needL h p) 7,nth (needL h p) 8,nth (needL h p) 9,nth (needL h p) 10,nth (needL h p) 11]) M116 rfl rfl isKey.g rfl rfl) ?_
              refine AnyS.step 7 [] (by kernel_rfl) ⟨?_,trivial⟩
              refine StepS.v rfl rfl (o_extract rfl rfl) ?_
              refine AnyS.step 8 [] (by kernel_rfl) ⟨?_,trivial⟩
              refine StepS.s rfl (o_estore (km := 7) (a := [nth (needL h p) 0,nth (needL h p) 1,nth (needL h p) 2,nth (needL h p) 3,nth (needL h p) 4,nth (needL h p) 5,nth (needL h p) 6,nth (needL h p) 7,nth (needL h p) 8,nth (needL h p) 9,nth (needL h p) 10,nth (needL h p) 11]) (u := (mget l [nth (needL h p) 0,nth (needL h p) 1,nth (needL h p) 2,nth (needL h p) 3,nth (needL h p) 4,nth (needL h p) 5,nth (needL h p) 6,nth (needL h p) 7,nth (needL h p) 8,nth (needL h p) 9,nth (needL h p) 10,nth (needL h p) 11]).getD 0) rfl rfl rfl rfl) ?_
              exact AnyS.done (by kernel_rfl) (EX.sub hQ (AllLk.c rfl (AllLk.c rfl (AllLk.c rfl (AllLk.c rfl (AllLk.c rfl (AllLk.c rfl (AllLk.c rfl (AllLk.c rfl (AllLk.c rfl (AllLk.c rfl (AllLk.c rfl (AllLk.c rfl (AllLk.c rfl (AllLk.c rfl (AllLk.c rfl (AllLk.c rfl (AllLk.c rfl (AllLk.c rfl (AllLk.c rfl (AllLk.c rfl (AllLk.c rfl (AllLk.c rfl (AllLk.c rfl (AllLk.c rfl (AllLk.c rfl (AllLk.c rfl (AllLk.c rfl (AllLk.c rfl (AllLk.c rfl (AllLk.c rfl (AllLk.c rfl (AllLk.c rfl AllLk.n)))))))))))))))))))))))))))))))) (AllLk.c rfl (AllLk.c rfl (AllLk.c rfl (AllLk.c rfl (AllLk.c rfl (AllLk.c rfl (AllLk.c rfl (AllLk.c rfl (AllLk.c rfl (AllLk.c rfl (AllLk.c rfl (AllLk.c rfl (AllLk.c rfl (AllLk.c rfl (AllLk.c rfl AllLk.n))))))))))))))) (AllLk.c rfl (AllLk.c rfl (AllLk.c rfl AllLk.n))) rfl rfl AllLk.n)
            · refine StepS.vl rfl rfl (o_entry (km := 7) (a := [nth (needL h p) 0,nth (needL h p) 1,nth (needL h p) 2,nth (needL h p) 3,nth (needL h p) 4,nth (needL h p) 5,nth (needL h p) 6,nth (needL h p) 7,nth (needL h p) 8,nth (needL h p) 9,nth (needL h p) 10,nth (needL h p) 11]) M116 rfl rfl isKey.g rfl rfl) ?_
              refine AnyS.step 5 [7] (by kernel_rfl) ⟨?_,?_,trivial⟩
              · refine StepS.v rfl rfl (o_add rfl rfl (by first | omega | (simp; omega)) (by first | omega | (simp; omega))) ?_
                refine AnyS.step 7 [] (by kernel_rfl) ⟨?_,trivial⟩
                refine StepS.v rfl rfl (o_extract rfl rfl) ?_
                refine AnyS.step 8 [] (by kernel_rfl) ⟨?_,trivial⟩
                refine StepS.s rfl (o_estore (km := 7) (a := [nth (needL h p) 0,nth (needL h p) 1,nth (needL h p) 2,nth (needL h p) 3,nth (needL h p) 4,nth (needL h p) 5,nth (needL h p) 6,nth (needL h p) 7,nth (needL h p) 8,nth (needL h p) 9,nth (needL h p) 10,nth (needL h p) 11]) (u := (mget l [nth (needL h p) 0,nth (needL h p) 1,nth (needL h p) 2,nth (needL h p) 3,nth (needL h p) 4,nth (needL h p) 5,nth (needL h p) 6,nth (needL h p) 7,nth (needL h p) 8,nth (needL h p) 9,nth (needL h p) 10,nth (needL h p) 11]).getD 0) rfl rfl rfl rfl) ?_
                exact AnyS.done (by kernel_rfl) (EX.sub hQ (AllLk.c rfl (AllLk.c rfl (AllLk.c rfl (AllLk.c rfl (AllLk.c rfl (AllLk.c rfl (AllLk.c rfl (AllLk.c rfl (AllLk.c rfl (AllLk.c rfl (AllLk.c rfl (AllLk.c rfl (AllLk.c rfl (AllLk.c rfl (AllLk.c rfl (AllLk.c rfl (AllLk.c rfl (AllLk.c rfl (AllLk.c rfl (AllLk.c rfl (AllLk.c rfl (AllLk.c rfl (AllLk.c rfl (AllLk.c rfl (AllLk.c rfl (AllLk.c rfl (AllLk.c rfl (AllLk.c rfl (AllLk.c rfl (AllLk.c rfl (AllLk.c rfl (AllLk.c rfl AllLk.n)))))))))))))))))))))))))))))))) (AllLk.c rfl (AllLk.c rfl (AllLk.c rfl (AllLk.c rfl (AllLk.c rfl (AllLk.c rfl (AllLk.c rfl (AllLk.c rfl (AllLk.c rfl (AllLk.c rfl (AllLk.c rfl (AllLk.c rfl (AllLk.c rfl (AllLk.c rfl (AllLk.c rfl AllLk.n))))))))))))))) (AllLk.c rfl (AllLk.c rfl (AllLk.c rfl AllLk.n))) rfl rfl AllLk.n)
              · refine StepS.v rfl rfl (o_extract rfl rfl) ?_
                refine AnyS.step 5 [] (by kernel_rfl) ⟨?_,trivial⟩
                refine StepS.v rfl rfl (o_add rfl rfl (by first | omega | (simp; omega)) (by first | omega | (simp; omega))) ?_
                refine AnyS.step 8 [] (by kernel_rfl) ⟨?_,trivial⟩
                refine StepS.s rfl (o_estore (km := 7) (a := [nth (needL h p) 0,nth (needL h p) 1,nth (needL h p) 2,nth (needL h p) 3,nth (needL h p) 4,nth (needL h p) 5,nth (needL h p) 6,nth (needL h p) 7,nth (needL h p) 8,nth (needL h p) 9,nth (needL h p) 10,nth (needL h p) 11]) (u := (mget l [nth (needL h p) 0,nth (needL h p) 1,nth (needL h p) 2,nth (needL h p) 3,nth (needL h p) 4,nth (needL h p) 5,nth (needL h p) 6,nth (needL h p) 7,nth (needL h p) 8,nth (needL h p) 9,nth (needL h p) 10,nth (needL h p) 11]).getD 0) rfl rfl rfl rfl) ?_
                exact AnyS.done (by kernel_rfl) (EX.sub hQ (AllLk.c rfl (AllLk.c rfl (AllLk.c rfl (AllLk.c rfl (AllLk.c rfl (AllLk.c rfl (AllLk.c rfl (AllLk.c rfl (AllLk.c rfl (AllLk.c rfl (AllLk.c rfl (AllLk.c rfl (AllLk.c rfl (AllLk.c rfl (AllLk.c rfl (AllLk.c rfl (AllLk.c rfl (AllLk.c rfl (AllLk.c rfl (AllLk.c rfl (AllLk.c rfl (AllLk.c rfl (AllLk.c rfl (AllLk.c rfl (AllLk.c rfl (AllLk.c rfl (AllLk.c rfl (AllLk.c rfl (AllLk.c rfl (AllLk.c rfl (AllLk.c rfl (AllLk.c rfl AllLk.n)))))))))))))))))))))))))))))))) (AllLk.c rfl (AllLk.c rfl (AllLk.c rfl (AllLk.c rfl (AllLk.c rfl (AllLk.c rfl (AllLk.c rfl (AllLk.c rfl (AllLk.c rfl (AllLk.c rfl (AllLk.c rfl (AllLk.c rfl (AllLk.c rfl (AllLk.c rfl (AllLk.c rfl AllLk.n))))))))))))))) (AllLk.c rfl (AllLk.c rfl (AllLk.c rfl AllLk.n))) rfl rfl AllLk.n)
          · refine StepS.vl rfl rfl (o_entry (km := 7) (a := [nth (needL h p) 0,nth (needL h p) 1,nth (needL h p) 2,nth (needL h p) 3,nth (needL h p) 4,nth (needL h p) 5,nth (needL h p) 6,nth (needL h p) 7,nth (needL h p) 8,nth (needL h p) 9,nth (needL h p) 10,nth (needL h p) 11]) M116 rfl rfl isKey.g rfl rfl) ?_
            refine AnyS.step 4 [7] (by kernel_rfl) ⟨?_,?_,trivial⟩
            · refine StepS.v rfl rfl (o_lookSv (v := (mget l [nth (needL h p) 0,nth (needL h p) 1,nth (needL h p) 2,nth (needL h p) 3,nth (needL h p) 4,nth (needL h p) 5,nth (needL h p) 6,nth (needL h p) 7,nth (needL h p) 8,nth (needL h p) 9,nth (needL h p) 10,nth (needL h p) 11]).getD 0) (km := 7) (a := [nth (needL h p) 0,nth (needL h p) 1,nth (needL h p) 2,nth (needL h p) 3,nth (needL h p) 4,nth (needL h p) 5,nth (needL h p) 6,nth (needL h p) 7,nth (needL h p) 8,nth (needL h p) 9,nth (needL h p) 10,nth (needL h p) 11]) M116 rfl rfl isKey.g rfl rfl (mget_self _ _ _)) ?_
              refine AnyS.step 5 [7] (by kernel_rfl) ⟨?_,?_,trivial⟩
              · refine StepS.v rfl rfl (o_add rfl rfl (by first | omega | (simp; omega)) (by first | omega | (simp; omega))) ?_
                refine AnyS.step 7 [] (by kernel_rfl) ⟨?_,trivial⟩
                refine StepS.v rfl rfl (o_extract rfl rfl) ?_
                refine AnyS.step 8 [] (by kernel_rfl) ⟨?_,trivial⟩
                refine StepS.s rfl (o_estore (km := 7) (a := [nth (needL h p) 0,nth (needL h p) 1,nth (needL h p) 2,nth (needL h p) 3,nth (needL h p) 4,nth (needL h p) 5,nth (needL h p) 6,nth (needL h p) 7,nth (needL h p) 8,nth (needL h p) 9,nth (needL h p) 10,nth (needL h p) 11]) (u := (mget l [nth (needL h p) 0,nth (needL h p) 1,nth (needL h p) 2,nth (needL h p) 3,nth (needL h p) 4,nth (needL h p) 5,nth (needL h p) 6,nth (needL h p) 7,nth (needL h p) 8,nth (needL h p) 9,nth (needL h p) 10,nth (needL h p) 11]).getD 0) rfl rfl rfl rfl) ?_
                exact AnyS.done (by kernel_rfl) (EX.sub hQ (AllLk.c rfl (AllLk.c rfl (AllLk.c rfl (AllLk.c rfl (AllLk.c rfl (AllLk.c rfl (AllLk.c rfl (AllLk.c rfl (AllLk.c rfl (AllLk.c rfl (AllLk.c rfl (AllLk.c rfl (AllLk.c rfl (AllLk.c rfl (AllLk.c rfl (AllLk.c rfl (AllLk.c rfl (AllLk.c rfl (AllLk.c rfl (AllLk.c rfl (AllLk.c rfl (AllLk.c rfl (AllLk.c rfl (AllLk.c rfl (AllLk.c rfl (AllLk.c rfl (AllLk.c rfl (AllLk.c rfl (AllLk.c rfl (AllLk.c rfl (AllLk.c rfl (AllLk.c rfl AllLk.n)))))))))))))))))))))))))))))))) (AllLk.c rfl (AllLk.c rfl (AllLk.c rfl (AllLk.c rfl (AllLk.c rfl (AllLk.c rfl (AllLk.c rfl (AllLk.c rfl (AllLk.c rfl (AllLk.c rfl (AllLk.c rfl (AllLk.c rfl (AllLk.c rfl (AllLk.c rfl (AllLk.c rfl AllLk.n))))))))))))))) (AllLk.c rfl (AllLk.c rfl (AllLk.c rfl AllLk.n))) rfl rfl AllLk.n)
              · refine StepS.v rfl rfl (o_extract rfl rfl) ?_
                refine AnyS.step 5 [] (by kernel_rfl) ⟨?_,trivial⟩
                refine StepS.v rfl rfl (o_add rfl rfl (by first | omega | (simp; omega)) (by first | omega | (simp; omega))) ?_
                refine AnyS.step 8 [] (by kernel_rfl) ⟨?_,trivial⟩
                refine StepS.s rfl (o_estore (km := 7) (a := [nth (needL h p) 0,nth (needL h p) 1,nth (needL h p) 2,nth (needL h p) 3,nth (needL h p) 4,nth (needL h p) 5,nth (needL h p) 6,nth (needL h p) 7,nth (needL h p) 8,nth (needL h p) 9,nth (needL h p) 10,nth (needL h p) 11]) (u := (mget l [nth (needL h p) 0,nth (needL h p) 1,nth (needL h p) 2,nth (needL h p) 3,nth (needL h p) 4,nth (needL h p) 5,nth (needL h p) 6,nth (needL h p) 7,nth (needL h p) 8,nth (needL h p) 9,nth (needL h p) 10,nth (needL h p) 11]).getD 0) rfl rfl rfl rfl) ?_
                exact AnyS.done (by kernel_rfl) (EX.sub hQ (AllLk.c rfl (AllLk.c rfl (AllLk.c rfl (AllLk.c rfl (AllLk.c rfl (AllLk.c rfl (AllLk.c rfl (AllLk.c rfl (AllLk.c rfl (AllLk.c rfl (AllLk.c rfl (AllLk.c rfl (AllLk.c rfl (AllLk.c rfl (AllLk.c rfl (AllLk.c rfl (AllLk.c rfl (AllLk.c rfl (AllLk.c rfl (AllLk.c rfl (AllLk.c rfl (AllLk.c rfl (AllLk.c rfl (AllLk.c rfl (AllLk.c rfl (AllLk.c rfl (AllLk.c rfl (AllLk.c rfl (AllLk.c rfl (AllLk.c rfl (AllLk.c rfl (AllLk.c rfl AllLk.n)))))))))))))))))))))))))))))))) (AllLk.c rfl (AllLk.c rfl (AllLk.c rfl (AllLk.c rfl (AllLk.c rfl (AllLk.c rfl (AllLk.c rfl (AllLk.c rfl (AllLk.c rfl (AllLk.c rfl (AllLk.c rfl (AllLk.c rfl (AllLk.c rfl (AllLk.c rfl (AllLk.c rfl AllLk.n))))))))))))))) (AllLk.c rfl (AllLk.c rfl (AllLk.c rfl AllLk.n))) rfl rfl AllLk.n)
            · refine StepS.v rfl rfl (o_extract rfl rfl) ?_
              refine AnyS.step 4 [] (by kernel_rfl) ⟨?_,trivial⟩
              refine StepS.v rfl rfl (o_lookSv (v := (mget l [nth (needL h p) 0,nth (needL h p) 1,nth (needL h p) 2,nth (needL h p) 3,nth (needL h p) 4,nth (needL h p) 5,nth (needL h p) 6,nth (needL h p) 7,nth (needL h p) 8,nth (needL h p) 9,nth (needL h p) 10,nth (needL h p) 11]).getD 0) (km := 7) (a := [nth (needL h p) 0,nth (needL h p) 1,nth (needL h p) 2,nth (needL h p) 3,nth (needL h p) 4,nth (needL h p) 5,nth (needL h p) 6,nth (needL h p) 7,nth (needL h p) 8,nth (needL h p) 9,nth (needL h p) 10,nth (needL h p) 11]) M116 rfl rfl isKey.g rfl rfl (mget_self _ _ _)) ?_
              refine AnyS.step 5 [] (by kernel_rfl) ⟨?_,trivial⟩
              refine StepS.v rfl rfl (o_add rfl rfl (by first | omega | (simp; omega)) (by first | omega | (simp; omega))) ?_
              refine AnyS.step 8 [] (by kernel_rfl) ⟨?_,trivial⟩
              refine StepS.s rfl (o_estore (km := 7) (a := [nth (needL h p) 0,nth (needL h p) 1,nth (needL h p) 2,nth (needL h p) 3,nth (needL h p) 4,nth (needL h p) 5,nth (needL h p) 6,nth (needL h p) 7,nth (needL h p) 8,nth (needL h p) 9,nth (needL h p) 10,nth (needL h p) 11]) (u := (mget l [nth (needL h p) 0,nth (needL h p) 1,nth (needL h p) 2,nth (needL h p) 3,nth (needL h p) 4,nth (needL h p) 5,nth (needL h p) 6,nth (needL h p) 7,nth (needL h p) 8,nth (needL h p) 9,nth (needL h p) 10,nth (needL h p) 11]).getD 0) rfl rfl rfl rfl) ?_
              exact AnyS.done (by kernel_rfl) (EX.sub hQ (AllLk.c rfl (AllLk.c rfl (AllLk.c rfl (AllLk.c rfl (AllLk.c rfl (AllLk.c rfl (AllLk.c rfl (AllLk.c rfl (AllLk.c rfl (AllLk.c rfl (AllLk.c rfl (AllLk.c rfl (AllLk.c rfl (AllLk.c rfl (AllLk.c rfl (AllLk.c rfl (AllLk.c rfl (AllLk.c rfl (AllLk.c rfl (AllLk.c rfl (AllLk.c rfl (AllLk.c rfl (AllLk.c rfl (AllLk.c rfl (AllLk.c rfl (AllLk.c rfl (AllLk.c rfl (AllLk.c rfl (AllLk.c rfl (AllLk.c rfl (AllLk.c rfl (AllLk.c rfl AllLk.n)))))))))))))))))))))))))))))))) (AllLk.c rfl (AllLk.c rfl (AllLk.c rfl (AllLk.c rfl (AllLk.c rfl (AllLk.c rfl (AllLk.c rfl (AllLk.c rfl (AllLk.c rfl (AllLk.c rfl (AllLk.c rfl (AllLk.c rfl (AllLk.c rfl (AllLk.c rfl (AllLk.c rfl AllLk.n))))))))))))))) (AllLk.c rfl (AllLk.c rfl (AllLk.c rfl AllLk.n))) rfl rfl AllLk.n)
        · skip
          refine AnyS.step 0 [1,2] (by kernel_rfl) ⟨?_,?_,?_,trivial⟩
          · refine StepS.v rfl rfl (o_ldqis S116 rfl (lx rfl)) ?_
            refine AnyS.step 1 [2] (by kernel_rfl) ⟨?_,?_,trivial⟩
            · refine StepS.cs 18 rfl rfl rfl rfl (o_ldqm (cs0 := [.q 13,.q 14,.q 15,ai (h.change),.q 16,.q 17]) (X' := [(13,PL ETm (h.machs)),(14,PL EBd (h.buns)),(15,PL EP.int (h.trains)),(16,PL EP.int (h.bores)),(17,PL (EP.sl EP.int) (h.eds))]) 13 G75 rfl (lx rfl) rfl rfl rfl) ?_
              refine AnyS.step 2 [] (by kernel_rfl) ⟨?_,trivial⟩
              refine StepS.v rfl rfl (o_ldqis S27 rfl (lx rfl)) ?_
              refine AnyS.step 3 [] (by kernel_rfl) ⟨?_,trivial⟩
              refine StepS.v rfl rfl (o_sigbc 18 (ren [(0,13),(1,14),(2,15),(3,16),(4,17),(5,8)]) (Sig.free (c36 h p hm hc hip hir)) e36 rfl rfl ⟨.inl rfl,.inr ⟨_,_,rfl,fun _ => rfl,(lx rfl)⟩,trivial⟩ w36 ⟨.x (lx rfl),.x (lx rfl),.x (lx rfl),.x (lx rfl),.x (lx rfl),.mem (kp := 6) (lx rfl) rfl (rows_pl hpn),trivial⟩ r36) ?_
              exact AnyS.sub hcut4 rfl (by kernel_rfl) (AllLk.c rfl (AllLk.c rfl (AllLk.c rfl (AllLk.c rfl (AllLk.c rfl (AllLk.c rfl (AllLk.c rfl (AllLk.c rfl (AllLk.c rfl (AllLk.c rfl (AllLk.c rfl (AllLk.c rfl (AllLk.c rfl (AllLk.c rfl (AllLk.c rfl (AllLk.c rfl (AllLk.c rfl (AllLk.c rfl (AllLk.c rfl (AllLk.c rfl (AllLk.c rfl (AllLk.c rfl (AllLk.c rfl (AllLk.c rfl (AllLk.c rfl (AllLk.c rfl (AllLk.c rfl (AllLk.c rfl AllLk.n)))))))))))))))))))))))))))) (AllLk.c rfl (AllLk.c rfl (AllLk.c rfl (AllLk.c rfl (AllLk.c rfl (AllLk.c rfl (AllLk.c rfl (AllLk.c rfl (AllLk.c rfl (AllLk.c rfl (AllLk.c rfl (AllLk.c rfl (AllLk.c rfl (AllLk.c rfl (AllLk.c rfl AllLk.n))))))))))))))) (AllLk.c rfl (AllLk.c rfl (AllLk.c rfl AllLk.n))) rfl rfl AllLk.n
            · refine StepS.v rfl rfl (o_ldqis S27 rfl (lx rfl)) ?_
              refine AnyS.step 1 [] (by kernel_rfl) ⟨?_,trivial⟩
              refine StepS.cs 18 rfl rfl rfl rfl (o_ldqm (cs0 := [.q 13,.q 14,.q 15,ai (h.change),.q 16,.q 17]) (X' := [(13,PL ETm (h.machs)),(14,PL EBd (h.buns)),(15,PL EP.int (h.trains)),(16,PL EP.int (h.bores)),(17,PL (EP.sl EP.int) (h.eds))]) 13 G75 rfl (lx rfl) rfl rfl rfl) ?_
              refine AnyS.step 3 [] (by kernel_rfl) ⟨?_,trivial⟩
              refine StepS.v rfl rfl (o_sigbc 18 (ren [(0,13),(1,14),(2,15),(3,16),(4,17),(5,8)]) (Sig.free (c36 h p hm hc hip hir)) e36 rfl rfl ⟨.inl rfl,.inr ⟨_,_,rfl,fun _ => rfl,(lx rfl)⟩,trivial⟩ w36 ⟨.x (lx rfl),.x (lx rfl),.x (lx rfl),.x (lx rfl),.x (lx rfl),.mem (kp := 6) (lx rfl) rfl (rows_pl hpn),trivial⟩ r36) ?_
              exact AnyS.sub hcut4 rfl (by kernel_rfl) (AllLk.c rfl (AllLk.c rfl (AllLk.c rfl (AllLk.c rfl (AllLk.c rfl (AllLk.c rfl (AllLk.c rfl (AllLk.c rfl (AllLk.c rfl (AllLk.c rfl (AllLk.c rfl (AllLk.c rfl (AllLk.c rfl (AllLk.c rfl (AllLk.c rfl (AllLk.c rfl (AllLk.c rfl (AllLk.c rfl (AllLk.c rfl (AllLk.c rfl (AllLk.c rfl (AllLk.c rfl (AllLk.c rfl (AllLk.c rfl (AllLk.c rfl (AllLk.c rfl (AllLk.c rfl (AllLk.c rfl AllLk.n)))))))))))))))))))))))))))) (AllLk.c rfl (AllLk.c rfl (AllLk.c rfl (AllLk.c rfl (AllLk.c rfl (AllLk.c rfl (AllLk.c rfl (AllLk.c rfl (AllLk.c rfl (AllLk.c rfl (AllLk.c rfl (AllLk.c rfl (AllLk.c rfl (AllLk.c rfl (AllLk.c rfl AllLk.n))))))))))))))) (AllLk.c rfl (AllLk.c rfl (AllLk.c rfl AllLk.n))) rfl rfl AllLk.n
          · refine StepS.cs 18 rfl rfl rfl rfl (o_ldqm (cs0 := [.q 13,.q 14,.q 15,ai (h.change),.q 16,.q 17]) (X' := [(13,PL ETm (h.machs)),(14,PL EBd (h.buns)),(15,PL EP.int (h.trains)),(16,PL EP.int (h.bores)),(17,PL (EP.sl EP.int) (h.eds))]) 13 G75 rfl (lx rfl) rfl rfl rfl) ?_
            refine AnyS.step 0 [2] (by kernel_rfl) ⟨?_,?_,trivial⟩
            · refine StepS.v rfl rfl (o_ldqis S116 rfl (lx rfl)) ?_
              refine AnyS.step 2 [] (by kernel_rfl) ⟨?_,trivial⟩
              refine StepS.v rfl rfl (o_ldqis S27 rfl (lx rfl)) ?_
              refine AnyS.step 3 [] (by kernel_rfl) ⟨?_,trivial⟩
              refine StepS.v rfl rfl (o_sigbc 18 (ren [(0,13),(1,14),(2,15),(3,16),(4,17),(5,8)]) (Sig.free (c36 h p hm hc hip hir)) e36 rfl rfl ⟨.inl rfl,.inr ⟨_,_,rfl,fun _ => rfl,(lx rfl)⟩,trivial⟩ w36 ⟨.x (lx rfl),.x (lx rfl),.x (lx rfl),.x (lx rfl),.x (lx rfl),.mem (kp := 6) (lx rfl) rfl (rows_pl hpn),trivial⟩ r36) ?_
              exact AnyS.sub hcut4 rfl (by kernel_rfl) (AllLk.c rfl (AllLk.c rfl (AllLk.c rfl (AllLk.c rfl (AllLk.c rfl (AllLk.c rfl (AllLk.c rfl (AllLk.c rfl (AllLk.c rfl (AllLk.c rfl (AllLk.c rfl (AllLk.c rfl (AllLk.c rfl (AllLk.c rfl (AllLk.c rfl (AllLk.c rfl (AllLk.c rfl (AllLk.c rfl (AllLk.c rfl (AllLk.c rfl (AllLk.c rfl (AllLk.c rfl (AllLk.c rfl (AllLk.c rfl (AllLk.c rfl (AllLk.c rfl (AllLk.c rfl (AllLk.c rfl AllLk.n)))))))))))))))))))))))))))) (AllLk.c rfl (AllLk.c rfl (AllLk.c rfl (AllLk.c rfl (AllLk.c rfl (AllLk.c rfl (AllLk.c rfl (AllLk.c rfl (AllLk.c rfl (AllLk.c rfl (AllLk.c rfl (AllLk.c rfl (AllLk.c rfl (AllLk.c rfl (AllLk.c rfl AllLk.n))))))))))))))) (AllLk.c rfl (AllLk.c rfl (AllLk.c rfl AllLk.n))) rfl rfl AllLk.n
            · refine StepS.v rfl rfl (o_ldqis S27 rfl (lx rfl)) ?_
              refine AnyS.step 0 [3] (by kernel_rfl) ⟨?_,?_,trivial⟩
              · refine StepS.v rfl rfl (o_ldqis S116 rfl (lx rfl)) ?_
                refine AnyS.step 3 [] (by kernel_rfl) ⟨?_,trivial⟩
                refine StepS.v rfl rfl (o_sigbc 18 (ren [(0,13),(1,14),(2,15),(3,16),(4,17),(5,8)]) (Sig.free (c36 h p hm hc hip hir)) e36 rfl rfl ⟨.inl rfl,.inr ⟨_,_,rfl,fun _ => rfl,(lx rfl)⟩,trivial⟩ w36 ⟨.x (lx rfl),.x (lx rfl),.x (lx rfl),.x (lx rfl),.x (lx rfl),.mem (kp := 6) (lx rfl) rfl (rows_pl hpn),trivial⟩ r36) ?_
                exact AnyS.sub hcut4 rfl (by kernel_rfl) (AllLk.c rfl (AllLk.c rfl (AllLk.c rfl (AllLk.c rfl (AllLk.c rfl (AllLk.c rfl (AllLk.c rfl (AllLk.c rfl (AllLk.c rfl (AllLk.c rfl (AllLk.c rfl (AllLk.c rfl (AllLk.c rfl (AllLk.c rfl (AllLk.c rfl (AllLk.c rfl (AllLk.c rfl (AllLk.c rfl (AllLk.c rfl (AllLk.c rfl (AllLk.c rfl (AllLk.c rfl (AllLk.c rfl (AllLk.c rfl (AllLk.c rfl (AllLk.c rfl (AllLk.c rfl (AllLk.c rfl AllLk.n)))))))))))))))))))))))))))) (AllLk.c rfl (AllLk.c rfl (AllLk.c rfl (AllLk.c rfl (AllLk.c rfl (AllLk.c rfl (AllLk.c rfl (AllLk.c rfl (AllLk.c rfl (AllLk.c rfl (AllLk.c rfl (AllLk.c rfl (AllLk.c rfl (AllLk.c rfl (AllLk.c rfl AllLk.n))))))))))))))) (AllLk.c rfl (AllLk.c rfl (AllLk.c rfl AllLk.n))) rfl rfl AllLk.n
              · refine StepS.v rfl rfl (o_sigbc 18 (ren [(0,13),(1,14),(2,15),(3,16),(4,17),(5,8)]) (Sig.free (c36 h p hm hc hip hir)) e36 rfl rfl ⟨.inl rfl,.inr ⟨_,_,rfl,fun _ => rfl,(lx rfl)⟩,trivial⟩ w36 ⟨.x (lx rfl),.x (lx rfl),.x (lx rfl),.x (lx rfl),.x (lx rfl),.mem (kp := 6) (lx rfl) rfl (rows_pl hpn),trivial⟩ r36) ?_
                refine AnyS.step 0 [] (by kernel_rfl) ⟨?_,trivial⟩
                refine StepS.v rfl rfl (o_ldqis S116 rfl (lx rfl)) ?_
                exact AnyS.sub hcut4 rfl (by kernel_rfl) (AllLk.c rfl (AllLk.c rfl (AllLk.c rfl (AllLk.c rfl (AllLk.c rfl (AllLk.c rfl (AllLk.c rfl (AllLk.c rfl (AllLk.c rfl (AllLk.c rfl (AllLk.c rfl (AllLk.c rfl (AllLk.c rfl (AllLk.c rfl (AllLk.c rfl (AllLk.c rfl (AllLk.c rfl (AllLk.c rfl (AllLk.c rfl (AllLk.c rfl (AllLk.c rfl (AllLk.c rfl (AllLk.c rfl (AllLk.c rfl (AllLk.c rfl (AllLk.c rfl (AllLk.c rfl (AllLk.c rfl AllLk.n)))))))))))))))))))))))))))) (AllLk.c rfl (AllLk.c rfl (AllLk.c rfl (AllLk.c rfl (AllLk.c rfl (AllLk.c rfl (AllLk.c rfl (AllLk.c rfl (AllLk.c rfl (AllLk.c rfl (AllLk.c rfl (AllLk.c rfl (AllLk.c rfl (AllLk.c rfl (AllLk.c rfl AllLk.n))))))))))))))) (AllLk.c rfl (AllLk.c rfl (AllLk.c rfl AllLk.n))) rfl rfl AllLk.n
          · refine StepS.v rfl rfl (o_ldqis S27 rfl (lx rfl)) ?_
            refine AnyS.step 0 [1] (by kernel_rfl) ⟨?_,?_,trivial⟩
            · refine StepS.v rfl rfl (o_ldqis S116 rfl (lx rfl)) ?_
              refine AnyS.step 1 [] (by kernel_rfl) ⟨?_,trivial⟩
              refine StepS.cs 18 rfl rfl rfl rfl (o_ldqm (cs0 := [.q 13,.q 14,.q 15,ai (h.change),.q 16,.q 17]) (X' := [(13,PL ETm (h.machs)),(14,PL EBd (h.buns)),(15,PL EP.int (h.trains)),(16,PL EP.int (h.bores)),(17,PL (EP.sl EP.int) (h.eds))]) 13 G75 rfl (lx rfl) rfl rfl rfl) ?_
              refine AnyS.step 3 [] (by kernel_rfl) ⟨?_,trivial⟩
              refine StepS.v rfl rfl (o_sigbc 18 (ren [(0,13),(1,14),(2,15),(3,16),(4,17),(5,8)]) (Sig.free (c36 h p hm hc hip hir)) e36 rfl rfl ⟨.inl rfl,.inr ⟨_,_,rfl,fun _ => rfl,(lx rfl)⟩,trivial⟩ w36 ⟨.x (lx rfl),.x (lx rfl),.x (lx rfl),.x (lx rfl),.x (lx rfl),.mem (kp := 6) (lx rfl) rfl (rows_pl hpn),trivial⟩ r36) ?_
              exact AnyS.sub hcut4 rfl (by kernel_rfl) (AllLk.c rfl (AllLk.c rfl (AllLk.c rfl (AllLk.c rfl (AllLk.c rfl (AllLk.c rfl (AllLk.c rfl (AllLk.c rfl (AllLk.c rfl (AllLk.c rfl (AllLk.c rfl (AllLk.c rfl (AllLk.c rfl (AllLk.c rfl (AllLk.c rfl (AllLk.c rfl (AllLk.c rfl (AllLk.c rfl (AllLk.c rfl (AllLk.c rfl (AllLk.c rfl (AllLk.c rfl (AllLk.c rfl (AllLk.c rfl (AllLk.c rfl (AllLk.c rfl (AllLk.c rfl (AllLk.c rfl AllLk.n)))))))))))))))))))))))))))) (AllLk.c rfl (AllLk.c rfl (AllLk.c rfl (AllLk.c rfl (AllLk.c rfl (AllLk.c rfl (AllLk.c rfl (AllLk.c rfl (AllLk.c rfl (AllLk.c rfl (AllLk.c rfl (AllLk.c rfl (AllLk.c rfl (AllLk.c rfl (AllLk.c rfl AllLk.n))))))))))))))) (AllLk.c rfl (AllLk.c rfl (AllLk.c rfl AllLk.n))) rfl rfl AllLk.n
            · refine StepS.cs 18 rfl rfl rfl rfl (o_ldqm (cs0 := [.q 13,.q 14,.q 15,ai (h.change),.q 16,.q 17]) (X' := [(13,PL ETm (h.machs)),(14,PL EBd (h.buns)),(15,PL EP.int (h.trains)),(16,PL EP.int (h.bores)),(17,PL (EP.sl EP.int) (h.eds))]) 13 G75 rfl (lx rfl) rfl rfl rfl) ?_
              refine AnyS.step 0 [3] (by kernel_rfl) ⟨?_,?_,trivial⟩
              · refine StepS.v rfl rfl (o_ldqis S116 rfl (lx rfl)) ?_
                refine AnyS.step 3 [] (by kernel_rfl) ⟨?_,trivial⟩
                refine StepS.v rfl rfl (o_sigbc 18 (ren [(0,13),(1,14),(2,15),(3,16),(4,17),(5,8)]) (Sig.free (c36 h p hm hc hip hir)) e36 rfl rfl ⟨.inl rfl,.inr ⟨_,_,rfl,fun _ => rfl,(lx rfl)⟩,trivial⟩ w36 ⟨.x (lx rfl),.x (lx rfl),.x (lx rfl),.x (lx rfl),.x (lx rfl),.mem (kp := 6) (lx rfl) rfl (rows_pl hpn),trivial⟩ r36) ?_
                exact AnyS.sub hcut4 rfl (by kernel_rfl) (AllLk.c rfl (AllLk.c rfl (AllLk.c rfl (AllLk.c rfl (AllLk.c rfl (AllLk.c rfl (AllLk.c rfl (AllLk.c rfl (AllLk.c rfl (AllLk.c rfl (AllLk.c rfl (AllLk.c rfl (AllLk.c rfl (AllLk.c rfl (AllLk.c rfl (AllLk.c rfl (AllLk.c rfl (AllLk.c rfl (AllLk.c rfl (AllLk.c rfl (AllLk.c rfl (AllLk.c rfl (AllLk.c rfl (AllLk.c rfl (AllLk.c rfl (AllLk.c rfl (AllLk.c rfl (AllLk.c rfl AllLk.n)))))))))))))))))))))))))))) (AllLk.c rfl (AllLk.c rfl (AllLk.c rfl (AllLk.c rfl (AllLk.c rfl (AllLk.c rfl (AllLk.c rfl (AllLk.c rfl (AllLk.c rfl (AllLk.c rfl (AllLk.c rfl (AllLk.c rfl (AllLk.c rfl (AllLk.c rfl (AllLk.c rfl AllLk.n))))))))))))))) (AllLk.c rfl (AllLk.c rfl (AllLk.c rfl AllLk.n))) rfl rfl AllLk.n
              · refine StepS.v rfl rfl (o_sigbc 18 (ren [(0,13),(1,14),(2,15),(3,16),(4,17),(5,8)]) (Sig.free (c36 h p hm hc hip hir)) e36 rfl rfl ⟨.inl rfl,.inr ⟨_,_,rfl,fun _ => rfl,(lx rfl)⟩,trivial⟩ w36 ⟨.x (lx rfl),.x (lx rfl),.x (lx rfl),.x (lx rfl),.x (lx rfl),.mem (kp := 6) (lx rfl) rfl (rows_pl hpn),trivial⟩ r36) ?_
                refine AnyS.step 0 [] (by kernel_rfl) ⟨?_,trivial⟩
                refine StepS.v rfl rfl (o_ldqis S116 rfl (lx rfl)) ?_
                exact AnyS.sub hcut4 rfl (by kernel_rfl) (AllLk.c rfl (AllLk.c rfl (AllLk.c rfl (AllLk.c rfl (AllLk.c rfl (AllLk.c rfl (AllLk.c rfl (AllLk.c rfl (AllLk.c rfl (AllLk.c rfl (AllLk.c rfl (AllLk.c rfl (AllLk.c rfl (AllLk.c rfl (AllLk.c rfl (AllLk.c rfl (AllLk.c rfl (AllLk.c rfl (AllLk.c rfl (AllLk.c rfl (AllLk.c rfl (AllLk.c rfl (AllLk.c rfl (AllLk.c rfl (AllLk.c rfl (AllLk.c rfl (AllLk.c rfl (AllLk.c rfl AllLk.n)))))))))))))))))))))))))))) (AllLk.c rfl (AllLk.c rfl (AllLk.c rfl (AllLk.c rfl (AllLk.c rfl (AllLk.c rfl (AllLk.c rfl (AllLk.c rfl (AllLk.c rfl (AllLk.c rfl (AllLk.c rfl (AllLk.c rfl (AllLk.c rfl (AllLk.c rfl (AllLk.c rfl AllLk.n))))))))))))))) (AllLk.c rfl (AllLk.c rfl (AllLk.c rfl AllLk.n))) rfl rfl AllLk.n
      refine EX.then (WP.ret (EX.ret_then ?_))
      refine EX.closeY (Y := noneY n1) (x := plX B0 24 3 h.machs.length p) (y := fun _ => mapSP true 12 b (mset l [nth (needL h p) 0,nth (needL h p) 1,nth (needL h p) 2,nth (needL h p) 3,nth (needL h p) 4,nth (needL h p) 5,nth (needL h p) 6,nth (needL h p) 7,nth (needL h p) 8,nth (needL h p) 9,nth (needL h p) 10,nth (needL h p) 11] (((mget l [nth (needL h p) 0,nth (needL h p) 1,nth (needL h p) 2,nth (needL h p) 3,nth (needL h p) 4,nth (needL h p) 5,nth (needL h p) 6,nth (needL h p) 7,nth (needL h p) 8,nth (needL h p) 9,nth (needL h p) 10,nth (needL h p) 11]).getD 0) + 1))) (hx := fun _ => ⟨rowsXP.fine,mapSP.fine⟩) 5 6 7 ⟨rv1.1,rv1.2⟩ rfl rfl rfl rfl hEo hE0 fun F2 hE => ?_
      have hE : ∀ c,F c → F2 c := hE
      have hend : vis h l (plansF h.machs.length h.buns.length stop (k + 1) m p) = addK l (key12 (needL h p)) := by rw [hmn,plansF,if_pos rfl]; show vis1 h l p = _; rw [vis1,if_pos hl0]
      exact EX.finH (Y := plH (n1 := n1) B0 h.machs.length b p (vis h l (plansF h.machs.length h.buns.length stop (k + 1) m p))) 5 (.inl rfl) rfl hE (by rw [hend]; rfl) (by simp) (by simp)
    · try simp only [cnd] at hc2
      have hl0 : lateP h p ≠ 0 := fun h0 => hc2 (by have := hlb.1.2 h0; omega)
      refine WP.skip (EX.then (WP.ret (EX.ret_then ?_)))
      refine EX.closeY (Y := noneY n1) (x := plX B0 24 3 h.machs.length p) (y := fun _ => mapSP true 12 b l) (hx := fun _ => ⟨rowsXP.fine,mapSP.fine⟩) 5 6 7 ⟨rv1.1,rv1.2⟩ rfl rfl rfl rfl hEo hE0 fun F3 hE => ?_
      have hE : ∀ c,F c → F3 c := hE
      have hend : vis h l (plansF h.machs.length h.buns.length stop (k + 1) m p) = l := by rw [hmn,plansF,if_pos rfl]; show vis1 h l p = _; rw [vis1,if_neg hl0]
      exact EX.finH (Y := plH (n1 := n1) B0 h.machs.length b p (vis h l (plansF h.machs.length h.buns.length stop (k + 1) m p))) 5 (.inl rfl) rfl hE (by rw [hend]; rfl) (by simp) (by simp)
  · try simp only [cnd] at hc1
    have hmn : m ≠ h.machs.length := by omega
    have hmp : m < p.length := by omega
    refine WP.skip (EX.then (WP.seq (WP.region ?_)))
    refine WPl.x 6 7 rfl rfl rfl (o_ldqx S117 rfl (lx rfl) boxx) ?_
    refine WPl.v rfl (o_move rfl) ?_
    refine WPl.v rfl (o_add rfl rfl (by first | omega | (simp; omega)) (by first | omega | (simp; omega))) ?_
    refine WPl.v rfl (o_move rfl) ?_
    refine WPl.callH (Y' := plH (n1 := n1) B0 h.machs.length b p (vis h l (plansF h.machs.length h.buns.length stop k (m + 1) p))) 5 rfl rfl rfl rfl rfl (by refine goQ (I0 := I0) (Yi := fun i : Nat × Plan × Nat × MapL => plH (n1 := n1) B0 h.machs.length b i.2.1 i.2.2.2) (Yo := fun i : Nat × Plan × Nat × MapL => plH (n1 := n1) B0 h.machs.length b i.2.1 (vis h i.2.2.2 (plansF h.machs.length h.buns.length stop k i.1 i.2.1))) (ky := 5) (svs := (fun i => [.i ((i.1 : Nat) : Int),.i ((i.2.2.1 : Nat) : Int)])) (X0 := fun _ => []) id ((m + 1,p,u,l)) ?_ (hk.next hmn) ?_ ?_ ?_ ?_ ?_ ?_; (exact (lx rfl)); (exact hI0); (exact hn1); (exact rfl); (exact SvsOK.rf); (simp [SV.res,El.res,At.res,keys]); (exact trivial)) fun v39 F4 hF4 => ?_
    have hE : ∀ c,F c → F4 c := fun c hc => hF4 c (hE c hc)
    refine WPl.nil (EX.then (WP.seq (WP.seq (WP.region ?_))))
    refine WPl.v rfl (o_move rfl) ?_
    refine WPl.v rfl (o_ldq S3 rfl (lx rfl) intc) ?_
    refine WPl.v rfl (o_eql rfl rfl) ?_
    refine WPl.nil (EX.then ?_)
    refine WP.cond rfl (fun hc3 => ?_) (fun hc3 => ?_)
    · try simp only [cnd] at hc3
      refine WP.ret (EX.ret_then ?_)
      have hend : vis h l (plansF h.machs.length h.buns.length stop (k + 1) m p) = vis h l (plansF h.machs.length h.buns.length stop k (m + 1) p) := by rw [plansF,if_neg hmn,if_pos hc3,List.append_nil]
      exact EX.finH (Y := plH (n1 := n1) B0 h.machs.length b p (vis h l (plansF h.machs.length h.buns.length stop (k + 1) m p))) 5 (.inl rfl) rfl hE (by rw [hend]; rfl) (by simp) (by simp)
    · try simp only [cnd] at hc3
      have hms : (m : Int) ≠ stop := hc3
      refine WP.skip (EX.then (WP.seq (WP.region ?_)))
      refine WPl.v rfl (o_fldq F75_0 rfl (lx rfl)) ?_
      refine WPl.v rfl (o_flde F29_0 rfl (lx rfl)) ?_
      refine WPl.v rfl (o_flde F26_1 rfl (lx rfl)) ?_
      refine WPl.x 7 8 rfl rfl rfl (o_ldex S23 rfl (lx rfl) (strS rfl)) ?_
      refine WPl.v rfl (o_lenq L23 rfl (lx rfl)) ?_
      refine WPl.v rfl (o_move rfl) ?_
      refine WPl.nil (EX.then (WP.block ?_))
      refine WP.loop (Gh := Nat × (Nat → Prop)) (fun (⟨j,Fj⟩ : Nat × (Nat → Prop)) => ⟨8,[(0,.i ((m : Int))),(1,.i ((u : Int))),(2,.e (.a (.q 0))),(5,.e (.a (.q 3))),(47,.i ((h.buns.length : Int))),(48,.i ((j : Int)))],[(0,PP (EP.box (Pred.is (rowsV B0 h.machs.length))) ()),(3,PP (EP.box (PlanH (Try.prog) (n1 := n1) I0 B0 b h stop k)) ())],[(5,.ext ((plH (n1 := n1) B0 h.machs.length b p (vis h l (aheadP h.machs.length h.buns.length stop k m p j))).xp Fj))],[],[]⟩) (fun (⟨j,Fj⟩ : Nat × (Nat → Prop)) => j ≤ h.buns.length ∧ ∀ c,F c → Fj c) (fun (⟨j,Fj⟩ : Nat × (Nat → Prop)) => h.buns.length - j) ((0,F4)) id ?_ (LeR.of ⟨rfl,rfl,rfl,rfl,rfl,rfl,trivial⟩ ⟨(lx rfl),(lx rfl),trivial⟩ ⟨(congrArg (fun z => some (Ent.ext ((plH (n1 := n1) B0 h.machs.length b p z).xp F4))) (show vis h l (plansF h.machs.length h.buns.length stop k (m + 1) p) = vis h l (aheadP h.machs.length h.buns.length stop k m p 0) from by unfold aheadP; simp)),trivial⟩ rfl rfl rfl rfl rfl) ?_
      · exact ⟨by omega,hE⟩
      rintro ⟨j,Fj⟩ hφ
      obtain ⟨hj,hE⟩ : j ≤ h.buns.length ∧ ∀ c,F c → Fj c := hφ
      refine WP.seq (WP.region ?_)
      refine WPl.v rfl (o_lss rfl rfl) ?_
      refine WPl.nil (EX.then (WP.seq ?_))
      refine WP.cond rfl (fun hc4 => ?_) (fun hc4 => ?_)
      · try simp only [cnd] at hc4
        have hj5 : j < 5 := by omega
        have hmk := msk_ok hku.1 hj5
        refine WP.skip (EX.then (WP.seq (WP.block (WP.seq (WP.region ?_)))))
        refine WPl.v rfl (o_move rfl) ?_
        refine WPl.v rfl (o_assign rfl) ?_
        refine WPl.nil (EX.then (WP.seq (WP.seq (WP.region ?_))))
        refine WPl.v rfl (o_move rfl) ?_
        refine WPl.v rfl (o_move rfl) ?_
        refine WPl.v rfl (o_ishr rfl rfl (by omega) hmk.r) ?_
        refine WPl.v rfl (o_iand rfl rfl hmk.a) ?_
        refine WPl.v rfl (o_eql rfl rfl) ?_
        refine WPl.nil (EX.then ?_)
        refine WP.cond rfl (fun hc5 => ?_) (fun hc5 => ?_)
        · try simp only [cnd] at hc5
          have hin : (j : Int) ∈ p.flatten := (mask_in hku hj5).1 hc5
          refine WP.exit (EX.exit_then (EX.exit_blk (EX.then (WP.region ?_))))
          refine WPl.v rfl (o_add rfl rfl (by first | omega | (simp; omega)) (by first | omega | (simp; omega))) ?_
          refine WPl.v rfl (o_move rfl) ?_
          refine WPl.nil ?_
          refine EX.again ((j + 1,Fj)) id (by exact ⟨by omega,hE⟩) (by first | omega | (dsimp only; omega) | (simp only []; omega)) (LeR.of ⟨rfl,rfl,rfl,rfl,rfl,rfl,trivial⟩ ⟨(lx rfl),(lx rfl),trivial⟩ ⟨(congrArg (fun z => some (Ent.ext ((plH (n1 := n1) B0 h.machs.length b p z).xp Fj))) (show vis h l (aheadP h.machs.length h.buns.length stop k m p j) = vis h l (aheadP h.machs.length h.buns.length stop k m p (j + 1)) from by rw [ahead_in hin])),trivial⟩ rfl rfl rfl rfl rfl)
        · try simp only [cnd] at hc5
          have hin : (j : Int) ∉ p.flatten := fun h => hc5 ((mask_in hku hj5).2 h)
          have hro := hpI.row (show m < h.machs.length by omega)
          have hrl : (p.getD m [] ++ [(j : Int)]).length = (p.getD m []).length + 1 := by rw [List.length_append,List.length_singleton]
          refine WP.skip (EX.then (WP.seq ?_))
          refine WP.openY (ky := 5) (m := 10) (Y := noneY n1) (x := plX B0 24 3 h.machs.length p) (y := fun _ => mapSP true 12 b (vis h l (aheadP h.machs.length h.buns.length stop k m p j))) (hx := fun _ => ⟨rowsXP.fine,mapSP.fine⟩) 8 9 rfl rfl rfl rfl fun F5 rv5 hA5 hB5 _ _ => ?_
          have hEo : ∀ c,F c → F5 c ∨ n1 ≤ c := fun c hc => hB5 c (hE c hc)
          obtain ⟨u6,hu6⟩ : ∃ u,rv5.1[m]? = some u := ⟨_,List.getElem?_eq_getElem (by rw [rv5.2]; omega)⟩
          refine WP.imp (Imp.nam 10 11 u6 (R := Pred.is u6) (fun _ => rfl) rfl rfl) ?_
          refine WP.imp (Imp.openRow (u := u6) (l := p.getD m []) 8 10 rfl (lx rfl) rfl hu6 rfl) ?_
          refine WP.draw2 (nf := 13) 10 [⟨[57,58,59,60,61,62,63,64],[10,11,12],[],[],[]⟩,⟨[56,58,59,60,61,62,63,64],[10,11,12],[],[],[]⟩,⟨[56,57,59,62,63],[11],[],[],[]⟩,⟨[56,57,58,62,63],[11],[],[],[]⟩,⟨[56,57,62,63],[11],[],[],[2,3]⟩,⟨[56,57,62,63],[11],[],[],[2,3,4]⟩,⟨[56,57,58,59,60,61],[],[],[],[]⟩,⟨[56,57,58,59,60,61],[],[11],[11],[6]⟩,⟨[56,57],[],[12],[12,10],[2,3,4,5,6,7]⟩,⟨[],[],[],[],[0,1,2,3,4,5,6,7,8]⟩,⟨[],[],[],[],[0,1,2,3,4,5,6,7,8,9]⟩] #[true,true,true,true,true,true,true,true,true,true,false] (by kernel_rfl) (by kernel_rfl) ⟨by kernel_rfl,by kernel_rfl⟩ ?_
          refine DRQ.v rfl rfl rfl (o_ldqis S27 rfl (lx rfl)) ?_
          refine DRQ.v rfl rfl rfl (o_move rfl) ?_
          refine DRQ.v rfl rfl rfl (o_ldqis S27 rfl (lx rfl)) ?_
          refine DRQ.v rfl rfl rfl (o_move rfl) ?_
          refine DRQ.v rfl rfl rfl (o_idxC L27 rfl rfl (by first | omega | (simp; omega)) (by first | omega | (simp; omega))) ?_
          refine DRQ.v rfl rfl rfl (o_ldrow (kx := 8) (kr := 10) S24 rfl rfl hu6 (lx rfl)) ?_
          refine DRQ.v rfl rfl rfl (o_move rfl) ?_
          refine DRQ.l 11 rfl rfl rfl rfl (o_bsl (E := EP.int) (l := [(j : Int)]) R24 rfl rfl (.cons (rfl) rfl (eok_int) (.nil)) rfl rfl) ?_
          refine DRQ.l2 12 10 rfl rfl rfl rfl (o_appo R24 EP.int_one rfl rfl rfl rfl (by first | omega | (simp; omega) | (simp at *; omega)) (by first | omega | (simp; omega) | (simp at *; omega))) ?_
          refine DRQ.v rfl rfl rfl (o_idxC L27 rfl rfl (by first | omega | (simp; omega)) (by first | omega | (simp; omega))) ?_
          refine DRQ.nil' (EX.rest ?_)
          refine AnyS.pino 12 rfl fun u7 h1u7 => ?_
          refine AnyS.step 10 [] (by kernel_rfl) (StepsS.one ?_)
          refine StepS.s rfl (o_strow (kx := 8) S24 rfl rfl rfl (lx rfl) h1u7 (by rw [rv5.2]; omega)) ?_
          refine AnyS.done (by kernel_rfl) ?_
          refine EX.then (WP.seq ?_)
          refine WP.imp (Imp.closeRow (u := u7) (l := (p.getD m []) ++ [(j : Int)]) (pl' := (addB p m j)) 8 12 rfl (lx rfl) rfl rfl (by rw [List.getElem?_set_self (by rw [rv5.2]; omega)]) rfl) ?_
          refine WP.closeY (Y := noneY n1) (x := plX B0 24 3 h.machs.length (addB p m j)) (y := fun _ => mapSP true 12 b (vis h l (aheadP h.machs.length h.buns.length stop k m p j))) (hx := fun _ => ⟨rowsXP.fine,mapSP.fine⟩) 5 8 9 ⟨rv5.1.set m u7,(by rw [List.length_set]; exact rv5.2)⟩ rfl rfl rfl rfl hEo hE0 fun F8 hE => ?_
          have hE : ∀ c,F c → F8 c := hE
          refine WP.draw2 (nf := 14) 6 [⟨[67,68,69,70,71],[],[13],[13],[]⟩,⟨[66,68,69,70,71],[13],[],[],[]⟩,⟨[66,67,69,70],[13],[],[],[]⟩,⟨[66,67,68],[13],[],[],[]⟩,⟨[66,67,68],[13],[],[],[3]⟩,⟨[66,67],[13],[],[],[2,3,4]⟩,⟨[],[],[],[],[0,1,2,3,4,5]⟩] #[true,true,true,true,true,true,false] (by kernel_rfl) (by kernel_rfl) ⟨by kernel_rfl,by kernel_rfl⟩ ?_
          refine DRQ.x 13 rfl rfl rfl rfl (o_ldqx S117 rfl (lx rfl) boxx) ?_
          refine DRQ.v rfl rfl rfl (o_move rfl) ?_
          refine DRQ.v rfl rfl rfl (o_move rfl) ?_
          refine DRQ.v rfl rfl rfl (o_move rfl) ?_
          refine DRQ.v rfl rfl rfl (o_ishl rfl rfl (by omega) hmk.l) ?_
          refine DRQ.v rfl rfl rfl (o_ior rfl rfl hmk.o) ?_
          refine DRQ.nil' (EX.rest ?_)
          refine AnyS.step 6 [] (by kernel_rfl) (StepsS.one ?_)
          refine StepS.callH (Y' := plH (n1 := n1) B0 h.machs.length b (addB p m j) (vis h (vis h l (aheadP h.machs.length h.buns.length stop k m p j)) (plansF h.machs.length h.buns.length stop k m (addB p m j)))) 5 rfl rfl rfl rfl rfl rfl (by refine goQ (I0 := I0) (Yi := fun i : Nat × Plan × Nat × MapL => plH (n1 := n1) B0 h.machs.length b i.2.1 i.2.2.2) (Yo := fun i : Nat × Plan × Nat × MapL => plH (n1 := n1) B0 h.machs.length b i.2.1 (vis h i.2.2.2 (plansF h.machs.length h.buns.length stop k i.1 i.2.1))) (ky := 5) (svs := (fun i => [.i ((i.1 : Nat) : Int),.i ((i.2.2.1 : Nat) : Int)])) (X0 := fun _ => []) id ((m,addB p m j,u ||| 2 ^ j,vis h l (aheadP h.machs.length h.buns.length stop k m p j))) ?_ (hk.sub hmn hms (by omega) hin) ?_ ?_ ?_ ?_ ?_ ?_; (exact (lx rfl)); (exact hI0); (exact hn1); (exact rfl); (exact SvsOK.rf); (simp [SV.res,El.res,At.res,keys]); (exact trivial)) fun v72 F9 hF9 => ?_
          have hE : ∀ c,F c → F9 c := fun c hc => hF9 c (hE c hc)
          refine AnyS.done (by kernel_rfl) ?_
          refine EX.then ?_
          refine WP.openY (ky := 5) (m := 16) (Y := noneY n1) (x := plX B0 24 3 h.machs.length (addB p m j)) (y := fun _ => mapSP true 12 b (vis h (vis h l (aheadP h.machs.length h.buns.length stop k m p j)) (plansF h.machs.length h.buns.length stop k m (addB p m j)))) (hx := fun _ => ⟨rowsXP.fine,mapSP.fine⟩) 14 15 rfl rfl rfl rfl fun F10 rv10 hA10 hB10 _ _ => ?_
          have hEo : ∀ c,F c → F10 c ∨ n1 ≤ c := fun c hc => hB10 c (hE c hc)
          obtain ⟨u11,hu11⟩ : ∃ u,rv10.1[m]? = some u := ⟨_,List.getElem?_eq_getElem (by rw [rv10.2]; omega)⟩
          refine WP.imp (Imp.nam 16 17 u11 (R := Pred.is u11) (fun _ => rfl) rfl rfl) ?_
          refine WP.imp (Imp.openRow (u := u11) (l := p.getD m [] ++ [(j : Int)]) 14 16 rfl (lx rfl) rfl hu11 (by rw [addB_getD hmp,if_pos rfl])) ?_
          refine WP.draw2 (nf := 18) 14 [⟨[74,75,76,77,78,79,80,81,82,83,84,85],[16,17],[],[],[]⟩,⟨[73,75,76,77,78,79,80,81,82,83,84,85],[16,17],[],[],[]⟩,⟨[73,74,76,79,80,81,82,83,84],[],[],[],[]⟩,⟨[73,74,75,79,80,81,82,83,84],[],[],[],[]⟩,⟨[73,74,79,80,81,82,83,84],[],[],[],[2,3]⟩,⟨[73,74,79,80,81,82,83,84],[],[],[],[2,3,4]⟩,⟨[73,74,75,76,77,78,80],[],[],[],[]⟩,⟨[73,74,75,76,77,78,79],[],[],[],[]⟩,⟨[73,74,75,76,77,78],[],[],[],[6,7]⟩,⟨[73,74,75,76,77,78],[],[],[],[6,7,8]⟩,⟨[73,74,75,76,77,78],[],[],[],[6,7,8,9]⟩,⟨[73,74,75,76,77,78],[],[],[],[6,7,8,9,10]⟩,⟨[73,74],[],[17],[17,16],[2,3,4,5,6,7,8,9,10,11]⟩,⟨[],[],[],[],[0,1,2,3,4,5,6,7,8,9,10,11,12]⟩,⟨[],[],[],[],[0,1,2,3,4,5,6,7,8,9,10,11,12,13]⟩] #[true,true,true,true,true,true,true,true,true,true,true,true,true,true,false] (by kernel_rfl) (by kernel_rfl) ⟨by kernel_rfl,by kernel_rfl⟩ ?_
          refine DRQ.v rfl rfl rfl (o_ldqis S27 rfl (lx rfl)) ?_
          refine DRQ.v rfl rfl rfl (o_move rfl) ?_
          refine DRQ.v rfl rfl rfl (o_ldqis S27 rfl (lx rfl)) ?_
          refine DRQ.v rfl rfl rfl (o_move rfl) ?_
          refine DRQ.v rfl rfl rfl (o_idxC L27 rfl rfl (by first | omega | (simp; omega)) (by first | omega | (simp; omega))) ?_
          refine DRQ.v rfl rfl rfl (o_ldrow (kx := 14) (kr := 16) S24 rfl rfl hu11 (lx rfl)) ?_
          refine DRQ.v rfl rfl rfl (o_ldqis S27 rfl (lx rfl)) ?_
          refine DRQ.v rfl rfl rfl (o_move rfl) ?_
          refine DRQ.v rfl rfl rfl (o_idxC L27 rfl rfl (by first | omega | (simp; omega)) (by first | omega | (simp; omega))) ?_
          refine DRQ.v rfl rfl rfl (o_ldrow (kx := 14) (kr := 16) S24 rfl rfl hu11 (lx rfl)) ?_
          refine DRQ.v rfl rfl rfl (o_leno L24 rfl rfl) ?_
          refine DRQ.v rfl rfl rfl (o_sub rfl rfl (by first | omega | (simp; omega)) (by first | omega | (simp; omega))) ?_
          refine DRQ.l2 17 16 rfl rfl rfl rfl (o_shrink (k0 := 16) (l := p.getD m [] ++ [(j : Int)]) L24 rfl rfl rfl (by simp)) ?_
          refine DRQ.v rfl rfl rfl (o_idxC L27 rfl rfl (by first | omega | (simp; omega)) (by first | omega | (simp; omega))) ?_
          refine DRQ.nil' (EX.rest ?_)
          refine AnyS.pino 17 rfl fun u12 h1u12 => ?_
          refine AnyS.step 14 [] (by kernel_rfl) (StepsS.one ?_)
          refine StepS.s rfl (o_strow (kx := 14) S24 rfl rfl rfl (lx rfl) h1u12 (by rw [rv10.2]; omega)) ?_
          refine AnyS.done (by kernel_rfl) ?_
          refine EX.blk (EX.then (WP.region ?_))
          refine WPl.imp (Imp.closeRow (u := u12) (l := (p.getD m [] ++ [(j : Int)]).dropLast) (pl' := p) 14 17 rfl (lx rfl) rfl rfl (by rw [List.getElem?_set_self (by rw [rv10.2]; omega)]) (by have := addB_undo (b := j) hmp; rw [addB_getD hmp,if_pos rfl] at this; exact this)) ?_
          refine WPl.closeY (Y := noneY n1) (x := plX B0 24 3 h.machs.length p) (y := fun _ => mapSP true 12 b (vis h (vis h l (aheadP h.machs.length h.buns.length stop k m p j)) (plansF h.machs.length h.buns.length stop k m (addB p m j)))) (hx := fun _ => ⟨rowsXP.fine,mapSP.fine⟩) 5 14 15 ⟨rv10.1.set m u12,(by rw [List.length_set]; exact rv10.2)⟩ rfl rfl rfl rfl hEo hE0 fun F13 hE => ?_
          have hE : ∀ c,F c → F13 c := hE
          refine WPl.v rfl (o_add rfl rfl (by first | omega | (simp; omega)) (by first | omega | (simp; omega))) ?_
          refine WPl.v rfl (o_move rfl) ?_
          refine WPl.nil ?_
          refine EX.again ((j + 1,F13)) id (by exact ⟨by omega,hE⟩) (by first | omega | (dsimp only; omega) | (simp only []; omega)) (LeR.of ⟨rfl,rfl,rfl,rfl,rfl,rfl,trivial⟩ ⟨(lx rfl),(lx rfl),trivial⟩ ⟨(congrArg (fun z => some (Ent.ext ((plH (n1 := n1) B0 h.machs.length b p z).xp F13))) (show vis h (vis h l (aheadP h.machs.length h.buns.length stop k m p j)) (plansF h.machs.length h.buns.length stop k m (addB p m j)) = vis h l (aheadP h.machs.length h.buns.length stop k m p (j + 1)) from by rw [ahead_out hin,vis_app])),trivial⟩ rfl rfl rfl rfl rfl)
      · try simp only [cnd] at hc4
        refine WP.exit (EX.exit_then (EX.exit_then (EX.exit_blk ?_)))
        have hend : vis h l (plansF h.machs.length h.buns.length stop (k + 1) m p) = vis h l (aheadP h.machs.length h.buns.length stop k m p j) := by rw [ahead_all hmn hms,show h.buns.length = j by omega]
        exact EX.finH (Y := plH (n1 := n1) B0 h.machs.length b p (vis h l (plansF h.machs.length h.buns.length stop (k + 1) m p))) 5 (.inr rfl) rfl hE (by rw [hend]; rfl) (by simp) (by simp)
end Go.Flong
namespace Go.Flong
open Go Go.Eng Go.Proofs
abbrev Fn2 (f : Int → Int → Int) : Pred := Pred.fall fun (o : AddD) => FvP Try.prog [.i (o.1.1),.i (o.1.2)] [] (.i (f o.1.1 o.1.2)) []
theorem e96 : Enters' Try.prog 96 := Try.call96
theorem e100 : Enters' Try.prog 100 := Try.call100
theorem e93 : Enters' Try.prog 93 := Try.call93
theorem e97 : Enters' Try.prog 97 := Try.call97
theorem w96 {a b : Int} : ∀ x ∈ ([.i (a),.i (b)] : List SV),x.res (keys (α := Pred) []) := by simp [SV.res,El.res,At.res,keys]
theorem r96 {a b : Int} : SV.res (keys (α := Pred) []) (.i (max a b)) := by simp [SV.res,El.res,At.res,keys]
set_option maxHeartbeats 4000000 in
theorem c96 (a b : Int)  : Sig Try.prog 96 [.i (a),.i (b)] [] (.i (max a b)) [] := by
  refine Sig.intro Try.func96 rfl 0 [(0,.i (a)),(1,.i (b))] rfl w96 rfl rfl fun I w => ?_
  refine WP.seq (WP.region ?_)
  refine WPl.v rfl (o_assign rfl) ?_
  refine WPl.nil (EX.then (WP.seq (WP.region ?_)))
  refine WPl.v rfl (o_move rfl) ?_
  refine WPl.v rfl (o_move rfl) ?_
  refine WPl.v rfl (o_max rfl rfl) ?_
  refine WPl.v rfl (o_assign rfl) ?_
  refine WPl.nil (EX.then (WP.ret ?_))
  exact EX.fin id (.inl rfl) rfl (.tmp rfl .nil) rfl r96 trivial (by simp) (by simp)
theorem w100 {a b : Int} : ∀ x ∈ ([.i (a),.i (b)] : List SV),x.res (keys (α := Pred) []) := by simp [SV.res,El.res,At.res,keys]
theorem r100 {a b : Int} : SV.res (keys (α := Pred) []) (.i (max 0 (b - a))) := by simp [SV.res,El.res,At.res,keys]
set_option maxHeartbeats 4000000 in
theorem c100 (a b : Int) (h1 : 0 ≤ a ∧ a ≤ 1000) (h2 : 0 ≤ b ∧ b ≤ 1000) : Sig Try.prog 100 [.i (a),.i (b)] [] (.i (max 0 (b - a))) [] := by
  refine Sig.intro Try.func100 rfl 0 [(0,.i (a)),(1,.i (b))] rfl w100 rfl rfl fun I w => ?_
  refine WP.seq (WP.region ?_)
  refine WPl.v rfl (o_assign rfl) ?_
  refine WPl.nil (EX.then (WP.seq (WP.region ?_)))
  refine WPl.v rfl (o_move rfl) ?_
  refine WPl.v rfl (o_move rfl) ?_
  refine WPl.v rfl (o_sub rfl rfl (by first | omega | (simp; omega)) (by first | omega | (simp; omega))) ?_
  refine WPl.v rfl (o_max rfl rfl) ?_
  refine WPl.v rfl (o_assign rfl) ?_
  refine WPl.nil (EX.then (WP.ret ?_))
  exact EX.fin id (.inl rfl) rfl (.tmp rfl .nil) rfl r100 trivial (by simp) (by simp)
theorem w67G {f : Int → Int → Int} {a b : List Int} : ∀ x ∈ ([.e (.g [ai (nth a 0),ai (nth a 1),ai (nth a 2),ai (nth a 3),ai (nth a 4),ai (nth a 5),ai (nth a 6),ai (nth a 7),ai (nth a 8),ai (nth a 9),ai (nth a 10),ai (nth a 11)]),.e (.g [ai (nth b 0),ai (nth b 1),ai (nth b 2),ai (nth b 3),ai (nth b 4),ai (nth b 5),ai (nth b 6),ai (nth b 7),ai (nth b 8),ai (nth b 9),ai (nth b 10),ai (nth b 11)]),.e (.a (.q 0))] : List SV),x.res (keys (α := Pred) [(0,Fn2 f)]) := by simp [SV.res,El.res,At.res,keys]
theorem r67G {f : Int → Int → Int} {a b : List Int} : SV.res (keys (α := Pred) []) (.e (.g [ai (nth (eachG f a b 12) 0),ai (nth (eachG f a b 12) 1),ai (nth (eachG f a b 12) 2),ai (nth (eachG f a b 12) 3),ai (nth (eachG f a b 12) 4),ai (nth (eachG f a b 12) 5),ai (nth (eachG f a b 12) 6),ai (nth (eachG f a b 12) 7),ai (nth (eachG f a b 12) 8),ai (nth (eachG f a b 12) 9),ai (nth (eachG f a b 12) 10),ai (nth (eachG f a b 12) 11)])) := by simp [SV.res,El.res,At.res,keys]
set_option maxHeartbeats 4000000 in
theorem c67G (f : Int → Int → Int) (a b : List Int) (ha : ShOK a) (hb : ShOK b) : Sig Try.prog 67 [.e (.g [ai (nth a 0),ai (nth a 1),ai (nth a 2),ai (nth a 3),ai (nth a 4),ai (nth a 5),ai (nth a 6),ai (nth a 7),ai (nth a 8),ai (nth a 9),ai (nth a 10),ai (nth a 11)]),.e (.g [ai (nth b 0),ai (nth b 1),ai (nth b 2),ai (nth b 3),ai (nth b 4),ai (nth b 5),ai (nth b 6),ai (nth b 7),ai (nth b 8),ai (nth b 9),ai (nth b 10),ai (nth b 11)]),.e (.a (.q 0))] [(0,Fn2 f)] (.e (.g [ai (nth (eachG f a b 12) 0),ai (nth (eachG f a b 12) 1),ai (nth (eachG f a b 12) 2),ai (nth (eachG f a b 12) 3),ai (nth (eachG f a b 12) 4),ai (nth (eachG f a b 12) 5),ai (nth (eachG f a b 12) 6),ai (nth (eachG f a b 12) 7),ai (nth (eachG f a b 12) 8),ai (nth (eachG f a b 12) 9),ai (nth (eachG f a b 12) 10),ai (nth (eachG f a b 12) 11)])) [] := by
  refine Sig.intro Try.func67 rfl 1 [(0,.e (.g [ai (nth a 0),ai (nth a 1),ai (nth a 2),ai (nth a 3),ai (nth a 4),ai (nth a 5),ai (nth a 6),ai (nth a 7),ai (nth a 8),ai (nth a 9),ai (nth a 10),ai (nth a 11)])),(1,.e (.g [ai (nth b 0),ai (nth b 1),ai (nth b 2),ai (nth b 3),ai (nth b 4),ai (nth b 5),ai (nth b 6),ai (nth b 7),ai (nth b 8),ai (nth b 9),ai (nth b 10),ai (nth b 11)])),(2,.e (.a (.q 0)))] rfl w67G rfl rfl fun I w => ?_
  refine WP.seq (WP.region ?_)
  refine WPl.l 1 2 rfl rfl rfl (o_boxg rfl) ?_
  refine WPl.l 2 3 rfl rfl rfl (o_boxg rfl) ?_
  refine WPl.l 3 4 rfl rfl rfl (o_alloc Z81) ?_
  refine WPl.nil (EX.then (WP.seq (WP.seq (WP.region ?_))))
  refine WPl.v rfl (o_move rfl) ?_
  refine WPl.nil (EX.then (WP.block ?_))
  refine WP.loop (Gh := Nat) (fun i => ⟨4,[(2,.e (.a (.q 0))),(3,.e (.a (.p 1 (0)))),(4,.e (.a (.p 2 (0)))),(6,.e (.a (.p 3 (0)))),(9,.i ((i : Int)))],[(0,Fn2 f)],[(1,.blk [ai (nth a 0),ai (nth a 1),ai (nth a 2),ai (nth a 3),ai (nth a 4),ai (nth a 5),ai (nth a 6),ai (nth a 7),ai (nth a 8),ai (nth a 9),ai (nth a 10),ai (nth a 11)] 81),(2,.blk [ai (nth b 0),ai (nth b 1),ai (nth b 2),ai (nth b 3),ai (nth b 4),ai (nth b 5),ai (nth b 6),ai (nth b 7),ai (nth b 8),ai (nth b 9),ai (nth b 10),ai (nth b 11)] 81),(3,.blk [ai (nth (eachG f a b (3 * i)) 0),ai (nth (eachG f a b (3 * i)) 1),ai (nth (eachG f a b (3 * i)) 2),ai (nth (eachG f a b (3 * i)) 3),ai (nth (eachG f a b (3 * i)) 4),ai (nth (eachG f a b (3 * i)) 5),ai (nth (eachG f a b (3 * i)) 6),ai (nth (eachG f a b (3 * i)) 7),ai (nth (eachG f a b (3 * i)) 8),ai (nth (eachG f a b (3 * i)) 9),ai (nth (eachG f a b (3 * i)) 10),ai (nth (eachG f a b (3 * i)) 11)] 81)],[],[]⟩) (fun i => i ≤ 4) (fun i => 4 - i) (0) id ?_ (LeR.of ⟨rfl,rfl,rfl,rfl,rfl,trivial⟩ ⟨(lx rfl),trivial⟩ ⟨rfl,rfl,rfl,trivial⟩ rfl rfl rfl rfl rfl) ?_
  · first | trivial | omega | (constructor <;> omega) | simp
  intro i hφ
  have hi : i ≤ 4 := hφ
  refine WP.seq (WP.region ?_)
  refine WPl.v rfl (o_lss rfl rfl) ?_
  refine WPl.nil (EX.then (WP.seq ?_))
  refine WP.cond rfl (fun hc1 => ?_) (fun hc1 => ?_)
  · try simp only [cnd] at hc1
    refine WP.skip (EX.then (WP.seq (WP.block (WP.seq (WP.region ?_)))))
    refine WPl.v rfl (o_move rfl) ?_
    refine WPl.v rfl (o_assign rfl) ?_
    refine WPl.nil (EX.then (WP.seq (WP.region ?_)))
    refine WPl.v rfl (o_move rfl) ?_
    refine WPl.nil (EX.then (WP.block ?_))
    refine WP.loop (Gh := Nat) (fun j => ⟨4,[(2,.e (.a (.q 0))),(3,.e (.a (.p 1 (0)))),(4,.e (.a (.p 2 (0)))),(6,.e (.a (.p 3 (0)))),(9,.i ((i : Int))),(10,.b (decide ((i : Int) < 4))),(11,.i ((i : Int))),(7,.i ((i : Int))),(12,.i ((j : Int)))],[(0,Fn2 f)],[(1,.blk [ai (nth a 0),ai (nth a 1),ai (nth a 2),ai (nth a 3),ai (nth a 4),ai (nth a 5),ai (nth a 6),ai (nth a 7),ai (nth a 8),ai (nth a 9),ai (nth a 10),ai (nth a 11)] 81),(2,.blk [ai (nth b 0),ai (nth b 1),ai (nth b 2),ai (nth b 3),ai (nth b 4),ai (nth b 5),ai (nth b 6),ai (nth b 7),ai (nth b 8),ai (nth b 9),ai (nth b 10),ai (nth b 11)] 81),(3,.blk [ai (nth (eachG f a b (3 * i + j)) 0),ai (nth (eachG f a b (3 * i + j)) 1),ai (nth (eachG f a b (3 * i + j)) 2),ai (nth (eachG f a b (3 * i + j)) 3),ai (nth (eachG f a b (3 * i + j)) 4),ai (nth (eachG f a b (3 * i + j)) 5),ai (nth (eachG f a b (3 * i + j)) 6),ai (nth (eachG f a b (3 * i + j)) 7),ai (nth (eachG f a b (3 * i + j)) 8),ai (nth (eachG f a b (3 * i + j)) 9),ai (nth (eachG f a b (3 * i + j)) 10),ai (nth (eachG f a b (3 * i + j)) 11)] 81)],[],[]⟩) (fun j => j ≤ 3) (fun j => 3 - j) (0) id ?_ (LeR.of ⟨rfl,rfl,rfl,rfl,rfl,rfl,rfl,rfl,rfl,trivial⟩ ⟨(lx rfl),trivial⟩ ⟨rfl,rfl,rfl,trivial⟩ rfl rfl rfl rfl rfl) ?_
    · first | trivial | omega | (constructor <;> omega) | simp
    intro j hφ
    have hj : j ≤ 3 := hφ
    refine WP.seq (WP.region ?_)
    refine WPl.v rfl (o_lss rfl rfl) ?_
    refine WPl.nil (EX.then (WP.seq ?_))
    refine WP.cond rfl (fun hc2 => ?_) (fun hc2 => ?_)
    · try simp only [cnd] at hc2
      have hij : ((3 * i + j : Nat) : Int) = ((i : Int) * 3 + (j : Int)) := by omega
      have hk1 := ha.b (3 * i + j) (by omega)
      have hk2 := hb.b (3 * i + j) (by omega)
      rw [hij] at hk1 hk2
      refine WP.skip (EX.then (WP.seq (WP.block (WP.seq (WP.region ?_)))))
      refine WPl.v rfl (o_move rfl) ?_
      refine WPl.v rfl (o_assign rfl) ?_
      refine WPl.nil (EX.then ?_)
      refine WP.draw (nf := 4) [⟨[16,17,18,19,20,21,22,23,24,25,26,27,28],[],[],[],[]⟩,⟨[15,17,18,19,20,21,22,23,24,25,26,27,28,29],[],[],[],[]⟩,⟨[15,16,18,19,20,21,22,23,24,25,26,27,29],[],[],[],[]⟩,⟨[15,16,17,19,23,24,25,26,27,29],[],[],[],[]⟩,⟨[15,16,17,18,20,23,24,25,26,27,29],[],[],[],[]⟩,⟨[15,16,17,19,23,24,25,26,27,29],[],[],[],[3]⟩,⟨[15,16,17,23,24,25,26,27,29],[],[],[],[3,4,5]⟩,⟨[15,16,17,23,24,25,26,27,29],[],[],[],[3,4,5,6]⟩,⟨[15,16,17,18,19,20,21,22,24,29],[],[],[],[]⟩,⟨[15,16,17,18,19,20,21,22,23,25,29],[],[],[],[]⟩,⟨[15,16,17,18,19,20,21,22,24,29],[],[],[],[8]⟩,⟨[15,16,17,18,19,20,21,22,29],[],[],[],[8,9,10]⟩,⟨[15,16,17,18,19,20,21,22,29],[],[],[],[8,9,10,11]⟩,⟨[15,16,29],[],[],[],[2,3,4,5,6,7,8,9,10,11,12]⟩,⟨[16,17,18,19,20,21,22,23,24,25,26,27,28],[],[],[],[0]⟩,⟨[],[],[],[],[0,1,2,3,4,5,6,7,8,9,10,11,12,13,14]⟩,⟨[],[],[],[3],[0,1,2,3,4,5,6,7,8,9,10,11,12,13,14,15]⟩] (by kernel_rfl) (by kernel_rfl) ?_
      refine DRQ.v rfl rfl rfl (o_move rfl) ?_
      refine DRQ.v rfl rfl rfl (o_move rfl) ?_
      refine DRQ.v rfl rfl rfl (o_move rfl) ?_
      refine DRQ.v rfl rfl rfl (o_move rfl) ?_
      refine DRQ.v rfl rfl rfl (o_move rfl) ?_
      refine DRQ.v rfl rfl rfl (o_idxpr A81 rfl rfl (by first | omega | (simp; omega)) (by first | omega | (simp; omega))) ?_
      refine DRQ.v rfl rfl rfl (o_idxpc ((i : Int) * 3 + (j : Int)) A79 rfl rfl (by first | omega | (simp; omega)) (by first | omega | (simp; omega)) (by omega)) ?_
      refine DRQ.v rfl rfl rfl (o_ldpn (n := 12) (l := a) S3 rfl rfl rfl (by omega) (by omega)) ?_
      refine DRQ.v rfl rfl rfl (o_move rfl) ?_
      refine DRQ.v rfl rfl rfl (o_move rfl) ?_
      refine DRQ.v rfl rfl rfl (o_idxpr A81 rfl rfl (by first | omega | (simp; omega)) (by first | omega | (simp; omega))) ?_
      refine DRQ.v rfl rfl rfl (o_idxpc ((i : Int) * 3 + (j : Int)) A79 rfl rfl (by first | omega | (simp; omega)) (by first | omega | (simp; omega)) (by omega)) ?_
      refine DRQ.v rfl rfl rfl (o_ldpn (n := 12) (l := b) S3 rfl rfl rfl (by omega) (by omega)) ?_
      refine DRQ.cs rfl rfl rfl rfl (o_callfv (svs := [.i ((⟨(nth a ((i : Int) * 3 + (j : Int)),nth b ((i : Int) * 3 + (j : Int))),hk1,hk2⟩ : AddD).1.1),.i ((⟨(nth a ((i : Int) * 3 + (j : Int)),nth b ((i : Int) * 3 + (j : Int))),hk1,hk2⟩ : AddD).1.2)]) 4 id rfl (show Has _ 0 (FvP Try.prog [.i ((⟨(nth a ((i : Int) * 3 + (j : Int)),nth b ((i : Int) * 3 + (j : Int))),hk1,hk2⟩ : AddD).1.1),.i ((⟨(nth a ((i : Int) * 3 + (j : Int)),nth b ((i : Int) * 3 + (j : Int))),hk1,hk2⟩ : AddD).1.2)] [] (.i (f (⟨(nth a ((i : Int) * 3 + (j : Int)),nth b ((i : Int) * 3 + (j : Int))),hk1,hk2⟩ : AddD).1.1 (⟨(nth a ((i : Int) * 3 + (j : Int)),nth b ((i : Int) * 3 + (j : Int))),hk1,hk2⟩ : AddD).1.2)) []) from (Has.of (lx rfl) fun _ _ h => Pred.fall_at h ((⟨(nth a ((i : Int) * 3 + (j : Int)),nth b ((i : Int) * 3 + (j : Int))),hk1,hk2⟩ : AddD)))) rfl rfl SvsOK.rf (by simp [SV.res,El.res,At.res,keys]) trivial (by simp [SV.res,El.res,At.res,keys])) ?_
      refine DRQ.v rfl rfl rfl (o_idxpr A81 rfl rfl (by first | omega | (simp; omega)) (by first | omega | (simp; omega))) ?_
      refine DRQ.v rfl rfl rfl (o_idxpc ((i : Int) * 3 + (j : Int)) A79 rfl rfl (by first | omega | (simp; omega)) (by first | omega | (simp; omega)) (by omega)) ?_
      refine DRQ.s 3 rfl rfl rfl (o_stpn (n := 12) (l := eachG f a b (3 * i + j)) (cs' := [ai (nth (lset (eachG f a b (3 * i + j)) ((i : Int) * 3 + (j : Int)) (f (⟨(nth a ((i : Int) * 3 + (j : Int)),nth b ((i : Int) * 3 + (j : Int))),hk1,hk2⟩ : AddD).1.1 (⟨(nth a ((i : Int) * 3 + (j : Int)),nth b ((i : Int) * 3 + (j : Int))),hk1,hk2⟩ : AddD).1.2)) 0),ai (nth (lset (eachG f a b (3 * i + j)) ((i : Int) * 3 + (j : Int)) (f (⟨(nth a ((i : Int) * 3 + (j : Int)),nth b ((i : Int) * 3 + (j : Int))),hk1,hk2⟩ : AddD).1.1 (⟨(nth a ((i : Int) * 3 + (j : Int)),nth b ((i : Int) * 3 + (j : Int))),hk1,hk2⟩ : AddD).1.2)) 1),ai (nth (lset (eachG f a b (3 * i + j)) ((i : Int) * 3 + (j : Int)) (f (⟨(nth a ((i : Int) * 3 + (j : Int)),nth b ((i : Int) * 3 + (j : Int))),hk1,hk2⟩ : AddD).1.1 (⟨(nth a ((i : Int) * 3 + (j : Int)),nth b ((i : Int) * 3 + (j : Int))),hk1,hk2⟩ : AddD).1.2)) 2),ai (nth (lset (eachG f a b (3 * i + j)) ((i : Int) * 3 + (j : Int)) (f (⟨(nth a ((i : Int) * 3 + (j : Int)),nth b ((i : Int) * 3 + (j : Int))),hk1,hk2⟩ : AddD).1.1 (⟨(nth a ((i : Int) * 3 + (j : Int)),nth b ((i : Int) * 3 + (j : Int))),hk1,hk2⟩ : AddD).1.2)) 3),ai (nth (lset (eachG f a b (3 * i + j)) ((i : Int) * 3 + (j : Int)) (f (⟨(nth a ((i : Int) * 3 + (j : Int)),nth b ((i : Int) * 3 + (j : Int))),hk1,hk2⟩ : AddD).1.1 (⟨(nth a ((i : Int) * 3 + (j : Int)),nth b ((i : Int) * 3 + (j : Int))),hk1,hk2⟩ : AddD).1.2)) 4),ai (nth (lset (eachG f a b (3 * i + j)) ((i : Int) * 3 + (j : Int)) (f (⟨(nth a ((i : Int) * 3 + (j : Int)),nth b ((i : Int) * 3 + (j : Int))),hk1,hk2⟩ : AddD).1.1 (⟨(nth a ((i : Int) * 3 + (j : Int)),nth b ((i : Int) * 3 + (j : Int))),hk1,hk2⟩ : AddD).1.2)) 5),ai (nth (lset (eachG f a b (3 * i + j)) ((i : Int) * 3 + (j : Int)) (f (⟨(nth a ((i : Int) * 3 + (j : Int)),nth b ((i : Int) * 3 + (j : Int))),hk1,hk2⟩ : AddD).1.1 (⟨(nth a ((i : Int) * 3 + (j : Int)),nth b ((i : Int) * 3 + (j : Int))),hk1,hk2⟩ : AddD).1.2)) 6),ai (nth (lset (eachG f a b (3 * i + j)) ((i : Int) * 3 + (j : Int)) (f (⟨(nth a ((i : Int) * 3 + (j : Int)),nth b ((i : Int) * 3 + (j : Int))),hk1,hk2⟩ : AddD).1.1 (⟨(nth a ((i : Int) * 3 + (j : Int)),nth b ((i : Int) * 3 + (j : Int))),hk1,hk2⟩ : AddD).1.2)) 7),ai (nth (lset (eachG f a b (3 * i + j)) ((i : Int) * 3 + (j : Int)) (f (⟨(nth a ((i : Int) * 3 + (j : Int)),nth b ((i : Int) * 3 + (j : Int))),hk1,hk2⟩ : AddD).1.1 (⟨(nth a ((i : Int) * 3 + (j : Int)),nth b ((i : Int) * 3 + (j : Int))),hk1,hk2⟩ : AddD).1.2)) 8),ai (nth (lset (eachG f a b (3 * i + j)) ((i : Int) * 3 + (j : Int)) (f (⟨(nth a ((i : Int) * 3 + (j : Int)),nth b ((i : Int) * 3 + (j : Int))),hk1,hk2⟩ : AddD).1.1 (⟨(nth a ((i : Int) * 3 + (j : Int)),nth b ((i : Int) * 3 + (j : Int))),hk1,hk2⟩ : AddD).1.2)) 9),ai (nth (lset (eachG f a b (3 * i + j)) ((i : Int) * 3 + (j : Int)) (f (⟨(nth a ((i : Int) * 3 + (j : Int)),nth b ((i : Int) * 3 + (j : Int))),hk1,hk2⟩ : AddD).1.1 (⟨(nth a ((i : Int) * 3 + (j : Int)),nth b ((i : Int) * 3 + (j : Int))),hk1,hk2⟩ : AddD).1.2)) 10),ai (nth (lset (eachG f a b (3 * i + j)) ((i : Int) * 3 + (j : Int)) (f (⟨(nth a ((i : Int) * 3 + (j : Int)),nth b ((i : Int) * 3 + (j : Int))),hk1,hk2⟩ : AddD).1.1 (⟨(nth a ((i : Int) * 3 + (j : Int)),nth b ((i : Int) * 3 + (j : Int))),hk1,hk2⟩ : AddD).1.2)) 11)]) S3 rfl rfl rfl rfl rfl (by first | exact eachG_len _ _ _ _ | (rw [eachG_len])) (by omega) (by omega)) ?_
      refine DRQ.nil' ?_
      refine EX.blk (EX.then (WP.region ?_))
      refine WPl.v rfl (o_add rfl rfl (by first | omega | (simp; omega)) (by first | omega | (simp; omega))) ?_
      refine WPl.v rfl (o_move rfl) ?_
      refine WPl.nil ?_
      refine EX.again (j + 1) id (by first | omega | (constructor <;> omega)) (by omega) (LeR.of ⟨rfl,rfl,rfl,rfl,rfl,rfl,rfl,rfl,rfl,trivial⟩ ⟨(lx rfl),trivial⟩ ⟨rfl,rfl,(congrArg (fun z => some (Ent.blk z 81)) (List.cons_eq_cons.2 ⟨(congrArg (fun z => ai z) (show (nth (lset (eachG f a b (3 * i + j)) ((i : Int) * 3 + (j : Int)) (f (⟨(nth a ((i : Int) * 3 + (j : Int)),nth b ((i : Int) * 3 + (j : Int))),hk1,hk2⟩ : AddD).1.1 (⟨(nth a ((i : Int) * 3 + (j : Int)),nth b ((i : Int) * 3 + (j : Int))),hk1,hk2⟩ : AddD).1.2)) 0) = ((fun j => nth (eachG f a b (3 * i + j)) 0) (j + 1)) from by dsimp only; rw [show 3 * i + (j + 1) = (3 * i + j) + 1 from rfl,eachG_step hij])),(List.cons_eq_cons.2 ⟨(congrArg (fun z => ai z) (show (nth (lset (eachG f a b (3 * i + j)) ((i : Int) * 3 + (j : Int)) (f (⟨(nth a ((i : Int) * 3 + (j : Int)),nth b ((i : Int) * 3 + (j : Int))),hk1,hk2⟩ : AddD).1.1 (⟨(nth a ((i : Int) * 3 + (j : Int)),nth b ((i : Int) * 3 + (j : Int))),hk1,hk2⟩ : AddD).1.2)) 1) = ((fun j => nth (eachG f a b (3 * i + j)) 1) (j + 1)) from by dsimp only; rw [show 3 * i + (j + 1) = (3 * i + j) + 1 from rfl,eachG_step hij])),(List.cons_eq_cons.2 ⟨(congrArg (fun z => ai z) (show (nth (lset (eachG f a b (3 * i + j)) ((i : Int) * 3 + (j : Int)) (f (⟨(nth a ((i : Int) * 3 + (j : Int)),nth b ((i : Int) * 3 + (j : Int))),hk1,hk2⟩ : AddD).1.1 (⟨(nth a ((i : Int) * 3 + (j : Int)),nth b ((i : Int) * 3 + (j : Int))),hk1,hk2⟩ : AddD).1.2)) 2) = ((fun j => nth (eachG f a b (3 * i + j)) 2) (j + 1)) from by dsimp only; rw [show 3 * i + (j + 1) = (3 * i + j) + 1 from rfl,eachG_step hij])),(List.cons_eq_cons.2 ⟨(congrArg (fun z => ai z) (show (nth (lset (eachG f a b (3 * i + j)) ((i : Int) * 3 + (j : Int)) (f (⟨(nth a ((i : Int) * 3 + (j : Int)),nth b ((i : Int) * 3 + (j : Int))),hk1,hk2⟩ : AddD).1.1 (⟨(nth a ((i : Int) * 3 + (j : Int)),nth b ((i : Int) * 3 + (j : Int))),hk1,hk2⟩ : AddD).1.2)) 3) = ((fun j => nth (eachG f a b (3 * i + j)) 3) (j + 1)) from by dsimp only; rw [show 3 * i + (j + 1) = (3 * i + j) + 1 from rfl,eachG_step hij])),(List.cons_eq_cons.2 ⟨(congrArg (fun z => ai z) (show (nth (lset (eachG f a b (3 * i + j)) ((i : Int) * 3 + (j : Int)) (f (⟨(nth a ((i : Int) * 3 + (j : Int)),nth b ((i : Int) * 3 + (j : Int))),hk1,hk2⟩ : AddD).1.1 (⟨(nth a ((i : Int) * 3 + (j : Int)),nth b ((i : Int) * 3 + (j : Int))),hk1,hk2⟩ : AddD).1.2)) 4) = ((fun j => nth (eachG f a b (3 * i + j)) 4) (j + 1)) from by dsimp only; rw [show 3 * i + (j + 1) = (3 * i + j) + 1 from rfl,eachG_step hij])),(List.cons_eq_cons.2 ⟨(congrArg (fun z => ai z) (show (nth (lset (eachG f a b (3 * i + j)) ((i : Int) * 3 + (j : Int)) (f (⟨(nth a ((i : Int) * 3 + (j : Int)),nth b ((i : Int) * 3 + (j : Int))),hk1,hk2⟩ : AddD).1.1 (⟨(nth a ((i : Int) * 3 + (j : Int)),nth b ((i : Int) * 3 + (j : Int))),hk1,hk2⟩ : AddD).1.2)) 5) = ((fun j => nth (eachG f a b (3 * i + j)) 5) (j + 1)) from by dsimp only; rw [show 3 * i + (j + 1) = (3 * i + j) + 1 from rfl,eachG_step hij])),(List.cons_eq_cons.2 ⟨(congrArg (fun z => ai z) (show (nth (lset (eachG f a b (3 * i + j)) ((i : Int) * 3 + (j : Int)) (f (⟨(nth a ((i : Int) * 3 + (j : Int)),nth b ((i : Int) * 3 + (j : Int))),hk1,hk2⟩ : AddD).1.1 (⟨(nth a ((i : Int) * 3 + (j : Int)),nth b ((i : Int) * 3 + (j : Int))),hk1,hk2⟩ : AddD).1.2)) 6) = ((fun j => nth (eachG f a b (3 * i + j)) 6) (j + 1)) from by dsimp only; rw [show 3 * i + (j + 1) = (3 * i + j) + 1 from rfl,eachG_step hij])),(List.cons_eq_cons.2 ⟨(congrArg (fun z => ai z) (show (nth (lset (eachG f a b (3 * i + j)) ((i : Int) * 3 + (j : Int)) (f (⟨(nth a ((i : Int) * 3 + (j : Int)),nth b ((i : Int) * 3 + (j : Int))),hk1,hk2⟩ : AddD).1.1 (⟨(nth a ((i : Int) * 3 + (j : Int)),nth b ((i : Int) * 3 + (j : Int))),hk1,hk2⟩ : AddD).1.2)) 7) = ((fun j => nth (eachG f a b (3 * i + j)) 7) (j + 1)) from by dsimp only; rw [show 3 * i + (j + 1) = (3 * i + j) + 1 from rfl,eachG_step hij])),(List.cons_eq_cons.2 ⟨(congrArg (fun z => ai z) (show (nth (lset (eachG f a b (3 * i + j)) ((i : Int) * 3 + (j : Int)) (f (⟨(nth a ((i : Int) * 3 + (j : Int)),nth b ((i : Int) * 3 + (j : Int))),hk1,hk2⟩ : AddD).1.1 (⟨(nth a ((i : Int) * 3 + (j : Int)),nth b ((i : Int) * 3 + (j : Int))),hk1,hk2⟩ : AddD).1.2)) 8) = ((fun j => nth (eachG f a b (3 * i + j)) 8) (j + 1)) from by dsimp only; rw [show 3 * i + (j + 1) = (3 * i + j) + 1 from rfl,eachG_step hij])),(List.cons_eq_cons.2 ⟨(congrArg (fun z => ai z) (show (nth (lset (eachG f a b (3 * i + j)) ((i : Int) * 3 + (j : Int)) (f (⟨(nth a ((i : Int) * 3 + (j : Int)),nth b ((i : Int) * 3 + (j : Int))),hk1,hk2⟩ : AddD).1.1 (⟨(nth a ((i : Int) * 3 + (j : Int)),nth b ((i : Int) * 3 + (j : Int))),hk1,hk2⟩ : AddD).1.2)) 9) = ((fun j => nth (eachG f a b (3 * i + j)) 9) (j + 1)) from by dsimp only; rw [show 3 * i + (j + 1) = (3 * i + j) + 1 from rfl,eachG_step hij])),(List.cons_eq_cons.2 ⟨(congrArg (fun z => ai z) (show (nth (lset (eachG f a b (3 * i + j)) ((i : Int) * 3 + (j : Int)) (f (⟨(nth a ((i : Int) * 3 + (j : Int)),nth b ((i : Int) * 3 + (j : Int))),hk1,hk2⟩ : AddD).1.1 (⟨(nth a ((i : Int) * 3 + (j : Int)),nth b ((i : Int) * 3 + (j : Int))),hk1,hk2⟩ : AddD).1.2)) 10) = ((fun j => nth (eachG f a b (3 * i + j)) 10) (j + 1)) from by dsimp only; rw [show 3 * i + (j + 1) = (3 * i + j) + 1 from rfl,eachG_step hij])),(List.cons_eq_cons.2 ⟨(congrArg (fun z => ai z) (show (nth (lset (eachG f a b (3 * i + j)) ((i : Int) * 3 + (j : Int)) (f (⟨(nth a ((i : Int) * 3 + (j : Int)),nth b ((i : Int) * 3 + (j : Int))),hk1,hk2⟩ : AddD).1.1 (⟨(nth a ((i : Int) * 3 + (j : Int)),nth b ((i : Int) * 3 + (j : Int))),hk1,hk2⟩ : AddD).1.2)) 11) = ((fun j => nth (eachG f a b (3 * i + j)) 11) (j + 1)) from by dsimp only; rw [show 3 * i + (j + 1) = (3 * i + j) + 1 from rfl,eachG_step hij])),(Eq.refl [])⟩)⟩)⟩)⟩)⟩)⟩)⟩)⟩)⟩)⟩)⟩)⟩)),trivial⟩ rfl rfl rfl rfl rfl)
    · try simp only [cnd] at hc2
      refine WP.exit (EX.exit_then (EX.exit_then (EX.exit_blk (EX.blk (EX.then (WP.region ?_))))))
      refine WPl.v rfl (o_add rfl rfl (by first | omega | (simp; omega)) (by first | omega | (simp; omega))) ?_
      refine WPl.v rfl (o_move rfl) ?_
      refine WPl.nil ?_
      have hje : j = 3 := by omega
      refine EX.again (i + 1) id (by first | omega | (constructor <;> omega)) (by omega) (LeR.of ⟨rfl,rfl,rfl,rfl,rfl,trivial⟩ ⟨(lx rfl),trivial⟩ ⟨rfl,rfl,(congrArg (fun z => some (Ent.blk z 81)) (List.cons_eq_cons.2 ⟨(congrArg (fun z => ai z) (show (nth (eachG f a b (3 * i + j)) 0) = ((fun i => nth (eachG f a b (3 * i)) 0) (i + 1)) from by dsimp only; rw [show 3 * i + j = 3 * (i + 1) by omega])),(List.cons_eq_cons.2 ⟨(congrArg (fun z => ai z) (show (nth (eachG f a b (3 * i + j)) 1) = ((fun i => nth (eachG f a b (3 * i)) 1) (i + 1)) from by dsimp only; rw [show 3 * i + j = 3 * (i + 1) by omega])),(List.cons_eq_cons.2 ⟨(congrArg (fun z => ai z) (show (nth (eachG f a b (3 * i + j)) 2) = ((fun i => nth (eachG f a b (3 * i)) 2) (i + 1)) from by dsimp only; rw [show 3 * i + j = 3 * (i + 1) by omega])),(List.cons_eq_cons.2 ⟨(congrArg (fun z => ai z) (show (nth (eachG f a b (3 * i + j)) 3) = ((fun i => nth (eachG f a b (3 * i)) 3) (i + 1)) from by dsimp only; rw [show 3 * i + j = 3 * (i + 1) by omega])),(List.cons_eq_cons.2 ⟨(congrArg (fun z => ai z) (show (nth (eachG f a b (3 * i + j)) 4) = ((fun i => nth (eachG f a b (3 * i)) 4) (i + 1)) from by dsimp only; rw [show 3 * i + j = 3 * (i + 1) by omega])),(List.cons_eq_cons.2 ⟨(congrArg (fun z => ai z) (show (nth (eachG f a b (3 * i + j)) 5) = ((fun i => nth (eachG f a b (3 * i)) 5) (i + 1)) from by dsimp only; rw [show 3 * i + j = 3 * (i + 1) by omega])),(List.cons_eq_cons.2 ⟨(congrArg (fun z => ai z) (show (nth (eachG f a b (3 * i + j)) 6) = ((fun i => nth (eachG f a b (3 * i)) 6) (i + 1)) from by dsimp only; rw [show 3 * i + j = 3 * (i + 1) by omega])),(List.cons_eq_cons.2 ⟨(congrArg (fun z => ai z) (show (nth (eachG f a b (3 * i + j)) 7) = ((fun i => nth (eachG f a b (3 * i)) 7) (i + 1)) from by dsimp only; rw [show 3 * i + j = 3 * (i + 1) by omega])),(List.cons_eq_cons.2 ⟨(congrArg (fun z => ai z) (show (nth (eachG f a b (3 * i + j)) 8) = ((fun i => nth (eachG f a b (3 * i)) 8) (i + 1)) from by dsimp only; rw [show 3 * i + j = 3 * (i + 1) by omega])),(List.cons_eq_cons.2 ⟨(congrArg (fun z => ai z) (show (nth (eachG f a b (3 * i + j)) 9) = ((fun i => nth (eachG f a b (3 * i)) 9) (i + 1)) from by dsimp only; rw [show 3 * i + j = 3 * (i + 1) by omega])),(List.cons_eq_cons.2 ⟨(congrArg (fun z => ai z) (show (nth (eachG f a b (3 * i + j)) 10) = ((fun i => nth (eachG f a b (3 * i)) 10) (i + 1)) from by dsimp only; rw [show 3 * i + j = 3 * (i + 1) by omega])),(List.cons_eq_cons.2 ⟨(congrArg (fun z => ai z) (show (nth (eachG f a b (3 * i + j)) 11) = ((fun i => nth (eachG f a b (3 * i)) 11) (i + 1)) from by dsimp only; rw [show 3 * i + j = 3 * (i + 1) by omega])),(Eq.refl [])⟩)⟩)⟩)⟩)⟩)⟩)⟩)⟩)⟩)⟩)⟩)⟩)),trivial⟩ rfl rfl rfl rfl rfl)
  · try simp only [cnd] at hc1
    refine WP.exit (EX.exit_then (EX.exit_then (EX.exit_blk (EX.then (WP.seq (WP.region ?_))))))
    refine WPl.v rfl (o_ldpa G81 rfl rfl rfl) ?_
    refine WPl.s1 (o_stag G81 rfl rfl rfl ⟨rfl,rfl,rfl,rfl,rfl,rfl,rfl,rfl,rfl,rfl,rfl,rfl,trivial⟩ rfl rfl) ?_
    refine WPl.nil (EX.then (WP.ret ?_))
    have hie : i = 4 := by omega
    subst hie
    exact EX.fin id (.inl rfl) rfl (.cellg G81 rfl rfl rfl (.nil)) rfl (by simp [SV.res,El.res,At.res,keys]) trivial (by simp) (by simp)
theorem w76 {a b : List Int} : ∀ x ∈ ([.e (.g [ai (nth a 0),ai (nth a 1),ai (nth a 2),ai (nth a 3),ai (nth a 4),ai (nth a 5),ai (nth a 6),ai (nth a 7),ai (nth a 8),ai (nth a 9),ai (nth a 10),ai (nth a 11)]),.e (.g [ai (nth b 0),ai (nth b 1),ai (nth b 2),ai (nth b 3),ai (nth b 4),ai (nth b 5),ai (nth b 6),ai (nth b 7),ai (nth b 8),ai (nth b 9),ai (nth b 10),ai (nth b 11)])] : List SV),x.res (keys (α := Pred) []) := by simp [SV.res,El.res,At.res,keys]
theorem r76 {a b : List Int} : SV.res (keys (α := Pred) []) (.e (.g [ai (nth (joinL a b) 0),ai (nth (joinL a b) 1),ai (nth (joinL a b) 2),ai (nth (joinL a b) 3),ai (nth (joinL a b) 4),ai (nth (joinL a b) 5),ai (nth (joinL a b) 6),ai (nth (joinL a b) 7),ai (nth (joinL a b) 8),ai (nth (joinL a b) 9),ai (nth (joinL a b) 10),ai (nth (joinL a b) 11)])) := by simp [SV.res,El.res,At.res,keys]
set_option maxHeartbeats 4000000 in
theorem c76 (a b : List Int) (ha : ShOK a) (hb : ShOK b) : Sig Try.prog 76 [.e (.g [ai (nth a 0),ai (nth a 1),ai (nth a 2),ai (nth a 3),ai (nth a 4),ai (nth a 5),ai (nth a 6),ai (nth a 7),ai (nth a 8),ai (nth a 9),ai (nth a 10),ai (nth a 11)]),.e (.g [ai (nth b 0),ai (nth b 1),ai (nth b 2),ai (nth b 3),ai (nth b 4),ai (nth b 5),ai (nth b 6),ai (nth b 7),ai (nth b 8),ai (nth b 9),ai (nth b 10),ai (nth b 11)])] [] (.e (.g [ai (nth (joinL a b) 0),ai (nth (joinL a b) 1),ai (nth (joinL a b) 2),ai (nth (joinL a b) 3),ai (nth (joinL a b) 4),ai (nth (joinL a b) 5),ai (nth (joinL a b) 6),ai (nth (joinL a b) 7),ai (nth (joinL a b) 8),ai (nth (joinL a b) 9),ai (nth (joinL a b) 10),ai (nth (joinL a b) 11)])) [] := by
  refine Sig.intro Try.func76 rfl 0 [(0,.e (.g [ai (nth a 0),ai (nth a 1),ai (nth a 2),ai (nth a 3),ai (nth a 4),ai (nth a 5),ai (nth a 6),ai (nth a 7),ai (nth a 8),ai (nth a 9),ai (nth a 10),ai (nth a 11)])),(1,.e (.g [ai (nth b 0),ai (nth b 1),ai (nth b 2),ai (nth b 3),ai (nth b 4),ai (nth b 5),ai (nth b 6),ai (nth b 7),ai (nth b 8),ai (nth b 9),ai (nth b 10),ai (nth b 11)]))] rfl w76 rfl rfl fun I w => ?_
  refine WP.seq (WP.region ?_)
  refine WPl.l 0 1 rfl rfl rfl (o_boxg rfl) ?_
  refine WPl.l 1 2 rfl rfl rfl (o_boxg rfl) ?_
  refine WPl.l 2 3 rfl rfl rfl (o_alloc Z81) ?_
  refine WPl.nil (EX.then (WP.seq (WP.region ?_)))
  refine WPl.v rfl (o_ldpa G81 rfl rfl rfl) ?_
  refine WPl.v rfl (o_ldpa G81 rfl rfl rfl) ?_
  refine WPl.imp (Imp.nam 3 4 (.func (.func 96) #[] #[]) (R := (Fn2 joinF).and (Pred.is (.func (.func 96) #[] #[]))) (fun I => FvP.namee (fun (o : AddD) => (c96 o.1.1 o.1.2)) e96 (fun _ => (by simp [SV.res,El.res,At.res,keys])) I) rfl rfl) ?_
  refine WPl.cs 4 rfl rfl rfl rfl (o_sigc 4 (ren [(0,3)]) (c67G joinF a b ha hb) e67 rfl rfl ⟨.inl rfl,.inl rfl,.inr ⟨_,_,rfl,fun _ => rfl,(lxr rfl)⟩,trivial⟩ w67G ⟨(lxl rfl),trivial⟩ r67G) ?_
  refine WPl.s1 (o_stag G81 rfl rfl rfl ⟨rfl,rfl,rfl,rfl,rfl,rfl,rfl,rfl,rfl,rfl,rfl,rfl,trivial⟩ rfl rfl) ?_
  refine WPl.nil (EX.then (WP.ret ?_))
  exact EX.fin id (.inl rfl) rfl (.cellg G81 rfl rfl rfl (.nil)) rfl r76 trivial (by simp) (by simp)
theorem w93 {a b : List Int} : ∀ x ∈ ([.e (.g [ai (nth a 0),ai (nth a 1),ai (nth a 2),ai (nth a 3),ai (nth a 4),ai (nth a 5),ai (nth a 6),ai (nth a 7),ai (nth a 8),ai (nth a 9),ai (nth a 10),ai (nth a 11)]),.e (.g [ai (nth b 0),ai (nth b 1),ai (nth b 2),ai (nth b 3),ai (nth b 4),ai (nth b 5),ai (nth b 6),ai (nth b 7),ai (nth b 8),ai (nth b 9),ai (nth b 10),ai (nth b 11)])] : List SV),x.res (keys (α := Pred) []) := by simp [SV.res,El.res,At.res,keys]
theorem r93 {a b : List Int} : SV.res (keys (α := Pred) []) (.e (.g [ai (nth (missL a b) 0),ai (nth (missL a b) 1),ai (nth (missL a b) 2),ai (nth (missL a b) 3),ai (nth (missL a b) 4),ai (nth (missL a b) 5),ai (nth (missL a b) 6),ai (nth (missL a b) 7),ai (nth (missL a b) 8),ai (nth (missL a b) 9),ai (nth (missL a b) 10),ai (nth (missL a b) 11)])) := by simp [SV.res,El.res,At.res,keys]
set_option maxHeartbeats 4000000 in
theorem c93 (a b : List Int) (ha : ShOK a) (hb : ShOK b) : Sig Try.prog 93 [.e (.g [ai (nth a 0),ai (nth a 1),ai (nth a 2),ai (nth a 3),ai (nth a 4),ai (nth a 5),ai (nth a 6),ai (nth a 7),ai (nth a 8),ai (nth a 9),ai (nth a 10),ai (nth a 11)]),.e (.g [ai (nth b 0),ai (nth b 1),ai (nth b 2),ai (nth b 3),ai (nth b 4),ai (nth b 5),ai (nth b 6),ai (nth b 7),ai (nth b 8),ai (nth b 9),ai (nth b 10),ai (nth b 11)])] [] (.e (.g [ai (nth (missL a b) 0),ai (nth (missL a b) 1),ai (nth (missL a b) 2),ai (nth (missL a b) 3),ai (nth (missL a b) 4),ai (nth (missL a b) 5),ai (nth (missL a b) 6),ai (nth (missL a b) 7),ai (nth (missL a b) 8),ai (nth (missL a b) 9),ai (nth (missL a b) 10),ai (nth (missL a b) 11)])) [] := by
  refine Sig.intro Try.func93 rfl 0 [(0,.e (.g [ai (nth a 0),ai (nth a 1),ai (nth a 2),ai (nth a 3),ai (nth a 4),ai (nth a 5),ai (nth a 6),ai (nth a 7),ai (nth a 8),ai (nth a 9),ai (nth a 10),ai (nth a 11)])),(1,.e (.g [ai (nth b 0),ai (nth b 1),ai (nth b 2),ai (nth b 3),ai (nth b 4),ai (nth b 5),ai (nth b 6),ai (nth b 7),ai (nth b 8),ai (nth b 9),ai (nth b 10),ai (nth b 11)]))] rfl w93 rfl rfl fun I w => ?_
  refine WP.seq (WP.region ?_)
  refine WPl.l 0 1 rfl rfl rfl (o_boxg rfl) ?_
  refine WPl.l 1 2 rfl rfl rfl (o_boxg rfl) ?_
  refine WPl.l 2 3 rfl rfl rfl (o_alloc Z81) ?_
  refine WPl.nil (EX.then (WP.seq (WP.region ?_)))
  refine WPl.v rfl (o_ldpa G81 rfl rfl rfl) ?_
  refine WPl.v rfl (o_ldpa G81 rfl rfl rfl) ?_
  refine WPl.imp (Imp.nam 3 4 (.func (.func 100) #[] #[]) (R := (Fn2 missF).and (Pred.is (.func (.func 100) #[] #[]))) (fun I => FvP.namee (fun (o : AddD) => (c100 o.1.1 o.1.2 o.2.1 o.2.2)) e100 (fun _ => (by simp [SV.res,El.res,At.res,keys])) I) rfl rfl) ?_
  refine WPl.cs 4 rfl rfl rfl rfl (o_sigc 4 (ren [(0,3)]) (c67G missF a b ha hb) e67 rfl rfl ⟨.inl rfl,.inl rfl,.inr ⟨_,_,rfl,fun _ => rfl,(lxr rfl)⟩,trivial⟩ w67G ⟨(lxl rfl),trivial⟩ r67G) ?_
  refine WPl.s1 (o_stag G81 rfl rfl rfl ⟨rfl,rfl,rfl,rfl,rfl,rfl,rfl,rfl,rfl,rfl,rfl,rfl,trivial⟩ rfl rfl) ?_
  refine WPl.nil (EX.then (WP.ret ?_))
  exact EX.fin id (.inl rfl) rfl (.cellg G81 rfl rfl rfl (.nil)) rfl r93 trivial (by simp) (by simp)
theorem w73 {a b : List Int} : ∀ x ∈ ([.e (.g [ai (nth a 0),ai (nth a 1),ai (nth a 2),ai (nth a 3),ai (nth a 4),ai (nth a 5),ai (nth a 6),ai (nth a 7),ai (nth a 8),ai (nth a 9),ai (nth a 10),ai (nth a 11)]),.e (.g [ai (nth b 0),ai (nth b 1),ai (nth b 2),ai (nth b 3),ai (nth b 4),ai (nth b 5),ai (nth b 6),ai (nth b 7),ai (nth b 8),ai (nth b 9),ai (nth b 10),ai (nth b 11)])] : List SV),x.res (keys (α := Pred) []) := by simp [SV.res,El.res,At.res,keys]
theorem r73 {a b : List Int} : SV.res (keys (α := Pred) []) (.b (hasV a b)) := by simp [SV.res,El.res,At.res,keys]
set_option maxHeartbeats 4000000 in
theorem c73 (a b : List Int) (ha : ShOK a) (hb : ShOK b) : Sig Try.prog 73 [.e (.g [ai (nth a 0),ai (nth a 1),ai (nth a 2),ai (nth a 3),ai (nth a 4),ai (nth a 5),ai (nth a 6),ai (nth a 7),ai (nth a 8),ai (nth a 9),ai (nth a 10),ai (nth a 11)]),.e (.g [ai (nth b 0),ai (nth b 1),ai (nth b 2),ai (nth b 3),ai (nth b 4),ai (nth b 5),ai (nth b 6),ai (nth b 7),ai (nth b 8),ai (nth b 9),ai (nth b 10),ai (nth b 11)])] [] (.b (hasV a b)) [] := by
  refine Sig.intro Try.func73 rfl 0 [(0,.e (.g [ai (nth a 0),ai (nth a 1),ai (nth a 2),ai (nth a 3),ai (nth a 4),ai (nth a 5),ai (nth a 6),ai (nth a 7),ai (nth a 8),ai (nth a 9),ai (nth a 10),ai (nth a 11)])),(1,.e (.g [ai (nth b 0),ai (nth b 1),ai (nth b 2),ai (nth b 3),ai (nth b 4),ai (nth b 5),ai (nth b 6),ai (nth b 7),ai (nth b 8),ai (nth b 9),ai (nth b 10),ai (nth b 11)]))] rfl w73 rfl rfl fun I w => ?_
  refine WP.seq (WP.region ?_)
  refine WPl.l 0 1 rfl rfl rfl (o_boxg rfl) ?_
  refine WPl.l 1 2 rfl rfl rfl (o_boxg rfl) ?_
  refine WPl.v rfl (o_assign rfl) ?_
  refine WPl.nil (EX.then (WP.seq (WP.region ?_)))
  refine WPl.v rfl (o_ldpa G81 rfl rfl rfl) ?_
  refine WPl.v rfl (o_ldpa G81 rfl rfl rfl) ?_
  refine WPl.cs 2 rfl rfl rfl rfl (o_sig 2 id (c93 a b ha hb) e93 rfl rfl rfl w93 trivial r93) ?_
  refine WPl.v rfl (o_bldz Try.underlying81 Try.sizeOf79 Z81) ?_
  refine WPl.v rfl (o_eqs (a := [nth (missL a b) 0,nth (missL a b) 1,nth (missL a b) 2,nth (missL a b) 3,nth (missL a b) 4,nth (missL a b) 5,nth (missL a b) 6,nth (missL a b) 7,nth (missL a b) 8,nth (missL a b) 9,nth (missL a b) 10,nth (missL a b) 11]) (b := [0,0,0,0,0,0,0,0,0,0,0,0]) Q81 rfl Try.eqGuardType81 rfl rfl rfl rfl) ?_
  refine WPl.v rfl (o_assign rfl) ?_
  refine WPl.nil (EX.then (WP.ret ?_))
  exact EX.fin id (.inl rfl) rfl (.tmp rfl .nil) rfl r73 trivial (by simp) (by simp)
theorem w45 {L : List Int} : ∀ x ∈ ([.e (.g [ai (nth L 0),ai (nth L 1),ai (nth L 2),ai (nth L 3),ai (nth L 4),ai (nth L 5),ai (nth L 6),ai (nth L 7),ai (nth L 8),ai (nth L 9),ai (nth L 10),ai (nth L 11)])] : List SV),x.res (keys (α := Pred) []) := by simp [SV.res,El.res,At.res,keys]
theorem r45 {L : List Int} : SV.res (keys (α := Pred) []) (.i (sumS L 12)) := by simp [SV.res,El.res,At.res,keys]
set_option maxHeartbeats 4000000 in
theorem c45 (L : List Int) (hL : ShOK L) : Sig Try.prog 45 [.e (.g [ai (nth L 0),ai (nth L 1),ai (nth L 2),ai (nth L 3),ai (nth L 4),ai (nth L 5),ai (nth L 6),ai (nth L 7),ai (nth L 8),ai (nth L 9),ai (nth L 10),ai (nth L 11)])] [] (.i (sumS L 12)) [] := by
  refine Sig.intro Try.func45 rfl 0 [(0,.e (.g [ai (nth L 0),ai (nth L 1),ai (nth L 2),ai (nth L 3),ai (nth L 4),ai (nth L 5),ai (nth L 6),ai (nth L 7),ai (nth L 8),ai (nth L 9),ai (nth L 10),ai (nth L 11)]))] rfl w45 rfl rfl fun I w => ?_
  refine WP.seq (WP.region ?_)
  refine WPl.l 0 1 rfl rfl rfl (o_boxg rfl) ?_
  refine WPl.v rfl (o_assign rfl) ?_
  refine WPl.nil (EX.then (WP.seq (WP.region ?_)))
  refine WPl.v rfl (o_assign rfl) ?_
  refine WPl.nil (EX.then (WP.seq (WP.seq (WP.region ?_))))
  refine WPl.v rfl (o_ldpa G81 rfl rfl rfl) ?_
  refine WPl.v rfl (o_move rfl) ?_
  refine WPl.nil (EX.then (WP.block ?_))
  refine WP.loop (Gh := Nat) (fun i => ⟨1,[(2,.i (0)),(3,.i (sumS L (3 * i))),(8,.e (.g [ai (nth L 0),ai (nth L 1),ai (nth L 2),ai (nth L 3),ai (nth L 4),ai (nth L 5),ai (nth L 6),ai (nth L 7),ai (nth L 8),ai (nth L 9),ai (nth L 10),ai (nth L 11)])),(9,.i ((i : Int)))],[],[],[],[]⟩) (fun i => i ≤ 4) (fun i => 4 - i) (0) id ?_ (LeR.of ⟨rfl,rfl,rfl,rfl,trivial⟩ trivial trivial rfl rfl rfl rfl rfl) ?_
  · first | trivial | omega | (constructor <;> omega) | simp
  intro i hφ
  have hi : i ≤ 4 := hφ
  refine WP.seq (WP.region ?_)
  refine WPl.v rfl (o_lss rfl rfl) ?_
  refine WPl.nil (EX.then (WP.seq ?_))
  refine WP.cond rfl (fun hc1 => ?_) (fun hc1 => ?_)
  · try simp only [cnd] at hc1
    refine WP.skip (EX.then (WP.seq (WP.block (WP.seq (WP.region ?_)))))
    refine WPl.v rfl (o_idxv Try.underlying81 G79 rfl rfl (by omega) (by omega) (row12 (by omega))) ?_
    refine WPl.l 1 2 rfl rfl rfl (o_alloc Z79) ?_
    refine WPl.s1 (o_stag G79 rfl rfl rfl ⟨rfl,rfl,rfl,trivial⟩ rfl rfl) ?_
    refine WPl.nil (EX.then (WP.seq (WP.region ?_)))
    refine WPl.v rfl (o_ldpa G79 rfl rfl rfl) ?_
    refine WPl.v rfl (o_move rfl) ?_
    refine WPl.nil (EX.then (WP.block ?_))
    refine WP.loop (Gh := Nat) (fun j => ⟨2,[(2,.i (0)),(3,.i (sumS L (3 * i + j))),(8,.e (.g [ai (nth L 0),ai (nth L 1),ai (nth L 2),ai (nth L 3),ai (nth L 4),ai (nth L 5),ai (nth L 6),ai (nth L 7),ai (nth L 8),ai (nth L 9),ai (nth L 10),ai (nth L 11)])),(9,.i ((i : Int))),(10,.b (decide ((i : Int) < 4))),(11,.e (.g [ai (nth L ((i : Int) * 3 + 0)),ai (nth L ((i : Int) * 3 + 1)),ai (nth L ((i : Int) * 3 + 2))])),(5,.e (.a (.p 1 (0)))),(12,.e (.g [ai (nth L ((i : Int) * 3 + 0)),ai (nth L ((i : Int) * 3 + 1)),ai (nth L ((i : Int) * 3 + 2))])),(13,.i ((j : Int)))],[],[(1,.blk [ai (nth L ((i : Int) * 3 + 0)),ai (nth L ((i : Int) * 3 + 1)),ai (nth L ((i : Int) * 3 + 2))] 79)],[],[]⟩) (fun j => j ≤ 3) (fun j => 3 - j) (0) id ?_ (LeR.of ⟨rfl,rfl,rfl,rfl,rfl,rfl,rfl,rfl,rfl,trivial⟩ trivial ⟨rfl,trivial⟩ rfl rfl rfl rfl rfl) ?_
    · first | trivial | omega | (constructor <;> omega) | simp
    intro j hφ
    have hj : j ≤ 3 := hφ
    refine WP.seq (WP.region ?_)
    refine WPl.v rfl (o_lss rfl rfl) ?_
    refine WPl.nil (EX.then (WP.seq ?_))
    refine WP.cond rfl (fun hc2 => ?_) (fun hc2 => ?_)
    · try simp only [cnd] at hc2
      refine WP.skip (EX.then (WP.seq (WP.block (WP.seq (WP.region ?_)))))
      have hij : ((3 * i + j : Nat) : Int) = (i : Int) * 3 + (j : Int) := by omega
      have hk1 := hL.b (3 * i + j) (by omega)
      rw [hij] at hk1
      have hsb := sumS_b hL (3 * i + j) (by omega)
      refine WPl.v rfl (o_idxv1 Try.underlying79 S3 rfl rfl (by omega) (by omega) (col3 (by omega))) ?_
      refine WPl.v rfl (o_assign rfl) ?_
      refine WPl.nil (EX.then (WP.region ?_))
      refine WPl.v rfl (o_move rfl) ?_
      refine WPl.v rfl (o_move rfl) ?_
      refine WPl.v rfl (o_add rfl rfl (by first | omega | (simp; omega)) (by first | omega | (simp; omega))) ?_
      refine WPl.v rfl (o_assign rfl) ?_
      refine WPl.nil (EX.blk (EX.then (WP.region ?_)))
      refine WPl.v rfl (o_add rfl rfl (by first | omega | (simp; omega)) (by first | omega | (simp; omega))) ?_
      refine WPl.v rfl (o_move rfl) ?_
      refine WPl.nil ?_
      refine EX.again (j + 1) id (by first | omega | (constructor <;> omega)) (by omega) (LeR.of ⟨rfl,(congrArg (fun z => some (SV.i z)) (show ((sumS L (3 * i + j)) + (nth L ((i : Int) * 3 + (j : Int)))) = ((fun j => sumS L (3 * i + j)) (j + 1)) from by dsimp only; rw [show 3 * i + (j + 1) = (3 * i + j) + 1 from rfl,sumS_step hij])),rfl,rfl,rfl,rfl,rfl,rfl,rfl,trivial⟩ trivial ⟨rfl,trivial⟩ rfl rfl rfl rfl rfl)
    · try simp only [cnd] at hc2
      refine WP.exit (EX.exit_then (EX.exit_then (EX.exit_blk (EX.blk (EX.then (WP.region ?_))))))
      refine WPl.v rfl (o_add rfl rfl (by first | omega | (simp; omega)) (by first | omega | (simp; omega))) ?_
      refine WPl.v rfl (o_move rfl) ?_
      refine WPl.nil ?_
      have hje : j = 3 := by omega
      refine EX.again (i + 1) id (by first | omega | (constructor <;> omega)) (by omega) (LeR.of ⟨rfl,(congrArg (fun z => some (SV.i z)) (show (sumS L (3 * i + j)) = ((fun i => sumS L (3 * i)) (i + 1)) from by dsimp only; rw [show 3 * i + j = 3 * (i + 1) by omega])),rfl,rfl,trivial⟩ trivial trivial rfl rfl rfl rfl rfl)
  · try simp only [cnd] at hc1
    refine WP.exit (EX.exit_then (EX.exit_then (EX.exit_blk (EX.then (WP.seq (WP.region ?_))))))
    refine WPl.v rfl (o_move rfl) ?_
    refine WPl.v rfl (o_assign rfl) ?_
    refine WPl.nil (EX.then (WP.ret ?_))
    have hie : i = 4 := by omega
    subst hie
    exact EX.fin id (.inl rfl) rfl (.tmp rfl .nil) rfl (by simp [SV.res,El.res,At.res,keys]) trivial (by simp) (by simp)
theorem w77 {s t : List Int} : ∀ x ∈ ([.e (.g [ai (nth s 0),ai (nth s 1),ai (nth s 2),ai (nth s 3),ai (nth s 4),ai (nth s 5),ai (nth s 6),ai (nth s 7),ai (nth s 8),ai (nth s 9),ai (nth s 10),ai (nth s 11)]),.e (.g [ai (nth t 0),ai (nth t 1),ai (nth t 2),ai (nth t 3),ai (nth t 4),ai (nth t 5),ai (nth t 6),ai (nth t 7),ai (nth t 8),ai (nth t 9),ai (nth t 10),ai (nth t 11)])] : List SV),x.res (keys (α := Pred) []) := by simp [SV.res,El.res,At.res,keys]
theorem r77 {s t : List Int} : SV.res (keys (α := Pred) []) (.i (befTo s t 4)) := by simp [SV.res,El.res,At.res,keys]
set_option maxHeartbeats 4000000 in
theorem c77 (s t : List Int)  : Sig Try.prog 77 [.e (.g [ai (nth s 0),ai (nth s 1),ai (nth s 2),ai (nth s 3),ai (nth s 4),ai (nth s 5),ai (nth s 6),ai (nth s 7),ai (nth s 8),ai (nth s 9),ai (nth s 10),ai (nth s 11)]),.e (.g [ai (nth t 0),ai (nth t 1),ai (nth t 2),ai (nth t 3),ai (nth t 4),ai (nth t 5),ai (nth t 6),ai (nth t 7),ai (nth t 8),ai (nth t 9),ai (nth t 10),ai (nth t 11)])] [] (.i (befTo s t 4)) [] := by
  refine Sig.intro Try.func77 rfl 0 [(0,.e (.g [ai (nth s 0),ai (nth s 1),ai (nth s 2),ai (nth s 3),ai (nth s 4),ai (nth s 5),ai (nth s 6),ai (nth s 7),ai (nth s 8),ai (nth s 9),ai (nth s 10),ai (nth s 11)])),(1,.e (.g [ai (nth t 0),ai (nth t 1),ai (nth t 2),ai (nth t 3),ai (nth t 4),ai (nth t 5),ai (nth t 6),ai (nth t 7),ai (nth t 8),ai (nth t 9),ai (nth t 10),ai (nth t 11)]))] rfl w77 rfl rfl fun I w => ?_
  refine WP.seq (WP.region ?_)
  refine WPl.l 0 1 rfl rfl rfl (o_boxg rfl) ?_
  refine WPl.l 1 2 rfl rfl rfl (o_boxg rfl) ?_
  refine WPl.v rfl (o_assign rfl) ?_
  refine WPl.nil (EX.then (WP.seq (WP.seq (WP.region ?_))))
  refine WPl.imp (Imp.frzb (E := (EArr 12)) (y := s) 0 2 3 rfl rfl (fun _ _ _ _ _ _ => rfl) rfl rfl rfl) ?_
  refine WPl.imp (Imp.frzb (E := (EArr 12)) (y := t) 1 3 4 rfl rfl (fun _ _ _ _ _ _ => rfl) rfl rfl rfl) ?_
  refine WPl.v rfl (o_move rfl) ?_
  refine WPl.nil (EX.then (WP.block ?_))
  refine WP.loop (Gh := Nat) (fun i => ⟨4,[(2,.e (.a (.q 2))),(3,.e (.a (.q 3))),(4,.i (0)),(7,.i ((i : Int)))],[(2,PP (EArr 12) (s)),(3,PP (EArr 12) (t))],[],[],[]⟩) (fun i => i ≤ 4 ∧ befTo s t i = 0) (fun i => 4 - i) (0) id ?_ (LeR.of ⟨rfl,rfl,rfl,rfl,trivial⟩ ⟨(lx rfl),(lx rfl),trivial⟩ trivial rfl rfl rfl rfl rfl) ?_
  · exact ⟨by omega,rfl⟩
  intro i hφ
  have hi : i ≤ 4 := hφ.1
  have hall := hφ.2
  refine WP.seq (WP.region ?_)
  refine WPl.v rfl (o_lss rfl rfl) ?_
  refine WPl.nil (EX.then (WP.seq ?_))
  refine WP.cond rfl (fun hc1 => ?_) (fun hc1 => ?_)
  · try simp only [cnd] at hc1
    refine WP.skip (EX.then (WP.seq (WP.block (WP.seq (WP.region ?_)))))
    refine WPl.v rfl (o_move rfl) ?_
    refine WPl.v rfl (o_assign rfl) ?_
    refine WPl.nil (EX.then (WP.seq ?_))
    refine WP.draw (nf := 6) [⟨[13,14,15],[5],[],[],[]⟩,⟨[13,14,15],[5],[],[],[0]⟩,⟨[13,14,15],[5],[4],[4],[0,1]⟩,⟨[10,11,12],[4],[],[],[]⟩,⟨[10,11,12],[4],[],[],[3]⟩,⟨[10,11,12],[4],[5],[5],[3,4]⟩,⟨[],[],[],[],[0,1,2,3,4,5]⟩,⟨[],[],[],[],[0,1,2,3,4,5,6]⟩] (by kernel_rfl) (by kernel_rfl) ?_
    refine DRQ.v rfl rfl rfl (o_move rfl) ?_
    refine DRQ.v rfl rfl rfl (o_idxqr A81 rfl (lx rfl) rfl (by first | omega | (simp; omega)) (by first | omega | (simp; omega))) ?_
    refine DRQ.x 4 rfl rfl rfl rfl (o_slArr (i := (i : Int)) Try.underlying79 S3 rfl (lx rfl) (by omega) (by omega) (by decide)) ?_
    refine DRQ.v rfl rfl rfl (o_move rfl) ?_
    refine DRQ.v rfl rfl rfl (o_idxqr A81 rfl (lx rfl) rfl (by first | omega | (simp; omega)) (by first | omega | (simp; omega))) ?_
    refine DRQ.x 5 rfl rfl rfl rfl (o_slArr (i := (i : Int)) Try.underlying79 S3 rfl (lx rfl) (by omega) (by omega) (by decide)) ?_
    refine DRQ.cs rfl rfl rfl rfl (o_sig 6 (ren [(0,4),(1,5)]) (c97 (partL t (i * 3) 3) (partL s (i * 3) 3) (by simp [partL]) (by simp [partL])) e97 rfl rfl rfl w97 ⟨(lx rfl),(lx rfl),trivial⟩ r97) ?_
    refine DRQ.v rfl rfl rfl (o_assign rfl) ?_
    refine DRQ.nil' ?_
    refine EX.then (WP.seq (WP.region ?_))
    refine WPl.v rfl (o_move rfl) ?_
    refine WPl.v rfl (o_neq rfl rfl) ?_
    refine WPl.nil (EX.then ?_)
    refine WP.cond rfl (fun hc2 => ?_) (fun hc2 => ?_)
    · try simp only [cnd] at hc2
      refine WP.seq (WP.region ?_)
      refine WPl.v rfl (o_move rfl) ?_
      refine WPl.v rfl (o_assign rfl) ?_
      refine WPl.nil (EX.then (WP.ret (EX.ret_blk (EX.ret_then (EX.ret_then (EX.ret_blk (EX.ret_then ?_)))))))
      rw [show befTo s t 4 = cmpL (partL t (i * 3) 3) (partL s (i * 3) 3) from befTo_hit (i := i + 1) (by rw [befTo,if_neg (by rw [hall]; simp)]) hc2 (by omega)]
      exact EX.fin id (.inl rfl) rfl (.tmp rfl .nil) rfl (by simp [SV.res,El.res,At.res,keys]) trivial (by simp) (by simp)
    · try simp only [cnd] at hc2
      refine WP.skip (EX.blk (EX.then (WP.region ?_)))
      refine WPl.v rfl (o_add rfl rfl (by first | omega | (simp; omega)) (by first | omega | (simp; omega))) ?_
      refine WPl.v rfl (o_move rfl) ?_
      refine WPl.nil ?_
      refine EX.again (i + 1) id (by exact ⟨by omega,by rw [befTo,if_neg (by rw [hall]; simp)]; exact hc2⟩) (by omega) (LeR.of ⟨rfl,rfl,rfl,rfl,trivial⟩ ⟨(lx rfl),(lx rfl),trivial⟩ trivial rfl rfl rfl rfl rfl)
  · try simp only [cnd] at hc1
    refine WP.exit (EX.exit_then (EX.exit_then (EX.exit_blk (EX.then (WP.seq (WP.region ?_))))))
    refine WPl.v rfl (o_assign rfl) ?_
    refine WPl.nil (EX.then (WP.ret ?_))
    rw [show befTo s t 4 = 0 from by rw [show 4 = i by omega]; exact hall]
    exact EX.fin id (.inl rfl) rfl (.tmp rfl .nil) rfl (by simp [SV.res,El.res,At.res,keys]) trivial (by simp) (by simp)
theorem w39 {h : Hall} : ∀ x ∈ ([.e (.g [.q 0,.q 1,.q 2,ai (h.change),.q 3,.q 4])] : List SV),x.res (keys (α := Pred) [(0,PL ETm (h.machs)),(1,PL EBd (h.buns)),(2,PL EP.int (h.trains)),(3,PL EP.int (h.bores)),(4,PL (EP.sl EP.int) (h.eds))]) := by simp [SV.res,El.res,At.res,keys]
theorem r39 {h : Hall} : SV.res (keys (α := Pred) [(0,PL EP.int (casesL h))]) (.e (.a (.q 0))) := by simp [SV.res,El.res,At.res,keys]
set_option maxHeartbeats 4000000 in
theorem c39 (h : Hall) (hh : HouC h) : Sig Try.prog 39 [.e (.g [.q 0,.q 1,.q 2,ai (h.change),.q 3,.q 4])] [(0,PL ETm (h.machs)),(1,PL EBd (h.buns)),(2,PL EP.int (h.trains)),(3,PL EP.int (h.bores)),(4,PL (EP.sl EP.int) (h.eds))] (.e (.a (.q 0))) [(0,PL EP.int (casesL h))] := by
  have hm3 := hh.m
  refine Sig.intro Try.func39 rfl 5 [(0,.e (.g [.q 0,.q 1,.q 2,ai (h.change),.q 3,.q 4]))] rfl w39 rfl rfl fun I w => ?_
  refine WP.seq (WP.region ?_)
  refine WPl.l 5 6 rfl rfl rfl (o_boxg rfl) ?_
  refine WPl.v rfl (o_assign rfl) ?_
  refine WPl.nil (EX.then (WP.seq (WP.region ?_)))
  refine WPl.l 6 7 rfl rfl rfl (o_bsl (E := EP.int) (l := [-1]) R24 rfl rfl (.cons (rfl) rfl (eok_int) (.nil)) rfl rfl) ?_
  refine WPl.v rfl (o_assign rfl) ?_
  refine WPl.nil (EX.then (WP.seq (WP.seq (WP.region ?_))))
  refine WPl.v rfl (o_fldp F75_0 rfl) ?_
  refine WPl.v rfl (o_fldp F29_0 rfl) ?_
  refine WPl.v rfl (o_fldp F26_0 rfl) ?_
  refine WPl.v rfl (o_ldp S22 rfl rfl rfl) ?_
  refine WPl.v rfl (o_lenq L22 rfl (lx rfl)) ?_
  refine WPl.v rfl (o_move rfl) ?_
  refine WPl.nil (EX.then (WP.block ?_))
  refine WP.loop (Gh := Nat) (fun i => ⟨7,[(2,.e (.a (.v (.slice none 0 0)))),(3,.e (.a (.q 6))),(10,.e (.a (.q 0))),(11,.i ((h.machs.length : Int))),(12,.i ((i : Int)))],[(0,PL ETm (h.machs))],[(6,.own 3 EP.int.size (cTo h i).length (RP EP.int (cTo h i)))],[],[]⟩) (fun i => i ≤ h.machs.length) (fun i => h.machs.length - i) (0) id ?_ (LeR.of ⟨rfl,rfl,rfl,rfl,rfl,trivial⟩ ⟨(lx rfl),trivial⟩ ⟨(congrArg (fun z => some (Ent.own 3 EP.int.size (List.length z) (RP EP.int z))) (show ([-1]) = ((fun i => cTo h i) 0) from rfl)),trivial⟩ rfl rfl rfl rfl rfl) ?_
  · first | trivial | omega | (constructor <;> omega) | simp
  intro i hφ
  have hi : i ≤ h.machs.length := hφ
  refine WP.seq (WP.region ?_)
  refine WPl.v rfl (o_lss rfl rfl) ?_
  refine WPl.nil (EX.then (WP.seq ?_))
  refine WP.cond rfl (fun hc1 => ?_) (fun hc1 => ?_)
  · try simp only [cnd] at hc1
    refine WP.skip (EX.then (WP.seq (WP.block (WP.seq (WP.region ?_)))))
    refine WPl.v rfl (o_move rfl) ?_
    refine WPl.x 7 8 rfl rfl rfl (o_idx L22 rfl (lx rfl) rfl (by first | omega | (simp; omega)) (by first | omega | (simp; omega))) ?_
    refine WPl.v rfl (o_ldqg G68 rfl (lx rfl) (strG rfl) rfl rfl) ?_
    refine WPl.l 8 9 rfl rfl rfl (o_alloc Z68) ?_
    refine WPl.v rfl (o_assign rfl) ?_
    refine WPl.s1 (o_stag G68 rfl rfl rfl ⟨rfl,rfl,rfl,trivial⟩ rfl rfl) ?_
    refine WPl.nil (EX.then (WP.seq (WP.region ?_)))
    refine WPl.v rfl (o_fldp F68_2 rfl) ?_
    refine WPl.v rfl (o_ldp S3 rfl rfl rfl) ?_
    refine WPl.v rfl (o_eql rfl rfl) ?_
    refine WPl.nil (EX.then ?_)
    refine WP.cond rfl (fun hc2 => ?_) (fun hc2 => ?_)
    · try simp only [cnd] at hc2
      refine WP.region ?_
      refine WPl.v rfl (o_move rfl) ?_
      refine WPl.v rfl (o_move rfl) ?_
      refine WPl.l 9 10 rfl rfl rfl (o_bsl (E := EP.int) (l := [(i : Int)]) R24 rfl rfl (.cons (rfl) rfl (eok_int) (.nil)) rfl rfl) ?_
      refine WPl.u1 (k := 10) (m := 11) rfl rfl rfl (o_appo R24 EP.int_one rfl rfl rfl rfl (by have := cTo_len h i; first | omega | (simp; omega)) (by have := cTo_len h i; first | omega | (simp; omega))) ?_
      refine WPl.v rfl (o_assign rfl) ?_
      refine WPl.nil (EX.blk (EX.then (WP.region ?_)))
      refine WPl.v rfl (o_add rfl rfl (by first | omega | (simp; omega)) (by first | omega | (simp; omega))) ?_
      refine WPl.v rfl (o_move rfl) ?_
      refine WPl.nil ?_
      refine EX.again (i + 1) (ren [(6,10)]) (by first | omega | (constructor <;> omega)) (by omega) (LeR.of ⟨rfl,rfl,rfl,rfl,rfl,trivial⟩ ⟨(lx rfl),trivial⟩ ⟨(congrArg (fun z => some (Ent.own 3 EP.int.size (List.length z) (RP EP.int z))) (show ((cTo h i) ++ [(i : Int)]) = ((fun i => cTo h i) (i + 1)) from by dsimp only; rw [cTo,if_pos hc2])),trivial⟩ rfl rfl rfl rfl rfl)
    · try simp only [cnd] at hc2
      refine WP.skip (EX.blk (EX.then (WP.region ?_)))
      refine WPl.v rfl (o_add rfl rfl (by first | omega | (simp; omega)) (by first | omega | (simp; omega))) ?_
      refine WPl.v rfl (o_move rfl) ?_
      refine WPl.nil ?_
      refine EX.again (i + 1) id (by first | omega | (constructor <;> omega)) (by omega) (LeR.of ⟨rfl,rfl,rfl,rfl,rfl,trivial⟩ ⟨(lx rfl),trivial⟩ ⟨(congrArg (fun z => some (Ent.own 3 EP.int.size (List.length z) (RP EP.int z))) (show (cTo h i) = ((fun i => cTo h i) (i + 1)) from by dsimp only; rw [cTo,if_neg hc2])),trivial⟩ rfl rfl rfl rfl rfl)
  · try simp only [cnd] at hc1
    refine WP.exit (EX.exit_then (EX.exit_then (EX.exit_blk (EX.then (WP.seq (WP.region ?_))))))
    refine WPl.v rfl (o_move rfl) ?_
    refine WPl.v rfl (o_assign rfl) ?_
    refine WPl.nil (EX.then (WP.ret ?_))
    refine EX.imp (Imp.frz (E := EP.int) (l := cTo h i) 6 rfl rfl) ?_
    rw [show casesL h = cTo h i from by unfold casesL; rw [show h.machs.length = i by omega]]
    exact EX.fin (ren [(0,6)]) (.inl rfl) rfl (.tmp rfl .nil) rfl (by simp [SV.res,El.res,At.res,keys]) ⟨(lx rfl),trivial⟩ (by simp) (by simp)
end Go.Flong
namespace Go.Flong
open Go Go.Eng Go.Proofs
theorem Z116 : Zero Try.prog 116 [.v (.map none)] := .mk Try.zeroValue116 rfl rfl
theorem Z117 : Zero Try.prog 117 [.v (.nilFunc)] := .mk Try.zeroValue117 rfl rfl
theorem e74 : Enters' Try.prog 74 := Try.call74
theorem R87 : RowT Try.prog 87 81 12 96 [.int .i64 0,.int .i64 0,.int .i64 0,.int .i64 0,.int .i64 0,.int .i64 0,.int .i64 0,.int .i64 0,.int .i64 0,.int .i64 0,.int .i64 0,.int .i64 0] := ⟨Try.underlying87,⟨Try.t81,_,by kernel_rfl,rfl,rfl,rfl,rfl⟩,rfl,by decide⟩
theorem e73 : Enters' Try.prog 73 := Try.call73
theorem w42 {h : Hall} {stop : Int} : ∀ x ∈ ([.e (.g [.q 0,.q 1,.q 2,ai (h.change),.q 3,.q 4]),.i (stop)] : List SV),x.res (keys (α := Pred) [(0,PL ETm (h.machs)),(1,PL EBd (h.buns)),(2,PL EP.int (h.trains)),(3,PL EP.int (h.bores)),(4,PL (EP.sl EP.int) (h.eds))]) := by simp [SV.res,El.res,At.res,keys]
theorem r42 {h : Hall} {stop : Int} : SV.res (keys (α := Pred) [(0,(NeedsP h stop))]) (.e (.a (.q 0))) := by simp [SV.res,El.res,At.res,keys]
set_option maxHeartbeats 4000000 in
theorem c42 (h : Hall) (stop : Int) (hm : h.Small) (hc : h.chk = true) (hst : -1 ≤ stop ∧ stop ≤ 100) : Sig Try.prog 42 [.e (.g [.q 0,.q 1,.q 2,ai (h.change),.q 3,.q 4]),.i (stop)] [(0,PL ETm (h.machs)),(1,PL EBd (h.buns)),(2,PL EP.int (h.trains)),(3,PL EP.int (h.bores)),(4,PL (EP.sl EP.int) (h.eds))] (.e (.a (.q 0))) [(0,(NeedsP h stop))] := by
  have hh : h.house = true := by simp only [Hall.chk,Hall.hallHd,Bool.and_eq_true] at hc; exact hc.1.1.1.1.1
  have hC := houC hh
  have hb5 := hC.b
  have hm3 := hC.m
  have hko := fun m (h1 : m < (needM h stop).length) => needM_ok (stop := stop) hc hb5 h1
  have hnl := needM_len hC stop
  refine Sig.intro Try.func42 rfl 5 [(0,.e (.g [.q 0,.q 1,.q 2,ai (h.change),.q 3,.q 4])),(1,.i (stop))] rfl w42 rfl rfl fun I w => ?_
  refine WP.seq (WP.region ?_)
  refine WPl.l 5 6 rfl rfl rfl (o_boxg rfl) ?_
  refine WPl.l 6 7 rfl rfl rfl (o_boxa rfl rfl) ?_
  refine WPl.v rfl (o_assign rfl) ?_
  refine WPl.nil (EX.then (WP.seq (WP.region ?_)))
  refine WPl.mkmapS true 12 7 8 rfl rfl rfl fun b12 => ?_
  refine WPl.allocq (u := .map (some b12)) Z116 trivial S116 rfl rfl rfl ?_
  refine WPl.nil (EX.then (WP.seq (WP.region ?_)))
  refine WPl.v rfl (o_fldp F75_0 rfl) ?_
  refine WPl.v rfl (o_fldp F29_0 rfl) ?_
  refine WPl.v rfl (o_fldp F26_0 rfl) ?_
  refine WPl.v rfl (o_ldp S22 rfl rfl rfl) ?_
  refine WPl.v rfl (o_lenq L22 rfl (lx rfl)) ?_
  refine WPl.mkrows (T1 := 3) h.machs.length 9 10 rfl rfl rfl R27 rfl rfl (by omega) (by omega) fun B0 hB0 => ?_
  refine WPl.allocq (u := rowsV B0 h.machs.length) Z27 trivial S27 rfl rfl rfl ?_
  refine WPl.nil (EX.then ?_)
  refine WP.imp (Imp.frzb (E := EHa) (y := h) 5 11 12 rfl rfl (bok_str ⟨⟨_,rfl,(lx rfl)⟩,⟨_,rfl,(lx rfl)⟩,⟨_,rfl,(lx rfl)⟩,rfl,⟨_,rfl,(lx rfl)⟩,⟨_,rfl,(lx rfl)⟩,trivial⟩) rfl rfl rfl) ?_
  refine WP.imp (Imp.frzb (E := EP.int) (y := stop) 6 12 13 rfl rfl (bok_int) rfl rfl rfl) ?_
  refine WP.knot (R := PlanH (Try.prog) (n1 := w.heap.size) I B0 b12 h stop (h.machs.length + h.buns.length + 1)) Z117 S117 rfl rfl rfl rfl (fun ε I1 a1 w1 hs1 I2 hle hcell => GoQ.knot (ι := Nat × Plan × Nat × MapL) (I0 := I) (ok := fun k => okN h.machs.length h.buns.length stop k) (cs := [.e (.a (.q 0)),.e (.a (.q 1)),.e (.a (.q 2)),.e (.a (.q 3)),.e (.a (.q 4))]) (Yi := fun i => plH (n1 := w.heap.size) B0 h.machs.length b12 i.2.1 i.2.2.2) (Yo := fun k i => plH (n1 := w.heap.size) B0 h.machs.length b12 i.2.1 (vis h i.2.2.2 (plansF h.machs.length h.buns.length stop k i.1 i.2.1))) (svs := fun i => [.i ((i.1 : Nat) : Int),.i ((i.2.2.1 : Nat) : Int)]) (X0 := fun _ => []) (Xc := fun k => [(0,PP (EP.box (Pred.is (rowsV B0 h.machs.length))) ()),(1,PP EHa h),(2,PP (EP.box (Pred.is (.map (some b12)))) ()),(3,PP (EP.box (PlanH Try.prog (n1 := w.heap.size) I B0 b12 h stop k)) ()),(4,PP EP.int stop)]) e74 (fun i h => Nat.not_lt_zero _ h.k1) (fun k i hi => c74 _ I B0 b12 h stop k i.1 i.2.1 i.2.2.1 i.2.2.2 hm hc hst hi) (fun _ _ => rfl) (fun _ => by simp [SV.res,El.res,At.res,keys]) (fun _ => by simp [SV.res,El.res,At.res,keys]) (ν := fun j => match j with | 0 => ε.ν 10 | 1 => ε.ν 11 | 2 => ε.ν 8 | 3 => .pointer (some ⟨ε.β 13,0,none⟩) | 4 => ε.ν 12 | _ => undef) rfl (fun k hG => ⟨(PP (EP.box (Pred.is (rowsV B0 h.machs.length))) ()).mono hle (hs1.has (lx rfl)),(PP EHa h).mono hle (hs1.has (lx rfl)),(PP (EP.box (Pred.is (.map (some b12)))) ()).mono hle (hs1.has (lx rfl)),pp_cell hcell hG,(PP EP.int stop).mono hle (hs1.has (lx rfl)),trivial⟩) (h.machs.length + h.buns.length + 1)) ?_
  refine WPl.nil (EX.then (WP.seq (WP.region ?_)))
  refine WPl.imp (Imp.addN 15 rfl rfl) ?_
  have hI0 : IH.le I I := IH.le.rfl'
  have hn1 : w.heap.size ≤ w.heap.size := Nat.le_refl _
  refine WPl.closeY (Y := noneY w.heap.size) (x := plX B0 24 3 h.machs.length (List.replicate h.machs.length [])) (y := fun _ => mapSP true 12 b12 []) (hx := fun _ => ⟨rowsXP.fine,mapSP.fine⟩) 15 9 7 ⟨List.replicate h.machs.length (.slice none 0 0),(by rw [List.length_replicate])⟩ rfl rfl rfl rfl (fun _ h => .inl h) (fun _ h => h.elim) fun F0 _ => ?_
  refine WPl.x 16 17 rfl rfl rfl (o_ldqx S117 rfl (lx rfl) boxx) ?_
  refine WPl.callH (Y' := plH (n1 := w.heap.size) B0 h.machs.length b12 (List.replicate h.machs.length []) (needM h stop)) 15 rfl rfl rfl rfl rfl (by refine goQ (I0 := I) (Yi := fun i : Nat × Plan × Nat × MapL => plH (n1 := w.heap.size) B0 h.machs.length b12 i.2.1 i.2.2.2) (Yo := fun i : Nat × Plan × Nat × MapL => plH (n1 := w.heap.size) B0 h.machs.length b12 i.2.1 (vis h i.2.2.2 (plansF h.machs.length h.buns.length stop (h.machs.length + h.buns.length + 1) i.1 i.2.1))) (ky := 15) (svs := (fun i => [.i ((i.1 : Nat) : Int),.i ((i.2.2.1 : Nat) : Int)])) (X0 := fun _ => []) id ((0,List.replicate h.machs.length [],0,[])) ?_ (okN_root hC stop) ?_ ?_ ?_ ?_ ?_ ?_; (exact (lx rfl)); (exact hI0); (exact hn1); (exact rfl); (exact SvsOK.rf); (simp [SV.res,El.res,At.res,keys]); (exact trivial)) fun v21 F1 hF1 => ?_
  refine WPl.nil (EX.then (WP.seq (WP.region ?_)))
  refine WPl.openY (ky := 15) (m := 19) (Y := noneY w.heap.size) (x := plX B0 24 3 h.machs.length (List.replicate h.machs.length [])) (y := fun _ => mapSP true 12 b12 (needM h stop)) (hx := fun _ => ⟨rowsXP.fine,mapSP.fine⟩) 17 18 rfl rfl rfl rfl fun F9 rv9 _ _ _ _ => ?_
  refine WPl.v rfl (o_assign rfl) ?_
  refine WPl.imp (Imp.namo (EArr 12) 19 20 81 rfl rfl) ?_
  refine WPl.imp (Imp.swF 8 19 rfl (lx rfl)) ?_
  refine WPl.nil (EX.then (WP.seq (WP.seq (WP.region ?_))))
  refine WPl.v rfl (o_ldqis S116 rfl (lx rfl)) ?_
  refine WPl.rangeM (km := 18) 20 21 rfl rfl rfl Try.underlying116 rfl rfl fun r23 => ?_
  refine WPl.nil (EX.then (WP.block ?_))
  refine WP.loop (Gh := List Nat) (fun s => ⟨21,[(4,.e (.a (.v (.slice none 0 0)))),(5,.e (.a (.q 8))),(8,.e (.a (.q 19))),(23,.e (.a (.v (.pointer (some ⟨r23,0,none⟩)))))],[(8,PP (EP.box (Pred.is (.map (some b12)))) ())],[(18,.ext (mapSP true 12 b12 (needM h stop))),(19,.own 81 (EArr 12).size (outN (needM h stop) s).length (RP (EArr 12) (outN (needM h stop) s))),(20,.ext (itXP r23 b12 ((needM h stop).length) s))],[],[]⟩) (fun s => SeenN (needM h stop).length s) (fun s => (needM h stop).length - s.length) ([]) id ?_ (LeR.of ⟨rfl,rfl,rfl,rfl,trivial⟩ ⟨(lx rfl),trivial⟩ ⟨rfl,(congrArg (fun z => some (Ent.own 81 (EArr 12).size (List.length z) (RP (EArr 12) z))) (show ([]) = ((fun s => outN (needM h stop) s) []) from rfl)),rfl,trivial⟩ rfl rfl rfl rfl rfl) ?_
  · exact SeenN.nil
  intro s hφ
  have hs : SeenN (needM h stop).length s := hφ
  refine WP.seq (WP.region ?_)
  refine WPl.nextM (km := 18) (ki := 20) rfl rfl rfl rfl (fun hall24 => ?_) (fun m24 hm24 hn24 kv24 vv24 => ?_)
  · skip
    refine WPl.v rfl (o_extract rfl rfl) ?_
    refine WPl.nil (EX.then (WP.seq ?_))
    refine WP.cond rfl (fun h => by cases h) (fun _ => ?_)
    refine WP.exit (EX.exit_then (EX.exit_then (EX.exit_blk (EX.then (WP.seq (WP.region ?_))))))
    refine WPl.v rfl (o_move rfl) ?_
    refine WPl.v rfl (o_assign rfl) ?_
    refine WPl.nil (EX.then (WP.ret ?_))
    refine EX.imp (Imp.frz (E := (EArr 12)) (l := outN (needM h stop) s) 19 rfl rfl) ?_
    skip
    exact EX.fin (ren [(0,19)]) (.inl rfl) rfl (.tmp rfl .nil) rfl (by simp [SV.res,El.res,At.res,keys]) ⟨(Has.of (lx rfl) (NeedsP.of (outN_ok hC hall24 hs))),trivial⟩ (by simp) (by simp)
  · skip
    refine WPl.v rfl (o_extract rfl rfl) ?_
    refine WPl.nil (EX.then (WP.seq ?_))
    refine WP.cond rfl (fun _ => ?_) (fun h => by cases h)
    refine WP.skip (EX.then (WP.block (WP.seq (WP.region ?_))))
    refine WPl.v rfl (o_entryM (m := m24) (km := 18) (ki := 20) (cs := [ai (nth (keyAt (needM h stop) m24) 0),ai (nth (keyAt (needM h stop) m24) 1),ai (nth (keyAt (needM h stop) m24) 2),ai (nth (keyAt (needM h stop) m24) 3),ai (nth (keyAt (needM h stop) m24) 4),ai (nth (keyAt (needM h stop) m24) 5),ai (nth (keyAt (needM h stop) m24) 6),ai (nth (keyAt (needM h stop) m24) 7),ai (nth (keyAt (needM h stop) m24) 8),ai (nth (keyAt (needM h stop) m24) 9),ai (nth (keyAt (needM h stop) m24) 10),ai (nth (keyAt (needM h stop) m24) 11)]) rfl rfl rfl rfl hm24) ?_
    refine WPl.v rfl (o_extract rfl rfl) ?_
    refine WPl.l 21 22 rfl rfl rfl (o_alloc Z81) ?_
    refine WPl.s1 (o_stag G81 rfl rfl rfl ⟨rfl,rfl,rfl,rfl,rfl,rfl,rfl,rfl,rfl,rfl,rfl,rfl,trivial⟩ rfl rfl) ?_
    refine WPl.nil (EX.then (WP.seq (WP.region ?_)))
    refine WPl.v rfl (o_assign rfl) ?_
    refine WPl.nil (EX.then (WP.seq (WP.seq (WP.region ?_))))
    refine WPl.v rfl (o_ldqis S116 rfl (lx rfl)) ?_
    refine WPl.rangeM (km := 18) 22 23 rfl rfl rfl Try.underlying116 rfl rfl fun r29 => ?_
    refine WPl.nil (EX.then (WP.block ?_))
    refine WP.loop (Gh := List Nat) (fun q => ⟨23,[(4,.e (.a (.v (.slice none 0 0)))),(5,.e (.a (.q 8))),(8,.e (.a (.q 19))),(23,.e (.a (.v (.pointer (some ⟨r23,0,none⟩))))),(24,.t [.a (.v (.bool (true))),.a (.v (kv24)),.a (.v (vv24))]),(25,.b (true)),(26,.t [.g [ai (nth (keyAt (needM h stop) m24) 0),ai (nth (keyAt (needM h stop) m24) 1),ai (nth (keyAt (needM h stop) m24) 2),ai (nth (keyAt (needM h stop) m24) 3),ai (nth (keyAt (needM h stop) m24) 4),ai (nth (keyAt (needM h stop) m24) 5),ai (nth (keyAt (needM h stop) m24) 6),ai (nth (keyAt (needM h stop) m24) 7),ai (nth (keyAt (needM h stop) m24) 8),ai (nth (keyAt (needM h stop) m24) 9),ai (nth (keyAt (needM h stop) m24) 10),ai (nth (keyAt (needM h stop) m24) 11)],.a (ai (valAt (needM h stop) m24))]),(27,.e (.g [ai (nth (keyAt (needM h stop) m24) 0),ai (nth (keyAt (needM h stop) m24) 1),ai (nth (keyAt (needM h stop) m24) 2),ai (nth (keyAt (needM h stop) m24) 3),ai (nth (keyAt (needM h stop) m24) 4),ai (nth (keyAt (needM h stop) m24) 5),ai (nth (keyAt (needM h stop) m24) 6),ai (nth (keyAt (needM h stop) m24) 7),ai (nth (keyAt (needM h stop) m24) 8),ai (nth (keyAt (needM h stop) m24) 9),ai (nth (keyAt (needM h stop) m24) 10),ai (nth (keyAt (needM h stop) m24) 11)])),(9,.e (.a (.p 21 (0)))),(10,.b (q.all (lessB (needM h stop) m24))),(28,.e (.a (.v (.map (some b12))))),(29,.e (.a (.v (.pointer (some ⟨r29,0,none⟩)))))],[(8,PP (EP.box (Pred.is (.map (some b12)))) ())],[(18,.ext (mapSP true 12 b12 (needM h stop))),(19,.own 81 (EArr 12).size (outN (needM h stop) s).length (RP (EArr 12) (outN (needM h stop) s))),(20,.ext (itXP r23 b12 ((needM h stop).length) (s ++ [m24]))),(21,.blk [ai (nth (keyAt (needM h stop) m24) 0),ai (nth (keyAt (needM h stop) m24) 1),ai (nth (keyAt (needM h stop) m24) 2),ai (nth (keyAt (needM h stop) m24) 3),ai (nth (keyAt (needM h stop) m24) 4),ai (nth (keyAt (needM h stop) m24) 5),ai (nth (keyAt (needM h stop) m24) 6),ai (nth (keyAt (needM h stop) m24) 7),ai (nth (keyAt (needM h stop) m24) 8),ai (nth (keyAt (needM h stop) m24) 9),ai (nth (keyAt (needM h stop) m24) 10),ai (nth (keyAt (needM h stop) m24) 11)] 81),(22,.ext (itXP r29 b12 ((needM h stop).length) q))],[],[]⟩) (fun q => SeenN (needM h stop).length q) (fun q => (needM h stop).length - q.length) ([]) id ?_ (LeR.of ⟨rfl,rfl,rfl,rfl,rfl,rfl,rfl,rfl,rfl,(congrArg (fun z => some (SV.b z)) (show (true) = ((fun q => q.all (lessB (needM h stop) m24)) []) from rfl)),rfl,rfl,trivial⟩ ⟨(lx rfl),trivial⟩ ⟨rfl,rfl,rfl,rfl,rfl,trivial⟩ rfl rfl rfl rfl rfl) ?_
    · exact SeenN.nil
    intro q hφ
    have hq : SeenN (needM h stop).length q := hφ
    refine WP.seq (WP.region ?_)
    refine WPl.nextM (km := 18) (ki := 22) rfl rfl rfl rfl (fun hall30 => ?_) (fun m30 hm30 hn30 kv30 vv30 => ?_)
    · skip
      refine WPl.v rfl (o_extract rfl rfl) ?_
      refine WPl.nil (EX.then (WP.seq ?_))
      refine WP.cond rfl (fun h => by cases h) (fun _ => ?_)
      refine WP.exit (EX.exit_then (EX.exit_then (EX.exit_blk (EX.then (WP.seq (WP.region ?_))))))
      refine WPl.v rfl (o_move rfl) ?_
      refine WPl.nil (EX.then ?_)
      refine WP.cond rfl (fun hc3 => ?_) (fun hc3 => ?_)
      · try simp only [cnd] at hc3
        have hle : leastB (needM h stop) m24 = true := by rw [← least_all hall30 hq]; exact hc3
        refine WP.region ?_
        refine WPl.v rfl (o_move rfl) ?_
        refine WPl.v rfl (o_ldpa G81 rfl rfl rfl) ?_
        refine WPl.l 23 24 rfl rfl rfl (o_bsl (E := (EArr 12)) (l := [(keyAt (needM h stop) m24)]) R87 rfl rfl (.cons (⟨rfl,rfl,rfl,rfl,rfl,rfl,rfl,rfl,rfl,rfl,rfl,rfl,trivial⟩) rfl (eok_fix (fun _ => rfl)) (.nil)) rfl rfl) ?_
        refine WPl.u1 (k := 24) (m := 25) rfl rfl rfl (o_appo R87 EArr_one rfl rfl rfl rfl (by have h1 := outN_len (needM h stop) s; have h2 := hs.le; first | omega | (simp; omega)) (by have h1 := outN_len (needM h stop) s; have h2 := hs.le; first | omega | (simp; omega))) ?_
        refine WPl.v rfl (o_assign rfl) ?_
        refine WPl.nil (EX.blk ?_)
        have hs2 := hs.add hm24 hn24
        have hsl := hs2.le
        rw [List.length_append,List.length_singleton] at hsl
        refine EX.again (s ++ [m24]) (ren [(19,24)]) (by exact hs2) (by rw [List.length_append,List.length_singleton]; omega) (LeR.of ⟨rfl,rfl,rfl,rfl,trivial⟩ ⟨(lx rfl),trivial⟩ ⟨rfl,(congrArg (fun z => some (Ent.own 81 (EArr 12).size (List.length z) (RP (EArr 12) z))) (show ((outN (needM h stop) s) ++ [(keyAt (needM h stop) m24)]) = ((fun s => outN (needM h stop) s) (s ++ [m24])) from by dsimp only; rw [outN_t hle])),rfl,trivial⟩ rfl rfl rfl rfl rfl)
      · try simp only [cnd] at hc3
        have hle : leastB (needM h stop) m24 = false := by rw [← least_all hall30 hq]; exact hc3
        refine WP.skip (EX.blk ?_)
        have hs2 := hs.add hm24 hn24
        have hsl := hs2.le
        rw [List.length_append,List.length_singleton] at hsl
        refine EX.again (s ++ [m24]) id (by exact hs2) (by rw [List.length_append,List.length_singleton]; omega) (LeR.of ⟨rfl,rfl,rfl,rfl,trivial⟩ ⟨(lx rfl),trivial⟩ ⟨rfl,(congrArg (fun z => some (Ent.own 81 (EArr 12).size (List.length z) (RP (EArr 12) z))) (show (outN (needM h stop) s) = ((fun s => outN (needM h stop) s) (s ++ [m24])) from by dsimp only; rw [outN_f hle])),rfl,trivial⟩ rfl rfl rfl rfl rfl)
    · skip
      refine WPl.v rfl (o_extract rfl rfl) ?_
      refine WPl.nil (EX.then (WP.seq ?_))
      refine WP.cond rfl (fun _ => ?_) (fun h => by cases h)
      refine WP.skip (EX.then (WP.block (WP.seq (WP.region ?_))))
      refine WPl.v rfl (o_entryM (m := m30) (km := 18) (ki := 22) (cs := [ai (nth (keyAt (needM h stop) m30) 0),ai (nth (keyAt (needM h stop) m30) 1),ai (nth (keyAt (needM h stop) m30) 2),ai (nth (keyAt (needM h stop) m30) 3),ai (nth (keyAt (needM h stop) m30) 4),ai (nth (keyAt (needM h stop) m30) 5),ai (nth (keyAt (needM h stop) m30) 6),ai (nth (keyAt (needM h stop) m30) 7),ai (nth (keyAt (needM h stop) m30) 8),ai (nth (keyAt (needM h stop) m30) 9),ai (nth (keyAt (needM h stop) m30) 10),ai (nth (keyAt (needM h stop) m30) 11)]) rfl rfl rfl rfl hm30) ?_
      refine WPl.v rfl (o_extract rfl rfl) ?_
      refine WPl.l 23 24 rfl rfl rfl (o_alloc Z81) ?_
      refine WPl.s1 (o_stag G81 rfl rfl rfl ⟨rfl,rfl,rfl,rfl,rfl,rfl,rfl,rfl,rfl,rfl,rfl,rfl,trivial⟩ rfl rfl) ?_
      refine WPl.nil (EX.then (WP.region ?_))
      refine WPl.v rfl (o_move rfl) ?_
      refine WPl.v rfl (o_move rfl) ?_
      refine WPl.bit 24 25 (q.all (lessB (needM h stop) m24)) rfl rfl ?_
      refine WPl.gv 24 rfl rfl (.plain rfl Iff.rfl rfl) (fun hb => o_ldpa G81 rfl rfl rfl) ?_
      refine WPl.gv 24 rfl rfl (.plain rfl Iff.rfl rfl) (fun hb => o_ldpa G81 rfl rfl rfl) ?_
      refine WPl.gv 24 rfl rfl (.plain rfl Iff.rfl rfl) (fun hb => o_eqs (a := [nth (keyAt (needM h stop) m24) 0,nth (keyAt (needM h stop) m24) 1,nth (keyAt (needM h stop) m24) 2,nth (keyAt (needM h stop) m24) 3,nth (keyAt (needM h stop) m24) 4,nth (keyAt (needM h stop) m24) 5,nth (keyAt (needM h stop) m24) 6,nth (keyAt (needM h stop) m24) 7,nth (keyAt (needM h stop) m24) 8,nth (keyAt (needM h stop) m24) 9,nth (keyAt (needM h stop) m24) 10,nth (keyAt (needM h stop) m24) 11]) (b := [nth (keyAt (needM h stop) m30) 0,nth (keyAt (needM h stop) m30) 1,nth (keyAt (needM h stop) m30) 2,nth (keyAt (needM h stop) m30) 3,nth (keyAt (needM h stop) m30) 4,nth (keyAt (needM h stop) m30) 5,nth (keyAt (needM h stop) m30) 6,nth (keyAt (needM h stop) m30) 7,nth (keyAt (needM h stop) m30) 8,nth (keyAt (needM h stop) m30) 9,nth (keyAt (needM h stop) m30) 10,nth (keyAt (needM h stop) m30) 11]) Q81 rfl Try.eqGuardType81 rfl rfl rfl rfl) ?_
      refine WPl.gv 24 rfl rfl (.plain rfl Iff.rfl rfl) (fun hb => o_move rfl) ?_
      refine WPl.bit 25 26 ((q.all (lessB (needM h stop) m24)) && !(decide ([nth (keyAt (needM h stop) m24) 0,nth (keyAt (needM h stop) m24) 1,nth (keyAt (needM h stop) m24) 2,nth (keyAt (needM h stop) m24) 3,nth (keyAt (needM h stop) m24) 4,nth (keyAt (needM h stop) m24) 5,nth (keyAt (needM h stop) m24) 6,nth (keyAt (needM h stop) m24) 7,nth (keyAt (needM h stop) m24) 8,nth (keyAt (needM h stop) m24) 9,nth (keyAt (needM h stop) m24) 10,nth (keyAt (needM h stop) m24) 11] = [nth (keyAt (needM h stop) m30) 0,nth (keyAt (needM h stop) m30) 1,nth (keyAt (needM h stop) m30) 2,nth (keyAt (needM h stop) m30) 3,nth (keyAt (needM h stop) m30) 4,nth (keyAt (needM h stop) m30) 5,nth (keyAt (needM h stop) m30) 6,nth (keyAt (needM h stop) m30) 7,nth (keyAt (needM h stop) m30) 8,nth (keyAt (needM h stop) m30) 9,nth (keyAt (needM h stop) m30) 10,nth (keyAt (needM h stop) m30) 11]))) rfl rfl ?_
      refine WPl.gv 25 rfl rfl (.nest rfl rfl (by first | (simp; done) | simp only [Bool.and_eq_true,Bool.not_eq_true']) rfl) (fun hb => o_ldpa G81 rfl rfl rfl) ?_
      refine WPl.gv 25 rfl rfl (.nest rfl rfl (by first | (simp; done) | simp only [Bool.and_eq_true,Bool.not_eq_true']) rfl) (fun hb => o_ldpa G81 rfl rfl rfl) ?_
      refine WPl.gc0 25 rfl rfl (.nest rfl rfl (by first | (simp; done) | simp only [Bool.and_eq_true,Bool.not_eq_true']) rfl) (fun hb => o_sig 26 id (c73 (keyAt (needM h stop) m24) (keyAt (needM h stop) m30) (hko _ hm24) (hko _ hm30)) e73 rfl rfl rfl w73 trivial r73) ?_
      refine WPl.gv 25 rfl rfl (.nest rfl rfl (by first | (simp; done) | simp only [Bool.and_eq_true,Bool.not_eq_true']) rfl) (fun hb => o_not rfl) ?_
      refine WPl.gv 24 rfl rfl (.plain rfl Iff.rfl rfl) (fun hb => o_or rfl rfl rfl (by first | (simp; done) | exact fun h => by rw [h]; rfl | exact fun h => Bool.and_eq_true_iff.2 ⟨hb,by rw [h]; rfl⟩ | simp_all)) ?_
      refine WPl.v rfl (o_and rfl rfl rfl id) ?_
      refine WPl.v rfl (o_assign rfl) ?_
      refine WPl.nil (EX.blk ?_)
      have hq2 := hq.add hm30 hn30
      have hql := hq2.le
      rw [List.length_append,List.length_singleton] at hql
      refine EX.again (q ++ [m30]) id (by exact hq2) (by rw [List.length_append,List.length_singleton]; omega) (LeR.of ⟨rfl,rfl,rfl,rfl,rfl,rfl,rfl,rfl,rfl,(congrArg (fun z => some (SV.b z)) (show ((q.all (lessB (needM h stop) m24)) && ((decide ([nth (keyAt (needM h stop) m24) 0,nth (keyAt (needM h stop) m24) 1,nth (keyAt (needM h stop) m24) 2,nth (keyAt (needM h stop) m24) 3,nth (keyAt (needM h stop) m24) 4,nth (keyAt (needM h stop) m24) 5,nth (keyAt (needM h stop) m24) 6,nth (keyAt (needM h stop) m24) 7,nth (keyAt (needM h stop) m24) 8,nth (keyAt (needM h stop) m24) 9,nth (keyAt (needM h stop) m24) 10,nth (keyAt (needM h stop) m24) 11] = [nth (keyAt (needM h stop) m30) 0,nth (keyAt (needM h stop) m30) 1,nth (keyAt (needM h stop) m30) 2,nth (keyAt (needM h stop) m30) 3,nth (keyAt (needM h stop) m30) 4,nth (keyAt (needM h stop) m30) 5,nth (keyAt (needM h stop) m30) 6,nth (keyAt (needM h stop) m30) 7,nth (keyAt (needM h stop) m30) 8,nth (keyAt (needM h stop) m30) 9,nth (keyAt (needM h stop) m30) 10,nth (keyAt (needM h stop) m30) 11])) || (!(hasV (keyAt (needM h stop) m24) (keyAt (needM h stop) m30))))) = ((fun q => q.all (lessB (needM h stop) m24)) (q ++ [m30])) from by dsimp only; rw [List.all_append]; simp [lessB,key12])),rfl,rfl,trivial⟩ ⟨(lx rfl),trivial⟩ ⟨rfl,rfl,rfl,rfl,rfl,trivial⟩ rfl rfl rfl rfl rfl)
end Go.Flong
namespace Go.Flong
open Go Go.Eng Go.Proofs
theorem L87 : IsSl Try.prog 87 81 12 := ⟨Try.underlying87,Try.sizeOf81⟩
abbrev HitS (h : List Int → Bool) : Pred := Pred.fall fun (o : ShT) => FvP Try.prog [.e (.g [ai (nth o.1 0),ai (nth o.1 1),ai (nth o.1 2),ai (nth o.1 3),ai (nth o.1 4),ai (nth o.1 5),ai (nth o.1 6),ai (nth o.1 7),ai (nth o.1 8),ai (nth o.1 9),ai (nth o.1 10),ai (nth o.1 11)])] [] (.b (h o.1)) []
theorem e92 : Enters' Try.prog 92 := Try.call92
theorem e72 : Enters' Try.prog 72 := Try.call72
theorem e39 : Enters' Try.prog 39 := Try.call39
theorem e42 : Enters' Try.prog 42 := Try.call42
theorem R91 : RowT Try.prog 91 87 1 24 [.slice none 0 0] := ⟨Try.underlying91,⟨Try.t87,_,by kernel_rfl,rfl,rfl,rfl,rfl⟩,rfl,by decide⟩
theorem w92 {l : List (List Int)} {h : List Int → Bool} : ∀ x ∈ ([.e (.a (.q 0)),.e (.a (.q 1))] : List SV),x.res (keys (α := Pred) [(0,PL (EArr 12) (l)),(1,HitS h)]) := by simp [SV.res,El.res,At.res,keys]
theorem r92 {l : List (List Int)} {h : List Int → Bool} : SV.res (keys (α := Pred) []) (.i (idxG h l)) := by simp [SV.res,El.res,At.res,keys]
set_option maxHeartbeats 4000000 in
theorem c92 (l : List (List Int)) (h : List Int → Bool) (hl : l.length ≤ 100000000) (hd : ∀ i : Nat,i < l.length → ShOK (nth l (i : Int))) : Sig Try.prog 92 [.e (.a (.q 0)),.e (.a (.q 1))] [(0,PL (EArr 12) (l)),(1,HitS h)] (.i (idxG h l)) [] := by
  refine Sig.intro Try.func92 rfl 2 [(0,.e (.a (.q 0))),(1,.e (.a (.q 1)))] rfl w92 rfl rfl fun I w => ?_
  refine WP.seq (WP.region ?_)
  refine WPl.v rfl (o_assign rfl) ?_
  refine WPl.nil (EX.then (WP.seq (WP.seq (WP.region ?_))))
  refine WPl.v rfl (o_move rfl) ?_
  refine WPl.v rfl (o_lenq L87 rfl (lx rfl)) ?_
  refine WPl.v rfl (o_move rfl) ?_
  refine WPl.nil (EX.then (WP.block ?_))
  refine WP.loop (Gh := Nat) (fun i => ⟨2,[(0,.e (.a (.q 0))),(1,.e (.a (.q 1))),(4,.i (0)),(7,.i ((l.length : Int))),(8,.i ((i : Int)))],[(0,PL (EArr 12) (l)),(1,HitS h)],[],[],[]⟩) (fun i => i ≤ l.length ∧ allI (missG h l) i = true) (fun i => l.length - i) (0) id ?_ (LeR.of ⟨rfl,rfl,rfl,rfl,rfl,trivial⟩ ⟨(lx rfl),(lx rfl),trivial⟩ trivial rfl rfl rfl rfl rfl) ?_
  · exact ⟨by omega,rfl⟩
  intro i hφ
  have hi : i ≤ l.length := hφ.1
  have hall := hφ.2
  refine WP.seq (WP.region ?_)
  refine WPl.v rfl (o_lss rfl rfl) ?_
  refine WPl.nil (EX.then (WP.seq ?_))
  refine WP.cond rfl (fun hc1 => ?_) (fun hc1 => ?_)
  · try simp only [cnd] at hc1
    refine WP.skip (EX.then (WP.seq (WP.block (WP.seq (WP.region ?_)))))
    refine WPl.v rfl (o_move rfl) ?_
    refine WPl.v rfl (o_assign rfl) ?_
    refine WPl.nil (EX.then (WP.seq (WP.region ?_)))
    refine WPl.v rfl (o_move rfl) ?_
    refine WPl.v rfl (o_move rfl) ?_
    refine WPl.v rfl (o_move rfl) ?_
    refine WPl.x 2 3 rfl rfl rfl (o_idx L87 rfl (lx rfl) rfl (by first | omega | (simp; omega)) (by first | omega | (simp; omega))) ?_
    refine WPl.v rfl (o_ldqg G81 rfl (lx rfl) (fixg rfl) rfl rfl) ?_
    refine WPl.cs 3 rfl rfl rfl rfl (o_callfv (svs := [.e (.g [ai (nth (⟨nth l (i : Int),hd i (by omega)⟩ : ShT).1 0),ai (nth (⟨nth l (i : Int),hd i (by omega)⟩ : ShT).1 1),ai (nth (⟨nth l (i : Int),hd i (by omega)⟩ : ShT).1 2),ai (nth (⟨nth l (i : Int),hd i (by omega)⟩ : ShT).1 3),ai (nth (⟨nth l (i : Int),hd i (by omega)⟩ : ShT).1 4),ai (nth (⟨nth l (i : Int),hd i (by omega)⟩ : ShT).1 5),ai (nth (⟨nth l (i : Int),hd i (by omega)⟩ : ShT).1 6),ai (nth (⟨nth l (i : Int),hd i (by omega)⟩ : ShT).1 7),ai (nth (⟨nth l (i : Int),hd i (by omega)⟩ : ShT).1 8),ai (nth (⟨nth l (i : Int),hd i (by omega)⟩ : ShT).1 9),ai (nth (⟨nth l (i : Int),hd i (by omega)⟩ : ShT).1 10),ai (nth (⟨nth l (i : Int),hd i (by omega)⟩ : ShT).1 11)])]) 3 id rfl (show Has _ 1 (FvP Try.prog [.e (.g [ai (nth (⟨nth l (i : Int),hd i (by omega)⟩ : ShT).1 0),ai (nth (⟨nth l (i : Int),hd i (by omega)⟩ : ShT).1 1),ai (nth (⟨nth l (i : Int),hd i (by omega)⟩ : ShT).1 2),ai (nth (⟨nth l (i : Int),hd i (by omega)⟩ : ShT).1 3),ai (nth (⟨nth l (i : Int),hd i (by omega)⟩ : ShT).1 4),ai (nth (⟨nth l (i : Int),hd i (by omega)⟩ : ShT).1 5),ai (nth (⟨nth l (i : Int),hd i (by omega)⟩ : ShT).1 6),ai (nth (⟨nth l (i : Int),hd i (by omega)⟩ : ShT).1 7),ai (nth (⟨nth l (i : Int),hd i (by omega)⟩ : ShT).1 8),ai (nth (⟨nth l (i : Int),hd i (by omega)⟩ : ShT).1 9),ai (nth (⟨nth l (i : Int),hd i (by omega)⟩ : ShT).1 10),ai (nth (⟨nth l (i : Int),hd i (by omega)⟩ : ShT).1 11)])] [] (.b (h (⟨nth l (i : Int),hd i (by omega)⟩ : ShT).1)) []) from (Has.of (lx rfl) fun _ _ h => Pred.fall_at h ((⟨nth l (i : Int),hd i (by omega)⟩ : ShT)))) rfl rfl SvsOK.rf (by simp [SV.res,El.res,At.res,keys]) trivial (by simp [SV.res,El.res,At.res,keys])) ?_
    refine WPl.nil (EX.then ?_)
    refine WP.cond rfl (fun hc2 => ?_) (fun hc2 => ?_)
    · try simp only [cnd] at hc2
      refine WP.seq (WP.region ?_)
      refine WPl.v rfl (o_move rfl) ?_
      refine WPl.v rfl (o_assign rfl) ?_
      refine WPl.nil (EX.then (WP.ret (EX.ret_blk (EX.ret_then (EX.ret_then (EX.ret_blk (EX.ret_then ?_)))))))
      rw [show idxG h l = (i : Int) from idxG_at (by omega) hall hc2]
      exact EX.fin id (.inl rfl) rfl (.tmp rfl .nil) rfl (by simp [SV.res,El.res,At.res,keys]) trivial (by simp) (by simp)
    · try simp only [cnd] at hc2
      refine WP.skip (EX.blk (EX.then (WP.region ?_)))
      refine WPl.v rfl (o_add rfl rfl (by first | omega | (simp; omega)) (by first | omega | (simp; omega))) ?_
      refine WPl.v rfl (o_move rfl) ?_
      refine WPl.nil ?_
      refine EX.again (i + 1) id (by exact ⟨by omega,by simp only [allI,hall,Bool.true_and,missG]; rw [hc2]; rfl⟩) (by omega) (LeR.of ⟨rfl,rfl,rfl,rfl,rfl,trivial⟩ ⟨(lx rfl),(lx rfl),trivial⟩ trivial rfl rfl rfl rfl rfl)
  · try simp only [cnd] at hc1
    refine WP.exit (EX.exit_then (EX.exit_then (EX.exit_blk (EX.then (WP.seq (WP.region ?_))))))
    refine WPl.v rfl (o_assign rfl) ?_
    refine WPl.nil (EX.then (WP.ret ?_))
    rw [show idxG h l = -1 from idxG_none (by rw [show l.length = i by omega]; exact hall)]
    exact EX.fin id (.inl rfl) rfl (.tmp rfl .nil) rfl (by simp [SV.res,El.res,At.res,keys]) trivial (by simp) (by simp)
theorem w72 {l : List (List Int)} {h : List Int → Bool} : ∀ x ∈ ([.e (.a (.q 0)),.e (.a (.q 1))] : List SV),x.res (keys (α := Pred) [(0,PL (EArr 12) (l)),(1,HitS h)]) := by simp [SV.res,El.res,At.res,keys]
theorem r72 {l : List (List Int)} {h : List Int → Bool} : SV.res (keys (α := Pred) []) (.b (anyG h l)) := by simp [SV.res,El.res,At.res,keys]
set_option maxHeartbeats 4000000 in
theorem c72 (l : List (List Int)) (h : List Int → Bool) (hl : l.length ≤ 100000000) (hd : ∀ i : Nat,i < l.length → ShOK (nth l (i : Int))) : Sig Try.prog 72 [.e (.a (.q 0)),.e (.a (.q 1))] [(0,PL (EArr 12) (l)),(1,HitS h)] (.b (anyG h l)) [] := by
  refine Sig.intro Try.func72 rfl 2 [(0,.e (.a (.q 0))),(1,.e (.a (.q 1)))] rfl w72 rfl rfl fun I w => ?_
  refine WP.seq (WP.region ?_)
  refine WPl.v rfl (o_assign rfl) ?_
  refine WPl.nil (EX.then (WP.seq (WP.region ?_)))
  refine WPl.v rfl (o_move rfl) ?_
  refine WPl.v rfl (o_move rfl) ?_
  refine WPl.cs 2 rfl rfl rfl rfl (o_sig 2 (ren [(0,0),(1,1)]) (c92 l h hl hd) e92 rfl rfl rfl w92 ⟨(lx rfl),(lx rfl),trivial⟩ r92) ?_
  refine WPl.v rfl (o_geq rfl rfl) ?_
  refine WPl.v rfl (o_assign rfl) ?_
  refine WPl.nil (EX.then (WP.ret ?_))
  rw [← idxG_any]
  exact EX.fin id (.inl rfl) rfl (.tmp rfl .nil) rfl (by simp [SV.res,El.res,At.res,keys]) trivial (by simp) (by simp)
theorem w41 {s : List Int} {h : Hall} {stop : Int} : ∀ x ∈ ([.e (.g [ai (nth s 0),ai (nth s 1),ai (nth s 2),ai (nth s 3),ai (nth s 4),ai (nth s 5),ai (nth s 6),ai (nth s 7),ai (nth s 8),ai (nth s 9),ai (nth s 10),ai (nth s 11)]),.e (.a (.q 0))] : List SV),x.res (keys (α := Pred) [(0,(NeedsP h stop))]) := by simp [SV.res,El.res,At.res,keys]
theorem r41 {s : List Int} {h : Hall} {stop : Int} : SV.res (keys (α := Pred) []) (.b (doesN h stop s)) := by simp [SV.res,El.res,At.res,keys]
set_option maxHeartbeats 4000000 in
theorem c41 (s : List Int) (h : Hall) (stop : Int) (hs : ShOK s) (hc : h.chk = true) (hB : h.buns.length ≤ 5) : Sig Try.prog 41 [.e (.g [ai (nth s 0),ai (nth s 1),ai (nth s 2),ai (nth s 3),ai (nth s 4),ai (nth s 5),ai (nth s 6),ai (nth s 7),ai (nth s 8),ai (nth s 9),ai (nth s 10),ai (nth s 11)]),.e (.a (.q 0))] [(0,(NeedsP h stop))] (.b (doesN h stop s)) [] := by
  refine Sig.intro Try.func41 rfl 1 [(0,.e (.g [ai (nth s 0),ai (nth s 1),ai (nth s 2),ai (nth s 3),ai (nth s 4),ai (nth s 5),ai (nth s 6),ai (nth s 7),ai (nth s 8),ai (nth s 9),ai (nth s 10),ai (nth s 11)])),(1,.e (.a (.q 0)))] rfl w41 rfl rfl fun I w => ?_
  refine WP.seq (WP.region ?_)
  refine WPl.exp (P := NeedsOK h stop) (R' := fun L => PL (EArr 12) L) 0 rfl (fun _ _ h => h) fun L hL => ?_
  refine WPl.l 1 2 rfl rfl rfl (o_boxg rfl) ?_
  refine WPl.v rfl (o_assign rfl) ?_
  refine WPl.nil (EX.then (WP.seq (WP.region ?_)))
  refine WPl.v rfl (o_move rfl) ?_
  refine WPl.v rfl (o_ldpa G81 rfl rfl rfl) ?_
  refine WPl.x 2 3 rfl rfl rfl (o_mkfvr (svs := fun (o : ShT) => [.e (.g [ai (nth o.1 0),ai (nth o.1 1),ai (nth o.1 2),ai (nth o.1 3),ai (nth o.1 4),ai (nth o.1 5),ai (nth o.1 6),ai (nth o.1 7),ai (nth o.1 8),ai (nth o.1 9),ai (nth o.1 10),ai (nth o.1 11)])]) (X0 := fun (o : ShT) => []) (sv := fun (o : ShT) => .b ((fun x0 => hasV s x0) o.1)) (X := fun (o : ShT) => []) (bs := [.e (.g [ai (nth s 0),ai (nth s 1),ai (nth s 2),ai (nth s 3),ai (nth s 4),ai (nth s 5),ai (nth s 6),ai (nth s 7),ai (nth s 8),ai (nth s 9),ai (nth s 10),ai (nth s 11)])]) 2 (fun (o : ShT) => (c73 s o.1 hs o.2)) e73 rfl (fun ε ε' x hx => by rw [List.mem_singleton] at hx; subst hx; rfl)) ?_
  refine WPl.cs 3 rfl rfl rfl rfl (o_sig 3 (ren [(0,0),(1,2)]) (c72 L (fun x0 => hasV s x0) (by have := hL.n; omega) (fun i hi => hL.sh hc hB hi)) e72 rfl rfl rfl w72 ⟨(lx rfl),(lx rfl),trivial⟩ r72) ?_
  refine WPl.v rfl (o_assign rfl) ?_
  refine WPl.nil (EX.then (WP.ret ?_))
  rw [← does_any hL]
  exact EX.fin id (.inl rfl) rfl (.tmp rfl .nil) rfl (by simp [SV.res,El.res,At.res,keys]) trivial (by simp) (by simp)
theorem w44 {h : Hall} : ∀ x ∈ ([.e (.g [.q 0,.q 1,.q 2,ai (h.change),.q 3,.q 4])] : List SV),x.res (keys (α := Pred) [(0,PL ETm (h.machs)),(1,PL EBd (h.buns)),(2,PL EP.int (h.trains)),(3,PL EP.int (h.bores)),(4,PL (EP.sl EP.int) (h.eds))]) := by simp [SV.res,El.res,At.res,keys]
theorem r44 {h : Hall} : SV.res (keys (α := Pred) [(0,(AllP h))]) (.e (.a (.q 0))) := by simp [SV.res,El.res,At.res,keys]
set_option maxHeartbeats 4000000 in
theorem c44 (h : Hall) (hm : h.Small) (hc : h.chk = true) : Sig Try.prog 44 [.e (.g [.q 0,.q 1,.q 2,ai (h.change),.q 3,.q 4])] [(0,PL ETm (h.machs)),(1,PL EBd (h.buns)),(2,PL EP.int (h.trains)),(3,PL EP.int (h.bores)),(4,PL (EP.sl EP.int) (h.eds))] (.e (.a (.q 0))) [(0,(AllP h))] := by
  have hh : h.house = true := by simp only [Hall.chk,Hall.hallHd,Bool.and_eq_true] at hc; exact hc.1.1.1.1.1
  have hC := houC hh
  have hb5 := hC.b
  have hm3 := hC.m
  have hcl : (casesL h).length ≤ 4 := by have := cTo_len h h.machs.length; unfold casesL; omega
  refine Sig.intro Try.func44 rfl 5 [(0,.e (.g [.q 0,.q 1,.q 2,ai (h.change),.q 3,.q 4]))] rfl w44 rfl rfl fun I w => ?_
  refine WP.seq (WP.region ?_)
  refine WPl.l 5 6 rfl rfl rfl (o_boxg rfl) ?_
  refine WPl.v rfl (o_assign rfl) ?_
  refine WPl.imp (Imp.namo (EP.sl (EArr 12)) 6 7 87 rfl rfl) ?_
  refine WPl.imp (Imp.swF 2 6 rfl (lx rfl)) ?_
  refine WPl.nil (EX.then (WP.seq (WP.seq (WP.region ?_))))
  refine WPl.v rfl (o_ldpa G75 rfl rfl rfl) ?_
  refine WPl.cs 8 rfl rfl rfl rfl (o_sig 7 (ren [(0,0),(1,1),(2,2),(3,3),(4,4)]) (c39 h hC) e39 rfl rfl rfl w39 ⟨(lx rfl),(lx rfl),(lx rfl),(lx rfl),(lx rfl),trivial⟩ r39) ?_
  refine WPl.v rfl (o_lenq L24 rfl (lx rfl)) ?_
  refine WPl.v rfl (o_move rfl) ?_
  refine WPl.nil (EX.then (WP.block ?_))
  refine WP.loop (Gh := Nat × List (List (List Int))) (fun (⟨i,Ls⟩ : Nat × List (List (List Int))) => ⟨8,[(1,.e (.a (.p 5 (0)))),(2,.e (.a (.q 6))),(6,.e (.a (.q 7))),(7,.i (((casesL h).length : Int))),(8,.i ((i : Int)))],[(0,PL ETm (h.machs)),(1,PL EBd (h.buns)),(2,PL EP.int (h.trains)),(3,PL EP.int (h.bores)),(4,PL (EP.sl EP.int) (h.eds)),(7,PL EP.int (casesL h))],[(5,.blk [.q 0,.q 1,.q 2,ai (h.change),.q 3,.q 4] 75),(6,.own 87 (EP.sl (EArr 12)).size (Ls).length (RP (EP.sl (EArr 12)) (Ls)))],[],[]⟩) (fun (⟨i,Ls⟩ : Nat × List (List (List Int))) => i ≤ (casesL h).length ∧ AllTo h i Ls) (fun (⟨i,Ls⟩ : Nat × List (List (List Int))) => (casesL h).length - i) ((0,[])) id ?_ (LeR.of ⟨rfl,rfl,rfl,rfl,rfl,trivial⟩ ⟨(lx rfl),(lx rfl),(lx rfl),(lx rfl),(lx rfl),(lx rfl),trivial⟩ ⟨rfl,rfl,trivial⟩ rfl rfl rfl rfl rfl) ?_
  · exact ⟨by omega,AllTo.nil⟩
  rintro ⟨i,Ls⟩ hφ
  obtain ⟨hi,hA⟩ : i ≤ (casesL h).length ∧ AllTo h i Ls := hφ
  refine WP.seq (WP.region ?_)
  refine WPl.v rfl (o_lss rfl rfl) ?_
  refine WPl.nil (EX.then (WP.seq ?_))
  refine WP.cond rfl (fun hc1 => ?_) (fun hc1 => ?_)
  · try simp only [cnd] at hc1
    refine WP.skip (EX.then (WP.seq (WP.block (WP.seq (WP.region ?_)))))
    have hcb := cases_b (show i < (casesL h).length by omega)
    refine WPl.x 8 9 rfl rfl rfl (o_idx L24 rfl (lx rfl) rfl (by first | omega | (simp; omega)) (by first | omega | (simp; omega))) ?_
    refine WPl.v rfl (o_ldq S3 rfl (lx rfl) intc) ?_
    refine WPl.v rfl (o_assign rfl) ?_
    refine WPl.nil (EX.then (WP.region ?_))
    refine WPl.v rfl (o_move rfl) ?_
    refine WPl.v rfl (o_ldpa G75 rfl rfl rfl) ?_
    refine WPl.v rfl (o_move rfl) ?_
    refine WPl.cs 10 rfl rfl rfl rfl (o_sig 9 (ren [(0,0),(1,1),(2,2),(3,3),(4,4)]) (c42 h (nth (casesL h) (i : Int)) hm hc (by omega)) e42 rfl rfl rfl w42 ⟨(lx rfl),(lx rfl),(lx rfl),(lx rfl),(lx rfl),trivial⟩ r42) ?_
    refine WPl.exp (P := NeedsOK h (nth (casesL h) (i : Int))) (R' := fun L => PL (EArr 12) L) 9 rfl (fun _ _ h => h) fun L15 hL15 => ?_
    refine WPl.l 10 11 rfl rfl rfl (o_bsl (E := (EP.sl (EArr 12))) (l := [L15]) R91 rfl rfl (.cons ((.inl ⟨_,(lx rfl),PL.one⟩)) rfl (eok_sl (lx rfl)) (.nil)) rfl rfl) ?_
    refine WPl.u1 (k := 11) (m := 12) rfl rfl rfl (o_appo R91 EP.sl_one rfl rfl rfl rfl (by have := hA.n; first | omega | (simp; omega)) (by have := hA.n; first | omega | (simp; omega))) ?_
    refine WPl.v rfl (o_assign rfl) ?_
    refine WPl.nil (EX.blk (EX.then (WP.region ?_)))
    refine WPl.v rfl (o_add rfl rfl (by first | omega | (simp; omega)) (by first | omega | (simp; omega))) ?_
    refine WPl.v rfl (o_move rfl) ?_
    refine WPl.nil ?_
    refine EX.again ((i + 1,Ls ++ [L15])) (ren [(6,11)]) (by exact ⟨by omega,hA.add hL15⟩) (by first | omega | (dsimp only; omega) | (simp only []; omega)) (LeR.of ⟨rfl,rfl,rfl,rfl,rfl,trivial⟩ ⟨(lx rfl),(lx rfl),(lx rfl),(lx rfl),(lx rfl),(lx rfl),trivial⟩ ⟨rfl,rfl,trivial⟩ rfl rfl rfl rfl rfl)
  · try simp only [cnd] at hc1
    refine WP.exit (EX.exit_then (EX.exit_then (EX.exit_blk (EX.then (WP.seq (WP.region ?_))))))
    refine WPl.v rfl (o_move rfl) ?_
    refine WPl.v rfl (o_assign rfl) ?_
    refine WPl.nil (EX.then (WP.ret ?_))
    refine EX.imp (Imp.frz (E := (EP.sl (EArr 12))) (l := Ls) 6 rfl rfl) ?_
    have hnd : AllOK h Ls := ⟨by rw [hA.n]; omega,fun j hj => hA.m j (by rw [hA.n] at hj; exact hj)⟩
    exact EX.fin (ren [(0,6)]) (.inl rfl) rfl (.tmp rfl .nil) rfl (by simp [SV.res,El.res,At.res,keys]) ⟨(Has.of (lx rfl) (AllP.of hnd)),trivial⟩ (by simp) (by simp)
end Go.Flong
namespace Go.Flong
open Go Go.Eng Go.Proofs
theorem L91 : IsSl Try.prog 91 87 1 := ⟨Try.underlying91,Try.sizeOf87⟩
theorem S87 : TyS Try.prog 87 := ⟨Try.isAgg87,Try.sizeOf87⟩
theorem e76 : Enters' Try.prog 76 := Try.call76
theorem e43 : Enters' Try.prog 43 := Try.call43
theorem e45 : Enters' Try.prog 45 := Try.call45
theorem e77 : Enters' Try.prog 77 := Try.call77
theorem w43 {s : List Int} {Ls : List (List (List Int))} : ∀ x ∈ ([.e (.g [ai (nth s 0),ai (nth s 1),ai (nth s 2),ai (nth s 3),ai (nth s 4),ai (nth s 5),ai (nth s 6),ai (nth s 7),ai (nth s 8),ai (nth s 9),ai (nth s 10),ai (nth s 11)]),.e (.a (.q 0))] : List SV),x.res (keys (α := Pred) [(0,PL (EP.sl (EArr 12)) (Ls))]) := by simp [SV.res,El.res,At.res,keys]
theorem r43 {s : List Int} {Ls : List (List (List Int))} : SV.res (keys (α := Pred) []) (.t [.g [ai (nth (fewR Ls s).1 0),ai (nth (fewR Ls s).1 1),ai (nth (fewR Ls s).1 2),ai (nth (fewR Ls s).1 3),ai (nth (fewR Ls s).1 4),ai (nth (fewR Ls s).1 5),ai (nth (fewR Ls s).1 6),ai (nth (fewR Ls s).1 7),ai (nth (fewR Ls s).1 8),ai (nth (fewR Ls s).1 9),ai (nth (fewR Ls s).1 10),ai (nth (fewR Ls s).1 11)],.a (.v (.bool ((fewR Ls s).2)))]) := by simp [SV.res,El.res,At.res,keys]
set_option maxHeartbeats 4000000 in
theorem c43 (s : List Int) (Ls : List (List (List Int))) (hs : ShOK s) (hL : FewOK Ls) : Sig Try.prog 43 [.e (.g [ai (nth s 0),ai (nth s 1),ai (nth s 2),ai (nth s 3),ai (nth s 4),ai (nth s 5),ai (nth s 6),ai (nth s 7),ai (nth s 8),ai (nth s 9),ai (nth s 10),ai (nth s 11)]),.e (.a (.q 0))] [(0,PL (EP.sl (EArr 12)) (Ls))] (.t [.g [ai (nth (fewR Ls s).1 0),ai (nth (fewR Ls s).1 1),ai (nth (fewR Ls s).1 2),ai (nth (fewR Ls s).1 3),ai (nth (fewR Ls s).1 4),ai (nth (fewR Ls s).1 5),ai (nth (fewR Ls s).1 6),ai (nth (fewR Ls s).1 7),ai (nth (fewR Ls s).1 8),ai (nth (fewR Ls s).1 9),ai (nth (fewR Ls s).1 10),ai (nth (fewR Ls s).1 11)],.a (.v (.bool ((fewR Ls s).2)))]) [] := by
  refine Sig.intro Try.func43 rfl 1 [(0,.e (.g [ai (nth s 0),ai (nth s 1),ai (nth s 2),ai (nth s 3),ai (nth s 4),ai (nth s 5),ai (nth s 6),ai (nth s 7),ai (nth s 8),ai (nth s 9),ai (nth s 10),ai (nth s 11)])),(1,.e (.a (.q 0)))] rfl w43 rfl rfl fun I w => ?_
  refine WP.seq (WP.region ?_)
  refine WPl.l 1 2 rfl rfl rfl (o_boxg rfl) ?_
  refine WPl.l 2 3 rfl rfl rfl (o_alloc Z81) ?_
  refine WPl.v rfl (o_assign rfl) ?_
  refine WPl.nil (EX.then (WP.seq (WP.seq (WP.region ?_))))
  refine WPl.v rfl (o_move rfl) ?_
  refine WPl.v rfl (o_lenq L91 rfl (lx rfl)) ?_
  refine WPl.v rfl (o_eql rfl rfl) ?_
  refine WPl.nil (EX.then ?_)
  refine WP.cond rfl (fun hc1 => ?_) (fun hc1 => ?_)
  · try simp only [cnd] at hc1
    obtain rfl : Ls = [] := List.length_eq_zero_iff.1 (by omega)
    refine WP.seq (WP.region ?_)
    refine WPl.v rfl (o_ldpa G81 rfl rfl rfl) ?_
    refine WPl.s1 (o_stag G81 rfl rfl rfl ⟨rfl,rfl,rfl,rfl,rfl,rfl,rfl,rfl,rfl,rfl,rfl,rfl,trivial⟩ rfl rfl) ?_
    refine WPl.v rfl (o_assign rfl) ?_
    refine WPl.nil (EX.then (WP.ret (EX.ret_then ?_)))
    skip
    exact EX.fin id (.inl rfl) rfl (.cellg G81 rfl rfl rfl (.tmp rfl .nil)) rfl (by simp [SV.res,El.res,At.res,keys]) trivial (by simp) (by simp)
  · try simp only [cnd] at hc1
    have hl0 : 0 < Ls.length := by omega
    have hll : (nth Ls 0).length ≤ 100000000 := hL.l 0 hl0
    have htl : (Ls.take ((Ls.length : Int)).toNat).drop (1 : Int).toNat = Ls.drop 1 := by simp
    refine WP.skip (EX.then (WP.seq (WP.seq (WP.region ?_))))
    refine WPl.v rfl (o_move rfl) ?_
    refine WPl.x 3 4 rfl rfl rfl (o_idx L91 rfl (lx rfl) rfl (by first | omega | (simp; omega)) (by first | omega | (simp; omega))) ?_
    refine WPl.x 4 5 rfl rfl rfl (o_ldqx S87 rfl (lx rfl) slx) ?_
    refine WPl.v rfl (o_lenq L87 rfl (lx rfl)) ?_
    refine WPl.v rfl (o_move rfl) ?_
    refine WPl.nil (EX.then (WP.block ?_))
    refine WP.loop (Gh := Nat) (fun i => ⟨5,[(1,.e (.a (.q 0))),(2,.e (.a (.p 1 (0)))),(4,.e (.a (.p 2 (0)))),(5,.b ((fewTo Ls s i).2)),(16,.e (.a (.q 4))),(17,.i (((nth Ls 0).length : Int))),(18,.i ((i : Int)))],[(0,PL (EP.sl (EArr 12)) (Ls)),(4,PL (EArr 12) (nth Ls 0))],[(1,.blk [ai (nth s 0),ai (nth s 1),ai (nth s 2),ai (nth s 3),ai (nth s 4),ai (nth s 5),ai (nth s 6),ai (nth s 7),ai (nth s 8),ai (nth s 9),ai (nth s 10),ai (nth s 11)] 81),(2,.blk [ai (nth ((fewTo Ls s i).1) 0),ai (nth ((fewTo Ls s i).1) 1),ai (nth ((fewTo Ls s i).1) 2),ai (nth ((fewTo Ls s i).1) 3),ai (nth ((fewTo Ls s i).1) 4),ai (nth ((fewTo Ls s i).1) 5),ai (nth ((fewTo Ls s i).1) 6),ai (nth ((fewTo Ls s i).1) 7),ai (nth ((fewTo Ls s i).1) 8),ai (nth ((fewTo Ls s i).1) 9),ai (nth ((fewTo Ls s i).1) 10),ai (nth ((fewTo Ls s i).1) 11)] 81)],[],[]⟩) (fun i => i ≤ (nth Ls 0).length) (fun i => (nth Ls 0).length - i) (0) id ?_ (LeR.of ⟨rfl,rfl,rfl,(congrArg (fun z => some (SV.b z)) (show (false) = ((fun i => (fewTo Ls s i).2) 0) from rfl)),rfl,rfl,rfl,trivial⟩ ⟨(lx rfl),(lx rfl),trivial⟩ ⟨rfl,(congrArg (fun z => some (Ent.blk z 81)) (List.cons_eq_cons.2 ⟨(congrArg (fun z => ai z) (show (0) = ((fun i => nth ((fewTo Ls s i).1) 0) 0) from rfl)),(List.cons_eq_cons.2 ⟨(congrArg (fun z => ai z) (show (0) = ((fun i => nth ((fewTo Ls s i).1) 1) 0) from rfl)),(List.cons_eq_cons.2 ⟨(congrArg (fun z => ai z) (show (0) = ((fun i => nth ((fewTo Ls s i).1) 2) 0) from rfl)),(List.cons_eq_cons.2 ⟨(congrArg (fun z => ai z) (show (0) = ((fun i => nth ((fewTo Ls s i).1) 3) 0) from rfl)),(List.cons_eq_cons.2 ⟨(congrArg (fun z => ai z) (show (0) = ((fun i => nth ((fewTo Ls s i).1) 4) 0) from rfl)),(List.cons_eq_cons.2 ⟨(congrArg (fun z => ai z) (show (0) = ((fun i => nth ((fewTo Ls s i).1) 5) 0) from rfl)),(List.cons_eq_cons.2 ⟨(congrArg (fun z => ai z) (show (0) = ((fun i => nth ((fewTo Ls s i).1) 6) 0) from rfl)),(List.cons_eq_cons.2 ⟨(congrArg (fun z => ai z) (show (0) = ((fun i => nth ((fewTo Ls s i).1) 7) 0) from rfl)),(List.cons_eq_cons.2 ⟨(congrArg (fun z => ai z) (show (0) = ((fun i => nth ((fewTo Ls s i).1) 8) 0) from rfl)),(List.cons_eq_cons.2 ⟨(congrArg (fun z => ai z) (show (0) = ((fun i => nth ((fewTo Ls s i).1) 9) 0) from rfl)),(List.cons_eq_cons.2 ⟨(congrArg (fun z => ai z) (show (0) = ((fun i => nth ((fewTo Ls s i).1) 10) 0) from rfl)),(List.cons_eq_cons.2 ⟨(congrArg (fun z => ai z) (show (0) = ((fun i => nth ((fewTo Ls s i).1) 11) 0) from rfl)),(Eq.refl [])⟩)⟩)⟩)⟩)⟩)⟩)⟩)⟩)⟩)⟩)⟩)⟩)),trivial⟩ rfl rfl rfl rfl rfl) ?_
    · first | trivial | omega | (constructor <;> omega) | simp
    intro i hφ
    have hi : i ≤ (nth Ls 0).length := hφ
    refine WP.seq (WP.region ?_)
    refine WPl.v rfl (o_lss rfl rfl) ?_
    refine WPl.nil (EX.then (WP.seq ?_))
    refine WP.cond rfl (fun hc2 => ?_) (fun hc2 => ?_)
    · try simp only [cnd] at hc2
      have hto : ShOK (nth (nth Ls 0) (i : Int)) := hL.s 0 hl0 i (show i < (nth Ls 0).length by omega)
      have hjo := joinL_ok hs hto
      have hno := fewR_ok hL.tail hjo
      rw [← htl] at hno
      have hbo := fewTo_ok hL hl0 hs i (by omega)
      have hs1 := sumS_b hno 12 (by omega)
      have hs2 := sumS_b hbo 12 (by omega)
      refine WP.skip (EX.then (WP.seq (WP.block (WP.seq (WP.region ?_)))))
      refine WPl.x 5 6 rfl rfl rfl (o_idx L87 rfl (lx rfl) rfl (by first | omega | (simp; omega)) (by first | omega | (simp; omega))) ?_
      refine WPl.v rfl (o_ldqg G81 rfl (lx rfl) (fixg rfl) rfl rfl) ?_
      refine WPl.l 6 7 rfl rfl rfl (o_alloc Z81) ?_
      refine WPl.s1 (o_stag G81 rfl rfl rfl ⟨rfl,rfl,rfl,rfl,rfl,rfl,rfl,rfl,rfl,rfl,rfl,rfl,trivial⟩ rfl rfl) ?_
      refine WPl.nil (EX.then (WP.seq ?_))
      refine WP.draw (nf := 9) [⟨[24,26,27,8],[7,8],[],[],[]⟩,⟨[23,26,27,8],[7,8],[],[],[]⟩,⟨[26,27,8],[7,8],[],[],[0,1]⟩,⟨[23,24,25,8],[8],[],[],[]⟩,⟨[23,24,25,8],[8],[7],[7],[3]⟩,⟨[8],[8],[],[],[0,1,2,3,4]⟩,⟨[8],[8],[],[],[0,1,2,3,4,5]⟩,⟨[30,8],[8],[],[],[0,1,2,3,4,5,6]⟩,⟨[29,8],[8],[],[],[0,1,2,3,4,5,6]⟩,⟨[23,24,25,26,27,28,22,29,30],[7],[8],[8],[]⟩,⟨[30],[],[],[8],[0,1,2,3,4,5,6,7,9]⟩,⟨[],[],[],[],[0,1,2,3,4,5,6,7,8,9,10]⟩] (by kernel_rfl) (by kernel_rfl) ?_
      refine DRQ.v rfl rfl rfl (o_ldpa G81 rfl rfl rfl) ?_
      refine DRQ.v rfl rfl rfl (o_ldpa G81 rfl rfl rfl) ?_
      refine DRQ.cs rfl rfl rfl rfl (o_sig 7 id (c76 s (nth (nth Ls 0) (i : Int)) hs hto) e76 rfl rfl rfl w76 trivial r76) ?_
      refine DRQ.v rfl rfl rfl (o_move rfl) ?_
      refine DRQ.x 7 rfl rfl rfl rfl (o_slice (a := 1) (b := ((Ls).length : Int)) L91 rfl (lx rfl) rfl rfl (by first | omega | (simp; omega)) (by first | omega | (simp; omega)) (by first | omega | (simp; omega))) ?_
      refine DRQ.cs rfl rfl rfl rfl (o_sig 8 (ren [(0,7)]) (c43 (joinL s (nth (nth Ls 0) (i : Int))) ((Ls.take ((Ls).length : Int).toNat).drop (1 : Int).toNat) hjo (by rw [htl]; exact hL.tail)) e43 rfl rfl rfl w43 ⟨(lx rfl),trivial⟩ r43) ?_
      refine DRQ.v rfl rfl rfl (o_move rfl) ?_
      refine DRQ.v rfl rfl rfl (o_extract rfl rfl) ?_
      refine DRQ.v rfl rfl rfl (o_extract rfl rfl) ?_
      refine DRQ.l 8 rfl rfl rfl rfl (o_alloc Z81) ?_
      refine DRQ.s 8 rfl rfl rfl (o_stag G81 rfl rfl rfl ⟨rfl,rfl,rfl,rfl,rfl,rfl,rfl,rfl,rfl,rfl,rfl,rfl,trivial⟩ rfl rfl) ?_
      refine DRQ.v rfl rfl rfl (o_assign rfl) ?_
      refine DRQ.nil' ?_
      refine EX.then (WP.seq ?_)
      refine WP.imp (Imp.bit 9 10 ((fewR ((Ls.take ((Ls).length : Int).toNat).drop (1 : Int).toNat) (joinL s (nth (nth Ls 0) (i : Int)))).2) rfl rfl) ?_
      refine WP.imp (Imp.bit 10 11 (((fewR ((Ls.take ((Ls).length : Int).toNat).drop (1 : Int).toNat) (joinL s (nth (nth Ls 0) (i : Int)))).2) && !(!((fewTo Ls s i).2))) rfl rfl) ?_
      refine WP.draw (nf := 12) [⟨[],[],[],[],[]⟩,⟨[],[],[],[],[0]⟩,⟨[],[],[],[],[0,1]⟩,⟨[],[],[],[],[0,1,2]⟩,⟨[],[],[],[],[0,1,2,3]⟩,⟨[38,41,42],[],[],[],[0,1,2,3,4]⟩,⟨[38,41,42],[],[],[],[0,1,2,3,4,5]⟩,⟨[36,37,41,42],[],[],[],[0,1,2,3,4]⟩,⟨[41,42],[],[],[],[0,1,2,3,4,5,6,7]⟩,⟨[41,42,43],[],[],[],[0,1,2,3,4,5,6,7,8]⟩,⟨[36,37,38,39,40,42],[],[],[],[0,1,2,3,4]⟩,⟨[36,37,38,39,40,41],[],[],[],[0,1,2,3,4]⟩,⟨[40],[],[],[],[0,1,2,3,4,5,6,7,8,10,11]⟩,⟨[],[],[11],[11],[0,1,2,3,4,5,6,7,8,9,10,11,12]⟩,⟨[],[],[],[],[0,1,2,3,4,5,6,7,8,9,10,11,12,13]⟩,⟨[],[],[],[],[0,1,2,3,4,5,6,7,8,9,10,11,12,13,14]⟩,⟨[],[],[],[],[0,1,2,3,4,5,6,7,8,9,10,11,12,13,14,15]⟩,⟨[],[],[],[],[0,1,2,3,4,5,6,7,8,9,10,11,12,13,14,15,16]⟩] (by kernel_rfl) (by kernel_rfl) ?_
      refine DRQ.v rfl rfl rfl (o_move rfl) ?_
      refine DRQ.v rfl rfl rfl (o_move rfl) ?_
      refine DRQ.gv 9 rfl rfl (.plain rfl Iff.rfl rfl) rfl (fun hb => o_move rfl) ?_
      refine DRQ.gv 9 rfl rfl (.plain rfl Iff.rfl rfl) rfl (fun hb => o_not rfl) ?_
      refine DRQ.gv 9 rfl rfl (.plain rfl Iff.rfl rfl) rfl (fun hb => o_move rfl) ?_
      refine DRQ.gv 10 rfl rfl (.nest rfl rfl (by first | (simp; done) | simp only [Bool.and_eq_true,Bool.not_eq_true']) rfl) rfl (fun hb => o_ldpa G81 rfl rfl rfl) ?_
      refine DRQ.gv 10 rfl rfl (.nest rfl rfl (by first | (simp; done) | simp only [Bool.and_eq_true,Bool.not_eq_true']) rfl) rfl (fun hb => o_sig 11 id (c45 ((fewR ((Ls.take ((Ls).length : Int).toNat).drop (1 : Int).toNat) (joinL s (nth (nth Ls 0) (i : Int)))).1) hno) e45 rfl rfl rfl w45 trivial r45) ?_
      refine DRQ.gv 10 rfl rfl (.nest rfl rfl (by first | (simp; done) | simp only [Bool.and_eq_true,Bool.not_eq_true']) rfl) rfl (fun hb => o_ldpa G81 rfl rfl rfl) ?_
      refine DRQ.gv 10 rfl rfl (.nest rfl rfl (by first | (simp; done) | simp only [Bool.and_eq_true,Bool.not_eq_true']) rfl) rfl (fun hb => o_sig 11 id (c45 ((fewTo Ls s i).1) hbo) e45 rfl rfl rfl w45 trivial r45) ?_
      refine DRQ.gv 10 rfl rfl (.nest rfl rfl (by first | (simp; done) | simp only [Bool.and_eq_true,Bool.not_eq_true']) rfl) rfl (fun hb => o_sub rfl rfl (by first | omega | (simp; omega)) (by first | omega | (simp; omega))) ?_
      refine DRQ.gv 10 rfl rfl (.nest rfl rfl (by first | (simp; done) | simp only [Bool.and_eq_true,Bool.not_eq_true']) rfl) rfl (fun hb => o_ldpa G81 rfl rfl rfl) ?_
      refine DRQ.gv 10 rfl rfl (.nest rfl rfl (by first | (simp; done) | simp only [Bool.and_eq_true,Bool.not_eq_true']) rfl) rfl (fun hb => o_ldpa G81 rfl rfl rfl) ?_
      refine DRQ.gv 10 rfl rfl (.nest rfl rfl (by first | (simp; done) | simp only [Bool.and_eq_true,Bool.not_eq_true']) rfl) rfl (fun hb => o_sig 11 id (c77 ((fewR ((Ls.take ((Ls).length : Int).toNat).drop (1 : Int).toNat) (joinL s (nth (nth Ls 0) (i : Int)))).1) ((fewTo Ls s i).1)) e77 rfl rfl rfl w77 trivial r77) ?_
      refine DRQ.gx 10 11 rfl rfl (.nest rfl rfl (by first | (simp; done) | simp only [Bool.and_eq_true,Bool.not_eq_true']) rfl) rfl rfl (fun hb => OpG.settle0 (o_bsl (E := EP.int) (l := [(sumS ((fewR ((Ls.take ((Ls).length : Int).toNat).drop (1 : Int).toNat) (joinL s (nth (nth Ls 0) (i : Int)))).1) 12) - (sumS ((fewTo Ls s i).1) 12),befTo ((fewR ((Ls.take ((Ls).length : Int).toNat).drop (1 : Int).toNat) (joinL s (nth (nth Ls 0) (i : Int)))).1) ((fewTo Ls s i).1) 4]) R24 rfl rfl (.cons (rfl) rfl (eok_int) (.cons (rfl) rfl (eok_int) (.nil))) rfl rfl)) ?_
      refine DRQ.gv 10 rfl rfl (.nest rfl rfl (by first | (simp; done) | simp only [Bool.and_eq_true,Bool.not_eq_true']) rfl) rfl (fun hb => o_sig 12 (ren [(0,11)]) (c70 [(sumS ((fewR ((Ls.take ((Ls).length : Int).toNat).drop (1 : Int).toNat) (joinL s (nth (nth Ls 0) (i : Int)))).1) 12) - (sumS ((fewTo Ls s i).1) 12),befTo ((fewR ((Ls.take ((Ls).length : Int).toNat).drop (1 : Int).toNat) (joinL s (nth (nth Ls 0) (i : Int)))).1) ((fewTo Ls s i).1) 4] (by simp)) e70 rfl rfl rfl w70 ⟨(lxi hb rfl),trivial⟩ r70) ?_
      refine DRQ.gv 10 rfl rfl (.nest rfl rfl (by first | (simp; done) | simp only [Bool.and_eq_true,Bool.not_eq_true']) rfl) rfl (fun hb => o_lss rfl rfl) ?_
      refine DRQ.gv 9 rfl rfl (.plain rfl Iff.rfl rfl) rfl (fun hb => o_or rfl rfl rfl (by first | (simp; done) | exact fun h => by rw [h]; rfl | exact fun h => Bool.and_eq_true_iff.2 ⟨hb,by rw [h]; rfl⟩ | simp_all)) ?_
      refine DRQ.v rfl rfl rfl (o_and rfl rfl rfl id) ?_
      refine DRQ.nil' ?_
      refine EX.then ?_
      refine WP.cond rfl (fun hc3 => ?_) (fun hc3 => ?_)
      · try simp only [cnd] at hc3
        have hbt : betterF (fewR ((Ls.take ((Ls.length : Int)).toNat).drop (1 : Int).toNat) (joinL s (nth (nth Ls 0) (i : Int)))) (fewTo Ls s i) = true := by unfold betterF; simpa using hc3
        refine WP.region ?_
        refine WPl.v rfl (o_ldpa G81 rfl rfl rfl) ?_
        refine WPl.s1 (o_stag G81 rfl rfl rfl ⟨rfl,rfl,rfl,rfl,rfl,rfl,rfl,rfl,rfl,rfl,rfl,rfl,trivial⟩ rfl rfl) ?_
        refine WPl.v rfl (o_assign rfl) ?_
        refine WPl.nil (EX.blk (EX.then (WP.region ?_)))
        refine WPl.v rfl (o_add rfl rfl (by first | omega | (simp; omega)) (by first | omega | (simp; omega))) ?_
        refine WPl.v rfl (o_move rfl) ?_
        refine WPl.nil ?_
        refine EX.again (i + 1) id (by first | omega | (constructor <;> omega)) (by omega) (LeR.of ⟨rfl,rfl,rfl,(congrArg (fun z => some (SV.b z)) (show (true) = ((fun i => (fewTo Ls s i).2) (i + 1)) from by dsimp only; rw [fewTo_step (by omega),← htl,stepF,if_pos hbt])),rfl,rfl,rfl,trivial⟩ ⟨(lx rfl),(lx rfl),trivial⟩ ⟨rfl,(congrArg (fun z => some (Ent.blk z 81)) (List.cons_eq_cons.2 ⟨(congrArg (fun z => ai z) (show (nth (fewR ((Ls.take ((Ls).length : Int).toNat).drop (1 : Int).toNat) (joinL s (nth (nth Ls 0) (i : Int)))).1 0) = ((fun i => nth ((fewTo Ls s i).1) 0) (i + 1)) from by dsimp only; rw [fewTo_step (by omega),← htl,stepF,if_pos hbt])),(List.cons_eq_cons.2 ⟨(congrArg (fun z => ai z) (show (nth (fewR ((Ls.take ((Ls).length : Int).toNat).drop (1 : Int).toNat) (joinL s (nth (nth Ls 0) (i : Int)))).1 1) = ((fun i => nth ((fewTo Ls s i).1) 1) (i + 1)) from by dsimp only; rw [fewTo_step (by omega),← htl,stepF,if_pos hbt])),(List.cons_eq_cons.2 ⟨(congrArg (fun z => ai z) (show (nth (fewR ((Ls.take ((Ls).length : Int).toNat).drop (1 : Int).toNat) (joinL s (nth (nth Ls 0) (i : Int)))).1 2) = ((fun i => nth ((fewTo Ls s i).1) 2) (i + 1)) from by dsimp only; rw [fewTo_step (by omega),← htl,stepF,if_pos hbt])),(List.cons_eq_cons.2 ⟨(congrArg (fun z => ai z) (show (nth (fewR ((Ls.take ((Ls).length : Int).toNat).drop (1 : Int).toNat) (joinL s (nth (nth Ls 0) (i : Int)))).1 3) = ((fun i => nth ((fewTo Ls s i).1) 3) (i + 1)) from by dsimp only; rw [fewTo_step (by omega),← htl,stepF,if_pos hbt])),(List.cons_eq_cons.2 ⟨(congrArg (fun z => ai z) (show (nth (fewR ((Ls.take ((Ls).length : Int).toNat).drop (1 : Int).toNat) (joinL s (nth (nth Ls 0) (i : Int)))).1 4) = ((fun i => nth ((fewTo Ls s i).1) 4) (i + 1)) from by dsimp only; rw [fewTo_step (by omega),← htl,stepF,if_pos hbt])),(List.cons_eq_cons.2 ⟨(congrArg (fun z => ai z) (show (nth (fewR ((Ls.take ((Ls).length : Int).toNat).drop (1 : Int).toNat) (joinL s (nth (nth Ls 0) (i : Int)))).1 5) = ((fun i => nth ((fewTo Ls s i).1) 5) (i + 1)) from by dsimp only; rw [fewTo_step (by omega),← htl,stepF,if_pos hbt])),(List.cons_eq_cons.2 ⟨(congrArg (fun z => ai z) (show (nth (fewR ((Ls.take ((Ls).length : Int).toNat).drop (1 : Int).toNat) (joinL s (nth (nth Ls 0) (i : Int)))).1 6) = ((fun i => nth ((fewTo Ls s i).1) 6) (i + 1)) from by dsimp only; rw [fewTo_step (by omega),← htl,stepF,if_pos hbt])),(List.cons_eq_cons.2 ⟨(congrArg (fun z => ai z) (show (nth (fewR ((Ls.take ((Ls).length : Int).toNat).drop (1 : Int).toNat) (joinL s (nth (nth Ls 0) (i : Int)))).1 7) = ((fun i => nth ((fewTo Ls s i).1) 7) (i + 1)) from by dsimp only; rw [fewTo_step (by omega),← htl,stepF,if_pos hbt])),(List.cons_eq_cons.2 ⟨(congrArg (fun z => ai z) (show (nth (fewR ((Ls.take ((Ls).length : Int).toNat).drop (1 : Int).toNat) (joinL s (nth (nth Ls 0) (i : Int)))).1 8) = ((fun i => nth ((fewTo Ls s i).1) 8) (i + 1)) from by dsimp only; rw [fewTo_step (by omega),← htl,stepF,if_pos hbt])),(List.cons_eq_cons.2 ⟨(congrArg (fun z => ai z) (show (nth (fewR ((Ls.take ((Ls).length : Int).toNat).drop (1 : Int).toNat) (joinL s (nth (nth Ls 0) (i : Int)))).1 9) = ((fun i => nth ((fewTo Ls s i).1) 9) (i + 1)) from by dsimp only; rw [fewTo_step (by omega),← htl,stepF,if_pos hbt])),(List.cons_eq_cons.2 ⟨(congrArg (fun z => ai z) (show (nth (fewR ((Ls.take ((Ls).length : Int).toNat).drop (1 : Int).toNat) (joinL s (nth (nth Ls 0) (i : Int)))).1 10) = ((fun i => nth ((fewTo Ls s i).1) 10) (i + 1)) from by dsimp only; rw [fewTo_step (by omega),← htl,stepF,if_pos hbt])),(List.cons_eq_cons.2 ⟨(congrArg (fun z => ai z) (show (nth (fewR ((Ls.take ((Ls).length : Int).toNat).drop (1 : Int).toNat) (joinL s (nth (nth Ls 0) (i : Int)))).1 11) = ((fun i => nth ((fewTo Ls s i).1) 11) (i + 1)) from by dsimp only; rw [fewTo_step (by omega),← htl,stepF,if_pos hbt])),(Eq.refl [])⟩)⟩)⟩)⟩)⟩)⟩)⟩)⟩)⟩)⟩)⟩)⟩)),trivial⟩ rfl rfl rfl rfl rfl)
      · try simp only [cnd] at hc3
        have hbt : ¬ betterF (fewR ((Ls.take ((Ls.length : Int)).toNat).drop (1 : Int).toNat) (joinL s (nth (nth Ls 0) (i : Int)))) (fewTo Ls s i) = true := by
          intro hb
          unfold betterF at hb
          rw [Bool.and_eq_true] at hb
          rcases hc3 with h | ⟨h1,h2⟩
          · rw [h] at hb; exact absurd hb.1 (by simp)
          · have h3 := hb.2
            rw [h1] at h3
            simp only [Bool.not_true,Bool.false_or,decide_eq_true_eq] at h3
            exact h2 h3
        refine WP.skip (EX.blk (EX.then (WP.region ?_)))
        refine WPl.v rfl (o_add rfl rfl (by first | omega | (simp; omega)) (by first | omega | (simp; omega))) ?_
        refine WPl.v rfl (o_move rfl) ?_
        refine WPl.nil ?_
        refine EX.again (i + 1) id (by first | omega | (constructor <;> omega)) (by omega) (LeR.of ⟨rfl,rfl,rfl,(congrArg (fun z => some (SV.b z)) (show ((fewTo Ls s i).2) = ((fun i => (fewTo Ls s i).2) (i + 1)) from by dsimp only; rw [fewTo_step (by omega),← htl,stepF,if_neg hbt])),rfl,rfl,rfl,trivial⟩ ⟨(lx rfl),(lx rfl),trivial⟩ ⟨rfl,(congrArg (fun z => some (Ent.blk z 81)) (List.cons_eq_cons.2 ⟨(congrArg (fun z => ai z) (show (nth ((fewTo Ls s i).1) 0) = ((fun i => nth ((fewTo Ls s i).1) 0) (i + 1)) from by dsimp only; rw [fewTo_step (by omega),← htl,stepF,if_neg hbt])),(List.cons_eq_cons.2 ⟨(congrArg (fun z => ai z) (show (nth ((fewTo Ls s i).1) 1) = ((fun i => nth ((fewTo Ls s i).1) 1) (i + 1)) from by dsimp only; rw [fewTo_step (by omega),← htl,stepF,if_neg hbt])),(List.cons_eq_cons.2 ⟨(congrArg (fun z => ai z) (show (nth ((fewTo Ls s i).1) 2) = ((fun i => nth ((fewTo Ls s i).1) 2) (i + 1)) from by dsimp only; rw [fewTo_step (by omega),← htl,stepF,if_neg hbt])),(List.cons_eq_cons.2 ⟨(congrArg (fun z => ai z) (show (nth ((fewTo Ls s i).1) 3) = ((fun i => nth ((fewTo Ls s i).1) 3) (i + 1)) from by dsimp only; rw [fewTo_step (by omega),← htl,stepF,if_neg hbt])),(List.cons_eq_cons.2 ⟨(congrArg (fun z => ai z) (show (nth ((fewTo Ls s i).1) 4) = ((fun i => nth ((fewTo Ls s i).1) 4) (i + 1)) from by dsimp only; rw [fewTo_step (by omega),← htl,stepF,if_neg hbt])),(List.cons_eq_cons.2 ⟨(congrArg (fun z => ai z) (show (nth ((fewTo Ls s i).1) 5) = ((fun i => nth ((fewTo Ls s i).1) 5) (i + 1)) from by dsimp only; rw [fewTo_step (by omega),← htl,stepF,if_neg hbt])),(List.cons_eq_cons.2 ⟨(congrArg (fun z => ai z) (show (nth ((fewTo Ls s i).1) 6) = ((fun i => nth ((fewTo Ls s i).1) 6) (i + 1)) from by dsimp only; rw [fewTo_step (by omega),← htl,stepF,if_neg hbt])),(List.cons_eq_cons.2 ⟨(congrArg (fun z => ai z) (show (nth ((fewTo Ls s i).1) 7) = ((fun i => nth ((fewTo Ls s i).1) 7) (i + 1)) from by dsimp only; rw [fewTo_step (by omega),← htl,stepF,if_neg hbt])),(List.cons_eq_cons.2 ⟨(congrArg (fun z => ai z) (show (nth ((fewTo Ls s i).1) 8) = ((fun i => nth ((fewTo Ls s i).1) 8) (i + 1)) from by dsimp only; rw [fewTo_step (by omega),← htl,stepF,if_neg hbt])),(List.cons_eq_cons.2 ⟨(congrArg (fun z => ai z) (show (nth ((fewTo Ls s i).1) 9) = ((fun i => nth ((fewTo Ls s i).1) 9) (i + 1)) from by dsimp only; rw [fewTo_step (by omega),← htl,stepF,if_neg hbt])),(List.cons_eq_cons.2 ⟨(congrArg (fun z => ai z) (show (nth ((fewTo Ls s i).1) 10) = ((fun i => nth ((fewTo Ls s i).1) 10) (i + 1)) from by dsimp only; rw [fewTo_step (by omega),← htl,stepF,if_neg hbt])),(List.cons_eq_cons.2 ⟨(congrArg (fun z => ai z) (show (nth ((fewTo Ls s i).1) 11) = ((fun i => nth ((fewTo Ls s i).1) 11) (i + 1)) from by dsimp only; rw [fewTo_step (by omega),← htl,stepF,if_neg hbt])),(Eq.refl [])⟩)⟩)⟩)⟩)⟩)⟩)⟩)⟩)⟩)⟩)⟩)⟩)),trivial⟩ rfl rfl rfl rfl rfl)
    · try simp only [cnd] at hc2
      refine WP.exit (EX.exit_then (EX.exit_then (EX.exit_blk (EX.then (WP.seq (WP.region ?_))))))
      refine WPl.v rfl (o_ldpa G81 rfl rfl rfl) ?_
      refine WPl.v rfl (o_move rfl) ?_
      refine WPl.s1 (o_stag G81 rfl rfl rfl ⟨rfl,rfl,rfl,rfl,rfl,rfl,rfl,rfl,rfl,rfl,rfl,rfl,trivial⟩ rfl rfl) ?_
      refine WPl.v rfl (o_assign rfl) ?_
      refine WPl.nil (EX.then (WP.ret ?_))
      have hie : i = (nth Ls 0).length := by omega
      subst hie
      rw [← fewTo_end hl0]
      exact EX.fin id (.inl rfl) rfl (.cellg G81 rfl rfl rfl (.tmp rfl .nil)) rfl (by simp [SV.res,El.res,At.res,keys]) trivial (by simp) (by simp)
termination_by Ls.length
decreasing_by all_goals (simp; omega)
end Go.Flong
namespace Go.Flong
open Go Go.Eng Go.Proofs
theorem e38 : Enters' Try.prog 38 := Try.call38
theorem e40 : Enters' Try.prog 40 := Try.call40
theorem e41 : Enters' Try.prog 41 := Try.call41
theorem w10 {h : Hall} : ∀ x ∈ ([.e (.g [.q 0,.q 1,.q 2,ai (h.change)])] : List SV),x.res (keys (α := Pred) [(0,PL ETm (h.machs)),(1,PL EBd (h.buns)),(2,PL EP.int (h.trains))]) := by simp [SV.res,El.res,At.res,keys]
theorem r10 {h : Hall} : SV.res (keys (α := Pred) [(0,PL EP.int (casesL h))]) (.e (.a (.q 0))) := by simp [SV.res,El.res,At.res,keys]
set_option maxHeartbeats 4000000 in
theorem c10 (h : Hall) (hh : HouC h) : Sig Try.prog 10 [.e (.g [.q 0,.q 1,.q 2,ai (h.change)])] [(0,PL ETm (h.machs)),(1,PL EBd (h.buns)),(2,PL EP.int (h.trains))] (.e (.a (.q 0))) [(0,PL EP.int (casesL h))] := by
  have hm3 := hh.m
  refine Sig.intro Try.func10 rfl 3 [(0,.e (.g [.q 0,.q 1,.q 2,ai (h.change)]))] rfl w10 rfl rfl fun I w => ?_
  refine WP.seq (WP.region ?_)
  refine WPl.l 3 4 rfl rfl rfl (o_boxg rfl) ?_
  refine WPl.v rfl (o_assign rfl) ?_
  refine WPl.nil (EX.then (WP.seq (WP.region ?_)))
  refine WPl.l 4 5 rfl rfl rfl (o_bsl (E := EP.int) (l := [-1]) R24 rfl rfl (.cons (rfl) rfl (eok_int) (.nil)) rfl rfl) ?_
  refine WPl.v rfl (o_assign rfl) ?_
  refine WPl.nil (EX.then (WP.seq (WP.seq (WP.region ?_))))
  refine WPl.v rfl (o_assign rfl) ?_
  refine WPl.nil (EX.then (WP.block ?_))
  refine WP.loop (Gh := Nat) (fun i => ⟨5,[(1,.e (.a (.p 3 (0)))),(2,.e (.a (.v (.slice none 0 0)))),(3,.e (.a (.q 4))),(4,.i ((i : Int)))],[(0,PL ETm (h.machs)),(1,PL EBd (h.buns)),(2,PL EP.int (h.trains))],[(3,.blk [.q 0,.q 1,.q 2,ai (h.change)] 26),(4,.own 3 EP.int.size (cTo h i).length (RP EP.int (cTo h i)))],[],[]⟩) (fun i => i ≤ h.machs.length) (fun i => h.machs.length - i) (0) id ?_ (LeR.of ⟨rfl,rfl,rfl,rfl,trivial⟩ ⟨(lx rfl),(lx rfl),(lx rfl),trivial⟩ ⟨rfl,(congrArg (fun z => some (Ent.own 3 EP.int.size (List.length z) (RP EP.int z))) (show ([-1]) = ((fun i => cTo h i) 0) from rfl)),trivial⟩ rfl rfl rfl rfl rfl) ?_
  · first | trivial | omega | (constructor <;> omega) | simp
  intro i hφ
  have hi : i ≤ h.machs.length := hφ
  refine WP.seq (WP.seq (WP.region ?_))
  refine WPl.v rfl (o_move rfl) ?_
  refine WPl.v rfl (o_fldp F26_0 rfl) ?_
  refine WPl.v rfl (o_ldp S22 rfl rfl rfl) ?_
  refine WPl.v rfl (o_lenq L22 rfl (lx rfl)) ?_
  refine WPl.v rfl (o_lss rfl rfl) ?_
  refine WPl.nil (EX.then ?_)
  refine WP.cond rfl (fun hc1 => ?_) (fun hc1 => ?_)
  · try simp only [cnd] at hc1
    refine WP.skip (EX.then (WP.seq (WP.block (WP.seq (WP.region ?_)))))
    refine WPl.v rfl (o_fldp F26_0 rfl) ?_
    refine WPl.v rfl (o_ldp S22 rfl rfl rfl) ?_
    refine WPl.v rfl (o_move rfl) ?_
    refine WPl.x 5 6 rfl rfl rfl (o_idx L22 rfl (lx rfl) rfl (by first | omega | (simp; omega)) (by first | omega | (simp; omega))) ?_
    refine WPl.v rfl (o_fldq F68_2 rfl (lx rfl)) ?_
    refine WPl.v rfl (o_lde S3 rfl (lx rfl) (strI rfl)) ?_
    refine WPl.v rfl (o_eql rfl rfl) ?_
    refine WPl.nil (EX.then ?_)
    refine WP.cond rfl (fun hc2 => ?_) (fun hc2 => ?_)
    · try simp only [cnd] at hc2
      refine WP.region ?_
      refine WPl.v rfl (o_move rfl) ?_
      refine WPl.v rfl (o_move rfl) ?_
      refine WPl.l 6 7 rfl rfl rfl (o_bsl (E := EP.int) (l := [(i : Int)]) R24 rfl rfl (.cons (rfl) rfl (eok_int) (.nil)) rfl rfl) ?_
      refine WPl.u1 (k := 7) (m := 8) rfl rfl rfl (o_appo R24 EP.int_one rfl rfl rfl rfl (by have := cTo_len h i; first | omega | (simp; omega)) (by have := cTo_len h i; first | omega | (simp; omega))) ?_
      refine WPl.v rfl (o_assign rfl) ?_
      refine WPl.nil (EX.blk (EX.then (WP.region ?_)))
      refine WPl.v rfl (o_move rfl) ?_
      refine WPl.v rfl (o_add rfl rfl (by first | omega | (simp; omega)) (by first | omega | (simp; omega))) ?_
      refine WPl.v rfl (o_assign rfl) ?_
      refine WPl.nil ?_
      refine EX.again (i + 1) (ren [(4,7)]) (by first | omega | (constructor <;> omega)) (by omega) (LeR.of ⟨rfl,rfl,rfl,rfl,trivial⟩ ⟨(lx rfl),(lx rfl),(lx rfl),trivial⟩ ⟨rfl,(congrArg (fun z => some (Ent.own 3 EP.int.size (List.length z) (RP EP.int z))) (show ((cTo h i) ++ [(i : Int)]) = ((fun i => cTo h i) (i + 1)) from by dsimp only; rw [cTo,if_pos hc2])),trivial⟩ rfl rfl rfl rfl rfl)
    · try simp only [cnd] at hc2
      refine WP.skip (EX.blk (EX.then (WP.region ?_)))
      refine WPl.v rfl (o_move rfl) ?_
      refine WPl.v rfl (o_add rfl rfl (by first | omega | (simp; omega)) (by first | omega | (simp; omega))) ?_
      refine WPl.v rfl (o_assign rfl) ?_
      refine WPl.nil ?_
      refine EX.again (i + 1) id (by first | omega | (constructor <;> omega)) (by omega) (LeR.of ⟨rfl,rfl,rfl,rfl,trivial⟩ ⟨(lx rfl),(lx rfl),(lx rfl),trivial⟩ ⟨rfl,(congrArg (fun z => some (Ent.own 3 EP.int.size (List.length z) (RP EP.int z))) (show (cTo h i) = ((fun i => cTo h i) (i + 1)) from by dsimp only; rw [cTo,if_neg hc2])),trivial⟩ rfl rfl rfl rfl rfl)
  · try simp only [cnd] at hc1
    refine WP.exit (EX.exit_then (EX.exit_then (EX.exit_blk (EX.then (WP.seq (WP.region ?_))))))
    refine WPl.v rfl (o_move rfl) ?_
    refine WPl.v rfl (o_assign rfl) ?_
    refine WPl.nil (EX.then (WP.ret ?_))
    refine EX.imp (Imp.frz (E := EP.int) (l := cTo h i) 4 rfl rfl) ?_
    rw [show casesL h = cTo h i from by unfold casesL; rw [show h.machs.length = i by omega]]
    exact EX.fin (ren [(0,4)]) (.inl rfl) rfl (.tmp rfl .nil) rfl (by simp [SV.res,El.res,At.res,keys]) ⟨(lx rfl),trivial⟩ (by simp) (by simp)
theorem w20 {l : List Plate} : ∀ x ∈ ([.e (.a (.q 0))] : List SV),x.res (keys (α := Pred) [(0,PL EPl (l))]) := by simp [SV.res,El.res,At.res,keys]
theorem r20 {l : List Plate} : SV.res (keys (α := Pred) []) (.i (plTo l l.length)) := by simp [SV.res,El.res,At.res,keys]
set_option maxHeartbeats 4000000 in
theorem c20 (l : List Plate) (hl : PlsOK l) : Sig Try.prog 20 [.e (.a (.q 0))] [(0,PL EPl (l))] (.i (plTo l l.length)) [] := by
  have hn := hl.n
  refine Sig.intro Try.func20 rfl 1 [(0,.e (.a (.q 0)))] rfl w20 rfl rfl fun I w => ?_
  refine WP.seq (WP.region ?_)
  refine WPl.v rfl (o_assign rfl) ?_
  refine WPl.nil (EX.then (WP.seq (WP.region ?_)))
  refine WPl.v rfl (o_assign rfl) ?_
  refine WPl.nil (EX.then (WP.seq (WP.seq (WP.region ?_))))
  refine WPl.v rfl (o_assign rfl) ?_
  refine WPl.nil (EX.then (WP.block ?_))
  refine WP.loop (Gh := Nat) (fun i => ⟨1,[(0,.e (.a (.q 0))),(2,.i (0)),(3,.i (plTo l i)),(4,.i ((i : Int)))],[(0,PL EPl (l))],[],[],[]⟩) (fun i => i ≤ l.length) (fun i => l.length - i) (0) id ?_ (LeR.of ⟨rfl,rfl,(congrArg (fun z => some (SV.i z)) (show (0) = ((fun i => plTo l i) 0) from rfl)),rfl,trivial⟩ ⟨(lx rfl),trivial⟩ trivial rfl rfl rfl rfl rfl) ?_
  · first | trivial | omega | (constructor <;> omega) | simp
  intro i hφ
  have hi : i ≤ l.length := hφ
  refine WP.seq (WP.seq (WP.region ?_))
  refine WPl.v rfl (o_move rfl) ?_
  refine WPl.v rfl (o_move rfl) ?_
  refine WPl.v rfl (o_lenq L44 rfl (lx rfl)) ?_
  refine WPl.v rfl (o_lss rfl rfl) ?_
  refine WPl.nil (EX.then ?_)
  refine WP.cond rfl (fun hc1 => ?_) (fun hc1 => ?_)
  · try simp only [cnd] at hc1
    refine WP.skip (EX.then (WP.seq (WP.block (WP.region ?_))))
    refine WPl.v rfl (o_move rfl) ?_
    refine WPl.v rfl (o_move rfl) ?_
    refine WPl.v rfl (o_move rfl) ?_
    refine WPl.x 1 2 rfl rfl rfl (o_idx L44 rfl (lx rfl) rfl (by first | omega | (simp; omega)) (by first | omega | (simp; omega))) ?_
    have h1 := plTo_b hl i (by omega)
    have h2 := hl.p i (by omega)
    refine WPl.v rfl (o_fldq F66_2 rfl (lx rfl)) ?_
    refine WPl.v rfl (o_lde S3 rfl (lx rfl) (strI rfl)) ?_
    refine WPl.v rfl (o_add rfl rfl (by first | omega | (simp; omega)) (by first | omega | (simp; omega))) ?_
    refine WPl.v rfl (o_assign rfl) ?_
    refine WPl.nil (EX.blk (EX.then (WP.region ?_)))
    refine WPl.v rfl (o_move rfl) ?_
    refine WPl.v rfl (o_add rfl rfl (by first | omega | (simp; omega)) (by first | omega | (simp; omega))) ?_
    refine WPl.v rfl (o_assign rfl) ?_
    refine WPl.nil ?_
    refine EX.again (i + 1) id (by first | omega | (constructor <;> omega)) (by omega) (LeR.of ⟨rfl,rfl,(congrArg (fun z => some (SV.i z)) (show ((plTo l i) + ((nth l (i : Int)).many)) = ((fun i => plTo l i) (i + 1)) from rfl)),rfl,trivial⟩ ⟨(lx rfl),trivial⟩ trivial rfl rfl rfl rfl rfl)
  · try simp only [cnd] at hc1
    refine WP.exit (EX.exit_then (EX.exit_then (EX.exit_blk (EX.then (WP.seq (WP.region ?_))))))
    refine WPl.v rfl (o_move rfl) ?_
    refine WPl.v rfl (o_assign rfl) ?_
    refine WPl.nil (EX.then (WP.ret ?_))
    have he : i = l.length := by omega
    subst he
    exact EX.fin id (.inl rfl) rfl (.tmp rfl .nil) rfl (by simp [SV.res,El.res,At.res,keys]) trivial (by simp) (by simp)
theorem w17 {h : Hall} {l : List Plate} : ∀ x ∈ ([.e (.g [.q 0,.q 1,.q 2,ai (h.change),.q 3,.q 4]),.e (.a (.q 5))] : List SV),x.res (keys (α := Pred) [(0,PL ETm (h.machs)),(1,PL EBd (h.buns)),(2,PL EP.int (h.trains)),(3,PL EP.int (h.bores)),(4,PL (EP.sl EP.int) (h.eds)),(5,PL EPl (l))]) := by simp [SV.res,El.res,At.res,keys]
theorem r17 {h : Hall} {l : List Plate} : SV.res (keys (α := Pred) [(0,PL EP.int (lackTo h (shelf l) (casesL h).length))]) (.t [.a (.q 0),.a (ai (0))]) := by simp [SV.res,El.res,At.res,keys]
set_option maxHeartbeats 4000000 in
theorem c17 (h : Hall) (l : List Plate) (hm : h.Small) (hc : h.chk = true) (hl : l.length ≤ 1000) (hs : isSet l = true) (hsh : ShOK (shelf l)) : Sig Try.prog 17 [.e (.g [.q 0,.q 1,.q 2,ai (h.change),.q 3,.q 4]),.e (.a (.q 5))] [(0,PL ETm (h.machs)),(1,PL EBd (h.buns)),(2,PL EP.int (h.trains)),(3,PL EP.int (h.bores)),(4,PL (EP.sl EP.int) (h.eds)),(5,PL EPl (l))] (.t [.a (.q 0),.a (ai (0))]) [(0,PL EP.int (lackTo h (shelf l) (casesL h).length))] := by
  have hh : h.house = true := by simp only [Hall.chk,Hall.hallHd,Bool.and_eq_true] at hc; exact hc.1.1.1.1.1
  have hC := houC hh
  have hb5 := hC.b
  have hm3 := hC.m
  have hcl : (casesL h).length ≤ 4 := by have := cTo_len h h.machs.length; unfold casesL; omega
  refine Sig.intro Try.func17 rfl 6 [(0,.e (.g [.q 0,.q 1,.q 2,ai (h.change),.q 3,.q 4])),(1,.e (.a (.q 5)))] rfl w17 rfl rfl fun I w => ?_
  refine WP.seq (WP.region ?_)
  refine WPl.l 6 7 rfl rfl rfl (o_boxg rfl) ?_
  refine WPl.v rfl (o_assign rfl) ?_
  refine WPl.v rfl (o_assign rfl) ?_
  refine WPl.nil (EX.then (WP.seq ?_))
  refine WP.draw (nf := 13) [⟨[13,14,6],[12],[],[],[]⟩,⟨[12,6],[12],[],[],[]⟩,⟨[12,6],[12],[],[],[1]⟩,⟨[6],[12],[7,8,9,10,11],[7,8,9,10,11],[0,1,2]⟩,⟨[6],[12],[],[],[0,1,2,3]⟩,⟨[17,6],[12],[],[],[0,1,2,3,4]⟩,⟨[16,6],[12],[],[],[0,1,2,3,4]⟩,⟨[12,13,14,15,11,16,17],[7,8,9,10,11],[12],[12],[]⟩,⟨[17],[],[],[12],[0,1,2,3,4,5,7]⟩,⟨[],[],[],[],[0,1,2,3,4,5,6,7,8]⟩] (by kernel_rfl) (by kernel_rfl) ?_
  refine DRQ.v rfl rfl rfl (o_ldpa G29 rfl rfl rfl) ?_
  refine DRQ.v rfl rfl rfl (o_move rfl) ?_
  refine DRQ.cs rfl rfl rfl rfl (o_sig 7 (ren [(0,5)]) (c38 l hl) e38 rfl rfl rfl w38 ⟨(lx rfl),trivial⟩ r38) ?_
  refine DRQ.cs rfl rfl rfl rfl (o_sig 7 (ren [(0,0),(1,1),(2,2),(3,3),(4,4)]) (c34 h (isSet l) hm hc hs) e34 rfl rfl rfl w34 ⟨(lx rfl),(lx rfl),(lx rfl),(lx rfl),(lx rfl),trivial⟩ r34) ?_
  refine DRQ.v rfl rfl rfl (o_move rfl) ?_
  refine DRQ.v rfl rfl rfl (o_extract rfl rfl) ?_
  refine DRQ.v rfl rfl rfl (o_extract rfl rfl) ?_
  refine DRQ.l 12 rfl rfl rfl rfl (o_alloc Z75) ?_
  refine DRQ.s 12 rfl rfl rfl (o_stag G75 rfl rfl rfl ⟨(.inl ⟨_,(lx rfl),PL.one⟩),(.inl ⟨_,(lx rfl),PL.one⟩),(.inl ⟨_,(lx rfl),PL.one⟩),rfl,(.inl ⟨_,(lx rfl),PL.one⟩),(.inl ⟨_,(lx rfl),PL.one⟩),trivial⟩ rfl rfl) ?_
  refine DRQ.v rfl rfl rfl (o_assign rfl) ?_
  refine DRQ.nil' ?_
  refine EX.then (WP.seq (WP.seq (WP.region ?_)))
  refine WPl.v rfl (o_move rfl) ?_
  refine WPl.v rfl (o_neq rfl rfl) ?_
  refine WPl.nil (EX.then ?_)
  refine WP.cond rfl (fun hc1 => ?_) (fun hc1 => ?_)
  · try simp only [cnd] at hc1
    first | exact absurd trivial hc1 | simp at hc1
  · try simp only [cnd] at hc1
    refine WP.skip (EX.then (WP.seq (WP.region ?_)))
    refine WPl.v rfl (o_assign rfl) ?_
    refine WPl.imp (Imp.namo EP.int 13 14 3 rfl rfl) ?_
    refine WPl.imp (Imp.swF 8 13 rfl (lx rfl)) ?_
    refine WPl.nil (EX.then (WP.seq (WP.seq (WP.region ?_))))
    refine WPl.v rfl (o_ldpa G75 rfl rfl rfl) ?_
    refine WPl.cs 15 rfl rfl rfl rfl (o_sig 14 (ren [(0,7),(1,8),(2,9),(3,10),(4,11)]) (c39 h hC) e39 rfl rfl rfl w39 ⟨(lx rfl),(lx rfl),(lx rfl),(lx rfl),(lx rfl),trivial⟩ r39) ?_
    refine WPl.v rfl (o_lenq L24 rfl (lx rfl)) ?_
    refine WPl.v rfl (o_move rfl) ?_
    refine WPl.nil (EX.then (WP.block ?_))
    refine WP.loop (Gh := Nat) (fun i => ⟨15,[(1,.e (.a (.q 5))),(4,.e (.a (.v (.slice none 0 0)))),(5,.i (0)),(6,.e (.a (.p 12 (0)))),(8,.e (.a (.q 13))),(22,.e (.a (.q 14))),(23,.i (((casesL h).length : Int))),(24,.i ((i : Int)))],[(5,PL EPl (l)),(7,PL ETm (h.machs)),(8,PL EBd (h.buns)),(9,PL EP.int (h.trains)),(10,PL EP.int (h.bores)),(11,PL (EP.sl EP.int) (h.eds)),(14,PL EP.int (casesL h))],[(12,.blk [.q 7,.q 8,.q 9,ai (h.change),.q 10,.q 11] 75),(13,.own 3 EP.int.size (lackTo h (shelf l) i).length (RP EP.int (lackTo h (shelf l) i)))],[],[]⟩) (fun i => i ≤ (casesL h).length) (fun i => (casesL h).length - i) (0) id ?_ (LeR.of ⟨rfl,rfl,rfl,rfl,rfl,rfl,rfl,rfl,trivial⟩ ⟨(lx rfl),(lx rfl),(lx rfl),(lx rfl),(lx rfl),(lx rfl),(lx rfl),trivial⟩ ⟨rfl,(congrArg (fun z => some (Ent.own 3 EP.int.size (List.length z) (RP EP.int z))) (show ([]) = ((fun i => lackTo h (shelf l) i) 0) from rfl)),trivial⟩ rfl rfl rfl rfl rfl) ?_
    · first | trivial | omega | (constructor <;> omega) | simp
    intro i hφ
    have hi : i ≤ (casesL h).length := hφ
    refine WP.seq (WP.region ?_)
    refine WPl.v rfl (o_lss rfl rfl) ?_
    refine WPl.nil (EX.then (WP.seq ?_))
    refine WP.cond rfl (fun hc2 => ?_) (fun hc2 => ?_)
    · try simp only [cnd] at hc2
      refine WP.skip (EX.then (WP.seq (WP.block (WP.seq (WP.region ?_)))))
      have hcb := cases_b (show i < (casesL h).length by omega)
      refine WPl.x 15 16 rfl rfl rfl (o_idx L24 rfl (lx rfl) rfl (by first | omega | (simp; omega)) (by first | omega | (simp; omega))) ?_
      refine WPl.v rfl (o_ldq S3 rfl (lx rfl) intc) ?_
      refine WPl.v rfl (o_assign rfl) ?_
      refine WPl.nil (EX.then (WP.seq ?_))
      refine WP.draw (nf := 17) [⟨[30,31],[],[],[],[]⟩,⟨[30,31],[],[],[],[0]⟩,⟨[28,29,31],[],[],[],[]⟩,⟨[28,29,30],[],[],[],[]⟩,⟨[],[],[16],[16],[0,1,2,3]⟩,⟨[],[],[],[],[0,1,2,3,4]⟩,⟨[],[],[],[],[0,1,2,3,4,5]⟩] (by kernel_rfl) (by kernel_rfl) ?_
      refine DRQ.v rfl rfl rfl (o_move rfl) ?_
      refine DRQ.cs rfl rfl rfl rfl (o_sig 16 (ren [(0,5)]) (c40 l hl hs) e40 rfl rfl rfl w40 ⟨(lx rfl),trivial⟩ r40) ?_
      refine DRQ.v rfl rfl rfl (o_ldpa G75 rfl rfl rfl) ?_
      refine DRQ.v rfl rfl rfl (o_move rfl) ?_
      refine DRQ.cs rfl rfl rfl rfl (o_sig 16 (ren [(0,7),(1,8),(2,9),(3,10),(4,11)]) (c42 h (nth (casesL h) (i : Int)) hm hc (by omega)) e42 rfl rfl rfl w42 ⟨(lx rfl),(lx rfl),(lx rfl),(lx rfl),(lx rfl),trivial⟩ r42) ?_
      refine DRQ.cs rfl rfl rfl rfl (o_sig 17 (ren [(0,16)]) (c41 (shelf l) h (nth (casesL h) (i : Int)) hsh hc hb5) e41 rfl rfl rfl w41 ⟨(lx rfl),trivial⟩ r41) ?_
      refine DRQ.v rfl rfl rfl (o_not rfl) ?_
      refine DRQ.nil' ?_
      refine EX.then ?_
      refine WP.cond rfl (fun hc3 => ?_) (fun hc3 => ?_)
      · try simp only [cnd] at hc3
        refine WP.region ?_
        refine WPl.v rfl (o_move rfl) ?_
        refine WPl.v rfl (o_move rfl) ?_
        refine WPl.l 17 18 rfl rfl rfl (o_bsl (E := EP.int) (l := [nth (casesL h) (i : Int)]) R24 rfl rfl (.cons (rfl) rfl (eok_int) (.nil)) rfl rfl) ?_
        refine WPl.u1 (k := 18) (m := 19) rfl rfl rfl (o_appo R24 EP.int_one rfl rfl rfl rfl (by have := lackTo_len h (shelf l) i; first | omega | (simp; omega)) (by have := lackTo_len h (shelf l) i; first | omega | (simp; omega))) ?_
        refine WPl.v rfl (o_assign rfl) ?_
        refine WPl.nil (EX.blk (EX.then (WP.region ?_)))
        refine WPl.v rfl (o_add rfl rfl (by first | omega | (simp; omega)) (by first | omega | (simp; omega))) ?_
        refine WPl.v rfl (o_move rfl) ?_
        refine WPl.nil ?_
        refine EX.again (i + 1) (ren [(13,18)]) (by first | omega | (constructor <;> omega)) (by omega) (LeR.of ⟨rfl,rfl,rfl,rfl,rfl,rfl,rfl,rfl,trivial⟩ ⟨(lx rfl),(lx rfl),(lx rfl),(lx rfl),(lx rfl),(lx rfl),(lx rfl),trivial⟩ ⟨rfl,(congrArg (fun z => some (Ent.own 3 EP.int.size (List.length z) (RP EP.int z))) (show ((lackTo h (shelf l) i) ++ [nth (casesL h) (i : Int)]) = ((fun i => lackTo h (shelf l) i) (i + 1)) from by dsimp only; rw [lackTo,if_neg (by rw [hc3]; simp)])),trivial⟩ rfl rfl rfl rfl rfl)
      · try simp only [cnd] at hc3
        refine WP.skip (EX.blk (EX.then (WP.region ?_)))
        refine WPl.v rfl (o_add rfl rfl (by first | omega | (simp; omega)) (by first | omega | (simp; omega))) ?_
        refine WPl.v rfl (o_move rfl) ?_
        refine WPl.nil ?_
        refine EX.again (i + 1) id (by first | omega | (constructor <;> omega)) (by omega) (LeR.of ⟨rfl,rfl,rfl,rfl,rfl,rfl,rfl,rfl,trivial⟩ ⟨(lx rfl),(lx rfl),(lx rfl),(lx rfl),(lx rfl),(lx rfl),(lx rfl),trivial⟩ ⟨rfl,(congrArg (fun z => some (Ent.own 3 EP.int.size (List.length z) (RP EP.int z))) (show (lackTo h (shelf l) i) = ((fun i => lackTo h (shelf l) i) (i + 1)) from by dsimp only; rw [lackTo,if_pos hc3])),trivial⟩ rfl rfl rfl rfl rfl)
    · try simp only [cnd] at hc2
      refine WP.exit (EX.exit_then (EX.exit_then (EX.exit_blk (EX.then (WP.seq (WP.region ?_))))))
      refine WPl.v rfl (o_move rfl) ?_
      refine WPl.v rfl (o_assign rfl) ?_
      refine WPl.v rfl (o_assign rfl) ?_
      refine WPl.nil (EX.then (WP.ret ?_))
      refine EX.imp (Imp.frz (E := EP.int) (l := lackTo h (shelf l) i) 13 rfl rfl) ?_
      rw [show (casesL h).length = i by omega]
      exact EX.fin (ren [(0,13)]) (.inl rfl) rfl (.tmp rfl (.tmp rfl .nil)) rfl (by simp [SV.res,El.res,At.res,keys]) ⟨(lx rfl),trivial⟩ (by simp) (by simp)
end Go.Flong
namespace Go.Flong
open Go Go.Eng Go.Proofs
theorem e21 : Enters' Try.prog 21 := Try.call21
theorem e5 : Enters' Try.prog 5 := Try.call5
theorem w4 {h : Hall} : ∀ x ∈ ([.e (.g [.q 0,.q 1,.q 2,ai (h.change),.q 3,.q 4])] : List SV),x.res (keys (α := Pred) [(0,PL ETm (h.machs)),(1,PL EBd (h.buns)),(2,PL EP.int (h.trains)),(3,PL EP.int (h.bores)),(4,PL (EP.sl EP.int) (h.eds))]) := by simp [SV.res,El.res,At.res,keys]
theorem r4 {h : Hall} : SV.res (keys (α := Pred) []) (.b (farV h)) := by simp [SV.res,El.res,At.res,keys]
set_option maxHeartbeats 4000000 in
theorem c4 (h : Hall)  : Sig Try.prog 4 [.e (.g [.q 0,.q 1,.q 2,ai (h.change),.q 3,.q 4])] [(0,PL ETm (h.machs)),(1,PL EBd (h.buns)),(2,PL EP.int (h.trains)),(3,PL EP.int (h.bores)),(4,PL (EP.sl EP.int) (h.eds))] (.b (farV h)) [] := by
  refine Sig.intro Try.func4 rfl 5 [(0,.e (.g [.q 0,.q 1,.q 2,ai (h.change),.q 3,.q 4]))] rfl w4 rfl rfl fun I w => ?_
  refine WP.seq (WP.region ?_)
  refine WPl.l 5 6 rfl rfl rfl (o_boxg rfl) ?_
  refine WPl.v rfl (o_assign rfl) ?_
  refine WPl.nil (EX.then (WP.seq (WP.region ?_)))
  refine WPl.v rfl (o_ldpa G29 rfl rfl rfl) ?_
  refine WPl.cs 6 rfl rfl rfl rfl (o_sig 6 (ren [(0,0),(1,1),(2,2),(3,3),(4,4)]) (c21 h) e21 rfl rfl rfl w21 ⟨(lx rfl),(lx rfl),(lx rfl),(lx rfl),(lx rfl),trivial⟩ r21) ?_
  refine WPl.v rfl (o_move rfl) ?_
  refine WPl.bit 6 7 (!(hugeH h)) rfl rfl ?_
  refine WPl.gv 6 rfl rfl (.plain rfl (by first | (simp; done) | simp only [Bool.not_eq_true']) rfl) (fun hb => o_fldp F29_0 rfl) ?_
  refine WPl.gv 6 rfl rfl (.plain rfl (by first | (simp; done) | simp only [Bool.not_eq_true']) rfl) (fun hb => o_fldp F26_1 rfl) ?_
  refine WPl.gv 6 rfl rfl (.plain rfl (by first | (simp; done) | simp only [Bool.not_eq_true']) rfl) (fun hb => o_ldp S23 rfl rfl rfl) ?_
  refine WPl.gv 6 rfl rfl (.plain rfl (by first | (simp; done) | simp only [Bool.not_eq_true']) rfl) (fun hb => o_lenq L23 rfl (lx rfl)) ?_
  refine WPl.gv 6 rfl rfl (.plain rfl (by first | (simp; done) | simp only [Bool.not_eq_true']) rfl) (fun hb => o_gtr rfl rfl) ?_
  refine WPl.gv 6 rfl rfl (.plain rfl (by first | (simp; done) | simp only [Bool.not_eq_true']) rfl) (fun hb => o_move rfl) ?_
  refine WPl.bit 7 8 ((!(hugeH h)) && (decide (3 < (h.buns.length : Int)))) rfl rfl ?_
  refine WPl.gv 7 rfl rfl (.nest rfl rfl (by first | (simp; done) | simp only [Bool.and_eq_true,Bool.not_eq_true']) rfl) (fun hb => o_ldpa G29 rfl rfl rfl) ?_
  refine WPl.gc0 7 rfl rfl (.nest rfl rfl (by first | (simp; done) | simp only [Bool.and_eq_true,Bool.not_eq_true']) rfl) (fun hb => o_sig 8 (ren [(0,0),(1,1),(2,2),(3,3),(4,4)]) (c5 h (hugeH_small (by rw [Bool.and_eq_true,Bool.not_eq_true'] at hb; exact hb.1))) e5 rfl rfl rfl w5 ⟨(lx rfl),(lx rfl),(lx rfl),(lx rfl),(lx rfl),trivial⟩ r5) ?_
  refine WPl.gv 7 rfl rfl (.nest rfl rfl (by first | (simp; done) | simp only [Bool.and_eq_true,Bool.not_eq_true']) rfl) (fun hb => o_eql rfl rfl) ?_
  refine WPl.gv 6 rfl rfl (.plain rfl (by first | (simp; done) | simp only [Bool.not_eq_true']) rfl) (fun hb => o_and rfl rfl rfl (by first | (simp; done) | exact fun h => Bool.and_eq_true_iff.2 ⟨hb,h⟩ | simp_all)) ?_
  refine WPl.v rfl (o_or rfl rfl rfl (by first | (simp; done) | exact fun h => by rw [h]; rfl | exact fun h => Bool.and_eq_true_iff.2 ⟨hb,by rw [h]; rfl⟩ | simp_all)) ?_
  refine WPl.v rfl (o_assign rfl) ?_
  refine WPl.nil (EX.then (WP.ret ?_))
  exact EX.fin id (.inl rfl) rfl (.tmp rfl .nil) rfl r4 trivial (by simp) (by simp)
end Go.Flong
namespace Go.Flong
open Go Go.Eng Go.Proofs
theorem e44 : Enters' Try.prog 44 := Try.call44
theorem e19 : Enters' Try.prog 19 := Try.call19
theorem w43V {h : Hall} {s : List Int} : ∀ x ∈ ([.e (.g [ai (nth s 0),ai (nth s 1),ai (nth s 2),ai (nth s 3),ai (nth s 4),ai (nth s 5),ai (nth s 6),ai (nth s 7),ai (nth s 8),ai (nth s 9),ai (nth s 10),ai (nth s 11)]),.e (.a (.q 0))] : List SV),x.res (keys (α := Pred) [(0,(AllP h))]) := by simp [SV.res,El.res,At.res,keys]
theorem r43V {h : Hall} {s : List Int} : SV.res (keys (α := Pred) []) (.t [.g [ai (nth (fewV h s).1 0),ai (nth (fewV h s).1 1),ai (nth (fewV h s).1 2),ai (nth (fewV h s).1 3),ai (nth (fewV h s).1 4),ai (nth (fewV h s).1 5),ai (nth (fewV h s).1 6),ai (nth (fewV h s).1 7),ai (nth (fewV h s).1 8),ai (nth (fewV h s).1 9),ai (nth (fewV h s).1 10),ai (nth (fewV h s).1 11)],.a (.v (.bool ((fewV h s).2)))]) := by simp [SV.res,El.res,At.res,keys]
set_option maxHeartbeats 4000000 in
theorem c43V (h : Hall) (s : List Int) (hs : ShOK s) (hc : h.chk = true) : Sig Try.prog 43 [.e (.g [ai (nth s 0),ai (nth s 1),ai (nth s 2),ai (nth s 3),ai (nth s 4),ai (nth s 5),ai (nth s 6),ai (nth s 7),ai (nth s 8),ai (nth s 9),ai (nth s 10),ai (nth s 11)]),.e (.a (.q 0))] [(0,(AllP h))] (.t [.g [ai (nth (fewV h s).1 0),ai (nth (fewV h s).1 1),ai (nth (fewV h s).1 2),ai (nth (fewV h s).1 3),ai (nth (fewV h s).1 4),ai (nth (fewV h s).1 5),ai (nth (fewV h s).1 6),ai (nth (fewV h s).1 7),ai (nth (fewV h s).1 8),ai (nth (fewV h s).1 9),ai (nth (fewV h s).1 10),ai (nth (fewV h s).1 11)],.a (.v (.bool ((fewV h s).2)))]) [] := by
  have hh : h.house = true := by simp only [Hall.chk,Hall.hallHd,Bool.and_eq_true] at hc; exact hc.1.1.1.1.1
  have hC := houC hh
  have hb5 := hC.b
  have hm3 := hC.m
  have hcl : (casesL h).length ≤ 4 := by have := cTo_len h h.machs.length; unfold casesL; omega
  refine sig_all fun Ls hA => ?_
  have h1 := c43 s Ls hs (hA.few hc hb5 hcl)
  rw [fewV_eq hC hA hs.len] at h1
  exact h1
theorem w19 {h : Hall} {l : List Plate} : ∀ x ∈ ([.e (.g [.q 0,.q 1,.q 2,ai (h.change),.q 3,.q 4]),.e (.a (.q 5))] : List SV),x.res (keys (α := Pred) [(0,PL ETm (h.machs)),(1,PL EBd (h.buns)),(2,PL EP.int (h.trains)),(3,PL EP.int (h.bores)),(4,PL (EP.sl EP.int) (h.eds)),(5,PL EPl (l))]) := by simp [SV.res,El.res,At.res,keys]
theorem r19 {h : Hall} {l : List Plate} : SV.res (keys (α := Pred) []) (.t [.a (ai (extV h (shelf l))),.a (ai (extE h (shelf l)))]) := by simp [SV.res,El.res,At.res,keys]
set_option maxHeartbeats 4000000 in
theorem c19 (h : Hall) (l : List Plate) (hm : h.Small) (hc : h.chk = true) (hl : l.length ≤ 1000) (hs : isSet l = true) (hsh : ShOK (shelf l)) : Sig Try.prog 19 [.e (.g [.q 0,.q 1,.q 2,ai (h.change),.q 3,.q 4]),.e (.a (.q 5))] [(0,PL ETm (h.machs)),(1,PL EBd (h.buns)),(2,PL EP.int (h.trains)),(3,PL EP.int (h.bores)),(4,PL (EP.sl EP.int) (h.eds)),(5,PL EPl (l))] (.t [.a (ai (extV h (shelf l))),.a (ai (extE h (shelf l)))]) [] := by
  have hh : h.house = true := by simp only [Hall.chk,Hall.hallHd,Bool.and_eq_true] at hc; exact hc.1.1.1.1.1
  have hC := houC hh
  have hb5 := hC.b
  have hm3 := hC.m
  have hcl : (casesL h).length ≤ 4 := by have := cTo_len h h.machs.length; unfold casesL; omega
  refine Sig.intro Try.func19 rfl 6 [(0,.e (.g [.q 0,.q 1,.q 2,ai (h.change),.q 3,.q 4])),(1,.e (.a (.q 5)))] rfl w19 rfl rfl fun I w => ?_
  refine WP.seq (WP.region ?_)
  refine WPl.l 6 7 rfl rfl rfl (o_boxg rfl) ?_
  refine WPl.v rfl (o_assign rfl) ?_
  refine WPl.v rfl (o_assign rfl) ?_
  refine WPl.nil (EX.then (WP.seq ?_))
  refine WP.draw (nf := 13) [⟨[12,13,6],[12],[],[],[]⟩,⟨[11,6],[12],[],[],[]⟩,⟨[11,6],[12],[],[],[1]⟩,⟨[6],[12],[7,8,9,10,11],[7,8,9,10,11],[0,1,2]⟩,⟨[6],[12],[],[],[0,1,2,3]⟩,⟨[16,6],[12],[],[],[0,1,2,3,4]⟩,⟨[15,6],[12],[],[],[0,1,2,3,4]⟩,⟨[11,12,13,14,10,15,16],[7,8,9,10,11],[12],[12],[]⟩,⟨[16],[],[],[12],[0,1,2,3,4,5,7]⟩,⟨[],[],[],[],[0,1,2,3,4,5,6,7,8]⟩] (by kernel_rfl) (by kernel_rfl) ?_
  refine DRQ.v rfl rfl rfl (o_ldpa G29 rfl rfl rfl) ?_
  refine DRQ.v rfl rfl rfl (o_move rfl) ?_
  refine DRQ.cs rfl rfl rfl rfl (o_sig 7 (ren [(0,5)]) (c38 l hl) e38 rfl rfl rfl w38 ⟨(lx rfl),trivial⟩ r38) ?_
  refine DRQ.cs rfl rfl rfl rfl (o_sig 7 (ren [(0,0),(1,1),(2,2),(3,3),(4,4)]) (c34 h (isSet l) hm hc hs) e34 rfl rfl rfl w34 ⟨(lx rfl),(lx rfl),(lx rfl),(lx rfl),(lx rfl),trivial⟩ r34) ?_
  refine DRQ.v rfl rfl rfl (o_move rfl) ?_
  refine DRQ.v rfl rfl rfl (o_extract rfl rfl) ?_
  refine DRQ.v rfl rfl rfl (o_extract rfl rfl) ?_
  refine DRQ.l 12 rfl rfl rfl rfl (o_alloc Z75) ?_
  refine DRQ.s 12 rfl rfl rfl (o_stag G75 rfl rfl rfl ⟨(.inl ⟨_,(lx rfl),PL.one⟩),(.inl ⟨_,(lx rfl),PL.one⟩),(.inl ⟨_,(lx rfl),PL.one⟩),rfl,(.inl ⟨_,(lx rfl),PL.one⟩),(.inl ⟨_,(lx rfl),PL.one⟩),trivial⟩ rfl rfl) ?_
  refine DRQ.v rfl rfl rfl (o_assign rfl) ?_
  refine DRQ.nil' ?_
  refine EX.then (WP.seq (WP.seq (WP.region ?_)))
  refine WPl.v rfl (o_move rfl) ?_
  refine WPl.v rfl (o_neq rfl rfl) ?_
  refine WPl.nil (EX.then ?_)
  refine WP.cond rfl (fun hc1 => ?_) (fun hc1 => ?_)
  · try simp only [cnd] at hc1
    first | exact absurd trivial hc1 | simp at hc1
  · try simp only [cnd] at hc1
    refine WP.skip (EX.then (WP.seq ?_))
    refine WP.draw (nf := 15) [⟨[23,8],[14],[],[],[]⟩,⟨[23,8],[14],[],[],[0]⟩,⟨[21,22,8],[14],[],[],[]⟩,⟨[8],[14],[13],[13],[0,1,2]⟩,⟨[8],[14],[],[],[0,1,2,3]⟩,⟨[8],[14],[],[],[0,1,2,3,4]⟩,⟨[27,8],[14],[],[],[0,1,2,3,4,5]⟩,⟨[26,8],[14],[],[],[0,1,2,3,4,5]⟩,⟨[21,22,23,24,25,20,26,27],[13],[14],[14],[]⟩,⟨[27],[],[],[14],[0,1,2,3,4,5,6,8]⟩,⟨[],[],[],[],[0,1,2,3,4,5,6,7,8,9]⟩] (by kernel_rfl) (by kernel_rfl) ?_
    refine DRQ.v rfl rfl rfl (o_move rfl) ?_
    refine DRQ.cs rfl rfl rfl rfl (o_sig 13 (ren [(0,5)]) (c40 l hl hs) e40 rfl rfl rfl w40 ⟨(lx rfl),trivial⟩ r40) ?_
    refine DRQ.v rfl rfl rfl (o_ldpa G75 rfl rfl rfl) ?_
    refine DRQ.cs rfl rfl rfl rfl (o_sig 13 (ren [(0,7),(1,8),(2,9),(3,10),(4,11)]) (c44 h hm hc) e44 rfl rfl rfl w44 ⟨(lx rfl),(lx rfl),(lx rfl),(lx rfl),(lx rfl),trivial⟩ r44) ?_
    refine DRQ.cs rfl rfl rfl rfl (o_sig 14 (ren [(0,13)]) (c43V h (shelf l) hsh hc) e43 rfl rfl rfl w43V ⟨(lx rfl),trivial⟩ r43V) ?_
    refine DRQ.v rfl rfl rfl (o_move rfl) ?_
    refine DRQ.v rfl rfl rfl (o_extract rfl rfl) ?_
    refine DRQ.v rfl rfl rfl (o_extract rfl rfl) ?_
    refine DRQ.l 14 rfl rfl rfl rfl (o_alloc Z81) ?_
    refine DRQ.s 14 rfl rfl rfl (o_stag G81 rfl rfl rfl ⟨rfl,rfl,rfl,rfl,rfl,rfl,rfl,rfl,rfl,rfl,rfl,rfl,trivial⟩ rfl rfl) ?_
    refine DRQ.v rfl rfl rfl (o_assign rfl) ?_
    refine DRQ.nil' ?_
    refine EX.then (WP.seq (WP.seq (WP.region ?_)))
    refine WPl.v rfl (o_move rfl) ?_
    refine WPl.v rfl (o_not rfl) ?_
    refine WPl.nil (EX.then ?_)
    refine WP.cond rfl (fun hc2 => ?_) (fun hc2 => ?_)
    · try simp only [cnd] at hc2
      refine WP.seq (WP.region ?_)
      refine WPl.v rfl (o_assign rfl) ?_
      refine WPl.v rfl (o_assign rfl) ?_
      refine WPl.nil (EX.then (WP.ret (EX.ret_then ?_)))
      rw [show extV h (shelf l) = 0 from by unfold extV; rw [if_neg (by simpa using hc2)],show extE h (shelf l) = 3 from by unfold extE; rw [if_neg (by simpa using hc2)]]
      exact EX.fin id (.inl rfl) rfl (.tmp rfl (.tmp rfl .nil)) rfl (by simp [SV.res,El.res,At.res,keys]) trivial (by simp) (by simp)
    · try simp only [cnd] at hc2
      refine WP.skip (EX.then (WP.seq (WP.region ?_)))
      refine WPl.v rfl (o_ldpa G81 rfl rfl rfl) ?_
      have hfo := fewV_ok hC hc hsh
      have hs1 := sumS_b hfo 12 (by omega)
      have hs2 := sumS_b hsh 12 (by omega)
      refine WPl.cs 15 rfl rfl rfl rfl (o_sig 15 id (c45 ((fewV h (shelf l)).1) (fewV_ok hC hc hsh)) e45 rfl rfl rfl w45 trivial r45) ?_
      refine WPl.v rfl (o_move rfl) ?_
      refine WPl.cs 15 rfl rfl rfl rfl (o_sig 15 (ren [(0,5)]) (c40 l hl hs) e40 rfl rfl rfl w40 ⟨(lx rfl),trivial⟩ r40) ?_
      refine WPl.cs 15 rfl rfl rfl rfl (o_sig 15 id (c45 (shelf l) hsh) e45 rfl rfl rfl w45 trivial r45) ?_
      refine WPl.v rfl (o_sub rfl rfl (by first | omega | (simp; omega)) (by first | omega | (simp; omega))) ?_
      refine WPl.v rfl (o_assign rfl) ?_
      refine WPl.v rfl (o_assign rfl) ?_
      refine WPl.nil (EX.then (WP.ret ?_))
      rw [show extV h (shelf l) = sumS (fewV h (shelf l)).1 12 - sumS (shelf l) 12 from by unfold extV; rw [if_pos (by simpa using hc2)],show extE h (shelf l) = 0 from by unfold extE; rw [if_pos (by simpa using hc2)]]
      exact EX.fin id (.inl rfl) rfl (.tmp rfl (.tmp rfl .nil)) rfl (by simp [SV.res,El.res,At.res,keys]) trivial (by simp) (by simp)
theorem w8 {h : Hall} : ∀ x ∈ ([.e (.g [.q 0,.q 1,.q 2,ai (h.change),.q 3,.q 4])] : List SV),x.res (keys (α := Pred) [(0,PL ETm (h.machs)),(1,PL EBd (h.buns)),(2,PL EP.int (h.trains)),(3,PL EP.int (h.bores)),(4,PL (EP.sl EP.int) (h.eds))]) := by simp [SV.res,El.res,At.res,keys]
theorem r8 {h : Hall} : SV.res (keys (α := Pred) []) (.t [.a (ai (extV h zer12)),.a (ai (extE h zer12))]) := by simp [SV.res,El.res,At.res,keys]
set_option maxHeartbeats 4000000 in
theorem c8 (h : Hall) (hm : h.Small) (hc : h.chk = true) : Sig Try.prog 8 [.e (.g [.q 0,.q 1,.q 2,ai (h.change),.q 3,.q 4])] [(0,PL ETm (h.machs)),(1,PL EBd (h.buns)),(2,PL EP.int (h.trains)),(3,PL EP.int (h.bores)),(4,PL (EP.sl EP.int) (h.eds))] (.t [.a (ai (extV h zer12)),.a (ai (extE h zer12))]) [] := by
  refine Sig.intro Try.func8 rfl 5 [(0,.e (.g [.q 0,.q 1,.q 2,ai (h.change),.q 3,.q 4]))] rfl w8 rfl rfl fun I w => ?_
  refine WP.seq (WP.region ?_)
  refine WPl.l 5 6 rfl rfl rfl (o_boxg rfl) ?_
  refine WPl.v rfl (o_assign rfl) ?_
  refine WPl.v rfl (o_assign rfl) ?_
  refine WPl.nil (EX.then (WP.seq (WP.region ?_)))
  refine WPl.v rfl (o_ldpa G29 rfl rfl rfl) ?_
  refine WPl.imp (Imp.nam 6 7 (.slice none 0 0) (R := PN EPl) pn_ok rfl rfl) ?_
  refine WPl.cs 7 rfl rfl rfl rfl (o_sigc 7 (ren [(0,0),(1,1),(2,2),(3,3),(4,4),(5,6)]) (c19 h [] hm hc (by simp) rfl zer_ok) e19 rfl rfl ⟨.inl rfl,.inr ⟨_,_,rfl,fun _ => rfl,(lxr rfl)⟩,trivial⟩ w19 ⟨(lx rfl),(lx rfl),(lx rfl),(lx rfl),(lx rfl),(lxl rfl),trivial⟩ r19) ?_
  refine WPl.v rfl (o_extract rfl rfl) ?_
  refine WPl.v rfl (o_extract rfl rfl) ?_
  refine WPl.v rfl (o_assign rfl) ?_
  refine WPl.v rfl (o_assign rfl) ?_
  refine WPl.nil (EX.then (WP.ret ?_))
  exact EX.fin id (.inl rfl) rfl (.tmp rfl (.tmp rfl .nil)) rfl r8 trivial (by simp) (by simp)
end Go.Flong
namespace Go.Flong
open Go Go.Eng Go.Proofs
theorem e25 : Enters' Try.prog 25 := Try.call25
theorem e7 : Enters' Try.prog 7 := Try.call7
theorem e8 : Enters' Try.prog 8 := Try.call8
theorem e4 : Enters' Try.prog 4 := Try.call4
theorem e6 : Enters' Try.prog 6 := Try.call6
theorem e9 : Enters' Try.prog 9 := Try.call9
theorem e10 : Enters' Try.prog 10 := Try.call10
theorem e11 : Enters' Try.prog 11 := Try.call11
theorem e12 : Enters' Try.prog 12 := Try.call12
theorem e13 : Enters' Try.prog 13 := Try.call13
theorem e14 : Enters' Try.prog 14 := Try.call14
theorem e15 : Enters' Try.prog 15 := Try.call15
theorem e16 : Enters' Try.prog 16 := Try.call16
theorem e18 : Enters' Try.prog 18 := Try.call18
theorem e17 : Enters' Try.prog 17 := Try.call17
theorem e20 : Enters' Try.prog 20 := Try.call20
theorem w6  : ∀ x ∈ ([] : List SV),x.res (keys (α := Pred) []) := by simp [SV.res,El.res,At.res,keys]
theorem r6  : SV.res (keys (α := Pred) []) (.b (true)) := by simp [SV.res,El.res,At.res,keys]
set_option maxHeartbeats 4000000 in
theorem c6   : Sig Try.prog 6 [] [] (.b (true)) [] := by
  refine Sig.intro Try.func6 rfl 0 [] rfl w6 rfl rfl fun I w => ?_
  refine WP.seq (WP.region ?_)
  refine WPl.v rfl (o_assign rfl) ?_
  refine WPl.nil (EX.then (WP.seq (WP.region ?_)))
  refine WPl.cs 10 rfl rfl rfl rfl (o_sig 0 id c25 e25 rfl rfl rfl w25 trivial r25) ?_
  refine WPl.v rfl (o_move rfl) ?_
  refine WPl.v rfl (o_extract rfl rfl) ?_
  refine WPl.v rfl (o_extract rfl rfl) ?_
  refine WPl.l 10 11 rfl rfl rfl (o_alloc Z29) ?_
  refine WPl.l 11 12 rfl rfl rfl (o_alloc Z29) ?_
  refine WPl.s1 (o_stag G29 rfl rfl rfl ⟨(.inl ⟨_,(lx rfl),PL.one⟩),(.inl ⟨_,(lx rfl),PL.one⟩),(.inl ⟨_,(lx rfl),PL.one⟩),rfl,(.inl ⟨_,(lx rfl),PL.one⟩),(.inl ⟨_,(lx rfl),PL.one⟩),trivial⟩ rfl rfl) ?_
  refine WPl.s1 (o_stag G29 rfl rfl rfl ⟨(.inl ⟨_,(lx rfl),PL.one⟩),(.inl ⟨_,(lx rfl),PL.one⟩),(.inl ⟨_,(lx rfl),PL.one⟩),rfl,(.inl ⟨_,(lx rfl),PL.one⟩),(.inl ⟨_,(lx rfl),PL.one⟩),trivial⟩ rfl rfl) ?_
  refine WPl.nil (EX.then (WP.seq (WP.region ?_)))
  refine WPl.v rfl (o_fldp F29_0 rfl) ?_
  refine WPl.v rfl (o_ldpg G26 rfl rfl rfl) ?_
  refine WPl.cs 12 rfl rfl rfl rfl (o_sig 12 (ren [(0,5),(1,6),(2,7)]) (c7 exL exL_small (chk_house exL_chk)) e7 rfl rfl rfl w7 ⟨(lx rfl),(lx rfl),(lx rfl),trivial⟩ r7) ?_
  refine WPl.v rfl (o_move rfl) ?_
  refine WPl.v rfl (o_extract rfl rfl) ?_
  refine WPl.v rfl (o_extract rfl rfl) ?_
  refine WPl.v rfl (o_assign rfl) ?_
  refine WPl.v rfl (o_assign rfl) ?_
  refine WPl.nil (EX.then (WP.seq (WP.region ?_)))
  refine WPl.v rfl (o_ldpa G29 rfl rfl rfl) ?_
  refine WPl.cs 12 rfl rfl rfl rfl (o_sig 12 (ren [(0,5),(1,6),(2,7),(3,8),(4,9)]) (c8 exL exL_small exL_chk) e8 rfl rfl rfl w8 ⟨(lx rfl),(lx rfl),(lx rfl),(lx rfl),(lx rfl),trivial⟩ r8) ?_
  refine WPl.v rfl (o_move rfl) ?_
  refine WPl.v rfl (o_extract rfl rfl) ?_
  refine WPl.v rfl (o_extract rfl rfl) ?_
  refine WPl.v rfl (o_assign rfl) ?_
  refine WPl.v rfl (o_assign rfl) ?_
  refine WPl.nil (EX.then (WP.seq (WP.region ?_)))
  refine WPl.v rfl (o_move rfl) ?_
  refine WPl.v rfl (o_eql rfl rfl) ?_
  refine WPl.v rfl (o_move rfl) ?_
  refine WPl.bit 12 13 (decide (0 = 0)) rfl rfl ?_
  refine WPl.gv 12 rfl rfl (.plain rfl Iff.rfl rfl) (fun hb => o_move rfl) ?_
  refine WPl.gv 12 rfl rfl (.plain rfl Iff.rfl rfl) (fun hb => o_eql rfl rfl) ?_
  refine WPl.v rfl (o_and rfl rfl rfl id) ?_
  refine WPl.v rfl (o_move rfl) ?_
  refine WPl.bit 13 14 ((decide (0 = 0)) && (decide ((extE exL zer12) = 0))) rfl rfl ?_
  refine WPl.gv 13 rfl rfl (.plain rfl Iff.rfl rfl) (fun hb => o_move rfl) ?_
  refine WPl.v rfl (o_and rfl rfl rfl id) ?_
  refine WPl.v rfl (o_move rfl) ?_
  refine WPl.bit 14 15 (((decide (0 = 0)) && (decide ((extE exL zer12) = 0))) && (sureV exL)) rfl rfl ?_
  refine WPl.gv 14 rfl rfl (.plain rfl Iff.rfl rfl) (fun hb => o_move rfl) ?_
  refine WPl.gv 14 rfl rfl (.plain rfl Iff.rfl rfl) (fun hb => o_eql rfl rfl) ?_
  refine WPl.v rfl (o_and rfl rfl rfl id) ?_
  refine WPl.v rfl (o_assign rfl) ?_
  refine WPl.nil (EX.then (WP.ret ?_))
  rw [exL_sure,exL_few.1,exL_few.2]
  exact EX.fin id (.inl rfl) rfl (.tmp rfl .nil) rfl (by simp [SV.res,El.res,At.res,keys]) trivial (by simp) (by simp)
theorem w3 {h : Hall} : ∀ x ∈ ([.e (.g [.q 0,.q 1,.q 2,ai (h.change),.q 3,.q 4])] : List SV),x.res (keys (α := Pred) [(0,PL ETm (h.machs)),(1,PL EBd (h.buns)),(2,PL EP.int (h.trains)),(3,PL EP.int (h.bores)),(4,PL (EP.sl EP.int) (h.eds))]) := by simp [SV.res,El.res,At.res,keys]
theorem r3  : SV.res (keys (α := Pred) []) (.b (true)) := by simp [SV.res,El.res,At.res,keys]
set_option maxHeartbeats 4000000 in
theorem c3 (h : Hall)  : Sig Try.prog 3 [.e (.g [.q 0,.q 1,.q 2,ai (h.change),.q 3,.q 4])] [(0,PL ETm (h.machs)),(1,PL EBd (h.buns)),(2,PL EP.int (h.trains)),(3,PL EP.int (h.bores)),(4,PL (EP.sl EP.int) (h.eds))] (.b (true)) [] := by
  refine Sig.intro Try.func3 rfl 5 [(0,.e (.g [.q 0,.q 1,.q 2,ai (h.change),.q 3,.q 4]))] rfl w3 rfl rfl fun I w => ?_
  refine WP.seq (WP.region ?_)
  refine WPl.l 5 6 rfl rfl rfl (o_boxg rfl) ?_
  refine WPl.v rfl (o_assign rfl) ?_
  refine WPl.nil (EX.then (WP.seq (WP.seq (WP.region ?_))))
  refine WPl.v rfl (o_ldpa G29 rfl rfl rfl) ?_
  refine WPl.cs 6 rfl rfl rfl rfl (o_sig 6 (ren [(0,0),(1,1),(2,2),(3,3),(4,4)]) (c4 h) e4 rfl rfl rfl w4 ⟨(lx rfl),(lx rfl),(lx rfl),(lx rfl),(lx rfl),trivial⟩ r4) ?_
  refine WPl.v rfl (o_move rfl) ?_
  refine WPl.bit 6 7 (!(farV h)) rfl rfl ?_
  refine WPl.gv 6 rfl rfl (.plain rfl (by first | (simp; done) | simp only [Bool.not_eq_true']) rfl) (fun hb => o_ldpa G29 rfl rfl rfl) ?_
  refine WPl.gc0 6 rfl rfl (.plain rfl (by first | (simp; done) | simp only [Bool.not_eq_true']) rfl) (fun hb => o_sig 7 (ren [(0,0),(1,1),(2,2),(3,3),(4,4)]) (c5 h (farV_small (by simpa using hb))) e5 rfl rfl rfl w5 ⟨(lx rfl),(lx rfl),(lx rfl),(lx rfl),(lx rfl),trivial⟩ r5) ?_
  refine WPl.gv 6 rfl rfl (.plain rfl (by first | (simp; done) | simp only [Bool.not_eq_true']) rfl) (fun hb => o_neq rfl rfl) ?_
  refine WPl.v rfl (o_or rfl rfl rfl (by first | (simp; done) | exact fun h => by rw [h]; rfl | exact fun h => Bool.and_eq_true_iff.2 ⟨hb,by rw [h]; rfl⟩ | simp_all)) ?_
  refine WPl.nil (EX.then ?_)
  refine WP.cond rfl (fun hc1 => ?_) (fun hc1 => ?_)
  · try simp only [cnd] at hc1
    refine WP.seq (WP.region ?_)
    refine WPl.cs 7 rfl rfl rfl rfl (o_sig 7 id c6 e6 rfl rfl rfl w6 trivial r6) ?_
    refine WPl.v rfl (o_assign rfl) ?_
    refine WPl.nil (EX.then (WP.ret (EX.ret_then ?_)))
    exact EX.fin id (.inl rfl) rfl (.tmp rfl .nil) rfl r3 trivial (by simp) (by simp)
  · try simp only [cnd] at hc1
    have hm := farV_small hc1.1
    have hc : h.chk = true := errL_eq.1 hc1.2
    have hC := houC (chk_house hc)
    have hes := ext_sure hc
    have hm3 := hC.m
    have hcl4 : (casesL h).length ≤ 4 := by have := cTo_len h h.machs.length; unfold casesL; omega
    refine WP.skip (EX.then (WP.seq (WP.region ?_)))
    refine WPl.v rfl (o_fldp F29_0 rfl) ?_
    refine WPl.v rfl (o_ldpg G26 rfl rfl rfl) ?_
    refine WPl.cs 7 rfl rfl rfl rfl (o_sig 7 (ren [(0,0),(1,1),(2,2)]) (c7 h hm (chk_house hc)) e7 rfl rfl rfl w7 ⟨(lx rfl),(lx rfl),(lx rfl),trivial⟩ r7) ?_
    refine WPl.v rfl (o_move rfl) ?_
    refine WPl.v rfl (o_extract rfl rfl) ?_
    refine WPl.v rfl (o_extract rfl rfl) ?_
    refine WPl.v rfl (o_assign rfl) ?_
    refine WPl.v rfl (o_assign rfl) ?_
    refine WPl.nil (EX.then (WP.seq (WP.region ?_)))
    refine WPl.v rfl (o_ldpa G29 rfl rfl rfl) ?_
    refine WPl.cs 7 rfl rfl rfl rfl (o_sig 7 (ren [(0,0),(1,1),(2,2),(3,3),(4,4)]) (c8 h hm hc) e8 rfl rfl rfl w8 ⟨(lx rfl),(lx rfl),(lx rfl),(lx rfl),(lx rfl),trivial⟩ r8) ?_
    refine WPl.v rfl (o_move rfl) ?_
    refine WPl.v rfl (o_extract rfl rfl) ?_
    refine WPl.v rfl (o_extract rfl rfl) ?_
    refine WPl.v rfl (o_assign rfl) ?_
    refine WPl.v rfl (o_assign rfl) ?_
    refine WPl.nil (EX.then (WP.seq (WP.seq (WP.region ?_))))
    refine WPl.v rfl (o_move rfl) ?_
    refine WPl.v rfl (o_neq rfl rfl) ?_
    refine WPl.v rfl (o_move rfl) ?_
    refine WPl.bit 7 8 (!(decide (0 ≠ 0))) rfl rfl ?_
    refine WPl.gv 7 rfl rfl (.plain rfl (by first | (simp; done) | simp only [Bool.not_eq_true']) rfl) (fun hb => o_move rfl) ?_
    refine WPl.gv 7 rfl rfl (.plain rfl (by first | (simp; done) | simp only [Bool.not_eq_true']) rfl) (fun hb => o_move rfl) ?_
    refine WPl.gv 7 rfl rfl (.plain rfl (by first | (simp; done) | simp only [Bool.not_eq_true']) rfl) (fun hb => o_eql rfl rfl) ?_
    refine WPl.gv 7 rfl rfl (.plain rfl (by first | (simp; done) | simp only [Bool.not_eq_true']) rfl) (fun hb => o_neb Try.underlying4 rfl rfl) ?_
    refine WPl.v rfl (o_or rfl rfl rfl (by first | (simp; done) | exact fun h => by rw [h]; rfl | exact fun h => Bool.and_eq_true_iff.2 ⟨hb,by rw [h]; rfl⟩ | simp_all)) ?_
    refine WPl.v rfl (o_move rfl) ?_
    refine WPl.bit 8 9 (!((decide (0 ≠ 0)) || ((sureV h) != (decide ((extE h zer12) = 0))))) rfl rfl ?_
    refine WPl.gv 8 rfl rfl (.plain rfl (by first | (simp; done) | simp only [Bool.not_eq_true']) rfl) (fun hb => o_move rfl) ?_
    refine WPl.gv 8 rfl rfl (.plain rfl (by first | (simp; done) | simp only [Bool.not_eq_true']) rfl) (fun hb => o_neq rfl rfl) ?_
    refine WPl.gv 8 rfl rfl (.plain rfl (by first | (simp; done) | simp only [Bool.not_eq_true']) rfl) (fun hb => o_move rfl) ?_
    refine WPl.bit 9 10 ((!((decide (0 ≠ 0)) || ((sureV h) != (decide ((extE h zer12) = 0))))) && (decide ((extE h zer12) ≠ 0))) rfl rfl ?_
    refine WPl.gv 9 rfl rfl (.nest rfl rfl (by first | (simp; done) | simp only [Bool.and_eq_true,Bool.not_eq_true']) rfl) (fun hb => o_move rfl) ?_
    refine WPl.gv 9 rfl rfl (.nest rfl rfl (by first | (simp; done) | simp only [Bool.and_eq_true,Bool.not_eq_true']) rfl) (fun hb => o_neq rfl rfl) ?_
    refine WPl.gv 8 rfl rfl (.plain rfl (by first | (simp; done) | simp only [Bool.not_eq_true']) rfl) (fun hb => o_and rfl rfl rfl (by first | (simp; done) | exact fun h => Bool.and_eq_true_iff.2 ⟨hb,h⟩ | simp_all)) ?_
    refine WPl.v rfl (o_or rfl rfl rfl (by first | (simp; done) | exact fun h => by rw [h]; rfl | exact fun h => Bool.and_eq_true_iff.2 ⟨hb,by rw [h]; rfl⟩ | simp_all)) ?_
    refine WPl.nil (EX.then ?_)
    refine WP.cond rfl (fun hc2 => ?_) (fun hc2 => ?_)
    · try simp only [cnd] at hc2
      cases hsv : sureV h <;> rw [hsv] at hes hc2 <;> simp at hes <;> rw [hes] at hc2 <;> simp at hc2
    · try simp only [cnd] at hc2
      refine WP.skip (EX.then (WP.seq (WP.seq (WP.region ?_))))
      refine WPl.v rfl (o_move rfl) ?_
      refine WPl.v rfl (o_not rfl) ?_
      refine WPl.nil (EX.then ?_)
      refine WP.cond rfl (fun hc3 => ?_) (fun hc3 => ?_)
      · try simp only [cnd] at hc3
        refine WP.seq (WP.region ?_)
        refine WPl.cs 10 rfl rfl rfl rfl (o_sig 10 id c6 e6 rfl rfl rfl w6 trivial r6) ?_
        refine WPl.v rfl (o_assign rfl) ?_
        refine WPl.nil (EX.then (WP.ret (EX.ret_then ?_)))
        exact EX.fin id (.inl rfl) rfl (.tmp rfl .nil) rfl r3 trivial (by simp) (by simp)
      · try simp only [cnd] at hc3
        have hsu : sureV h = true := by simpa using hc3
        have hdo := cnts_do hc hC hsu
        have hlc := cntsTo_len h
        refine WP.skip (EX.then (WP.seq (WP.region ?_)))
        refine WPl.imp (Imp.nam 10 11 (.slice none 0 0) (R := PN EPl) pn_ok rfl rfl) ?_
        refine WPl.cL 12 rfl rfl rfl rfl rfl (o_sigo 11 (ren [(0,10)]) (c9O [] noPls) e9 rfl rfl ⟨.inr ⟨_,_,rfl,fun _ => rfl,(lxr rfl)⟩,trivial⟩ w9O ⟨(lxl rfl),trivial⟩ r9O rfl rfl) ?_
        refine WPl.v rfl (o_assign rfl) ?_
        refine WPl.nil (EX.then (WP.seq (WP.region ?_)))
        refine WPl.v rfl (o_fldp F29_0 rfl) ?_
        refine WPl.v rfl (o_ldpg G26 rfl rfl rfl) ?_
        refine WPl.cs 13 rfl rfl rfl rfl (o_sig 12 (ren [(0,0),(1,1),(2,2)]) (c10 h hC) e10 rfl rfl rfl w10 ⟨(lx rfl),(lx rfl),(lx rfl),trivial⟩ r10) ?_
        refine WPl.v rfl (o_assign rfl) ?_
        refine WPl.nil (EX.then (WP.seq (WP.seq (WP.region ?_))))
        refine WPl.v rfl (o_assign rfl) ?_
        refine WPl.nil (EX.then (WP.block ?_))
        refine WP.loop (Gh := Nat) (fun i => ⟨13,[(1,.e (.a (.p 5 (0)))),(2,.b (false)),(5,.i (extV h zer12)),(7,.e (.a (.q 11))),(8,.e (.a (.q 12))),(9,.i ((i : Int)))],[(0,PL ETm (h.machs)),(1,PL EBd (h.buns)),(2,PL EP.int (h.trains)),(3,PL EP.int (h.bores)),(4,PL (EP.sl EP.int) (h.eds)),(12,PL EP.int (casesL h))],[(5,.blk [.q 0,.q 1,.q 2,ai (h.change),.q 3,.q 4] 29),(11,.own 3 EP.int.size (cntsTo h i).length (RP EP.int (cntsTo h i)))],[],[]⟩) (fun i => i ≤ (casesL h).length) (fun i => (casesL h).length - i) (0) id ?_ (LeR.of ⟨rfl,rfl,rfl,rfl,rfl,rfl,trivial⟩ ⟨(lx rfl),(lx rfl),(lx rfl),(lx rfl),(lx rfl),(lx rfl),trivial⟩ ⟨rfl,(congrArg (fun z => some (Ent.own 3 EP.int.size (List.length z) (RP EP.int z))) (show (countsR []) = ((fun i => cntsTo h i) 0) from rfl)),trivial⟩ rfl rfl rfl rfl rfl) ?_
        · first | trivial | omega | (constructor <;> omega) | simp
        intro i hφ
        have hi : i ≤ (casesL h).length := hφ
        refine WP.seq (WP.seq (WP.region ?_))
        refine WPl.v rfl (o_move rfl) ?_
        refine WPl.v rfl (o_move rfl) ?_
        refine WPl.v rfl (o_lenq L24 rfl (lx rfl)) ?_
        refine WPl.v rfl (o_lss rfl rfl) ?_
        refine WPl.nil (EX.then ?_)
        refine WP.cond rfl (fun hc4 => ?_) (fun hc4 => ?_)
        · try simp only [cnd] at hc4
          have hik : i < (casesL h).length := by omega
          have hcb := cases_b hik
          refine WP.skip (EX.then (WP.seq (WP.block (WP.seq (WP.region ?_)))))
          refine WPl.v rfl (o_fldp F29_0 rfl) ?_
          refine WPl.v rfl (o_ldpg G26 rfl rfl rfl) ?_
          refine WPl.cs 14 rfl rfl rfl rfl (o_sig 13 (ren [(0,0),(1,1),(2,2)]) (c11 h hm (chk_house hc)) e11 rfl rfl rfl w11 ⟨(lx rfl),(lx rfl),(lx rfl),trivial⟩ r11) ?_
          refine WPl.v rfl (o_move rfl) ?_
          refine WPl.v rfl (o_extract rfl rfl) ?_
          refine WPl.v rfl (o_extract rfl rfl) ?_
          refine WPl.v rfl (o_assign rfl) ?_
          refine WPl.v rfl (o_assign rfl) ?_
          refine WPl.nil (EX.then (WP.seq (WP.seq (WP.region ?_))))
          refine WPl.v rfl (o_move rfl) ?_
          refine WPl.v rfl (o_move rfl) ?_
          refine WPl.x 14 15 rfl rfl rfl (o_idx L24 rfl (lx rfl) rfl (by first | omega | (simp; omega)) (by first | omega | (simp; omega))) ?_
          refine WPl.v rfl (o_ldq S3 rfl (lx rfl) intc) ?_
          refine WPl.v rfl (o_neq rfl rfl) ?_
          refine WPl.nil (EX.then ?_)
          refine WP.cond rfl (fun hc5 => ?_) (fun hc5 => ?_)
          · try simp only [cnd] at hc5
            have hip : isPlanR h (bpV h (nth (casesL h) (i : Int))).1 = true := bp_is hC (sure_case hsu hik)
            have hir : RowsP (bpV h (nth (casesL h) (i : Int))).1 := bp_rows hC (sure_case hsu hik)
            have hnc := needL_cnt hc hip
            refine WP.draw (nf := 17) [⟨[83,84,85,86],[15],[],[],[]⟩,⟨[83,84,85,86],[15],[],[],[0]⟩,⟨[81,82,84],[],[],[],[]⟩,⟨[81,82,83],[],[],[],[]⟩,⟨[81,82],[],[15],[15],[2,3]⟩,⟨[81,82],[],[],[],[2,3,4]⟩,⟨[],[],[16],[16],[0,1,2,3,4,5]⟩,⟨[],[],[],[],[0,1,2,3,4,5,6]⟩,⟨[89],[],[],[],[0,1,2,3,4,5,6,7]⟩,⟨[88,10],[],[],[],[0,1,2,3,4,5,6,7]⟩,⟨[89],[],[],[],[0,1,2,3,4,5,6,7,8]⟩,⟨[],[],[],[],[0,1,2,3,4,5,6,7,8,9,10]⟩] (by kernel_rfl) (by kernel_rfl) ?_
            refine DRQ.v rfl rfl rfl (o_fldp F29_0 rfl) ?_
            refine DRQ.v rfl rfl rfl (o_ldpg G26 rfl rfl rfl) ?_
            refine DRQ.v rfl rfl rfl (o_move rfl) ?_
            refine DRQ.v rfl rfl rfl (o_move rfl) ?_
            refine DRQ.x 15 rfl rfl rfl rfl (o_idx L24 rfl (lx rfl) rfl (by first | omega | (simp; omega)) (by first | omega | (simp; omega))) ?_
            refine DRQ.v rfl rfl rfl (o_ldq S3 rfl (lx rfl) intc) ?_
            refine DRQ.cs rfl rfl rfl rfl (o_sig 16 (ren [(0,0),(1,1),(2,2)]) (c12 h (nth (casesL h) (i : Int)) hm (chk_house hc) (by omega)) e12 rfl rfl rfl w12 ⟨(lx rfl),(lx rfl),(lx rfl),trivial⟩ r12) ?_
            refine DRQ.v rfl rfl rfl (o_move rfl) ?_
            refine DRQ.v rfl rfl rfl (o_extract rfl rfl) ?_
            refine DRQ.v rfl rfl rfl (o_extract rfl rfl) ?_
            refine DRQ.v rfl rfl rfl (o_assign rfl) ?_
            refine DRQ.v rfl rfl rfl (o_assign rfl) ?_
            refine DRQ.nil' ?_
            refine EX.then (WP.seq (WP.seq (WP.region ?_)))
            refine WPl.v rfl (o_move rfl) ?_
            refine WPl.v rfl (o_neq rfl rfl) ?_
            refine WPl.v rfl (o_move rfl) ?_
            refine WPl.bit 17 18 (!(decide (0 ≠ 0))) rfl rfl ?_
            refine WPl.gv 17 rfl rfl (.plain rfl (by first | (simp; done) | simp only [Bool.not_eq_true']) rfl) (fun hb => o_fldp F29_0 rfl) ?_
            refine WPl.gv 17 rfl rfl (.plain rfl (by first | (simp; done) | simp only [Bool.not_eq_true']) rfl) (fun hb => o_ldpg G26 rfl rfl rfl) ?_
            refine WPl.gv 17 rfl rfl (.plain rfl (by first | (simp; done) | simp only [Bool.not_eq_true']) rfl) (fun hb => o_move rfl) ?_
            refine WPl.gc0 17 rfl rfl (.plain rfl (by first | (simp; done) | simp only [Bool.not_eq_true']) rfl) (fun hb => o_sig 18 (ren [(0,0),(1,1),(2,2),(3,16)]) (c13 h ((bpV h (nth (casesL h) (i : Int))).1) hm hir) e13 rfl rfl rfl w13 ⟨(lx rfl),(lx rfl),(lx rfl),(lx rfl),trivial⟩ r13) ?_
            refine WPl.gv 17 rfl rfl (.plain rfl (by first | (simp; done) | simp only [Bool.not_eq_true']) rfl) (fun hb => o_not rfl) ?_
            refine WPl.v rfl (o_or rfl rfl rfl (by first | (simp; done) | exact fun h => by rw [h]; rfl | exact fun h => Bool.and_eq_true_iff.2 ⟨hb,by rw [h]; rfl⟩ | simp_all)) ?_
            refine WPl.nil (EX.then ?_)
            refine WP.cond rfl (fun hc6 => ?_) (fun hc6 => ?_)
            · try simp only [cnd] at hc6
              rw [hip] at hc6; simp at hc6
            · try simp only [cnd] at hc6
              refine WP.skip (EX.then (WP.seq (WP.region ?_)))
              refine WPl.v rfl (o_ldpa G29 rfl rfl rfl) ?_
              refine WPl.v rfl (o_move rfl) ?_
              refine WPl.cs 19 rfl rfl rfl rfl (o_sig 18 (ren [(0,0),(1,1),(2,2),(3,3),(4,4),(5,16)]) (c14 h ((bpV h (nth (casesL h) (i : Int))).1) hm hc hip hir) e14 rfl rfl rfl w14 ⟨(lx rfl),(lx rfl),(lx rfl),(lx rfl),(lx rfl),(lx rfl),trivial⟩ r14) ?_
              refine WPl.v rfl (o_move rfl) ?_
              refine WPl.v rfl (o_extract rfl rfl) ?_
              refine WPl.v rfl (o_extract rfl rfl) ?_
              refine WPl.v rfl (o_assign rfl) ?_
              refine WPl.v rfl (o_assign rfl) ?_
              refine WPl.nil (EX.then (WP.seq (WP.seq (WP.region ?_))))
              refine WPl.v rfl (o_move rfl) ?_
              refine WPl.v rfl (o_neq rfl rfl) ?_
              refine WPl.v rfl (o_move rfl) ?_
              refine WPl.bit 19 20 (!(decide (0 ≠ 0))) rfl rfl ?_
              refine WPl.gv 19 rfl rfl (.plain rfl (by first | (simp; done) | simp only [Bool.not_eq_true']) rfl) (fun hb => o_move rfl) ?_
              refine WPl.gv 19 rfl rfl (.plain rfl (by first | (simp; done) | simp only [Bool.not_eq_true']) rfl) (fun hb => o_lenq L44 rfl (lx rfl)) ?_
              refine WPl.gv 19 rfl rfl (.plain rfl (by first | (simp; done) | simp only [Bool.not_eq_true']) rfl) (fun hb => o_gtr rfl rfl) ?_
              refine WPl.v rfl (o_or rfl rfl rfl (by first | (simp; done) | exact fun h => by rw [h]; rfl | exact fun h => Bool.and_eq_true_iff.2 ⟨hb,by rw [h]; rfl⟩ | simp_all)) ?_
              refine WPl.v rfl (o_move rfl) ?_
              refine WPl.bit 20 21 (!((decide (0 ≠ 0)) || (decide (40 < ((setOf (needL h ((bpV h (nth (casesL h) (i : Int))).1))).length : Int))))) rfl rfl ?_
              refine WPl.gv 20 rfl rfl (.plain rfl (by first | (simp; done) | simp only [Bool.not_eq_true']) rfl) (fun hb => o_move rfl) ?_
              refine WPl.gc0 20 rfl rfl (.plain rfl (by first | (simp; done) | simp only [Bool.not_eq_true']) rfl) (fun hb => o_sig 21 (ren [(0,18)]) (c15 (setOf (needL h ((bpV h (nth (casesL h) (i : Int))).1))) (by have := setOf_len hnc; omega)) e15 rfl rfl rfl w15 ⟨(lx rfl),trivial⟩ r15) ?_
              refine WPl.gv 20 rfl rfl (.plain rfl (by first | (simp; done) | simp only [Bool.not_eq_true']) rfl) (fun hb => o_not rfl) ?_
              refine WPl.v rfl (o_or rfl rfl rfl (by first | (simp; done) | exact fun h => by rw [h]; rfl | exact fun h => Bool.and_eq_true_iff.2 ⟨hb,by rw [h]; rfl⟩ | simp_all)) ?_
              refine WPl.nil (EX.then ?_)
              refine WP.cond rfl (fun hc7 => ?_) (fun hc7 => ?_)
              · try simp only [cnd] at hc7
                have h1 := setOf_len hnc; have h2 := setOf_set hnc; rw [h2] at hc7; simp at hc7; omega
              · try simp only [cnd] at hc7
                refine WP.skip (EX.then (WP.seq (WP.region ?_)))
                refine WPl.v rfl (o_move rfl) ?_
                refine WPl.cs 22 rfl rfl rfl rfl (o_sig 21 (ren [(0,18)]) (c9 (setOf (needL h ((bpV h (nth (casesL h) (i : Int))).1))) (setOf_pls hnc)) e9 rfl rfl rfl w9 ⟨(lx rfl),trivial⟩ r9) ?_
                refine WPl.v rfl (o_assign rfl) ?_
                refine WPl.nil (EX.then (WP.seq (WP.region ?_)))
                refine WPl.v rfl (o_assign rfl) ?_
                refine WPl.nil (EX.then (WP.block ?_))
                refine WP.loop (Gh := Nat) (fun j => ⟨22,[(1,.e (.a (.p 5 (0)))),(2,.b (false)),(5,.i (extV h zer12)),(7,.e (.a (.q 11))),(8,.e (.a (.q 12))),(9,.i ((i : Int))),(63,.i ((i : Int))),(64,.e (.a (.q 12))),(65,.i (((casesL h).length : Int))),(66,.b (decide ((i : Int) < ((casesL h).length : Int)))),(70,.e (.a (.p 5 (0)))),(71,.e (.g [.q 0,.q 1,.q 2,ai (h.change)])),(72,.t [.a (.q 13),.a (ai (0))]),(69,.t [.a (.q 13),.a (ai (0))]),(73,.e (.a (.q 13))),(74,.i (0)),(10,.e (.a (.q 16))),(11,.i (0)),(75,.e (.a (.q 12))),(76,.i ((i : Int))),(77,.e (.a (.q 14))),(78,.i (nth (casesL h) (i : Int))),(79,.b (decide ((nth (casesL h) (i : Int)) ≠ (-1)))),(81,.e (.a (.p 5 (0)))),(82,.e (.g [.q 0,.q 1,.q 2,ai (h.change)])),(83,.e (.a (.q 12))),(84,.i ((i : Int))),(85,.e (.a (.q 15))),(86,.i (nth (casesL h) (i : Int))),(87,.t [.a (.q 16),.a (ai (0))]),(80,.t [.a (.q 16),.a (ai (0))]),(88,.e (.a (.q 16))),(89,.i (0)),(90,.i (0)),(91,.b (decide (0 ≠ 0))),(92,.b (decide (0 ≠ 0))),(98,.b ((decide (0 ≠ 0)) || (!(isPlanR h ((bpV h (nth (casesL h) (i : Int))).1))))),(100,.e (.g [.q 0,.q 1,.q 2,ai (h.change),.q 3,.q 4])),(101,.e (.a (.q 16))),(102,.t [.a (.q 18),.a (ai (0))]),(99,.t [.a (.q 18),.a (ai (0))]),(103,.e (.a (.q 18))),(104,.i (0)),(12,.e (.a (.q 18))),(13,.i (0)),(105,.i (0)),(106,.b (decide (0 ≠ 0))),(107,.b (decide (0 ≠ 0))),(111,.b ((decide (0 ≠ 0)) || (decide (40 < ((setOf (needL h ((bpV h (nth (casesL h) (i : Int))).1))).length : Int))))),(112,.b ((decide (0 ≠ 0)) || (decide (40 < ((setOf (needL h ((bpV h (nth (casesL h) (i : Int))).1))).length : Int))))),(116,.b (((decide (0 ≠ 0)) || (decide (40 < ((setOf (needL h ((bpV h (nth (casesL h) (i : Int))).1))).length : Int)))) || (!(isSet (setOf (needL h ((bpV h (nth (casesL h) (i : Int))).1))))))),(117,.e (.a (.q 18))),(118,.e (.a (.q 21))),(14,.e (.a (.q 21))),(15,.i ((j : Int)))],[(0,PL ETm (h.machs)),(1,PL EBd (h.buns)),(2,PL EP.int (h.trains)),(3,PL EP.int (h.bores)),(4,PL (EP.sl EP.int) (h.eds)),(12,PL EP.int (casesL h)),(13,PL (EP.sl EP.int) ((bpV h (-1)).1)),(14,PP EP.int (nth (casesL h) (i : Int))),(15,PP EP.int (nth (casesL h) (i : Int))),(16,PL (EP.sl EP.int) ((bpV h (nth (casesL h) (i : Int))).1)),(18,PL EPl (setOf (needL h ((bpV h (nth (casesL h) (i : Int))).1)))),(21,PL EP.int (countsR (setOf (needL h ((bpV h (nth (casesL h) (i : Int))).1)))))],[(5,.blk [.q 0,.q 1,.q 2,ai (h.change),.q 3,.q 4] 29),(11,.own 3 EP.int.size (mxTo (cntsTo h i) (countsR (setOf (needL h (bpV h (nth (casesL h) (i : Int))).1))) j).length (RP EP.int (mxTo (cntsTo h i) (countsR (setOf (needL h (bpV h (nth (casesL h) (i : Int))).1))) j)))],[],[]⟩) (fun j => j ≤ 12) (fun j => 12 - j) (0) id ?_ (LeR.of ⟨rfl,rfl,rfl,rfl,rfl,rfl,rfl,rfl,rfl,rfl,rfl,rfl,rfl,rfl,rfl,rfl,rfl,rfl,rfl,rfl,rfl,rfl,rfl,rfl,rfl,rfl,rfl,rfl,rfl,rfl,rfl,rfl,rfl,rfl,rfl,rfl,rfl,rfl,rfl,rfl,rfl,rfl,rfl,rfl,rfl,rfl,rfl,rfl,rfl,rfl,rfl,rfl,rfl,rfl,rfl,trivial⟩ ⟨(lx rfl),(lx rfl),(lx rfl),(lx rfl),(lx rfl),(lx rfl),(lx rfl),(lx rfl),(lx rfl),(lx rfl),(lx rfl),(lx rfl),trivial⟩ ⟨rfl,(congrArg (fun z => some (Ent.own 3 EP.int.size (List.length z) (RP EP.int z))) (show (cntsTo h i) = ((fun j => mxTo (cntsTo h i) (countsR (setOf (needL h (bpV h (nth (casesL h) (i : Int))).1))) j) 0) from rfl)),trivial⟩ rfl rfl rfl rfl rfl) ?_
                · first | trivial | omega | (constructor <;> omega) | simp
                intro j hφ
                have hj : j ≤ 12 := hφ
                have hln : (countsR (setOf (needL h (bpV h (nth (casesL h) (i : Int))).1))).length = 12 := cntTo_len _ _
                have hlen : (mxTo (cntsTo h i) (countsR (setOf (needL h (bpV h (nth (casesL h) (i : Int))).1))) j).length = 12 := by rw [mxTo_len,hlc]
                refine WP.seq (WP.seq (WP.region ?_))
                refine WPl.v rfl (o_move rfl) ?_
                refine WPl.v rfl (o_move rfl) ?_
                refine WPl.v rfl (o_leno L24 rfl rfl) ?_
                refine WPl.v rfl (o_lss rfl rfl) ?_
                refine WPl.nil (EX.then ?_)
                refine WP.cond rfl (fun hc8 => ?_) (fun hc8 => ?_)
                · try simp only [cnd] at hc8
                  refine WP.skip (EX.then (WP.seq (WP.block ?_)))
                  refine WP.draw (nf := 23) [⟨[126,127,128,129,130,131,132,133,134,135],[22],[],[],[]⟩,⟨[125,127,128,129,130,131,132,133,134,135],[22],[],[],[]⟩,⟨[125,126,128,131,132,133,134],[22],[],[],[]⟩,⟨[125,126,127,131,132,133,134],[22],[],[],[]⟩,⟨[125,126,131,132,133,134],[22],[],[],[2,3]⟩,⟨[125,126,131,132,133,134],[22],[],[],[2,3,4]⟩,⟨[125,126,127,128,129,130,132],[],[],[],[]⟩,⟨[125,126,127,128,129,130,131],[],[],[],[]⟩,⟨[125,126,127,128,129,130],[],[22],[22],[6,7]⟩,⟨[125,126,127,128,129,130],[],[],[],[6,7,8]⟩,⟨[125,126],[],[],[],[2,3,4,5,6,7,8,9]⟩,⟨[],[],[],[],[0,1,2,3,4,5,6,7,8,9,10]⟩,⟨[],[],[],[11],[0,1,2,3,4,5,6,7,8,9,10,11]⟩] (by kernel_rfl) (by kernel_rfl) ?_
                  refine DRQ.v rfl rfl rfl (o_move rfl) ?_
                  refine DRQ.v rfl rfl rfl (o_move rfl) ?_
                  refine DRQ.v rfl rfl rfl (o_move rfl) ?_
                  refine DRQ.v rfl rfl rfl (o_move rfl) ?_
                  refine DRQ.v rfl rfl rfl (o_idxo L24 rfl rfl rfl (by first | omega | (simp; omega)) (by first | omega | (simp; omega))) ?_
                  refine DRQ.v rfl rfl rfl (o_ldoi S3 rfl rfl rfl rfl (by first | omega | (simp; omega)) (by first | omega | (simp; omega))) ?_
                  refine DRQ.v rfl rfl rfl (o_move rfl) ?_
                  refine DRQ.v rfl rfl rfl (o_move rfl) ?_
                  refine DRQ.x 22 rfl rfl rfl rfl (o_idx L24 rfl (lx rfl) rfl (by first | omega | (simp; omega)) (by first | omega | (simp; omega))) ?_
                  refine DRQ.v rfl rfl rfl (o_ldq S3 rfl (lx rfl) intc) ?_
                  refine DRQ.v rfl rfl rfl (o_max rfl rfl) ?_
                  refine DRQ.v rfl rfl rfl (o_idxo L24 rfl rfl rfl (by first | omega | (simp; omega)) (by first | omega | (simp; omega))) ?_
                  refine DRQ.s 11 rfl rfl rfl (o_steE2 Try.sizeOf3 rfl rfl rfl rfl eok_int rfl rfl rfl (by first | omega | (simp; omega)) (by first | omega | (simp; omega))) ?_
                  refine DRQ.nil' ?_
                  refine EX.blk (EX.then (WP.region ?_))
                  refine WPl.v rfl (o_move rfl) ?_
                  refine WPl.v rfl (o_add rfl rfl (by first | omega | (simp; omega)) (by first | omega | (simp; omega))) ?_
                  refine WPl.v rfl (o_assign rfl) ?_
                  refine WPl.nil ?_
                  refine EX.again (j + 1) id (by first | omega | (constructor <;> omega)) (by omega) (LeR.of ⟨rfl,rfl,rfl,rfl,rfl,rfl,rfl,rfl,rfl,rfl,rfl,rfl,rfl,rfl,rfl,rfl,rfl,rfl,rfl,rfl,rfl,rfl,rfl,rfl,rfl,rfl,rfl,rfl,rfl,rfl,rfl,rfl,rfl,rfl,rfl,rfl,rfl,rfl,rfl,rfl,rfl,rfl,rfl,rfl,rfl,rfl,rfl,rfl,rfl,rfl,rfl,rfl,rfl,rfl,rfl,trivial⟩ ⟨(lx rfl),(lx rfl),(lx rfl),(lx rfl),(lx rfl),(lx rfl),(lx rfl),(lx rfl),(lx rfl),(lx rfl),(lx rfl),(lx rfl),trivial⟩ ⟨rfl,(congrArg (fun z => some (Ent.own 3 EP.int.size (List.length z) (RP EP.int z))) (show (lset (mxTo (cntsTo h i) (countsR (setOf (needL h (bpV h (nth (casesL h) (i : Int))).1))) j) (j : Int) (max (nth (mxTo (cntsTo h i) (countsR (setOf (needL h (bpV h (nth (casesL h) (i : Int))).1))) j) (j : Int)) (nth (countsR (setOf (needL h ((bpV h (nth (casesL h) (i : Int))).1)))) (j : Int)))) = ((fun j => mxTo (cntsTo h i) (countsR (setOf (needL h (bpV h (nth (casesL h) (i : Int))).1))) j) (j + 1)) from rfl)),trivial⟩ rfl rfl rfl rfl rfl)
                · try simp only [cnd] at hc8
                  refine WP.exit (EX.exit_then (EX.exit_then (EX.exit_blk (EX.blk (EX.then (WP.region ?_))))))
                  refine WPl.v rfl (o_move rfl) ?_
                  refine WPl.v rfl (o_add rfl rfl (by first | omega | (simp; omega)) (by first | omega | (simp; omega))) ?_
                  refine WPl.v rfl (o_assign rfl) ?_
                  refine WPl.nil ?_
                  have hje : j = 12 := by omega
                  refine EX.again (i + 1) id (by first | omega | (constructor <;> omega)) (by omega) (LeR.of ⟨rfl,rfl,rfl,rfl,rfl,rfl,trivial⟩ ⟨(lx rfl),(lx rfl),(lx rfl),(lx rfl),(lx rfl),(lx rfl),trivial⟩ ⟨rfl,(congrArg (fun z => some (Ent.own 3 EP.int.size (List.length z) (RP EP.int z))) (show (mxTo (cntsTo h i) (countsR (setOf (needL h (bpV h (nth (casesL h) (i : Int))).1))) j) = ((fun i => cntsTo h i) (i + 1)) from by dsimp only; rw [hje]; show _ = mxTo (cntsTo h i) (needC h (nth (casesL h) (i : Int))) 12; rfl)),trivial⟩ rfl rfl rfl rfl rfl)
          · try simp only [cnd] at hc5
            have hci : nth (casesL h) (i : Int) = -1 := by omega
            have hip : isPlanR h (bpV h (-1)).1 = true := by have := bp_is hC (sure_case hsu hik); rw [hci] at this; exact this
            have hir : RowsP (bpV h (-1)).1 := by have := bp_rows hC (sure_case hsu hik); rw [hci] at this; exact this
            have hnc := needL_cnt hc hip
            refine WP.skip (EX.then (WP.seq (WP.seq (WP.region ?_))))
            refine WPl.v rfl (o_move rfl) ?_
            refine WPl.v rfl (o_neq rfl rfl) ?_
            refine WPl.v rfl (o_move rfl) ?_
            refine WPl.bit 15 16 (!(decide (0 ≠ 0))) rfl rfl ?_
            refine WPl.gv 15 rfl rfl (.plain rfl (by first | (simp; done) | simp only [Bool.not_eq_true']) rfl) (fun hb => o_fldp F29_0 rfl) ?_
            refine WPl.gv 15 rfl rfl (.plain rfl (by first | (simp; done) | simp only [Bool.not_eq_true']) rfl) (fun hb => o_ldpg G26 rfl rfl rfl) ?_
            refine WPl.gv 15 rfl rfl (.plain rfl (by first | (simp; done) | simp only [Bool.not_eq_true']) rfl) (fun hb => o_move rfl) ?_
            refine WPl.gc0 15 rfl rfl (.plain rfl (by first | (simp; done) | simp only [Bool.not_eq_true']) rfl) (fun hb => o_sig 16 (ren [(0,0),(1,1),(2,2),(3,13)]) (c13 h ((bpV h (-1)).1) hm hir) e13 rfl rfl rfl w13 ⟨(lx rfl),(lx rfl),(lx rfl),(lx rfl),trivial⟩ r13) ?_
            refine WPl.gv 15 rfl rfl (.plain rfl (by first | (simp; done) | simp only [Bool.not_eq_true']) rfl) (fun hb => o_not rfl) ?_
            refine WPl.v rfl (o_or rfl rfl rfl (by first | (simp; done) | exact fun h => by rw [h]; rfl | exact fun h => Bool.and_eq_true_iff.2 ⟨hb,by rw [h]; rfl⟩ | simp_all)) ?_
            refine WPl.nil (EX.then ?_)
            refine WP.cond rfl (fun hc9 => ?_) (fun hc9 => ?_)
            · try simp only [cnd] at hc9
              rw [hip] at hc9; simp at hc9
            · try simp only [cnd] at hc9
              refine WP.skip (EX.then (WP.seq (WP.region ?_)))
              refine WPl.v rfl (o_ldpa G29 rfl rfl rfl) ?_
              refine WPl.v rfl (o_move rfl) ?_
              refine WPl.cs 17 rfl rfl rfl rfl (o_sig 16 (ren [(0,0),(1,1),(2,2),(3,3),(4,4),(5,13)]) (c14 h ((bpV h (-1)).1) hm hc hip hir) e14 rfl rfl rfl w14 ⟨(lx rfl),(lx rfl),(lx rfl),(lx rfl),(lx rfl),(lx rfl),trivial⟩ r14) ?_
              refine WPl.v rfl (o_move rfl) ?_
              refine WPl.v rfl (o_extract rfl rfl) ?_
              refine WPl.v rfl (o_extract rfl rfl) ?_
              refine WPl.v rfl (o_assign rfl) ?_
              refine WPl.v rfl (o_assign rfl) ?_
              refine WPl.nil (EX.then (WP.seq (WP.seq (WP.region ?_))))
              refine WPl.v rfl (o_move rfl) ?_
              refine WPl.v rfl (o_neq rfl rfl) ?_
              refine WPl.v rfl (o_move rfl) ?_
              refine WPl.bit 17 18 (!(decide (0 ≠ 0))) rfl rfl ?_
              refine WPl.gv 17 rfl rfl (.plain rfl (by first | (simp; done) | simp only [Bool.not_eq_true']) rfl) (fun hb => o_move rfl) ?_
              refine WPl.gv 17 rfl rfl (.plain rfl (by first | (simp; done) | simp only [Bool.not_eq_true']) rfl) (fun hb => o_lenq L44 rfl (lx rfl)) ?_
              refine WPl.gv 17 rfl rfl (.plain rfl (by first | (simp; done) | simp only [Bool.not_eq_true']) rfl) (fun hb => o_gtr rfl rfl) ?_
              refine WPl.v rfl (o_or rfl rfl rfl (by first | (simp; done) | exact fun h => by rw [h]; rfl | exact fun h => Bool.and_eq_true_iff.2 ⟨hb,by rw [h]; rfl⟩ | simp_all)) ?_
              refine WPl.v rfl (o_move rfl) ?_
              refine WPl.bit 18 19 (!((decide (0 ≠ 0)) || (decide (40 < ((setOf (needL h ((bpV h (-1)).1))).length : Int))))) rfl rfl ?_
              refine WPl.gv 18 rfl rfl (.plain rfl (by first | (simp; done) | simp only [Bool.not_eq_true']) rfl) (fun hb => o_move rfl) ?_
              refine WPl.gc0 18 rfl rfl (.plain rfl (by first | (simp; done) | simp only [Bool.not_eq_true']) rfl) (fun hb => o_sig 19 (ren [(0,16)]) (c15 (setOf (needL h ((bpV h (-1)).1))) (by have := setOf_len hnc; omega)) e15 rfl rfl rfl w15 ⟨(lx rfl),trivial⟩ r15) ?_
              refine WPl.gv 18 rfl rfl (.plain rfl (by first | (simp; done) | simp only [Bool.not_eq_true']) rfl) (fun hb => o_not rfl) ?_
              refine WPl.v rfl (o_or rfl rfl rfl (by first | (simp; done) | exact fun h => by rw [h]; rfl | exact fun h => Bool.and_eq_true_iff.2 ⟨hb,by rw [h]; rfl⟩ | simp_all)) ?_
              refine WPl.nil (EX.then ?_)
              refine WP.cond rfl (fun hc10 => ?_) (fun hc10 => ?_)
              · try simp only [cnd] at hc10
                have h1 := setOf_len hnc; have h2 := setOf_set hnc; rw [h2] at hc10; simp at hc10; omega
              · try simp only [cnd] at hc10
                refine WP.skip (EX.then (WP.seq (WP.region ?_)))
                refine WPl.v rfl (o_move rfl) ?_
                refine WPl.cs 20 rfl rfl rfl rfl (o_sig 19 (ren [(0,16)]) (c9 (setOf (needL h ((bpV h (-1)).1))) (setOf_pls hnc)) e9 rfl rfl rfl w9 ⟨(lx rfl),trivial⟩ r9) ?_
                refine WPl.v rfl (o_assign rfl) ?_
                refine WPl.nil (EX.then (WP.seq (WP.region ?_)))
                refine WPl.v rfl (o_assign rfl) ?_
                refine WPl.nil (EX.then (WP.block ?_))
                refine WP.loop (Gh := Nat) (fun j => ⟨20,[(1,.e (.a (.p 5 (0)))),(2,.b (false)),(5,.i (extV h zer12)),(7,.e (.a (.q 11))),(8,.e (.a (.q 12))),(9,.i ((i : Int))),(63,.i ((i : Int))),(64,.e (.a (.q 12))),(65,.i (((casesL h).length : Int))),(66,.b (decide ((i : Int) < ((casesL h).length : Int)))),(70,.e (.a (.p 5 (0)))),(71,.e (.g [.q 0,.q 1,.q 2,ai (h.change)])),(72,.t [.a (.q 13),.a (ai (0))]),(69,.t [.a (.q 13),.a (ai (0))]),(73,.e (.a (.q 13))),(74,.i (0)),(10,.e (.a (.q 13))),(11,.i (0)),(75,.e (.a (.q 12))),(76,.i ((i : Int))),(77,.e (.a (.q 14))),(78,.i (nth (casesL h) (i : Int))),(79,.b (decide ((nth (casesL h) (i : Int)) ≠ (-1)))),(90,.i (0)),(91,.b (decide (0 ≠ 0))),(92,.b (decide (0 ≠ 0))),(98,.b ((decide (0 ≠ 0)) || (!(isPlanR h ((bpV h (-1)).1))))),(100,.e (.g [.q 0,.q 1,.q 2,ai (h.change),.q 3,.q 4])),(101,.e (.a (.q 13))),(102,.t [.a (.q 16),.a (ai (0))]),(99,.t [.a (.q 16),.a (ai (0))]),(103,.e (.a (.q 16))),(104,.i (0)),(12,.e (.a (.q 16))),(13,.i (0)),(105,.i (0)),(106,.b (decide (0 ≠ 0))),(107,.b (decide (0 ≠ 0))),(111,.b ((decide (0 ≠ 0)) || (decide (40 < ((setOf (needL h ((bpV h (-1)).1))).length : Int))))),(112,.b ((decide (0 ≠ 0)) || (decide (40 < ((setOf (needL h ((bpV h (-1)).1))).length : Int))))),(116,.b (((decide (0 ≠ 0)) || (decide (40 < ((setOf (needL h ((bpV h (-1)).1))).length : Int)))) || (!(isSet (setOf (needL h ((bpV h (-1)).1))))))),(117,.e (.a (.q 16))),(118,.e (.a (.q 19))),(14,.e (.a (.q 19))),(15,.i ((j : Int)))],[(0,PL ETm (h.machs)),(1,PL EBd (h.buns)),(2,PL EP.int (h.trains)),(3,PL EP.int (h.bores)),(4,PL (EP.sl EP.int) (h.eds)),(12,PL EP.int (casesL h)),(13,PL (EP.sl EP.int) ((bpV h (-1)).1)),(14,PP EP.int (nth (casesL h) (i : Int))),(16,PL EPl (setOf (needL h ((bpV h (-1)).1)))),(19,PL EP.int (countsR (setOf (needL h ((bpV h (-1)).1)))))],[(5,.blk [.q 0,.q 1,.q 2,ai (h.change),.q 3,.q 4] 29),(11,.own 3 EP.int.size (mxTo (cntsTo h i) (countsR (setOf (needL h (bpV h (-1)).1))) j).length (RP EP.int (mxTo (cntsTo h i) (countsR (setOf (needL h (bpV h (-1)).1))) j)))],[],[]⟩) (fun j => j ≤ 12) (fun j => 12 - j) (0) id ?_ (LeR.of ⟨rfl,rfl,rfl,rfl,rfl,rfl,rfl,rfl,rfl,rfl,rfl,rfl,rfl,rfl,rfl,rfl,rfl,rfl,rfl,rfl,rfl,rfl,rfl,rfl,rfl,rfl,rfl,rfl,rfl,rfl,rfl,rfl,rfl,rfl,rfl,rfl,rfl,rfl,rfl,rfl,rfl,rfl,rfl,rfl,rfl,trivial⟩ ⟨(lx rfl),(lx rfl),(lx rfl),(lx rfl),(lx rfl),(lx rfl),(lx rfl),(lx rfl),(lx rfl),(lx rfl),trivial⟩ ⟨rfl,(congrArg (fun z => some (Ent.own 3 EP.int.size (List.length z) (RP EP.int z))) (show (cntsTo h i) = ((fun j => mxTo (cntsTo h i) (countsR (setOf (needL h (bpV h (-1)).1))) j) 0) from rfl)),trivial⟩ rfl rfl rfl rfl rfl) ?_
                · first | trivial | omega | (constructor <;> omega) | simp
                intro j hφ
                have hj : j ≤ 12 := hφ
                have hln : (countsR (setOf (needL h (bpV h (-1)).1))).length = 12 := cntTo_len _ _
                have hlen : (mxTo (cntsTo h i) (countsR (setOf (needL h (bpV h (-1)).1))) j).length = 12 := by rw [mxTo_len,hlc]
                refine WP.seq (WP.seq (WP.region ?_))
                refine WPl.v rfl (o_move rfl) ?_
                refine WPl.v rfl (o_move rfl) ?_
                refine WPl.v rfl (o_leno L24 rfl rfl) ?_
                refine WPl.v rfl (o_lss rfl rfl) ?_
                refine WPl.nil (EX.then ?_)
                refine WP.cond rfl (fun hc11 => ?_) (fun hc11 => ?_)
                · try simp only [cnd] at hc11
                  refine WP.skip (EX.then (WP.seq (WP.block ?_)))
                  refine WP.draw (nf := 21) [⟨[126,127,128,129,130,131,132,133,134,135],[20],[],[],[]⟩,⟨[125,127,128,129,130,131,132,133,134,135],[20],[],[],[]⟩,⟨[125,126,128,131,132,133,134],[20],[],[],[]⟩,⟨[125,126,127,131,132,133,134],[20],[],[],[]⟩,⟨[125,126,131,132,133,134],[20],[],[],[2,3]⟩,⟨[125,126,131,132,133,134],[20],[],[],[2,3,4]⟩,⟨[125,126,127,128,129,130,132],[],[],[],[]⟩,⟨[125,126,127,128,129,130,131],[],[],[],[]⟩,⟨[125,126,127,128,129,130],[],[20],[20],[6,7]⟩,⟨[125,126,127,128,129,130],[],[],[],[6,7,8]⟩,⟨[125,126],[],[],[],[2,3,4,5,6,7,8,9]⟩,⟨[],[],[],[],[0,1,2,3,4,5,6,7,8,9,10]⟩,⟨[],[],[],[11],[0,1,2,3,4,5,6,7,8,9,10,11]⟩] (by kernel_rfl) (by kernel_rfl) ?_
                  refine DRQ.v rfl rfl rfl (o_move rfl) ?_
                  refine DRQ.v rfl rfl rfl (o_move rfl) ?_
                  refine DRQ.v rfl rfl rfl (o_move rfl) ?_
                  refine DRQ.v rfl rfl rfl (o_move rfl) ?_
                  refine DRQ.v rfl rfl rfl (o_idxo L24 rfl rfl rfl (by first | omega | (simp; omega)) (by first | omega | (simp; omega))) ?_
                  refine DRQ.v rfl rfl rfl (o_ldoi S3 rfl rfl rfl rfl (by first | omega | (simp; omega)) (by first | omega | (simp; omega))) ?_
                  refine DRQ.v rfl rfl rfl (o_move rfl) ?_
                  refine DRQ.v rfl rfl rfl (o_move rfl) ?_
                  refine DRQ.x 20 rfl rfl rfl rfl (o_idx L24 rfl (lx rfl) rfl (by first | omega | (simp; omega)) (by first | omega | (simp; omega))) ?_
                  refine DRQ.v rfl rfl rfl (o_ldq S3 rfl (lx rfl) intc) ?_
                  refine DRQ.v rfl rfl rfl (o_max rfl rfl) ?_
                  refine DRQ.v rfl rfl rfl (o_idxo L24 rfl rfl rfl (by first | omega | (simp; omega)) (by first | omega | (simp; omega))) ?_
                  refine DRQ.s 11 rfl rfl rfl (o_steE2 Try.sizeOf3 rfl rfl rfl rfl eok_int rfl rfl rfl (by first | omega | (simp; omega)) (by first | omega | (simp; omega))) ?_
                  refine DRQ.nil' ?_
                  refine EX.blk (EX.then (WP.region ?_))
                  refine WPl.v rfl (o_move rfl) ?_
                  refine WPl.v rfl (o_add rfl rfl (by first | omega | (simp; omega)) (by first | omega | (simp; omega))) ?_
                  refine WPl.v rfl (o_assign rfl) ?_
                  refine WPl.nil ?_
                  refine EX.again (j + 1) id (by first | omega | (constructor <;> omega)) (by omega) (LeR.of ⟨rfl,rfl,rfl,rfl,rfl,rfl,rfl,rfl,rfl,rfl,rfl,rfl,rfl,rfl,rfl,rfl,rfl,rfl,rfl,rfl,rfl,rfl,rfl,rfl,rfl,rfl,rfl,rfl,rfl,rfl,rfl,rfl,rfl,rfl,rfl,rfl,rfl,rfl,rfl,rfl,rfl,rfl,rfl,rfl,rfl,trivial⟩ ⟨(lx rfl),(lx rfl),(lx rfl),(lx rfl),(lx rfl),(lx rfl),(lx rfl),(lx rfl),(lx rfl),(lx rfl),trivial⟩ ⟨rfl,(congrArg (fun z => some (Ent.own 3 EP.int.size (List.length z) (RP EP.int z))) (show (lset (mxTo (cntsTo h i) (countsR (setOf (needL h (bpV h (-1)).1))) j) (j : Int) (max (nth (mxTo (cntsTo h i) (countsR (setOf (needL h (bpV h (-1)).1))) j) (j : Int)) (nth (countsR (setOf (needL h ((bpV h (-1)).1)))) (j : Int)))) = ((fun j => mxTo (cntsTo h i) (countsR (setOf (needL h (bpV h (-1)).1))) j) (j + 1)) from rfl)),trivial⟩ rfl rfl rfl rfl rfl)
                · try simp only [cnd] at hc11
                  refine WP.exit (EX.exit_then (EX.exit_then (EX.exit_blk (EX.blk (EX.then (WP.region ?_))))))
                  refine WPl.v rfl (o_move rfl) ?_
                  refine WPl.v rfl (o_add rfl rfl (by first | omega | (simp; omega)) (by first | omega | (simp; omega))) ?_
                  refine WPl.v rfl (o_assign rfl) ?_
                  refine WPl.nil ?_
                  have hje : j = 12 := by omega
                  refine EX.again (i + 1) id (by first | omega | (constructor <;> omega)) (by omega) (LeR.of ⟨rfl,rfl,rfl,rfl,rfl,rfl,trivial⟩ ⟨(lx rfl),(lx rfl),(lx rfl),(lx rfl),(lx rfl),(lx rfl),trivial⟩ ⟨rfl,(congrArg (fun z => some (Ent.own 3 EP.int.size (List.length z) (RP EP.int z))) (show (mxTo (cntsTo h i) (countsR (setOf (needL h (bpV h (-1)).1))) j) = ((fun i => cntsTo h i) (i + 1)) from by dsimp only; rw [hje]; show _ = mxTo (cntsTo h i) (needC h (nth (casesL h) (i : Int))) 12; rw [hci]; rfl)),trivial⟩ rfl rfl rfl rfl rfl)
        · try simp only [cnd] at hc4
          have hie : i = (casesL h).length := by omega
          rw [hie]
          refine WP.exit (EX.exit_then (EX.exit_then (EX.exit_blk (EX.then (WP.seq (WP.region ?_))))))
          refine WPl.v rfl (o_move rfl) ?_
          refine WPl.cs 14 rfl rfl rfl rfl (o_sigbc 13 (ren [(0,11)]) (c16F (cntsTo h (casesL h).length) (by rw [hlc]; omega)) e16 rfl rfl SvsOK.rf w16 ⟨.own rfl rfl,trivial⟩ r16) ?_
          refine WPl.v rfl (o_assign rfl) ?_
          refine WPl.nil (EX.then (WP.seq ?_))
          refine WP.draw (nf := 16) [⟨[141,142],[14],[],[],[]⟩,⟨[140],[],[],[],[]⟩,⟨[140],[],[14],[14],[1]⟩,⟨[],[],[15],[15],[0,1,2]⟩,⟨[],[],[],[],[0,1,2,3]⟩,⟨[145],[],[],[],[0,1,2,3,4]⟩,⟨[144,17],[],[],[],[0,1,2,3,4]⟩,⟨[145],[],[],[],[0,1,2,3,4,5]⟩,⟨[],[],[],[],[0,1,2,3,4,5,6,7]⟩] (by kernel_rfl) (by kernel_rfl) ?_
          refine DRQ.v rfl rfl rfl (o_ldpa G29 rfl rfl rfl) ?_
          refine DRQ.v rfl rfl rfl (o_move rfl) ?_
          refine DRQ.cs rfl rfl rfl rfl (o_sig 14 (ren [(0,13)]) (c18 (setOf (cntsTo h (casesL h).length)) (by have := setOf_len hdo.2; omega)) e18 rfl rfl rfl w18 ⟨(lx rfl),trivial⟩ r18) ?_
          refine DRQ.cs rfl rfl rfl rfl (o_sig 15 (ren [(0,0),(1,1),(2,2),(3,3),(4,4),(5,14)]) (c17 h (setOf (cntsTo h (casesL h).length)) hm hc (by have := setOf_len hdo.2; omega) (setOf_set hdo.2) (by rw [shelf_set hdo.2]; exact hdo.2.sh)) e17 rfl rfl rfl w17 ⟨(lx rfl),(lx rfl),(lx rfl),(lx rfl),(lx rfl),(lx rfl),trivial⟩ r17) ?_
          refine DRQ.v rfl rfl rfl (o_move rfl) ?_
          refine DRQ.v rfl rfl rfl (o_extract rfl rfl) ?_
          refine DRQ.v rfl rfl rfl (o_extract rfl rfl) ?_
          refine DRQ.v rfl rfl rfl (o_assign rfl) ?_
          refine DRQ.v rfl rfl rfl (o_assign rfl) ?_
          refine DRQ.nil' ?_
          refine EX.then (WP.seq ?_)
          refine WP.draw (nf := 17) [⟨[148,149],[16],[],[],[]⟩,⟨[147],[],[],[],[]⟩,⟨[147],[],[16],[16],[1]⟩,⟨[],[],[],[],[0,1,2]⟩,⟨[],[],[],[],[0,1,2,3]⟩,⟨[152],[],[],[],[0,1,2,3,4]⟩,⟨[151,19],[],[],[],[0,1,2,3,4]⟩,⟨[152],[],[],[],[0,1,2,3,4,5]⟩,⟨[],[],[],[],[0,1,2,3,4,5,6,7]⟩] (by kernel_rfl) (by kernel_rfl) ?_
          refine DRQ.v rfl rfl rfl (o_ldpa G29 rfl rfl rfl) ?_
          refine DRQ.v rfl rfl rfl (o_move rfl) ?_
          refine DRQ.cs rfl rfl rfl rfl (o_sig 16 (ren [(0,13)]) (c18 (setOf (cntsTo h (casesL h).length)) (by have := setOf_len hdo.2; omega)) e18 rfl rfl rfl w18 ⟨(lx rfl),trivial⟩ r18) ?_
          refine DRQ.cs rfl rfl rfl rfl (o_sig 17 (ren [(0,0),(1,1),(2,2),(3,3),(4,4),(5,16)]) (c19 h (setOf (cntsTo h (casesL h).length)) hm hc (by have := setOf_len hdo.2; omega) (setOf_set hdo.2) (by rw [shelf_set hdo.2]; exact hdo.2.sh)) e19 rfl rfl rfl w19 ⟨(lx rfl),(lx rfl),(lx rfl),(lx rfl),(lx rfl),(lx rfl),trivial⟩ r19) ?_
          refine DRQ.v rfl rfl rfl (o_move rfl) ?_
          refine DRQ.v rfl rfl rfl (o_extract rfl rfl) ?_
          refine DRQ.v rfl rfl rfl (o_extract rfl rfl) ?_
          refine DRQ.v rfl rfl rfl (o_assign rfl) ?_
          refine DRQ.v rfl rfl rfl (o_assign rfl) ?_
          refine DRQ.nil' ?_
          refine EX.then (WP.seq (WP.region ?_))
          refine WPl.v rfl (o_move rfl) ?_
          refine WPl.v rfl (o_eql rfl rfl) ?_
          refine WPl.v rfl (o_move rfl) ?_
          refine WPl.bit 17 18 (decide (0 = 0)) rfl rfl ?_
          refine WPl.gv 17 rfl rfl (.plain rfl Iff.rfl rfl) (fun hb => o_move rfl) ?_
          refine WPl.gv 17 rfl rfl (.plain rfl Iff.rfl rfl) (fun hb => o_lenq L24 rfl (lx rfl)) ?_
          refine WPl.gv 17 rfl rfl (.plain rfl Iff.rfl rfl) (fun hb => o_eql rfl rfl) ?_
          refine WPl.v rfl (o_and rfl rfl rfl id) ?_
          refine WPl.v rfl (o_move rfl) ?_
          refine WPl.bit 18 19 ((decide (0 = 0)) && (decide (((lackTo h (shelf (setOf (cntsTo h (casesL h).length))) (casesL h).length).length : Int) = 0))) rfl rfl ?_
          refine WPl.gv 18 rfl rfl (.plain rfl Iff.rfl rfl) (fun hb => o_move rfl) ?_
          refine WPl.gv 18 rfl rfl (.plain rfl Iff.rfl rfl) (fun hb => o_eql rfl rfl) ?_
          refine WPl.v rfl (o_and rfl rfl rfl id) ?_
          refine WPl.v rfl (o_move rfl) ?_
          refine WPl.bit 19 20 (((decide (0 = 0)) && (decide (((lackTo h (shelf (setOf (cntsTo h (casesL h).length))) (casesL h).length).length : Int) = 0))) && (decide ((extE h (shelf (setOf (cntsTo h (casesL h).length)))) = 0))) rfl rfl ?_
          refine WPl.gv 19 rfl rfl (.plain rfl Iff.rfl rfl) (fun hb => o_move rfl) ?_
          refine WPl.gv 19 rfl rfl (.plain rfl Iff.rfl rfl) (fun hb => o_eql rfl rfl) ?_
          refine WPl.v rfl (o_and rfl rfl rfl id) ?_
          refine WPl.v rfl (o_move rfl) ?_
          refine WPl.bit 20 21 ((((decide (0 = 0)) && (decide (((lackTo h (shelf (setOf (cntsTo h (casesL h).length))) (casesL h).length).length : Int) = 0))) && (decide ((extE h (shelf (setOf (cntsTo h (casesL h).length)))) = 0))) && (decide ((extV h (shelf (setOf (cntsTo h (casesL h).length)))) = 0))) rfl rfl ?_
          refine WPl.gv 20 rfl rfl (.plain rfl Iff.rfl rfl) (fun hb => o_move rfl) ?_
          refine WPl.gv 20 rfl rfl (.plain rfl Iff.rfl rfl) (fun hb => o_move rfl) ?_
          refine WPl.gc0 20 rfl rfl (.plain rfl Iff.rfl rfl) (fun hb => o_sig 21 (ren [(0,13)]) (c20 (setOf (cntsTo h (casesL h).length)) (setOf_pls hdo.2)) e20 rfl rfl rfl w20 ⟨(lx rfl),trivial⟩ r20) ?_
          refine WPl.gv 20 rfl rfl (.plain rfl Iff.rfl rfl) (fun hb => o_leq rfl rfl) ?_
          refine WPl.v rfl (o_and rfl rfl rfl id) ?_
          refine WPl.v rfl (o_move rfl) ?_
          refine WPl.bit 21 22 (((((decide (0 = 0)) && (decide (((lackTo h (shelf (setOf (cntsTo h (casesL h).length))) (casesL h).length).length : Int) = 0))) && (decide ((extE h (shelf (setOf (cntsTo h (casesL h).length)))) = 0))) && (decide ((extV h (shelf (setOf (cntsTo h (casesL h).length)))) = 0))) && (decide ((extV h zer12) ≤ (plTo (setOf (cntsTo h (casesL h).length)) (setOf (cntsTo h (casesL h).length)).length)))) rfl rfl ?_
          refine WPl.gc0 21 rfl rfl (.plain rfl Iff.rfl rfl) (fun hb => o_sig 22 id c6 e6 rfl rfl rfl w6 trivial r6) ?_
          refine WPl.v rfl (o_and rfl rfl rfl id) ?_
          refine WPl.v rfl (o_assign rfl) ?_
          refine WPl.nil (EX.then (WP.ret ?_))
          have hx := hdo.1.ex
          rw [shelf_set hdo.2,hdo.1.lack (Nat.le_refl _),hx.1,hx.2,plates_set hdo.2,decide_eq_true (hdo.1.zer (cnts_zer hdo.2)).1]
          exact EX.fin id (.inl rfl) rfl (.tmp rfl .nil) rfl (by simp [SV.res,El.res,At.res,keys]) trivial (by simp) (by simp)
end Go.Flong
namespace Go.Proofs.Ytjnjiemaoinblaa
open Go Go.Eng Go.Flong Go.ChangeShapes Go.WideShapes
set_option maxRecDepth 100000 in
theorem topServed_lifted (os : Os) (started : os.Started) (H : Type) (enc : TypeId × Value → H) : ReturnsInHanded {} Try.checked os 3 .any (Rows.topServedSpec.pre6 enc Try.prog Try.f3 Rows.topServedRow.domain false) (Rows.topServedSpec.post enc Try.prog Try.f3 false true false false) := by
  refine lawLifted (C := Try.checked) own started (by kernel_rfl) Try.func3
    (ChangeSpec.witness6 (enc := enc) (C := Try.checked) false ⟨#[],#[.agg #[.slice none 0 0,.slice none 0 0,.slice none 0 0,.int .i64 0,.slice none 0 0,.slice none 0 0]],[]⟩ 8 (by kernel_rfl) (by kernel_rfl) (by kernel_rfl) (by kernel_rfl))
    laidOut rfl Try.underlying4 (by intro t ht; revert ht; revert t; exact of_decide_eq_true (by kernel_rfl)) rfl (fun ds hd => ?_) fun W base args ds p hval hA => ?_
  · match ds,hd with
    | [_],_ => rfl
  · obtain ⟨v0,vs,d0,ds0,p0,q0,ha,rfl,rfl,h0,hA⟩ := trodAll_cons hA
    obtain ⟨rfl,rfl,rfl⟩ := trodAll_nil hA
    obtain rfl : args = #[v0] := by cases args; simp_all
    obtain ⟨k,a,b,c,e,g,rfl,hk⟩ := argHall (hval 0 29 v0 rfl rfl) h0
    exact Sig.kept (c3 k) (ν := nuL [a,b,c,e,g]) ⟨hk.m,hk.b,hk.t,hk.o,hk.e,trivial⟩
theorem topServed_holds : Rows.TopServedSaid :=
  OpenClaim.holds_of_wide 3 Try.f3 rfl rfl rfl rfl rfl rfl rfl ⟨rfl,rfl,rfl,rfl,rfl⟩ rfl rfl rfl rfl rfl (by kernel_rfl) Try.func3 (by kernel_rfl)
    (of_decide_eq_true (by kernel_rfl)) (by unfold Func.isWrapper; rw [if_neg (by decide +kernel)]; exact ⟨rfl,rfl⟩)
    (fun os started H enc _ => topServed_lifted os started H enc)
end Go.Proofs.Ytjnjiemaoinblaa
