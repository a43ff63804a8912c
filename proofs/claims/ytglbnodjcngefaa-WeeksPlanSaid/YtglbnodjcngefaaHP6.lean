/- Walks (printed by gen.py off the specs). -/
import Derived.Test.YtglbnodjcngefaaHP5
import Derived.Test.YtglbnodjcngefaaBase6
import Derived.Test.YtglbnodjcngefaaProg
set_option linter.unusedSimpArgs false
set_option linter.unusedVariables false
namespace Go.Flong
open Go Go.Eng Go.Proofs
abbrev PredP (q : Int → Bool) : Pred := Pred.all fun (n : Int) => FvP Try.prog [.i (n)] [] (.b (q n)) []
theorem e144 : Enters' Try.prog 144 := Try.call144
theorem e107 : Enters' Try.prog 107 := Try.call107
theorem e106 : Enters' Try.prog 106 := Try.call106
theorem Z3 : Zero Try.prog 3 [ai (0)] := .mk Try.zeroValue3 rfl rfl
theorem Z32 : Zero Try.prog 32 [.v (.slice none 0 0)] := .mk Try.zeroValue32 rfl rfl
theorem e140 : Enters' Try.prog 140 := Try.call140
theorem e141 : Enters' Try.prog 141 := Try.call141
theorem S124 : TyS Try.prog 124 := ⟨Try.isAgg124, Try.sizeOf124⟩
theorem e103 : Enters' Try.prog 103 := Try.call103
abbrev OfP (g : Int → List Int → Int) : Pred := Pred.all fun (x : Int × BL) => FvP Try.prog [.i (x.1), .e (.a (.q 0))] [(0, PL EP.int (x.2.1))] (.i (g x.1 x.2.1)) []
theorem e142 : Enters' Try.prog 142 := Try.call142
theorem e102 : Enters' Try.prog 102 := Try.call102
theorem e101 : Enters' Try.prog 101 := Try.call101
theorem e105 : Enters' Try.prog 105 := Try.call105
theorem w142 {l : List Int} : ∀ x ∈ ([.e (.a (.q 0))] : List SV), x.res (keys (α := Pred) [(0, PL EP.int (l))]) := by simp [SV.res, El.res, At.res, keys]
theorem r142 {l : List Int} : SV.res (keys (α := Pred) [(0, PL EP.int (l))]) (.e (.a (.q 0))) := by simp [SV.res, El.res, At.res, keys]
set_option maxHeartbeats 4000000 in
theorem c142 (l : List Int) (h : l.length ≤ 1000) : SigF Try.prog 142 [.e (.a (.q 0))] [(0, PL EP.int (l))] (.e (.a (.q 0))) [(0, PL EP.int (l))] := by
  refine SigF.intro Try.func142 rfl 1 [(0, .e (.a (.q 0)))] rfl w142 rfl rfl fun I w => ?_
  refine WP.seq ?_
  refine WP.region ?_
  refine WPl.v rfl (o_assign rfl) ?_
  refine WPl.nil ?_
  refine EX.then ?_
  refine WP.seq ?_
  refine WP.seq ?_
  refine WP.region ?_
  refine WPl.v rfl (o_move rfl) ?_
  refine WPl.eqnil Try.underlying44 rfl rfl (lx rfl) fun bn4 hbn4 => ?_
  refine WPl.nil ?_
  refine EX.then ?_
  refine WP.cond rfl (fun hc1 => ?_) (fun hc1 => ?_)
  · try simp only [decide_eq_true_eq, decide_eq_false_iff_not, Bool.and_eq_true, Bool.or_eq_true, Bool.and_eq_false_iff, Bool.or_eq_false_iff, Bool.not_eq_true', Bool.not_eq_false', ne_eq, Decidable.not_not] at hc1
    obtain rfl : l = [] := hbn4 hc1
    refine WP.seq ?_
    refine WP.region ?_
    refine WPl.v rfl (o_assign rfl) ?_
    refine WPl.nil ?_
    refine EX.then ?_
    refine WP.ret ?_
    refine EX.ret_then ?_
    refine EX.imp (Imp.nam 1 2 (.slice none 0 0) (R := (Pred.from w.heap.size (PL EP.int [])).and (Pred.is (.slice none 0 0))) (fun _ => ⟨pl_nil, rfl⟩) rfl rfl) ?_
    refine EX.imp (Imp.swF 2 1 rfl (lxr rfl)) ?_
    exact EX.fin (ren [(0, 1)]) (.inl rfl) rfl (.tmp rfl .nil) rfl (by simp [SV.res, El.res, At.res, keys]) ⟨lxl rfl, trivial⟩ (by simp) (by simp)
  · try simp only [decide_eq_true_eq, decide_eq_false_iff_not, Bool.and_eq_true, Bool.or_eq_true, Bool.and_eq_false_iff, Bool.or_eq_false_iff, Bool.not_eq_true', Bool.not_eq_false', ne_eq, Decidable.not_not] at hc1
    refine WP.skip ?_
    refine EX.then ?_
    refine WP.seq ?_
    refine WP.region ?_
    refine WPl.l 1 2 rfl rfl rfl (o_bsl (E := EP.int) (l := []) R44 rfl rfl (.nil) rfl rfl) ?_
    refine WPl.v rfl (o_move rfl) ?_
    refine WPl.u1 (k := 2) (m := 3) rfl rfl rfl (o_apps R44 EP.int_one rfl rfl rfl (lx rfl) (by first | omega | (simp; omega) | (simp at *; omega)) (by first | omega | (simp; omega) | (simp at *; omega))) ?_
    refine WPl.v rfl (o_assign rfl) ?_
    refine WPl.nil ?_
    refine EX.then ?_
    refine WP.ret ?_
    refine EX.imp (Imp.frzf (E := EP.int) (l := [] ++ l) 2 EP.fix_free rfl rfl) ?_
    exact EX.fin (ren [(0, 2)]) (.inl rfl) rfl (.tmp rfl .nil) rfl (by simp [SV.res, El.res, At.res, keys]) ⟨(lx rfl), trivial⟩ (by simp) (by simp)
theorem w144 {q : Int → Bool} {l : List Int} : ∀ x ∈ ([.e (.a (.q 0)), .e (.a (.q 1))] : List SV), x.res (keys (α := Pred) [(0, PL EP.int (l)), (1, PredP q)]) := by simp [SV.res, El.res, At.res, keys]
theorem r144 {q : Int → Bool} {l : List Int} : SV.res (keys (α := Pred) []) (.i (findI q l)) := by simp [SV.res, El.res, At.res, keys]
set_option maxHeartbeats 4000000 in
theorem c144 (q : Int → Bool) (l : List Int) (h : l.length ≤ 1000) : Sig Try.prog 144 [.e (.a (.q 0)), .e (.a (.q 1))] [(0, PL EP.int (l)), (1, PredP q)] (.i (findI q l)) [] := by
  refine Sig.intro Try.func144 rfl 2 [(0, .e (.a (.q 0))), (1, .e (.a (.q 1)))] rfl w144 rfl rfl fun I w => ?_
  refine WP.seq ?_
  refine WP.region ?_
  refine WPl.v rfl (o_assign rfl) ?_
  refine WPl.nil ?_
  refine EX.then ?_
  refine WP.seq ?_
  refine WP.seq ?_
  refine WP.region ?_
  refine WPl.v rfl (o_move rfl) ?_
  refine WPl.v rfl (o_lenq L44 rfl (lx rfl)) ?_
  refine WPl.v rfl (o_move rfl) ?_
  refine WPl.nil ?_
  refine EX.then ?_
  refine WP.block ?_
  refine WP.loop (Gh := Nat) (fun i => ⟨2, [(0, .e (.a (.q 0))), (1, .e (.a (.q 1))), (4, .i (0)), (7, .i ((l.length : Int))), (8, .i ((i : Int)))], [(0, PL EP.int (l)), (1, PredP q)], [], [], []⟩) (fun i => i ≤ l.length ∧ allI (fun j => !q (nth l j)) i = true) (fun i => l.length - i) (0) id ?_ (LeR.of ⟨rfl, rfl, rfl, rfl, rfl, trivial⟩ ⟨(lx rfl), (lx rfl), trivial⟩ trivial rfl rfl rfl rfl rfl) ?_
  · exact ⟨by omega, rfl⟩
  intro i hφ
  have hi : i ≤ l.length := hφ.1
  have hall := hφ.2
  refine WP.seq ?_
  refine WP.region ?_
  refine WPl.v rfl (o_lss rfl rfl) ?_
  refine WPl.nil ?_
  refine EX.then ?_
  refine WP.seq ?_
  refine WP.cond rfl (fun hc1 => ?_) (fun hc1 => ?_)
  · try simp only [decide_eq_true_eq, decide_eq_false_iff_not, Bool.and_eq_true, Bool.or_eq_true, Bool.and_eq_false_iff, Bool.or_eq_false_iff, Bool.not_eq_true', Bool.not_eq_false', ne_eq, Decidable.not_not] at hc1
    refine WP.skip ?_
    refine EX.then ?_
    refine WP.seq ?_
    refine WP.block ?_
    refine WP.seq ?_
    refine WP.region ?_
    refine WPl.v rfl (o_move rfl) ?_
    refine WPl.v rfl (o_assign rfl) ?_
    refine WPl.nil ?_
    refine EX.then ?_
    refine WP.seq ?_
    refine WP.region ?_
    refine WPl.v rfl (o_move rfl) ?_
    refine WPl.v rfl (o_move rfl) ?_
    refine WPl.v rfl (o_move rfl) ?_
    refine WPl.x 2 3 rfl rfl rfl (o_idx L44 rfl (lx rfl) rfl (by first | omega | (simp; omega)) (by first | omega | (simp; omega))) ?_
    refine WPl.v rfl (o_ldq S3 rfl (lx rfl) intc) ?_
    refine WPl.cs 3 rfl rfl rfl rfl (o_callfv (svs := [.i ((nth l (i : Int)))]) 3 id rfl (Has.of (lx rfl) fun _ _ h => h (nth l (i : Int))) rfl rfl SvsOK.rf (by simp [SV.res, El.res, At.res, keys]) trivial (by simp [SV.res, El.res, At.res, keys])) ?_
    refine WPl.nil ?_
    refine EX.then ?_
    refine WP.cond rfl (fun hc2 => ?_) (fun hc2 => ?_)
    · try simp only [decide_eq_true_eq, decide_eq_false_iff_not, Bool.and_eq_true, Bool.or_eq_true, Bool.and_eq_false_iff, Bool.or_eq_false_iff, Bool.not_eq_true', Bool.not_eq_false', ne_eq, Decidable.not_not] at hc2
      refine WP.seq ?_
      refine WP.region ?_
      refine WPl.v rfl (o_move rfl) ?_
      refine WPl.v rfl (o_assign rfl) ?_
      refine WPl.nil ?_
      refine EX.then ?_
      refine WP.ret ?_
      refine EX.ret_blk ?_
      refine EX.ret_then ?_
      refine EX.ret_then ?_
      refine EX.ret_blk ?_
      refine EX.ret_then ?_
      rw [show findI q l = (i : Int) from findTo_some hall (by simpa using hc2) (by omega)]
      exact EX.fin id (.inl rfl) rfl (.tmp rfl .nil) rfl (by simp [SV.res, El.res, At.res, keys]) trivial (by simp) (by simp)
    · try simp only [decide_eq_true_eq, decide_eq_false_iff_not, Bool.and_eq_true, Bool.or_eq_true, Bool.and_eq_false_iff, Bool.or_eq_false_iff, Bool.not_eq_true', Bool.not_eq_false', ne_eq, Decidable.not_not] at hc2
      refine WP.skip ?_
      refine EX.blk ?_
      refine EX.then ?_
      refine WP.region ?_
      refine WPl.v rfl (o_add rfl rfl (by first | omega | (simp; omega)) (by first | omega | (simp; omega))) ?_
      refine WPl.v rfl (o_move rfl) ?_
      refine WPl.nil ?_
      refine EX.again (i + 1) id (by exact ⟨by omega, by simp only [allI, hall, Bool.true_and]; simpa using hc2⟩) (by omega) (LeR.of ⟨rfl, rfl, rfl, rfl, rfl, trivial⟩ ⟨(lx rfl), (lx rfl), trivial⟩ trivial rfl rfl rfl rfl rfl)
  · try simp only [decide_eq_true_eq, decide_eq_false_iff_not, Bool.and_eq_true, Bool.or_eq_true, Bool.and_eq_false_iff, Bool.or_eq_false_iff, Bool.not_eq_true', Bool.not_eq_false', ne_eq, Decidable.not_not] at hc1
    refine WP.exit ?_
    refine EX.exit_then ?_
    refine EX.exit_then ?_
    refine EX.exit_blk ?_
    refine EX.then ?_
    refine WP.seq ?_
    refine WP.region ?_
    refine WPl.v rfl (o_assign rfl) ?_
    refine WPl.nil ?_
    refine EX.then ?_
    refine WP.ret ?_
    have he : i = l.length := by omega
    subst he
    rw [show findI q l = -1 from findTo_none hall]
    exact EX.fin id (.inl rfl) rfl (.tmp rfl .nil) rfl (by simp [SV.res, El.res, At.res, keys]) trivial (by simp) (by simp)
theorem w106 {q : Int → Bool} {l : List Int} : ∀ x ∈ ([.e (.a (.q 0)), .e (.a (.q 1))] : List SV), x.res (keys (α := Pred) [(0, PL EP.int (l)), (1, PredP q)]) := by simp [SV.res, El.res, At.res, keys]
theorem r106 {q : Int → Bool} {l : List Int} : SV.res (keys (α := Pred) []) (.b (decide (0 ≤ findI q l))) := by simp [SV.res, El.res, At.res, keys]
set_option maxHeartbeats 4000000 in
theorem c106 (q : Int → Bool) (l : List Int) (h : l.length ≤ 1000) : Sig Try.prog 106 [.e (.a (.q 0)), .e (.a (.q 1))] [(0, PL EP.int (l)), (1, PredP q)] (.b (decide (0 ≤ findI q l))) [] := by
  refine Sig.intro Try.func106 rfl 2 [(0, .e (.a (.q 0))), (1, .e (.a (.q 1)))] rfl w106 rfl rfl fun I w => ?_
  refine WP.seq ?_
  refine WP.region ?_
  refine WPl.v rfl (o_assign rfl) ?_
  refine WPl.nil ?_
  refine EX.then ?_
  refine WP.seq ?_
  refine WP.region ?_
  refine WPl.v rfl (o_move rfl) ?_
  refine WPl.v rfl (o_move rfl) ?_
  refine WPl.cs 2 rfl rfl rfl rfl (o_sig 2 (ren [(0, 0), (1, 1)]) (c144 q l h) e144 rfl rfl rfl w144 ⟨(lx rfl), (lx rfl), trivial⟩ r144) ?_
  refine WPl.v rfl (o_geq rfl rfl) ?_
  refine WPl.v rfl (o_assign rfl) ?_
  refine WPl.nil ?_
  refine EX.then ?_
  refine WP.ret ?_
  exact EX.fin id (.inl rfl) rfl (.tmp rfl .nil) rfl r106 trivial (by simp) (by simp)
theorem w107 {n : Int} : ∀ x ∈ ([.i (n)] : List SV), x.res (keys (α := Pred) []) := by simp [SV.res, El.res, At.res, keys]
theorem r107 {n : Int} : SV.res (keys (α := Pred) []) (.b (decide (0 < n))) := by simp [SV.res, El.res, At.res, keys]
set_option maxHeartbeats 4000000 in
theorem c107 (n : Int)  : Sig Try.prog 107 [.i (n)] [] (.b (decide (0 < n))) [] := by
  refine Sig.intro Try.func107 rfl 0 [(0, .i (n))] rfl w107 rfl rfl fun I w => ?_
  refine WP.seq ?_
  refine WP.region ?_
  refine WPl.v rfl (o_assign rfl) ?_
  refine WPl.nil ?_
  refine EX.then ?_
  refine WP.seq ?_
  refine WP.region ?_
  refine WPl.v rfl (o_move rfl) ?_
  refine WPl.v rfl (o_gtr rfl rfl) ?_
  refine WPl.v rfl (o_assign rfl) ?_
  refine WPl.nil ?_
  refine EX.then ?_
  refine WP.ret ?_
  exact EX.fin id (.inl rfl) rfl (.tmp rfl .nil) rfl r107 trivial (by simp) (by simp)
theorem w105 {a : Int} {l : List Int} : ∀ x ∈ ([.i (a), .e (.a (.q 0))] : List SV), x.res (keys (α := Pred) [(0, PL EP.int (l))]) := by simp [SV.res, El.res, At.res, keys]
theorem r105 {a : Int} {l : List Int} : SV.res (keys (α := Pred) []) (.i (onceG a l)) := by simp [SV.res, El.res, At.res, keys]
set_option maxHeartbeats 4000000 in
theorem c105 (a : Int) (l : List Int) (h : l.length ≤ 1000) : Sig Try.prog 105 [.i (a), .e (.a (.q 0))] [(0, PL EP.int (l))] (.i (onceG a l)) [] := by
  refine Sig.intro Try.func105 rfl 1 [(0, .i (a)), (1, .e (.a (.q 0)))] rfl w105 rfl rfl fun I w => ?_
  refine WP.seq ?_
  refine WP.region ?_
  refine WPl.v rfl (o_assign rfl) ?_
  refine WPl.nil ?_
  refine EX.then ?_
  refine WP.seq ?_
  refine WP.seq ?_
  refine WP.region ?_
  refine WPl.v rfl (o_move rfl) ?_
  refine WPl.imp (Imp.nam 1 2 (.func (.func 107) #[] #[]) (R := (PredP (fun n => decide (0 < n))).and (Pred.is (.func (.func 107) #[] #[]))) (fun I => FvP.namea (fun (n : Int) => (c107 n)) e107 (fun _ => (by simp [SV.res, El.res, At.res, keys])) I) rfl rfl) ?_
  refine WPl.cs 2 rfl rfl rfl rfl (o_sigc 2 (ren [(0, 0), (1, 1)]) (c106 (fun n => decide (0 < n)) l h) e106 rfl rfl ⟨.inl rfl, .inr ⟨_, _, rfl, fun _ => rfl, (lxr rfl)⟩, trivial⟩ w106 ⟨(lx rfl), (lxl rfl), trivial⟩ r106) ?_
  refine WPl.nil ?_
  refine EX.then ?_
  refine WP.cond rfl (fun hc1 => ?_) (fun hc1 => ?_)
  · try simp only [decide_eq_true_eq, decide_eq_false_iff_not, Bool.and_eq_true, Bool.or_eq_true, Bool.and_eq_false_iff, Bool.or_eq_false_iff, Bool.not_eq_true', Bool.not_eq_false', ne_eq, Decidable.not_not] at hc1
    refine WP.seq ?_
    refine WP.region ?_
    refine WPl.v rfl (o_assign rfl) ?_
    refine WPl.nil ?_
    refine EX.then ?_
    refine WP.ret ?_
    refine EX.ret_then ?_
    rw [show onceG a l = 1 from if_pos hc1]
    exact EX.fin id (.inl rfl) rfl (.tmp rfl .nil) rfl (by simp [SV.res, El.res, At.res, keys]) trivial (by simp) (by simp)
  · try simp only [decide_eq_true_eq, decide_eq_false_iff_not, Bool.and_eq_true, Bool.or_eq_true, Bool.and_eq_false_iff, Bool.or_eq_false_iff, Bool.not_eq_true', Bool.not_eq_false', ne_eq, Decidable.not_not] at hc1
    refine WP.skip ?_
    refine EX.then ?_
    refine WP.seq ?_
    refine WP.region ?_
    refine WPl.v rfl (o_assign rfl) ?_
    refine WPl.nil ?_
    refine EX.then ?_
    refine WP.ret ?_
    rw [show onceG a l = 0 from if_neg hc1]
    exact EX.fin id (.inl rfl) rfl (.tmp rfl .nil) rfl (by simp [SV.res, El.res, At.res, keys]) trivial (by simp) (by simp)
theorem w102 {a : Int} {l : List Int} : ∀ x ∈ ([.i (a), .e (.a (.q 0))] : List SV), x.res (keys (α := Pred) [(0, PL EP.int (l))]) := by simp [SV.res, El.res, At.res, keys]
theorem r102 {a : Int} {l : List Int} : SV.res (keys (α := Pred) []) (.i (costG a l)) := by simp [SV.res, El.res, At.res, keys]
set_option maxHeartbeats 4000000 in
theorem c102 (a : Int) (l : List Int)  : Sig Try.prog 102 [.i (a), .e (.a (.q 0))] [(0, PL EP.int (l))] (.i (costG a l)) [] := by
  refine Sig.intro Try.func102 rfl 1 [(0, .i (a)), (1, .e (.a (.q 0)))] rfl w102 rfl rfl fun I w => ?_
  refine WP.seq ?_
  refine WP.region ?_
  refine WPl.v rfl (o_assign rfl) ?_
  refine WPl.nil ?_
  refine EX.then ?_
  refine WP.seq ?_
  refine WP.region ?_
  refine WPl.v rfl (o_move rfl) ?_
  refine WPl.v rfl (o_assign rfl) ?_
  refine WPl.nil ?_
  refine EX.then ?_
  refine WP.ret ?_
  exact EX.fin id (.inl rfl) rfl (.tmp rfl .nil) rfl r102 trivial (by simp) (by simp)
theorem w103 {f : Fnd} {r : Option Nat} {g : Int → List Int → Int} {night : Int} {p : Pt} {left : List Int} : ∀ x ∈ ([.e (.a (.q 0)), .i (night), .e (.g [ai (p.pounds), ai (p.tl), ai (p.th), ai (p.al), ai (p.ah), ai (p.dl), ai (p.dh)]), .e (.g [ai (nth left 0), ai (nth left 1), ai (nth left 2), ai (nth left 3)]), .e (.a (.q 1))] : List SV), x.res (keys (α := Pred) [(0, PP (EWk r) (f)), (1, OfP g)]) := by simp [SV.res, El.res, At.res, keys]
theorem r103 {f : Fnd} {g : Int → List Int → Int} {n : Nat} {night : Int} {p : Pt} {left : List Int} : SV.res (keys (α := Pred) [(0, PL (EP.sl EP.int) ((f.bestW g n night p left).2.1))]) (.t [.a (ai ((f.bestW g n night p left).1)), .a (.q 0), .a (.v (.bool ((f.bestW g n night p left).2.2)))]) := by simp [SV.res, El.res, At.res, keys]
set_option maxHeartbeats 4000000 in
theorem c103 (f : Fnd) (r : Option Nat) (g : Int → List Int → Int) (n : Nat) (night : Int) (p : Pt) (left : List Int) (hf : f.chk = true) (hg : OfB g) (hnt : night + n = f.nights.length) (hn0 : 0 ≤ night) (hp : PtB p (1000 + 400018 * night)) (hl : bnd4 left) : Sig Try.prog 103 [.e (.a (.q 0)), .i (night), .e (.g [ai (p.pounds), ai (p.tl), ai (p.th), ai (p.al), ai (p.ah), ai (p.dl), ai (p.dh)]), .e (.g [ai (nth left 0), ai (nth left 1), ai (nth left 2), ai (nth left 3)]), .e (.a (.q 1))] [(0, PP (EWk r) (f)), (1, OfP g)] (.t [.a (ai ((f.bestW g n night p left).1)), .a (.q 0), .a (.v (.bool ((f.bestW g n night p left).2.2)))]) [(0, PL (EP.sl EP.int) ((f.bestW g n night p left).2.1))] := by
  have hpg := Shop.pigsOK (Fnd.shopOK hf)
  have hp4 := hpg.2
  have hn := Fnd.nightsOK hf
  have hn4 := hn.2
  refine Sig.intro Try.func103 rfl 2 [(0, .e (.a (.q 0))), (1, .i (night)), (2, .e (.g [ai (p.pounds), ai (p.tl), ai (p.th), ai (p.al), ai (p.ah), ai (p.dl), ai (p.dh)])), (3, .e (.g [ai (nth left 0), ai (nth left 1), ai (nth left 2), ai (nth left 3)])), (4, .e (.a (.q 1)))] rfl w103 rfl rfl fun I w => ?_
  refine WP.seq ?_
  refine WP.region ?_
  refine WPl.l 2 3 rfl rfl rfl (o_boxa rfl (.inl ⟨_, (lx rfl), PP.one⟩)) ?_
  refine WPl.l 3 4 rfl rfl rfl (o_boxa rfl rfl) ?_
  refine WPl.l 4 5 rfl rfl rfl (o_boxg rfl) ?_
  refine WPl.l 5 6 rfl rfl rfl (o_boxg rfl) ?_
  refine WPl.l 6 7 rfl rfl rfl (o_boxa rfl (.inl ⟨_, (lx rfl), FvP.onea⟩)) ?_
  refine WPl.l 7 8 rfl rfl rfl (o_alloc Z3) ?_
  refine WPl.l 8 9 rfl rfl rfl (o_alloc Z32) ?_
  refine WPl.l 9 10 rfl rfl rfl (o_alloc Z4) ?_
  refine WPl.nil ?_
  refine EX.then ?_
  refine WP.seq ?_
  refine WP.seq ?_
  refine WP.draw (nf := 11) [⟨[21, 22, 23, 24, 25, 26], [10], [], [], []⟩, ⟨[20], [], [], [], []⟩, ⟨[20], [], [], [], [1]⟩, ⟨[20], [], [], [], [1, 2]⟩, ⟨[20], [], [], [], [1, 2, 3]⟩, ⟨[20], [], [10], [10], [1, 2, 3, 4]⟩, ⟨[20], [], [], [], [1, 2, 3, 4, 5]⟩, ⟨[], [], [], [], [0, 1, 2, 3, 4, 5, 6]⟩] (by kernel_rfl) (by kernel_rfl) ?_
  refine DRQ.v rfl rfl rfl (o_ldp S3 rfl rfl rfl) ?_
  refine DRQ.v rfl rfl rfl (o_ldp S95 rfl rfl rfl) ?_
  refine DRQ.v rfl rfl rfl (o_nilq rfl (lx rfl)) ?_
  refine DRQ.v rfl rfl rfl (o_fldq F100_0 rfl (lx rfl)) ?_
  refine DRQ.v rfl rfl rfl (o_flde F31_1 rfl (lx rfl)) ?_
  refine DRQ.x 10 rfl rfl rfl rfl (o_ldex S29 rfl (lx rfl) (strS rfl)) ?_
  refine DRQ.v rfl rfl rfl (o_lenq L29 rfl (lx rfl)) ?_
  refine DRQ.v rfl rfl rfl (o_eql rfl rfl) ?_
  refine DRQ.nil' ?_
  refine EX.then ?_
  refine WP.cond rfl (fun hc1 => ?_) (fun hc1 => ?_)
  · try simp only [decide_eq_true_eq, decide_eq_false_iff_not, Bool.and_eq_true, Bool.or_eq_true, Bool.and_eq_false_iff, Bool.or_eq_false_iff, Bool.not_eq_true', Bool.not_eq_false', ne_eq, Decidable.not_not] at hc1
    obtain rfl : n = 0 := by omega
    refine WP.seq ?_
    refine WP.region ?_
    refine WPl.s1 (o_sta S3 rfl rfl rfl rfl rfl) ?_
    refine WPl.s1 (o_sta S32 rfl rfl rfl rfl rfl) ?_
    refine WPl.s1 (o_sta S4 rfl rfl rfl rfl rfl) ?_
    refine WPl.nil ?_
    refine EX.then ?_
    refine WP.ret ?_
    refine EX.ret_then ?_
    refine EX.imp (Imp.nam 11 12 (.slice none 0 0) (R := PN (EP.sl EP.int)) pn_ok rfl rfl) ?_
    refine EX.imp (Imp.swL 8 0 11 rfl rfl (lxr rfl)) ?_
    exact EX.fin (ren [(0, 11)]) (.inl rfl) rfl (.cell1 S3 rfl rfl (.cell1 S32 rfl rfl (.cell1 S4 rfl rfl (.nil)))) rfl r103 ⟨lxl rfl, trivial⟩ (by simp) (by simp)
  · try simp only [decide_eq_true_eq, decide_eq_false_iff_not, Bool.and_eq_true, Bool.or_eq_true, Bool.and_eq_false_iff, Bool.or_eq_false_iff, Bool.not_eq_true', Bool.not_eq_false', ne_eq, Decidable.not_not] at hc1
    obtain ⟨k, rfl⟩ : ∃ k, n = k + 1 := ⟨n - 1, by omega⟩
    have hnc := hn.at (show night.toNat < f.nights.length by omega)
    rw [show ((night.toNat : Nat) : Int) = night by omega] at hnc
    refine WP.skip ?_
    refine EX.then ?_
    refine WP.seq ?_
    refine WP.seq ?_
    refine WP.region ?_
    refine WPl.v rfl (o_ldp S95 rfl rfl rfl) ?_
    refine WPl.v rfl (o_ldpa G105 rfl rfl rfl) ?_
    refine WPl.v rfl (o_ldpa G110 rfl rfl rfl) ?_
    refine WPl.cs 12 rfl rfl rfl rfl (o_sig 11 (ren [(0, 0)]) (c140 f r p left (1000 + 400018 * night) hf hp (by omega) hl) e140 rfl rfl rfl w140 ⟨(lx rfl), trivial⟩ r140) ?_
    refine WPl.nil ?_
    refine EX.then ?_
    refine WP.block ?_
    refine WP.leR (S' := ⟨12, [(5, .e (.a (.p 2 (0)))), (6, .e (.a (.p 3 (0)))), (8, .e (.a (.p 5 (0)))), (9, .e (.a (.p 6 (0)))), (10, .e (.a (.p 7 (0)))), (11, .e (.a (.p 8 (0)))), (12, .e (.a (.p 9 (0)))), (31, .e (.a (.q 11)))], [(0, PP (EWk r) (f)), (1, OfP g), (11, ItP Try.prog (f.chItems p left))], [(2, .blk [.q 0] 95), (3, .blk [ai (night)] 3), (5, .blk [ai (nth left 0), ai (nth left 1), ai (nth left 2), ai (nth left 3)] 110), (6, .blk [.q 1] 124), (7, .blk [ai (0)] 3), (8, .blk [.v (.slice none 0 0)] 32), (9, .blk [.v (.bool (false))] 4)], [], []⟩) id (LeR.of ⟨rfl, rfl, rfl, rfl, rfl, rfl, rfl, rfl, trivial⟩ ⟨(lx rfl), (lx rfl), (lx rfl), trivial⟩ ⟨rfl, rfl, rfl, rfl, rfl, rfl, rfl, trivial⟩ rfl rfl rfl rfl rfl) ?_
    refine WP.imp (Imp.nam 12 13 (.slice none 0 0) (R := PN (EP.sl EP.int)) pn_ok rfl rfl) ?_
    refine WP.imp (Imp.swL 8 0 12 rfl rfl (lxr rfl)) ?_
    refine WP.rangeG 16 1 ((f.chL p left).length) (fun i => ⟨[.e (.a (.q 0)), .e (.g [ai ((p.addL f.shop.pigs (nth (f.chL p left) (i : Int))).pounds), ai ((p.addL f.shop.pigs (nth (f.chL p left) (i : Int))).tl), ai ((p.addL f.shop.pigs (nth (f.chL p left) (i : Int))).th), ai ((p.addL f.shop.pigs (nth (f.chL p left) (i : Int))).al), ai ((p.addL f.shop.pigs (nth (f.chL p left) (i : Int))).ah), ai ((p.addL f.shop.pigs (nth (f.chL p left) (i : Int))).dl), ai ((p.addL f.shop.pigs (nth (f.chL p left) (i : Int))).dh)])], [], [(0, PL EP.int ((nth (f.chL p left) (i : Int))))]⟩) (fun i => ⟨16, [(5, .e (.a (.p 2 (0)))), (6, .e (.a (.p 3 (0)))), (8, .e (.a (.p 5 (0)))), (9, .e (.a (.p 6 (0)))), (10, .e (.a (.p 7 (0)))), (11, .e (.a (.p 8 (0)))), (12, .e (.a (.p 9 (0)))), (31, .e (.a (.q 11)))], [(0, PP (EWk r) (f)), (1, OfP g), (11, ItP Try.prog (f.chItems p left)), (15, PL (EP.sl EP.int) ((bestRows g f.shop.pigs (fun r => f.bestW g k (night + 1) ((p.addL f.shop.pigs r).lose (nth f.nights night)) (takeL left r)) (f.chL p left) i).2.1))], [(2, .blk [.q 0] 95), (3, .blk [ai (night)] 3), (5, .blk [ai (nth left 0), ai (nth left 1), ai (nth left 2), ai (nth left 3)] 110), (6, .blk [.q 1] 124), (7, .blk [ai ((bestRows g f.shop.pigs (fun r => f.bestW g k (night + 1) ((p.addL f.shop.pigs r).lose (nth f.nights night)) (takeL left r)) (f.chL p left) i).1)] 3), (8, .blk [.q 15] 32), (9, .blk [.v (.bool ((bestRows g f.shop.pigs (fun r => f.bestW g k (night + 1) ((p.addL f.shop.pigs r).lose (nth f.nights night)) (takeL left r)) (f.chL p left) i).2.2))] 4), (13, .ob (.deferred (some [])))], [13], []⟩) (fun _ _ => False) rfl rfl (lx rfl) (rfl) (fun _ => RSt.of rfl rfl rfl rfl rfl rfl) (fun _ _ h => h.elim) rfl rfl rfl (fun _ _ => ItemOK.of rfl) rfl rfl (ren [(15, 12)]) (LeR.of ⟨rfl, rfl, rfl, rfl, rfl, rfl, rfl, rfl, trivial⟩ ⟨(lx rfl), (lx rfl), (lx rfl), (lxl rfl), trivial⟩ ⟨rfl, rfl, rfl, rfl, rfl, rfl, rfl, rfl, trivial⟩ rfl rfl rfl rfl rfl) ?_ ?_ ?_
    · intro i hi w1 E1 I1 R1 pβ1 pν1 us1
      have hr := chL_at (p := p) hl hp4 hi
      have hr40 : ((nth (f.chL p left) (i : Int))).length ≤ 40 := by have := hr.1; omega
      have hpn : PtB (p.addL f.shop.pigs (nth (f.chL p left) (i : Int))) (1000 + 400018 * night + 400000) := addTo_bnd hp hpg (by rw [hr.1]; exact Nat.le_refl _) (bnd_mono hr.2.1 (by omega)) (Nat.le_refl _)
      have hpe := pence_bnd hpg hr.1 hr.2.1
      have hgb := hg _ (nth (f.chL p left) (i : Int)) hpe.1 hpe.2
      have hwb := bestW_bnd hg hpg k (night + 1) ((p.addL f.shop.pigs (nth (f.chL p left) (i : Int))).lose (nth f.nights night)) (takeL left (nth (f.chL p left) (i : Int))) hr.2.2
      have hwl := bestW_len (f := f) (g := g) k (night + 1) ((p.addL f.shop.pigs (nth (f.chL p left) (i : Int))).lose (nth f.nights night)) (takeL left (nth (f.chL p left) (i : Int)))
      refine WP.seq ?_
      refine WP.region ?_
      refine WPl.v rfl (o_assign rfl) ?_
      refine WPl.nil ?_
      refine EX.then ?_
      refine WP.region ?_
      refine WPl.l 17 18 rfl rfl rfl (o_alloc Z105) ?_
      refine WPl.s1 (o_stag G105 rfl rfl rfl ⟨rfl, rfl, rfl, rfl, rfl, rfl, rfl, trivial⟩ rfl rfl) ?_
      refine WPl.nil ?_
      refine EX.beg rfl ?_
      refine WP.block ?_
      refine WP.seq ?_
      refine WP.region ?_
      refine WPl.v rfl (o_ldp S95 rfl rfl rfl) ?_
      refine WPl.v rfl (o_ldpa G110 rfl rfl rfl) ?_
      refine WPl.v rfl (o_move rfl) ?_
      refine WPl.cs 18 rfl rfl rfl rfl (o_sigbc 18 (ren [(0, 0), (1, 16)]) (Sig.free (c141 f r left (nth (f.chL p left) (i : Int)) hpg hl.1 (fun j hj => hl.2 j (by rw [← hl.1]; exact hj)) hr.1 hr.2.1)) e141 rfl rfl SvsOK.rf w141 ⟨.x (lx rfl), .ext (lx rfl) rfl, trivial⟩ r141) ?_
      refine WPl.v rfl (o_move rfl) ?_
      refine WPl.v rfl (o_extract rfl rfl) ?_
      refine WPl.v rfl (o_extract rfl rfl) ?_
      refine WPl.l 18 19 rfl rfl rfl (o_alloc Z110) ?_
      refine WPl.s1 (o_stag G110 rfl rfl rfl ⟨rfl, rfl, rfl, rfl, trivial⟩ rfl rfl) ?_
      refine WPl.v rfl (o_assign rfl) ?_
      refine WPl.nil ?_
      refine EX.then ?_
      refine WP.seq ?_
      refine WP.draw (nf := 22) [⟨[43, 44, 45, 46, 47, 48, 49, 50, 51, 52, 53, 54, 55, 56], [19, 20], [], [], []⟩, ⟨[42, 45, 46, 47, 48, 49, 50, 51, 52, 53, 54, 55, 56], [19, 20], [], [], []⟩, ⟨[42, 45, 46, 47, 48, 49, 50, 51, 52, 53, 54, 55, 56], [19, 20], [], [], [1]⟩, ⟨[42, 43, 44, 46, 47, 48, 49, 50, 51, 52, 53, 55, 56], [19, 20], [], [], []⟩, ⟨[42, 43, 44, 45, 51, 55, 56], [], [], [], []⟩, ⟨[42, 43, 44, 45, 51, 55, 56], [], [], [], [4]⟩, ⟨[42, 43, 44, 45, 51, 55, 56], [], [], [], [4, 5]⟩, ⟨[42, 43, 44, 45, 51, 55, 56], [], [], [], [4, 5, 6]⟩, ⟨[42, 43, 44, 45, 51, 55, 56], [], [19], [19], [4, 5, 6, 7]⟩, ⟨[42, 43, 44, 45, 46, 47, 48, 49, 50, 55, 56], [19], [], [], []⟩, ⟨[42, 43, 44, 45, 55, 56], [], [20], [20], [4, 5, 6, 7, 8, 9]⟩, ⟨[42, 43, 44, 45, 55, 56], [], [], [], [4, 5, 6, 7, 8, 9, 10]⟩, ⟨[42, 43, 44, 55, 56], [], [], [], [3, 4, 5, 6, 7, 8, 9, 10, 11]⟩, ⟨[42, 43, 44, 45, 46, 47, 48, 49, 50, 51, 52, 53, 54, 56], [19, 20], [], [], []⟩, ⟨[42, 43, 44, 45, 46, 47, 48, 49, 50, 51, 52, 53, 54, 55], [19, 20], [], [], []⟩, ⟨[], [], [21], [21], [0, 1, 2, 3, 4, 5, 6, 7, 8, 9, 10, 11, 12, 13, 14]⟩, ⟨[], [], [], [], [0, 1, 2, 3, 4, 5, 6, 7, 8, 9, 10, 11, 12, 13, 14, 15]⟩, ⟨[59, 60], [], [], [], [0, 1, 2, 3, 4, 5, 6, 7, 8, 9, 10, 11, 12, 13, 14, 15, 16]⟩, ⟨[58, 60, 17], [], [], [], [0, 1, 2, 3, 4, 5, 6, 7, 8, 9, 10, 11, 12, 13, 14, 15, 16]⟩, ⟨[58, 59, 17, 18], [], [], [], [0, 1, 2, 3, 4, 5, 6, 7, 8, 9, 10, 11, 12, 13, 14, 15, 16]⟩, ⟨[59, 60], [], [], [], [0, 1, 2, 3, 4, 5, 6, 7, 8, 9, 10, 11, 12, 13, 14, 15, 16, 17]⟩, ⟨[60], [], [], [], [0, 1, 2, 3, 4, 5, 6, 7, 8, 9, 10, 11, 12, 13, 14, 15, 16, 17, 18, 20]⟩, ⟨[], [], [], [], [0, 1, 2, 3, 4, 5, 6, 7, 8, 9, 10, 11, 12, 13, 14, 15, 16, 17, 18, 19, 20, 21]⟩] (by kernel_rfl) (by kernel_rfl) ?_
      refine DRQ.v rfl rfl rfl (o_ldp S95 rfl rfl rfl) ?_
      refine DRQ.v rfl rfl rfl (o_ldp S3 rfl rfl rfl) ?_
      refine DRQ.v rfl rfl rfl (o_add rfl rfl (by first | omega | (simp; omega)) (by first | omega | (simp; omega))) ?_
      refine DRQ.v rfl rfl rfl (o_ldpa G105 rfl rfl rfl) ?_
      refine DRQ.v rfl rfl rfl (o_ldp S95 rfl rfl rfl) ?_
      refine DRQ.v rfl rfl rfl (o_nilq rfl (lx rfl)) ?_
      refine DRQ.v rfl rfl rfl (o_fldq F100_0 rfl (lx rfl)) ?_
      refine DRQ.v rfl rfl rfl (o_flde F31_1 rfl (lx rfl)) ?_
      refine DRQ.x 19 rfl rfl rfl rfl (o_ldex S29 rfl (lx rfl) (strS rfl)) ?_
      refine DRQ.v rfl rfl rfl (o_ldp S3 rfl rfl rfl) ?_
      refine DRQ.x 20 rfl rfl rfl rfl (o_idx L29 rfl (lx rfl) rfl (by first | omega | (simp; omega)) (by first | omega | (simp; omega))) ?_
      refine DRQ.v rfl rfl rfl (o_ldqg G75 rfl (lx rfl) (strG rfl) rfl rfl) ?_
      refine DRQ.cs rfl rfl rfl rfl (o_sig 21 id (c130 (p.addL f.shop.pigs (nth (f.chL p left) (i : Int))) (nth f.nights night) (1000 + 400018 * night + 400000) hpn (by omega) hnc) e130 rfl rfl rfl w130 trivial r130) ?_
      refine DRQ.v rfl rfl rfl (o_ldpa G110 rfl rfl rfl) ?_
      refine DRQ.v rfl rfl rfl (o_ldp S124 rfl rfl rfl) ?_
      refine DRQ.cs rfl rfl rfl rfl (o_sig 21 (ren [(0, 0), (1, 1)]) (c103 f r g k (night + 1) ((p.addL f.shop.pigs (nth (f.chL p left) (i : Int))).lose (nth f.nights night)) (takeL left (nth (f.chL p left) (i : Int))) hf hg (by omega) (by omega) (PtB.mono (lose_bnd hpn hnc) (by omega)) hr.2.2) e103 rfl rfl rfl w103 ⟨(lx rfl), (lx rfl), trivial⟩ r103) ?_
      refine DRQ.v rfl rfl rfl (o_move rfl) ?_
      refine DRQ.v rfl rfl rfl (o_extract rfl rfl) ?_
      refine DRQ.v rfl rfl rfl (o_extract rfl rfl) ?_
      refine DRQ.v rfl rfl rfl (o_extract rfl rfl) ?_
      refine DRQ.v rfl rfl rfl (o_assign rfl) ?_
      refine DRQ.v rfl rfl rfl (o_assign rfl) ?_
      refine DRQ.v rfl rfl rfl (o_assign rfl) ?_
      refine DRQ.nil' ?_
      refine EX.then ?_
      refine WP.seq ?_
      refine WP.region ?_
      refine WPl.v rfl (o_move rfl) ?_
      refine WPl.v rfl (o_ldp S124 rfl rfl rfl) ?_
      refine WPl.v rfl (o_move rfl) ?_
      refine WPl.v rfl (o_move rfl) ?_
      refine WPl.cs 22 rfl rfl rfl rfl (o_callfvb (svs := [.i ((sumOf Pig.pence f.shop.pigs (nth (f.chL p left) (i : Int)), (⟨(nth (f.chL p left) (i : Int)), hr40⟩ : BL)).1), .e (.a (.q 0))]) 22 (ren [(0, 16)]) rfl (Has.of (lx rfl) fun _ _ h => h ((sumOf Pig.pence f.shop.pigs (nth (f.chL p left) (i : Int)), (⟨(nth (f.chL p left) (i : Int)), hr40⟩ : BL)))) rfl rfl SvsOK.rf (by simp [SV.res, El.res, At.res, keys]) ⟨.ext (lx rfl) rfl, trivial⟩ (by simp [SV.res, El.res, At.res, keys])) ?_
      refine WPl.v rfl (o_add rfl rfl (by first | omega | (simp; omega)) (by first | omega | (simp; omega))) ?_
      refine WPl.v rfl (o_assign rfl) ?_
      refine WPl.nil ?_
      refine EX.then ?_
      refine WP.seq ?_
      refine WP.region ?_
      refine WPl.v rfl (o_move rfl) ?_
      refine WPl.v rfl (o_move rfl) ?_
      refine WPl.bit 22 23 ((f.bestW g k (night + 1) ((p.addL f.shop.pigs (nth (f.chL p left) (i : Int))).lose (nth f.nights night)) (takeL left (nth (f.chL p left) (i : Int)))).2.2) rfl rfl ?_
      refine WPl.gv 22 rfl rfl (.plain rfl Iff.rfl rfl) (fun hb => o_ldp S4 rfl rfl rfl) ?_
      refine WPl.gv 22 rfl rfl (.plain rfl Iff.rfl rfl) (fun hb => o_not rfl) ?_
      refine WPl.gv 22 rfl rfl (.plain rfl Iff.rfl rfl) (fun hb => o_move rfl) ?_
      refine WPl.bit 23 24 (((f.bestW g k (night + 1) ((p.addL f.shop.pigs (nth (f.chL p left) (i : Int))).lose (nth f.nights night)) (takeL left (nth (f.chL p left) (i : Int)))).2.2) && !(!((bestRows g f.shop.pigs (fun r => f.bestW g k (night + 1) ((p.addL f.shop.pigs r).lose (nth f.nights night)) (takeL left r)) (f.chL p left) i).2.2))) rfl rfl ?_
      refine WPl.gv 23 rfl rfl (.nest rfl rfl (by simp) rfl) (fun hb => o_move rfl) ?_
      refine WPl.gv 23 rfl rfl (.nest rfl rfl (by simp) rfl) (fun hb => o_ldp S3 rfl rfl rfl) ?_
      refine WPl.gv 23 rfl rfl (.nest rfl rfl (by simp) rfl) (fun hb => o_lss rfl rfl) ?_
      refine WPl.gv 22 rfl rfl (.plain rfl Iff.rfl rfl) (fun hb => o_or rfl rfl rfl (by first | (simp; done) | simp_all)) ?_
      refine WPl.v rfl (o_and rfl rfl rfl id) ?_
      refine WPl.nil ?_
      refine EX.then ?_
      refine WP.cond rfl (fun hc2 => ?_) (fun hc2 => ?_)
      · try simp only [decide_eq_true_eq, decide_eq_false_iff_not, Bool.and_eq_true, Bool.or_eq_true, Bool.and_eq_false_iff, Bool.or_eq_false_iff, Bool.not_eq_true', Bool.not_eq_false', ne_eq, Decidable.not_not] at hc2
        refine WP.region ?_
        refine WPl.v rfl (o_move rfl) ?_
        refine WPl.v rfl (o_move rfl) ?_
        refine WPl.cs 25 rfl rfl rfl rfl (o_sigbc 24 (ren [(0, 16)]) (c142 (nth (f.chL p left) (i : Int)) (by have := hr.1; omega)) e142 rfl rfl SvsOK.rf w142 ⟨.ext (lx rfl) rfl, trivial⟩ r142) ?_
        refine WPl.u1 (k := 25) (m := 26) rfl rfl rfl (OpG.newer0 (o_bsl (E := (EP.sl EP.int)) (l := [(nth (f.chL p left) (i : Int))]) R32 rfl rfl (.cons ((.inl ⟨_, (lx rfl), PL.one⟩)) rfl (eok_sl (lx rfl)) (.nil)) rfl rfl)) ?_
        refine WPl.v rfl (o_move rfl) ?_
        refine WPl.u1 (k := 26) (m := 27) rfl rfl rfl (OpG.newer1 (lx rfl) rfl (o_apps R32 EP.sl_one rfl rfl rfl (lx rfl) (by first | omega | (simp; omega) | (simp at *; omega)) (by first | omega | (simp; omega) | (simp at *; omega)))) ?_
        refine WPl.s1 (o_sta S3 rfl rfl rfl rfl rfl) ?_
        refine WPl.s1 (o_sta S32 rfl rfl rfl (.inr ⟨_, _, _, _, rfl⟩) rfl) ?_
        refine WPl.s1 (o_sta S4 rfl rfl rfl rfl rfl) ?_
        refine WPl.nil ?_
        refine EX.blk ?_
        have hbr : bestRows g f.shop.pigs (fun r => f.bestW g k (night + 1) ((p.addL f.shop.pigs r).lose (nth f.nights night)) (takeL left r)) (f.chL p left) (i + 1) = ((f.bestW g k (night + 1) ((p.addL f.shop.pigs (nth (f.chL p left) (i : Int))).lose (nth f.nights night)) (takeL left (nth (f.chL p left) (i : Int)))).1 + g (sumOf Pig.pence f.shop.pigs (nth (f.chL p left) (i : Int))) (nth (f.chL p left) (i : Int)), (nth (f.chL p left) (i : Int)) :: (f.bestW g k (night + 1) ((p.addL f.shop.pigs (nth (f.chL p left) (i : Int))).lose (nth f.nights night)) (takeL left (nth (f.chL p left) (i : Int)))).2.1, true) := by simp only [bestRows, bestRow]; rw [if_pos (by simpa using hc2)]
        refine EX.imp (Imp.frzN (E := (EP.sl EP.int)) (l := [(nth (f.chL p left) (i : Int))] ++ ((f.bestW g k (night + 1) ((p.addL f.shop.pigs (nth (f.chL p left) (i : Int))).lose (nth f.nights night)) (takeL left (nth (f.chL p left) (i : Int)))).2.1)) 26 (lx rfl) rfl) ?_
        exact EX.next (ren [(15, 26)]) (LeR.of trivial ⟨(lx rfl), (lx rfl), (lx rfl), (has_eq (F := fun z => PL (EP.sl EP.int) z) (show ([(nth (f.chL p left) (i : Int))] ++ ((f.bestW g k (night + 1) ((p.addL f.shop.pigs (nth (f.chL p left) (i : Int))).lose (nth f.nights night)) (takeL left (nth (f.chL p left) (i : Int)))).2.1)) = ((fun i => (bestRows g f.shop.pigs (fun r => f.bestW g k (night + 1) ((p.addL f.shop.pigs r).lose (nth f.nights night)) (takeL left r)) (f.chL p left) i).2.1) (i + 1)) from by dsimp only; rw [hbr]; try rfl) (lx rfl)), trivial⟩ ⟨rfl, rfl, rfl, rfl, rfl, (congrArg (fun z => some (Ent.blk z 3)) (List.cons_eq_cons.2 ⟨(congrArg (fun z => ai z) (show (((f.bestW g k (night + 1) ((p.addL f.shop.pigs (nth (f.chL p left) (i : Int))).lose (nth f.nights night)) (takeL left (nth (f.chL p left) (i : Int)))).1) + (g (sumOf Pig.pence f.shop.pigs (nth (f.chL p left) (i : Int)), (⟨(nth (f.chL p left) (i : Int)), hr40⟩ : BL)).1 (sumOf Pig.pence f.shop.pigs (nth (f.chL p left) (i : Int)), (⟨(nth (f.chL p left) (i : Int)), hr40⟩ : BL)).2.1)) = ((fun i => (bestRows g f.shop.pigs (fun r => f.bestW g k (night + 1) ((p.addL f.shop.pigs r).lose (nth f.nights night)) (takeL left r)) (f.chL p left) i).1) (i + 1)) from by dsimp only; rw [hbr]; try rfl)), (Eq.refl [])⟩)), rfl, (congrArg (fun z => some (Ent.blk z 4)) (List.cons_eq_cons.2 ⟨(congrArg (fun z => At.v (Value.bool z)) (show (true) = ((fun i => (bestRows g f.shop.pigs (fun r => f.bestW g k (night + 1) ((p.addL f.shop.pigs r).lose (nth f.nights night)) (takeL left r)) (f.chL p left) i).2.2) (i + 1)) from by dsimp only; rw [hbr]; try rfl)), (Eq.refl [])⟩)), rfl, trivial⟩ rfl rfl rfl rfl rfl)
      · try simp only [decide_eq_true_eq, decide_eq_false_iff_not, Bool.and_eq_true, Bool.or_eq_true, Bool.and_eq_false_iff, Bool.or_eq_false_iff, Bool.not_eq_true', Bool.not_eq_false', ne_eq, Decidable.not_not] at hc2
        refine WP.skip ?_
        refine EX.blk ?_
        have hbr : bestRows g f.shop.pigs (fun r => f.bestW g k (night + 1) ((p.addL f.shop.pigs r).lose (nth f.nights night)) (takeL left r)) (f.chL p left) (i + 1) = (bestRows g f.shop.pigs (fun r => f.bestW g k (night + 1) ((p.addL f.shop.pigs r).lose (nth f.nights night)) (takeL left r)) (f.chL p left) i) := by simp only [bestRows, bestRow]; rw [if_neg (by simp at hc2 ⊢; intro h; exact hc2.resolve_left (by rw [h]; simp))]
        exact EX.next id (LeR.of trivial ⟨(lx rfl), (lx rfl), (lx rfl), (has_eq (F := fun z => PL (EP.sl EP.int) z) (show ((bestRows g f.shop.pigs (fun r => f.bestW g k (night + 1) ((p.addL f.shop.pigs r).lose (nth f.nights night)) (takeL left r)) (f.chL p left) i).2.1) = ((fun i => (bestRows g f.shop.pigs (fun r => f.bestW g k (night + 1) ((p.addL f.shop.pigs r).lose (nth f.nights night)) (takeL left r)) (f.chL p left) i).2.1) (i + 1)) from by dsimp only; rw [hbr]; try rfl) (lx rfl)), trivial⟩ ⟨rfl, rfl, rfl, rfl, rfl, (congrArg (fun z => some (Ent.blk z 3)) (List.cons_eq_cons.2 ⟨(congrArg (fun z => ai z) (show ((bestRows g f.shop.pigs (fun r => f.bestW g k (night + 1) ((p.addL f.shop.pigs r).lose (nth f.nights night)) (takeL left r)) (f.chL p left) i).1) = ((fun i => (bestRows g f.shop.pigs (fun r => f.bestW g k (night + 1) ((p.addL f.shop.pigs r).lose (nth f.nights night)) (takeL left r)) (f.chL p left) i).1) (i + 1)) from by dsimp only; rw [hbr]; try rfl)), (Eq.refl [])⟩)), rfl, (congrArg (fun z => some (Ent.blk z 4)) (List.cons_eq_cons.2 ⟨(congrArg (fun z => At.v (Value.bool z)) (show ((bestRows g f.shop.pigs (fun r => f.bestW g k (night + 1) ((p.addL f.shop.pigs r).lose (nth f.nights night)) (takeL left r)) (f.chL p left) i).2.2) = ((fun i => (bestRows g f.shop.pigs (fun r => f.bestW g k (night + 1) ((p.addL f.shop.pigs r).lose (nth f.nights night)) (takeL left r)) (f.chL p left) i).2.2) (i + 1)) from by dsimp only; rw [hbr]; try rfl)), (Eq.refl [])⟩)), rfl, trivial⟩ rfl rfl rfl rfl rfl)
    · exact fun _ _ h => h.elim
    · skip
      refine EX.blk ?_
      refine EX.then ?_
      refine WP.seq ?_
      refine WP.draw (nf := 16) [⟨[84, 85], [], [], [], []⟩, ⟨[83, 85], [7], [], [], []⟩, ⟨[83, 84], [7, 8], [], [], []⟩, ⟨[84, 85], [], [], [7], [0]⟩, ⟨[85], [], [], [8], [0, 1, 3]⟩, ⟨[], [], [], [9], [0, 1, 2, 3, 4]⟩] (by kernel_rfl) (by kernel_rfl) ?_
      refine DRQ.v rfl rfl rfl (o_ldp S3 rfl rfl rfl) ?_
      refine DRQ.v rfl rfl rfl (o_ldp S32 rfl rfl rfl) ?_
      refine DRQ.v rfl rfl rfl (o_ldp S4 rfl rfl rfl) ?_
      refine DRQ.s 7 rfl rfl rfl (o_sta S3 rfl rfl rfl rfl rfl) ?_
      refine DRQ.s 8 rfl rfl rfl (o_sta S32 rfl rfl rfl (.inl ⟨_, (lx rfl), PL.one⟩) rfl) ?_
      refine DRQ.s 9 rfl rfl rfl (o_sta S4 rfl rfl rfl rfl rfl) ?_
      refine DRQ.nil' ?_
      refine EX.then ?_
      refine WP.ret ?_
      exact EX.fin (ren [(0, 15)]) (.inl rfl) rfl (.cell1 S3 rfl rfl (.cell1 S32 rfl rfl (.cell1 S4 rfl rfl (.nil)))) rfl r103 ⟨(lx rfl), trivial⟩ (marks rfl) (by simp)
termination_by n
decreasing_by all_goals omega
theorem w101 {f : Fnd} {g : Int → List Int → Int} : ∀ x ∈ ([.e (.g [ai (f.shop.pounds), ai (f.shop.tl), ai (f.shop.th), ai (f.shop.al), ai (f.shop.ah), ai (f.shop.room), ai (f.shop.tpl), ai (f.shop.tph), ai (f.shop.apl), ai (f.shop.aph), .q 0, .q 1]), .e (.a (.q 2))] : List SV), x.res (keys (α := Pred) [(0, PL EPig (f.shop.pigs)), (1, PL ENight (f.nights)), (2, OfP g)]) := by simp [SV.res, El.res, At.res, keys]
theorem r101 {f : Fnd} {g : Int → List Int → Int} : SV.res (keys (α := Pred) []) (.t [.a (ai (f.leastV g)), .a (ai (f.leastE g))]) := by simp [SV.res, El.res, At.res, keys]
set_option maxHeartbeats 4000000 in
theorem c101 (f : Fnd) (g : Int → List Int → Int) (hl : f.shop.pigs.length ≤ 40) (hgb : OfB g) : Sig Try.prog 101 [.e (.g [ai (f.shop.pounds), ai (f.shop.tl), ai (f.shop.th), ai (f.shop.al), ai (f.shop.ah), ai (f.shop.room), ai (f.shop.tpl), ai (f.shop.tph), ai (f.shop.apl), ai (f.shop.aph), .q 0, .q 1]), .e (.a (.q 2))] [(0, PL EPig (f.shop.pigs)), (1, PL ENight (f.nights)), (2, OfP g)] (.t [.a (ai (f.leastV g)), .a (ai (f.leastE g))]) [] := by
  rcases Bool.eq_false_or_eq_true f.chk with hf | hf
  · skip
    refine Sig.intro Try.func101 rfl 3 [(0, .e (.g [ai (f.shop.pounds), ai (f.shop.tl), ai (f.shop.th), ai (f.shop.al), ai (f.shop.ah), ai (f.shop.room), ai (f.shop.tpl), ai (f.shop.tph), ai (f.shop.apl), ai (f.shop.aph), .q 0, .q 1])), (1, .e (.a (.q 2)))] rfl w101 rfl rfl fun I w => ?_
    refine WP.seq ?_
    refine WP.region ?_
    refine WPl.l 3 4 rfl rfl rfl (o_boxg rfl) ?_
    refine WPl.v rfl (o_assign rfl) ?_
    refine WPl.v rfl (o_assign rfl) ?_
    refine WPl.nil ?_
    refine EX.then ?_
    refine WP.seq ?_
    refine WP.region ?_
    refine WPl.v rfl (o_ldpa G31 rfl rfl rfl) ?_
    refine WPl.cM 6 (o_sigm (J := [0]) 4 5 (ren [(0, 0), (1, 1)]) (c76N f hf) e76 rfl rfl SvsOK.rf w76N ⟨(lx rfl), (lx rfl), trivial⟩ (fun _ => rfl) (by simp [SV.res, El.res, At.res, keys]) rfl) rfl rfl rfl fun b15 => ?_
    refine WPl.v rfl (o_move rfl) ?_
    refine WPl.v rfl (o_extract rfl rfl) ?_
    refine WPl.v rfl (o_extract rfl rfl) ?_
    refine WPl.v rfl (o_assign rfl) ?_
    refine WPl.v rfl (o_assign rfl) ?_
    refine WPl.nil ?_
    refine EX.then ?_
    refine WP.seq ?_
    refine WP.seq ?_
    refine WP.region ?_
    refine WPl.v rfl (o_move rfl) ?_
    refine WPl.v rfl (o_neq rfl rfl) ?_
    refine WPl.nil ?_
    refine EX.then ?_
    refine WP.cond rfl (fun hc1 => ?_) (fun hc1 => ?_)
    · try simp only [decide_eq_true_eq, decide_eq_false_iff_not, Bool.and_eq_true, Bool.or_eq_true, Bool.and_eq_false_iff, Bool.or_eq_false_iff, Bool.not_eq_true', Bool.not_eq_false', ne_eq, Decidable.not_not] at hc1
      simp at hc1
    · try simp only [decide_eq_true_eq, decide_eq_false_iff_not, Bool.and_eq_true, Bool.or_eq_true, Bool.and_eq_false_iff, Bool.or_eq_false_iff, Bool.not_eq_true', Bool.not_eq_false', ne_eq, Decidable.not_not] at hc1
      have hcb := Fnd.chkB hf
      have hpg := Shop.pigsOK (Fnd.shopOK hf)
      refine WP.skip ?_
      refine EX.then ?_
      refine WP.seq ?_
      refine WP.region ?_
      refine WPl.v rfl (o_move rfl) ?_
      refine WPl.cs 6 rfl rfl rfl rfl (o_sig 6 (ren [(0, 4)]) (c88 f (some b15) (by omega)) e88 rfl rfl rfl w88 ⟨(lx rfl), trivial⟩ r88) ?_
      refine WPl.v rfl (o_move rfl) ?_
      refine WPl.v rfl (o_extract rfl rfl) ?_
      refine WPl.v rfl (o_extract rfl rfl) ?_
      refine WPl.l 6 7 rfl rfl rfl (o_alloc Z105) ?_
      refine WPl.l 7 8 rfl rfl rfl (o_alloc Z110) ?_
      refine WPl.s1 (o_stag G105 rfl rfl rfl ⟨rfl, rfl, rfl, rfl, rfl, rfl, rfl, trivial⟩ rfl rfl) ?_
      refine WPl.s1 (o_stag G110 rfl rfl rfl ⟨rfl, rfl, rfl, rfl, trivial⟩ rfl rfl) ?_
      refine WPl.nil ?_
      refine EX.then ?_
      refine WP.seq ?_
      refine WP.region ?_
      refine WPl.v rfl (o_move rfl) ?_
      refine WPl.v rfl (o_ldpa G105 rfl rfl rfl) ?_
      refine WPl.v rfl (o_ldpa G110 rfl rfl rfl) ?_
      refine WPl.v rfl (o_move rfl) ?_
      refine WPl.cs 9 rfl rfl rfl rfl (o_sig 8 (ren [(0, 4), (1, 2)]) (c103 f (some b15) g f.nights.length 0 f.pt0 (left0 f.shop.pigs) hf hgb (by omega) (by omega) (PtB.mono (pt0_bnd hf) (by omega)) (left0_b hpg)) e103 rfl rfl rfl w103 ⟨(lx rfl), (lx rfl), trivial⟩ r103) ?_
      refine WPl.v rfl (o_move rfl) ?_
      refine WPl.v rfl (o_extract rfl rfl) ?_
      refine WPl.v rfl (o_extract rfl rfl) ?_
      refine WPl.v rfl (o_extract rfl rfl) ?_
      refine WPl.v rfl (o_assign rfl) ?_
      refine WPl.v rfl (o_assign rfl) ?_
      refine WPl.v rfl (o_assign rfl) ?_
      refine WPl.nil ?_
      refine EX.then ?_
      refine WP.seq ?_
      refine WP.seq ?_
      refine WP.region ?_
      refine WPl.v rfl (o_move rfl) ?_
      refine WPl.v rfl (o_not rfl) ?_
      refine WPl.nil ?_
      refine EX.then ?_
      refine WP.cond rfl (fun hc2 => ?_) (fun hc2 => ?_)
      · try simp only [decide_eq_true_eq, decide_eq_false_iff_not, Bool.and_eq_true, Bool.or_eq_true, Bool.and_eq_false_iff, Bool.or_eq_false_iff, Bool.not_eq_true', Bool.not_eq_false', ne_eq, Decidable.not_not] at hc2
        have hno : (f.bestF g).2.2 = false := by unfold Fnd.bestF; simpa using hc2
        refine WP.seq ?_
        refine WP.region ?_
        refine WPl.v rfl (o_assign rfl) ?_
        refine WPl.v rfl (o_assign rfl) ?_
        refine WPl.nil ?_
        refine EX.then ?_
        refine WP.ret ?_
        refine EX.ret_then ?_
        have hE : f.leastE g = 3 := by simp [Fnd.leastE, hf, hno]
        rw [hE, show f.leastV g = 0 from by simp [Fnd.leastV, hE]]
        exact EX.fin id (.inl rfl) rfl (.tmp rfl (.tmp rfl .nil)) rfl (by simp [SV.res, El.res, At.res, keys]) trivial (by simp) (by simp)
      · try simp only [decide_eq_true_eq, decide_eq_false_iff_not, Bool.and_eq_true, Bool.or_eq_true, Bool.and_eq_false_iff, Bool.or_eq_false_iff, Bool.not_eq_true', Bool.not_eq_false', ne_eq, Decidable.not_not] at hc2
        have hyes : (f.bestF g).2.2 = true := by unfold Fnd.bestF; simpa using hc2
        refine WP.skip ?_
        refine EX.then ?_
        refine WP.seq ?_
        refine WP.region ?_
        refine WPl.v rfl (o_move rfl) ?_
        refine WPl.v rfl (o_assign rfl) ?_
        refine WPl.v rfl (o_assign rfl) ?_
        refine WPl.nil ?_
        refine EX.then ?_
        refine WP.ret ?_
        have hE : f.leastE g = 0 := by simp [Fnd.leastE, hf, hyes]
        rw [hE, show f.leastV g = (f.bestF g).1 from by simp [Fnd.leastV, hE]]
        exact EX.fin id (.inl rfl) rfl (.tmp rfl (.tmp rfl .nil)) rfl (by simp [SV.res, El.res, At.res, keys]) trivial (by simp) (by simp)
  · skip
    refine Sig.intro Try.func101 rfl 3 [(0, .e (.g [ai (f.shop.pounds), ai (f.shop.tl), ai (f.shop.th), ai (f.shop.al), ai (f.shop.ah), ai (f.shop.room), ai (f.shop.tpl), ai (f.shop.tph), ai (f.shop.apl), ai (f.shop.aph), .q 0, .q 1])), (1, .e (.a (.q 2)))] rfl w101 rfl rfl fun I w => ?_
    refine WP.seq ?_
    refine WP.region ?_
    refine WPl.l 3 4 rfl rfl rfl (o_boxg rfl) ?_
    refine WPl.v rfl (o_assign rfl) ?_
    refine WPl.v rfl (o_assign rfl) ?_
    refine WPl.nil ?_
    refine EX.then ?_
    refine WP.seq ?_
    refine WP.region ?_
    refine WPl.v rfl (o_ldpa G31 rfl rfl rfl) ?_
    refine WPl.cs 4 rfl rfl rfl rfl (o_sig 4 (ren [(0, 0), (1, 1)]) (c76NE f hf hl) e76 rfl rfl rfl w76NE ⟨(lx rfl), (lx rfl), trivial⟩ r76NE) ?_
    refine WPl.v rfl (o_move rfl) ?_
    refine WPl.v rfl (o_extract rfl rfl) ?_
    refine WPl.v rfl (o_extract rfl rfl) ?_
    refine WPl.v rfl (o_assign rfl) ?_
    refine WPl.v rfl (o_assign rfl) ?_
    refine WPl.nil ?_
    refine EX.then ?_
    refine WP.seq ?_
    refine WP.seq ?_
    refine WP.region ?_
    refine WPl.v rfl (o_move rfl) ?_
    refine WPl.v rfl (o_neq rfl rfl) ?_
    refine WPl.nil ?_
    refine EX.then ?_
    refine WP.cond rfl (fun hc1 => ?_) (fun hc1 => ?_)
    · try simp only [decide_eq_true_eq, decide_eq_false_iff_not, Bool.and_eq_true, Bool.or_eq_true, Bool.and_eq_false_iff, Bool.or_eq_false_iff, Bool.not_eq_true', Bool.not_eq_false', ne_eq, Decidable.not_not] at hc1
      refine WP.seq ?_
      refine WP.region ?_
      refine WPl.v rfl (o_move rfl) ?_
      refine WPl.v rfl (o_assign rfl) ?_
      refine WPl.v rfl (o_assign rfl) ?_
      refine WPl.nil ?_
      refine EX.then ?_
      refine WP.ret ?_
      refine EX.ret_then ?_
      have hE : f.leastE g = 130 := by simp [Fnd.leastE, hf]
      rw [hE, show f.leastV g = 0 from by simp [Fnd.leastV, hE]]
      exact EX.fin id (.inl rfl) rfl (.tmp rfl (.tmp rfl .nil)) rfl (by simp [SV.res, El.res, At.res, keys]) trivial (by simp) (by simp)
    · try simp only [decide_eq_true_eq, decide_eq_false_iff_not, Bool.and_eq_true, Bool.or_eq_true, Bool.and_eq_false_iff, Bool.or_eq_false_iff, Bool.not_eq_true', Bool.not_eq_false', ne_eq, Decidable.not_not] at hc1
      simp at hc1
theorem w43 {f : Fnd} : ∀ x ∈ ([.e (.g [ai (f.shop.pounds), ai (f.shop.tl), ai (f.shop.th), ai (f.shop.al), ai (f.shop.ah), ai (f.shop.room), ai (f.shop.tpl), ai (f.shop.tph), ai (f.shop.apl), ai (f.shop.aph), .q 0, .q 1])] : List SV), x.res (keys (α := Pred) [(0, PL EPig (f.shop.pigs)), (1, PL ENight (f.nights))]) := by simp [SV.res, El.res, At.res, keys]
theorem r43 {f : Fnd} : SV.res (keys (α := Pred) []) (.t [.a (ai (f.leastV costG)), .a (ai (f.leastE costG))]) := by simp [SV.res, El.res, At.res, keys]
set_option maxHeartbeats 4000000 in
theorem c43 (f : Fnd) (hl : f.shop.pigs.length ≤ 40) : Sig Try.prog 43 [.e (.g [ai (f.shop.pounds), ai (f.shop.tl), ai (f.shop.th), ai (f.shop.al), ai (f.shop.ah), ai (f.shop.room), ai (f.shop.tpl), ai (f.shop.tph), ai (f.shop.apl), ai (f.shop.aph), .q 0, .q 1])] [(0, PL EPig (f.shop.pigs)), (1, PL ENight (f.nights))] (.t [.a (ai (f.leastV costG)), .a (ai (f.leastE costG))]) [] := by
  refine Sig.intro Try.func43 rfl 2 [(0, .e (.g [ai (f.shop.pounds), ai (f.shop.tl), ai (f.shop.th), ai (f.shop.al), ai (f.shop.ah), ai (f.shop.room), ai (f.shop.tpl), ai (f.shop.tph), ai (f.shop.apl), ai (f.shop.aph), .q 0, .q 1]))] rfl w43 rfl rfl fun I w => ?_
  refine WP.seq ?_
  refine WP.region ?_
  refine WPl.l 2 3 rfl rfl rfl (o_boxg rfl) ?_
  refine WPl.v rfl (o_assign rfl) ?_
  refine WPl.v rfl (o_assign rfl) ?_
  refine WPl.nil ?_
  refine EX.then ?_
  refine WP.seq ?_
  refine WP.region ?_
  refine WPl.v rfl (o_ldpa G31 rfl rfl rfl) ?_
  refine WPl.imp (Imp.nam 3 4 (.func (.func 102) #[] #[]) (R := (OfP costG).and (Pred.is (.func (.func 102) #[] #[]))) (fun I => FvP.namea (fun (x : Int × BL) => (c102 x.1 x.2.1)) e102 (fun _ => (by simp [SV.res, El.res, At.res, keys])) I) rfl rfl) ?_
  refine WPl.cs 4 rfl rfl rfl rfl (o_sigc 4 (ren [(0, 0), (1, 1), (2, 3)]) (c101 f costG hl costG_b) e101 rfl rfl ⟨.inl rfl, .inr ⟨_, _, rfl, fun _ => rfl, (lxr rfl)⟩, trivial⟩ w101 ⟨(lx rfl), (lx rfl), (lxl rfl), trivial⟩ r101) ?_
  refine WPl.v rfl (o_extract rfl rfl) ?_
  refine WPl.v rfl (o_extract rfl rfl) ?_
  refine WPl.v rfl (o_assign rfl) ?_
  refine WPl.v rfl (o_assign rfl) ?_
  refine WPl.nil ?_
  refine EX.then ?_
  refine WP.ret ?_
  exact EX.fin id (.inl rfl) rfl (.tmp rfl (.tmp rfl .nil)) rfl r43 trivial (by simp) (by simp)
theorem w47 {f : Fnd} : ∀ x ∈ ([.e (.g [ai (f.shop.pounds), ai (f.shop.tl), ai (f.shop.th), ai (f.shop.al), ai (f.shop.ah), ai (f.shop.room), ai (f.shop.tpl), ai (f.shop.tph), ai (f.shop.apl), ai (f.shop.aph), .q 0, .q 1])] : List SV), x.res (keys (α := Pred) [(0, PL EPig (f.shop.pigs)), (1, PL ENight (f.nights))]) := by simp [SV.res, El.res, At.res, keys]
theorem r47 {f : Fnd} : SV.res (keys (α := Pred) []) (.t [.a (ai (f.leastV onceG)), .a (ai (f.leastE onceG))]) := by simp [SV.res, El.res, At.res, keys]
set_option maxHeartbeats 4000000 in
theorem c47 (f : Fnd) (hl : f.shop.pigs.length ≤ 40) : Sig Try.prog 47 [.e (.g [ai (f.shop.pounds), ai (f.shop.tl), ai (f.shop.th), ai (f.shop.al), ai (f.shop.ah), ai (f.shop.room), ai (f.shop.tpl), ai (f.shop.tph), ai (f.shop.apl), ai (f.shop.aph), .q 0, .q 1])] [(0, PL EPig (f.shop.pigs)), (1, PL ENight (f.nights))] (.t [.a (ai (f.leastV onceG)), .a (ai (f.leastE onceG))]) [] := by
  refine Sig.intro Try.func47 rfl 2 [(0, .e (.g [ai (f.shop.pounds), ai (f.shop.tl), ai (f.shop.th), ai (f.shop.al), ai (f.shop.ah), ai (f.shop.room), ai (f.shop.tpl), ai (f.shop.tph), ai (f.shop.apl), ai (f.shop.aph), .q 0, .q 1]))] rfl w47 rfl rfl fun I w => ?_
  refine WP.seq ?_
  refine WP.region ?_
  refine WPl.l 2 3 rfl rfl rfl (o_boxg rfl) ?_
  refine WPl.v rfl (o_assign rfl) ?_
  refine WPl.v rfl (o_assign rfl) ?_
  refine WPl.nil ?_
  refine EX.then ?_
  refine WP.seq ?_
  refine WP.region ?_
  refine WPl.v rfl (o_ldpa G31 rfl rfl rfl) ?_
  refine WPl.imp (Imp.nam 3 4 (.func (.func 105) #[] #[]) (R := (OfP onceG).and (Pred.is (.func (.func 105) #[] #[]))) (fun I => FvP.namea (fun (x : Int × BL) => (c105 x.1 x.2.1 (Nat.le_trans x.2.2 (by decide)))) e105 (fun _ => (by simp [SV.res, El.res, At.res, keys])) I) rfl rfl) ?_
  refine WPl.cs 4 rfl rfl rfl rfl (o_sigc 4 (ren [(0, 0), (1, 1), (2, 3)]) (c101 f onceG hl onceG_b) e101 rfl rfl ⟨.inl rfl, .inr ⟨_, _, rfl, fun _ => rfl, (lxr rfl)⟩, trivial⟩ w101 ⟨(lx rfl), (lx rfl), (lxl rfl), trivial⟩ r101) ?_
  refine WPl.v rfl (o_extract rfl rfl) ?_
  refine WPl.v rfl (o_extract rfl rfl) ?_
  refine WPl.v rfl (o_assign rfl) ?_
  refine WPl.v rfl (o_assign rfl) ?_
  refine WPl.nil ?_
  refine EX.then ?_
  refine WP.ret ?_
  exact EX.fin id (.inl rfl) rfl (.tmp rfl (.tmp rfl .nil)) rfl r47 trivial (by simp) (by simp)
theorem w45 {f : Fnd} : ∀ x ∈ ([.e (.g [ai (f.shop.pounds), ai (f.shop.tl), ai (f.shop.th), ai (f.shop.al), ai (f.shop.ah), ai (f.shop.room), ai (f.shop.tpl), ai (f.shop.tph), ai (f.shop.apl), ai (f.shop.aph), .q 0, .q 1])] : List SV), x.res (keys (α := Pred) [(0, PL EPig (f.shop.pigs)), (1, PL ENight (f.nights))]) := by simp [SV.res, El.res, At.res, keys]
theorem r45 {f : Fnd} : SV.res (keys (α := Pred) [(0, PL (EP.sl EP.int) (f.wPlanV))]) (.t [.a (.q 0), .a (ai (f.leastE costG))]) := by simp [SV.res, El.res, At.res, keys]
set_option maxHeartbeats 4000000 in
theorem c45 (f : Fnd) (hl : f.shop.pigs.length ≤ 40) : Sig Try.prog 45 [.e (.g [ai (f.shop.pounds), ai (f.shop.tl), ai (f.shop.th), ai (f.shop.al), ai (f.shop.ah), ai (f.shop.room), ai (f.shop.tpl), ai (f.shop.tph), ai (f.shop.apl), ai (f.shop.aph), .q 0, .q 1])] [(0, PL EPig (f.shop.pigs)), (1, PL ENight (f.nights))] (.t [.a (.q 0), .a (ai (f.leastE costG))]) [(0, PL (EP.sl EP.int) (f.wPlanV))] := by
  have hgb := costG_b
  rcases Bool.eq_false_or_eq_true f.chk with hf | hf
  · skip
    refine Sig.intro Try.func45 rfl 2 [(0, .e (.g [ai (f.shop.pounds), ai (f.shop.tl), ai (f.shop.th), ai (f.shop.al), ai (f.shop.ah), ai (f.shop.room), ai (f.shop.tpl), ai (f.shop.tph), ai (f.shop.apl), ai (f.shop.aph), .q 0, .q 1]))] rfl w45 rfl rfl fun I w => ?_
    refine WP.seq ?_
    refine WP.region ?_
    refine WPl.l 2 3 rfl rfl rfl (o_boxg rfl) ?_
    refine WPl.v rfl (o_assign rfl) ?_
    refine WPl.v rfl (o_assign rfl) ?_
    refine WPl.nil ?_
    refine EX.then ?_
    refine WP.seq ?_
    refine WP.region ?_
    refine WPl.v rfl (o_ldpa G31 rfl rfl rfl) ?_
    refine WPl.cM 5 (o_sigm (J := [0]) 3 4 (ren [(0, 0), (1, 1)]) (c76N f hf) e76 rfl rfl SvsOK.rf w76N ⟨(lx rfl), (lx rfl), trivial⟩ (fun _ => rfl) (by simp [SV.res, El.res, At.res, keys]) rfl) rfl rfl rfl fun b13 => ?_
    refine WPl.v rfl (o_move rfl) ?_
    refine WPl.v rfl (o_extract rfl rfl) ?_
    refine WPl.v rfl (o_extract rfl rfl) ?_
    refine WPl.v rfl (o_assign rfl) ?_
    refine WPl.v rfl (o_assign rfl) ?_
    refine WPl.nil ?_
    refine EX.then ?_
    refine WP.seq ?_
    refine WP.seq ?_
    refine WP.region ?_
    refine WPl.v rfl (o_move rfl) ?_
    refine WPl.v rfl (o_neq rfl rfl) ?_
    refine WPl.nil ?_
    refine EX.then ?_
    refine WP.cond rfl (fun hc1 => ?_) (fun hc1 => ?_)
    · try simp only [decide_eq_true_eq, decide_eq_false_iff_not, Bool.and_eq_true, Bool.or_eq_true, Bool.and_eq_false_iff, Bool.or_eq_false_iff, Bool.not_eq_true', Bool.not_eq_false', ne_eq, Decidable.not_not] at hc1
      simp at hc1
    · try simp only [decide_eq_true_eq, decide_eq_false_iff_not, Bool.and_eq_true, Bool.or_eq_true, Bool.and_eq_false_iff, Bool.or_eq_false_iff, Bool.not_eq_true', Bool.not_eq_false', ne_eq, Decidable.not_not] at hc1
      have hcb := Fnd.chkB hf
      have hpg := Shop.pigsOK (Fnd.shopOK hf)
      refine WP.skip ?_
      refine EX.then ?_
      refine WP.seq ?_
      refine WP.region ?_
      refine WPl.v rfl (o_move rfl) ?_
      refine WPl.cs 5 rfl rfl rfl rfl (o_sig 5 (ren [(0, 3)]) (c88 f (some b13) (by omega)) e88 rfl rfl rfl w88 ⟨(lx rfl), trivial⟩ r88) ?_
      refine WPl.v rfl (o_move rfl) ?_
      refine WPl.v rfl (o_extract rfl rfl) ?_
      refine WPl.v rfl (o_extract rfl rfl) ?_
      refine WPl.l 5 6 rfl rfl rfl (o_alloc Z105) ?_
      refine WPl.l 6 7 rfl rfl rfl (o_alloc Z110) ?_
      refine WPl.s1 (o_stag G105 rfl rfl rfl ⟨rfl, rfl, rfl, rfl, rfl, rfl, rfl, trivial⟩ rfl rfl) ?_
      refine WPl.s1 (o_stag G110 rfl rfl rfl ⟨rfl, rfl, rfl, rfl, trivial⟩ rfl rfl) ?_
      refine WPl.nil ?_
      refine EX.then ?_
      refine WP.seq ?_
      refine WP.region ?_
      refine WPl.v rfl (o_move rfl) ?_
      refine WPl.v rfl (o_ldpa G105 rfl rfl rfl) ?_
      refine WPl.v rfl (o_ldpa G110 rfl rfl rfl) ?_
      refine WPl.imp (Imp.nam 7 8 (.func (.func 102) #[] #[]) (R := (OfP costG).and (Pred.is (.func (.func 102) #[] #[]))) (fun I => FvP.namea (fun (x : Int × BL) => (c102 x.1 x.2.1)) e102 (fun _ => (by simp [SV.res, El.res, At.res, keys])) I) rfl rfl) ?_
      refine WPl.cs 9 rfl rfl rfl rfl (o_sigc 8 (ren [(0, 3), (1, 7)]) (c103 f (some b13) costG f.nights.length 0 f.pt0 (left0 f.shop.pigs) hf hgb (by omega) (by omega) (PtB.mono (pt0_bnd hf) (by omega)) (left0_b hpg)) e103 rfl rfl ⟨.inl rfl, .inl rfl, .inl rfl, .inl rfl, .inr ⟨_, _, rfl, fun _ => rfl, (lxr rfl)⟩, trivial⟩ w103 ⟨(lx rfl), (lxl rfl), trivial⟩ r103) ?_
      refine WPl.v rfl (o_move rfl) ?_
      refine WPl.v rfl (o_extract rfl rfl) ?_
      refine WPl.v rfl (o_extract rfl rfl) ?_
      refine WPl.v rfl (o_extract rfl rfl) ?_
      refine WPl.v rfl (o_assign rfl) ?_
      refine WPl.v rfl (o_assign rfl) ?_
      refine WPl.v rfl (o_assign rfl) ?_
      refine WPl.nil ?_
      refine EX.then ?_
      refine WP.seq ?_
      refine WP.seq ?_
      refine WP.region ?_
      refine WPl.v rfl (o_move rfl) ?_
      refine WPl.v rfl (o_not rfl) ?_
      refine WPl.nil ?_
      refine EX.then ?_
      refine WP.cond rfl (fun hc2 => ?_) (fun hc2 => ?_)
      · try simp only [decide_eq_true_eq, decide_eq_false_iff_not, Bool.and_eq_true, Bool.or_eq_true, Bool.and_eq_false_iff, Bool.or_eq_false_iff, Bool.not_eq_true', Bool.not_eq_false', ne_eq, Decidable.not_not] at hc2
        have hno : (f.bestF costG).2.2 = false := by unfold Fnd.bestF; simpa using hc2
        refine WP.seq ?_
        refine WP.region ?_
        refine WPl.v rfl (o_assign rfl) ?_
        refine WPl.v rfl (o_assign rfl) ?_
        refine WPl.nil ?_
        refine EX.then ?_
        refine WP.ret ?_
        refine EX.ret_then ?_
        refine EX.imp (Imp.nam 9 10 (.slice none 0 0) (R := PN (EP.sl EP.int)) pn_ok rfl rfl) ?_
        refine EX.imp (Imp.swF 2 9 rfl (lxr rfl)) ?_
        have hE : f.leastE costG = 3 := by simp [Fnd.leastE, hf, hno]
        rw [hE, show f.wPlanV = [] from by simp [Fnd.wPlanV, hE]]
        exact EX.fin (ren [(0, 9)]) (.inl rfl) rfl (.tmp rfl (.tmp rfl .nil)) rfl (by simp [SV.res, El.res, At.res, keys]) ⟨lxl rfl, trivial⟩ (by simp) (by simp)
      · try simp only [decide_eq_true_eq, decide_eq_false_iff_not, Bool.and_eq_true, Bool.or_eq_true, Bool.and_eq_false_iff, Bool.or_eq_false_iff, Bool.not_eq_true', Bool.not_eq_false', ne_eq, Decidable.not_not] at hc2
        have hyes : (f.bestF costG).2.2 = true := by unfold Fnd.bestF; simpa using hc2
        refine WP.skip ?_
        refine EX.then ?_
        refine WP.seq ?_
        refine WP.region ?_
        refine WPl.v rfl (o_move rfl) ?_
        refine WPl.v rfl (o_assign rfl) ?_
        refine WPl.v rfl (o_assign rfl) ?_
        refine WPl.nil ?_
        refine EX.then ?_
        refine WP.ret ?_
        have hE : f.leastE costG = 0 := by simp [Fnd.leastE, hf, hyes]
        rw [hE, show f.wPlanV = (f.bestF costG).2.1 from by simp [Fnd.wPlanV, hE]]
        exact EX.fin (ren [(0, 8)]) (.inl rfl) rfl (.tmp rfl (.tmp rfl .nil)) rfl (by simp [SV.res, El.res, At.res, keys]) ⟨(lx rfl), trivial⟩ (by simp) (by simp)
  · skip
    refine Sig.intro Try.func45 rfl 2 [(0, .e (.g [ai (f.shop.pounds), ai (f.shop.tl), ai (f.shop.th), ai (f.shop.al), ai (f.shop.ah), ai (f.shop.room), ai (f.shop.tpl), ai (f.shop.tph), ai (f.shop.apl), ai (f.shop.aph), .q 0, .q 1]))] rfl w45 rfl rfl fun I w => ?_
    refine WP.seq ?_
    refine WP.region ?_
    refine WPl.l 2 3 rfl rfl rfl (o_boxg rfl) ?_
    refine WPl.v rfl (o_assign rfl) ?_
    refine WPl.v rfl (o_assign rfl) ?_
    refine WPl.nil ?_
    refine EX.then ?_
    refine WP.seq ?_
    refine WP.region ?_
    refine WPl.v rfl (o_ldpa G31 rfl rfl rfl) ?_
    refine WPl.cs 3 rfl rfl rfl rfl (o_sig 3 (ren [(0, 0), (1, 1)]) (c76NE f hf hl) e76 rfl rfl rfl w76NE ⟨(lx rfl), (lx rfl), trivial⟩ r76NE) ?_
    refine WPl.v rfl (o_move rfl) ?_
    refine WPl.v rfl (o_extract rfl rfl) ?_
    refine WPl.v rfl (o_extract rfl rfl) ?_
    refine WPl.v rfl (o_assign rfl) ?_
    refine WPl.v rfl (o_assign rfl) ?_
    refine WPl.nil ?_
    refine EX.then ?_
    refine WP.seq ?_
    refine WP.seq ?_
    refine WP.region ?_
    refine WPl.v rfl (o_move rfl) ?_
    refine WPl.v rfl (o_neq rfl rfl) ?_
    refine WPl.nil ?_
    refine EX.then ?_
    refine WP.cond rfl (fun hc1 => ?_) (fun hc1 => ?_)
    · try simp only [decide_eq_true_eq, decide_eq_false_iff_not, Bool.and_eq_true, Bool.or_eq_true, Bool.and_eq_false_iff, Bool.or_eq_false_iff, Bool.not_eq_true', Bool.not_eq_false', ne_eq, Decidable.not_not] at hc1
      refine WP.seq ?_
      refine WP.region ?_
      refine WPl.v rfl (o_move rfl) ?_
      refine WPl.v rfl (o_assign rfl) ?_
      refine WPl.v rfl (o_assign rfl) ?_
      refine WPl.nil ?_
      refine EX.then ?_
      refine WP.ret ?_
      refine EX.ret_then ?_
      refine EX.imp (Imp.nam 3 4 (.slice none 0 0) (R := PN (EP.sl EP.int)) pn_ok rfl rfl) ?_
      refine EX.imp (Imp.swF 2 3 rfl (lxr rfl)) ?_
      have hE : f.leastE costG = 130 := by simp [Fnd.leastE, hf]
      rw [hE, show f.wPlanV = [] from by simp [Fnd.wPlanV, hE]]
      exact EX.fin (ren [(0, 3)]) (.inl rfl) rfl (.tmp rfl (.tmp rfl .nil)) rfl (by simp [SV.res, El.res, At.res, keys]) ⟨lxl rfl, trivial⟩ (by simp) (by simp)
    · try simp only [decide_eq_true_eq, decide_eq_false_iff_not, Bool.and_eq_true, Bool.or_eq_true, Bool.and_eq_false_iff, Bool.or_eq_false_iff, Bool.not_eq_true', Bool.not_eq_false', ne_eq, Decidable.not_not] at hc1
      simp at hc1
end Go.Flong
