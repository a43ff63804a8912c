/- Walks (printed by gen.py off the specs). -/
import Derived.Test.YtglbnodjcngefaaHP4
import Derived.Test.YtglbnodjcngefaaBase5
import Derived.Test.YtglbnodjcngefaaProg
set_option linter.unusedSimpArgs false
set_option linter.unusedVariables false
namespace Go.Flong
open Go Go.Eng Go.Proofs
theorem e162 : Enters' Try.prog 162 := Try.call162
theorem w162 {f : Fnd} {r : Option Nat} {p : Pt} {left : List Int} : ∀ x ∈ ([.e (.a (.q 0)), .e (.a (.q 1)), .e (.a (.q 2))] : List SV), x.res (keys (α := Pred) [(0, PP (EP.box (PP (EWk r) (f))) ()), (1, PP EPt (p)), (2, PP (EArr 4) (left))]) := by simp [SV.res, El.res, At.res, keys]
set_option maxHeartbeats 4000000 in
theorem c162 (f : Fnd) (r : Option Nat) (p : Pt) (left : List Int) (m : Int) (hf : f.chk = true) (hp : PtB p m) (hm : m ≤ 10000000) (hl : bnd4 left) : SigI Try.prog 162 [.e (.a (.q 0)), .e (.a (.q 1)), .e (.a (.q 2))] [(0, PP (EP.box (PP (EWk r) (f))) ()), (1, PP EPt (p)), (2, PP (EArr 4) (left))] (f.chItems p left) := by
  have hpg := Shop.pigsOK (Fnd.shopOK hf)
  have hp4 := hpg.2
  have h0b := chBox_pos hl hp4
  have hN0 : 0 < (f.chBox left).length := (List.getElem?_eq_some_iff.1 h0b).1
  refine SigI.intro Try.func162 rfl 4 3 w162 rfl rfl rfl fun I w l Y K F0 hround => ?_
  have hF : ∀ c, F0 c → F0 c := fun _ h => h
  refine WP.seq ?_
  refine WP.region ?_
  refine WPl.x 4 5 rfl rfl rfl (o_ldqx S95 rfl (lx rfl) boxx) ?_
  refine WPl.v rfl (o_nilq rfl (lx rfl)) ?_
  refine WPl.v rfl (o_fldq F100_0 rfl (lx rfl)) ?_
  refine WPl.v rfl (o_flde F31_0 rfl (lx rfl)) ?_
  refine WPl.v rfl (o_flde F28_4 rfl (lx rfl)) ?_
  refine WPl.x 5 6 rfl rfl rfl (o_ldex S26 rfl (lx rfl) (strS rfl)) ?_
  refine WPl.v rfl (o_lenq L26 rfl (lx rfl)) ?_
  refine WPl.u1 (k := 6) (m := 7) rfl rfl rfl (OpG.newer0 (o_make (z := 0) (E := EP.int) f.shop.pigs.length R44 (fun _ => rfl) rfl rfl (by first | omega | (simp; omega)) (by first | omega | (simp; omega)))) ?_
  refine WPl.v rfl (o_assign rfl) ?_
  refine WPl.nil ?_
  refine EX.then ?_
  refine WP.block ?_
  refine WP.loop (Gh := Nat × (Nat → Prop)) (fun (⟨i, F⟩ : Nat × (Nat → Prop)) => ⟨7, [(0, .e (.a (.v (yv l)))), (1, .e (.a (.q 0))), (2, .e (.a (.q 1))), (3, .e (.a (.q 2))), (5, .e (.a (.q 6)))], [(0, PP (EP.box (PP (EWk r) (f))) ()), (1, PP EPt (p)), (2, PP (EArr 4) (left)), (6, Pred.newer _)], [(3, .ext ((Y (f.chIdx p left i)).xp F)), (6, .own 3 EP.int.size ((nth (f.chBox left) (i : Int))).length (RP EP.int ((nth (f.chBox left) (i : Int)))))], [], []⟩) (fun (⟨i, F⟩ : Nat × (Nat → Prop)) => i < (f.chBox left).length ∧ ∀ c, F0 c → F c) (fun (⟨i, F⟩ : Nat × (Nat → Prop)) => (f.chBox left).length - i) ((0, F0)) id ?_ (LeR.of ⟨rfl, rfl, rfl, rfl, rfl, trivial⟩ ⟨(lx rfl), (lx rfl), (lx rfl), (lx rfl), trivial⟩ ⟨(congrArg (fun z => some (Ent.ext ((Y z).xp F0))) (show 0 = f.chIdx p left 0 from rfl)), (congrArg (fun z => some (Ent.own 3 EP.int.size (List.length z) (RP EP.int z))) (show (List.replicate f.shop.pigs.length 0) = ((fun (⟨i, F⟩ : Nat × (Nat → Prop)) => (nth (f.chBox left) (i : Int))) (0, F0)) from by dsimp only; rw [nthN hN0]; exact (List.getElem?_eq_some_iff.1 h0b).2.symm)), trivial⟩ rfl rfl rfl rfl rfl) ?_
  · exact ⟨hN0, fun _ h => h⟩
  rintro ⟨i, F⟩ hφ
  obtain ⟨hiN, hF⟩ : i < (f.chBox left).length ∧ ∀ c, F0 c → F c := hφ
  obtain ⟨hrl, hrb, hrm⟩ := chBox_row hl hp4 hiN
  refine WP.block ?_
  refine WP.seq ?_
  refine WP.seq ?_
  refine WP.region ?_
  refine WPl.x 7 8 rfl rfl rfl (o_ldqx S95 rfl (lx rfl) boxx) ?_
  refine WPl.v rfl (o_ldqg G105 rfl (lx rfl) (strG rfl) rfl rfl) ?_
  refine WPl.v rfl (o_move rfl) ?_
  have hnb : PtB (p.addL f.shop.pigs (nth (f.chBox left) (i : Int))) (m + 400000) := addTo_bnd hp hpg (by rw [hrl]; exact Nat.le_refl _) (bnd_mono hrb (by omega)) (Nat.le_refl _)
  refine WPl.cs 8 rfl rfl rfl rfl (o_sigbc 8 (ren [(0, 7), (1, 6)]) (Sig.free (c129 f r p (nth (f.chBox left) (i : Int)) m hp (by omega) hpg (by rw [hrl]; exact Nat.le_refl _) (bnd_mono hrb (by omega)))) e129 rfl rfl SvsOK.rf w129 ⟨.x (lx rfl), .own rfl rfl, trivial⟩ r129) ?_
  refine WPl.l 8 9 rfl rfl rfl (o_alloc Z105) ?_
  refine WPl.s1 (o_stag G105 rfl rfl rfl ⟨rfl, rfl, rfl, rfl, rfl, rfl, rfl, trivial⟩ rfl rfl) ?_
  refine WPl.nil ?_
  refine EX.then ?_
  refine WP.seq ?_
  refine WP.region ?_
  refine WPl.x 9 10 rfl rfl rfl (o_ldqx S95 rfl (lx rfl) boxx) ?_
  refine WPl.v rfl (o_ldpa G105 rfl rfl rfl) ?_
  refine WPl.cs 10 rfl rfl rfl rfl (o_sig 10 (ren [(0, 9)]) (c127 f r (p.addL f.shop.pigs (nth (f.chBox left) (i : Int))) (m + 400000) hnb (by omega)) e127 rfl rfl rfl w127 ⟨(lx rfl), trivial⟩ r127) ?_
  refine WPl.v rfl (o_move rfl) ?_
  refine WPl.bit 10 11 (f.fitsP (p.addL f.shop.pigs (nth (f.chBox left) (i : Int)))) rfl rfl ?_
  refine WPl.gx 10 11 12 rfl rfl rfl rfl (.plain rfl Iff.rfl rfl) (fun hb => o_ldqx S95 rfl (lx rfl) boxx) ?_
  refine WPl.gv 10 rfl rfl (.plain rfl Iff.rfl rfl) (fun hb => o_ldpa G105 rfl rfl rfl) ?_
  refine WPl.gc0 10 rfl rfl (.plain rfl Iff.rfl rfl) (fun hb => o_sig 12 (ren [(0, 11)]) (c135 f r (p.addL f.shop.pigs (nth (f.chBox left) (i : Int))) (m + 400000) hnb (by omega) (Fnd.shopOK hf)) e135 rfl rfl rfl w135 ⟨(lxi hb rfl), trivial⟩ r135) ?_
  refine WPl.v rfl (o_and rfl rfl rfl id) ?_
  refine WPl.v rfl (o_move rfl) ?_
  rcases Bool.eq_false_or_eq_true ((f.fitsP (p.addL f.shop.pigs (nth (f.chBox left) (i : Int)))) && (f.sureP (p.addL f.shop.pigs (nth (f.chBox left) (i : Int))))) with hs28 | hs28
  · refine WPl.imp (Imp.bitF 28 (b' := true) rfl hs28) ?_
    refine WPl.on rfl ⟨_, _, rfl, rfl, rfl⟩ (o_move rfl) ?_
    refine WPl.on rfl ⟨_, _, rfl, rfl, rfl⟩ (o_move rfl) ?_
    refine WPl.on rfl ⟨_, _, rfl, rfl, rfl⟩ (o_ldpa G105 rfl rfl rfl) ?_
    refine WPl.yield (Y' := Y (f.chIdx p left i + 1)) (K' := K) 3 rfl rfl ⟨_, _, rfl, rfl, rfl⟩ rfl rfl rfl (yieldH (ky := 3) (J := [0]) (it := ⟨[.e (.a (.q 0)), .e (.g [ai ((p.addL f.shop.pigs (nth (f.chBox left) (i : Int))).pounds), ai ((p.addL f.shop.pigs (nth (f.chBox left) (i : Int))).tl), ai ((p.addL f.shop.pigs (nth (f.chBox left) (i : Int))).th), ai ((p.addL f.shop.pigs (nth (f.chBox left) (i : Int))).al), ai ((p.addL f.shop.pigs (nth (f.chBox left) (i : Int))).ah), ai ((p.addL f.shop.pigs (nth (f.chBox left) (i : Int))).dl), ai ((p.addL f.shop.pigs (nth (f.chBox left) (i : Int))).dh)])], [], [(0, PL EP.int ((nth (f.chBox left) (i : Int))))]⟩) (ren [(0, 6)]) (hround (f.chIdx p left i) _ (chIdx_at hiN hs28)) rfl (hF) SvsOK.rf (by simp [SV.res, El.res, At.res, keys]) trivial ⟨.own rfl rfl (fun _ _ _ _ h => h), trivial⟩) fun by32 F1 hF1 => ?_
    have hF : ∀ c, F0 c → F1 c := fun c hc => hF1 c (hF c hc)
    cases by32
    · skip
      refine WPl.on rfl ⟨_, _, rfl, rfl, rfl⟩ (o_not rfl) ?_
      refine WPl.v rfl (o_pickT rfl rfl) ?_
      refine WPl.nil ?_
      refine EX.then ?_
      refine WP.cond rfl (fun _ => ?_) (fun h => by cases h)
      refine WP.ret ?_
      refine EX.ret_then ?_
      refine EX.ret_blk ?_
      refine EX.ret_then ?_
      refine EX.ret_blk ?_
      exact EX.finI (.inl rfl) rfl rfl (ky := 3) (Y := K) rfl (fun _ _ h => .inr h)
    · skip
      refine WPl.on rfl ⟨_, _, rfl, rfl, rfl⟩ (o_not rfl) ?_
      refine WPl.v rfl (o_pickT rfl rfl) ?_
      refine WPl.nil ?_
      refine EX.then ?_
      refine WP.cond rfl (fun h => by cases h) (fun _ => ?_)
      refine WP.skip ?_
      refine EX.then ?_
      refine WP.seq ?_
      refine WP.region ?_
      refine WPl.v rfl (o_move rfl) ?_
      refine WPl.v rfl (o_leno L44 rfl rfl) ?_
      refine WPl.v rfl (o_sub rfl rfl (by first | omega | (simp; omega)) (by first | omega | (simp; omega))) ?_
      refine WPl.v rfl (o_assign rfl) ?_
      refine WPl.nil ?_
      refine EX.then ?_
      refine WP.seq ?_
      refine WP.block ?_
      refine WP.loop (Gh := Nat) (fun j => ⟨12, [(0, .e (.a (.v (yv l)))), (1, .e (.a (.q 0))), (2, .e (.a (.q 1))), (3, .e (.a (.q 2))), (5, .e (.a (.q 6))), (16, .e (.a (.q 7))), (17, .e (.g [ai (p.pounds), ai (p.tl), ai (p.th), ai (p.al), ai (p.ah), ai (p.dl), ai (p.dh)])), (18, .e (.a (.q 6))), (19, .e (.g [ai ((p.addL f.shop.pigs (nth (f.chBox left) (i : Int))).pounds), ai ((p.addL f.shop.pigs (nth (f.chBox left) (i : Int))).tl), ai ((p.addL f.shop.pigs (nth (f.chBox left) (i : Int))).th), ai ((p.addL f.shop.pigs (nth (f.chBox left) (i : Int))).al), ai ((p.addL f.shop.pigs (nth (f.chBox left) (i : Int))).ah), ai ((p.addL f.shop.pigs (nth (f.chBox left) (i : Int))).dl), ai ((p.addL f.shop.pigs (nth (f.chBox left) (i : Int))).dh)])), (6, .e (.a (.p 8 (0)))), (20, .e (.a (.q 9))), (21, .e (.g [ai ((p.addL f.shop.pigs (nth (f.chBox left) (i : Int))).pounds), ai ((p.addL f.shop.pigs (nth (f.chBox left) (i : Int))).tl), ai ((p.addL f.shop.pigs (nth (f.chBox left) (i : Int))).th), ai ((p.addL f.shop.pigs (nth (f.chBox left) (i : Int))).al), ai ((p.addL f.shop.pigs (nth (f.chBox left) (i : Int))).ah), ai ((p.addL f.shop.pigs (nth (f.chBox left) (i : Int))).dl), ai ((p.addL f.shop.pigs (nth (f.chBox left) (i : Int))).dh)])), (22, .b (f.fitsP (p.addL f.shop.pigs (nth (f.chBox left) (i : Int))))), (23, .b (f.fitsP (p.addL f.shop.pigs (nth (f.chBox left) (i : Int))))), (27, .b ((f.fitsP (p.addL f.shop.pigs (nth (f.chBox left) (i : Int)))) && (f.sureP (p.addL f.shop.pigs (nth (f.chBox left) (i : Int)))))), (28, .b (true)), (29, .e (.a (.v (yv l)))), (30, .e (.a (.q 6))), (31, .e (.g [ai ((p.addL f.shop.pigs (nth (f.chBox left) (i : Int))).pounds), ai ((p.addL f.shop.pigs (nth (f.chBox left) (i : Int))).tl), ai ((p.addL f.shop.pigs (nth (f.chBox left) (i : Int))).th), ai ((p.addL f.shop.pigs (nth (f.chBox left) (i : Int))).al), ai ((p.addL f.shop.pigs (nth (f.chBox left) (i : Int))).ah), ai ((p.addL f.shop.pigs (nth (f.chBox left) (i : Int))).dl), ai ((p.addL f.shop.pigs (nth (f.chBox left) (i : Int))).dh)])), (32, .b (true)), (33, .b (false)), (34, .b (false)), (35, .e (.a (.q 6))), (36, .i (((nth (f.chBox left) (i : Int)).length : Int))), (37, .i (((nth (f.chBox left) (i : Int)).length : Int) - 1)), (7, .i ((f.shop.pigs.length : Int) - 1 - (j : Int)))], [(0, PP (EP.box (PP (EWk r) (f))) ()), (1, PP EPt (p)), (2, PP (EArr 4) (left)), (6, Pred.newer _), (7, PP (EWk r) (f)), (9, PP (EWk r) (f))], [(3, .ext ((Y (f.chIdx p left i + 1)).xp F1)), (6, .own 3 EP.int.size (zr (nth (f.chBox left) (i : Int)) j).length (RP EP.int (zr (nth (f.chBox left) (i : Int)) j))), (8, .blk [ai ((p.addL f.shop.pigs (nth (f.chBox left) (i : Int))).pounds), ai ((p.addL f.shop.pigs (nth (f.chBox left) (i : Int))).tl), ai ((p.addL f.shop.pigs (nth (f.chBox left) (i : Int))).th), ai ((p.addL f.shop.pigs (nth (f.chBox left) (i : Int))).al), ai ((p.addL f.shop.pigs (nth (f.chBox left) (i : Int))).ah), ai ((p.addL f.shop.pigs (nth (f.chBox left) (i : Int))).dl), ai ((p.addL f.shop.pigs (nth (f.chBox left) (i : Int))).dh)] 105)], [], []⟩) (fun j => j ≤ f.shop.pigs.length ∧ ∀ a : Nat, f.shop.pigs.length - j ≤ a → a < f.shop.pigs.length → nth (nth (f.chBox left) (i : Int)) a = nth left a) (fun j => f.shop.pigs.length - j) (0) id ?_ (LeR.of ⟨rfl, rfl, rfl, rfl, rfl, rfl, rfl, rfl, rfl, rfl, rfl, rfl, rfl, rfl, rfl, rfl, rfl, rfl, rfl, rfl, rfl, rfl, rfl, rfl, rfl, (congrArg (fun z => some (SV.i z)) (show (((nth (f.chBox left) (i : Int)).length : Int) - 1) = ((fun j => (f.shop.pigs.length : Int) - 1 - (j : Int)) 0) from by rw [hrl]; simp)), trivial⟩ ⟨(lx rfl), (lx rfl), (lx rfl), (lx rfl), (lx rfl), (lx rfl), trivial⟩ ⟨rfl, (congrArg (fun z => some (Ent.own 3 EP.int.size (List.length z) (RP EP.int z))) (show ((nth (f.chBox left) (i : Int))) = ((fun j => zr (nth (f.chBox left) (i : Int)) j) 0) from by simp [zr])), rfl, trivial⟩ rfl rfl rfl rfl rfl) ?_
      · exact ⟨by omega, fun a h1 h2 => by omega⟩
      intro j hφ
      obtain ⟨hj1, hj2⟩ := hφ
      have hzl : (zr (nth (f.chBox left) (i : Int)) j).length = f.shop.pigs.length := by rw [zr_len (by omega)]; exact hrl
      have hzn : j < f.shop.pigs.length → nth (zr (nth (f.chBox left) (i : Int)) j) ((f.shop.pigs.length : Int) - 1 - (j : Int)) = nth (nth (f.chBox left) (i : Int)) ((f.shop.pigs.length : Int) - 1 - (j : Int)) := fun h => by rw [← hrl]; exact zr_nth (by omega)
      refine WP.seq ?_
      refine WP.seq ?_
      refine WP.imp (Imp.bit 12 13 (decide (0 ≤ ((f.shop.pigs.length : Int) - 1 - (j : Int)))) rfl rfl) ?_
      refine WP.draw (nf := 13) [⟨[], [], [], [], []⟩, ⟨[], [], [], [], [0]⟩, ⟨[], [], [], [], [0, 1]⟩, ⟨[42, 45, 46, 47], [], [], [], [0, 1, 2]⟩, ⟨[41, 45, 46, 47], [], [], [], [0, 1, 2]⟩, ⟨[45, 46, 47], [], [], [], [0, 1, 2, 3, 4]⟩, ⟨[45, 46, 47], [], [], [], [0, 1, 2, 3, 4, 5]⟩, ⟨[41, 42, 43, 44], [], [], [], [0, 1, 2]⟩, ⟨[41, 42, 43, 44], [], [], [], [0, 1, 2, 7]⟩, ⟨[41, 42, 43, 44], [], [], [], [0, 1, 2, 7, 8]⟩, ⟨[], [], [], [], [0, 1, 2, 3, 4, 5, 6, 7, 8, 9]⟩, ⟨[], [], [], [], [0, 1, 2, 3, 4, 5, 6, 7, 8, 9, 10]⟩] (by kernel_rfl) (by kernel_rfl) ?_
      refine DRQ.v rfl rfl rfl (o_move rfl) ?_
      refine DRQ.v rfl rfl rfl (o_geq rfl rfl) ?_
      refine DRQ.v rfl rfl rfl (o_move rfl) ?_
      refine DRQ.gv 12 rfl rfl (.plain rfl Iff.rfl rfl) rfl (fun hb => o_move rfl) ?_
      refine DRQ.gv 12 rfl rfl (.plain rfl Iff.rfl rfl) rfl (fun hb => o_move rfl) ?_
      refine DRQ.gv 12 rfl rfl (.plain rfl Iff.rfl rfl) rfl (fun hb => have hb2 := of_decide_eq_true hb; o_idxo L44 rfl rfl rfl (by first | omega | (simp; omega)) (by first | omega | (simp; omega))) ?_
      refine DRQ.gv 12 rfl rfl (.plain rfl Iff.rfl rfl) rfl (fun hb => have hb2 := of_decide_eq_true hb; o_ldoi S3 rfl rfl rfl rfl (by first | omega | (simp; omega)) (by first | omega | (simp; omega))) ?_
      refine DRQ.gv 12 rfl rfl (.plain rfl Iff.rfl rfl) rfl (fun hb => o_move rfl) ?_
      refine DRQ.gv 12 rfl rfl (.plain rfl Iff.rfl rfl) rfl (fun hb => have hb2 := of_decide_eq_true hb; o_idxq A110 rfl (lx rfl) rfl (by first | omega | (simp; omega)) (by first | omega | (simp; omega))) ?_
      refine DRQ.gv 12 rfl rfl (.plain rfl Iff.rfl rfl) rfl (fun hb => have hb2 := of_decide_eq_true hb; o_lde S3 rfl (lx rfl) (arr_get (by first | omega | (simp; omega)) (by first | omega | (simp; omega)))) ?_
      refine DRQ.gv 12 rfl rfl (.plain rfl Iff.rfl rfl) rfl (fun hb => o_eql rfl rfl) ?_
      refine DRQ.v rfl rfl rfl (o_and rfl rfl rfl id) ?_
      refine DRQ.nil' ?_
      refine EX.then ?_
      refine WP.cond rfl (fun hc2 => ?_) (fun hc2 => ?_)
      · try simp only [decide_eq_true_eq, decide_eq_false_iff_not, Bool.and_eq_true, Bool.or_eq_true, Bool.and_eq_false_iff, Bool.or_eq_false_iff, Bool.not_eq_true', Bool.not_eq_false', ne_eq, Decidable.not_not] at hc2
        obtain ⟨hge, heq⟩ := hc2
        refine WP.skip ?_
        refine EX.then ?_
        refine WP.seq ?_
        refine WP.block ?_
        refine WP.region ?_
        refine WPl.v rfl (o_move rfl) ?_
        refine WPl.v rfl (o_move rfl) ?_
        refine WPl.v rfl (o_idxo L44 rfl rfl rfl (by first | omega | (simp; omega)) (by first | omega | (simp; omega))) ?_
        refine WPl.s1 (o_steE2 Try.sizeOf3 rfl rfl rfl rfl eok_int rfl rfl rfl (by first | omega | (simp; omega)) (by first | omega | (simp; omega))) ?_
        refine WPl.nil ?_
        refine EX.blk ?_
        refine EX.then ?_
        refine WP.region ?_
        refine WPl.v rfl (o_move rfl) ?_
        refine WPl.v rfl (o_sub rfl rfl (by first | omega | (simp; omega)) (by first | omega | (simp; omega))) ?_
        refine WPl.v rfl (o_assign rfl) ?_
        refine WPl.nil ?_
        refine EX.again (j + 1) id (by exact ⟨by omega, fun a h1 h2 => by by_cases h3 : f.shop.pigs.length - j ≤ a; exact hj2 a h3 h2; have h4 : (a : Int) = (f.shop.pigs.length : Int) - 1 - (j : Int) := (by omega); rw [h4, ← hzn (by omega)]; exact heq⟩) (by omega) (LeR.of ⟨rfl, rfl, rfl, rfl, rfl, rfl, rfl, rfl, rfl, rfl, rfl, rfl, rfl, rfl, rfl, rfl, rfl, rfl, rfl, rfl, rfl, rfl, rfl, rfl, rfl, (congrArg (fun z => some (SV.i z)) (show (((f.shop.pigs.length : Int) - 1 - (j : Int)) - 1) = ((fun j => (f.shop.pigs.length : Int) - 1 - (j : Int)) (j + 1)) from by show (f.shop.pigs.length : Int) - 1 - (j : Int) - 1 = (f.shop.pigs.length : Int) - 1 - ((j + 1 : Nat) : Int); omega)), trivial⟩ ⟨(lx rfl), (lx rfl), (lx rfl), (lx rfl), (lx rfl), (lx rfl), trivial⟩ ⟨rfl, (congrArg (fun z => some (Ent.own 3 EP.int.size (List.length z) (RP EP.int z))) (show (lset (zr (nth (f.chBox left) (i : Int)) j) ((f.shop.pigs.length : Int) - 1 - (j : Int)) 0) = ((fun j => zr (nth (f.chBox left) (i : Int)) j) (j + 1)) from by dsimp only; rw [← hrl]; exact zr_step (by omega))), rfl, trivial⟩ rfl rfl rfl rfl rfl)
      · try simp only [decide_eq_true_eq, decide_eq_false_iff_not, Bool.and_eq_true, Bool.or_eq_true, Bool.and_eq_false_iff, Bool.or_eq_false_iff, Bool.not_eq_true', Bool.not_eq_false', ne_eq, Decidable.not_not] at hc2
        refine WP.exit ?_
        refine EX.exit_then ?_
        refine EX.exit_then ?_
        refine EX.exit_blk ?_
        refine EX.then ?_
        refine WP.seq ?_
        refine WP.seq ?_
        refine WP.region ?_
        refine WPl.v rfl (o_move rfl) ?_
        refine WPl.v rfl (o_lss rfl rfl) ?_
        refine WPl.nil ?_
        refine EX.then ?_
        refine WP.cond rfl (fun hc3 => ?_) (fun hc3 => ?_)
        · try simp only [decide_eq_true_eq, decide_eq_false_iff_not, Bool.and_eq_true, Bool.or_eq_true, Bool.and_eq_false_iff, Bool.or_eq_false_iff, Bool.not_eq_true', Bool.not_eq_false', ne_eq, Decidable.not_not] at hc3
          refine WP.ret ?_
          refine EX.ret_then ?_
          refine EX.ret_blk ?_
          refine EX.ret_then ?_
          refine EX.ret_blk ?_
          have hend : f.chIdx p left i + 1 = (f.chItems p left).length := by rw [← chIdx_end, ← (ch_next hl hp4 hiN hj2).1 (by omega), chIdx_succ hiN, show f.chOK p (nth (f.chBox left) (i : Int)) = true from hs28]; rfl
          exact EX.finI (.inl rfl) rfl rfl (ky := 3) (Y := Y (f.chIdx p left i + 1)) rfl (fun _ _ h => .inl (by rw [hend] at h; exact h))
        · try simp only [decide_eq_true_eq, decide_eq_false_iff_not, Bool.and_eq_true, Bool.or_eq_true, Bool.and_eq_false_iff, Bool.or_eq_false_iff, Bool.not_eq_true', Bool.not_eq_false', ne_eq, Decidable.not_not] at hc3
          refine WP.skip ?_
          refine EX.then ?_
          refine WP.region ?_
          refine WPl.v rfl (o_move rfl) ?_
          refine WPl.v rfl (o_move rfl) ?_
          refine WPl.v rfl (o_idxo L44 rfl rfl rfl (by first | omega | (simp; omega)) (by first | omega | (simp; omega))) ?_
          refine WPl.v rfl (o_ldoi S3 rfl rfl rfl rfl (by first | omega | (simp; omega)) (by first | omega | (simp; omega))) ?_
          have hbb := hrb (f.shop.pigs.length - 1 - j) (by omega)
          rw [show ((f.shop.pigs.length - 1 - j : Nat) : Int) = (f.shop.pigs.length : Int) - 1 - (j : Int) by omega, ← hzn (by omega)] at hbb
          refine WPl.v rfl (o_add rfl rfl (by first | omega | (simp; omega)) (by first | omega | (simp; omega))) ?_
          refine WPl.v rfl (o_idxo L44 rfl rfl rfl (by first | omega | (simp; omega)) (by first | omega | (simp; omega))) ?_
          refine WPl.s1 (o_steE2 Try.sizeOf3 rfl rfl rfl rfl eok_int rfl rfl rfl (by first | omega | (simp; omega)) (by first | omega | (simp; omega))) ?_
          refine WPl.nil ?_
          refine EX.blk ?_
          have hne := hc2.resolve_left (by omega)
          rw [hzn (by omega)] at hne
          have hnx := (ch_next hl hp4 hiN hj2).2 (by omega) hne
          refine EX.again ((i + 1, F1)) id (by exact ⟨hnx.1, hF⟩) (by first | omega | (dsimp only; omega) | (simp only []; omega)) (LeR.of ⟨rfl, rfl, rfl, rfl, rfl, trivial⟩ ⟨(lx rfl), (lx rfl), (lx rfl), (lx rfl), trivial⟩ ⟨(congrArg (fun z => some (Ent.ext ((Y z).xp F1))) (show f.chIdx p left i + 1 = f.chIdx p left (i + 1) from by rw [chIdx_succ hiN, show f.chOK p (nth (f.chBox left) (i : Int)) = true from hs28]; rfl)), (congrArg (fun z => some (Ent.own 3 EP.int.size (List.length z) (RP EP.int z))) (show (lset (zr (nth (f.chBox left) (i : Int)) j) ((f.shop.pigs.length : Int) - 1 - (j : Int)) ((nth (zr (nth (f.chBox left) (i : Int)) j) ((f.shop.pigs.length : Int) - 1 - (j : Int))) + 1)) = ((fun (⟨i, F⟩ : Nat × (Nat → Prop)) => (nth (f.chBox left) (i : Int))) (i + 1, F1)) from hnx.2)), trivial⟩ rfl rfl rfl rfl rfl)
  · refine WPl.imp (Imp.bitF 28 (b' := false) rfl hs28) ?_
    refine WPl.off rfl ⟨_, _, rfl, rfl, rfl⟩ ?_
    refine WPl.off rfl ⟨_, _, rfl, rfl, rfl⟩ ?_
    refine WPl.off rfl ⟨_, _, rfl, rfl, rfl⟩ ?_
    refine WPl.off rfl ⟨_, _, rfl, rfl, rfl⟩ ?_
    refine WPl.off rfl ⟨_, _, rfl, rfl, rfl⟩ ?_
    refine WPl.v rfl (o_pickF rfl rfl) ?_
    refine WPl.nil ?_
    refine EX.then ?_
    refine WP.cond rfl (fun h => by cases h) (fun _ => ?_)
    refine WP.skip ?_
    refine EX.then ?_
    refine WP.seq ?_
    refine WP.region ?_
    refine WPl.v rfl (o_move rfl) ?_
    refine WPl.v rfl (o_leno L44 rfl rfl) ?_
    refine WPl.v rfl (o_sub rfl rfl (by first | omega | (simp; omega)) (by first | omega | (simp; omega))) ?_
    refine WPl.v rfl (o_assign rfl) ?_
    refine WPl.nil ?_
    refine EX.then ?_
    refine WP.seq ?_
    refine WP.block ?_
    refine WP.loop (Gh := Nat) (fun j => ⟨12, [(0, .e (.a (.v (yv l)))), (1, .e (.a (.q 0))), (2, .e (.a (.q 1))), (3, .e (.a (.q 2))), (5, .e (.a (.q 6))), (16, .e (.a (.q 7))), (17, .e (.g [ai (p.pounds), ai (p.tl), ai (p.th), ai (p.al), ai (p.ah), ai (p.dl), ai (p.dh)])), (18, .e (.a (.q 6))), (19, .e (.g [ai ((p.addL f.shop.pigs (nth (f.chBox left) (i : Int))).pounds), ai ((p.addL f.shop.pigs (nth (f.chBox left) (i : Int))).tl), ai ((p.addL f.shop.pigs (nth (f.chBox left) (i : Int))).th), ai ((p.addL f.shop.pigs (nth (f.chBox left) (i : Int))).al), ai ((p.addL f.shop.pigs (nth (f.chBox left) (i : Int))).ah), ai ((p.addL f.shop.pigs (nth (f.chBox left) (i : Int))).dl), ai ((p.addL f.shop.pigs (nth (f.chBox left) (i : Int))).dh)])), (6, .e (.a (.p 8 (0)))), (20, .e (.a (.q 9))), (21, .e (.g [ai ((p.addL f.shop.pigs (nth (f.chBox left) (i : Int))).pounds), ai ((p.addL f.shop.pigs (nth (f.chBox left) (i : Int))).tl), ai ((p.addL f.shop.pigs (nth (f.chBox left) (i : Int))).th), ai ((p.addL f.shop.pigs (nth (f.chBox left) (i : Int))).al), ai ((p.addL f.shop.pigs (nth (f.chBox left) (i : Int))).ah), ai ((p.addL f.shop.pigs (nth (f.chBox left) (i : Int))).dl), ai ((p.addL f.shop.pigs (nth (f.chBox left) (i : Int))).dh)])), (22, .b (f.fitsP (p.addL f.shop.pigs (nth (f.chBox left) (i : Int))))), (23, .b (f.fitsP (p.addL f.shop.pigs (nth (f.chBox left) (i : Int))))), (27, .b ((f.fitsP (p.addL f.shop.pigs (nth (f.chBox left) (i : Int)))) && (f.sureP (p.addL f.shop.pigs (nth (f.chBox left) (i : Int)))))), (28, .b (false)), (29, .e (.a (.v (undef)))), (30, .e (.a (.v (undef)))), (31, .e (.a (.v (undef)))), (32, .e (.a (.v (undef)))), (33, .e (.a (.v (undef)))), (34, .b (false)), (35, .e (.a (.q 6))), (36, .i (((nth (f.chBox left) (i : Int)).length : Int))), (37, .i (((nth (f.chBox left) (i : Int)).length : Int) - 1)), (7, .i ((f.shop.pigs.length : Int) - 1 - (j : Int)))], [(0, PP (EP.box (PP (EWk r) (f))) ()), (1, PP EPt (p)), (2, PP (EArr 4) (left)), (6, Pred.newer _), (7, PP (EWk r) (f)), (9, PP (EWk r) (f))], [(3, .ext ((Y (f.chIdx p left i)).xp F)), (6, .own 3 EP.int.size (zr (nth (f.chBox left) (i : Int)) j).length (RP EP.int (zr (nth (f.chBox left) (i : Int)) j))), (8, .blk [ai ((p.addL f.shop.pigs (nth (f.chBox left) (i : Int))).pounds), ai ((p.addL f.shop.pigs (nth (f.chBox left) (i : Int))).tl), ai ((p.addL f.shop.pigs (nth (f.chBox left) (i : Int))).th), ai ((p.addL f.shop.pigs (nth (f.chBox left) (i : Int))).al), ai ((p.addL f.shop.pigs (nth (f.chBox left) (i : Int))).ah), ai ((p.addL f.shop.pigs (nth (f.chBox left) (i : Int))).dl), ai ((p.addL f.shop.pigs (nth (f.chBox left) (i : Int))).dh)] 105)], [], []⟩) (fun j => j ≤ f.shop.pigs.length ∧ ∀ a : Nat, f.shop.pigs.length - j ≤ a → a < f.shop.pigs.length → nth (nth (f.chBox left) (i : Int)) a = nth left a) (fun j => f.shop.pigs.length - j) (0) id ?_ (LeR.of ⟨rfl, rfl, rfl, rfl, rfl, rfl, rfl, rfl, rfl, rfl, rfl, rfl, rfl, rfl, rfl, rfl, rfl, rfl, rfl, rfl, rfl, rfl, rfl, rfl, rfl, (congrArg (fun z => some (SV.i z)) (show (((nth (f.chBox left) (i : Int)).length : Int) - 1) = ((fun j => (f.shop.pigs.length : Int) - 1 - (j : Int)) 0) from by rw [hrl]; simp)), trivial⟩ ⟨(lx rfl), (lx rfl), (lx rfl), (lx rfl), (lx rfl), (lx rfl), trivial⟩ ⟨rfl, (congrArg (fun z => some (Ent.own 3 EP.int.size (List.length z) (RP EP.int z))) (show ((nth (f.chBox left) (i : Int))) = ((fun j => zr (nth (f.chBox left) (i : Int)) j) 0) from by simp [zr])), rfl, trivial⟩ rfl rfl rfl rfl rfl) ?_
    · exact ⟨by omega, fun a h1 h2 => by omega⟩
    intro j hφ
    obtain ⟨hj1, hj2⟩ := hφ
    have hzl : (zr (nth (f.chBox left) (i : Int)) j).length = f.shop.pigs.length := by rw [zr_len (by omega)]; exact hrl
    have hzn : j < f.shop.pigs.length → nth (zr (nth (f.chBox left) (i : Int)) j) ((f.shop.pigs.length : Int) - 1 - (j : Int)) = nth (nth (f.chBox left) (i : Int)) ((f.shop.pigs.length : Int) - 1 - (j : Int)) := fun h => by rw [← hrl]; exact zr_nth (by omega)
    refine WP.seq ?_
    refine WP.seq ?_
    refine WP.imp (Imp.bit 12 13 (decide (0 ≤ ((f.shop.pigs.length : Int) - 1 - (j : Int)))) rfl rfl) ?_
    refine WP.draw (nf := 13) [⟨[], [], [], [], []⟩, ⟨[], [], [], [], [0]⟩, ⟨[], [], [], [], [0, 1]⟩, ⟨[42, 45, 46, 47], [], [], [], [0, 1, 2]⟩, ⟨[41, 45, 46, 47], [], [], [], [0, 1, 2]⟩, ⟨[45, 46, 47], [], [], [], [0, 1, 2, 3, 4]⟩, ⟨[45, 46, 47], [], [], [], [0, 1, 2, 3, 4, 5]⟩, ⟨[41, 42, 43, 44], [], [], [], [0, 1, 2]⟩, ⟨[41, 42, 43, 44], [], [], [], [0, 1, 2, 7]⟩, ⟨[41, 42, 43, 44], [], [], [], [0, 1, 2, 7, 8]⟩, ⟨[], [], [], [], [0, 1, 2, 3, 4, 5, 6, 7, 8, 9]⟩, ⟨[], [], [], [], [0, 1, 2, 3, 4, 5, 6, 7, 8, 9, 10]⟩] (by kernel_rfl) (by kernel_rfl) ?_
    refine DRQ.v rfl rfl rfl (o_move rfl) ?_
    refine DRQ.v rfl rfl rfl (o_geq rfl rfl) ?_
    refine DRQ.v rfl rfl rfl (o_move rfl) ?_
    refine DRQ.gv 12 rfl rfl (.plain rfl Iff.rfl rfl) rfl (fun hb => o_move rfl) ?_
    refine DRQ.gv 12 rfl rfl (.plain rfl Iff.rfl rfl) rfl (fun hb => o_move rfl) ?_
    refine DRQ.gv 12 rfl rfl (.plain rfl Iff.rfl rfl) rfl (fun hb => have hb2 := of_decide_eq_true hb; o_idxo L44 rfl rfl rfl (by first | omega | (simp; omega)) (by first | omega | (simp; omega))) ?_
    refine DRQ.gv 12 rfl rfl (.plain rfl Iff.rfl rfl) rfl (fun hb => have hb2 := of_decide_eq_true hb; o_ldoi S3 rfl rfl rfl rfl (by first | omega | (simp; omega)) (by first | omega | (simp; omega))) ?_
    refine DRQ.gv 12 rfl rfl (.plain rfl Iff.rfl rfl) rfl (fun hb => o_move rfl) ?_
    refine DRQ.gv 12 rfl rfl (.plain rfl Iff.rfl rfl) rfl (fun hb => have hb2 := of_decide_eq_true hb; o_idxq A110 rfl (lx rfl) rfl (by first | omega | (simp; omega)) (by first | omega | (simp; omega))) ?_
    refine DRQ.gv 12 rfl rfl (.plain rfl Iff.rfl rfl) rfl (fun hb => have hb2 := of_decide_eq_true hb; o_lde S3 rfl (lx rfl) (arr_get (by first | omega | (simp; omega)) (by first | omega | (simp; omega)))) ?_
    refine DRQ.gv 12 rfl rfl (.plain rfl Iff.rfl rfl) rfl (fun hb => o_eql rfl rfl) ?_
    refine DRQ.v rfl rfl rfl (o_and rfl rfl rfl id) ?_
    refine DRQ.nil' ?_
    refine EX.then ?_
    refine WP.cond rfl (fun hc2 => ?_) (fun hc2 => ?_)
    · try simp only [decide_eq_true_eq, decide_eq_false_iff_not, Bool.and_eq_true, Bool.or_eq_true, Bool.and_eq_false_iff, Bool.or_eq_false_iff, Bool.not_eq_true', Bool.not_eq_false', ne_eq, Decidable.not_not] at hc2
      obtain ⟨hge, heq⟩ := hc2
      refine WP.skip ?_
      refine EX.then ?_
      refine WP.seq ?_
      refine WP.block ?_
      refine WP.region ?_
      refine WPl.v rfl (o_move rfl) ?_
      refine WPl.v rfl (o_move rfl) ?_
      refine WPl.v rfl (o_idxo L44 rfl rfl rfl (by first | omega | (simp; omega)) (by first | omega | (simp; omega))) ?_
      refine WPl.s1 (o_steE2 Try.sizeOf3 rfl rfl rfl rfl eok_int rfl rfl rfl (by first | omega | (simp; omega)) (by first | omega | (simp; omega))) ?_
      refine WPl.nil ?_
      refine EX.blk ?_
      refine EX.then ?_
      refine WP.region ?_
      refine WPl.v rfl (o_move rfl) ?_
      refine WPl.v rfl (o_sub rfl rfl (by first | omega | (simp; omega)) (by first | omega | (simp; omega))) ?_
      refine WPl.v rfl (o_assign rfl) ?_
      refine WPl.nil ?_
      refine EX.again (j + 1) id (by exact ⟨by omega, fun a h1 h2 => by by_cases h3 : f.shop.pigs.length - j ≤ a; exact hj2 a h3 h2; have h4 : (a : Int) = (f.shop.pigs.length : Int) - 1 - (j : Int) := (by omega); rw [h4, ← hzn (by omega)]; exact heq⟩) (by omega) (LeR.of ⟨rfl, rfl, rfl, rfl, rfl, rfl, rfl, rfl, rfl, rfl, rfl, rfl, rfl, rfl, rfl, rfl, rfl, rfl, rfl, rfl, rfl, rfl, rfl, rfl, rfl, (congrArg (fun z => some (SV.i z)) (show (((f.shop.pigs.length : Int) - 1 - (j : Int)) - 1) = ((fun j => (f.shop.pigs.length : Int) - 1 - (j : Int)) (j + 1)) from by show (f.shop.pigs.length : Int) - 1 - (j : Int) - 1 = (f.shop.pigs.length : Int) - 1 - ((j + 1 : Nat) : Int); omega)), trivial⟩ ⟨(lx rfl), (lx rfl), (lx rfl), (lx rfl), (lx rfl), (lx rfl), trivial⟩ ⟨rfl, (congrArg (fun z => some (Ent.own 3 EP.int.size (List.length z) (RP EP.int z))) (show (lset (zr (nth (f.chBox left) (i : Int)) j) ((f.shop.pigs.length : Int) - 1 - (j : Int)) 0) = ((fun j => zr (nth (f.chBox left) (i : Int)) j) (j + 1)) from by dsimp only; rw [← hrl]; exact zr_step (by omega))), rfl, trivial⟩ rfl rfl rfl rfl rfl)
    · try simp only [decide_eq_true_eq, decide_eq_false_iff_not, Bool.and_eq_true, Bool.or_eq_true, Bool.and_eq_false_iff, Bool.or_eq_false_iff, Bool.not_eq_true', Bool.not_eq_false', ne_eq, Decidable.not_not] at hc2
      refine WP.exit ?_
      refine EX.exit_then ?_
      refine EX.exit_then ?_
      refine EX.exit_blk ?_
      refine EX.then ?_
      refine WP.seq ?_
      refine WP.seq ?_
      refine WP.region ?_
      refine WPl.v rfl (o_move rfl) ?_
      refine WPl.v rfl (o_lss rfl rfl) ?_
      refine WPl.nil ?_
      refine EX.then ?_
      refine WP.cond rfl (fun hc3 => ?_) (fun hc3 => ?_)
      · try simp only [decide_eq_true_eq, decide_eq_false_iff_not, Bool.and_eq_true, Bool.or_eq_true, Bool.and_eq_false_iff, Bool.or_eq_false_iff, Bool.not_eq_true', Bool.not_eq_false', ne_eq, Decidable.not_not] at hc3
        refine WP.ret ?_
        refine EX.ret_then ?_
        refine EX.ret_blk ?_
        refine EX.ret_then ?_
        refine EX.ret_blk ?_
        have hend : f.chIdx p left i = (f.chItems p left).length := by rw [← chIdx_end, ← (ch_next hl hp4 hiN hj2).1 (by omega), chIdx_succ hiN, show f.chOK p (nth (f.chBox left) (i : Int)) = false from hs28]; rfl
        exact EX.finI (.inl rfl) rfl rfl (ky := 3) (Y := Y (f.chIdx p left i)) rfl (fun _ _ h => .inl (by rw [hend] at h; exact h))
      · try simp only [decide_eq_true_eq, decide_eq_false_iff_not, Bool.and_eq_true, Bool.or_eq_true, Bool.and_eq_false_iff, Bool.or_eq_false_iff, Bool.not_eq_true', Bool.not_eq_false', ne_eq, Decidable.not_not] at hc3
        refine WP.skip ?_
        refine EX.then ?_
        refine WP.region ?_
        refine WPl.v rfl (o_move rfl) ?_
        refine WPl.v rfl (o_move rfl) ?_
        refine WPl.v rfl (o_idxo L44 rfl rfl rfl (by first | omega | (simp; omega)) (by first | omega | (simp; omega))) ?_
        refine WPl.v rfl (o_ldoi S3 rfl rfl rfl rfl (by first | omega | (simp; omega)) (by first | omega | (simp; omega))) ?_
        have hbb := hrb (f.shop.pigs.length - 1 - j) (by omega)
        rw [show ((f.shop.pigs.length - 1 - j : Nat) : Int) = (f.shop.pigs.length : Int) - 1 - (j : Int) by omega, ← hzn (by omega)] at hbb
        refine WPl.v rfl (o_add rfl rfl (by first | omega | (simp; omega)) (by first | omega | (simp; omega))) ?_
        refine WPl.v rfl (o_idxo L44 rfl rfl rfl (by first | omega | (simp; omega)) (by first | omega | (simp; omega))) ?_
        refine WPl.s1 (o_steE2 Try.sizeOf3 rfl rfl rfl rfl eok_int rfl rfl rfl (by first | omega | (simp; omega)) (by first | omega | (simp; omega))) ?_
        refine WPl.nil ?_
        refine EX.blk ?_
        have hne := hc2.resolve_left (by omega)
        rw [hzn (by omega)] at hne
        have hnx := (ch_next hl hp4 hiN hj2).2 (by omega) hne
        refine EX.again ((i + 1, F)) id (by exact ⟨hnx.1, hF⟩) (by first | omega | (dsimp only; omega) | (simp only []; omega)) (LeR.of ⟨rfl, rfl, rfl, rfl, rfl, trivial⟩ ⟨(lx rfl), (lx rfl), (lx rfl), (lx rfl), trivial⟩ ⟨(congrArg (fun z => some (Ent.ext ((Y z).xp F))) (show f.chIdx p left i = f.chIdx p left (i + 1) from by rw [chIdx_succ hiN, show f.chOK p (nth (f.chBox left) (i : Int)) = false from hs28]; rfl)), (congrArg (fun z => some (Ent.own 3 EP.int.size (List.length z) (RP EP.int z))) (show (lset (zr (nth (f.chBox left) (i : Int)) j) ((f.shop.pigs.length : Int) - 1 - (j : Int)) ((nth (zr (nth (f.chBox left) (i : Int)) j) ((f.shop.pigs.length : Int) - 1 - (j : Int))) + 1)) = ((fun (⟨i, F⟩ : Nat × (Nat → Prop)) => (nth (f.chBox left) (i : Int))) (i + 1, F)) from hnx.2)), trivial⟩ rfl rfl rfl rfl rfl)
theorem w140 {f : Fnd} {r : Option Nat} {p : Pt} {left : List Int} : ∀ x ∈ ([.e (.a (.q 0)), .e (.g [ai (p.pounds), ai (p.tl), ai (p.th), ai (p.al), ai (p.ah), ai (p.dl), ai (p.dh)]), .e (.g [ai (nth left 0), ai (nth left 1), ai (nth left 2), ai (nth left 3)])] : List SV), x.res (keys (α := Pred) [(0, PP (EWk r) (f))]) := by simp [SV.res, El.res, At.res, keys]
theorem r140 {f : Fnd} {p : Pt} {left : List Int} : SV.res (keys (α := Pred) [(0, ItP Try.prog (f.chItems p left))]) (.e (.a (.q 0))) := by simp [SV.res, El.res, At.res, keys]
set_option maxHeartbeats 4000000 in
theorem c140 (f : Fnd) (r : Option Nat) (p : Pt) (left : List Int) (m : Int) (hf : f.chk = true) (hp : PtB p m) (hm : m ≤ 10000000) (hl : bnd4 left) : Sig Try.prog 140 [.e (.a (.q 0)), .e (.g [ai (p.pounds), ai (p.tl), ai (p.th), ai (p.al), ai (p.ah), ai (p.dl), ai (p.dh)]), .e (.g [ai (nth left 0), ai (nth left 1), ai (nth left 2), ai (nth left 3)])] [(0, PP (EWk r) (f))] (.e (.a (.q 0))) [(0, ItP Try.prog (f.chItems p left))] := by
  have hl4 := hl.1
  refine Sig.intro Try.func140 rfl 1 [(0, .e (.a (.q 0))), (1, .e (.g [ai (p.pounds), ai (p.tl), ai (p.th), ai (p.al), ai (p.ah), ai (p.dl), ai (p.dh)])), (2, .e (.g [ai (nth left 0), ai (nth left 1), ai (nth left 2), ai (nth left 3)]))] rfl w140 rfl rfl fun I w => ?_
  refine WP.seq ?_
  refine WP.region ?_
  refine WPl.l 1 2 rfl rfl rfl (o_boxa rfl (.inl ⟨_, (lx rfl), PP.one⟩)) ?_
  refine WPl.l 2 3 rfl rfl rfl (o_boxg rfl) ?_
  refine WPl.l 3 4 rfl rfl rfl (o_boxg rfl) ?_
  refine WPl.v rfl (o_assign rfl) ?_
  refine WPl.nil ?_
  refine EX.then ?_
  refine WP.seq ?_
  refine WP.region ?_
  refine WPl.imp (Imp.frzb (E := EP.box (PP (EWk r) (f))) (y := ()) 1 4 5 rfl rfl (bok_box (lx rfl)) rfl rfl rfl) ?_
  refine WPl.imp (Imp.frzb (E := EPt) (y := p) 2 5 6 rfl rfl (bok_str ⟨rfl, rfl, rfl, rfl, rfl, rfl, rfl, trivial⟩) rfl rfl rfl) ?_
  refine WPl.imp (Imp.frzb (E := (EArr 4)) (y := left) 3 6 7 rfl rfl (fun _ _ _ _ _ _ => rfl) rfl rfl rfl) ?_
  refine WPl.x 7 8 rfl rfl rfl (o_mkit 7 (ren [(0, 4), (1, 5), (2, 6)]) (c162 f r p left m hf hp hm hl) e162 rfl SvsOK.rf w162 ⟨(lx rfl), (lx rfl), (lx rfl), trivial⟩) ?_
  refine WPl.v rfl (o_assign rfl) ?_
  refine WPl.nil ?_
  refine EX.then ?_
  refine WP.ret ?_
  exact EX.fin (ren [(0, 7)]) (.inl rfl) rfl (.tmp rfl .nil) rfl r140 ⟨(lx rfl), trivial⟩ (by simp) (by simp)
theorem w141 {f : Fnd} {r : Option Nat} {left row : List Int} : ∀ x ∈ ([.e (.a (.q 0)), .e (.g [ai (nth left 0), ai (nth left 1), ai (nth left 2), ai (nth left 3)]), .e (.a (.q 1))] : List SV), x.res (keys (α := Pred) [(0, PP (EWk r) (f)), (1, PL EP.int (row))]) := by simp [SV.res, El.res, At.res, keys]
theorem r141 {f : Fnd} {left row : List Int} : SV.res (keys (α := Pred) []) (.t [.g [ai (nth (takeL left row) 0), ai (nth (takeL left row) 1), ai (nth (takeL left row) 2), ai (nth (takeL left row) 3)], .a (ai (sumOf Pig.pence f.shop.pigs row))]) := by simp [SV.res, El.res, At.res, keys]
set_option maxHeartbeats 4000000 in
theorem c141 (f : Fnd) (r : Option Nat) (left row : List Int) (hp : PigsOK f.shop.pigs) (hl : left.length = 4) (hb : bnd left 5) (hr : row.length = f.shop.pigs.length) (hrb : bnd row 5) : Sig Try.prog 141 [.e (.a (.q 0)), .e (.g [ai (nth left 0), ai (nth left 1), ai (nth left 2), ai (nth left 3)]), .e (.a (.q 1))] [(0, PP (EWk r) (f)), (1, PL EP.int (row))] (.t [.g [ai (nth (takeL left row) 0), ai (nth (takeL left row) 1), ai (nth (takeL left row) 2), ai (nth (takeL left row) 3)], .a (ai (sumOf Pig.pence f.shop.pigs row))]) [] := by
  have hp4 := hp.2
  have hsb := fun i hi => sumTo_bnd (f := Pig.pence) (pigs := f.shop.pigs) (bnd_mono hrb (show (5 : Int) ≤ 1000 by omega)) (fun j hj => by have := Pig.bnds (hp.at (show j < f.shop.pigs.length by omega)); omega) i hi
  refine Sig.intro Try.func141 rfl 2 [(0, .e (.a (.q 0))), (1, .e (.g [ai (nth left 0), ai (nth left 1), ai (nth left 2), ai (nth left 3)])), (2, .e (.a (.q 1)))] rfl w141 rfl rfl fun I w => ?_
  refine WP.seq ?_
  refine WP.region ?_
  refine WPl.l 2 3 rfl rfl rfl (o_boxg rfl) ?_
  refine WPl.l 3 4 rfl rfl rfl (o_alloc Z110) ?_
  refine WPl.v rfl (o_assign rfl) ?_
  refine WPl.nil ?_
  refine EX.then ?_
  refine WP.seq ?_
  refine WP.region ?_
  refine WPl.v rfl (o_assign rfl) ?_
  refine WPl.nil ?_
  refine EX.then ?_
  refine WP.seq ?_
  refine WP.seq ?_
  refine WP.region ?_
  refine WPl.v rfl (o_move rfl) ?_
  refine WPl.v rfl (o_lenq L44 rfl (lx rfl)) ?_
  refine WPl.v rfl (o_move rfl) ?_
  refine WPl.nil ?_
  refine EX.then ?_
  refine WP.block ?_
  refine WP.loop (Gh := Nat) (fun i => ⟨4, [(0, .e (.a (.q 0))), (4, .e (.a (.p 2 (0)))), (6, .e (.a (.p 3 (0)))), (7, .i (0)), (8, .i (sumTo Pig.pence f.shop.pigs row i)), (11, .e (.a (.q 1))), (12, .i ((row.length : Int))), (13, .i ((i : Int)))], [(0, PP (EWk r) (f)), (1, PL EP.int (row))], [(2, .blk [ai (nth (takeTo left row i) 0), ai (nth (takeTo left row i) 1), ai (nth (takeTo left row i) 2), ai (nth (takeTo left row i) 3)] 110), (3, .blk [ai (0), ai (0), ai (0), ai (0)] 110)], [], []⟩) (fun i => i ≤ row.length) (fun i => row.length - i) (0) id ?_ (LeR.of ⟨rfl, rfl, rfl, rfl, rfl, rfl, rfl, rfl, trivial⟩ ⟨(lx rfl), (lx rfl), trivial⟩ ⟨rfl, rfl, trivial⟩ rfl rfl rfl rfl rfl) ?_
  · first | trivial | omega | (constructor <;> omega) | simp
  intro i hφ
  have hi : i ≤ row.length := hφ
  refine WP.seq ?_
  refine WP.region ?_
  refine WPl.v rfl (o_lss rfl rfl) ?_
  refine WPl.nil ?_
  refine EX.then ?_
  refine WP.seq ?_
  refine WP.cond rfl (fun hc1 => ?_) (fun hc1 => ?_)
  · try simp only [decide_eq_true_eq, decide_eq_false_iff_not, Bool.and_eq_true, Bool.or_eq_true, Bool.and_eq_false_iff, Bool.or_eq_false_iff, Bool.not_eq_true', Bool.not_eq_false', ne_eq, Decidable.not_not] at hc1
    refine WP.skip ?_
    refine EX.then ?_
    refine WP.seq ?_
    refine WP.block ?_
    refine WP.seq ?_
    refine WP.region ?_
    refine WPl.v rfl (o_move rfl) ?_
    refine WPl.x 4 5 rfl rfl rfl (o_idx L44 rfl (lx rfl) rfl (by first | omega | (simp; omega)) (by first | omega | (simp; omega))) ?_
    refine WPl.v rfl (o_ldq S3 rfl (lx rfl) intc) ?_
    refine WPl.v rfl (o_assign rfl) ?_
    refine WPl.v rfl (o_assign rfl) ?_
    refine WPl.nil ?_
    refine EX.then ?_
    refine WP.seq ?_
    refine WP.region ?_
    refine WPl.v rfl (o_move rfl) ?_
    refine WPl.v rfl (o_idxp A110 rfl rfl (by first | omega | (simp; omega)) (by first | omega | (simp; omega))) ?_
    refine WPl.v rfl (o_ldpn (n := 4) (l := takeTo left row i) S3 rfl rfl rfl (by first | omega | (simp; omega)) (by first | omega | (simp; omega))) ?_
    refine WPl.v rfl (o_move rfl) ?_
    have h1 := takeTo_other left row hl i i (Nat.le_refl _) (by omega)
    have h2 := hb i (by omega)
    have h3 := hrb i (by omega)
    refine WPl.v rfl (o_sub rfl rfl (by first | omega | (simp; omega)) (by first | omega | (simp; omega))) ?_
    refine WPl.v rfl (o_idxp A110 rfl rfl (by first | omega | (simp; omega)) (by first | omega | (simp; omega))) ?_
    refine WPl.s1 (o_stpn (n := 4) (l := takeTo left row i) (cs' := [ai (nth (lset (takeTo left row i) (i : Int) ((nth (takeTo left row i) (i : Int)) - (nth row (i : Int)))) 0), ai (nth (lset (takeTo left row i) (i : Int) ((nth (takeTo left row i) (i : Int)) - (nth row (i : Int)))) 1), ai (nth (lset (takeTo left row i) (i : Int) ((nth (takeTo left row i) (i : Int)) - (nth row (i : Int)))) 2), ai (nth (lset (takeTo left row i) (i : Int) ((nth (takeTo left row i) (i : Int)) - (nth row (i : Int)))) 3)]) S3 rfl rfl rfl rfl rfl (by rw [takeTo_len]; exact hl) (by first | omega | (simp; omega)) (by first | omega | (simp; omega))) ?_
    refine WPl.nil ?_
    refine EX.then ?_
    refine WP.region ?_
    refine WPl.v rfl (o_move rfl) ?_
    refine WPl.v rfl (o_move rfl) ?_
    refine WPl.v rfl (o_move rfl) ?_
    refine WPl.v rfl (o_nilq rfl (lx rfl)) ?_
    refine WPl.v rfl (o_fldq F100_0 rfl (lx rfl)) ?_
    refine WPl.v rfl (o_flde F31_0 rfl (lx rfl)) ?_
    refine WPl.v rfl (o_flde F28_4 rfl (lx rfl)) ?_
    refine WPl.x 5 6 rfl rfl rfl (o_ldex S26 rfl (lx rfl) (strS rfl)) ?_
    refine WPl.v rfl (o_move rfl) ?_
    refine WPl.x 6 7 rfl rfl rfl (o_idx L26 rfl (lx rfl) rfl (by first | omega | (simp; omega)) (by first | omega | (simp; omega))) ?_
    refine WPl.v rfl (o_fldq F78_3 rfl (lx rfl)) ?_
    refine WPl.v rfl (o_lde S3 rfl (lx rfl) (strI rfl)) ?_
    have h4 := Pig.bnds (hp.at (show i < f.shop.pigs.length by omega))
    have h5 := hsb i (by omega)
    have h6 := mulb (A := 5) (B := 99) h3.1 h3.2 h4.2.2.2.2.2.2.1 h4.2.2.2.2.2.2.2.1
    refine WPl.v rfl (o_mul rfl rfl (by first | omega | (simp; omega)) (by first | omega | (simp; omega))) ?_
    refine WPl.v rfl (o_add rfl rfl (by first | omega | (simp; omega)) (by first | omega | (simp; omega))) ?_
    refine WPl.v rfl (o_assign rfl) ?_
    refine WPl.nil ?_
    refine EX.blk ?_
    refine EX.then ?_
    refine WP.region ?_
    refine WPl.v rfl (o_add rfl rfl (by first | omega | (simp; omega)) (by first | omega | (simp; omega))) ?_
    refine WPl.v rfl (o_move rfl) ?_
    refine WPl.nil ?_
    refine EX.again (i + 1) id (by first | omega | (constructor <;> omega)) (by omega) (LeR.of ⟨rfl, rfl, rfl, rfl, rfl, rfl, rfl, rfl, trivial⟩ ⟨(lx rfl), (lx rfl), trivial⟩ ⟨rfl, rfl, trivial⟩ rfl rfl rfl rfl rfl)
  · try simp only [decide_eq_true_eq, decide_eq_false_iff_not, Bool.and_eq_true, Bool.or_eq_true, Bool.and_eq_false_iff, Bool.or_eq_false_iff, Bool.not_eq_true', Bool.not_eq_false', ne_eq, Decidable.not_not] at hc1
    refine WP.exit ?_
    refine EX.exit_then ?_
    refine EX.exit_then ?_
    refine EX.exit_blk ?_
    refine EX.then ?_
    refine WP.seq ?_
    refine WP.region ?_
    refine WPl.v rfl (o_ldpa G110 rfl rfl rfl) ?_
    refine WPl.v rfl (o_move rfl) ?_
    refine WPl.s1 (o_stag G110 rfl rfl rfl ⟨rfl, rfl, rfl, rfl, trivial⟩ rfl rfl) ?_
    refine WPl.v rfl (o_assign rfl) ?_
    refine WPl.nil ?_
    refine EX.then ?_
    refine WP.ret ?_
    have he : i = row.length := by omega
    subst he
    exact EX.fin id (.inl rfl) rfl (.cellg G110 rfl rfl rfl (.tmp rfl .nil)) rfl (by simp [SV.res, El.res, At.res, keys]) trivial (by simp) (by simp)
end Go.Flong
