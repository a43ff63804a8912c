/- Part 6 of the texts behind the claim: GALX1. -/
import Derived.Test.YtapgiededfphfaaGreatDoorVA5
set_option linter.unusedSimpArgs false
set_option linter.unusedVariables false
namespace Go.Flong
open Go Go.Eng Go.Proofs
theorem e24 : Enters' Tryz.prog 24 := Tryz.call24
theorem e56 : Enters' Tryz.prog 56 := Tryz.call56
theorem e19 : Enters' Tryz.prog 19 := Tryz.call19
theorem e45 : Enters' Tryz.prog 45 := Tryz.call45
theorem e33 : Enters' Tryz.prog 33 := Tryz.call33
theorem e52 : Enters' Tryz.prog 52 := Tryz.call52
theorem e54 : Enters' Tryz.prog 54 := Tryz.call54
theorem e34 : Enters' Tryz.prog 34 := Tryz.call34
theorem e55 : Enters' Tryz.prog 55 := Tryz.call55
theorem e59 : Enters' Tryz.prog 59 := Tryz.call59
theorem e61 : Enters' Tryz.prog 61 := Tryz.call61
theorem w9 {b : Book} {m n : Int} : ∀ x ∈ ([.e (.g [.q 0, .q 1, .q 2, ai (b.hall.change), .q 3, .q 4, .q 5, .q 6, ai (b.boys), .q 7]), .i (m), .i (n)] : List SV), x.res (keys (α := Pred) [(0, PL ETm (b.hall.machs)), (1, PL EBd (b.hall.buns)), (2, PL EP.int (b.hall.trains)), (3, PL EP.int (b.hall.bores)), (4, PL (EP.sl EP.int) (b.hall.eds)), (5, PL EPl (b.set)), (6, PL EP.int (b.walk)), (7, PL ETa (b.tals)), (8, (Pred.tab 1 tz64))]) := by simp [SV.res, El.res, At.res, keys]
theorem r9  : SV.res (keys (α := Pred) []) (.b (true)) := by simp [SV.res, El.res, At.res, keys]
set_option maxHeartbeats 4000000 in
set_option maxRecDepth 10000 in
theorem c9 (b : Book) (m n : Int)  : Sig Tryz.prog 9 [.e (.g [.q 0, .q 1, .q 2, ai (b.hall.change), .q 3, .q 4, .q 5, .q 6, ai (b.boys), .q 7]), .i (m), .i (n)] [(0, PL ETm (b.hall.machs)), (1, PL EBd (b.hall.buns)), (2, PL EP.int (b.hall.trains)), (3, PL EP.int (b.hall.bores)), (4, PL (EP.sl EP.int) (b.hall.eds)), (5, PL EPl (b.set)), (6, PL EP.int (b.walk)), (7, PL ETa (b.tals)), (8, (Pred.tab 1 tz64))] (.b (true)) [] := by
  refine Sig.intro Tryz.func9 rfl 9 [(0, .e (.g [.q 0, .q 1, .q 2, ai (b.hall.change), .q 3, .q 4, .q 5, .q 6, ai (b.boys), .q 7])), (1, .i (m)), (2, .i (n))] rfl w9 rfl rfl fun I w => ?_
  refine WP.seq (WP.region ?_)
  refine WPl.l 9 10 rfl rfl rfl (o_boxg rfl) ?_
  refine WPl.v rfl (o_assign rfl) ?_
  refine WPl.nil (EX.then (WP.seq (WP.seq (WP.region ?_))))
  refine WPl.v rfl (o_ldpa G33 rfl rfl rfl) ?_
  refine WPl.cs 10 rfl rfl rfl rfl (o_sig 10 (ren [(0, 0), (1, 1), (2, 2), (3, 3), (4, 4), (5, 5), (6, 6), (7, 7)]) (c24 b) e24 rfl rfl rfl w24 ⟨(lx rfl), (lx rfl), (lx rfl), (lx rfl), (lx rfl), (lx rfl), (lx rfl), (lx rfl), trivial⟩ r24) ?_
  refine WPl.v rfl (o_not rfl) ?_
  refine WPl.v rfl (o_move rfl) ?_
  refine WPl.bit 10 11 (!(!b.ready)) rfl rfl ?_
  refine WPl.gv 10 rfl rfl (.plain rfl (by first | (simp; done) | simp only [Bool.not_eq_true']) rfl) (fun hb => o_ldpa G33 rfl rfl rfl) ?_
  refine WPl.gv 10 rfl rfl (.plain rfl (by first | (simp; done) | simp only [Bool.not_eq_true']) rfl) (fun hb => o_move rfl) ?_
  refine WPl.gc0 10 rfl rfl (.plain rfl (by first | (simp; done) | simp only [Bool.not_eq_true']) rfl) (fun hb => o_sig 11 (ren [(0, 0), (1, 1), (2, 2), (3, 3), (4, 4), (5, 5), (6, 6), (7, 7)]) (c56 b m (by have h := (ready_small (b := b) (by simp at hb; first | exact hb | exact hb.1 | exact hb.1.1)).t; omega)) e56 rfl rfl rfl w56 ⟨(lx rfl), (lx rfl), (lx rfl), (lx rfl), (lx rfl), (lx rfl), (lx rfl), (lx rfl), trivial⟩ r56) ?_
  refine WPl.gv 10 rfl rfl (.plain rfl (by first | (simp; done) | simp only [Bool.not_eq_true']) rfl) (fun hb => o_not rfl) ?_
  refine WPl.v rfl (o_or rfl rfl rfl (by first | (simp; done) | exact fun h => by rw [h]; rfl | exact fun h => Bool.and_eq_true_iff.2 ⟨hb, by rw [h]; rfl⟩ | simp_all)) ?_
  refine WPl.v rfl (o_move rfl) ?_
  refine WPl.bit 11 12 (!((!b.ready) || (!(within m 0 ((b.tals.length : Int) - 1))))) rfl rfl ?_
  refine WPl.gv 11 rfl rfl (.plain rfl (by first | (simp; done) | simp only [Bool.not_eq_true']) rfl) (fun hb => o_ldpa G33 rfl rfl rfl) ?_
  refine WPl.gv 11 rfl rfl (.plain rfl (by first | (simp; done) | simp only [Bool.not_eq_true']) rfl) (fun hb => o_move rfl) ?_
  refine WPl.gc0 11 rfl rfl (.plain rfl (by first | (simp; done) | simp only [Bool.not_eq_true']) rfl) (fun hb => o_sig 12 (ren [(0, 0), (1, 1), (2, 2), (3, 3), (4, 4), (5, 5), (6, 6), (7, 7)]) (c56 b n (by have h := (ready_small (b := b) (by simp at hb; first | exact hb | exact hb.1 | exact hb.1.1)).t; omega)) e56 rfl rfl rfl w56 ⟨(lx rfl), (lx rfl), (lx rfl), (lx rfl), (lx rfl), (lx rfl), (lx rfl), (lx rfl), trivial⟩ r56) ?_
  refine WPl.gv 11 rfl rfl (.plain rfl (by first | (simp; done) | simp only [Bool.not_eq_true']) rfl) (fun hb => o_not rfl) ?_
  refine WPl.v rfl (o_or rfl rfl rfl (by first | (simp; done) | exact fun h => by rw [h]; rfl | exact fun h => Bool.and_eq_true_iff.2 ⟨hb, by rw [h]; rfl⟩ | simp_all)) ?_
  refine WPl.nil (EX.then ?_)
  refine WP.cond rfl (fun hc1 => ?_) (fun hc1 => ?_)
  · try simp only [cnd] at hc1
    refine WP.seq (WP.region ?_)
    refine WPl.cs 12 rfl rfl rfl rfl (o_sig 12 (ren [(0, 8)]) c19 e19 rfl rfl rfl w19 ⟨(lx rfl), trivial⟩ r19) ?_
    refine WPl.v rfl (o_assign rfl) ?_
    refine WPl.nil (EX.then (WP.ret (EX.ret_then ?_)))
    exact EX.fin id (.inl rfl) rfl (.tmp rfl .nil) rfl r9 trivial (by simp) (by simp)
  · try simp only [cnd] at hc1
    have hc : b.chk = true := ready_chk hc1.1.1
    have hm : b.Small := ready_small hc1.1.1
    have hB := bookB hc
    have ht8 := hB.t
    have hm6 := hm.s
    have h1 := isT_in (b := b) hc1.1.2
    have h2 := isT_in (b := b) hc1.2
    refine WP.skip (EX.then (WP.seq (WP.region ?_)))
    refine WPl.v rfl (o_move rfl) ?_
    refine WPl.v rfl (o_move rfl) ?_
    refine WPl.v rfl (o_min rfl rfl) ?_
    refine WPl.v rfl (o_move rfl) ?_
    refine WPl.v rfl (o_move rfl) ?_
    refine WPl.v rfl (o_max rfl rfl) ?_
    refine WPl.x 12 13 rfl rfl rfl (OpG.settle0 (o_bsl (E := EP.int) (l := [min m n, max m n]) R24 rfl rfl (.cons (rfl) rfl (eok_int) (.cons (rfl) rfl (eok_int) (.nil))) rfl rfl)) ?_
    refine WPl.v rfl (o_assign rfl) ?_
    refine WPl.nil (EX.then (WP.seq (WP.seq (WP.region ?_))))
    refine WPl.v rfl (o_move rfl) ?_
    refine WPl.v rfl (o_move rfl) ?_
    refine WPl.v rfl (o_eql rfl rfl) ?_
    refine WPl.nil (EX.then ?_)
    refine WP.cond rfl (fun hc2 => ?_) (fun hc2 => ?_)
    · try simp only [cnd] at hc2
      have law : TwoLaw b m n (([min m n, max m n].take (1 : Int).toNat).drop (0 : Int).toNat) := two_law hc (by omega) h1 h2 (by rw [if_pos hc2]; rfl)
      refine WP.region ?_
      refine WPl.v rfl (o_move rfl) ?_
      refine WPl.x 13 14 rfl rfl rfl (o_slice (a := 0) (b := 1) L24 rfl (lx rfl) rfl rfl (by first | omega | simp) (by first | omega | simp) (by first | omega | simp)) ?_
      refine WPl.v rfl (o_assign rfl) ?_
      refine WPl.nil (EX.then (WP.seq (WP.region ?_)))
      refine WPl.v rfl (o_ldpa G33 rfl rfl rfl) ?_
      refine WPl.v rfl (o_move rfl) ?_
      refine WPl.cs 14 rfl rfl rfl rfl (o_sig 14 (ren [(0, 0), (1, 1), (2, 2), (3, 3), (4, 4), (5, 5), (6, 6), (7, 7), (8, 13)]) (c45 b (([min m n, max m n].take (1 : Int).toNat).drop (0 : Int).toNat) hm (by simp)) e45 rfl rfl rfl w45 ⟨(lx rfl), (lx rfl), (lx rfl), (lx rfl), (lx rfl), (lx rfl), (lx rfl), (lx rfl), (lx rfl), trivial⟩ r45) ?_
      refine WPl.v rfl (o_move rfl) ?_
      refine WPl.v rfl (o_extract rfl rfl) ?_
      refine WPl.v rfl (o_extract rfl rfl) ?_
      refine WPl.v rfl (o_assign rfl) ?_
      refine WPl.v rfl (o_assign rfl) ?_
      refine WPl.nil (EX.then (WP.seq (WP.region ?_)))
      refine WPl.v rfl (o_ldpa G33 rfl rfl rfl) ?_
      refine WPl.v rfl (o_move rfl) ?_
      refine WPl.v rfl (o_move rfl) ?_
      refine WPl.cs 14 rfl rfl rfl rfl (o_sig 14 (ren [(0, 0), (1, 1), (2, 2), (3, 3), (4, 4), (5, 5), (6, 6), (7, 7)]) (c47 b m n hm) e47 rfl rfl rfl w47 ⟨(lx rfl), (lx rfl), (lx rfl), (lx rfl), (lx rfl), (lx rfl), (lx rfl), (lx rfl), trivial⟩ r47) ?_
      refine WPl.v rfl (o_move rfl) ?_
      refine WPl.v rfl (o_extract rfl rfl) ?_
      refine WPl.v rfl (o_extract rfl rfl) ?_
      refine WPl.v rfl (o_assign rfl) ?_
      refine WPl.v rfl (o_assign rfl) ?_
      refine WPl.nil (EX.then (WP.seq (WP.region ?_)))
      refine WPl.v rfl (o_ldpa G33 rfl rfl rfl) ?_
      refine WPl.v rfl (o_move rfl) ?_
      refine WPl.v rfl (o_move rfl) ?_
      refine WPl.cs 14 rfl rfl rfl rfl (o_sig 14 (ren [(0, 0), (1, 1), (2, 2), (3, 3), (4, 4), (5, 5), (6, 6), (7, 7)]) (c47 b n m hm) e47 rfl rfl rfl w47 ⟨(lx rfl), (lx rfl), (lx rfl), (lx rfl), (lx rfl), (lx rfl), (lx rfl), (lx rfl), trivial⟩ r47) ?_
      refine WPl.v rfl (o_move rfl) ?_
      refine WPl.v rfl (o_extract rfl rfl) ?_
      refine WPl.v rfl (o_extract rfl rfl) ?_
      refine WPl.v rfl (o_assign rfl) ?_
      refine WPl.v rfl (o_assign rfl) ?_
      refine WPl.nil (EX.then (WP.seq (WP.seq (WP.region ?_))))
      refine WPl.v rfl (o_move rfl) ?_
      refine WPl.v rfl (o_neq rfl rfl) ?_
      refine WPl.imp (Imp.bitF 63 (b' := false) rfl (decide_eq_false (fun h => h law.g))) ?_
      refine WPl.v rfl (o_move rfl) ?_
      refine WPl.on rfl ⟨_, _, rfl, rfl, rfl⟩ (o_move rfl) ?_
      refine WPl.on rfl ⟨_, _, rfl, rfl, rfl⟩ (o_move rfl) ?_
      refine WPl.on rfl ⟨_, _, rfl, rfl, rfl⟩ (o_neq rfl rfl) ?_
      refine WPl.imp (Imp.bitF 67 (b' := false) rfl (decide_eq_false (fun h => h law.v))) ?_
      refine WPl.v rfl (o_pickF rfl rfl) ?_
      refine WPl.v rfl (o_move rfl) ?_
      refine WPl.on rfl ⟨_, _, rfl, rfl, rfl⟩ (o_move rfl) ?_
      refine WPl.on rfl ⟨_, _, rfl, rfl, rfl⟩ (o_move rfl) ?_
      refine WPl.on rfl ⟨_, _, rfl, rfl, rfl⟩ (o_neq rfl rfl) ?_
      refine WPl.imp (Imp.bitF 72 (b' := false) rfl (decide_eq_false (fun h => h law.e))) ?_
      refine WPl.v rfl (o_pickF rfl rfl) ?_
      refine WPl.v rfl (o_move rfl) ?_
      refine WPl.on rfl ⟨_, _, rfl, rfl, rfl⟩ (o_move rfl) ?_
      refine WPl.on rfl ⟨_, _, rfl, rfl, rfl⟩ (o_move rfl) ?_
      refine WPl.on rfl ⟨_, _, rfl, rfl, rfl⟩ (o_eql rfl rfl) ?_
      refine WPl.on rfl ⟨_, _, rfl, rfl, rfl⟩ (o_neb Tryz.underlying4 rfl rfl) ?_
      refine WPl.imp (Imp.bitF 78 (b' := false) rfl (by rw [law.i]; simp)) ?_
      refine WPl.v rfl (o_pickF rfl rfl) ?_
      refine WPl.v rfl (o_move rfl) ?_
      refine WPl.on rfl ⟨_, _, rfl, rfl, rfl⟩ (o_move rfl) ?_
      refine WPl.on rfl ⟨_, _, rfl, rfl, rfl⟩ (o_neq rfl rfl) ?_
      refine WPl.on rfl ⟨_, _, rfl, rfl, rfl⟩ (o_move rfl) ?_
      refine WPl.bit 14 15 (decide ((clashE b m n) ≠ 0)) rfl rfl ?_
      refine WPl.gv 14 rfl rfl (.plain rfl Iff.rfl rfl) (fun hb => o_move rfl) ?_
      refine WPl.gv 14 rfl rfl (.plain rfl Iff.rfl rfl) (fun hb => o_neq rfl rfl) ?_
      refine WPl.on rfl ⟨_, _, rfl, rfl, rfl⟩ (o_and rfl rfl rfl id) ?_
      refine WPl.v rfl (o_pickF rfl rfl) ?_
      refine WPl.imp (Imp.bitF 87 (b' := false) rfl (by rcases law.f with h | h <;> simp [h])) ?_
      refine WPl.nil (EX.then ?_)
      refine WP.cond rfl (fun h => by cases h) (fun _ => ?_)
      refine WP.skip (EX.then (WP.seq (WP.region ?_)))
      refine WPl.v rfl (o_move rfl) ?_
      refine WPl.v rfl (o_neq rfl rfl) ?_
      refine WPl.v rfl (o_move rfl) ?_
      refine WPl.bit 15 16 (!(decide ((clashE b m n) ≠ 0))) rfl rfl ?_
      refine WPl.gv 15 rfl rfl (.plain rfl (by first | (simp; done) | simp only [Bool.not_eq_true']) rfl) (fun hb => o_move rfl) ?_
      refine WPl.gc0 15 rfl rfl (.plain rfl (by first | (simp; done) | simp only [Bool.not_eq_true']) rfl) (fun hb => o_sig 16 id (c26 (clashV b m n) 1 3) e26 rfl rfl rfl w26 trivial r26) ?_
      refine WPl.v rfl (o_or rfl rfl rfl (by first | (simp; done) | exact fun h => by rw [h]; rfl | exact fun h => Bool.and_eq_true_iff.2 ⟨hb, by rw [h]; rfl⟩ | simp_all)) ?_
      refine WPl.imp (Imp.bitF 93 (b' := true) rfl (by rcases law.f with h | h; (have h3 := law.w h; simp [h, within, h3.1, h3.2]); (simp [h]))) ?_
      refine WPl.v rfl (o_move rfl) ?_
      refine WPl.ung ⟨_, _, rfl, rfl, rfl⟩ ?_
      refine WPl.cs 16 rfl rfl rfl rfl (o_sig 16 (ren [(0, 8)]) c19 e19 rfl rfl rfl w19 ⟨(lx rfl), trivial⟩ r19) ?_
      refine WPl.v rfl (o_pickT rfl rfl) ?_
      refine WPl.v rfl (o_assign rfl) ?_
      refine WPl.nil (EX.then (WP.ret ?_))
      exact EX.fin id (.inl rfl) rfl (.tmp rfl .nil) rfl r9 trivial (by simp) (by simp)
    · try simp only [cnd] at hc2
      have law : TwoLaw b m n [min m n, max m n] := two_law hc (by omega) h1 h2 (by rw [if_neg hc2])
      refine WP.skip (EX.then (WP.seq (WP.region ?_)))
      refine WPl.v rfl (o_ldpa G33 rfl rfl rfl) ?_
      refine WPl.v rfl (o_move rfl) ?_
      refine WPl.cs 13 rfl rfl rfl rfl (o_sig 13 (ren [(0, 0), (1, 1), (2, 2), (3, 3), (4, 4), (5, 5), (6, 6), (7, 7), (8, 12)]) (c45 b [min m n, max m n] hm (by simp)) e45 rfl rfl rfl w45 ⟨(lx rfl), (lx rfl), (lx rfl), (lx rfl), (lx rfl), (lx rfl), (lx rfl), (lx rfl), (lx rfl), trivial⟩ r45) ?_
      refine WPl.v rfl (o_move rfl) ?_
      refine WPl.v rfl (o_extract rfl rfl) ?_
      refine WPl.v rfl (o_extract rfl rfl) ?_
      refine WPl.v rfl (o_assign rfl) ?_
      refine WPl.v rfl (o_assign rfl) ?_
      refine WPl.nil (EX.then (WP.seq (WP.region ?_)))
      refine WPl.v rfl (o_ldpa G33 rfl rfl rfl) ?_
      refine WPl.v rfl (o_move rfl) ?_
      refine WPl.v rfl (o_move rfl) ?_
      refine WPl.cs 13 rfl rfl rfl rfl (o_sig 13 (ren [(0, 0), (1, 1), (2, 2), (3, 3), (4, 4), (5, 5), (6, 6), (7, 7)]) (c47 b m n hm) e47 rfl rfl rfl w47 ⟨(lx rfl), (lx rfl), (lx rfl), (lx rfl), (lx rfl), (lx rfl), (lx rfl), (lx rfl), trivial⟩ r47) ?_
      refine WPl.v rfl (o_move rfl) ?_
      refine WPl.v rfl (o_extract rfl rfl) ?_
      refine WPl.v rfl (o_extract rfl rfl) ?_
      refine WPl.v rfl (o_assign rfl) ?_
      refine WPl.v rfl (o_assign rfl) ?_
      refine WPl.nil (EX.then (WP.seq (WP.region ?_)))
      refine WPl.v rfl (o_ldpa G33 rfl rfl rfl) ?_
      refine WPl.v rfl (o_move rfl) ?_
      refine WPl.v rfl (o_move rfl) ?_
      refine WPl.cs 13 rfl rfl rfl rfl (o_sig 13 (ren [(0, 0), (1, 1), (2, 2), (3, 3), (4, 4), (5, 5), (6, 6), (7, 7)]) (c47 b n m hm) e47 rfl rfl rfl w47 ⟨(lx rfl), (lx rfl), (lx rfl), (lx rfl), (lx rfl), (lx rfl), (lx rfl), (lx rfl), trivial⟩ r47) ?_
      refine WPl.v rfl (o_move rfl) ?_
      refine WPl.v rfl (o_extract rfl rfl) ?_
      refine WPl.v rfl (o_extract rfl rfl) ?_
      refine WPl.v rfl (o_assign rfl) ?_
      refine WPl.v rfl (o_assign rfl) ?_
      refine WPl.nil (EX.then (WP.seq (WP.seq (WP.region ?_))))
      refine WPl.v rfl (o_move rfl) ?_
      refine WPl.v rfl (o_neq rfl rfl) ?_
      refine WPl.imp (Imp.bitF 63 (b' := false) rfl (decide_eq_false (fun h => h law.g))) ?_
      refine WPl.v rfl (o_move rfl) ?_
      refine WPl.on rfl ⟨_, _, rfl, rfl, rfl⟩ (o_move rfl) ?_
      refine WPl.on rfl ⟨_, _, rfl, rfl, rfl⟩ (o_move rfl) ?_
      refine WPl.on rfl ⟨_, _, rfl, rfl, rfl⟩ (o_neq rfl rfl) ?_
      refine WPl.imp (Imp.bitF 67 (b' := false) rfl (decide_eq_false (fun h => h law.v))) ?_
      refine WPl.v rfl (o_pickF rfl rfl) ?_
      refine WPl.v rfl (o_move rfl) ?_
      refine WPl.on rfl ⟨_, _, rfl, rfl, rfl⟩ (o_move rfl) ?_
      refine WPl.on rfl ⟨_, _, rfl, rfl, rfl⟩ (o_move rfl) ?_
      refine WPl.on rfl ⟨_, _, rfl, rfl, rfl⟩ (o_neq rfl rfl) ?_
      refine WPl.imp (Imp.bitF 72 (b' := false) rfl (decide_eq_false (fun h => h law.e))) ?_
      refine WPl.v rfl (o_pickF rfl rfl) ?_
      refine WPl.v rfl (o_move rfl) ?_
      refine WPl.on rfl ⟨_, _, rfl, rfl, rfl⟩ (o_move rfl) ?_
      refine WPl.on rfl ⟨_, _, rfl, rfl, rfl⟩ (o_move rfl) ?_
      refine WPl.on rfl ⟨_, _, rfl, rfl, rfl⟩ (o_eql rfl rfl) ?_
      refine WPl.on rfl ⟨_, _, rfl, rfl, rfl⟩ (o_neb Tryz.underlying4 rfl rfl) ?_
      refine WPl.imp (Imp.bitF 78 (b' := false) rfl (by rw [law.i]; simp)) ?_
      refine WPl.v rfl (o_pickF rfl rfl) ?_
      refine WPl.v rfl (o_move rfl) ?_
      refine WPl.on rfl ⟨_, _, rfl, rfl, rfl⟩ (o_move rfl) ?_
      refine WPl.on rfl ⟨_, _, rfl, rfl, rfl⟩ (o_neq rfl rfl) ?_
      refine WPl.on rfl ⟨_, _, rfl, rfl, rfl⟩ (o_move rfl) ?_
      refine WPl.bit 13 14 (decide ((clashE b m n) ≠ 0)) rfl rfl ?_
      refine WPl.gv 13 rfl rfl (.plain rfl Iff.rfl rfl) (fun hb => o_move rfl) ?_
      refine WPl.gv 13 rfl rfl (.plain rfl Iff.rfl rfl) (fun hb => o_neq rfl rfl) ?_
      refine WPl.on rfl ⟨_, _, rfl, rfl, rfl⟩ (o_and rfl rfl rfl id) ?_
      refine WPl.v rfl (o_pickF rfl rfl) ?_
      refine WPl.imp (Imp.bitF 87 (b' := false) rfl (by rcases law.f with h | h <;> simp [h])) ?_
      refine WPl.nil (EX.then ?_)
      refine WP.cond rfl (fun h => by cases h) (fun _ => ?_)
      refine WP.skip (EX.then (WP.seq (WP.region ?_)))
      refine WPl.v rfl (o_move rfl) ?_
      refine WPl.v rfl (o_neq rfl rfl) ?_
      refine WPl.v rfl (o_move rfl) ?_
      refine WPl.bit 14 15 (!(decide ((clashE b m n) ≠ 0))) rfl rfl ?_
      refine WPl.gv 14 rfl rfl (.plain rfl (by first | (simp; done) | simp only [Bool.not_eq_true']) rfl) (fun hb => o_move rfl) ?_
      refine WPl.gc0 14 rfl rfl (.plain rfl (by first | (simp; done) | simp only [Bool.not_eq_true']) rfl) (fun hb => o_sig 15 id (c26 (clashV b m n) 1 3) e26 rfl rfl rfl w26 trivial r26) ?_
      refine WPl.v rfl (o_or rfl rfl rfl (by first | (simp; done) | exact fun h => by rw [h]; rfl | exact fun h => Bool.and_eq_true_iff.2 ⟨hb, by rw [h]; rfl⟩ | simp_all)) ?_
      refine WPl.imp (Imp.bitF 93 (b' := true) rfl (by rcases law.f with h | h; (have h3 := law.w h; simp [h, within, h3.1, h3.2]); (simp [h]))) ?_
      refine WPl.v rfl (o_move rfl) ?_
      refine WPl.ung ⟨_, _, rfl, rfl, rfl⟩ ?_
      refine WPl.cs 15 rfl rfl rfl rfl (o_sig 15 (ren [(0, 8)]) c19 e19 rfl rfl rfl w19 ⟨(lx rfl), trivial⟩ r19) ?_
      refine WPl.v rfl (o_pickT rfl rfl) ?_
      refine WPl.v rfl (o_assign rfl) ?_
      refine WPl.nil (EX.then (WP.ret ?_))
      exact EX.fin id (.inl rfl) rfl (.tmp rfl .nil) rfl r9 trivial (by simp) (by simp)
theorem w14 {b : Book} {l : List Int} {k : Int} : ∀ x ∈ ([.e (.g [.q 0, .q 1, .q 2, ai (b.hall.change), .q 3, .q 4, .q 5, .q 6, ai (b.boys), .q 7]), .e (.a (.q 9)), .i (k)] : List SV), x.res (keys (α := Pred) [(0, PL ETm (b.hall.machs)), (1, PL EBd (b.hall.buns)), (2, PL EP.int (b.hall.trains)), (3, PL EP.int (b.hall.bores)), (4, PL (EP.sl EP.int) (b.hall.eds)), (5, PL EPl (b.set)), (6, PL EP.int (b.walk)), (7, PL ETa (b.tals)), (8, (Pred.tab 1 tz64)), (9, PL EP.int (l))]) := by simp [SV.res, El.res, At.res, keys]
theorem r14  : SV.res (keys (α := Pred) []) (.b (true)) := by simp [SV.res, El.res, At.res, keys]
set_option maxHeartbeats 4000000 in
set_option maxRecDepth 10000 in
theorem c14 (b : Book) (l : List Int) (k : Int)  : Sig Tryz.prog 14 [.e (.g [.q 0, .q 1, .q 2, ai (b.hall.change), .q 3, .q 4, .q 5, .q 6, ai (b.boys), .q 7]), .e (.a (.q 9)), .i (k)] [(0, PL ETm (b.hall.machs)), (1, PL EBd (b.hall.buns)), (2, PL EP.int (b.hall.trains)), (3, PL EP.int (b.hall.bores)), (4, PL (EP.sl EP.int) (b.hall.eds)), (5, PL EPl (b.set)), (6, PL EP.int (b.walk)), (7, PL ETa (b.tals)), (8, (Pred.tab 1 tz64)), (9, PL EP.int (l))] (.b (true)) [] := by
  refine Sig.intro Tryz.func14 rfl 10 [(0, .e (.g [.q 0, .q 1, .q 2, ai (b.hall.change), .q 3, .q 4, .q 5, .q 6, ai (b.boys), .q 7])), (1, .e (.a (.q 9))), (2, .i (k))] rfl w14 rfl rfl fun I w => ?_
  refine WP.seq (WP.region ?_)
  refine WPl.l 10 11 rfl rfl rfl (o_boxg rfl) ?_
  refine WPl.v rfl (o_assign rfl) ?_
  refine WPl.nil (EX.then (WP.seq (WP.seq (WP.region ?_))))
  refine WPl.v rfl (o_ldpa G33 rfl rfl rfl) ?_
  refine WPl.cs 11 rfl rfl rfl rfl (o_sig 11 (ren [(0, 0), (1, 1), (2, 2), (3, 3), (4, 4), (5, 5), (6, 6), (7, 7)]) (c24 b) e24 rfl rfl rfl w24 ⟨(lx rfl), (lx rfl), (lx rfl), (lx rfl), (lx rfl), (lx rfl), (lx rfl), (lx rfl), trivial⟩ r24) ?_
  refine WPl.v rfl (o_not rfl) ?_
  refine WPl.v rfl (o_move rfl) ?_
  refine WPl.bit 11 12 (!(!b.ready)) rfl rfl ?_
  refine WPl.gv 11 rfl rfl (.plain rfl (by first | (simp; done) | simp only [Bool.not_eq_true']) rfl) (fun hb => o_ldpa G33 rfl rfl rfl) ?_
  refine WPl.gv 11 rfl rfl (.plain rfl (by first | (simp; done) | simp only [Bool.not_eq_true']) rfl) (fun hb => o_move rfl) ?_
  refine WPl.gc0 11 rfl rfl (.plain rfl (by first | (simp; done) | simp only [Bool.not_eq_true']) rfl) (fun hb => o_sig 12 (ren [(0, 0), (1, 1), (2, 2), (3, 3), (4, 4), (5, 5), (6, 6), (7, 7), (8, 9)]) (c33 b l (ready_small (b := b) (by simp at hb; first | exact hb | exact hb.1 | exact hb.1.1))) e33 rfl rfl rfl w33 ⟨(lx rfl), (lx rfl), (lx rfl), (lx rfl), (lx rfl), (lx rfl), (lx rfl), (lx rfl), (lx rfl), trivial⟩ r33) ?_
  refine WPl.gv 11 rfl rfl (.plain rfl (by first | (simp; done) | simp only [Bool.not_eq_true']) rfl) (fun hb => o_not rfl) ?_
  refine WPl.v rfl (o_or rfl rfl rfl (by first | (simp; done) | exact fun h => by rw [h]; rfl | exact fun h => Bool.and_eq_true_iff.2 ⟨hb, by rw [h]; rfl⟩ | simp_all)) ?_
  refine WPl.nil (EX.then ?_)
  refine WP.cond rfl (fun hc1 => ?_) (fun hc1 => ?_)
  · try simp only [cnd] at hc1
    refine WP.seq (WP.region ?_)
    refine WPl.cs 12 rfl rfl rfl rfl (o_sig 12 (ren [(0, 8)]) c19 e19 rfl rfl rfl w19 ⟨(lx rfl), trivial⟩ r19) ?_
    refine WPl.v rfl (o_assign rfl) ?_
    refine WPl.nil (EX.then (WP.ret (EX.ret_then ?_)))
    exact EX.fin id (.inl rfl) rfl (.tmp rfl .nil) rfl r14 trivial (by simp) (by simp)
  · try simp only [cnd] at hc1
    have hc : b.chk = true := ready_chk hc1.1
    have hm : b.Small := ready_small hc1.1
    have hB := bookB hc
    have ht8 := hB.t
    have hm6 := hm.s
    have hli := hc1.2
    simp only [isListB, Bool.and_eq_true, decide_eq_true_eq] at hli
    have hl : rl b l := hli.2
    have law := parts_law hc (by omega) hl k
    refine WP.skip (EX.then (WP.seq ?_))
    refine WP.draw (nf := 14) [⟨[24, 25, 26], [12, 13], [], [], []⟩, ⟨[23, 25], [], [12], [12], []⟩, ⟨[23, 24], [12], [], [], []⟩, ⟨[23], [], [13], [13, 12], [1, 2]⟩, ⟨[], [], [], [], [0, 1, 2, 3]⟩, ⟨[], [], [], [], [0, 1, 2, 3, 4]⟩, ⟨[29], [], [], [], [0, 1, 2, 3, 4, 5]⟩, ⟨[28, 7], [], [], [], [0, 1, 2, 3, 4, 5]⟩, ⟨[29], [], [], [], [0, 1, 2, 3, 4, 5, 6]⟩, ⟨[], [], [], [], [0, 1, 2, 3, 4, 5, 6, 7, 8]⟩] (by kernel_rfl) (by kernel_rfl) ?_
    refine DRQ.v rfl rfl rfl (o_ldpa G33 rfl rfl rfl) ?_
    refine DRQ.l 12 rfl rfl rfl rfl (o_bsl (E := EP.int) (l := []) R24 rfl rfl (.nil) rfl rfl) ?_
    refine DRQ.v rfl rfl rfl (o_move rfl) ?_
    refine DRQ.u1 13 rfl rfl rfl (OpG.settle1 (.inl rfl) rfl (o_apps R24 EP.int_one rfl rfl rfl (lx rfl) (by simp; omega) (by simp; omega))) rfl ?_
    refine DRQ.cs rfl rfl rfl rfl (o_sig 14 (ren [(0, 0), (1, 1), (2, 2), (3, 3), (4, 4), (5, 5), (6, 6), (7, 7), (8, 13)]) (c45 b ([] ++ l) hm (by simp; omega)) e45 rfl rfl rfl w45 ⟨(lx rfl), (lx rfl), (lx rfl), (lx rfl), (lx rfl), (lx rfl), (lx rfl), (lx rfl), (lx rfl), trivial⟩ r45) ?_
    refine DRQ.v rfl rfl rfl (o_move rfl) ?_
    refine DRQ.v rfl rfl rfl (o_extract rfl rfl) ?_
    refine DRQ.v rfl rfl rfl (o_extract rfl rfl) ?_
    refine DRQ.v rfl rfl rfl (o_assign rfl) ?_
    refine DRQ.v rfl rfl rfl (o_assign rfl) ?_
    refine DRQ.nil' ?_
    refine EX.then (WP.seq (WP.region ?_))
    rw [List.nil_append]
    refine WPl.v rfl (o_ldpa G33 rfl rfl rfl) ?_
    refine WPl.cs 14 rfl rfl rfl rfl (o_sig 14 (ren [(0, 0), (1, 1), (2, 2), (3, 3), (4, 4), (5, 5), (6, 6), (7, 7), (8, 8)]) (c52 b hm) e52 rfl rfl rfl w52 ⟨(lx rfl), (lx rfl), (lx rfl), (lx rfl), (lx rfl), (lx rfl), (lx rfl), (lx rfl), (lx rfl), trivial⟩ r52) ?_
    refine WPl.v rfl (o_assign rfl) ?_
    refine WPl.nil (EX.then (WP.seq (WP.seq (WP.region ?_))))
    refine WPl.v rfl (o_move rfl) ?_
    refine WPl.v rfl (o_neq rfl rfl) ?_
    refine WPl.imp (Imp.bitF 33 (b' := false) rfl (decide_eq_false (fun h => h law.g))) ?_
    refine WPl.v rfl (o_move rfl) ?_
    refine WPl.on rfl ⟨_, _, rfl, rfl, rfl⟩ (o_move rfl) ?_
    refine WPl.on rfl ⟨_, _, rfl, rfl, rfl⟩ (o_lss rfl rfl) ?_
    refine WPl.imp (Imp.bitF 36 (b' := false) rfl (decide_eq_false (by have h := law.n; omega))) ?_
    refine WPl.v rfl (o_pickF rfl rfl) ?_
    refine WPl.v rfl (o_move rfl) ?_
    refine WPl.on rfl ⟨_, _, rfl, rfl, rfl⟩ (o_move rfl) ?_
    refine WPl.ung ⟨_, _, rfl, rfl, rfl⟩ ?_
    refine WPl.v rfl (o_ldpa G33 rfl rfl rfl) ?_
    refine WPl.on rfl ⟨_, _, rfl, rfl, rfl⟩ (o_move rfl) ?_
    refine WPl.ung ⟨_, _, rfl, rfl, rfl⟩ ?_
    refine WPl.cs 14 rfl rfl rfl rfl (o_sig 14 (ren [(0, 0), (1, 1), (2, 2), (3, 3), (4, 4), (5, 5), (6, 6), (7, 7), (8, 9)]) (c54 b l hB (by omega) (by omega) (rising_in hl)) e54 rfl rfl rfl w54 ⟨(lx rfl), (lx rfl), (lx rfl), (lx rfl), (lx rfl), (lx rfl), (lx rfl), (lx rfl), (lx rfl), trivial⟩ r54) ?_
    refine WPl.on rfl ⟨_, _, rfl, rfl, rfl⟩ (o_neb Tryz.underlying4 rfl rfl) ?_
    refine WPl.imp (Imp.bitF 43 (b' := false) rfl (by rw [law.v]; simp)) ?_
    refine WPl.v rfl (o_pickF rfl rfl) ?_
    refine WPl.v rfl (o_move rfl) ?_
    refine WPl.on rfl ⟨_, _, rfl, rfl, rfl⟩ (o_move rfl) ?_
    refine WPl.on rfl ⟨_, _, rfl, rfl, rfl⟩ (o_move rfl) ?_
    refine WPl.bit 14 15 (goodV b (l)) rfl rfl ?_
    refine WPl.gv 14 rfl rfl (.plain rfl Iff.rfl rfl) (fun hb => o_move rfl) ?_
    refine WPl.gv 14 rfl rfl (.plain rfl Iff.rfl rfl) (fun hb => o_lenq L24 rfl (lx rfl)) ?_
    refine WPl.gv 14 rfl rfl (.plain rfl Iff.rfl rfl) (fun hb => o_fldp F33_4 rfl) ?_
    refine WPl.gv 14 rfl rfl (.plain rfl Iff.rfl rfl) (fun hb => o_ldp S31 rfl rfl rfl) ?_
    refine WPl.gv 14 rfl rfl (.plain rfl Iff.rfl rfl) (fun hb => o_lenq L31 rfl (lx rfl)) ?_
    refine WPl.gv 14 rfl rfl (.plain rfl Iff.rfl rfl) (fun hb => o_move rfl) ?_
    refine WPl.gv 14 rfl rfl (.plain rfl Iff.rfl rfl) (fun hb => o_sub rfl rfl (by have h := law.n; omega) (by have h := law.n; omega)) ?_
    refine WPl.gv 14 rfl rfl (.plain rfl Iff.rfl rfl) (fun hb => o_gtr rfl rfl) ?_
    refine WPl.on rfl ⟨_, _, rfl, rfl, rfl⟩ (o_and rfl rfl rfl id) ?_
    refine WPl.v rfl (o_pickF rfl rfl) ?_
    refine WPl.imp (Imp.bitF 57 (b' := false) rfl (by rw [law.v, Bool.and_eq_false_iff, decide_eq_false_iff_not]; by_cases hg : good b l = true; (right; have h := law.m hg; omega); (left; simpa using hg))) ?_
    refine WPl.nil (EX.then ?_)
    refine WP.cond rfl (fun h => by cases h) (fun _ => ?_)
    refine WP.skip (EX.then (WP.seq (WP.seq (WP.region ?_))))
    refine WPl.v rfl (o_move rfl) ?_
    refine WPl.v rfl (o_not rfl) ?_
    refine WPl.v rfl (o_move rfl) ?_
    refine WPl.bit 15 16 (!(!(goodV b (l)))) rfl rfl ?_
    refine WPl.gv 15 rfl rfl (.plain rfl (by first | (simp; done) | simp only [Bool.not_eq_true']) rfl) (fun hb => o_move rfl) ?_
    refine WPl.gv 15 rfl rfl (.plain rfl (by first | (simp; done) | simp only [Bool.not_eq_true']) rfl) (fun hb => o_move rfl) ?_
    refine WPl.gv 15 rfl rfl (.plain rfl (by first | (simp; done) | simp only [Bool.not_eq_true']) rfl) (fun hb => o_lenq L24 rfl (lx rfl)) ?_
    refine WPl.gv 15 rfl rfl (.plain rfl (by first | (simp; done) | simp only [Bool.not_eq_true']) rfl) (fun hb => o_sub rfl rfl (by first | omega | (simp; omega)) (by first | omega | (simp; omega))) ?_
    refine WPl.gc0 15 rfl rfl (.plain rfl (by first | (simp; done) | simp only [Bool.not_eq_true']) rfl) (fun hb => o_sig 16 id (c26 k 0 ((l.length : Int) - 1)) e26 rfl rfl rfl w26 trivial r26) ?_
    refine WPl.gv 15 rfl rfl (.plain rfl (by first | (simp; done) | simp only [Bool.not_eq_true']) rfl) (fun hb => o_not rfl) ?_
    refine WPl.v rfl (o_or rfl rfl rfl (by first | (simp; done) | exact fun h => by rw [h]; rfl | exact fun h => Bool.and_eq_true_iff.2 ⟨hb, by rw [h]; rfl⟩ | simp_all)) ?_
    refine WPl.nil (EX.then ?_)
    refine WP.cond rfl (fun hc3 => ?_) (fun hc3 => ?_)
    · try simp only [cnd] at hc3
      refine WP.seq (WP.region ?_)
      refine WPl.cs 16 rfl rfl rfl rfl (o_sig 16 (ren [(0, 8)]) c19 e19 rfl rfl rfl w19 ⟨(lx rfl), trivial⟩ r19) ?_
      refine WPl.v rfl (o_assign rfl) ?_
      refine WPl.nil (EX.then (WP.ret (EX.ret_then ?_)))
      exact EX.fin id (.inl rfl) rfl (.tmp rfl .nil) rfl r14 trivial (by simp) (by simp)
    · try simp only [cnd] at hc3
      have hk : 0 ≤ k ∧ k < l.length := by have h := hc3.2; simp only [within, Bool.and_eq_true, decide_eq_true_eq] at h; omega
      have hgd : good b l = true := by rw [← law.v]; exact hc3.1
      have hcl := (cutP_sub l k hk.1).length_le
      unfold cutP at hcl
      refine WP.skip (EX.then (WP.seq ?_))
      refine WP.draw (nf := 21) [⟨[71, 72, 73, 74, 75, 76, 77, 78, 79, 80], [16, 17, 18, 19, 20], [], [], []⟩, ⟨[70, 72, 73, 74, 76, 77, 78, 79], [17, 19], [16], [16], []⟩, ⟨[70, 71, 73, 76, 77, 78, 79], [16, 19], [], [], []⟩, ⟨[70, 71, 72, 76, 77, 78, 79], [16, 19], [], [], []⟩, ⟨[70, 71, 76, 77, 78, 79], [16, 19], [17], [17], [2, 3]⟩, ⟨[70, 76, 77, 78, 79], [19], [18], [18, 16], [1, 2, 3, 4]⟩, ⟨[70, 71, 72, 73, 74, 75, 77, 78], [16, 17, 18], [], [], []⟩, ⟨[70, 71, 72, 73, 74, 75, 76], [16, 17, 18], [], [], []⟩, ⟨[70, 71, 72, 73, 74, 75, 76], [16, 17, 18], [], [], [7]⟩, ⟨[70, 71, 72, 73, 74, 75], [16, 17, 18], [19], [19], [6, 7, 8]⟩, ⟨[70], [], [20], [20, 18], [1, 2, 3, 4, 5, 6, 7, 8, 9]⟩, ⟨[], [], [], [], [0, 1, 2, 3, 4, 5, 6, 7, 8, 9, 10]⟩, ⟨[], [], [], [], [0, 1, 2, 3, 4, 5, 6, 7, 8, 9, 10, 11]⟩, ⟨[83], [], [], [], [0, 1, 2, 3, 4, 5, 6, 7, 8, 9, 10, 11, 12]⟩, ⟨[82, 10], [], [], [], [0, 1, 2, 3, 4, 5, 6, 7, 8, 9, 10, 11, 12]⟩, ⟨[83], [], [], [], [0, 1, 2, 3, 4, 5, 6, 7, 8, 9, 10, 11, 12, 13]⟩, ⟨[], [], [], [], [0, 1, 2, 3, 4, 5, 6, 7, 8, 9, 10, 11, 12, 13, 14, 15]⟩] (by kernel_rfl) (by kernel_rfl) ?_
      refine DRQ.v rfl rfl rfl (o_ldpa G33 rfl rfl rfl) ?_
      refine DRQ.l 16 rfl rfl rfl rfl (o_bsl (E := EP.int) (l := []) R24 rfl rfl (.nil) rfl rfl) ?_
      refine DRQ.v rfl rfl rfl (o_move rfl) ?_
      refine DRQ.v rfl rfl rfl (o_move rfl) ?_
      refine DRQ.x 17 rfl rfl rfl rfl (o_slice (a := 0) (b := k) L24 rfl (lx rfl) rfl rfl (by omega) (by omega) (by omega)) ?_
      refine DRQ.l2 18 16 rfl rfl rfl rfl (o_apps R24 EP.int_one rfl rfl rfl (lx rfl) (by first | omega | (simp; omega) | (simp at *; omega)) (by first | omega | (simp; omega) | (simp at *; omega))) ?_
      refine DRQ.v rfl rfl rfl (o_move rfl) ?_
      refine DRQ.v rfl rfl rfl (o_move rfl) ?_
      refine DRQ.v rfl rfl rfl (o_add rfl rfl (by first | omega | (simp; omega)) (by first | omega | (simp; omega))) ?_
      refine DRQ.x 19 rfl rfl rfl rfl (o_slice (a := k + 1) (b := ((l).length : Int)) L24 rfl (lx rfl) rfl rfl (by omega) (by omega) (by omega)) ?_
      refine DRQ.u1 20 rfl rfl rfl (OpG.settle1 (.inl rfl) rfl (o_apps R24 EP.int_one rfl rfl rfl (lx rfl) (by first | omega | (simp; omega) | (simp at *; omega)) (by first | omega | (simp; omega) | (simp at *; omega)))) rfl ?_
      refine DRQ.cs rfl rfl rfl rfl (o_sig 21 (ren [(0, 0), (1, 1), (2, 2), (3, 3), (4, 4), (5, 5), (6, 6), (7, 7), (8, 20)]) (c45 b (([] ++ ((l.take k.toNat).drop (0 : Int).toNat)) ++ ((l.take ((l).length : Int).toNat).drop (k + 1).toNat)) hm (by omega)) e45 rfl rfl rfl w45 ⟨(lx rfl), (lx rfl), (lx rfl), (lx rfl), (lx rfl), (lx rfl), (lx rfl), (lx rfl), (lx rfl), trivial⟩ r45) ?_
      refine DRQ.v rfl rfl rfl (o_move rfl) ?_
      refine DRQ.v rfl rfl rfl (o_extract rfl rfl) ?_
      refine DRQ.v rfl rfl rfl (o_extract rfl rfl) ?_
      refine DRQ.v rfl rfl rfl (o_assign rfl) ?_
      refine DRQ.v rfl rfl rfl (o_assign rfl) ?_
      refine DRQ.nil' ?_
      refine EX.then (WP.seq (WP.region ?_))
      refine WPl.v rfl (o_move rfl) ?_
      refine WPl.v rfl (o_eql rfl rfl) ?_
      refine WPl.imp (Imp.bitF 85 (b' := true) rfl (decide_eq_true (law.e hk.1))) ?_
      refine WPl.v rfl (o_move rfl) ?_
      refine WPl.on rfl ⟨_, _, rfl, rfl, rfl⟩ (o_move rfl) ?_
      refine WPl.v rfl (o_pickT rfl rfl) ?_
      refine WPl.imp (Imp.bitF 88 (b' := true) rfl (law.p hk.1 hgd)) ?_
      refine WPl.v rfl (o_move rfl) ?_
      refine WPl.ung ⟨_, _, rfl, rfl, rfl⟩ ?_
      refine WPl.cs 21 rfl rfl rfl rfl (o_sig 21 (ren [(0, 8)]) c19 e19 rfl rfl rfl w19 ⟨(lx rfl), trivial⟩ r19) ?_
      refine WPl.v rfl (o_pickT rfl rfl) ?_
      refine WPl.v rfl (o_assign rfl) ?_
      refine WPl.nil (EX.then (WP.ret ?_))
      exact EX.fin id (.inl rfl) rfl (.tmp rfl .nil) rfl r14 trivial (by simp) (by simp)
theorem w8 {b : Book} {l : List Int} : ∀ x ∈ ([.e (.g [.q 0, .q 1, .q 2, ai (b.hall.change), .q 3, .q 4, .q 5, .q 6, ai (b.boys), .q 7]), .e (.a (.q 9))] : List SV), x.res (keys (α := Pred) [(0, PL ETm (b.hall.machs)), (1, PL EBd (b.hall.buns)), (2, PL EP.int (b.hall.trains)), (3, PL EP.int (b.hall.bores)), (4, PL (EP.sl EP.int) (b.hall.eds)), (5, PL EPl (b.set)), (6, PL EP.int (b.walk)), (7, PL ETa (b.tals)), (8, (Pred.tab 1 tz64)), (9, PL EP.int (l))]) := by simp [SV.res, El.res, At.res, keys]
theorem r8  : SV.res (keys (α := Pred) []) (.b (true)) := by simp [SV.res, El.res, At.res, keys]
set_option maxHeartbeats 4000000 in
set_option maxRecDepth 10000 in
theorem c8 (b : Book) (l : List Int)  : Sig Tryz.prog 8 [.e (.g [.q 0, .q 1, .q 2, ai (b.hall.change), .q 3, .q 4, .q 5, .q 6, ai (b.boys), .q 7]), .e (.a (.q 9))] [(0, PL ETm (b.hall.machs)), (1, PL EBd (b.hall.buns)), (2, PL EP.int (b.hall.trains)), (3, PL EP.int (b.hall.bores)), (4, PL (EP.sl EP.int) (b.hall.eds)), (5, PL EPl (b.set)), (6, PL EP.int (b.walk)), (7, PL ETa (b.tals)), (8, (Pred.tab 1 tz64)), (9, PL EP.int (l))] (.b (true)) [] := by
  refine Sig.intro Tryz.func8 rfl 10 [(0, .e (.g [.q 0, .q 1, .q 2, ai (b.hall.change), .q 3, .q 4, .q 5, .q 6, ai (b.boys), .q 7])), (1, .e (.a (.q 9)))] rfl w8 rfl rfl fun I w => ?_
  refine WP.seq (WP.region ?_)
  refine WPl.l 10 11 rfl rfl rfl (o_boxg rfl) ?_
  refine WPl.v rfl (o_assign rfl) ?_
  refine WPl.nil (EX.then (WP.seq (WP.seq (WP.region ?_))))
  refine WPl.v rfl (o_ldpa G33 rfl rfl rfl) ?_
  refine WPl.cs 11 rfl rfl rfl rfl (o_sig 11 (ren [(0, 0), (1, 1), (2, 2), (3, 3), (4, 4), (5, 5), (6, 6), (7, 7)]) (c24 b) e24 rfl rfl rfl w24 ⟨(lx rfl), (lx rfl), (lx rfl), (lx rfl), (lx rfl), (lx rfl), (lx rfl), (lx rfl), trivial⟩ r24) ?_
  refine WPl.v rfl (o_not rfl) ?_
  refine WPl.nil (EX.then ?_)
  refine WP.cond rfl (fun hc1 => ?_) (fun hc1 => ?_)
  · try simp only [cnd] at hc1
    refine WP.seq (WP.region ?_)
    refine WPl.cs 11 rfl rfl rfl rfl (o_sig 11 (ren [(0, 8)]) c19 e19 rfl rfl rfl w19 ⟨(lx rfl), trivial⟩ r19) ?_
    refine WPl.v rfl (o_assign rfl) ?_
    refine WPl.nil (EX.then (WP.ret (EX.ret_then ?_)))
    exact EX.fin id (.inl rfl) rfl (.tmp rfl .nil) rfl r8 trivial (by simp) (by simp)
  · try simp only [cnd] at hc1
    have hc : b.chk = true := ready_chk hc1
    have hm : b.Small := ready_small hc1
    have hB := bookB hc
    have ht8 := hB.t
    have hm6 := hm.s
    have law := blame_law hc l
    refine WP.skip (EX.then (WP.seq (WP.region ?_)))
    refine WPl.v rfl (o_ldpa G33 rfl rfl rfl) ?_
    refine WPl.cs 11 rfl rfl rfl rfl (o_sig 11 (ren [(0, 0), (1, 1), (2, 2), (3, 3), (4, 4), (5, 5), (6, 6), (7, 7), (8, 8)]) (c52 b hm) e52 rfl rfl rfl w52 ⟨(lx rfl), (lx rfl), (lx rfl), (lx rfl), (lx rfl), (lx rfl), (lx rfl), (lx rfl), (lx rfl), trivial⟩ r52) ?_
    refine WPl.v rfl (o_assign rfl) ?_
    refine WPl.nil (EX.then (WP.seq (WP.region ?_)))
    refine WPl.v rfl (o_ldpa G33 rfl rfl rfl) ?_
    refine WPl.cs 12 rfl rfl rfl rfl (o_sig 11 (ren [(0, 0), (1, 1), (2, 2), (3, 3), (4, 4), (5, 5), (6, 6), (7, 7), (8, 8)]) (c31 b hm) e31 rfl rfl rfl w31 ⟨(lx rfl), (lx rfl), (lx rfl), (lx rfl), (lx rfl), (lx rfl), (lx rfl), (lx rfl), (lx rfl), trivial⟩ r31) ?_
    refine WPl.v rfl (o_move rfl) ?_
    refine WPl.v rfl (o_extract rfl rfl) ?_
    refine WPl.v rfl (o_extract rfl rfl) ?_
    refine WPl.v rfl (o_assign rfl) ?_
    refine WPl.v rfl (o_assign rfl) ?_
    refine WPl.nil (EX.then (WP.seq (WP.seq ?_)))
    refine WP.imp (Imp.bit 12 13 (!(decide ((countB b) < 0))) rfl rfl) ?_
    refine WP.imp (Imp.bit 13 14 (!((decide ((countB b) < 0)) || (decide ((askE b true) ≠ 0)))) rfl rfl) ?_
    refine WP.imp (Imp.bit 14 15 (!(((decide ((countB b) < 0)) || (decide ((askE b true) ≠ 0))) || (decide (((blame b).length : Int) ≠ (countB b))))) rfl rfl) ?_
    refine WP.imp (Imp.bit 15 16 (!((((decide ((countB b) < 0)) || (decide ((askE b true) ≠ 0))) || (decide (((blame b).length : Int) ≠ (countB b)))) || (!(rising (blame b) 0 ((b.tals.length : Int) - 1))))) rfl rfl) ?_
    refine WP.draw (nf := 17) [⟨[], [], [], [], []⟩, ⟨[], [], [], [], [0]⟩, ⟨[], [], [], [], [0, 1]⟩, ⟨[], [], [], [], [0, 1, 2]⟩, ⟨[], [], [], [], [0, 1, 2, 3]⟩, ⟨[], [], [], [], [0, 1, 2, 3, 4]⟩, ⟨[], [], [], [], [0, 1, 2, 3, 4, 5]⟩, ⟨[28], [], [], [], [0, 1, 2, 3, 4, 5, 6]⟩, ⟨[28], [], [], [], [0, 1, 2, 3, 4, 5, 6, 7]⟩, ⟨[26, 27], [], [], [], [0, 1, 2, 3, 4, 5, 6]⟩, ⟨[], [], [], [], [0, 1, 2, 3, 4, 5, 6, 7, 8, 9]⟩, ⟨[], [], [], [], [0, 1, 2, 3, 4, 5, 6, 7, 8, 9, 10]⟩, ⟨[], [], [], [], [0, 1, 2, 3, 4, 5, 6, 7, 8, 9, 10, 11]⟩, ⟨[33], [], [], [], [0, 1, 2, 3, 4, 5, 6, 7, 8, 9, 10, 11, 12]⟩, ⟨[32], [], [], [], [0, 1, 2, 3, 4, 5, 6, 7, 8, 9, 10, 11, 12]⟩, ⟨[], [], [], [], [0, 1, 2, 3, 4, 5, 6, 7, 8, 9, 10, 11, 12, 13, 14]⟩, ⟨[], [], [], [], [0, 1, 2, 3, 4, 5, 6, 7, 8, 9, 10, 11, 12, 13, 14, 15]⟩, ⟨[], [], [], [], [0, 1, 2, 3, 4, 5, 6, 7, 8, 9, 10, 11, 12, 13, 14, 15, 16]⟩, ⟨[], [], [], [], [0, 1, 2, 3, 4, 5, 6, 7, 8, 9, 10, 11, 12, 13, 14, 15, 16, 17]⟩, ⟨[39, 40, 41], [16], [], [], [0, 1, 2, 3, 4, 5, 6, 7, 8, 9, 10, 11, 12, 13, 14, 15, 16, 17, 18]⟩, ⟨[38, 40], [], [], [], [0, 1, 2, 3, 4, 5, 6, 7, 8, 9, 10, 11, 12, 13, 14, 15, 16, 17, 18]⟩, ⟨[38, 39], [], [], [], [0, 1, 2, 3, 4, 5, 6, 7, 8, 9, 10, 11, 12, 13, 14, 15, 16, 17, 18]⟩, ⟨[38], [], [16], [16], [0, 1, 2, 3, 4, 5, 6, 7, 8, 9, 10, 11, 12, 13, 14, 15, 16, 17, 18, 20, 21]⟩, ⟨[], [], [], [], [0, 1, 2, 3, 4, 5, 6, 7, 8, 9, 10, 11, 12, 13, 14, 15, 16, 17, 18, 19, 20, 21, 22]⟩, ⟨[], [], [], [], [0, 1, 2, 3, 4, 5, 6, 7, 8, 9, 10, 11, 12, 13, 14, 15, 16, 17, 18, 19, 20, 21, 22, 23]⟩, ⟨[], [], [], [], [0, 1, 2, 3, 4, 5, 6, 7, 8, 9, 10, 11, 12, 13, 14, 15, 16, 17, 18, 19, 20, 21, 22, 23, 24]⟩] (by kernel_rfl) (by kernel_rfl) ?_
    refine DRQ.v rfl rfl rfl (o_move rfl) ?_
    refine DRQ.v rfl rfl rfl (o_lss rfl rfl) ?_
    refine DRQ.v rfl rfl rfl (o_move rfl) ?_
    refine DRQ.gv 12 rfl rfl (.plain rfl (by first | (simp; done) | simp only [Bool.not_eq_true']) rfl) rfl (fun hb => o_move rfl) ?_
    refine DRQ.gv 12 rfl rfl (.plain rfl (by first | (simp; done) | simp only [Bool.not_eq_true']) rfl) rfl (fun hb => o_neq rfl rfl) ?_
    refine DRQ.v rfl rfl rfl (o_or rfl rfl rfl (by first | (simp; done) | exact fun h => by rw [h]; rfl | exact fun h => Bool.and_eq_true_iff.2 ⟨hb, by rw [h]; rfl⟩ | simp_all)) ?_
    refine DRQ.v rfl rfl rfl (o_move rfl) ?_
    refine DRQ.gv 13 rfl rfl (.plain rfl (by first | (simp; done) | simp only [Bool.not_eq_true']) rfl) rfl (fun hb => o_move rfl) ?_
    refine DRQ.gv 13 rfl rfl (.plain rfl (by first | (simp; done) | simp only [Bool.not_eq_true']) rfl) rfl (fun hb => o_lenq L24 rfl (lx rfl)) ?_
    refine DRQ.gv 13 rfl rfl (.plain rfl (by first | (simp; done) | simp only [Bool.not_eq_true']) rfl) rfl (fun hb => o_move rfl) ?_
    refine DRQ.gv 13 rfl rfl (.plain rfl (by first | (simp; done) | simp only [Bool.not_eq_true']) rfl) rfl (fun hb => o_neq rfl rfl) ?_
    refine DRQ.v rfl rfl rfl (o_or rfl rfl rfl (by first | (simp; done) | exact fun h => by rw [h]; rfl | exact fun h => Bool.and_eq_true_iff.2 ⟨hb, by rw [h]; rfl⟩ | simp_all)) ?_
    refine DRQ.v rfl rfl rfl (o_move rfl) ?_
    refine DRQ.gv 14 rfl rfl (.plain rfl (by first | (simp; done) | simp only [Bool.not_eq_true']) rfl) rfl (fun hb => o_ldpa G33 rfl rfl rfl) ?_
    refine DRQ.gv 14 rfl rfl (.plain rfl (by first | (simp; done) | simp only [Bool.not_eq_true']) rfl) rfl (fun hb => o_move rfl) ?_
    refine DRQ.gv 14 rfl rfl (.plain rfl (by first | (simp; done) | simp only [Bool.not_eq_true']) rfl) rfl (fun hb => o_sig 16 (ren [(0, 0), (1, 1), (2, 2), (3, 3), (4, 4), (5, 5), (6, 6), (7, 7), (8, 11)]) (c53 b (blame b) (by omega) (by have h := blame_len b; omega)) e53 rfl rfl rfl w53 ⟨(lx rfl), (lx rfl), (lx rfl), (lx rfl), (lx rfl), (lx rfl), (lx rfl), (lx rfl), (lx rfl), trivial⟩ r53) ?_
    refine DRQ.gv 14 rfl rfl (.plain rfl (by first | (simp; done) | simp only [Bool.not_eq_true']) rfl) rfl (fun hb => o_not rfl) ?_
    refine DRQ.v rfl rfl rfl (o_or rfl rfl rfl (by first | (simp; done) | exact fun h => by rw [h]; rfl | exact fun h => Bool.and_eq_true_iff.2 ⟨hb, by rw [h]; rfl⟩ | simp_all)) ?_
    refine DRQ.v rfl rfl rfl (o_move rfl) ?_
    refine DRQ.gv 15 rfl rfl (.plain rfl (by first | (simp; done) | simp only [Bool.not_eq_true']) rfl) rfl (fun hb => o_ldpa G33 rfl rfl rfl) ?_
    refine DRQ.gv 15 rfl rfl (.plain rfl (by first | (simp; done) | simp only [Bool.not_eq_true']) rfl) rfl (fun hb => o_ldpa G33 rfl rfl rfl) ?_
    refine DRQ.gv 15 rfl rfl (.plain rfl (by first | (simp; done) | simp only [Bool.not_eq_true']) rfl) rfl (fun hb => o_move rfl) ?_
    refine DRQ.gcs 15 rfl rfl (.plain rfl (by first | (simp; done) | simp only [Bool.not_eq_true']) rfl) rfl rfl (fun hb => o_sig 16 (ren [(0, 0), (1, 1), (2, 2), (3, 3), (4, 4), (5, 5), (6, 6), (7, 7), (8, 11)]) (c34 b (blame b) (by omega) (by have h := blame_len b; omega)) e34 rfl rfl rfl w34 ⟨(lx rfl), (lx rfl), (lx rfl), (lx rfl), (lx rfl), (lx rfl), (lx rfl), (lx rfl), (lx rfl), trivial⟩ r34) ?_
    refine DRQ.gv 15 rfl rfl (.plain rfl (by first | (simp; done) | simp only [Bool.not_eq_true']) rfl) rfl (fun hb => o_sig 17 (ren [(0, 0), (1, 1), (2, 2), (3, 3), (4, 4), (5, 5), (6, 6), (7, 7), (8, 16)]) (c54 b (othersR b (blame b)) hB (by omega) (by have h := others_len b (blame b); omega) (others_in b _)) e54 rfl rfl rfl w54 ⟨(lx rfl), (lx rfl), (lx rfl), (lx rfl), (lx rfl), (lx rfl), (lx rfl), (lx rfl), (lxi hb rfl), trivial⟩ r54) ?_
    refine DRQ.gv 15 rfl rfl (.plain rfl (by first | (simp; done) | simp only [Bool.not_eq_true']) rfl) rfl (fun hb => o_not rfl) ?_
    refine DRQ.v rfl rfl rfl (o_or rfl rfl rfl (by first | (simp; done) | exact fun h => by rw [h]; rfl | exact fun h => Bool.and_eq_true_iff.2 ⟨hb, by rw [h]; rfl⟩ | simp_all)) ?_
    refine DRQ.nil' ?_
    refine EX.then ?_
    refine WP.cond rfl (fun hc2 => ?_) (fun hc2 => ?_)
    · try simp only [cnd] at hc2
      exfalso
      rcases hc2 with (((h | h) | h) | h) | h
      · have := law.n; omega
      · exact h law.e
      · exact h law.n.symm
      · have := law.r; unfold rl at this; rw [h] at this; cases this
      · have := law.g; rw [h] at this; cases this
    · try simp only [cnd] at hc2
      refine WP.skip (EX.then (WP.seq (WP.seq ?_)))
      refine WP.imp (Imp.bit 17 18 (!(!(isListB b l))) rfl rfl) ?_
      refine WP.draw (nf := 19) [⟨[46], [], [], [], []⟩, ⟨[45], [], [], [], []⟩, ⟨[], [], [], [], [0, 1]⟩, ⟨[], [], [], [], [0, 1, 2]⟩, ⟨[], [], [], [], [0, 1, 2, 3]⟩, ⟨[51, 52, 53], [18], [], [], [0, 1, 2, 3, 4]⟩, ⟨[50, 52], [], [], [], [0, 1, 2, 3, 4]⟩, ⟨[50, 51], [], [], [], [0, 1, 2, 3, 4]⟩, ⟨[50], [], [18], [18], [0, 1, 2, 3, 4, 6, 7]⟩, ⟨[], [], [], [], [0, 1, 2, 3, 4, 5, 6, 7, 8]⟩, ⟨[], [], [], [], [0, 1, 2, 3, 4, 5, 6, 7, 8, 9]⟩, ⟨[], [], [], [], [0, 1, 2, 3, 4, 5, 6, 7, 8, 9, 10]⟩] (by kernel_rfl) (by kernel_rfl) ?_
      refine DRQ.v rfl rfl rfl (o_ldpa G33 rfl rfl rfl) ?_
      refine DRQ.v rfl rfl rfl (o_move rfl) ?_
      refine DRQ.cs rfl rfl rfl rfl (o_sig 18 (ren [(0, 0), (1, 1), (2, 2), (3, 3), (4, 4), (5, 5), (6, 6), (7, 7), (8, 9)]) (c33 b l hm) e33 rfl rfl rfl w33 ⟨(lx rfl), (lx rfl), (lx rfl), (lx rfl), (lx rfl), (lx rfl), (lx rfl), (lx rfl), (lx rfl), trivial⟩ r33) ?_
      refine DRQ.v rfl rfl rfl (o_not rfl) ?_
      refine DRQ.v rfl rfl rfl (o_move rfl) ?_
      refine DRQ.gv 17 rfl rfl (.plain rfl (by first | (simp; done) | simp only [Bool.not_eq_true']) rfl) rfl (fun hb => o_ldpa G33 rfl rfl rfl) ?_
      refine DRQ.gv 17 rfl rfl (.plain rfl (by first | (simp; done) | simp only [Bool.not_eq_true']) rfl) rfl (fun hb => o_ldpa G33 rfl rfl rfl) ?_
      refine DRQ.gv 17 rfl rfl (.plain rfl (by first | (simp; done) | simp only [Bool.not_eq_true']) rfl) rfl (fun hb => o_move rfl) ?_
      refine DRQ.gcs 17 rfl rfl (.plain rfl (by first | (simp; done) | simp only [Bool.not_eq_true']) rfl) rfl rfl (fun hb => o_sig 18 (ren [(0, 0), (1, 1), (2, 2), (3, 3), (4, 4), (5, 5), (6, 6), (7, 7), (8, 9)]) (c34 b l (by omega) (by have h : isListB b l = true := (by simpa using hb); simp only [isListB, Bool.and_eq_true, decide_eq_true_eq] at h; omega)) e34 rfl rfl rfl w34 ⟨(lx rfl), (lx rfl), (lx rfl), (lx rfl), (lx rfl), (lx rfl), (lx rfl), (lx rfl), (lx rfl), trivial⟩ r34) ?_
      refine DRQ.gv 17 rfl rfl (.plain rfl (by first | (simp; done) | simp only [Bool.not_eq_true']) rfl) rfl (fun hb => o_sig 19 (ren [(0, 0), (1, 1), (2, 2), (3, 3), (4, 4), (5, 5), (6, 6), (7, 7), (8, 18)]) (c54 b (othersR b l) hB (by omega) (by have h := others_len b (l); omega) (others_in b _)) e54 rfl rfl rfl w54 ⟨(lx rfl), (lx rfl), (lx rfl), (lx rfl), (lx rfl), (lx rfl), (lx rfl), (lx rfl), (lxi hb rfl), trivial⟩ r54) ?_
      refine DRQ.gv 17 rfl rfl (.plain rfl (by first | (simp; done) | simp only [Bool.not_eq_true']) rfl) rfl (fun hb => o_not rfl) ?_
      refine DRQ.v rfl rfl rfl (o_or rfl rfl rfl (by first | (simp; done) | exact fun h => by rw [h]; rfl | exact fun h => Bool.and_eq_true_iff.2 ⟨hb, by rw [h]; rfl⟩ | simp_all)) ?_
      refine DRQ.nil' ?_
      refine EX.then ?_
      refine WP.cond rfl (fun hc3 => ?_) (fun hc3 => ?_)
      · try simp only [cnd] at hc3
        refine WP.seq (WP.region ?_)
        refine WPl.cs 19 rfl rfl rfl rfl (o_sig 19 (ren [(0, 8)]) c19 e19 rfl rfl rfl w19 ⟨(lx rfl), trivial⟩ r19) ?_
        refine WPl.v rfl (o_assign rfl) ?_
        refine WPl.nil (EX.then (WP.ret (EX.ret_then ?_)))
        exact EX.fin id (.inl rfl) rfl (.tmp rfl .nil) rfl r8 trivial (by simp) (by simp)
      · try simp only [cnd] at hc3
        have hli := hc3.1
        simp only [isListB, Bool.and_eq_true, decide_eq_true_eq] at hli
        have hm3 := law.m hli.2 hc3.2
        refine WP.skip (EX.then (WP.seq (WP.region ?_)))
        refine WPl.v rfl (o_move rfl) ?_
        refine WPl.v rfl (o_lenq L24 rfl (lx rfl)) ?_
        refine WPl.v rfl (o_move rfl) ?_
        refine WPl.v rfl (o_geq rfl rfl) ?_
        refine WPl.imp (Imp.bitF 61 (b' := true) rfl (decide_eq_true hm3.1)) ?_
        refine WPl.v rfl (o_move rfl) ?_
        refine WPl.on rfl ⟨_, _, rfl, rfl, rfl⟩ (o_move rfl) ?_
        refine WPl.ung ⟨_, _, rfl, rfl, rfl⟩ ?_
        refine WPl.v rfl (o_lenq L24 rfl (lx rfl)) ?_
        refine WPl.on rfl ⟨_, _, rfl, rfl, rfl⟩ (o_move rfl) ?_
        refine WPl.on rfl ⟨_, _, rfl, rfl, rfl⟩ (o_gtr rfl rfl) ?_
        refine WPl.on rfl ⟨_, _, rfl, rfl, rfl⟩ (o_move rfl) ?_
        refine WPl.bit 19 20 (!(decide ((countB b) < (l.length : Int)))) rfl rfl ?_
        refine WPl.gv 19 rfl rfl (.plain rfl (by first | (simp; done) | simp only [Bool.not_eq_true']) rfl) (fun hb => o_move rfl) ?_
        refine WPl.gv 19 rfl rfl (.plain rfl (by first | (simp; done) | simp only [Bool.not_eq_true']) rfl) (fun hb => o_move rfl) ?_
        refine WPl.gc0 19 rfl rfl (.plain rfl (by first | (simp; done) | simp only [Bool.not_eq_true']) rfl) (fun hb => o_sig 20 (ren [(0, 9), (1, 11)]) (c55 l (blame b) (by omega)) e55 rfl rfl rfl w55 ⟨(lx rfl), (lx rfl), trivial⟩ r55) ?_
        refine WPl.gv 19 rfl rfl (.plain rfl (by first | (simp; done) | simp only [Bool.not_eq_true']) rfl) (fun hb => o_not rfl) ?_
        refine WPl.on rfl ⟨_, _, rfl, rfl, rfl⟩ (o_or rfl rfl rfl (by first | (simp; done) | exact fun h => by rw [h]; rfl | exact fun h => Bool.and_eq_true_iff.2 ⟨hb, by rw [h]; rfl⟩ | simp_all)) ?_
        refine WPl.imp (Imp.bitF 72 (b' := true) rfl (by rcases hm3.2 with h | h <;> simp [h])) ?_
        refine WPl.v rfl (o_pickT rfl rfl) ?_
        refine WPl.v rfl (o_move rfl) ?_
        refine WPl.ung ⟨_, _, rfl, rfl, rfl⟩ ?_
        refine WPl.cs 20 rfl rfl rfl rfl (o_sig 20 (ren [(0, 8)]) c19 e19 rfl rfl rfl w19 ⟨(lx rfl), trivial⟩ r19) ?_
        refine WPl.v rfl (o_pickT rfl rfl) ?_
        refine WPl.v rfl (o_assign rfl) ?_
        refine WPl.nil (EX.then (WP.ret ?_))
        exact EX.fin id (.inl rfl) rfl (.tmp rfl .nil) rfl r8 trivial (by simp) (by simp)
theorem w11 {b : Book} {k : Int} : ∀ x ∈ ([.e (.g [.q 0, .q 1, .q 2, ai (b.hall.change), .q 3, .q 4, .q 5, .q 6, ai (b.boys), .q 7]), .i (k)] : List SV), x.res (keys (α := Pred) [(0, PL ETm (b.hall.machs)), (1, PL EBd (b.hall.buns)), (2, PL EP.int (b.hall.trains)), (3, PL EP.int (b.hall.bores)), (4, PL (EP.sl EP.int) (b.hall.eds)), (5, PL EPl (b.set)), (6, PL EP.int (b.walk)), (7, PL ETa (b.tals)), (8, (Pred.tab 1 tz64))]) := by simp [SV.res, El.res, At.res, keys]
theorem r11  : SV.res (keys (α := Pred) []) (.b (true)) := by simp [SV.res, El.res, At.res, keys]
set_option maxHeartbeats 4000000 in
set_option maxRecDepth 10000 in
theorem c11 (b : Book) (k : Int)  : Sig Tryz.prog 11 [.e (.g [.q 0, .q 1, .q 2, ai (b.hall.change), .q 3, .q 4, .q 5, .q 6, ai (b.boys), .q 7]), .i (k)] [(0, PL ETm (b.hall.machs)), (1, PL EBd (b.hall.buns)), (2, PL EP.int (b.hall.trains)), (3, PL EP.int (b.hall.bores)), (4, PL (EP.sl EP.int) (b.hall.eds)), (5, PL EPl (b.set)), (6, PL EP.int (b.walk)), (7, PL ETa (b.tals)), (8, (Pred.tab 1 tz64))] (.b (true)) [] := by
  refine Sig.intro Tryz.func11 rfl 9 [(0, .e (.g [.q 0, .q 1, .q 2, ai (b.hall.change), .q 3, .q 4, .q 5, .q 6, ai (b.boys), .q 7])), (1, .i (k))] rfl w11 rfl rfl fun I w => ?_
  refine WP.seq (WP.region ?_)
  refine WPl.l 9 10 rfl rfl rfl (o_boxg rfl) ?_
  refine WPl.v rfl (o_assign rfl) ?_
  refine WPl.nil (EX.then (WP.seq (WP.seq (WP.region ?_))))
  refine WPl.v rfl (o_ldpa G33 rfl rfl rfl) ?_
  refine WPl.cs 10 rfl rfl rfl rfl (o_sig 10 (ren [(0, 0), (1, 1), (2, 2), (3, 3), (4, 4), (5, 5), (6, 6), (7, 7)]) (c24 b) e24 rfl rfl rfl w24 ⟨(lx rfl), (lx rfl), (lx rfl), (lx rfl), (lx rfl), (lx rfl), (lx rfl), (lx rfl), trivial⟩ r24) ?_
  refine WPl.v rfl (o_not rfl) ?_
  refine WPl.v rfl (o_move rfl) ?_
  refine WPl.bit 10 11 (!(!b.ready)) rfl rfl ?_
  refine WPl.gv 10 rfl rfl (.plain rfl (by first | (simp; done) | simp only [Bool.not_eq_true']) rfl) (fun hb => o_ldpa G33 rfl rfl rfl) ?_
  refine WPl.gv 10 rfl rfl (.plain rfl (by first | (simp; done) | simp only [Bool.not_eq_true']) rfl) (fun hb => o_move rfl) ?_
  refine WPl.gc0 10 rfl rfl (.plain rfl (by first | (simp; done) | simp only [Bool.not_eq_true']) rfl) (fun hb => o_sig 11 (ren [(0, 0), (1, 1), (2, 2), (3, 3), (4, 4), (5, 5), (6, 6), (7, 7)]) (c56 b k (by have h := (ready_small (b := b) (by simp at hb; first | exact hb | exact hb.1 | exact hb.1.1)).t; omega)) e56 rfl rfl rfl w56 ⟨(lx rfl), (lx rfl), (lx rfl), (lx rfl), (lx rfl), (lx rfl), (lx rfl), (lx rfl), trivial⟩ r56) ?_
  refine WPl.gv 10 rfl rfl (.plain rfl (by first | (simp; done) | simp only [Bool.not_eq_true']) rfl) (fun hb => o_not rfl) ?_
  refine WPl.v rfl (o_or rfl rfl rfl (by first | (simp; done) | exact fun h => by rw [h]; rfl | exact fun h => Bool.and_eq_true_iff.2 ⟨hb, by rw [h]; rfl⟩ | simp_all)) ?_
  refine WPl.nil (EX.then ?_)
  refine WP.cond rfl (fun hc1 => ?_) (fun hc1 => ?_)
  · try simp only [cnd] at hc1
    refine WP.seq (WP.region ?_)
    refine WPl.cs 11 rfl rfl rfl rfl (o_sig 11 (ren [(0, 8)]) c19 e19 rfl rfl rfl w19 ⟨(lx rfl), trivial⟩ r19) ?_
    refine WPl.v rfl (o_assign rfl) ?_
    refine WPl.nil (EX.then (WP.ret (EX.ret_then ?_)))
    exact EX.fin id (.inl rfl) rfl (.tmp rfl .nil) rfl r11 trivial (by simp) (by simp)
  · try simp only [cnd] at hc1
    have hc : b.chk = true := ready_chk hc1.1
    have hm : b.Small := ready_small hc1.1
    have hB := bookB hc
    have ht8 := hB.t
    have hm6 := hm.s
    have h1 := isT_in (b := b) hc1.2
    have law := wo_law hc (by omega) h1
    refine WP.skip (EX.then (WP.seq (WP.region ?_)))
    refine WPl.v rfl (o_ldpa G33 rfl rfl rfl) ?_
    refine WPl.cs 19 rfl rfl rfl rfl (o_sig 11 (ren [(0, 0), (1, 1), (2, 2), (3, 3), (4, 4), (5, 5), (6, 6), (7, 7)]) (c20 b hm) e20 rfl rfl rfl w20 ⟨(lx rfl), (lx rfl), (lx rfl), (lx rfl), (lx rfl), (lx rfl), (lx rfl), (lx rfl), trivial⟩ r20) ?_
    refine WPl.l 19 20 rfl rfl rfl (o_alloc Z33) ?_
    refine WPl.s1 (o_stag G33 rfl rfl rfl ⟨(.inl ⟨_, (lx rfl), PL.one⟩), (.inl ⟨_, (lx rfl), PL.one⟩), (.inl ⟨_, (lx rfl), PL.one⟩), rfl, (.inl ⟨_, (lx rfl), PL.one⟩), (.inl ⟨_, (lx rfl), PL.one⟩), (.inl ⟨_, (lx rfl), PL.one⟩), (.inl ⟨_, (lx rfl), PL.one⟩), rfl, (.inl ⟨_, (lx rfl), PL.one⟩), trivial⟩ rfl rfl) ?_
    refine WPl.nil (EX.then (WP.seq ?_))
    refine WP.draw (nf := 25) [⟨[22, 23, 24, 25, 27, 28, 29, 30, 31], [21, 23], [20], [20], []⟩, ⟨[21, 24, 27, 28, 29, 30, 31], [20, 23], [], [], []⟩, ⟨[21, 24, 27, 28, 29, 30, 31], [20, 23], [], [], [1]⟩, ⟨[21, 22, 23, 27, 28, 29, 30, 31], [20, 23], [], [], []⟩, ⟨[21, 27, 28, 29, 30, 31], [20, 23], [21], [21], [1, 2, 3]⟩, ⟨[27, 28, 29, 30, 31], [23], [22], [22, 20], [0, 1, 2, 3, 4]⟩, ⟨[21, 22, 23, 24, 25, 26, 29, 30], [20, 21, 22], [], [], []⟩, ⟨[21, 22, 23, 24, 25, 26, 29, 30], [20, 21, 22], [], [], [6]⟩, ⟨[21, 22, 23, 24, 25, 26, 27, 28], [20, 21, 22], [], [], []⟩, ⟨[21, 22, 23, 24, 25, 26, 27, 28], [20, 21, 22], [], [], [8]⟩, ⟨[21, 22, 23, 24, 25, 26], [20, 21, 22], [23], [23], [6, 7, 8, 9]⟩, ⟨[], [], [24], [24, 22], [0, 1, 2, 3, 4, 5, 6, 7, 8, 9, 10]⟩, ⟨[], [], [], [], [0, 1, 2, 3, 4, 5, 6, 7, 8, 9, 10, 11]⟩, ⟨[], [], [], [19], [0, 1, 2, 3, 4, 5, 6, 7, 8, 9, 10, 11, 12]⟩] (by kernel_rfl) (by kernel_rfl) ?_
    refine DRQ.l 20 rfl rfl rfl rfl (o_bsl (E := ETa) (l := []) R31 rfl rfl (.nil) rfl rfl) ?_
    refine DRQ.v rfl rfl rfl (o_fldp F33_4 rfl) ?_
    refine DRQ.v rfl rfl rfl (o_ldp S31 rfl rfl rfl) ?_
    refine DRQ.v rfl rfl rfl (o_move rfl) ?_
    refine DRQ.x 21 rfl rfl rfl rfl (o_slice (a := 0) (b := k) L31 rfl (lx rfl) rfl rfl (by omega) (by omega) (by omega)) ?_
    refine DRQ.l2 22 20 rfl rfl rfl rfl (o_apps R31 EP.str_one rfl rfl rfl (lx rfl) (by simp; omega) (by simp; omega)) ?_
    refine DRQ.v rfl rfl rfl (o_fldp F33_4 rfl) ?_
    refine DRQ.v rfl rfl rfl (o_ldp S31 rfl rfl rfl) ?_
    refine DRQ.v rfl rfl rfl (o_move rfl) ?_
    refine DRQ.v rfl rfl rfl (o_add rfl rfl (by first | omega | (simp; omega)) (by first | omega | (simp; omega))) ?_
    refine DRQ.x 23 rfl rfl rfl rfl (o_slice (a := k + 1) (b := ((b.tals).length : Int)) L31 rfl (lx rfl) rfl rfl (by omega) (by omega) (by omega)) ?_
    refine DRQ.u1 24 rfl rfl rfl (OpG.settle1 (.inl rfl) rfl (o_apps R31 EP.str_one rfl rfl rfl (lx rfl) (by simp; omega) (by simp; omega))) rfl ?_
    refine DRQ.v rfl rfl rfl (o_fldp F33_4 rfl) ?_
    refine DRQ.s 19 rfl rfl rfl (o_sta S31 rfl rfl rfl (.inl ⟨_, (lx rfl), PL.one⟩) rfl) ?_
    refine DRQ.nil' ?_
    refine EX.then (WP.seq ?_)
    refine WP.draw (nf := 25) [⟨[36, 38, 39], [], [], [], []⟩, ⟨[36, 38, 39], [], [], [], [0]⟩, ⟨[34, 35, 38, 39], [], [], [], []⟩, ⟨[38, 39], [], [], [], [0, 1, 2]⟩, ⟨[34, 35, 36, 37, 39], [], [], [], []⟩, ⟨[34, 35, 36, 37, 38], [], [], [], []⟩, ⟨[], [], [], [], [0, 1, 2, 3, 4, 5]⟩, ⟨[], [], [], [], [0, 1, 2, 3, 4, 5, 6]⟩, ⟨[], [], [], [], [0, 1, 2, 3, 4, 5, 6, 7]⟩, ⟨[], [], [], [], [0, 1, 2, 3, 4, 5, 6, 7, 8]⟩] (by kernel_rfl) (by kernel_rfl) ?_
    refine DRQ.v rfl rfl rfl (o_ldpa G33 rfl rfl rfl) ?_
    refine DRQ.cs rfl rfl rfl rfl (o_sig 25 (ren [(0, 0), (1, 1), (2, 2), (3, 3), (4, 4), (5, 5), (6, 6), (7, 7), (8, 8)]) (c52 b hm) e52 rfl rfl rfl w52 ⟨(lx rfl), (lx rfl), (lx rfl), (lx rfl), (lx rfl), (lx rfl), (lx rfl), (lx rfl), (lx rfl), trivial⟩ r52) ?_
    refine DRQ.v rfl rfl rfl (o_ldpa G33 rfl rfl rfl) ?_
    refine DRQ.cs rfl rfl rfl rfl (o_sig 25 (ren [(0, 11), (1, 12), (2, 13), (3, 14), (4, 15), (5, 16), (6, 17), (7, 24), (8, 8)]) (c52 (b.wo k) (wo_small hm k)) e52 rfl rfl rfl w52 ⟨(lx rfl), (lx rfl), (lx rfl), (lx rfl), (lx rfl), (lx rfl), (lx rfl), (lx rfl), (lx rfl), trivial⟩ r52) ?_
    refine DRQ.v rfl rfl rfl (o_ldpa G33 rfl rfl rfl) ?_
    refine DRQ.v rfl rfl rfl (o_move rfl) ?_
    refine DRQ.cs rfl rfl rfl rfl (o_sig 25 (ren [(0, 0), (1, 1), (2, 2), (3, 3), (4, 4), (5, 5), (6, 6), (7, 7), (8, 8)]) (c59 b k hm) e59 rfl rfl rfl w59 ⟨(lx rfl), (lx rfl), (lx rfl), (lx rfl), (lx rfl), (lx rfl), (lx rfl), (lx rfl), (lx rfl), trivial⟩ r59) ?_
    refine DRQ.v rfl rfl rfl (o_assign rfl) ?_
    refine DRQ.v rfl rfl rfl (o_assign rfl) ?_
    refine DRQ.v rfl rfl rfl (o_assign rfl) ?_
    refine DRQ.nil' ?_
    refine EX.then (WP.seq (WP.seq (WP.region ?_)))
    refine WPl.v rfl (o_move rfl) ?_
    refine WPl.v rfl (o_lss rfl rfl) ?_
    refine WPl.imp (Imp.bitF 42 (b' := false) rfl (decide_eq_false (by have h := law.n; omega))) ?_
    refine WPl.v rfl (o_move rfl) ?_
    refine WPl.on rfl ⟨_, _, rfl, rfl, rfl⟩ (o_move rfl) ?_
    refine WPl.on rfl ⟨_, _, rfl, rfl, rfl⟩ (o_lss rfl rfl) ?_
    refine WPl.imp (Imp.bitF 45 (b' := false) rfl (decide_eq_false (by have h := law.o; omega))) ?_
    refine WPl.v rfl (o_pickF rfl rfl) ?_
    refine WPl.v rfl (o_move rfl) ?_
    refine WPl.on rfl ⟨_, _, rfl, rfl, rfl⟩ (o_move rfl) ?_
    refine WPl.on rfl ⟨_, _, rfl, rfl, rfl⟩ (o_lss rfl rfl) ?_
    refine WPl.imp (Imp.bitF 49 (b' := false) rfl (decide_eq_false (by have h := law.l; omega))) ?_
    refine WPl.v rfl (o_pickF rfl rfl) ?_
    refine WPl.nil (EX.then ?_)
    refine WP.cond rfl (fun h => by cases h) (fun _ => ?_)
    refine WP.skip (EX.then (WP.seq (WP.region ?_)))
    refine WPl.v rfl (o_move rfl) ?_
    refine WPl.v rfl (o_eql rfl rfl) ?_
    refine WPl.v rfl (o_move rfl) ?_
    refine WPl.v rfl (o_move rfl) ?_
    refine WPl.v rfl (o_eql rfl rfl) ?_
    refine WPl.v rfl (o_eqb Tryz.underlying4 rfl rfl) ?_
    refine WPl.imp (Imp.bitF 56 (b' := true) rfl (by rw [law.i]; simp)) ?_
    refine WPl.v rfl (o_move rfl) ?_
    refine WPl.on rfl ⟨_, _, rfl, rfl, rfl⟩ (o_move rfl) ?_
    refine WPl.on rfl ⟨_, _, rfl, rfl, rfl⟩ (o_move rfl) ?_
    refine WPl.on rfl ⟨_, _, rfl, rfl, rfl⟩ (o_eql rfl rfl) ?_
    refine WPl.on rfl ⟨_, _, rfl, rfl, rfl⟩ (o_move rfl) ?_
    refine WPl.bit 25 26 (!(decide ((countB (b.wo k)) = (countB b)))) rfl rfl ?_
    refine WPl.gv 25 rfl rfl (.plain rfl (by first | (simp; done) | simp only [Bool.not_eq_true']) rfl) (fun hb => o_move rfl) ?_
    refine WPl.gv 25 rfl rfl (.plain rfl (by first | (simp; done) | simp only [Bool.not_eq_true']) rfl) (fun hb => o_move rfl) ?_
    refine WPl.gv 25 rfl rfl (.plain rfl (by first | (simp; done) | simp only [Bool.not_eq_true']) rfl) (fun hb => o_sub rfl rfl (by have h := law.n; have h2 := countB_hi b; omega) (by have h := law.n; have h2 := countB_hi b; omega)) ?_
    refine WPl.gv 25 rfl rfl (.plain rfl (by first | (simp; done) | simp only [Bool.not_eq_true']) rfl) (fun hb => o_eql rfl rfl) ?_
    refine WPl.on rfl ⟨_, _, rfl, rfl, rfl⟩ (o_or rfl rfl rfl (by first | (simp; done) | exact fun h => by rw [h]; rfl | exact fun h => Bool.and_eq_true_iff.2 ⟨hb, by rw [h]; rfl⟩ | simp_all)) ?_
    refine WPl.imp (Imp.bitF 66 (b' := true) rfl (by rcases law.m with h | h <;> simp [h])) ?_
    refine WPl.v rfl (o_pickT rfl rfl) ?_
    refine WPl.v rfl (o_move rfl) ?_
    refine WPl.ung ⟨_, _, rfl, rfl, rfl⟩ ?_
    refine WPl.cs 26 rfl rfl rfl rfl (o_sig 26 (ren [(0, 8)]) c19 e19 rfl rfl rfl w19 ⟨(lx rfl), trivial⟩ r19) ?_
    refine WPl.v rfl (o_pickT rfl rfl) ?_
    refine WPl.v rfl (o_assign rfl) ?_
    refine WPl.nil (EX.then (WP.ret ?_))
    exact EX.fin id (.inl rfl) rfl (.tmp rfl .nil) rfl r11 trivial (by simp) (by simp)
theorem w15 {b : Book} {k : Int} : ∀ x ∈ ([.e (.g [.q 0, .q 1, .q 2, ai (b.hall.change), .q 3, .q 4, .q 5, .q 6, ai (b.boys), .q 7]), .i (k)] : List SV), x.res (keys (α := Pred) [(0, PL ETm (b.hall.machs)), (1, PL EBd (b.hall.buns)), (2, PL EP.int (b.hall.trains)), (3, PL EP.int (b.hall.bores)), (4, PL (EP.sl EP.int) (b.hall.eds)), (5, PL EPl (b.set)), (6, PL EP.int (b.walk)), (7, PL ETa (b.tals)), (8, (Pred.tab 1 tz64))]) := by simp [SV.res, El.res, At.res, keys]
theorem r15  : SV.res (keys (α := Pred) []) (.b (true)) := by simp [SV.res, El.res, At.res, keys]
set_option maxHeartbeats 4000000 in
set_option maxRecDepth 10000 in
theorem c15 (b : Book) (k : Int)  : Sig Tryz.prog 15 [.e (.g [.q 0, .q 1, .q 2, ai (b.hall.change), .q 3, .q 4, .q 5, .q 6, ai (b.boys), .q 7]), .i (k)] [(0, PL ETm (b.hall.machs)), (1, PL EBd (b.hall.buns)), (2, PL EP.int (b.hall.trains)), (3, PL EP.int (b.hall.bores)), (4, PL (EP.sl EP.int) (b.hall.eds)), (5, PL EPl (b.set)), (6, PL EP.int (b.walk)), (7, PL ETa (b.tals)), (8, (Pred.tab 1 tz64))] (.b (true)) [] := by
  refine Sig.intro Tryz.func15 rfl 9 [(0, .e (.g [.q 0, .q 1, .q 2, ai (b.hall.change), .q 3, .q 4, .q 5, .q 6, ai (b.boys), .q 7])), (1, .i (k))] rfl w15 rfl rfl fun I w => ?_
  refine WP.seq (WP.region ?_)
  refine WPl.l 9 10 rfl rfl rfl (o_boxg rfl) ?_
  refine WPl.v rfl (o_assign rfl) ?_
  refine WPl.nil (EX.then (WP.seq (WP.seq (WP.region ?_))))
  refine WPl.v rfl (o_ldpa G33 rfl rfl rfl) ?_
  refine WPl.cs 10 rfl rfl rfl rfl (o_sig 10 (ren [(0, 0), (1, 1), (2, 2), (3, 3), (4, 4), (5, 5), (6, 6), (7, 7)]) (c24 b) e24 rfl rfl rfl w24 ⟨(lx rfl), (lx rfl), (lx rfl), (lx rfl), (lx rfl), (lx rfl), (lx rfl), (lx rfl), trivial⟩ r24) ?_
  refine WPl.v rfl (o_not rfl) ?_
  refine WPl.nil (EX.then ?_)
  refine WP.cond rfl (fun hc1 => ?_) (fun hc1 => ?_)
  · try simp only [cnd] at hc1
    refine WP.seq (WP.region ?_)
    refine WPl.cs 10 rfl rfl rfl rfl (o_sig 10 (ren [(0, 8)]) c19 e19 rfl rfl rfl w19 ⟨(lx rfl), trivial⟩ r19) ?_
    refine WPl.v rfl (o_assign rfl) ?_
    refine WPl.nil (EX.then (WP.ret (EX.ret_then ?_)))
    exact EX.fin id (.inl rfl) rfl (.tmp rfl .nil) rfl r15 trivial (by simp) (by simp)
  · try simp only [cnd] at hc1
    have hc : b.chk = true := ready_chk hc1
    have hm : b.Small := ready_small hc1
    have hB := bookB hc
    have ht8 := hB.t
    have hm6 := hm.s
    have law := ask_law hc
    refine WP.skip (EX.then (WP.seq (WP.region ?_)))
    refine WPl.v rfl (o_ldpa G33 rfl rfl rfl) ?_
    refine WPl.cs 10 rfl rfl rfl rfl (o_sig 10 (ren [(0, 0), (1, 1), (2, 2), (3, 3), (4, 4), (5, 5), (6, 6), (7, 7), (8, 8)]) (c60 b hm) e60 rfl rfl rfl w60 ⟨(lx rfl), (lx rfl), (lx rfl), (lx rfl), (lx rfl), (lx rfl), (lx rfl), (lx rfl), (lx rfl), trivial⟩ r60) ?_
    refine WPl.v rfl (o_move rfl) ?_
    refine WPl.v rfl (o_extract rfl rfl) ?_
    refine WPl.v rfl (o_extract rfl rfl) ?_
    refine WPl.v rfl (o_assign rfl) ?_
    refine WPl.v rfl (o_assign rfl) ?_
    refine WPl.nil (EX.then (WP.seq (WP.region ?_)))
    refine WPl.v rfl (o_ldpa G33 rfl rfl rfl) ?_
    refine WPl.cs 10 rfl rfl rfl rfl (o_sig 10 (ren [(0, 0), (1, 1), (2, 2), (3, 3), (4, 4), (5, 5), (6, 6), (7, 7), (8, 8)]) (c61 b hm) e61 rfl rfl rfl w61 ⟨(lx rfl), (lx rfl), (lx rfl), (lx rfl), (lx rfl), (lx rfl), (lx rfl), (lx rfl), (lx rfl), trivial⟩ r61) ?_
    refine WPl.v rfl (o_move rfl) ?_
    refine WPl.v rfl (o_extract rfl rfl) ?_
    refine WPl.v rfl (o_extract rfl rfl) ?_
    refine WPl.v rfl (o_assign rfl) ?_
    refine WPl.v rfl (o_assign rfl) ?_
    refine WPl.nil (EX.then (WP.seq (WP.region ?_)))
    refine WPl.v rfl (o_ldpa G33 rfl rfl rfl) ?_
    refine WPl.cs 11 rfl rfl rfl rfl (o_sig 10 (ren [(0, 0), (1, 1), (2, 2), (3, 3), (4, 4), (5, 5), (6, 6), (7, 7), (8, 8)]) (c31 b hm) e31 rfl rfl rfl w31 ⟨(lx rfl), (lx rfl), (lx rfl), (lx rfl), (lx rfl), (lx rfl), (lx rfl), (lx rfl), (lx rfl), trivial⟩ r31) ?_
    refine WPl.v rfl (o_move rfl) ?_
    refine WPl.v rfl (o_extract rfl rfl) ?_
    refine WPl.v rfl (o_extract rfl rfl) ?_
    refine WPl.v rfl (o_assign rfl) ?_
    refine WPl.v rfl (o_assign rfl) ?_
    refine WPl.nil (EX.then (WP.seq (WP.seq (WP.region ?_))))
    refine WPl.v rfl (o_move rfl) ?_
    refine WPl.v rfl (o_neq rfl rfl) ?_
    refine WPl.imp (Imp.bitF 33 (b' := false) rfl (decide_eq_false (fun h => h law.z))) ?_
    refine WPl.v rfl (o_move rfl) ?_
    refine WPl.on rfl ⟨_, _, rfl, rfl, rfl⟩ (o_move rfl) ?_
    refine WPl.on rfl ⟨_, _, rfl, rfl, rfl⟩ (o_neq rfl rfl) ?_
    refine WPl.imp (Imp.bitF 36 (b' := false) rfl (decide_eq_false (fun h => h law.z))) ?_
    refine WPl.v rfl (o_pickF rfl rfl) ?_
    refine WPl.v rfl (o_move rfl) ?_
    refine WPl.on rfl ⟨_, _, rfl, rfl, rfl⟩ (o_move rfl) ?_
    refine WPl.on rfl ⟨_, _, rfl, rfl, rfl⟩ (o_lss rfl rfl) ?_
    refine WPl.imp (Imp.bitF 40 (b' := false) rfl (decide_eq_false (by have h := law.n; omega))) ?_
    refine WPl.v rfl (o_pickF rfl rfl) ?_
    refine WPl.v rfl (o_move rfl) ?_
    refine WPl.on rfl ⟨_, _, rfl, rfl, rfl⟩ (o_move rfl) ?_
    refine WPl.on rfl ⟨_, _, rfl, rfl, rfl⟩ (o_eql rfl rfl) ?_
    refine WPl.on rfl ⟨_, _, rfl, rfl, rfl⟩ (o_move rfl) ?_
    refine WPl.on rfl ⟨_, _, rfl, rfl, rfl⟩ (o_gtr rfl rfl) ?_
    refine WPl.on rfl ⟨_, _, rfl, rfl, rfl⟩ (o_neb Tryz.underlying4 rfl rfl) ?_
    refine WPl.imp (Imp.bitF 47 (b' := false) rfl (ask_ne law)) ?_
    refine WPl.v rfl (o_pickF rfl rfl) ?_
    refine WPl.v rfl (o_move rfl) ?_
    refine WPl.on rfl ⟨_, _, rfl, rfl, rfl⟩ (o_move rfl) ?_
    refine WPl.on rfl ⟨_, _, rfl, rfl, rfl⟩ (o_neq rfl rfl) ?_
    refine WPl.on rfl ⟨_, _, rfl, rfl, rfl⟩ (o_move rfl) ?_
    refine WPl.bit 11 12 (decide ((asE b) ≠ 0)) rfl rfl ?_
    refine WPl.gv 11 rfl rfl (.plain rfl Iff.rfl rfl) (fun hb => o_move rfl) ?_
    refine WPl.gv 11 rfl rfl (.plain rfl Iff.rfl rfl) (fun hb => o_neq rfl rfl) ?_
    refine WPl.on rfl ⟨_, _, rfl, rfl, rfl⟩ (o_and rfl rfl rfl id) ?_
    refine WPl.v rfl (o_pickF rfl rfl) ?_
    refine WPl.imp (Imp.bitF 56 (b' := false) rfl (by rw [law.e]; split <;> simp)) ?_
    refine WPl.v rfl (o_move rfl) ?_
    refine WPl.on rfl ⟨_, _, rfl, rfl, rfl⟩ (o_move rfl) ?_
    refine WPl.ung ⟨_, _, rfl, rfl, rfl⟩ ?_
    refine WPl.v rfl (o_lenq L24 rfl (lx rfl)) ?_
    refine WPl.ung ⟨_, _, rfl, rfl, rfl⟩ ?_
    refine WPl.v rfl (o_fldp F33_4 rfl) ?_
    refine WPl.ung ⟨_, _, rfl, rfl, rfl⟩ ?_
    refine WPl.v rfl (o_ldp S31 rfl rfl rfl) ?_
    refine WPl.ung ⟨_, _, rfl, rfl, rfl⟩ ?_
    refine WPl.v rfl (o_lenq L31 rfl (lx rfl)) ?_
    refine WPl.on rfl ⟨_, _, rfl, rfl, rfl⟩ (o_gtr rfl rfl) ?_
    refine WPl.imp (Imp.bitF 63 (b' := false) rfl (decide_eq_false (by have h := blame_le hc; omega))) ?_
    refine WPl.v rfl (o_pickF rfl rfl) ?_
    refine WPl.nil (EX.then ?_)
    refine WP.cond rfl (fun h => by cases h) (fun _ => ?_)
    refine WP.skip (EX.then (WP.seq (WP.seq (WP.region ?_))))
    refine WPl.v rfl (o_move rfl) ?_
    refine WPl.v rfl (o_eql rfl rfl) ?_
    refine WPl.v rfl (o_move rfl) ?_
    refine WPl.bit 12 13 (decide ((asE b) = 0)) rfl rfl ?_
    refine WPl.gv 12 rfl rfl (.plain rfl Iff.rfl rfl) (fun hb => o_ldpa G33 rfl rfl rfl) ?_
    refine WPl.gv 12 rfl rfl (.plain rfl Iff.rfl rfl) (fun hb => o_move rfl) ?_
    refine WPl.gc0 12 rfl rfl (.plain rfl Iff.rfl rfl) (fun hb => o_sig 13 (ren [(0, 0), (1, 1), (2, 2), (3, 3), (4, 4), (5, 5), (6, 6), (7, 7)]) (c56 b (asV b) (by omega)) e56 rfl rfl rfl w56 ⟨(lx rfl), (lx rfl), (lx rfl), (lx rfl), (lx rfl), (lx rfl), (lx rfl), (lx rfl), trivial⟩ r56) ?_
    refine WPl.gv 12 rfl rfl (.plain rfl Iff.rfl rfl) (fun hb => o_not rfl) ?_
    refine WPl.gv 12 rfl rfl (.plain rfl Iff.rfl rfl) (fun hb => o_move rfl) ?_
    refine WPl.bit 13 14 ((decide ((asE b) = 0)) && !(!(within (asV b) 0 ((b.tals.length : Int) - 1)))) rfl rfl ?_
    refine WPl.gv 13 rfl rfl (.nest rfl rfl (by first | (simp; done) | simp only [Bool.and_eq_true, Bool.not_eq_true']) rfl) (fun hb => o_ldpa G33 rfl rfl rfl) ?_
    refine WPl.gv 13 rfl rfl (.nest rfl rfl (by first | (simp; done) | simp only [Bool.and_eq_true, Bool.not_eq_true']) rfl) (fun hb => o_move rfl) ?_
    refine WPl.gc0 13 rfl rfl (.nest rfl rfl (by first | (simp; done) | simp only [Bool.and_eq_true, Bool.not_eq_true']) rfl) (fun hb => o_sig 14 (ren [(0, 0), (1, 1), (2, 2), (3, 3), (4, 4), (5, 5), (6, 6), (7, 7), (8, 8)]) (c59 b (asV b) hm) e59 rfl rfl rfl w59 ⟨(lx rfl), (lx rfl), (lx rfl), (lx rfl), (lx rfl), (lx rfl), (lx rfl), (lx rfl), (lx rfl), trivial⟩ r59) ?_
    refine WPl.gv 13 rfl rfl (.nest rfl rfl (by first | (simp; done) | simp only [Bool.and_eq_true, Bool.not_eq_true']) rfl) (fun hb => o_neq rfl rfl) ?_
    refine WPl.gv 12 rfl rfl (.plain rfl Iff.rfl rfl) (fun hb => o_or rfl rfl rfl (by first | (simp; done) | exact fun h => by rw [h]; rfl | exact fun h => Bool.and_eq_true_iff.2 ⟨hb, by rw [h]; rfl⟩ | simp_all)) ?_
    refine WPl.v rfl (o_and rfl rfl rfl id) ?_
    refine WPl.nil (EX.then ?_)
    refine WP.cond rfl (fun hc3 => ?_) (fun hc3 => ?_)
    · try simp only [cnd] at hc3
      exfalso
      obtain ⟨h1, h2⟩ := law.a hc3.1
      rcases hc3.2 with g | g
      · simp [within] at g; omega
      · exact g h2
    · try simp only [cnd] at hc3
      refine WP.skip (EX.then (WP.seq (WP.seq (WP.region ?_))))
      refine WPl.v rfl (o_ldpa G33 rfl rfl rfl) ?_
      refine WPl.v rfl (o_move rfl) ?_
      refine WPl.cs 14 rfl rfl rfl rfl (o_sig 14 (ren [(0, 0), (1, 1), (2, 2), (3, 3), (4, 4), (5, 5), (6, 6), (7, 7)]) (c56 b k (by omega)) e56 rfl rfl rfl w56 ⟨(lx rfl), (lx rfl), (lx rfl), (lx rfl), (lx rfl), (lx rfl), (lx rfl), (lx rfl), trivial⟩ r56) ?_
      refine WPl.v rfl (o_not rfl) ?_
      refine WPl.nil (EX.then ?_)
      refine WP.cond rfl (fun hc4 => ?_) (fun hc4 => ?_)
      · try simp only [cnd] at hc4
        refine WP.seq (WP.region ?_)
        refine WPl.cs 14 rfl rfl rfl rfl (o_sig 14 (ren [(0, 8)]) c19 e19 rfl rfl rfl w19 ⟨(lx rfl), trivial⟩ r19) ?_
        refine WPl.v rfl (o_assign rfl) ?_
        refine WPl.nil (EX.then (WP.ret (EX.ret_then ?_)))
        exact EX.fin id (.inl rfl) rfl (.tmp rfl .nil) rfl r15 trivial (by simp) (by simp)
      · try simp only [cnd] at hc4
        have hk := isT_in (b := b) hc4
        have law2 := ask_law2 hc hk
        refine WP.skip (EX.then (WP.seq (WP.region ?_)))
        refine WPl.v rfl (o_ldpa G33 rfl rfl rfl) ?_
        refine WPl.v rfl (o_move rfl) ?_
        refine WPl.cs 14 rfl rfl rfl rfl (o_sig 14 (ren [(0, 0), (1, 1), (2, 2), (3, 3), (4, 4), (5, 5), (6, 6), (7, 7), (8, 8)]) (c59 b k hm) e59 rfl rfl rfl w59 ⟨(lx rfl), (lx rfl), (lx rfl), (lx rfl), (lx rfl), (lx rfl), (lx rfl), (lx rfl), (lx rfl), trivial⟩ r59) ?_
        refine WPl.v rfl (o_assign rfl) ?_
        refine WPl.nil (EX.then (WP.seq (WP.region ?_)))
        refine WPl.v rfl (o_move rfl) ?_
        refine WPl.v rfl (o_move rfl) ?_
        refine WPl.cs 14 rfl rfl rfl rfl (o_sig 14 (ren [(0, 10)]) (c29 (blame b) k (by have h := blame_len b; omega)) e29 rfl rfl rfl w29 ⟨(lx rfl), trivial⟩ r29) ?_
        refine WPl.v rfl (o_assign rfl) ?_
        refine WPl.nil (EX.then (WP.seq (WP.region ?_)))
        refine WPl.v rfl (o_move rfl) ?_
        refine WPl.v rfl (o_gtr rfl rfl) ?_
        refine WPl.imp (Imp.bitF 91 (b' := true) rfl (decide_eq_true law2.p)) ?_
        refine WPl.v rfl (o_move rfl) ?_
        refine WPl.on rfl ⟨_, _, rfl, rfl, rfl⟩ (o_move rfl) ?_
        refine WPl.on rfl ⟨_, _, rfl, rfl, rfl⟩ (o_not rfl) ?_
        refine WPl.on rfl ⟨_, _, rfl, rfl, rfl⟩ (o_move rfl) ?_
        refine WPl.bit 14 15 (!(!(inL (blame b) k))) rfl rfl ?_
        refine WPl.gv 14 rfl rfl (.plain rfl (by first | (simp; done) | simp only [Bool.not_eq_true']) rfl) (fun hb => o_move rfl) ?_
        refine WPl.gv 14 rfl rfl (.plain rfl (by first | (simp; done) | simp only [Bool.not_eq_true']) rfl) (fun hb => o_neq rfl rfl) ?_
        refine WPl.on rfl ⟨_, _, rfl, rfl, rfl⟩ (o_or rfl rfl rfl (by first | (simp; done) | exact fun h => by rw [h]; rfl | exact fun h => Bool.and_eq_true_iff.2 ⟨hb, by rw [h]; rfl⟩ | simp_all)) ?_
        refine WPl.imp (Imp.bitF 98 (b' := true) rfl (by by_cases h : inL (blame b) k = true; (simp [h, law2.i h]); (simp [h]))) ?_
        refine WPl.v rfl (o_pickT rfl rfl) ?_
        refine WPl.v rfl (o_move rfl) ?_
        refine WPl.on rfl ⟨_, _, rfl, rfl, rfl⟩ (o_move rfl) ?_
        refine WPl.on rfl ⟨_, _, rfl, rfl, rfl⟩ (o_move rfl) ?_
        refine WPl.bit 15 16 (!(inL (blame b) k)) rfl rfl ?_
        refine WPl.gv 15 rfl rfl (.plain rfl (by first | (simp; done) | simp only [Bool.not_eq_true']) rfl) (fun hb => o_move rfl) ?_
        refine WPl.gv 15 rfl rfl (.plain rfl (by first | (simp; done) | simp only [Bool.not_eq_true']) rfl) (fun hb => o_neq rfl rfl) ?_
        refine WPl.on rfl ⟨_, _, rfl, rfl, rfl⟩ (o_or rfl rfl rfl (by first | (simp; done) | exact fun h => by rw [h]; rfl | exact fun h => Bool.and_eq_true_iff.2 ⟨hb, by rw [h]; rfl⟩ | simp_all)) ?_
        refine WPl.imp (Imp.bitF 105 (b' := true) rfl (by by_cases h : inL (blame b) k = true; (simp [h]); (simp [law2.o (by simpa using h)]))) ?_
        refine WPl.v rfl (o_pickT rfl rfl) ?_
        refine WPl.v rfl (o_move rfl) ?_
        refine WPl.ung ⟨_, _, rfl, rfl, rfl⟩ ?_
        refine WPl.cs 16 rfl rfl rfl rfl (o_sig 16 (ren [(0, 8)]) c19 e19 rfl rfl rfl w19 ⟨(lx rfl), trivial⟩ r19) ?_
        refine WPl.v rfl (o_pickT rfl rfl) ?_
        refine WPl.v rfl (o_assign rfl) ?_
        refine WPl.nil (EX.then (WP.ret ?_))
        exact EX.fin id (.inl rfl) rfl (.tmp rfl .nil) rfl r15 trivial (by simp) (by simp)
end Go.Flong
