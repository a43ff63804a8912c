/- TalliesOrder returns true for every input and leaves its arguments as they were. The table of math/bits is tied to the text of the program. No other condition. -/
import Derived.Test.YtapgiededfphfaaGreatDoorVC6
set_option linter.unusedSimpArgs false
set_option linter.unusedVariables false
namespace Go.Proofs.YtapgiededfphfaaGreatDoor
open Go Go.Eng Go.Flong Go.ChangeShapes Go.WideShapes
set_option maxRecDepth 100000 in
theorem talliesOrder_lifted (os : Os) (started : os.Started) (H : Type) (enc : TypeId × Value → H) : ReturnsInHanded {} Tryz.checked os 12 .any (fun w args => (Rows.talliesOrderSpec.pre enc Tryz.prog Tryz.f12 Rows.talliesOrderRow.domain false w args ∧ laidMetH Tryz.prog laid2 w) ∧ sizedMet enc Tryz.prog Tryz.f12 (OpenSpec.ofChange Rows.talliesOrderSpec) false w args) (Rows.talliesOrderSpec.post enc Tryz.prog Tryz.f12 false true false false) := by
  refine lawLiftedX (C := Tryz.checked) (X := fun w => laidMetH Tryz.prog laid2 w) (fun _ _ hh h => h.of_heap hh) own started (by kernel_rfl) Tryz.func12
    (ChangeSpec.witness_shaped (enc := enc) (C := Tryz.checked) (os := os) (X := fun w _ => laidMetH Tryz.prog laid2 w) false (World.doorLaid Tryz.prog 400 os) #[.agg #[.slice none 0 0, .slice none 0 0, .slice none 0 0, .int .i64 0, .slice none 0 0, .slice none 0 0, .slice none 0 0, .slice none 0 0, .int .i64 0, .slice none 0 0], .int .i64 0, .agg #[.int .i64 0, .int .i64 0, .int .i64 0]] 8 rfl (World.shaped_of_RefB (by kernel_rfl) (by kernel_rfl)) (by kernel_rfl) (by kernel_rfl) (by kernel_rfl) (door_met os _))
    laidOut rfl Tryz.underlying4 (by intro t ht; revert ht; revert t; exact of_decide_eq_true (by kernel_rfl)) rfl (fun ds hd => ?_) fun W base args ds p hval hA hL => ?_
  · match ds, hd with
    | [_, _, _], _ => rfl
  · obtain ⟨v0, vs, d0, ds0, p0, q0, ha, rfl, rfl, h0, hA⟩ := trodAll_cons hA
    obtain ⟨v1, vs, d1, ds1, p1, q1, rfl, rfl, rfl, h1, hA⟩ := trodAll_cons hA
    obtain ⟨v2, vs, d2, ds2, p2, q2, rfl, rfl, rfl, h2, hA⟩ := trodAll_cons hA
    obtain ⟨rfl, rfl, rfl⟩ := trodAll_nil hA
    obtain rfl : args = #[v0, v1, v2] := by cases args; simp_all
    obtain ⟨a0, x0, x1, x2, x3, x4, x5, x6, x7, rfl, ok0⟩ := argBook (hval 0 _ v0 rfl rfl) h0
    obtain ⟨a1, rfl⟩ := okWide_int Tryz.underlying3 (hval 1 3 v1 rfl rfl)
    obtain ⟨n2_0, n2_1, n2_2, rfl⟩ := argPrint (hval 2 _ v2 rfl rfl) h2
    exact Sig.kept (c12 a0 a1 n2_0 n2_1 n2_2 ) (ν := nuL [x0, x1, x2, x3, x4, x5, x6, x7, undef]) ⟨ok0.h.m, ok0.h.b, ok0.h.t, ok0.h.o, ok0.h.e, ok0.s, ok0.w, ok0.t, tab_laid hL undef, trivial⟩
theorem talliesOrder_row : Rows.TalliesOrderSaid :=
  OpenClaim.holds_of_wide 12 Tryz.f12 rfl rfl rfl rfl rfl rfl rfl ⟨rfl, rfl, rfl, rfl, rfl⟩ rfl rfl rfl rfl rfl (by kernel_rfl) Tryz.func12 (by kernel_rfl)
    (of_decide_eq_true (by kernel_rfl)) (by unfold Func.isWrapper; rw [if_neg (by decide +kernel)]; exact ⟨rfl, rfl⟩)
    (fun os started H enc _ => talliesOrder_lifted os started H enc)
theorem talliesOrder_holds : Rows.TalliesOrderCardSaid :=
  Claim7.holds_tied_plain_at .later [] [.data, .data] true Rows.talliesOrderCard.stood.harness false
    talliesOrder_row (fun _ h => by cases h) (by kernel_rfl) (fun _ h => by cases h) talliesOrder_row_tie rfl ⟨rfl, rfl⟩ (by kernel_rfl) rfl
    (fun f fn hf hfn => by
      obtain rfl : f = 12 := Option.some.inj ((show Tryz.prog.funcNamed "flong/flonglaw11.TalliesOrder" = some 12 by kernel_rfl).symm.trans hf) |>.symm
      obtain rfl : fn = Tryz.f12 := (Option.some.inj (Tryz.func12.symm.trans hfn)).symm
      exact ⟨by kernel_rfl, fun j t ht => by
        rw [Tryz.params12] at ht
        have hm : t ∈ [33, 3, 35] := by simpa using Array.mem_of_getElem? ht
        have hall : ([33, 3, 35].all fun u => !Tryz.prog.wantsStandIn u) = true := by kernel_rfl
        exact (show Tryz.prog.wantsStandIn t = false by simpa using List.all_eq_true.1 hall t hm)⟩)
    (by kernel_rfl)
end Go.Proofs.YtapgiededfphfaaGreatDoor
