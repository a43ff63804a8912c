/- TalliesMore returns true for every input and leaves its arguments as they were. The table of math/bits is tied to the text of the program. No other condition. -/
import Derived.Test.YtapgiededfphfaaGreatDoorVC6
set_option linter.unusedSimpArgs false
set_option linter.unusedVariables false
namespace Go.Proofs.YtapgiededfphfaaGreatDoor
open Go Go.Eng Go.Flong Go.ChangeShapes Go.WideShapes
set_option maxRecDepth 100000 in
theorem talliesMore_lifted (os : Os) (started : os.Started) (H : Type) (enc : TypeId × Value → H) : ReturnsInHanded {} Tryz.checked os 10 .any (fun w args => (Rows.talliesMoreSpec.pre enc Tryz.prog Tryz.f10 Rows.talliesMoreRow.domain false w args ∧ laidMetH Tryz.prog laid2 w) ∧ sizedMet enc Tryz.prog Tryz.f10 (OpenSpec.ofChange Rows.talliesMoreSpec) false w args) (Rows.talliesMoreSpec.post enc Tryz.prog Tryz.f10 false true false false) := by
  refine lawLiftedX (C := Tryz.checked) (X := fun w => laidMetH Tryz.prog laid2 w) (fun _ _ hh h => h.of_heap hh) own started (by kernel_rfl) Tryz.func10
    (ChangeSpec.witness_shaped (enc := enc) (C := Tryz.checked) (os := os) (X := fun w _ => laidMetH Tryz.prog laid2 w) false (World.doorLaid Tryz.prog 400 os) #[.agg #[.slice none 0 0, .slice none 0 0, .slice none 0 0, .int .i64 0, .slice none 0 0, .slice none 0 0, .slice none 0 0, .slice none 0 0, .int .i64 0, .slice none 0 0], .agg #[.int .i64 0, .int .i64 0, .int .i64 0, .int .i64 0, .int .i64 0, .int .i64 0, .int .i64 0, .int .i64 0, .int .i64 0]] 8 rfl (World.shaped_of_RefB (by kernel_rfl) (by kernel_rfl)) (by kernel_rfl) (by kernel_rfl) (by kernel_rfl) (door_met os _))
    laidOut rfl Tryz.underlying4 (by intro t ht; revert ht; revert t; exact of_decide_eq_true (by kernel_rfl)) rfl (fun ds hd => ?_) fun W base args ds p hval hA hL => ?_
  · match ds, hd with
    | [_, _], _ => rfl
  · obtain ⟨v0, vs, d0, ds0, p0, q0, ha, rfl, rfl, h0, hA⟩ := trodAll_cons hA
    obtain ⟨v1, vs, d1, ds1, p1, q1, rfl, rfl, rfl, h1, hA⟩ := trodAll_cons hA
    obtain ⟨rfl, rfl, rfl⟩ := trodAll_nil hA
    obtain rfl : args = #[v0, v1] := by cases args; simp_all
    obtain ⟨a0, x0, x1, x2, x3, x4, x5, x6, x7, rfl, ok0⟩ := argBook (hval 0 _ v0 rfl rfl) h0
    obtain ⟨n1_0, n1_1, n1_2, n1_3, n1_4, n1_5, n1_6, n1_7, n1_8, rfl⟩ := argMore (hval 1 _ v1 rfl rfl) h1
    exact Sig.kept (c10 a0 n1_0 n1_1 n1_2 n1_3 n1_4 n1_5 n1_6 n1_7 n1_8 ) (ν := nuL [x0, x1, x2, x3, x4, x5, x6, x7, undef]) ⟨ok0.h.m, ok0.h.b, ok0.h.t, ok0.h.o, ok0.h.e, ok0.s, ok0.w, ok0.t, tab_laid hL undef, trivial⟩
theorem talliesMore_row : Rows.TalliesMoreSaid :=
  OpenClaim.holds_of_wide 10 Tryz.f10 rfl rfl rfl rfl rfl rfl rfl ⟨rfl, rfl, rfl, rfl, rfl⟩ rfl rfl rfl rfl rfl (by kernel_rfl) Tryz.func10 (by kernel_rfl)
    (of_decide_eq_true (by kernel_rfl)) (by unfold Func.isWrapper; rw [if_neg (by decide +kernel)]; exact ⟨rfl, rfl⟩)
    (fun os started H enc _ => talliesMore_lifted os started H enc)
theorem talliesMore_holds : Rows.TalliesMoreCardSaid :=
  Claim7.holds_tied_plain_at .later [] [.data, .data] true Rows.talliesMoreCard.stood.harness false
    talliesMore_row (fun _ h => by cases h) (by kernel_rfl) (fun _ h => by cases h) talliesMore_row_tie rfl ⟨rfl, rfl⟩ (by kernel_rfl) rfl
    (fun f fn hf hfn => by
      obtain rfl : f = 10 := Option.some.inj ((show Tryz.prog.funcNamed "flong/flonglaw11.TalliesMore" = some 10 by kernel_rfl).symm.trans hf) |>.symm
      obtain rfl : fn = Tryz.f10 := (Option.some.inj (Tryz.func10.symm.trans hfn)).symm
      exact ⟨by kernel_rfl, fun j t ht => by
        rw [Tryz.params10] at ht
        have hm : t ∈ [33, 79] := by simpa using Array.mem_of_getElem? ht
        have hall : ([33, 79].all fun u => !Tryz.prog.wantsStandIn u) = true := by kernel_rfl
        exact (show Tryz.prog.wantsStandIn t = false by simpa using List.all_eq_true.1 hall t hm)⟩)
    (by kernel_rfl)
end Go.Proofs.YtapgiededfphfaaGreatDoor
