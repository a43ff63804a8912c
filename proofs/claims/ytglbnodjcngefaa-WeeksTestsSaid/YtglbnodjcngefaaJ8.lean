/- WeeksTests returns true for every input and leaves its arguments as they were. No condition. -/
import Derived.Test.YtglbnodjcngefaaJ0
import Derived.Test.YtglbnodjcngefaaLawE
import Derived.Test.YtglbnodjcngefaaFO4
set_option linter.unusedSimpArgs false
set_option linter.unusedVariables false
namespace Go.Proofs.Ytglbnodjcngefaa
open Go Go.Eng Go.Flong Go.ChangeShapes Go.WideShapes
set_option maxRecDepth 100000 in
theorem weeksTests_lifted (os : Os) (started : os.Started) (H : Type) (enc : TypeId × Value → H) : ReturnsInHanded {} Try.checked os 11 .any (Rows.weeksTestsSpec.pre6 enc Try.prog Try.f11 Rows.weeksTestsRow.domain false) (Rows.weeksTestsSpec.post enc Try.prog Try.f11 false true false false) := by
  refine lawLifted (C := Try.checked) own started (by kernel_rfl) Try.func11
    (ChangeSpec.witness6 (enc := enc) (C := Try.checked) false ⟨#[], #[.agg #[.int .i64 0, .int .i64 0, .int .i64 0, .int .i64 0, .int .i64 0, .int .i64 0, .int .i64 0, .int .i64 0, .int .i64 0, .int .i64 0, .slice none 0 0, .slice none 0 0], .int .i64 0], []⟩ 8 (by kernel_rfl) (by kernel_rfl) (by kernel_rfl) (by kernel_rfl))
    laidOut rfl Try.underlying4 (by intro t ht; revert ht; revert t; exact of_decide_eq_true (by kernel_rfl)) rfl (fun ds hd => ?_) fun W base args ds p hval hA => ?_
  · match ds, hd with
    | [_, _], _ => rfl
  · obtain ⟨v0, vs, d0, ds0, p0, q0, ha, rfl, rfl, h0, hA⟩ := trodAll_cons hA
    obtain ⟨v1, vs, d1, ds1, p1, q1, rfl, rfl, rfl, h1, hA⟩ := trodAll_cons hA
    obtain ⟨rfl, rfl, rfl⟩ := trodAll_nil hA
    obtain rfl : args = #[v0, v1] := by cases args; simp_all
    obtain ⟨a0, pv0, nv0, rfl, hp0, hn0⟩ := arg31 (hval 0 31 v0 rfl rfl) h0
    obtain ⟨a1, rfl⟩ := okWide_int Try.underlying3 (hval 1 3 v1 rfl rfl)
    exact Sig.kept (c11 a0 a1 (fun h => testsLaw h a1)) (ν := nuL [pv0, nv0]) ⟨hp0, hn0, trivial⟩
/-- WeeksTests, for every input. -/
theorem weeksTests_holds : Rows.WeeksTestsSaid :=
  OpenClaim.holds_of_wide 11 Try.f11 rfl rfl rfl rfl rfl rfl rfl ⟨rfl, rfl, rfl, rfl, rfl⟩ rfl rfl rfl rfl rfl (by kernel_rfl) Try.func11 (by kernel_rfl)
    (of_decide_eq_true (by kernel_rfl)) (by unfold Func.isWrapper; rw [if_neg (by decide +kernel)]; exact ⟨rfl, rfl⟩)
    (fun os started H enc _ => weeksTests_lifted os started H enc)
end Go.Proofs.Ytglbnodjcngefaa
