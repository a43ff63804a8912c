/- WeeksLess returns true for every input and leaves its arguments as they were. No condition. -/
import Derived.Test.YtglbnodjcngefaaJ0
import Derived.Test.YtglbnodjcngefaaLawD
import Derived.Test.YtglbnodjcngefaaEO3
set_option linter.unusedSimpArgs false
set_option linter.unusedVariables false
namespace Go.Proofs.Ytglbnodjcngefaa
open Go Go.Eng Go.Flong Go.ChangeShapes Go.WideShapes
set_option maxRecDepth 100000 in
theorem weeksLess_lifted (os : Os) (started : os.Started) (H : Type) (enc : TypeId × Value → H) : ReturnsInHanded {} Try.checked os 8 .any (Rows.weeksLessSpec.pre6 enc Try.prog Try.f8 Rows.weeksLessRow.domain false) (Rows.weeksLessSpec.post enc Try.prog Try.f8 false true false false) := by
  refine lawLifted (C := Try.checked) own started (by kernel_rfl) Try.func8
    (ChangeSpec.witness6 (enc := enc) (C := Try.checked) false ⟨#[], #[.agg #[.int .i64 0, .int .i64 0, .int .i64 0, .int .i64 0, .int .i64 0, .int .i64 0, .int .i64 0, .int .i64 0, .int .i64 0, .int .i64 0, .slice none 0 0, .slice none 0 0]], []⟩ 8 (by kernel_rfl) (by kernel_rfl) (by kernel_rfl) (by kernel_rfl))
    laidOut rfl Try.underlying4 (by intro t ht; revert ht; revert t; exact of_decide_eq_true (by kernel_rfl)) rfl (fun ds hd => ?_) fun W base args ds p hval hA => ?_
  · match ds, hd with
    | [_], _ => rfl
  · obtain ⟨v0, vs, d0, ds0, p0, q0, ha, rfl, rfl, h0, hA⟩ := trodAll_cons hA
    obtain ⟨rfl, rfl, rfl⟩ := trodAll_nil hA
    obtain rfl : args = #[v0] := by cases args; simp_all
    obtain ⟨a0, pv0, nv0, rfl, hp0, hn0⟩ := arg31 (hval 0 31 v0 rfl rfl) h0
    exact Sig.kept (c8 a0 (fun h1 h2 => cutLaw h1 h2)) (ν := nuL [pv0, nv0]) ⟨hp0, hn0, trivial⟩
/-- WeeksLess, for every input. -/
theorem weeksLess_holds : Rows.WeeksLessSaid :=
  OpenClaim.holds_of_wide 8 Try.f8 rfl rfl rfl rfl rfl rfl rfl ⟨rfl, rfl, rfl, rfl, rfl⟩ rfl rfl rfl rfl rfl (by kernel_rfl) Try.func8 (by kernel_rfl)
    (of_decide_eq_true (by kernel_rfl)) (by unfold Func.isWrapper; rw [if_neg (by decide +kernel)]; exact ⟨rfl, rfl⟩)
    (fun os started H enc _ => weeksLess_lifted os started H enc)
end Go.Proofs.Ytglbnodjcngefaa
