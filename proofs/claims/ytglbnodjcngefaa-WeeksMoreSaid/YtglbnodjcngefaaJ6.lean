/- WeeksMore returns true for every input and leaves its arguments as they were. No condition. -/
import Derived.Test.YtglbnodjcngefaaJ0
import Derived.Test.YtglbnodjcngefaaLawD
import Derived.Test.YtglbnodjcngefaaEO3
set_option linter.unusedSimpArgs false
set_option linter.unusedVariables false
namespace Go.Proofs.Ytglbnodjcngefaa
open Go Go.Eng Go.Flong Go.ChangeShapes Go.WideShapes
set_option maxRecDepth 100000 in
theorem weeksMore_lifted (os : Os) (started : os.Started) (H : Type) (enc : TypeId × Value → H) : ReturnsInHanded {} Try.checked os 9 .any (Rows.weeksMoreSpec.pre6 enc Try.prog Try.f9 Rows.weeksMoreRow.domain false) (Rows.weeksMoreSpec.post enc Try.prog Try.f9 false true false false) := by
  refine lawLifted (C := Try.checked) own started (by kernel_rfl) Try.func9
    (ChangeSpec.witness6 (enc := enc) (C := Try.checked) false ⟨#[], #[.agg #[.int .i64 0, .int .i64 0, .int .i64 0, .int .i64 0, .int .i64 0, .int .i64 0, .int .i64 0, .int .i64 0, .int .i64 0, .int .i64 0, .slice none 0 0, .slice none 0 0], .int .i64 0, .int .i64 0], []⟩ 8 (by kernel_rfl) (by kernel_rfl) (by kernel_rfl) (by kernel_rfl))
    laidOut rfl Try.underlying4 (by intro t ht; revert ht; revert t; exact of_decide_eq_true (by kernel_rfl)) rfl (fun ds hd => ?_) fun W base args ds p hval hA => ?_
  · match ds, hd with
    | [_, _, _], _ => rfl
  · obtain ⟨v0, vs, d0, ds0, p0, q0, ha, rfl, rfl, h0, hA⟩ := trodAll_cons hA
    obtain ⟨v1, vs, d1, ds1, p1, q1, rfl, rfl, rfl, h1, hA⟩ := trodAll_cons hA
    obtain ⟨v2, vs, d2, ds2, p2, q2, rfl, rfl, rfl, h2, hA⟩ := trodAll_cons hA
    obtain ⟨rfl, rfl, rfl⟩ := trodAll_nil hA
    obtain rfl : args = #[v0, v1, v2] := by cases args; simp_all
    obtain ⟨a0, pv0, nv0, rfl, hp0, hn0⟩ := arg31 (hval 0 31 v0 rfl rfl) h0
    obtain ⟨a1, rfl⟩ := okWide_int Try.underlying3 (hval 1 3 v1 rfl rfl)
    obtain ⟨a2, rfl⟩ := okWide_int Try.underlying3 (hval 2 3 v2 rfl rfl)
    exact Sig.kept (c9 a0 a1 a2 (fun h1 => moreLaw h1 a1 a2)) (ν := nuL [pv0, nv0]) ⟨hp0, hn0, trivial⟩
/-- WeeksMore, for every input. -/
theorem weeksMore_holds : Rows.WeeksMoreSaid :=
  OpenClaim.holds_of_wide 9 Try.f9 rfl rfl rfl rfl rfl rfl rfl ⟨rfl, rfl, rfl, rfl, rfl⟩ rfl rfl rfl rfl rfl (by kernel_rfl) Try.func9 (by kernel_rfl)
    (of_decide_eq_true (by kernel_rfl)) (by unfold Func.isWrapper; rw [if_neg (by decide +kernel)]; exact ⟨rfl, rfl⟩)
    (fun os started H enc _ => weeksMore_lifted os started H enc)
end Go.Proofs.Ytglbnodjcngefaa
