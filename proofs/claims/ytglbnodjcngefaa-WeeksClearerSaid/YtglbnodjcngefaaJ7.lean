/- WeeksClearer returns true for every input and leaves its arguments as they were. No condition. -/
import Derived.Test.YtglbnodjcngefaaJ0
import Derived.Test.YtglbnodjcngefaaJ0u
import Derived.Test.YtglbnodjcngefaaLawD
import Derived.Test.YtglbnodjcngefaaEO3
set_option linter.unusedSimpArgs false
set_option linter.unusedVariables false
namespace Go.Proofs.Ytglbnodjcngefaa
open Go Go.Eng Go.Flong Go.ChangeShapes Go.WideShapes
set_option maxRecDepth 100000 in
theorem weeksClearer_lifted (os : Os) (started : os.Started) (H : Type) (enc : TypeId × Value → H) : ReturnsInHanded {} Try.checked os 7 .any (Rows.weeksClearerSpec.pre6 enc Try.prog Try.f7 Rows.weeksClearerRow.domain false) (Rows.weeksClearerSpec.post enc Try.prog Try.f7 false true false false) := by
  refine lawLifted (C := Try.checked) own started (by kernel_rfl) Try.func7
    (ChangeSpec.witness6 (enc := enc) (C := Try.checked) false ⟨#[], #[.agg #[.int .i64 0, .int .i64 0, .int .i64 0, .int .i64 0, .int .i64 0, .int .i64 0, .int .i64 0, .int .i64 0, .int .i64 0, .int .i64 0, .slice none 0 0, .slice none 0 0], .agg #[.int .i64 0, .int .i64 0, .int .i64 0, .int .i64 0, .int .i64 0, .int .i64 0, .int .i64 0], .slice none 0 0], []⟩ 8 (by kernel_rfl) (by kernel_rfl) (by kernel_rfl) (by kernel_rfl))
    laidOut rfl Try.underlying4 (by intro t ht; revert ht; revert t; exact of_decide_eq_true (by kernel_rfl)) rfl (fun ds hd => ?_) fun W base args ds p hval hA => ?_
  · match ds, hd with
    | [_, _, _], _ => rfl
  · obtain ⟨v0, vs, d0, ds0, p0, q0, ha, rfl, rfl, h0, hA⟩ := trodAll_cons hA
    obtain ⟨v1, vs, d1, ds1, p1, q1, rfl, rfl, rfl, h1, hA⟩ := trodAll_cons hA
    obtain ⟨v2, vs, d2, ds2, p2, q2, rfl, rfl, rfl, h2, hA⟩ := trodAll_cons hA
    obtain ⟨rfl, rfl, rfl⟩ := trodAll_nil hA
    obtain rfl : args = #[v0, v1, v2] := by cases args; simp_all
    obtain ⟨a0, pv0, nv0, rfl, hp0, hn0⟩ := arg31 (hval 0 31 v0 rfl rfl) h0
    obtain ⟨a1, rfl⟩ := argClear (hval 1 _ v1 rfl rfl) h1
    obtain ⟨a2, hl2⟩ := arg32 (hval 2 32 v2 rfl rfl) h2
    exact Sig.kept (c7 a0 a1 a2 (fun h1 h2 h3 h4 h5 => clearLaw h1 h2 h3 h4 h5)) (ν := nuL [pv0, nv0, v2]) ⟨hp0, hn0, hl2, trivial⟩
/-- WeeksClearer, for every input. -/
theorem weeksClearer_holds : Rows.WeeksClearerSaid :=
  OpenClaim.holds_of_wide 7 Try.f7 rfl rfl rfl rfl rfl rfl rfl ⟨rfl, rfl, rfl, rfl, rfl⟩ rfl rfl rfl rfl rfl (by kernel_rfl) Try.func7 (by kernel_rfl)
    (of_decide_eq_true (by kernel_rfl)) (by unfold Func.isWrapper; rw [if_neg (by decide +kernel)]; exact ⟨rfl, rfl⟩)
    (fun os started H enc _ => weeksClearer_lifted os started H enc)
end Go.Proofs.Ytglbnodjcngefaa
