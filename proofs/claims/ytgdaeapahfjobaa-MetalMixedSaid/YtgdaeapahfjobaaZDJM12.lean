/- MetalMixed returns true for every input and leaves its arguments as they were. No condition. -/
import Derived.Test.YtgdaeapahfjobaaZD5
set_option linter.unusedSimpArgs false
set_option linter.unusedVariables false
namespace Go.Proofs.Ytgdaeapahfjobaa
open Go Go.Eng Go.Flong Go.ChangeShapes Go.WideShapes
set_option maxRecDepth 100000 in
theorem metalMixed_lifted (os : Os) (started : os.Started) (H : Type) (enc : TypeId × Value → H) : ReturnsInHanded {} Try.checked os 12 .any (Rows.metalMixedSpec.pre6 enc Try.prog Try.f12 Rows.metalMixedRow.domain false) (Rows.metalMixedSpec.post enc Try.prog Try.f12 false true false false) := by
  refine lawLifted (C := Try.checked) own started (by kernel_rfl) Try.func12
    (ChangeSpec.witness6 (enc := enc) (C := Try.checked) false ⟨#[], #[.agg #[.int .i64 0, .int .i64 0, .int .i64 0, .int .i64 0, .int .i64 0, .int .i64 0, .int .i64 0, .int .i64 0, .int .i64 0, .int .i64 0, .slice none 0 0], .agg #[.int .i64 0, .int .i64 0, .int .i64 0, .int .i64 0, .int .i64 0], .slice none 0 0], []⟩ 8 (by kernel_rfl) (by kernel_rfl) (by kernel_rfl) (by kernel_rfl))
    laidOut rfl Try.underlying4 (by intro t ht; revert ht; revert t; exact of_decide_eq_true (by kernel_rfl)) rfl (fun ds hd => ?_) fun W base args ds p hval hA => ?_
  · match ds, hd with
    | [_, _, _], _ => rfl
  · obtain ⟨v0, vs, d0, ds0, p0, q0, ha, rfl, rfl, h0, hA⟩ := trodAll_cons hA
    obtain ⟨v1, vs, d1, ds1, p1, q1, rfl, rfl, rfl, h1, hA⟩ := trodAll_cons hA
    obtain ⟨v2, vs, d2, ds2, p2, q2, rfl, rfl, rfl, h2, hA⟩ := trodAll_cons hA
    obtain ⟨rfl, rfl, rfl⟩ := trodAll_nil hA
    obtain rfl : args = #[v0, v1, v2] := by cases args; simp_all
    obtain ⟨a0, pv0, rfl, hp0⟩ := argShop (hval 0 _ v0 rfl rfl) h0
    obtain ⟨a1, rfl⟩ := argPot (hval 1 _ v1 rfl rfl) h1
    obtain ⟨a2, hl2⟩ := argInts (hval 2 _ v2 rfl rfl) h2
    exact Sig.kept (c12 a0 a1 a2 (fun h1 h2 h3 => mixedLaw h1 h2 h3)) (ν := nuL [pv0, v2]) ⟨hp0, hl2, trivial⟩
theorem metalMixed_holds : Rows.MetalMixedSaid :=
  OpenClaim.holds_of_wide 12 Try.f12 rfl rfl rfl rfl rfl rfl rfl ⟨rfl, rfl, rfl, rfl, rfl⟩ rfl rfl rfl rfl rfl (by kernel_rfl) Try.func12 (by kernel_rfl)
    (of_decide_eq_true (by kernel_rfl)) (by unfold Func.isWrapper; rw [if_neg (by decide +kernel)]; exact ⟨rfl, rfl⟩)
    (fun os started H enc _ => metalMixed_lifted os started H enc)
end Go.Proofs.Ytgdaeapahfjobaa
