/- A truth and lesser spans as data. -/
import Derived.Test.YtglbnodjcngefaaJ0
import Derived.Test.YtglbnodjcngefaaBase11
set_option linter.unusedSimpArgs false
set_option linter.unusedVariables false
namespace Go.Proofs.Ytglbnodjcngefaa
open Go Go.Eng Go.Flong Go.ChangeShapes Go.WideShapes
theorem Y44 : Flat Try.prog 44 [.s EP.int] := Flat.slice Try.underlying44 (by kernel_rfl) (ReadsE.int Try.underlying3 (by kernel_rfl))
theorem Y53 : Flat Try.prog 53 [.i, .i, .s EP.int] := Flat.struct (ls := [Leaf.i] ++ ([Leaf.i] ++ ([Leaf.s EP.int] ++ []))) Try.underlying53 (.cons rfl Y3 (.cons rfl Y3 (.cons rfl Y44 .nil))) (by kernel_rfl)
theorem tru_leaf {I : IH} {v : Value} {cs : Array Value} (hv : v = .agg cs) (h : LeafOK I (Value.agg cs).cells.toList [.i, .i, .s EP.int]) : ∃ (t : Tru) (dv : Value), v = .agg #[.int .i64 t.tin, .int .i64 t.ant, dv] ∧ (PL EP.int t.dross).h I dv := by
  obtain ⟨l⟩ := cs
  have g0 : LeafOK I l _ := h
  obtain ⟨a, l1, e1, g1⟩ := g0.uni
  obtain ⟨b, l2, e2, g2⟩ := g1.uni
  obtain ⟨nv, nl, l3, e3, hn, g3⟩ := g2.uns
  have e4 := g3.un0
  subst e4 e3 e2 e1
  exact ⟨⟨a, b, nl⟩, nv, hv, hn⟩
section
variable {H : Type} {enc : TypeId × Value → H} {W : World} {base : Nat} {v : Value} {d : DataW H} {p : List MemPlace}
set_option maxRecDepth 100000 in
theorem argTruth (h : Value.okWide Try.prog W .any base 53 v) (ht : DataW.Trod enc Try.prog W 0 (fun _ => true) true 53 v d p) : ∃ (t : Tru) (dv : Value), v = .agg #[.int .i64 t.tin, .int .i64 t.ant, dv] ∧ (PL EP.int t.dross).h (World.all W) dv := by
  obtain ⟨cs, hv, _⟩ := okWide_struct Try.underlying53 h
  obtain ⟨fuel, hf⟩ := ht
  have h1 := Y53.ok enc W fuel _ _ hf
  rw [hv] at h1
  exact tru_leaf hv h1
end
end Go.Proofs.Ytglbnodjcngefaa
namespace Go.Proofs.Ytglbnodjcngefaa
open Go Go.Eng Go.Flong Go.ChangeShapes Go.WideShapes
theorem Y71 : Flat Try.prog 71 [.i, .i, .i, .i, .i, .i, .i] := Flat.struct (ls := [Leaf.i, Leaf.i] ++ ([Leaf.i, Leaf.i] ++ ([Leaf.i] ++ ([Leaf.i, Leaf.i] ++ [])))) Try.underlying71 (.cons rfl Y23 (.cons rfl Y23 (.cons rfl Y3 (.cons rfl Y23 .nil)))) (by kernel_rfl)
theorem clr_leaf {I : IH} {v : Value} {cs : Array Value} (hv : v = .agg cs) (h : LeafOK I (Value.agg cs).cells.toList [.i, .i, .i, .i, .i, .i, .i]) : ∃ c : Clr, v = .agg #[.int .i64 c.tl, .int .i64 c.th, .int .i64 c.al, .int .i64 c.ah, .int .i64 c.night, .int .i64 c.dl, .int .i64 c.dh] := by
  obtain ⟨l⟩ := cs
  have g0 : LeafOK I l _ := h
  obtain ⟨a, l1, e1, g1⟩ := g0.uni
  obtain ⟨b, l2, e2, g2⟩ := g1.uni
  obtain ⟨c, l3, e3, g3⟩ := g2.uni
  obtain ⟨d, l4, e4, g4⟩ := g3.uni
  obtain ⟨e, l5, e5, g5⟩ := g4.uni
  obtain ⟨g, l6, e6, g6⟩ := g5.uni
  obtain ⟨i, l7, e7, g7⟩ := g6.uni
  have e8 := g7.un0
  subst e8 e7 e6 e5 e4 e3 e2 e1
  exact ⟨⟨a, b, c, d, e, g, i⟩, hv⟩
section
variable {H : Type} {enc : TypeId × Value → H} {W : World} {base : Nat} {v : Value} {d : DataW H} {p : List MemPlace}
set_option maxRecDepth 100000 in
theorem argClear (h : Value.okWide Try.prog W .any base 71 v) (ht : DataW.Trod enc Try.prog W 0 (fun _ => true) true 71 v d p) : ∃ c : Clr, v = .agg #[.int .i64 c.tl, .int .i64 c.th, .int .i64 c.al, .int .i64 c.ah, .int .i64 c.night, .int .i64 c.dl, .int .i64 c.dh] := by
  obtain ⟨cs, hv, _⟩ := okWide_struct Try.underlying71 h
  obtain ⟨fuel, hf⟩ := ht
  have h1 := Y71.ok enc W fuel _ _ hf
  rw [hv] at h1
  exact clr_leaf hv h1
end
end Go.Proofs.Ytglbnodjcngefaa
