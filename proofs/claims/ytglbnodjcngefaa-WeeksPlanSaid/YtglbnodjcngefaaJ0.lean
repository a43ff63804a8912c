/- The types of layer 13 as data. -/
import Derived.Test.YtglbnodjcngefaaEngZ
import Derived.Test.YtglbnodjcngefaaBase9
import Derived.Test.YtglbnodjcngefaaProg
import Derived.Test.YtglbnodjcngefaaRows
set_option linter.unusedSimpArgs false
set_option linter.unusedVariables false
namespace Go.Proofs.Ytglbnodjcngefaa
open Go Go.Eng Go.Flong Go.ChangeShapes Go.WideShapes
theorem own : ownKnob Try.prog.godebug = none := by kernel_rfl
theorem laidOut : laidOutB Try.prog = true := by kernel_rfl
theorem Y3 : Flat Try.prog 3 [.i] := Flat.int Try.underlying3 (by kernel_rfl)
theorem Y23 : Flat Try.prog 23 [.i, .i] := Flat.struct (ls := [Leaf.i] ++ ([Leaf.i] ++ [])) Try.underlying23 (.cons rfl Y3 (.cons rfl Y3 .nil)) (by kernel_rfl)
theorem Y25 : Flat Try.prog 25 [.i, .i, .i, .i, .i] := Flat.struct (ls := [Leaf.i] ++ ([Leaf.i, Leaf.i] ++ ([Leaf.i, Leaf.i] ++ []))) Try.underlying25 (.cons rfl Y3 (.cons rfl Y23 (.cons rfl Y23 .nil))) (by kernel_rfl)
theorem Y78 : Flat Try.prog 78 [.i, .i, .i, .i, .i] := Flat.struct (ls := [Leaf.i] ++ ([Leaf.i] ++ ([Leaf.i] ++ ([Leaf.i] ++ ([Leaf.i] ++ []))))) Try.underlying78 (.cons rfl Y3 (.cons rfl Y3 (.cons rfl Y3 (.cons rfl Y3 (.cons rfl Y3 .nil))))) (by kernel_rfl)
theorem Y75 : Flat Try.prog 75 [.i, .i, .i] := Flat.struct (ls := [Leaf.i, Leaf.i] ++ ([Leaf.i] ++ [])) Try.underlying75 (.cons rfl Y23 (.cons rfl Y3 .nil)) (by kernel_rfl)
theorem X78 : ReadsE Try.prog 78 EPig := ⟨by rw [Y78.cells]; rfl, by decide, fun enc w fuel cs x hx => by
  have h := Y78.ok enc w fuel cs x hx
  match cs, h with
  | [_, _, _, _, _], ⟨⟨a, rfl⟩, ⟨b, rfl⟩, ⟨c, rfl⟩, ⟨d, rfl⟩, ⟨e, rfl⟩, _⟩ => exact ⟨⟨a, b, c, d, e⟩, rfl, rfl, rfl, rfl, rfl, trivial⟩⟩
theorem X75 : ReadsE Try.prog 75 ENight := ⟨by rw [Y75.cells]; rfl, by decide, fun enc w fuel cs x hx => by
  have h := Y75.ok enc w fuel cs x hx
  match cs, h with
  | [_, _, _], ⟨⟨a, rfl⟩, ⟨b, rfl⟩, ⟨c, rfl⟩, _⟩ => exact ⟨⟨a, b, c⟩, rfl, rfl, rfl, trivial⟩⟩
theorem Y26 : Flat Try.prog 26 [.s EPig] := Flat.slice Try.underlying26 (by kernel_rfl) X78
theorem Y29 : Flat Try.prog 29 [.s ENight] := Flat.slice Try.underlying29 (by kernel_rfl) X75
theorem Y28 : Flat Try.prog 28 [.i, .i, .i, .i, .i, .i, .i, .i, .i, .i, .s EPig] := Flat.struct (ls := [Leaf.i, Leaf.i, Leaf.i, Leaf.i, Leaf.i] ++ ([Leaf.i] ++ ([Leaf.i, Leaf.i] ++ ([Leaf.i, Leaf.i] ++ ([Leaf.s EPig] ++ []))))) Try.underlying28 (.cons rfl Y25 (.cons rfl Y3 (.cons rfl Y23 (.cons rfl Y23 (.cons rfl Y26 .nil))))) (by kernel_rfl)
theorem Y31 : Flat Try.prog 31 [.i, .i, .i, .i, .i, .i, .i, .i, .i, .i, .s EPig, .s ENight] := Flat.struct (ls := [Leaf.i, Leaf.i, Leaf.i, Leaf.i, Leaf.i, Leaf.i, Leaf.i, Leaf.i, Leaf.i, Leaf.i, Leaf.s EPig] ++ ([Leaf.s ENight] ++ [])) Try.underlying31 (.cons rfl Y28 (.cons rfl Y29 .nil)) (by kernel_rfl)
theorem X44 : ReadsE Try.prog 44 (EP.sl EP.int) := ReadsE.slice Try.underlying44 (by kernel_rfl) (ReadsE.int Try.underlying3 (by kernel_rfl))
theorem fnd_leaf {I : IH} {v : Value} {cs : Array Value} (hv : v = .agg cs) (h : LeafOK I (Value.agg cs).cells.toList [.i, .i, .i, .i, .i, .i, .i, .i, .i, .i, .s EPig, .s ENight]) : ∃ (f : Fnd) (pv nv : Value), v = .agg #[.int .i64 f.shop.pounds, .int .i64 f.shop.tl, .int .i64 f.shop.th, .int .i64 f.shop.al, .int .i64 f.shop.ah, .int .i64 f.shop.room, .int .i64 f.shop.tpl, .int .i64 f.shop.tph, .int .i64 f.shop.apl, .int .i64 f.shop.aph, pv, nv] ∧ (PL EPig f.shop.pigs).h I pv ∧ (PL ENight f.nights).h I nv := by
  obtain ⟨l⟩ := cs
  have g0 : LeafOK I l _ := h
  obtain ⟨a, l1, e1, g1⟩ := g0.uni
  obtain ⟨b, l2, e2, g2⟩ := g1.uni
  obtain ⟨c, l3, e3, g3⟩ := g2.uni
  obtain ⟨d, l4, e4, g4⟩ := g3.uni
  obtain ⟨e, l5, e5, g5⟩ := g4.uni
  obtain ⟨g, l6, e6, g6⟩ := g5.uni
  obtain ⟨i, l7, e7, g7⟩ := g6.uni
  obtain ⟨j, l8, e8, g8⟩ := g7.uni
  obtain ⟨k, l9, e9, g9⟩ := g8.uni
  obtain ⟨m, l10, e10, g10⟩ := g9.uni
  obtain ⟨pv, pl, l11, e11, hp, g11⟩ := g10.uns
  obtain ⟨nv, nl, l12, e12, hn, g12⟩ := g11.uns
  have e13 := g12.un0
  subst e13 e12 e11 e10 e9 e8 e7 e6 e5 e4 e3 e2 e1
  exact ⟨⟨⟨a, b, c, d, e, g, i, j, k, m, pl⟩, nl⟩, pv, nv, hv, hp, hn⟩
section
variable {H : Type} {enc : TypeId × Value → H} {W : World} {base : Nat} {v : Value} {d : DataW H} {p : List MemPlace}
set_option maxRecDepth 100000 in
theorem arg31 (h : Value.okWide Try.prog W .any base 31 v) (ht : DataW.Trod enc Try.prog W 0 (fun _ => true) true 31 v d p) : ∃ (f : Fnd) (pv nv : Value), v = .agg #[.int .i64 f.shop.pounds, .int .i64 f.shop.tl, .int .i64 f.shop.th, .int .i64 f.shop.al, .int .i64 f.shop.ah, .int .i64 f.shop.room, .int .i64 f.shop.tpl, .int .i64 f.shop.tph, .int .i64 f.shop.apl, .int .i64 f.shop.aph, pv, nv] ∧ (PL EPig f.shop.pigs).h (World.all W) pv ∧ (PL ENight f.nights).h (World.all W) nv := by
  obtain ⟨cs, hv, _⟩ := okWide_struct Try.underlying31 h
  obtain ⟨fuel, hf⟩ := ht
  have h1 := Y31.ok enc W fuel _ _ hf
  rw [hv] at h1
  exact fnd_leaf hv h1
set_option maxRecDepth 100000 in
theorem arg32 (h : Value.okWide Try.prog W .any base 32 v) (ht : DataW.Trod enc Try.prog W 0 (fun _ => true) true 32 v d p) : ∃ l : List (List Int), (PL (EP.sl EP.int) l).h (World.all W) v := by
  obtain ⟨a, len, cap, rfl⟩ := okWide_slice Try.underlying32 h
  obtain ⟨fuel, hf⟩ := ht
  obtain ⟨u, l, hu, hl⟩ := slice_pl Try.underlying32 X44 enc W fuel _ _ hf
  have : (Value.slice a len cap) = u := by simpa [Value.cells] using hu
  rw [this]; exact ⟨l, hl⟩
set_option maxRecDepth 100000 in
theorem arg44 (h : Value.okWide Try.prog W .any base 44 v) (ht : DataW.Trod enc Try.prog W 0 (fun _ => true) true 44 v d p) : ∃ l : List Int, (PL EP.int l).h (World.all W) v := by
  obtain ⟨a, len, cap, rfl⟩ := okWide_slice Try.underlying44 h
  obtain ⟨fuel, hf⟩ := ht
  obtain ⟨u, l, hu, hl⟩ := slice_pl Try.underlying44 (ReadsE.int Try.underlying3 (by kernel_rfl)) enc W fuel _ _ hf
  have : (Value.slice a len cap) = u := by simpa [Value.cells] using hu
  rw [this]; exact ⟨l, hl⟩
end
def nuL (l : List Value) (n : Nat) : Value := l.getD n undef
def nu3 (a b c : Value) : Nat → Value
  | 0 => a
  | 1 => b
  | _ => c
end Go.Proofs.Ytglbnodjcngefaa
