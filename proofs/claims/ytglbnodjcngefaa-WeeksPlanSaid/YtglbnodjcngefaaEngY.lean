/- The engine, part Y: from a contract to a row: arguments that read as data, and what is said behind the call. -/
import Derived.Test.YtglbnodjcngefaaEngX
import Derived.ChangeSame
import Derived.ChangeSlices
import Derived.ChangeVars
import Derived.JoinedOf
import Derived.Handed
import Derived.WideKeyArgs
set_option linter.unusedSimpArgs false
set_option linter.unusedVariables false
namespace Go.Eng
open Go Go.ChangeShapes Go.WideShapes

inductive Leaf : Type 1 where
  | i
  | s {β : Type} (E : EP β)
def LeafOK (I : IH) : List Value → List Leaf → Prop
  | [], [] => True
  | v :: vs, .i :: ls => (∃ n, v = .int .i64 n) ∧ LeafOK I vs ls
  | v :: vs, .s E :: ls => (∃ l, (PL E l).h I v) ∧ LeafOK I vs ls
  | _, _ => False
theorem LeafOK.len {I : IH} : ∀ {vs : List Value} {ls : List Leaf}, LeafOK I vs ls → vs.length = ls.length
  | [], [], _ => rfl
  | _ :: _, .i :: _, h => by simp [LeafOK.len h.2]
  | _ :: _, .s _ :: _, h => by simp [LeafOK.len h.2]
  | [], .i :: _, h => h.elim
  | [], .s _ :: _, h => h.elim
  | _ :: _, [], h => h.elim
theorem LeafOK.app {I : IH} {vs2 : List Value} {ls2 : List Leaf} (h2 : LeafOK I vs2 ls2) : ∀ {vs : List Value} {ls : List Leaf}, LeafOK I vs ls → LeafOK I (vs ++ vs2) (ls ++ ls2)
  | [], [], _ => h2
  | _ :: _, .i :: _, h => ⟨h.1, LeafOK.app h2 h.2⟩
  | _ :: _, .s _ :: _, h => ⟨h.1, LeafOK.app h2 h.2⟩
  | [], .i :: _, h => h.elim
  | [], .s _ :: _, h => h.elim
  | _ :: _, [], h => h.elim
/-- Values of a type lie in these leaves. -/
structure Flat (P : Program) (t : TypeId) (ls : List Leaf) : Prop where
  cells : P.cellsOf t = ls.length
  ok : ∀ {H : Type} (enc : TypeId × Value → H) (w : World) (fuel : Nat) (cs : List Value) (x : DataW H × List MemPlace), DataW.trod enc P w 0 (fun _ => true) true fuel t cs = some x → LeafOK (World.all w) cs ls
/-- Values of a type are such elements. -/
structure ReadsE (P : Program) (t : TypeId) {α : Type} (E : EP α) : Prop where
  size : E.size = P.cellsOf t
  pos : 0 < E.size
  ok : ∀ {H : Type} (enc : TypeId × Value → H) (w : World) (fuel : Nat) (cs : List Value) (x : DataW H × List MemPlace), DataW.trod enc P w 0 (fun _ => true) true fuel t cs = some x → ∃ y, E.h (World.all w) cs y
theorem Flat.int {P : Program} {t : TypeId} (h : P.underlying t = some (.int .i64)) (hc : P.cellsOf t = 1) : Flat P t [.i] := ⟨hc, fun enc w fuel cs x hx => by
  obtain ⟨n, rfl, _⟩ := DataW.trod_int h hx
  exact ⟨⟨n, rfl⟩, trivial⟩⟩
theorem ReadsE.int {P : Program} {t : TypeId} (h : P.underlying t = some (.int .i64)) (hc : P.cellsOf t = 1) : ReadsE P t EP.int := ⟨hc.symm, by decide, fun enc w fuel cs x hx => by
  obtain ⟨n, rfl, _⟩ := DataW.trod_int h hx
  exact ⟨n, rfl⟩⟩
theorem all_cell {w : World} {a : Addr} {v : Value} (h : w.cell? a = some v) : (World.all w).cell a = some v := by
  unfold World.cell? at h
  unfold IH.cell World.all
  exact h
theorem rows_list {P : Program} {e : TypeId} {α : Type} {E : EP α} (hE : ReadsE P e E) {H : Type} {enc : TypeId × Value → H} {w : World} {n : Nat} {a : Addr} {elems : List (DataW H × List MemPlace)} :
    ∀ len : Nat, len ≤ elems.length → (∀ i, i < len → (w.cells? 0 (a.add (i * P.cellsOf e)) (P.cellsOf e)).bind (DataW.trod enc P w 0 (fun _ => true) true n e) = elems[i]?) →
    ∃ l : List α, l.length = len ∧ ∀ i (hi : i < l.length), ∃ cs, w.cells? 0 (a.add (i * P.cellsOf e)) (P.cellsOf e) = some cs ∧ E.h (World.all w) cs l[i]
  | 0, _, _ => ⟨[], rfl, fun i hi => absurd hi (by simp)⟩
  | len + 1, hl, h => by
    obtain ⟨l, h1, h2⟩ := rows_list hE len (by omega) (fun i hi => h i (by omega))
    have h3 := h len (by omega)
    rw [List.getElem?_eq_getElem (by omega)] at h3
    obtain ⟨cs, h4, h5⟩ := Option.bind_eq_some_iff.1 h3
    obtain ⟨y, hy⟩ := hE.ok enc w n cs _ h5
    refine ⟨l ++ [y], by simp [h1], fun i hi => ?_⟩
    by_cases hil : i < l.length
    · rw [List.getElem_append_left hil]; exact h2 i hil
    · have : i = l.length := by simp at hi; omega
      subst this
      rw [List.getElem_append_right (Nat.le_refl _)]
      simp only [Nat.sub_self, List.getElem_cons_zero]
      exact ⟨cs, by rw [h1]; exact h4, hy⟩
theorem slice_pl {P : Program} {t e : TypeId} {α : Type} {E : EP α} (h : P.underlying t = some (.slice e)) (hE : ReadsE P e E) {H : Type} (enc : TypeId × Value → H) (w : World) (fuel : Nat) (cs : List Value) (x : DataW H × List MemPlace)
    (hx : DataW.trod enc P w 0 (fun _ => true) true fuel t cs = some x) : ∃ v l, cs = [v] ∧ (PL E l).h (World.all w) v := by
  rcases DataW.trod_slice h hx with ⟨rfl, _⟩ | ⟨a, len, cap, elems, rest, n, _, rfl, _, _, hlc, _, hel, hall, _⟩
  · exact ⟨_, [], rfl, pl_nil⟩
  · obtain ⟨l, h1, h2⟩ := rows_list hE len (by omega) hall
    refine ⟨_, l, rfl, some a, cap, by rw [h1], by omega, fun i hi => ?_⟩
    obtain ⟨cs, h3, h4⟩ := h2 i hi
    obtain ⟨h5, h6, h7⟩ := World.cells?_some h3
    have hsp : a.spot = none := by
      obtain ⟨cs0, g3, g4⟩ := h2 0 (by omega)
      obtain ⟨_, _, g7⟩ := World.cells?_some g3
      have hp := hE.pos
      have hl := E.len g4
      have := g7 0 (by rw [← hE.size]; exact hp)
      rw [List.getElem?_eq_getElem (by omega)] at this
      have h8 := World.cell?_spot this
      simpa [Addr.add] using h8
    refine ⟨cs, a, h4, rfl, hsp, fun j y hj => all_cell ?_⟩
    have hjl : j < cs.length := (List.getElem?_eq_some_iff.1 hj).1
    have := h7 j (by rw [← hE.size, ← E.len h4]; exact hjl)
    rw [hE.size, ← Addr.add_add hsp, this, hj]
theorem Flat.slice {P : Program} {t e : TypeId} {α : Type} {E : EP α} (h : P.underlying t = some (.slice e)) (hc : P.cellsOf t = 1) (hE : ReadsE P e E) : Flat P t [.s E] := ⟨hc, fun enc w fuel cs x hx => by
  obtain ⟨v, l, rfl, hl⟩ := slice_pl h hE enc w fuel cs x hx
  exact ⟨⟨l, hl⟩, trivial⟩⟩
theorem ReadsE.slice {P : Program} {t e : TypeId} {α : Type} {E : EP α} (h : P.underlying t = some (.slice e)) (hc : P.cellsOf t = 1) (hE : ReadsE P e E) : ReadsE P t (EP.sl E) := ⟨hc.symm, by show 0 < 1; omega, fun enc w fuel cs x hx => by
  obtain ⟨v, l, rfl, hl⟩ := slice_pl h hE enc w fuel cs x hx
  exact ⟨l, v, rfl, hl⟩⟩
inductive LeafFs (P : Program) : Nat → List Field → List Leaf → Prop
  | nil {o : Nat} : LeafFs P o [] []
  | cons {o : Nat} {f : Field} {fs : List Field} {l1 l2 : List Leaf} (ho : f.offset = o) (h : Flat P f.type l1) (t : LeafFs P (o + l1.length) fs l2) : LeafFs P o (f :: fs) (l1 ++ l2)
theorem LeafFs.ok {P : Program} {H : Type} {enc : TypeId × Value → H} {w : World} {n : Nat} {cs : List Value} : ∀ {o : Nat} {fs : List Field} {ls : List Leaf}, LeafFs P o fs ls →
    (∀ f ∈ fs, ∃ x, DataW.trod enc P w 0 (fun _ => true) true n f.type ((cs.drop f.offset).take (P.cellsOf f.type)) = some x) → cs.length = o + ls.length → LeafOK (World.all w) (cs.drop o) ls
  | o, _, _, .nil, _, hl => by
    have : cs.drop o = [] := List.drop_eq_nil_of_le (by simp at hl; omega)
    rw [this]; trivial
  | o, _, _, .cons (f := f) (fs := fs) (l1 := l1) (l2 := l2) ho h t, hf, hl => by
    obtain ⟨x, hx⟩ := hf f List.mem_cons_self
    have h1 := h.ok enc w n _ x hx
    rw [h.cells, ho] at h1
    have h2 := LeafFs.ok t (fun g hg => hf g (List.mem_cons_of_mem _ hg)) (by rw [hl, List.length_append]; omega)
    have := LeafOK.app h2 h1
    rw [show cs.drop (o + l1.length) = (cs.drop o).drop l1.length by rw [List.drop_drop], List.take_append_drop] at this
    exact this
theorem Flat.struct {P : Program} {t : TypeId} {fs : Array Field} {ls : List Leaf} (h : P.underlying t = some (.struct fs)) (hf : LeafFs P 0 fs.toList ls) (hc : P.cellsOf t = ls.length) : Flat P t ls := ⟨hc, fun enc w fuel cs x hx => by
  obtain ⟨xs, n, _, _, hl, hxl, hall⟩ := DataW.trod_struct h hx
  have := LeafFs.ok (cs := cs) (enc := enc) (w := w) (n := n) hf (fun f hfm => by
    obtain ⟨i, hi, rfl⟩ := List.mem_iff_getElem.1 hfm
    have hi' : i < fs.size := by simpa using hi
    have h2 := hall i fs[i] (by simp [hi'])
    rw [List.getElem?_eq_getElem (by omega)] at h2
    exact ⟨_, by simpa using h2⟩) (by rw [hl, hc]; omega)
  simpa using this⟩

/-! ### Behind the call -/
theorem keep_kept {w w' : World} (h : Keep Emp w w') : w.keptBut w' (fun _ => False) := by
  refine ⟨h.os, h.output, fun i hi => ?_⟩
  rw [h.block i hi (fun h => h)]
  cases hw : w.heap[i]? with
  | none => rfl
  | some o => cases o <;> first | rfl | exact ⟨rfl, rfl, rfl, fun _ _ => rfl⟩ | exact .inr ⟨rfl, rfl⟩
theorem keep_same {w w' : World} (h : Keep Emp w w') {p : MemPlace} (hp : p.block < w.heap.size) : w.sameAt w' p := by
  cases p with
  | cell b off =>
    show w'.cell? _ = w.cell? _
    unfold World.cell?
    rw [h.block b hp (fun h => h)]
  | map b => exact h.block b hp (fun h => h)
theorem trodAll_kept {P : Program} {H : Type} {enc : TypeId × Value → H} {w w' : World} (hl : laidOutB P = true) (hk : Keep Emp w w') : ∀ {ts : List TypeId} {vs : List Value} {ds : List (DataW H)} {ps : List MemPlace}, (∀ t ∈ ts, P.readableRec t = true ∧ t < P.types.size) →
    DataW.TrodAll enc P w 0 (fun _ => true) true ts vs ds ps → (∀ p ∈ ps, p.block < w.heap.size) → DataW.TrodAll enc P w' 0 (fun b => decide (b < w.heap.size)) true ts vs ds ps
  | [], _, _, _, _, h, _ => by
    obtain ⟨rfl, rfl, rfl⟩ := trodAll_nil h
    exact rfl
  | t :: ts, _, _, _, ht, h, hlt => by
    obtain ⟨v, vs, d, ds, p, q, rfl, rfl, rfl, h1, h2⟩ := trodAll_cons h
    have h3 := ht t List.mem_cons_self
    exact ⟨p, q, WideElems.Trod_stays hl h3.1 h3.2 h1 (fun x hx => keep_same hk (hlt x (List.mem_append_left _ hx))) (fun x hx => by simpa using hlt x (List.mem_append_left _ hx)),
      trodAll_kept hl hk (fun t hx => ht t (List.mem_cons_of_mem _ hx)) h2 (fun x hx => hlt x (List.mem_append_right _ hx)), rfl⟩
/-- What a law's row says behind the call: true, and each argument as it was. -/
theorem law_post {P : Program} {H : Type} {enc : TypeId × Value → H} {fn : Func} {s : ChangeSpec} {apart fresh : Bool} {w w' : World} {args : Array Value} {ds gs : List (DataW H)} {before : List MemPlace} {tb : TypeId} (hl : laidOutB P = true) (hr : fn.resultTypes = #[tb]) (hb : P.underlying tb = some .bool)
    (hts : ∀ t ∈ fn.params.toList, P.readableRec t = true ∧ t < P.types.size) (hv : s.vars = []) (hW : DataW.Whole enc P fn.params.toList s.vars apart w args.toList ds gs before) (hs : s.fn H (ds ++ gs) = { results := [.lit (.bool true)], args := ds }) (hk : Keep Emp w w') :
    s.post enc P fn apart fresh false false w args (.bool true) w' := by
  have hlt := hW.lt
  obtain ⟨p, q, h1, h2, rfl, h3, h4⟩ := id hW
  refine ⟨ds, gs, p ++ q, [], p, [], hW, ?_, ?_, ?_, ?_, fun h => by cases h⟩
  · rw [hr, hs]
    exact trodAll_mk1 ⟨1, by simp [DataW.trod, hb, Value.cells]⟩
  · rw [hs]
    exact trodAll_kept hl hk hts h1 (fun x hx => hlt x (List.mem_append_left _ hx))
  · rw [hs, hv]
    exact rfl
  · obtain ⟨a, b, c⟩ := keep_kept hk
    refine ⟨a, b, fun i hi => ?_⟩
    have := c i hi
    revert this
    cases w.heap[i]? with
    | none => exact fun h => h
    | some o =>
      cases w'.heap[i]? with
      | none => intro h; cases o <;> exact h
      | some o' =>
        cases o <;> cases o' <;> intro h <;> first | exact h | exact ⟨h.1, h.2.1, h.2.2.1, fun j _ => h.2.2.2 j (fun x => x)⟩ | exact .inr (h.resolve_left (fun x => x))
end Go.Eng
