/- The engine, part I: slices of the call's own: made, appended to, read and written; settled; lent to a call. -/
import Derived.Test.YtglbnodjcngefaaEngH
import Derived.Maps.AppendAt
import Derived.Laws.OwnMore
set_option linter.unusedSimpArgs false
set_option linter.unusedVariables false
namespace Go.Eng
open Go

/-- What is asked of a slice type. -/
structure RowT (P : Program) (t e : TypeId) (size bytes : Nat) (zs : List Value) : Prop where
  u : P.underlying t = some (.slice e)
  i : ∃ i z, P.info? e = some i ∧ i.zero = some z ∧ i.size = size ∧ i.bytes = bytes ∧ z.cells = zs.toArray
  z : zs.length = size
  pos : 0 < size
theorem RowT.sz {P : Program} {t e : TypeId} {size bytes : Nat} {zs : List Value} (h : RowT P t e size bytes zs) (w : World) : (sizeOf e).run P w = .ok size w := by
  obtain ⟨i, z, h1, _, h3, _⟩ := h.i
  simp [sizeOf, typeInfo, h1, h3]
theorem RowT.isSl {P : Program} {t e : TypeId} {size bytes : Nat} {zs : List Value} (h : RowT P t e size bytes zs) : IsSl P t e size := ⟨h.u, h.sz⟩

/-- Cells that a slice value spreads. -/
def Spread (w : World) (size : Nat) (u : Value) (m : Nat) (news : List Value) : Prop :=
  ∃ a c, u = .slice a m c ∧ news.length = m * size ∧ ((a = none ∧ c = 0) ∨ ∃ ad, a = some ad ∧ ∀ j y, news[j]? = some y → w.cell? (ad.add j) = some y) ∧ ∀ y ∈ news, y.oneCell' = true

theorem run_app {P : Program} {t e : TypeId} {size bytes : Nat} {zs : List Value} (hT : RowT P t e size bytes zs) (w : World) {ty : TypeId} {v u : Value} {n m : Nat} {xs news : List Value} (hown : w.ownsRow 0 e size v n xs) (hu : Spread w size u m news) (hm0 : ∀ c, u = .slice none m c → m = 0)
    (h63 : n + m ≤ maxLen) (hbytes : (n + m) * bytes ≤ 140737488355328) :
    ∃ v' w', (Builtin.append_ #[t, t] ty #[v, u]).run P w = .ok v' w' ∧ w'.ownsRow 0 e size v' (n + m) (xs ++ news) ∧ w.grownBy w' v.ownBlock ∧ (v'.ownBlock = v.ownBlock ∨ v'.ownBlock = some w.heap.size) := by
  obtain ⟨i, z, h1, h2, h3, h4, h5⟩ := hT.i
  obtain ⟨a, c, rfl, hl, ha, h6⟩ := hu
  rcases ha with ⟨rfl, rfl⟩ | ⟨ad, rfl, ha⟩
  · have hm := hm0 0 rfl
    subst hm
    have : news = [] := List.eq_nil_of_length_eq_zero (by simpa using hl)
    subst this
    refine ⟨v, w, run_append_owned_none w 0 t ty e i size hT.u h1 v n xs hown, by simpa using hown, ⟨rfl, rfl, rfl, Nat.le_refl _, fun _ _ _ => rfl⟩, .inl rfl⟩
  · obtain ⟨v', w', h7, h8, h9, _, h10⟩ := run_append_own_at (P := P) w 0 t ty e i z size bytes hT.u h1 h2 h3 h4 (by rw [h5]; simpa using hT.z) hT.pos v n xs hown ad m c news hl ha h6 h63 hbytes (Nat.zero_le _)
    exact ⟨v', w', h7, h8, h9, h10⟩

theorem ownBlock_lt {w : World} {T : TypeId} {size n : Nat} {v : Value} {xs : List Value} (h : w.ownsRow 0 T size v n xs) {b : Nat} (hb : v.ownBlock = some b) : b < w.heap.size := (h.lt b hb).2

/-- An operation that makes a row of the call's own. -/
theorem OpG.own0 {cx : Cx} {S : St} {o : Oper} {T : TypeId} {size n k : Nat} {R : LPred} (hnd : ∀ c, o.op ≠ .defer c)
    (h : ∀ M ε I a w, SatM cx M ε I S a w → ∃ v' w' xs', (execOp a.eval o).run cx.P w = .ok (.value v') w' ∧ w'.ownsRow 0 T size v' n xs' ∧ R.h I xs' ∧ w.grownBy w' none ∧ (∀ b, v'.ownBlock = some b → w.heap.size ≤ b)) :
    OpG cx S o ⟨.e (.a (.q k)), [k], [], [(k, .own T size n R)], []⟩ := by
  intro M ε I a w next Q hs hN K
  obtain ⟨v', w', xs', h1, h2, h3, h4, h5⟩ := h M ε I a w hs
  refine ⟨fun _ _ => trivial, ?_⟩
  rw [semAt_eq _ _ _ hnd, h1]
  have := K ⟨ε.β, upd ε.ν k v', ε.γ⟩ I w'
    ⟨fun i hi => by
      have : i ≠ k := fun e => hi (by simp [e])
      exact ⟨rfl, upd_other _ _ this, rfl⟩, IH.le.rfl', fun b o' hb => by rw [h4.block b (IH.on_lt hs.imm hb) (by simp)]; exact hs.imm b o' hb, h4.os, h4.tape, h4.output, h4.size, fun b hb _ => h4.block b hb (by simp), fun _ _ h => .inl h⟩
    ⟨.inr (by simp), fun _ _ h => (by cases h), fun _ _ h => (by cases h), fun i e he => by obtain ⟨rfl, rfl⟩ := look_one he; exact ⟨.inr (by simp), trivial⟩,
      fun _ _ h => (by cases h), fun i e he => by obtain ⟨rfl, rfl⟩ := look_one he; exact ⟨xs', by simpa only [upd_same] using h2, h3⟩,
      fun i e he b hb => by
        obtain ⟨rfl, rfl⟩ := look_one he
        simp only [Ent.foot, upd_same] at hb
        have hge := h5 b hb
        exact ⟨.inl (Nat.le_trans hs.keep.size hge), ownBlock_lt h2 hb, IH.none_ge hs.imm hge, .inl hge⟩,
      fun i i' e e' b he he' hne => by
        obtain ⟨rfl, _⟩ := look_one he
        obtain ⟨rfl, _⟩ := look_one he'
        exact absurd rfl hne, fun k x h => by obtain ⟨_, h⟩ := look_one h; cases h⟩
  simp only [SV.den, El.den, At.den, upd_same] at this
  exact this
theorem look_two {α : Type} {i k k0 : Nat} {x y z : α} (h : look i [(k, x), (k0, z)] = some y) : (i = k ∧ y = x) ∨ (i ≠ k ∧ i = k0 ∧ y = z) := by
  rw [look_cons] at h
  by_cases hk : k = i
  · subst hk; simp at h; exact .inl ⟨rfl, h.symm⟩
  · simp only [hk, if_false] at h
    obtain ⟨h1, h2⟩ := look_one h
    exact .inr ⟨fun e => hk e.symm, h1, h2⟩
/-- An operation that turns a row of the call's own into another one. -/
theorem OpG.own1 {cx : Cx} {S : St} {o : Oper} {T T0 : TypeId} {size size0 n n0 k k0 : Nat} {R R0 : LPred} (hnd : ∀ c, o.op ≠ .defer c) (hk0 : look k0 S.L = some (.own T0 size0 n0 R0))
    (h : ∀ M ε I a w, SatM cx M ε I S a w → ∃ v' w' xs', (execOp a.eval o).run cx.P w = .ok (.value v') w' ∧ w'.ownsRow 0 T size v' n xs' ∧ R.h I xs' ∧ w.grownBy w' (ε.ν k0).ownBlock ∧ (v'.ownBlock = (ε.ν k0).ownBlock ∨ v'.ownBlock = some w.heap.size)) :
    OpG cx S o ⟨.e (.a (.q k)), [k], [], [(k, .own T size n R), (k0, .dead)], []⟩ := by
  intro M ε I a w next Q hs hN K
  obtain ⟨v', w', xs', h1, h2, h3, h4, h5⟩ := h M ε I a w hs
  have hMk : ¬ M k := hN k (by simp)
  have hMk0 := (hs.wfL k0 _ hk0).1
  have hne0 : k ≠ k0 := fun e => hMk (e ▸ hMk0)
  have hfp : ∀ b, (ε.ν k0).ownBlock = some b → fpOf S ε ⟨.e (.a (.q k)), [k], [], [(k, .own T size n R), (k0, .dead)], []⟩ b := fun b hb =>
    ⟨k0, _, by simp [look_cons, hne0], hk0, hb⟩
  have hft : ∀ b, (ε.ν k0).ownBlock = some b → (cx.w0.heap.size ≤ b ∨ cx.E b) ∧ b < w.heap.size ∧ I b = none := fun b hb => hs.foot k0 _ hk0 b hb
  refine ⟨fun _ _ => trivial, ?_⟩
  rw [semAt_eq _ _ _ hnd, h1]
  have := K ⟨ε.β, upd ε.ν k v', ε.γ⟩ I w'
    ⟨fun i hi => by
      have : i ≠ k := fun e => hi (by simp [e])
      exact ⟨rfl, upd_other _ _ this, rfl⟩, IH.le.rfl', fun b o' hb => by
        rw [h4.block b (IH.on_lt hs.imm hb) (fun e => by rw [(hft b e.symm).2.2] at hb; cases hb)]; exact hs.imm b o' hb,
      h4.os, h4.tape, h4.output, h4.size, fun b hb hn => h4.block b hb (fun e => hn (hfp b e.symm)), fun _ _ h => .inl h⟩
    ⟨.inr (by simp), fun _ _ h => (by cases h), fun _ _ h => (by cases h), fun i e he => by
        rcases look_two he with ⟨rfl, rfl⟩ | ⟨_, rfl, rfl⟩
        · exact ⟨.inr (by simp), trivial⟩
        · exact ⟨.inl hMk0, trivial⟩,
      fun _ _ h => (by cases h), fun i e he => by
        rcases look_two he with ⟨rfl, rfl⟩ | ⟨_, rfl, rfl⟩
        · exact ⟨xs', by simpa only [upd_same] using h2, h3⟩
        · trivial,
      fun i e he b hb => by
        rcases look_two he with ⟨rfl, rfl⟩ | ⟨_, rfl, rfl⟩
        · simp only [Ent.foot, upd_same] at hb
          have hlt := ownBlock_lt h2 hb
          rcases h5 with h5 | h5
          · rw [h5] at hb
            exact ⟨(hft b hb).1, hlt, (hft b hb).2.2, .inr (hfp b hb)⟩
          · rw [h5] at hb
            simp only [Option.some.injEq] at hb
            subst hb
            exact ⟨.inl hs.keep.size, hlt, IH.none_ge hs.imm (Nat.le_refl _), .inl (Nat.le_refl _)⟩
        · exact absurd hb (fun h => h),
      fun i i' e e' b he he' hne hb hb' => by
        rcases look_two he with ⟨rfl, rfl⟩ | ⟨_, rfl, rfl⟩
        · rcases look_two he' with ⟨rfl, rfl⟩ | ⟨_, rfl, rfl⟩
          · exact hne rfl
          · exact hb'
        · exact hb, fun k x h => by
        rcases look_two h with ⟨_, h⟩ | ⟨_, _, h⟩ <;> cases h⟩
  simp only [SV.den, El.den, At.den, upd_same] at this
  exact this

/-! ### What own rows hold -/
theorem RP.nil {α : Type} {E : EP α} {I : IH} : (RP E []).h I [] := ⟨[], rfl, rfl, fun i hi => absurd hi (by simp)⟩
theorem RP.app {α : Type} {E : EP α} {I : IH} {l l' : List α} {xs xs' : List Value} (h : (RP E l).h I xs) (h' : (RP E l').h I xs') : (RP E (l ++ l')).h I (xs ++ xs') := by
  obtain ⟨c, rfl, h1, h2⟩ := h
  obtain ⟨c', rfl, h1', h2'⟩ := h'
  refine ⟨c ++ c', by simp, by simp [h1, h1'], fun i hi hl => ?_⟩
  by_cases hc : i < c.length
  · rw [List.getElem_append_left hc, List.getElem_append_left (by omega)]; exact h2 i hc _
  · rw [List.getElem_append_right (by omega), List.getElem_append_right (by omega)]
    have e : i - c.length = i - l.length := by rw [h1]
    have := h2' (i - c.length) (by simp at hi; omega) (by simp at hl; omega)
    simp only [h1] at this ⊢; exact this
theorem RP.cons {α : Type} {E : EP α} {I : IH} {x : α} {l : List α} {cs xs : List Value} (h : E.h I cs x) (h' : (RP E l).h I xs) : (RP E (x :: l)).h I (cs ++ xs) := by
  obtain ⟨c, rfl, h1, h2⟩ := h'
  refine ⟨cs :: c, by simp, by simp [h1], fun i hi hl => ?_⟩
  cases i with
  | zero => exact h
  | succ i => exact h2 i (by simpa using hi) (by simpa using hl)
theorem RP.len {α : Type} {E : EP α} {I : IH} {l : List α} {xs : List Value} (h : (RP E l).h I xs) : xs.length = l.length * E.size := by
  obtain ⟨c, rfl, h1, h2⟩ := h
  rw [← h1]
  have : ∀ (c : List (List Value)), (∀ y ∈ c, y.length = E.size) → c.flatten.length = c.length * E.size := by
    intro c
    induction c with
    | nil => intro _; simp
    | cons y t ih =>
      intro hc
      rw [List.flatten_cons, List.length_append, ih (fun z hz => hc z (List.mem_cons_of_mem _ hz)), hc y List.mem_cons_self, List.length_cons, Nat.add_mul]
      omega
  refine this c fun y hy => ?_
  obtain ⟨i, hi, rfl⟩ := List.mem_iff_getElem.1 hy
  exact E.len (h2 i hi (by omega))
theorem flatten_get {size : Nat} : ∀ {c : List (List Value)} {i j : Nat} {y : Value}, (∀ z ∈ c, z.length = size) → (hi : i < c.length) → c[i][j]? = some y → c.flatten[i * size + j]? = some y
  | x :: t, 0, j, y, hc, _, h => by
    simp only [List.flatten_cons, Nat.zero_mul, Nat.zero_add]
    simp only [List.getElem_cons_zero] at h
    have := (List.getElem?_eq_some_iff.1 h).1
    rw [List.getElem?_append_left this]; exact h
  | x :: t, i + 1, j, y, hc, hi, h => by
    have hx := hc x List.mem_cons_self
    simp only [List.flatten_cons]
    rw [List.getElem?_append_right (by rw [hx, Nat.add_mul]; omega), hx, show (i + 1) * size + j - size = i * size + j by rw [Nat.add_mul]; omega]
    exact flatten_get (fun z hz => hc z (List.mem_cons_of_mem _ hz)) (by simpa using hi) (by simpa using h)
/-- The cells of one element of a row. -/
theorem RP.at {α : Type} [Inhabited α] {E : EP α} {I : IH} {l : List α} {xs : List Value} (h : (RP E l).h I xs) {i : Int} (h0 : 0 ≤ i) (h1 : i < l.length) : ∃ cs, E.h I cs (nth l i) ∧ ∀ j y, cs[j]? = some y → xs[i.toNat * E.size + j]? = some y := by
  obtain ⟨c, rfl, h2, h3⟩ := h
  have hi : i.toNat < l.length := by omega
  have : nth l i = l[i.toNat] := by simp [nth, List.getD_eq_getElem?_getD, List.getElem?_eq_getElem hi]
  rw [this]
  refine ⟨c[i.toNat]'(by omega), h3 _ _ hi, fun j y hj => flatten_get (fun z hz => ?_) (by omega) hj⟩
  obtain ⟨m, hm, rfl⟩ := List.mem_iff_getElem.1 hz
  exact E.len (h3 m hm (by omega))
/-- What takes one cell each. -/
def EP.one {α : Type} (E : EP α) : Prop := ∀ I cs x, E.h I cs x → ∀ y ∈ cs, y.oneCell' = true
theorem EP.int_one : EP.int.one := fun I cs x h y hy => by
  cases (show cs = [Value.int .i64 x] from h)
  rw [List.mem_singleton] at hy; subst hy; rfl
theorem EP.sl_one {α : Type} {E : EP α} : E.sl.one := fun I cs x ⟨v, h, k⟩ y hy => by
  subst h; rw [List.mem_singleton] at hy; subst hy; exact PL.one _ _ k
theorem RP.one {α : Type} {E : EP α} (hE : E.one) {I : IH} {l : List α} {xs : List Value} (h : (RP E l).h I xs) : ∀ y ∈ xs, y.oneCell' = true := by
  obtain ⟨c, rfl, h1, h2⟩ := h
  intro y hy
  obtain ⟨z, hz, hy⟩ := List.mem_flatten.1 hy
  obtain ⟨m, hm, rfl⟩ := List.mem_iff_getElem.1 hz
  exact hE _ _ _ (h2 m hm (by omega)) y hy
/-- A settled slice, spread. -/
theorem PL.spread {α : Type} {E : EP α} (hE : E.one) {I : IH} {w : World} (hon : I.on w) {l : List α} {v : Value} (h : (PL E l).h I v) : (∃ c, v = .slice none 0 c ∧ l = []) ∨ ∃ news, Spread w E.size v l.length news ∧ (RP E l).h I news ∧ ∀ c, v ≠ .slice none l.length c := by
  obtain ⟨a, cap, rfl, hc, h⟩ := h
  cases a with
  | none =>
    left
    cases l with
    | nil => exact ⟨cap, rfl, rfl⟩
    | cons x t =>
      obtain ⟨_, ad, _, h, _⟩ := h 0 (by simp)
      cases h
  | some ad =>
    right
    have h' : ∀ i (hi : i < l.length), ∃ cs, E.h I cs l[i] ∧ ad.spot = none ∧ ∀ j y, cs[j]? = some y → I.cell (ad.add (i * E.size + j)) = some y := fun i hi => by
      obtain ⟨cs, ad', h1, h2, h3, h4⟩ := h i hi
      cases h2
      exact ⟨cs, h1, h3, h4⟩
    have key : ∀ (m : Nat), m ≤ l.length → ∃ c : List (List Value), c.length = m ∧ (∀ i (hi : i < c.length) (hl : i < l.length), E.h I c[i] l[i]) ∧ ∀ j y, c.flatten[j]? = some y → w.cell? (ad.add j) = some y := by
      intro m
      induction m with
      | zero => intro _; exact ⟨[], rfl, fun i hi => absurd hi (by simp), fun j y hj => by simp at hj⟩
      | succ m ih =>
        intro hm
        obtain ⟨c, h1, h2, h3⟩ := ih (by omega)
        obtain ⟨cs, h4, h5, h6⟩ := h' m (by omega)
        have hfl : c.flatten.length = m * E.size := by
          have : (RP E (l.take m)).h I c.flatten := ⟨c, rfl, by simp [h1]; omega, fun i hi hl => by
            rw [List.getElem_take]; exact h2 i hi (by simp at hl; omega)⟩
          have hlt := RP.len this
          rw [List.length_take, Nat.min_eq_left (by omega)] at hlt; exact hlt
        refine ⟨c ++ [cs], by simp [h1], fun i hi hl => ?_, fun j y hj => ?_⟩
        · by_cases hc : i < c.length
          · rw [List.getElem_append_left hc]; exact h2 i hc hl
          · have : i = m := by simp at hi; omega
            subst this
            rw [List.getElem_append_right (by omega)]
            simpa [h1] using h4
        · simp only [List.flatten_append, List.flatten_cons, List.flatten_nil, List.append_nil] at hj
          by_cases hc : j < c.flatten.length
          · rw [List.getElem?_append_left hc] at hj; exact h3 j y hj
          · rw [List.getElem?_append_right (by omega), hfl] at hj
            have := h6 _ y hj
            rw [show m * E.size + (j - m * E.size) = j by omega] at this
            exact IH.cell_on hon this
    obtain ⟨c, h1, h2, h3⟩ := key l.length (Nat.le_refl _)
    have hrp : (RP E l).h I c.flatten := ⟨c, rfl, h1, h2⟩
    exact ⟨c.flatten, ⟨some ad, cap, rfl, RP.len hrp, .inr ⟨ad, rfl, h3⟩, RP.one hE hrp⟩, hrp, fun c h => by cases h⟩
theorem own_spread {w : World} {T : TypeId} {size n : Nat} {v : Value} {xs : List Value} (h : w.ownsRow 0 T size v n xs) (h1 : ∀ y ∈ xs, y.oneCell' = true) : Spread w size v n xs ∧ ∀ c, v = .slice none n c → n = 0 := by
  obtain ⟨hl, h2⟩ := h
  rcases h2 with ⟨rfl, rfl⟩ | ⟨g, cap, cur, rfl, hb, hg, hn, hm, hs, htk⟩
  · exact ⟨⟨none, 0, rfl, hl, .inl ⟨rfl, rfl⟩, h1⟩, fun _ _ => rfl⟩
  · refine ⟨⟨_, cap, rfl, hl, .inr ⟨_, rfl, fun j y hj => ?_⟩, h1⟩, fun c h => by cases h⟩
    have hown : w.ownsRow 0 T size (.slice (some ⟨g, 0, none⟩) n cap) n xs := ⟨hl, .inr ⟨g, cap, cur, rfl, hb, hg, hn, hm, hs, htk⟩⟩
    exact World.ownsRow.cells hown rfl j y hj

section ops
variable {cx : Cx} {S : St} {dst : Option Tmp} {ty : TypeId} {pos : String} {af : Array Edge} {gd : Option (Nat × Bool)}

theorem maxLen_ok {n : Nat} (h : n ≤ 4611686018427387904) : n ≤ maxLen := by unfold maxLen; omega

/-- append onto a row of the call's own: a settled slice is spread. -/
theorem o_apps {α : Type} {E : EP α} {x y : Operand} {t e : TypeId} {bytes k k0 j : Nat} {zs : List Value} {l l' : List α} (hT : RowT cx.P t e E.size bytes zs) (hE : E.one) (hx : S.op x = some (.e (.a (.q k0)))) (hk0 : look k0 S.L = some (.own e E.size l.length (RP E l)))
    (hy : S.op y = some (.e (.a (.q j)))) (hj : Has S.X j (PL E l')) (hb : (l.length + l'.length) * bytes ≤ 140737488355328) (hl : l.length + l'.length ≤ 4611686018427387904) :
    OpG cx S ⟨dst, .call { callee := .builtin .append, args := #[x, y], argTypes := #[t, t] }, ty, pos, af, gd⟩ ⟨.e (.a (.q k)), [k], [], [(k, .own e E.size (l ++ l').length (RP E (l ++ l'))), (k0, .dead)], []⟩ :=
  OpG.own1 (fun _ => by simp) hk0 fun M ε I a w hs => by
    have h1 := hs.eval hx
    have h2 := hs.eval hy
    simp only [SV.den, El.den, At.den] at h1 h2
    obtain ⟨xs, h3, h4⟩ := hs.L k0 _ hk0
    rcases PL.spread hE hs.imm (hs.has hj) with ⟨c, h5, rfl⟩ | ⟨news, h5, h6, h7⟩
    · obtain ⟨a', cap, hv, hc, _⟩ := hs.has hj
      rw [h5] at hv
      simp only [Value.slice.injEq] at hv
      obtain ⟨rfl, _, rfl⟩ := hv
      obtain ⟨i, z, hi, _⟩ := hT.i
      have hr : (Builtin.append_ #[t, t] ty #[ε.ν k0, .slice none 0 c]).run cx.P w = .ok (ε.ν k0) w := by
        rcases h3.2 with ⟨hv, hn⟩ | ⟨g, cap, cur, hv, _, _, hnc, _⟩
        · rw [hv]; simp [Builtin.append_, run_underlying hT.u, sizeOf, typeInfo, hi, Builtin.lenOf, Builtin.firstCells]
        · rw [hv]; simp [Builtin.append_, run_underlying hT.u, sizeOf, typeInfo, hi, Builtin.lenOf, Builtin.firstCells, hnc, storeCells]
      refine ⟨_, w, xs, by simp [execOp, resolve, invoke, builtin, h1, h2, h5, hr], ?_, ?_, ⟨rfl, rfl, rfl, Nat.le_refl _, fun _ _ _ => rfl⟩, .inl rfl⟩
      · simpa using h3
      · simpa using h4
    · obtain ⟨v', w', h8, h9, h10, h11⟩ := run_app hT w (ty := ty) h3 h5 (fun c h => absurd h (h7 c)) (maxLen_ok hl) hb
      exact ⟨v', w', _, by simp [execOp, resolve, invoke, builtin, h1, h2, h8], by rw [List.length_append]; exact h9, RP.app h4 h6, h10, h11⟩
/-- append onto a row of the call's own: another row of the call's own is spread. -/
theorem o_appo {α : Type} {E : EP α} {x y : Operand} {t e e' : TypeId} {bytes k k0 k1 : Nat} {zs : List Value} {l l' : List α} (hT : RowT cx.P t e E.size bytes zs) (hE : E.one) (hx : S.op x = some (.e (.a (.q k0)))) (hk0 : look k0 S.L = some (.own e E.size l.length (RP E l)))
    (hy : S.op y = some (.e (.a (.q k1)))) (hk1 : look k1 S.L = some (.own e' E.size l'.length (RP E l'))) (hb : (l.length + l'.length) * bytes ≤ 140737488355328) (hl : l.length + l'.length ≤ 4611686018427387904) :
    OpG cx S ⟨dst, .call { callee := .builtin .append, args := #[x, y], argTypes := #[t, t] }, ty, pos, af, gd⟩ ⟨.e (.a (.q k)), [k], [], [(k, .own e E.size (l ++ l').length (RP E (l ++ l'))), (k0, .dead)], []⟩ :=
  OpG.own1 (fun _ => by simp) hk0 fun M ε I a w hs => by
    have h1 := hs.eval hx
    have h2 := hs.eval hy
    simp only [SV.den, El.den, At.den] at h1 h2
    obtain ⟨xs, h3, h4⟩ := hs.L k0 _ hk0
    obtain ⟨ys, h5, h6⟩ := hs.L k1 _ hk1
    obtain ⟨h7, h7'⟩ := own_spread h5 (RP.one hE h6)
    obtain ⟨v', w', h8, h9, h10, h11⟩ := run_app hT w (ty := ty) h3 h7 h7' (maxLen_ok hl) hb
    exact ⟨v', w', _, by simp [execOp, resolve, invoke, builtin, h1, h2, h8], by rw [List.length_append]; exact h9, RP.app h4 h6, h10, h11⟩
/-- make of a slice. -/
theorem o_make {α : Type} {E : EP α} {x y : Operand} {t e : TypeId} {bytes k : Nat} {zs : List Value} {z : α} (n : Nat) (hT : RowT cx.P t e E.size bytes zs) (hz : ∀ I, E.h I zs z) (hx : S.op x = some (.i n)) (hy : S.op y = some (.i n)) (hb : bytes * n ≤ 281474976710656) (hl : n ≤ 4611686018427387904) :
    OpG cx S ⟨dst, .makeSlice t x y, ty, pos, af, gd⟩ ⟨.e (.a (.q k)), [k], [], [(k, .own e E.size (List.replicate n z).length (RP E (List.replicate n z)))], []⟩ :=
  OpG.own0 (fun _ => by simp) fun M ε I a w hs => by
    have h1 := hs.eval hx
    have h2 := hs.eval hy
    simp only [SV.den, El.den, At.den] at h1 h2
    obtain ⟨i, zv, hi, hzv, hsz, hby, hzc⟩ := hT.i
    obtain ⟨w', h3, h4, h5⟩ := run_make_full (P := cx.P) w 0 t e i zv E.size hT.u hi hzv hsz .i64 .i64 n (by rw [hby]; exact hb) (maxLen_ok hl) (Nat.zero_le _)
    refine ⟨.slice (some ⟨w.heap.size, 0, none⟩) n n, w', (madeCells zv.cells (n * E.size)).toList, by simp [execOp, h1, h2, h3], by rw [List.length_replicate]; exact h4, ?_, h5, fun b hb => ?_⟩
    · refine ⟨List.replicate n zs, ?_, by simp, fun i hi hl => by simpa using hz I⟩
      have hpos := hT.pos
      have hzl := hT.z
      rw [hzc]
      apply List.ext_getElem?
      intro j
      have hlen : (List.replicate n zs).flatten.length = n * E.size := by simp [hzl]
      by_cases hj : j < n * E.size
      · have hq : j / E.size < n := (Nat.div_lt_iff_lt_mul hpos).2 hj
        have hr : j % E.size < zs.length := by rw [hzl]; exact Nat.mod_lt _ hpos
        have hfg := flatten_get (c := List.replicate n zs) (size := E.size) (i := j / E.size) (j := j % E.size) (y := zs[j % E.size]) (fun z hz => by rw [List.eq_of_mem_replicate hz]; exact hzl) (by simpa using hq) (by simp [hr])
        rw [show j / E.size * E.size + j % E.size = j from by rw [Nat.mul_comm]; exact Nat.div_add_mod j E.size] at hfg
        rw [hfg]
        have hr' : j % E.size < zs.length := hr
        simp [madeCells, hj, hzl, List.getElem?_eq_getElem hr']
      · rw [List.getElem?_eq_none (by simp [madeCells]; omega), List.getElem?_eq_none (by rw [hlen]; omega)]
    · simp [Value.ownBlock] at hb; omega
end ops
end Go.Eng
