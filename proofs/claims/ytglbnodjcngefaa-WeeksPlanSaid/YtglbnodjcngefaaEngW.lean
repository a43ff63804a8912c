/- The engine, part W: numbers without a sign that are known; copy; parts of own rows. -/
import Derived.Test.YtglbnodjcngefaaEngV
import Derived.Laws.CopyOwn
set_option linter.unusedSimpArgs false
set_option linter.unusedVariables false
namespace Go.Eng
open Go

section ops
variable {cx : Cx} {S : St} {dst : Option Tmp} {ty : TypeId} {pos : String} {af : Array Edge} {gd : Option (Nat × Bool)}
/-- A binary operation of which the outcome is known. -/
theorem o_binv {op : BinOp} {x y : Operand} {t t' : TypeId} {a b r : Value} (hx : S.op x = some (.e (.a (.v a)))) (hy : S.op y = some (.e (.a (.v b))))
    (hr : ∀ w, (do eqGuard op t x y a b; binOp op t a b : Sem Value).run cx.P w = .ok r w) :
    OpG cx S ⟨dst, .binOp op t x y t', ty, pos, af, gd⟩ (.val (.e (.a (.v r)))) :=
  OpG.pure (fun _ => by simp) fun M ε I ac w hs => ⟨trivial, by
    have h1 := hs.eval hx; have h2 := hs.eval hy
    simp only [SV.den, El.den, At.den] at h1 h2
    simp only [execOp, h1, h2]
    rw [Sem.run_bind, hr]
    rfl⟩
theorem o_convv {x : Operand} {t t' : TypeId} {k k' : IntKind} {n r : Int} (h1 : cx.P.underlying t = some (.int k)) (h2 : cx.P.underlying t' = some (.int k')) (hx : S.op x = some (.e (.a (.v (.int k n))))) (hr : k'.wrap n = r) :
    OpG cx S ⟨dst, .convert t t' x, ty, pos, af, gd⟩ (.val (.e (.a (.v (.int k' r))))) :=
  OpG.pure (fun _ => by simp) fun M ε I ac w hs => ⟨trivial, by
    have h3 := hs.eval hx
    simp only [SV.den, El.den, At.den] at h3
    simp [execOp, h3, convert, run_underlying h1, run_underlying h2, Conv.intToInt, hr, SV.den, El.den, At.den]⟩
end ops

/-! ### A name for a value -/
theorem SatM.pinv {cx : Cx} {M : Nat → Prop} {ε : Env} {I : IH} {n : Nat} {fr : List (Nat × SV)} {X : List (Nat × Pred)} {L : List (Nat × Ent)} {D : List Nat} {G : List (Nat × Bool)} {a : Act} {w : World} (k : Nat) (hk : M k) (hs : SatM cx M ε I ⟨n, fr, X, L, D, G⟩ a w) : SatM cx M ε I ⟨n, fr, (k, Pred.is (ε.ν k)) :: X, L, D, G⟩ a w :=
  { hs with
    wfX := fun j R hj => by
      rw [look_cons] at hj
      by_cases h : k = j
      · subst h; exact hk
      · simp only [h, if_false] at hj; exact hs.wfX j R hj
    X := fun j R hj => by
      rw [look_cons] at hj
      by_cases h : k = j
      · subst h; simp at hj; subst hj; exact rfl
      · simp only [h, if_false] at hj; exact hs.X j R hj }
theorem WP.pin {cx : Cx} {Q : Exit → Act → World → Prop} {c : Code} {n : Nat} {fr : List (Nat × SV)} {X : List (Nat × Pred)} {L : List (Nat × Ent)} {D : List Nat} {G : List (Nat × Bool)} (k : Nat) (hk : Nat.blt k n = true) (h : ∀ u, WP cx ⟨n, fr, (k, Pred.is u) :: X, L, D, G⟩ c Q) : WP cx ⟨n, fr, X, L, D, G⟩ c Q :=
  fun ε I a w hs => h (ε.ν k) ε I a w (SatM.pinv k (by rw [Nat.blt_eq] at hk; exact hk) hs)

/-! ### Own rows of one cell an element -/
theorem flat_take1 : ∀ {c : List (List Value)} {o : Nat}, (∀ z ∈ c, z.length = 1) → c.flatten.take o = (c.take o).flatten
  | [], _, _ => by simp
  | x :: t, 0, _ => by simp
  | x :: t, o + 1, h => by
    have hx := h x List.mem_cons_self
    obtain ⟨y, rfl⟩ := List.length_eq_one_iff.1 hx
    simp [flat_take1 (c := t) (o := o) (fun z hz => h z (List.mem_cons_of_mem _ hz))]
theorem flat_drop1 : ∀ {c : List (List Value)} {o : Nat}, (∀ z ∈ c, z.length = 1) → c.flatten.drop o = (c.drop o).flatten
  | [], _, _ => by simp
  | x :: t, 0, _ => by simp
  | x :: t, o + 1, h => by
    have hx := h x List.mem_cons_self
    obtain ⟨y, rfl⟩ := List.length_eq_one_iff.1 hx
    simp [flat_drop1 (c := t) (o := o) (fun z hz => h z (List.mem_cons_of_mem _ hz))]
section rows
variable {α : Type} {E : EP α} {I : IH} {l : List α} {xs : List Value}
theorem RP.lens (hE : E.size = 1) {c : List (List Value)} (h2 : c.length = l.length) (h3 : ∀ i (hi : i < c.length) (hl : i < l.length), E.h I c[i] l[i]) : ∀ z ∈ c, z.length = 1 := fun z hz => by
  obtain ⟨m, hm, rfl⟩ := List.mem_iff_getElem.1 hz
  rw [← hE]; exact E.len (h3 m hm (by omega))
theorem RP.take1 (hE : E.size = 1) (h : (RP E l).h I xs) (o : Nat) : (RP E (l.take o)).h I (xs.take o) := by
  obtain ⟨c, rfl, h2, h3⟩ := h
  refine ⟨c.take o, flat_take1 (RP.lens hE h2 h3), by simp [h2], fun i hi hl => ?_⟩
  simp only [List.getElem_take]
  exact h3 i (by simp at hi; omega) (by simp at hl; omega)
theorem RP.drop1 (hE : E.size = 1) (h : (RP E l).h I xs) (o : Nat) : (RP E (l.drop o)).h I (xs.drop o) := by
  obtain ⟨c, rfl, h2, h3⟩ := h
  refine ⟨c.drop o, flat_drop1 (RP.lens hE h2 h3), by simp [h2], fun i hi hl => ?_⟩
  simp only [List.getElem_drop]
  exact h3 (o + i) (by simp at hi; omega) (by simp at hl; omega)
end rows
/-- What a copy into a row does. -/
def splic {α : Type} (l : List α) (o : Nat) (l2 : List α) : List α := l.take o ++ l2 ++ l.drop (o + l2.length)
theorem splic_len {α : Type} {l l2 : List α} {o : Nat} (h : o + l2.length ≤ l.length) : (splic l o l2).length = l.length := by simp [splic]; omega
theorem copy_core {P : Program} {α : Type} {E : EP α} (hE1 : E.size = 1) (hE : E.one) {dT sT elem ty : TypeId} (hu : P.underlying dT = some (.slice elem)) (hs : (P.info? elem).map (·.size) = some 1) {I : IH} {w : World} {T : TypeId} {l l2 : List α} {g cap o dLen dCap sLen sCap : Nat} {xs cs : List Value} {a : Addr}
    (hown : w.ownsRow 0 T E.size (.slice (some ⟨g, 0, none⟩) l.length cap) l.length xs) (hR : (RP E l).h I xs) (hR2 : (RP E l2).h I cs) (hn : cs.length = Nat.min sLen dLen) (hsrc : ∀ j v, cs[j]? = some v → w.cell? (a.add j) = some v) (hfit : o + l2.length ≤ l.length) :
    ∃ w', (Builtin.copy_ #[dT, sT] ty #[.slice (some ⟨g, o, none⟩) dLen dCap, .slice (some a) sLen sCap]).run P w = .ok (goInt l2.length) w' ∧
      (∃ xs', w'.ownsRow 0 T E.size (.slice (some ⟨g, 0, none⟩) l.length cap) l.length xs' ∧ (RP E (splic l o l2)).h I xs') ∧ w.grownBy w' (some g) ∧ w'.heap.size = w.heap.size := by
  have hcs : cs.length = l2.length := by rw [RP.len hR2, hE1, Nat.mul_one]
  have hxs : xs.length = l.length := by rw [RP.len hR, hE1, Nat.mul_one]
  obtain ⟨hl, h2⟩ := hown
  rcases h2 with ⟨h, _⟩ | ⟨g', cap', cur, hv, hb, hg, hnc, hm, hsz, htk⟩
  · simp at h
  · simp only [Value.slice.injEq, Option.some.injEq, Addr.mk.injEq, and_true, true_and] at hv
    obtain ⟨rfl, rfl⟩ := hv
    rw [hE1, Nat.mul_one] at hsz htk
    have hrun := run_copy_row (P := P) w dT sT ty elem g o dLen dCap a sLen sCap cur T cs hu hs hg hn hsrc (by omega) (RP.one hE hR2)
    refine ⟨_, by rw [hcs] at hrun; exact hrun, ⟨xs.take o ++ cs ++ xs.drop (o + l2.length), ⟨by rw [hE1, Nat.mul_one]; simp; omega, .inr ⟨g, cap, _, rfl, hb, setRow_heap w g _ _ T _ hg, hnc, hm, by rw [hE1, Nat.mul_one]; simp; omega, ?_⟩⟩, ?_⟩, ?_, by simp [World.setRow]⟩
    · rw [hE1, Nat.mul_one, ← htk]
      apply List.ext_getElem?
      intro i
      simp only [List.getElem?_take, List.getElem?_append, List.length_take, List.getElem?_drop, Array.length_toList, List.length_append]
      have hc2 : l.length ≤ cur.size := by omega
      by_cases c1 : i < l.length
      · by_cases c2 : i < o
        · simp [c1, c2, show min o cur.size = o by omega, show min o (min l.length cur.size) = o by omega, show i < o + cs.length by omega]
        · by_cases c3 : i < o + cs.length
          · simp [c1, c2, c3, show min o cur.size = o by omega, show min o (min l.length cur.size) = o by omega]
          · simp [c1, c2, c3, show min o cur.size = o by omega, show min o (min l.length cur.size) = o by omega, show o + l2.length + (i - (o + cs.length)) < l.length by omega]
      · have c3 : ¬ i < o + cs.length := by omega
        simp [c1, c3, show min o (min l.length cur.size) = o by omega, show ¬ i < o by omega, show ¬ o + l2.length + (i - (o + cs.length)) < l.length by omega]
    · exact RP.app (RP.app (RP.take1 hE1 hR o) hR2) (RP.drop1 hE1 hR (o + l2.length))
    · refine ⟨rfl, rfl, rfl, by simp [World.setRow], fun k hk hne => ?_⟩
      exact setRow_other w g k _ (fun e => hne (by rw [e]))

/-- A step that turns an own row where it lies. -/
theorem OpG.turn {cx : Cx} {S : St} {o : Oper} {T : TypeId} {sz n k : Nat} {R R' : LPred} {v : Value} (hnd : ∀ c, o.op ≠ .defer c) (hj : look k S.L = some (.own T sz n R))
    (h : ∀ M ε I a w, SatM cx M ε I S a w → ∀ xs, w.ownsRow 0 T sz (ε.ν k) n xs → R.h I xs → ∃ w', (execOp a.eval o).run cx.P w = .ok (.value v) w' ∧ (∃ xs', w'.ownsRow 0 T sz (ε.ν k) n xs' ∧ R'.h I xs') ∧ w.grownBy w' (ε.ν k).ownBlock ∧ w'.heap.size = w.heap.size) :
    OpG cx S o ⟨.e (.a (.v v)), [], [], [(k, .own T sz n R')], []⟩ := by
  intro M ε I a w next Q hs hN K
  obtain ⟨xs, h2, h3⟩ := hs.L k _ hj
  obtain ⟨w', h4, ⟨xs', h5, h5'⟩, h6, h7⟩ := h M ε I a w hs xs h2 h3
  refine ⟨fun _ _ => trivial, ?_⟩
  rw [semAt_eq _ _ _ hnd, h4]
  have hft := hs.foot k _ hj
  have hfp : ∀ b, (ε.ν k).ownBlock = some b → fpOf S ε ⟨.e (.a (.v v)), [], [], [(k, .own T sz n R')], []⟩ b := fun b hb => ⟨k, _, by simp [look], hj, hb⟩
  refine K ε I w' ⟨fun _ _ => ⟨rfl, rfl, rfl⟩, IH.le.rfl', ?_, h6.os, h6.tape, h6.output, h6.size, fun b hb hb' => h6.block b hb (fun e => hb' (hfp b e.symm)), fun _ _ h => .inl h⟩
    ⟨trivial, fun _ _ h => (by cases h), fun _ _ h => (by cases h), ?_, fun _ _ h => (by cases h), ?_, ?_, ?_, fun k x h => by obtain ⟨_, h⟩ := look_one h; cases h⟩
  · intro b o' hb
    rw [h6.block b (IH.on_lt hs.imm hb) (fun e => by rw [(hft b e.symm).2.2] at hb; cases hb)]
    exact hs.imm b o' hb
  · intro i e' he
    obtain ⟨rfl, rfl⟩ := look_one he
    exact ⟨.inl (hs.wfL i _ hj).1, trivial⟩
  · intro i e' he
    obtain ⟨rfl, rfl⟩ := look_one he
    exact ⟨_, h5, h5'⟩
  · intro i e' he b hb
    obtain ⟨rfl, rfl⟩ := look_one he
    have hb : (ε.ν i).ownBlock = some b := hb
    exact ⟨(hft b hb).1, by rw [h7]; exact (hft b hb).2.1, (hft b hb).2.2, .inr (hfp b hb)⟩
  · intro i i' e' e'' b he he' hne
    obtain ⟨rfl, _⟩ := look_one he
    obtain ⟨rfl, _⟩ := look_one he'
    exact absurd rfl hne
/-- A part of an own row that has a name. -/
def subv (u : Value) (a b : Nat) : Value :=
  match u with
  | .slice ad _ cap => .slice (if cap = a then ad else ad.map (·.add a)) (b - a) (cap - a)
  | v => v
section ops
variable {cx : Cx} {S : St} {dst : Option Tmp} {ty : TypeId} {pos : String} {af : Array Edge} {gd : Option (Nat × Bool)}
theorem o_sliceP {x : Operand} {lo hi : Option Operand} {T e : TypeId} {j k n : Nat} {R : LPred} {u : Value} {a b : Int} (hT : IsSl cx.P T e 1) (hx : S.op x = some (.e (.a (.q j)))) (hj : Has S.X j (Pred.is u)) (hl : look j S.L = some (.own e 1 n R)) (hlo : match lo with | some y => S.op y = some (.i a) | none => a = 0) (hhi : match hi with | some y => S.op y = some (.i b) | none => b = n) (h0 : 0 ≤ a) (h1 : a ≤ b) (h2 : b ≤ n) :
    OpG cx S ⟨dst, .slice T x lo hi none, ty, pos, af, gd⟩ ⟨.e (.a (.q k)), [k], [(k, Pred.is (subv u a.toNat b.toNat))], [], []⟩ :=
  OpG.newq (fun _ => by simp) fun M ε I ac w hs => by
    have h := hs.eval hx
    have hv : ε.ν j = u := hs.has hj
    obtain ⟨xs, h3, _⟩ := hs.L j _ hl
    obtain ⟨hu, hsz⟩ := hT
    have hcap : ∃ ad cap, u = .slice ad n cap ∧ n ≤ cap := by
      rcases h3.2 with ⟨h4, h5⟩ | ⟨g, cap, cur, h4, _, _, h5, _⟩
      · exact ⟨none, 0, by rw [← hv, h4, h5], by omega⟩
      · exact ⟨_, cap, by rw [← hv, h4], h5⟩
    obtain ⟨ad, cap, rfl, hc⟩ := hcap
    simp only [SV.den, El.den, At.den, hv] at h
    refine ⟨_, rfl, ?_⟩
    have hb1 : b ≤ cap := by omega
    have hbn : ((b.toNat : Nat) : Int) = b := by omega
    cases lo with
    | none =>
      cases hi with
      | none =>
        subst hlo; subst hhi
        simp [execOp, h, Instr.sliceAt, Instr.slice, run_underlying hu, Instr.sliceBounds, hsz, subv]
      | some yh =>
        subst hlo
        have h4 := hs.eval hhi
        simp only [SV.den, El.den, At.den] at h4
        simp [execOp, h, h4, Instr.sliceAt, Instr.slice, run_underlying hu, Instr.sliceBounds, hsz, Instr.sliceBound, asIntOf, show 0 ≤ b by omega, hb1, subv]
    | some yl =>
      have h3 := hs.eval hlo
      simp only [SV.den, El.den, At.den] at h3
      cases hi with
      | none =>
        subst hhi
        simp [execOp, h, h3, Instr.sliceAt, Instr.slice, run_underlying hu, Instr.sliceBounds, hsz, Instr.sliceBound, asIntOf, h0, h1, subv]
      | some yh =>
        have h4 := hs.eval hhi
        simp only [SV.den, El.den, At.den] at h4
        simp [execOp, h, h3, h4, Instr.sliceAt, Instr.slice, run_underlying hu, Instr.sliceBounds, hsz, Instr.sliceBound, asIntOf, h0, h1, show 0 ≤ b by omega, hb1, hbn, subv]
theorem info_size {P : Program} {t e : TypeId} {size bytes : Nat} {zs : List Value} (hT : RowT P t e size bytes zs) : (P.info? e).map (·.size) = some size := by
  obtain ⟨i, z, hi, _, hs, _⟩ := hT.i
  rw [hi]; simp [hs]
theorem spread_cell {w : World} {size m cap : Nat} {u : Value} {news : List Value} {ad : Addr} (h : Spread w size u m news) (hu : u = .slice (some ad) m cap) : ∀ {j : Nat} {y : Value}, news[j]? = some y → w.cell? (ad.add j) = some y := by
  obtain ⟨a, c, h1, _, h2, _⟩ := h
  rw [hu] at h1
  simp only [Value.slice.injEq, true_and] at h1
  obtain ⟨rfl, rfl⟩ := h1
  rcases h2 with ⟨h2, _⟩ | ⟨ad', h2, h3⟩
  · cases h2
  · cases h2; exact fun h => h3 _ _ h
/-- copy from a settled slice into an own row. -/
theorem o_copy1 {α : Type} {E : EP α} {x y : Operand} {t e : TypeId} {bytes k j : Nat} {zs : List Value} {l l2 : List α} (hT : RowT cx.P t e E.size bytes zs) (hE1 : E.size = 1) (hE : E.one) (hx : S.op x = some (.e (.a (.q k)))) (hk : look k S.L = some (.own e E.size l.length (RP E l))) (hy : S.op y = some (.e (.a (.q j)))) (hj : Has S.X j (PL E l2)) :
    OpG cx S ⟨dst, .call { callee := .builtin .copy, args := #[x, y], argTypes := #[t, t] }, ty, pos, af, gd⟩ ⟨.i ((min l2.length l.length : Nat) : Int), [], [], [(k, .own e E.size (splic l 0 (l2.take l.length)).length (RP E (splic l 0 (l2.take l.length))))], []⟩ := by
  rw [splic_len (show 0 + (l2.take l.length).length ≤ l.length by simp; omega)]
  refine OpG.turn (fun _ => by simp) hk fun M ε I a w hs xs h3 h4 => ?_
  have h1 := hs.eval hx
  have h2 := hs.eval hy
  simp only [SV.den, El.den, At.den] at h1 h2
  obtain ⟨a2, cap2, hv2, hc2, _⟩ := hs.has hj
  have hlen : (l2.take l.length).length = min l2.length l.length := by simp [Nat.min_comm]
  by_cases h0 : min l2.length l.length = 0
  · have hsp : splic l 0 (l2.take l.length) = l := by
      have : l2.take l.length = [] := List.eq_nil_of_length_eq_zero (by rw [hlen, h0])
      rw [this]; simp [splic]
    have hd : ∃ ad cap, ε.ν k = .slice ad l.length cap := by
      rcases h3.2 with ⟨h, hn⟩ | ⟨g, cap, cur, h, _⟩
      · exact ⟨none, 0, by rw [h, hn]⟩
      · exact ⟨_, _, h⟩
    obtain ⟨ad, cap, hd⟩ := hd
    have := run_copy_none (P := cx.P) w t t ty e ad a2 l.length cap l2.length cap2 hT.u (by rw [info_size hT, hE1]) (by rw [Nat.min_def] at *; exact h0)
    refine ⟨w, by simp [execOp, resolve, invoke, builtin, h1, h2, hd, hv2, this, h0, goInt], ⟨xs, h3, by rw [hsp]; exact h4⟩, ⟨rfl, rfl, rfl, Nat.le_refl _, fun _ _ _ => rfl⟩, rfl⟩
  · have hl0 : 0 < l.length := by omega
    obtain ⟨g, cap, cur, hv, _⟩ := own_some h3 hl0
    rcases PL.spread hE hs.imm (hs.has hj) with ⟨c, h5, rfl⟩ | ⟨news, h5, h6, h7⟩
    · simp at h0
    · obtain ⟨ad2, rfl⟩ : ∃ ad, a2 = some ad := by
        cases a2 with
        | none => exact absurd hv2 (h7 cap2)
        | some ad => exact ⟨ad, rfl⟩
      have hnl : news.length = l2.length := by rw [RP.len h6, hE1, Nat.mul_one]
      have hR2 := RP.take1 hE1 h6 l.length
      rw [hv] at h3 ⊢
      obtain ⟨w', h8, h9, h10, h11⟩ := copy_core (P := cx.P) (dT := t) (sT := t) (ty := ty) (dLen := l.length) (dCap := cap) (sLen := l2.length) (sCap := cap2) (o := 0) hE1 hE hT.u (by rw [info_size hT, hE1]) h3 h4 hR2 (by rw [List.length_take, hnl]; exact Nat.min_comm _ _) (fun jj v hj' => by
        have hjl : jj < (news.take l.length).length := (List.getElem?_eq_some_iff.1 hj').1
        simp only [List.length_take] at hjl
        rw [List.getElem?_take, if_pos (by omega)] at hj'
        exact spread_cell h5 hv2 hj') (by rw [hlen]; omega)
      refine ⟨w', by simp [execOp, resolve, invoke, builtin, h1, h2, hv, hv2, h8, hlen, goInt], h9, h10, h11⟩
/-- copy from a part of an own row to another part of it. -/
theorem o_copyP {α : Type} {E : EP α} {x y : Operand} {t e : TypeId} {bytes k kd ks a b a2 b2 : Nat} {u : Value} {zs : List Value} {l : List α} (hT : RowT cx.P t e E.size bytes zs) (hE1 : E.size = 1) (hE : E.one) (hj : Has S.X k (Pred.is u)) (hk : look k S.L = some (.own e E.size l.length (RP E l)))
    (hx : S.op x = some (.e (.a (.q kd)))) (hkd : Has S.X kd (Pred.is (subv u a b))) (hy : S.op y = some (.e (.a (.q ks)))) (hks : Has S.X ks (Pred.is (subv u a2 b2))) (h1 : a < b) (h2 : b ≤ l.length) (h3 : a2 < b2) (h4 : b2 ≤ l.length) :
    OpG cx S ⟨dst, .call { callee := .builtin .copy, args := #[x, y], argTypes := #[t, t] }, ty, pos, af, gd⟩ ⟨.i ((min (b2 - a2) (b - a) : Nat) : Int), [], [], [(k, .own e E.size (splic l a ((l.drop a2).take (min (b2 - a2) (b - a)))).length (RP E (splic l a ((l.drop a2).take (min (b2 - a2) (b - a))))))], []⟩ := by
  rw [splic_len (show a + ((l.drop a2).take (min (b2 - a2) (b - a))).length ≤ l.length by simp; omega)]
  refine OpG.turn (fun _ => by simp) hk fun M ε I ac w hs xs h5 h6 => ?_
  have e1 := hs.eval hx
  have e2 := hs.eval hy
  have hv1 : ε.ν kd = subv u a b := hs.has hkd
  have hv2 : ε.ν ks = subv u a2 b2 := hs.has hks
  have hv : ε.ν k = u := hs.has hj
  simp only [SV.den, El.den, At.den] at e1 e2
  obtain ⟨g, cap, cur, hv', hg, hsz, hnc, _, htk⟩ := own_some h5 (by omega)
  rw [← hv, hv'] at hv1 hv2
  simp only [subv, if_neg (show ¬ cap = a by omega), if_neg (show ¬ cap = a2 by omega), Option.map_some] at hv1 hv2
  rw [hE1, Nat.mul_one] at hsz htk
  have hxl : xs.length = l.length := by rw [RP.len h6, hE1, Nat.mul_one]
  have hlen : ((l.drop a2).take (min (b2 - a2) (b - a))).length = min (b2 - a2) (b - a) := by simp; omega
  have hR2 := RP.take1 hE1 (RP.drop1 hE1 h6 a2) (min (b2 - a2) (b - a))
  have hadd : ∀ m, (⟨g, 0, none⟩ : Addr).add m = ⟨g, m, none⟩ := fun m => by simp [Addr.add_plain]
  rw [hadd] at hv1 hv2
  rw [hv'] at h5 ⊢
  obtain ⟨w', h8, h9, h10, h11⟩ := copy_core (P := cx.P) (dT := t) (sT := t) (ty := ty) (dLen := b - a) (dCap := cap - a) (sLen := b2 - a2) (sCap := cap - a2) (o := a) (a := ⟨g, a2, none⟩) hE1 hE hT.u (by rw [info_size hT, hE1]) h5 h6 hR2 (by simp only [List.length_take, List.length_drop, hxl]; show min _ _ = min _ _; omega) (fun jj v hj' => by
    have hjl := (List.getElem?_eq_some_iff.1 hj').1
    simp only [List.length_take, List.length_drop] at hjl
    rw [List.getElem?_take, if_pos (by omega), List.getElem?_drop, ← htk, List.getElem?_take, if_pos (by omega)] at hj'
    rw [Addr.add_plain]
    simp only [World.cell?, hg]
    simpa using hj') (by rw [hlen]; omega)
  refine ⟨w', by simp [execOp, resolve, invoke, builtin, e1, e2, hv1, hv2, h8, hlen, goInt], h9, h10, h11⟩
end ops
end Go.Eng
