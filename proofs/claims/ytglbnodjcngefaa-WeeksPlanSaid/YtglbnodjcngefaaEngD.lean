/- The engine, part D: operations that make new keys: hidden values, blocks; stores. -/
import Derived.Test.YtglbnodjcngefaaEngC
set_option linter.unusedSimpArgs false
set_option linter.unusedVariables false
namespace Go.Eng
open Go

def upd {α : Type} (f : Nat → α) (k : Nat) (v : α) : Nat → α := fun i => if i = k then v else f i
theorem upd_same {α : Type} (f : Nat → α) (k : Nat) (v : α) : upd f k v k = v := by simp [upd]
theorem upd_other {α : Type} (f : Nat → α) {k i : Nat} (v : α) (h : i ≠ k) : upd f k v i = f i := by simp [upd, h]
theorem look_one {α : Type} {i k : Nat} {x y : α} (h : look i [(k, x)] = some y) : i = k ∧ y = x := by
  rw [look_cons] at h
  by_cases hk : k = i
  · subst hk; simp at h; exact ⟨rfl, h.symm⟩
  · simp [hk, look] at h

theorem IH.on_lt {I : IH} {w : World} (h : I.on w) {b : Nat} {o : Obj} (hb : I b = some o) : b < w.heap.size := (Array.getElem?_eq_some_iff.1 (h b o hb)).1
theorem IH.none_ge {I : IH} {w : World} (h : I.on w) {b : Nat} (hb : w.heap.size ≤ b) : I b = none := by
  cases hI : I b with
  | none => rfl
  | some o => have := IH.on_lt h hI; omega
theorem IH.on_alloc {I : IH} {w : World} (h : I.on w) (o : Obj) : I.on (w.alloc o) := fun b o' hb => by
  rw [heap_alloc_old w o (IH.on_lt h hb)]; exact h b o' hb

/-- A world in which one block has been laid: a step under which the key k stands for it. -/
theorem Tr.alloc {n0 : Nat} {ε : Env} {I : IH} {w : World} {fp : Nat → Prop} (hI : I.on w) (k : Nat) (o : Obj) (v : Value) : Tr n0 ε ⟨upd ε.β k w.heap.size, upd ε.ν k v, ε.γ⟩ I I w (w.alloc o) [k] fp :=
  ⟨fun i hi => by
      have : i ≠ k := fun e => hi (by simp [e])
      exact ⟨upd_other _ _ this, upd_other _ _ this, rfl⟩,
    IH.le.rfl', IH.on_alloc hI o, rfl, rfl, rfl, by simp, fun b hb _ => heap_alloc_old w o hb, fun _ _ h => .inl h⟩

theorem OpG.newq {cx : Cx} {S : St} {o : Oper} {R : Pred} {k : Nat} (hnd : ∀ c, o.op ≠ .defer c)
    (h : ∀ M ε I a w, SatM cx M ε I S a w → ∃ u, R.h I u ∧ (execOp a.eval o).run cx.P w = .ok (.value u) w) : OpG cx S o ⟨.e (.a (.q k)), [k], [(k, R)], [], []⟩ := by
  intro M ε I a w next Q hs hN K
  obtain ⟨u, h1, h2⟩ := h M ε I a w hs
  refine ⟨fun _ _ => trivial, ?_⟩
  rw [semAt_eq _ _ _ hnd, h2]
  have := K ⟨ε.β, upd ε.ν k u, ε.γ⟩ I w
    ⟨fun i hi => by
      have : i ≠ k := fun e => hi (by simp [e])
      exact ⟨rfl, upd_other _ _ this, rfl⟩, IH.le.rfl', hs.imm, rfl, rfl, rfl, Nat.le_refl _, fun _ _ _ => rfl, fun _ _ h => .inl h⟩
    ⟨.inr (by simp), fun j R' hj => by obtain ⟨rfl, _⟩ := look_one hj; exact .inr (by simp), fun _ _ h => (by cases h), fun _ _ h => (by cases h),
      fun j R' hj => by obtain ⟨rfl, rfl⟩ := look_one hj; simpa only [upd_same] using h1, fun _ _ h => (by cases h), fun _ _ h => (by cases h), fun _ _ _ _ _ h => (by cases h), fun _ _ h => (by cases h)⟩
  simp only [SV.den, El.den, At.den, upd_same] at this
  exact this

section ops
variable {cx : Cx} {S : St} {dst : Option Tmp} {ty : TypeId} {pos : String} {af : Array Edge} {gd : Option (Nat × Bool)}

/-- A cell behind a pointer into settled memory that is itself a value with memory behind it. -/
theorem o_ldex {x : Operand} {T : TypeId} {j o : Nat} {α : Type} {E : EP α} {y : α} {R : Pred} {k : Nat} (hT : TyS cx.P T) (hx : S.op x = some (.e (.a (.e j o)))) (hj : Has S.X j (PP E y)) (hz : ∀ I cs, E.h I cs y → ∃ u, cs[o]? = some u ∧ R.h I u) :
    OpG cx S ⟨dst, .load T x, ty, pos, af, gd⟩ ⟨.e (.a (.q k)), [k], [(k, R)], [], []⟩ :=
  OpG.newq (fun _ => by simp) fun M ε I a w hs => by
    have h := hs.eval hx
    obtain ⟨ad, cs, h1, h2, h3, h4⟩ := hs.has hj
    simp only [SV.den, El.den, At.den, h1, padd] at h
    obtain ⟨u, h5, h6⟩ := hz I cs h3
    exact ⟨u, h6, by simp [execOp, h, run_load1 hT (IH.cell_on hs.imm (h4 o u h5))]⟩
theorem o_ldqx {x : Operand} {T : TypeId} {j : Nat} {α : Type} {E : EP α} {y : α} {R : Pred} {k : Nat} (hT : TyS cx.P T) (hx : S.op x = some (.e (.a (.q j)))) (hj : Has S.X j (PP E y)) (hz : ∀ I cs, E.h I cs y → ∃ u, cs[0]? = some u ∧ R.h I u) :
    OpG cx S ⟨dst, .load T x, ty, pos, af, gd⟩ ⟨.e (.a (.q k)), [k], [(k, R)], [], []⟩ :=
  OpG.newq (fun _ => by simp) fun M ε I a w hs => by
    have h := hs.eval hx
    obtain ⟨ad, cs, h1, h2, h3, h4⟩ := hs.has hj
    simp only [SV.den, El.den, At.den, h1] at h
    obtain ⟨u, h5, h6⟩ := hz I cs h3
    have h7 := IH.cell_on hs.imm (h4 0 u h5)
    rw [Addr.add_zero'] at h7
    exact ⟨u, h6, by simp [execOp, h, run_load1 hT h7]⟩
theorem slx {α : Type} {E : EP α} {l : List α} : ∀ I cs, (EP.sl E).h I cs l → ∃ u, cs[0]? = some u ∧ (PL E l).h I u := fun _ _ ⟨v, h, k⟩ => ⟨v, by rw [h]; rfl, k⟩

/-! #### Elements -/
theorem run_indexAt {P : Program} {T e : TypeId} {sz : Nat} (hT : IsSl P T e sz) {ad : Addr} {len cap : Nat} {i : Int} (h0 : 0 ≤ i) (h1 : i < len) (w : World) :
    (Instr.indexAt T (.slice (some ad) len cap) (.int .i64 i)).run P w = .ok (.pointer (some (ad.add (i.toNat * sz)))) w := by
  obtain ⟨h2, h3⟩ := hT
  simp [Instr.indexAt, asIntOf, run_underlying h2, h0, h1, h3]
theorem PL.elem {α : Type} [Inhabited α] {E : EP α} {l : List α} {I : IH} {v : Value} (h : (PL E l).h I v) {i : Int} (h0 : 0 ≤ i) (h1 : i < l.length) :
    ∃ ad cap, v = .slice (some ad) l.length cap ∧ (PP E (nth l i)).h I (.pointer (some (ad.add (i.toNat * E.size)))) := by
  obtain ⟨a, cap, hv, _, h⟩ := h
  obtain ⟨cs, ad, h2, h3, h4, h5⟩ := h i.toNat (by omega)
  subst h3
  refine ⟨ad, cap, hv, _, cs, rfl, Addr.add_spot h4 _, ?_, fun j y hj => ?_⟩
  · have : nth l i = l[i.toNat]'(by omega) := by simp [nth, List.getD_eq_getElem?_getD, List.getElem?_eq_getElem (show i.toNat < l.length by omega)]
    rw [this]; exact h2
  · rw [Addr.add_add h4]; exact h5 j y hj
theorem o_idx {x y : Operand} {T e : TypeId} {j k : Nat} {α : Type} [Inhabited α] {E : EP α} {l : List α} {i : Int} (hT : IsSl cx.P T e E.size) (hx : S.op x = some (.e (.a (.q j)))) (hj : Has S.X j (PL E l)) (hi : S.op y = some (.i i))
    (h0 : 0 ≤ i) (h1 : i < l.length) : OpG cx S ⟨dst, .indexAddr T x y, ty, pos, af, gd⟩ ⟨.e (.a (.q k)), [k], [(k, PP E (nth l i))], [], []⟩ :=
  OpG.newq (fun _ => by simp) fun M ε I a w hs => by
    have h := hs.eval hx
    have h' := hs.eval hi
    obtain ⟨ad, cap, h2, h3⟩ := PL.elem (hs.has hj) h0 h1
    simp only [SV.den, El.den, At.den, h2] at h
    simp only [SV.den, El.den, At.den] at h'
    exact ⟨_, h3, by simp [execOp, h, h', run_indexAt hT h0 h1 w]⟩
/-- An array in a block of its own, one cell an element: the cell's place. -/
def IsArr (P : Program) (T e : TypeId) (n : Nat) : Prop := P.underlying T = some (.array n e) ∧ (∀ w, (sizeOf e).run P w = .ok 1 w)
theorem o_idxp {x y : Operand} {T e : TypeId} {k n : Nat} {i : Int} (hT : IsArr cx.P T e n) (hx : S.op x = some (.e (.a (.p k 0)))) (hi : S.op y = some (.i i)) (h0 : 0 ≤ i) (h1 : i < n) :
    OpG cx S ⟨dst, .indexAddr T x y, ty, pos, af, gd⟩ (.val (.e (.a (.p k i.toNat)))) :=
  OpG.pure (fun _ => by simp) fun M ε I a w hs => ⟨hs.on (sv := .e (.a (.p k 0))) hx, by
    have h := hs.eval hx
    have h' := hs.eval hi
    obtain ⟨h2, h3⟩ := hT
    simp only [SV.den, El.den, At.den] at h h'
    simp [execOp, h, h', Instr.indexAt, asIntOf, run_underlying h2, h0, h1, h3, Instr.sureAddr, Addr.add_plain, SV.den, El.den, At.den]⟩

/-! #### New blocks -/
theorem newblk {cx : Cx} {S : St} {M : Nat → Prop} {ε : Env} {I : IH} {a : Act} {w : World} (hs : SatM cx M ε I S a w) {k : Nat} (hk : ¬ M k) {cs : List At} (hcs : ∀ c ∈ cs, c.on M) (T : TypeId) (v : Value) :
    New cx M S ε ⟨upd ε.β k w.heap.size, upd ε.ν k v, ε.γ⟩ I w (w.alloc (.cells (cs.map (At.den ε)).toArray T)) ⟨.e (.a (.p k 0)), [k], [], [(k, .blk cs T)], []⟩ := by
  have hag : Env.agree M ε ⟨upd ε.β k w.heap.size, upd ε.ν k v, ε.γ⟩ := fun i hi => by
    have : i ≠ k := fun e => hk (e ▸ hi)
    exact ⟨upd_other _ _ this, upd_other _ _ this, rfl⟩
  refine ⟨.inr (by simp), fun _ _ h => (by cases h), fun _ _ h => (by cases h), ?_, fun _ _ h => (by cases h), ?_, ?_, ?_, fun k x h => by obtain ⟨_, h⟩ := look_one h; cases h⟩
  · intro i e he
    obtain ⟨rfl, rfl⟩ := look_one he
    exact ⟨.inr (by simp), fun c hc => At.on_mono (fun _ => .inl) (hcs c hc)⟩
  · intro i e he
    obtain ⟨rfl, rfl⟩ := look_one he
    simp only [Ent.ok, upd_same]
    rw [List.map_congr_left (fun c hc => At.den_agree hag (hcs c hc))]
    exact heap_alloc_new w _
  · intro i e he b hb
    obtain ⟨rfl, rfl⟩ := look_one he
    simp only [Ent.foot, upd_same] at hb
    subst hb
    exact ⟨.inl hs.keep.size, by simp, IH.none_ge hs.imm (Nat.le_refl _), .inl (Nat.le_refl _)⟩
  · intro i i' e e' b he he' hne
    obtain ⟨rfl, _⟩ := look_one he
    obtain ⟨rfl, _⟩ := look_one he'
    exact absurd rfl hne
theorem OpG.newblk {cx : Cx} {S : St} {o : Oper} {T : TypeId} {k : Nat} {cs : List At} (hnd : ∀ c, o.op ≠ .defer c)
    (h : ∀ M ε I a w, SatM cx M ε I S a w → (∀ c ∈ cs, c.on M) ∧ (execOp a.eval o).run cx.P w = .ok (.value (.pointer (some ⟨w.heap.size, 0, none⟩))) (w.alloc (.cells (cs.map (At.den ε)).toArray T))) :
    OpG cx S o ⟨.e (.a (.p k 0)), [k], [], [(k, .blk cs T)], []⟩ := by
  intro M ε I a w next Q hs hN K
  obtain ⟨h1, h2⟩ := h M ε I a w hs
  refine ⟨fun _ _ => trivial, ?_⟩
  rw [semAt_eq _ _ _ hnd, h2]
  have := K _ I _ (Tr.alloc hs.imm k _ undef) (Eng.newblk hs (hN k (by simp)) h1 T undef)
  simp only [SV.den, El.den, At.den, upd_same] at this
  exact this
theorem o_alloc {T : TypeId} {k : Nat} {cs : List At} (hz : Zero cx.P T cs) : OpG cx S ⟨dst, .alloc T, ty, pos, af, gd⟩ ⟨.e (.a (.p k 0)), [k], [], [(k, .blk cs T)], []⟩ :=
  OpG.newblk (fun _ => by simp) fun M ε I a w hs => by
    obtain ⟨z, h1, h2, h3⟩ := hz
    exact ⟨h3 M, by simp [execOp, Instr.alloc, h1, newVar, newRow, newObj, Sem.run, h2 ε]⟩
theorem o_box {x : Operand} {T : TypeId} {k : Nat} {cs : List At} {z : El} (hx : S.op x = some (.e z)) (hc : z.cells = cs) (hz : ∀ ε, (z.den ε).cells = (z.cells.map (At.den ε)).toArray) : OpG cx S ⟨dst, .box T x, ty, pos, af, gd⟩ ⟨.e (.a (.p k 0)), [k], [], [(k, .blk cs T)], []⟩ :=
  OpG.newblk (fun _ => by simp) fun M ε I a w hs => by
    subst hc
    have h := hs.eval hx
    have h' := hs.on hx
    refine ⟨?_, by simp [execOp, h, SV.den, Instr.box, newVar, newRow, newObj, Sem.run, hz ε]⟩
    cases z with
    | a y => intro c hc; rw [El.cells, List.mem_singleton] at hc; subst hc; exact h'
    | g l => exact h'
theorem o_boxg {x : Operand} {T : TypeId} {k : Nat} {cs : List At} (hx : S.op x = some (.e (.g cs))) : OpG cx S ⟨dst, .box T x, ty, pos, af, gd⟩ ⟨.e (.a (.p k 0)), [k], [], [(k, .blk cs T)], []⟩ :=
  o_box hx rfl (fun _ => rfl)
/-- What takes one cell. -/
def At.one (S : St) : At → Prop
  | .v y => y.oneCell' = true
  | .q j => (∃ R, Has S.X j R ∧ ∀ I v, R.h I v → v.oneCell' = true) ∨ ∃ T sz n R, look j S.L = some (.own T sz n R)
  | .e _ _ => False
  | _ => True
theorem PL.one {α : Type} {E : EP α} {l : List α} : ∀ I v, (PL E l).h I v → v.oneCell' = true := by
  rintro I v ⟨a, cap, rfl, _⟩; rfl
theorem PP.one {α : Type} {E : EP α} {l : α} : ∀ I v, (PP E l).h I v → v.oneCell' = true := by
  rintro I v ⟨a, cap, rfl, _⟩; rfl
theorem SatM.one {cx : Cx} {M : Nat → Prop} {ε : Env} {I : IH} {S : St} {a : Act} {w : World} (hs : SatM cx M ε I S a w) {y : At} (h : y.one S) : (y.den ε).oneCell' = true := by
  cases y with
  | v y => exact h
  | q j =>
    rcases h with ⟨R, h1, h2⟩ | ⟨T, sz, n, R, h1⟩
    · exact h2 I _ (hs.has h1)
    · obtain ⟨xs, ⟨_, h2⟩, _⟩ := hs.L j _ h1
      show (ε.ν j).oneCell' = true
      rcases h2 with ⟨h2, _⟩ | ⟨g, cap, cur, h2, _⟩ <;> rw [h2] <;> rfl
  | e j o => exact h.elim
  | p k o => rfl
  | s k n => rfl
  | f fn js => rfl
theorem cells_one {v : Value} (h : v.oneCell' = true) : v.cells = #[v] := by
  cases v <;> first | rfl | (simp [Value.oneCell'] at h)
def OneAll (S : St) : List At → Prop
  | [] => True
  | c :: t => c.one S ∧ OneAll S t
theorem OneAll.mem {S : St} : ∀ {l : List At}, OneAll S l → ∀ c ∈ l, c.one S
  | _ :: _, h, _, hc => by
    rcases List.mem_cons.1 hc with rfl | hc
    · exact h.1
    · exact OneAll.mem h.2 _ hc
theorem o_boxa {x : Operand} {T : TypeId} {k : Nat} {y : At} (hx : S.op x = some (.e (.a y))) (hy : y.one S) : OpG cx S ⟨dst, .box T x, ty, pos, af, gd⟩ ⟨.e (.a (.p k 0)), [k], [], [(k, .blk [y] T)], []⟩ :=
  OpG.newblk (fun _ => by simp) fun M ε I a w hs => by
    have h := hs.eval hx
    refine ⟨?_, by simp [execOp, h, SV.den, El.den, Instr.box, newVar, newRow, newObj, Sem.run, cells_one (hs.one hy)]⟩
    intro c hc; rw [List.mem_singleton] at hc; subst hc; exact hs.on (sv := .e (.a c)) hx

/-! #### Stores -/
theorem run_storeCells_blk (P : Program) (g : Nat) (T : TypeId) : ∀ (ys : List Value) (o i : Nat) (cur : List Value) (w : World), w.heap[g]? = some (.cells cur.toArray T (0, 0)) → o + i + ys.length ≤ cur.length → (∀ y ∈ ys, y.oneCell' = true) →
    ∃ w', (storeCells ⟨g, o, none⟩ ys i).run P w = .ok () w' ∧ w'.heap[g]? = some (.cells (cur.take (o + i) ++ ys ++ cur.drop (o + i + ys.length)).toArray T (0, 0)) ∧ w'.os = w.os ∧ w'.tape = w.tape ∧ w'.output = w.output ∧ w'.heap.size = w.heap.size ∧ ∀ b, b ≠ g → w'.heap[b]? = w.heap[b]?
  | [], o, i, cur, w, hg, hl, h1 => ⟨w, by simp [storeCells], by simpa using hg, rfl, rfl, rfl, rfl, fun _ _ => rfl⟩
  | y :: ys, o, i, cur, w, hg, hl, h1 => by
    have hlt : o + i < cur.length := by simp at hl; omega
    have hc : w.cell? ⟨g, o + i, none⟩ = some (cur[o + i]'hlt) := by simp [World.cell?, hg, hlt]
    have hf : w.frozen? ⟨g, o + i, none⟩ = false := by simp [World.frozen?, hg]
    have hg' : (w.setCell ⟨g, o + i, none⟩ y).heap[g]? = some (.cells (cur.set (o + i) y).toArray T (0, 0)) := by
      have := heap_setCell_same w g (o + i) cur.toArray T y hg
      simpa using this
    obtain ⟨w', h2, h3, h4, h5, h6, h7, h8⟩ := run_storeCells_blk P g T ys o (i + 1) (cur.set (o + i) y) (w.setCell ⟨g, o + i, none⟩ y) hg' (by simp at hl ⊢; omega) (fun z hz => h1 z (List.mem_cons_of_mem _ hz))
    refine ⟨w', ?_, ?_, h4, h5, h6, by rw [h7]; simp [World.setCell], fun b hb => by rw [h8 b hb]; exact heap_setCell_other w _ b y hb⟩
    · have hy := h1 y List.mem_cons_self
      rw [storeCells, Sem.run_bind, Addr.add_plain]
      have : (store ⟨g, o + i, none⟩ y).run P w = .ok () (w.setCell ⟨g, o + i, none⟩ y) := by
        cases y <;> first | (simp [Value.oneCell'] at hy; done) | simp [store, Sem.run, hc, hf]
      rw [this]
      exact h2
    · rw [h3]
      refine congrArg (fun l : List Value => some (Obj.cells l.toArray T (0, 0))) ?_
      apply List.ext_getElem?
      intro m
      simp only [List.getElem?_append, List.length_append, List.length_take, List.length_set, List.getElem?_take, List.getElem?_drop, List.getElem?_set, List.length_cons, List.getElem?_cons]
      have e1 : min (o + i) cur.length = o + i := by omega
      have e2 : min (o + (i + 1)) cur.length = o + (i + 1) := by omega
      simp only [e1, e2]
      by_cases c1 : m < o + i
      · have : ¬ (o + i = m) := by omega
        have c2 : m < o + (i + 1) := by omega
        have c3 : m < o + i + (ys.length + 1) := by omega
        have c4 : m < o + (i + 1) + ys.length := by omega
        simp [c1, this, c2, c3, c4]
      · by_cases c5 : m = o + i
        · subst c5
          simp [hlt]
          intro h; omega
        · have c6 : ¬ m < o + (i + 1) := by omega
          have c7 : ¬ (m - (o + i) = 0) := by omega
          have c8 : m - (o + i) - 1 = m - (o + (i + 1)) := by omega
          by_cases c9 : m < o + i + (ys.length + 1)
          · have : m < o + (i + 1) + ys.length := by omega
            simp [c1, c6, c7, c8, c9, this]
          · have : ¬ m < o + (i + 1) + ys.length := by omega
            have e3 : o + i + (ys.length + 1) + (m - (o + i + (ys.length + 1))) = o + (i + 1) + ys.length + (m - (o + (i + 1) + ys.length)) := by omega
            have c10 : ¬ (o + i = o + (i + 1) + ys.length + (m - (o + (i + 1) + ys.length))) := by omega
            simp [c9, this, e3, c10]
def splice (cs : List At) (o : Nat) (ys : List At) : List At := cs.take o ++ ys ++ cs.drop (o + ys.length)
/-- What lies in the cells of a value that is stored. -/
theorem o_stg {x y : Operand} {T T' : TypeId} {k o m : Nat} {cs ys : List At} {ev : El} (hT : ∀ w, (sizeOf T).run cx.P w = .ok m w) (hx : S.op x = some (.e (.a (.p k o)))) (hk : look k S.L = some (.blk cs T')) (hy : S.op y = some (.e ev))
    (hev : ∀ M ε I a w, SatM cx M ε I S a w → (ev.den ε).cells = (ys.map (At.den ε)).toArray ∧ (∀ c ∈ ys, c.on M) ∧ ∀ c ∈ ys, (c.den ε).oneCell' = true) (hm : ys.length = m) (ho : Nat.ble (o + m) cs.length = true) {sv : SV} (hsv : sv = .e (.a (.v undef))) :
    OpG cx S ⟨none, .store T x y, ty, pos, af, none⟩ ⟨sv, [], [], [(k, .blk (splice cs o ys) T')], []⟩ := by
  intro M ε I a w next Q hs hN K
  subst hsv
  obtain ⟨he1, he2, he3⟩ := hev M ε I a w hs
  have h1 := hs.eval hx
  have h2 := hs.eval hy
  simp only [SV.den, El.den, At.den] at h1
  simp only [SV.den] at h2
  have hb := hs.L k _ hk
  simp only [Ent.ok] at hb
  have ho' : o + m ≤ cs.length := by simpa using ho
  obtain ⟨w', h3, h4, h5, h6, h7, h8, h9⟩ := run_storeCells_blk cx.P (ε.β k) T' (ys.map (At.den ε)) o 0 (cs.map (At.den ε)) w hb (by simp; omega) (fun z hz => by obtain ⟨c, hc, rfl⟩ := List.mem_map.1 hz; exact he3 c hc)
  refine ⟨fun _ _ => trivial, ?_⟩
  rw [semAt_eq _ _ _ (fun _ => by simp)]
  have hrun : (execOp a.eval ⟨none, .store T x y, ty, pos, af, none⟩).run cx.P w = .ok .skip w' := by
    simp [execOp, h1, h2, Instr.storeAt, Instr.sureAddr, storeVar, hT, he1, hm, h3]
  rw [hrun]
  have hfoot := hs.foot k _ hk (ε.β k) rfl
  have hfp : fpOf S ε ⟨.e (.a (.v undef)), [], [], [(k, .blk (splice cs o ys) T')], []⟩ (ε.β k) := ⟨k, _, by simp [look], hk, rfl⟩
  refine K ε I w' ⟨fun _ _ => ⟨rfl, rfl, rfl⟩, IH.le.rfl', ?_, h5, h6, h7, by omega, fun b _ hb' => h9 b (fun e => hb' (e ▸ hfp)), fun _ _ h => .inl h⟩
    ⟨trivial, fun _ _ h => (by cases h), fun _ _ h => (by cases h), ?_, fun _ _ h => (by cases h), ?_, ?_, ?_, fun k x h => by obtain ⟨_, h⟩ := look_one h; cases h⟩
  · intro b o' hb'
    rw [h9 b (fun e => by rw [e, hfoot.2.2] at hb'; cases hb')]
    exact hs.imm b o' hb'
  · intro i e he
    obtain ⟨rfl, rfl⟩ := look_one he
    refine ⟨.inl (hs.wfL i _ hk).1, fun c hc => At.on_mono (fun _ => .inl) ?_⟩
    have hcs := hs.blk_on hk
    simp only [splice, List.mem_append] at hc
    rcases hc with (hc | hc) | hc
    · exact hcs c (List.mem_of_mem_take hc)
    · exact he2 c hc
    · exact hcs c (List.mem_of_mem_drop hc)
  · intro i e he
    obtain ⟨rfl, rfl⟩ := look_one he
    simp only [Ent.ok]
    rw [h4]
    simp [splice, List.map_take, List.map_drop]
  · intro i e he b hb'
    obtain ⟨rfl, rfl⟩ := look_one he
    simp only [Ent.foot] at hb'
    subst hb'
    exact ⟨hfoot.1, by rw [h8]; exact hfoot.2.1, hfoot.2.2, .inr hfp⟩
  · intro i i' e e' b he he' hne
    obtain ⟨rfl, _⟩ := look_one he
    obtain ⟨rfl, _⟩ := look_one he'
    exact absurd rfl hne
theorem o_sta {x y : Operand} {T T' : TypeId} {k o : Nat} {cs : List At} {z : At} (hT : TyS cx.P T) (hx : S.op x = some (.e (.a (.p k o)))) (hk : look k S.L = some (.blk cs T')) (hy : S.op y = some (.e (.a z))) (hz : z.one S) (ho : Nat.ble (o + 1) cs.length = true) :
    OpG cx S ⟨none, .store T x y, ty, pos, af, none⟩ ⟨.e (.a (.v undef)), [], [], [(k, .blk (splice cs o [z]) T')], []⟩ :=
  o_stg hT.sz hx hk hy (fun _ _ _ _ _ hs => ⟨by simp [El.den, cells_one (hs.one hz)], fun c hc => by rw [List.mem_singleton] at hc; subst hc; exact hs.on (sv := .e (.a c)) hy, fun c hc => by rw [List.mem_singleton] at hc; subst hc; exact hs.one hz⟩) rfl ho rfl
theorem o_stag {x y : Operand} {T T' : TypeId} {k o m : Nat} {cs ys : List At} (hT : TyG cx.P T m) (hx : S.op x = some (.e (.a (.p k o)))) (hk : look k S.L = some (.blk cs T')) (hy : S.op y = some (.e (.g ys))) (hz : OneAll S ys) (hm : ys.length = m) (ho : Nat.ble (o + m) cs.length = true) :
    OpG cx S ⟨none, .store T x y, ty, pos, af, none⟩ ⟨.e (.a (.v undef)), [], [], [(k, .blk (splice cs o ys) T')], []⟩ :=
  o_stg hT.sz hx hk hy (fun _ _ _ _ _ hs => ⟨rfl, fun c hc => hs.on (sv := .e (.g ys)) hy c hc, fun c hc => hs.one (hz.mem c hc)⟩) hm ho rfl
end ops
end Go.Eng
