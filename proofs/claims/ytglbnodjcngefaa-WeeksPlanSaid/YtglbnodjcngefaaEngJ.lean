/- The engine, part J: elements of the call's own rows; slice literals; constants that are given a name; settling; memory lent to a call. -/
import Derived.Test.YtglbnodjcngefaaEngI
set_option linter.unusedSimpArgs false
set_option linter.unusedVariables false
namespace Go.Eng
open Go

/-! ### Elements of own rows -/
def lset {α : Type} (l : List α) (i : Int) (x : α) : List α := l.set i.toNat x
theorem lset_len {α : Type} (l : List α) (i : Int) (x : α) : (lset l i x).length = l.length := by simp [lset]
theorem flatten_set {size : Nat} {ys : List Value} : ∀ {c : List (List Value)} {i : Nat}, (∀ z ∈ c, z.length = size) → ys.length = size → i < c.length →
    (c.set i ys).flatten = c.flatten.take (i * size) ++ ys ++ c.flatten.drop (i * size + size)
  | x :: t, 0, hc, hy, _ => by
    have hx := hc x List.mem_cons_self
    simp only [List.set_cons_zero, List.flatten_cons, Nat.zero_mul, List.take_zero, List.nil_append, Nat.zero_add]
    rw [← hx, List.drop_left]
  | x :: t, i + 1, hc, hy, hi => by
    have hx := hc x List.mem_cons_self
    have ih := flatten_set (c := t) (i := i) (fun z hz => hc z (List.mem_cons_of_mem _ hz)) hy (by simpa using hi)
    simp only [List.set_cons_succ, List.flatten_cons, ih]
    rw [show (i + 1) * size = x.length + i * size by rw [hx, Nat.add_mul]; omega, List.take_length_add_append, Nat.add_assoc, List.drop_length_add_append]
    simp
theorem RP.set {α : Type} {E : EP α} {I : IH} {l : List α} {xs ys : List Value} {i : Int} {x : α} (h : (RP E l).h I xs) (hy : E.h I ys x) (h0 : 0 ≤ i) (h1 : i < l.length) :
    (RP E (lset l i x)).h I (xs.take (i.toNat * E.size) ++ ys ++ xs.drop (i.toNat * E.size + E.size)) := by
  obtain ⟨c, rfl, h2, h3⟩ := h
  have hi : i.toNat < c.length := by omega
  have hc : ∀ z ∈ c, z.length = E.size := fun z hz => by
    obtain ⟨m, hm, rfl⟩ := List.mem_iff_getElem.1 hz
    exact E.len (h3 m hm (by omega))
  refine ⟨c.set i.toNat ys, (flatten_set hc (E.len hy) hi).symm, by simp [lset, h2], fun m hm hl => ?_⟩
  by_cases e : i.toNat = m
  · subst e; simpa [lset] using hy
  · have hm' : m < c.length := by simpa using hm
    have := h3 m hm' (by omega)
    simpa [lset, e] using this

theorem own_some {w : World} {T : TypeId} {size n : Nat} {v : Value} {xs : List Value} (h : w.ownsRow 0 T size v n xs) (hn : 0 < n) : ∃ g cap cur, v = .slice (some ⟨g, 0, none⟩) n cap ∧ w.heap[g]? = some (.cells cur T (0, 0)) ∧ cur.size = cap * size ∧ n ≤ cap ∧ cap ≤ maxLen ∧ cur.toList.take (n * size) = xs := by
  obtain ⟨hl, h2⟩ := h
  rcases h2 with ⟨rfl, rfl⟩ | ⟨g, cap, cur, rfl, hb, hg, hn, hm, hs, htk⟩
  · omega
  · exact ⟨g, cap, cur, rfl, hg, hs, hn, hm, htk⟩

section ops
variable {cx : Cx} {S : St} {dst : Option Tmp} {ty : TypeId} {pos : String} {af : Array Edge} {gd : Option (Nat × Bool)}
/-- The place of an element of an own row. -/
theorem o_idxo {x y : Operand} {T e e' : TypeId} {j n sz : Nat} {R : LPred} {i : Int} (hT : IsSl cx.P T e sz) (hx : S.op x = some (.e (.a (.q j)))) (hj : look j S.L = some (.own e' sz n R)) (hi : S.op y = some (.i i))
    (h0 : 0 ≤ i) (h1 : i < n) : OpG cx S ⟨dst, .indexAddr T x y, ty, pos, af, gd⟩ (.val (.e (.a (.e j (i.toNat * sz))))) :=
  OpG.pure (fun _ => by simp) fun M ε I a w hs => ⟨hs.on (sv := .e (.a (.q j))) hx, by
    have h := hs.eval hx
    have h' := hs.eval hi
    obtain ⟨xs, h2, _⟩ := hs.L j _ hj
    obtain ⟨g, cap, cur, hv, _⟩ := own_some h2 (by omega)
    simp only [SV.den, El.den, At.den, hv] at h
    simp only [SV.den, El.den, At.den] at h'
    simp [execOp, h, h', run_indexAt hT h0 h1 w, SV.den, El.den, At.den, hv, padd]⟩
theorem o_fldo {x : Operand} {T e' : TypeId} {f off j o n sz : Nat} {R : LPred} (hf : Fld cx.P T f off) (hx : S.op x = some (.e (.a (.e j o)))) (hj : look j S.L = some (.own e' sz n R)) (hn : 0 < n) :
    OpG cx S ⟨dst, .fieldAddr T x f, ty, pos, af, gd⟩ (.val (.e (.a (.e j (o + off))))) :=
  OpG.pure (fun _ => by simp) fun M ε I a w hs => ⟨hs.on (sv := .e (.a (.e j o))) hx, by
    have h := hs.eval hx
    obtain ⟨xs, h2, _⟩ := hs.L j _ hj
    obtain ⟨g, cap, cur, hv, _⟩ := own_some h2 hn
    simp only [SV.den, El.den, At.den, hv, padd] at h
    simp [execOp, h, hf _ _, SV.den, El.den, At.den, hv, padd, Addr.add_add]⟩
theorem own_cell {M : Nat → Prop} {ε : Env} {I : IH} {a : Act} {w : World} (hs : SatM cx M ε I S a w) {j n sz : Nat} {e : TypeId} {R : LPred} (hj : look j S.L = some (.own e sz n R)) (hn : 0 < n) : ∃ g cap xs, ε.ν j = .slice (some ⟨g, 0, none⟩) n cap ∧ R.h I xs ∧ xs.length = n * sz ∧ ∀ o y, xs[o]? = some y → w.cell? ⟨g, o, none⟩ = some y := by
  obtain ⟨xs, h2, h3⟩ := hs.L j _ hj
  obtain ⟨g, cap, cur, hv, hg, _, _, _, htk⟩ := own_some h2 hn
  refine ⟨g, cap, xs, hv, h3, h2.1, fun o y ho => ?_⟩
  rw [← htk, List.getElem?_take] at ho
  split at ho
  · simp [World.cell?, hg]; simpa using ho
  · cases ho
/-- A cell of an own row. -/
theorem o_ldo {x : Operand} {T e : TypeId} {j o n sz : Nat} {R : LPred} {z : Value} (hT : TyS cx.P T) (hx : S.op x = some (.e (.a (.e j o)))) (hj : look j S.L = some (.own e sz n R)) (hn : 0 < n) (hz : ∀ I xs, R.h I xs → xs[o]? = some z) :
    OpG cx S ⟨dst, .load T x, ty, pos, af, gd⟩ (.val (.e (.a (.v z)))) :=
  OpG.pure (fun _ => by simp) fun M ε I a w hs => ⟨trivial, by
    have h := hs.eval hx
    obtain ⟨g, cap, xs, hv, h2, _, h3⟩ := own_cell hs hj hn
    simp only [SV.den, El.den, At.den, hv, padd, Addr.add_plain, Nat.zero_add] at h
    simp [execOp, h, run_load1 hT (h3 o z (hz I xs h2)), SV.den, El.den, At.den]⟩
theorem o_ldoi {x : Operand} {T e : TypeId} {j n sz : Nat} {l : List Int} {i : Int} (hT : TyS cx.P T) (hx : S.op x = some (.e (.a (.e j (i.toNat * sz))))) (hj : look j S.L = some (.own e sz n (RP EP.int l))) (hsz : sz = 1) (hn : n = l.length) (h0 : 0 ≤ i) (h1 : i < l.length) :
    OpG cx S ⟨dst, .load T x, ty, pos, af, gd⟩ (.val (.i (nth l i))) := by
  subst hn
  subst hsz
  refine o_ldo hT hx hj (by omega) fun I xs h => ?_
  obtain ⟨cs, h2, h3⟩ := RP.at h h0 h1
  have := h3 0 _ (by rw [show cs = [Value.int .i64 (nth l i)] from h2]; rfl)
  simpa [EP.int, EP.fix] using this
theorem o_ldog {x : Operand} {T e : TypeId} {j o n sz m : Nat} {R : LPred} {zs : List Value} {as : List At} (hT : TyG cx.P T m) (hx : S.op x = some (.e (.a (.e j o)))) (hj : look j S.L = some (.own e sz n R)) (hn : 0 < n) (hz : ∀ I xs, R.h I xs → (xs.drop o).take m = zs) (hm : zs.length = m) (has : as = zs.map .v) :
    OpG cx S ⟨dst, .load T x, ty, pos, af, gd⟩ (.val (.e (.g as))) :=
  OpG.pure (fun _ => by simp) fun M ε I a w hs => ⟨by subst has; intro c hc; obtain ⟨z, _, rfl⟩ := List.mem_map.1 hc; trivial, by
    have h := hs.eval hx
    obtain ⟨g, cap, xs, hv, h2, _, h3⟩ := own_cell hs hj hn
    simp only [SV.den, El.den, At.den, hv, padd, Addr.add_plain, Nat.zero_add] at h
    have hz' := hz I xs h2
    have := run_loadg hT (w := w) (a := ⟨g, o, none⟩) (cs := zs) hm (fun i v hi => by
      rw [Addr.add_plain]
      refine h3 _ _ ?_
      rw [← hz', List.getElem?_take] at hi
      split at hi
      · simpa using hi
      · cases hi)
    subst has
    simp [execOp, h, this, SV.den, El.den, At.den, Function.comp_def]⟩
theorem o_ldox {x : Operand} {T e : TypeId} {j o n sz k : Nat} {R : LPred} {R' : Pred} (hT : TyS cx.P T) (hx : S.op x = some (.e (.a (.e j o)))) (hj : look j S.L = some (.own e sz n R)) (hn : 0 < n) (hz : ∀ I xs, R.h I xs → ∃ u, xs[o]? = some u ∧ R'.h I u) :
    OpG cx S ⟨dst, .load T x, ty, pos, af, gd⟩ ⟨.e (.a (.q k)), [k], [(k, R')], [], []⟩ :=
  OpG.newq (fun _ => by simp) fun M ε I a w hs => by
    have h := hs.eval hx
    obtain ⟨g, cap, xs, hv, h2, _, h3⟩ := own_cell hs hj hn
    simp only [SV.den, El.den, At.den, hv, padd, Addr.add_plain, Nat.zero_add] at h
    obtain ⟨u, h5, h6⟩ := hz I xs h2
    exact ⟨u, h6, by simp [execOp, h, run_load1 hT (h3 o u h5)]⟩
/-- What is known of an operand that is laid into a row. -/
def EOK (cx : Cx) (S : St) {α : Type} (E : EP α) (e : El) (x : α) : Prop := ∀ M ε I a w, SatM cx M ε I S a w → E.h I (e.cells.map (At.den ε)) x
theorem eok_int {n : Int} : EOK cx S EP.int (.a (.v (.int .i64 n))) n := fun _ _ _ _ _ _ => rfl
theorem eok_sl {α : Type} {E : EP α} {j : Nat} {l : List α} (hj : Has S.X j (PL E l)) : EOK cx S E.sl (.a (.q j)) l := fun _ _ _ _ _ hs => ⟨_, rfl, hs.has hj⟩
theorem eok_fix {α : Type} {n : Nat} {enc : α → List Value} {hn : ∀ x, (enc x).length = n} {e : El} {x : α} (h : ∀ ε, e.cells.map (At.den ε) = enc x) : EOK cx S (EP.fix n enc hn) e x := fun _ ε _ _ _ _ => h ε
def El.one (S : St) : El → Prop
  | .a y => y.one S
  | .g l => OneAll S l
theorem SatM.elone {M : Nat → Prop} {ε : Env} {I : IH} {a : Act} {w : World} (hs : SatM cx M ε I S a w) {e : El} (h : e.one S) : ∀ c ∈ e.cells, (c.den ε).oneCell' = true := by
  cases e with
  | a y => intro c hc; rw [El.cells, List.mem_singleton] at hc; subst hc; exact hs.one h
  | g l => intro c hc; exact hs.one (h.mem c hc)
theorem run_store_own {P : Program} {T e : TypeId} {m g cap n sz o : Nat} {v : Value} {ys xs : List Value} {w : World} (hT : ∀ w, (sizeOf T).run P w = .ok m w) (hv : v.cells = ys.toArray) (hm : ys.length = m) (hy : ∀ y ∈ ys, y.oneCell' = true)
    (hown : w.ownsRow 0 e sz (.slice (some ⟨g, 0, none⟩) n cap) n xs) (ho : o + m ≤ n * sz) :
    ∃ w', (Instr.storeAt T (.pointer (some ⟨g, o, none⟩)) v).run P w = .ok () w' ∧ w'.ownsRow 0 e sz (.slice (some ⟨g, 0, none⟩) n cap) n (xs.take o ++ ys ++ xs.drop (o + m)) ∧ w.grownBy w' (some g) ∧ w'.heap.size = w.heap.size := by
  rcases hown with ⟨hl, ⟨h, _⟩ | ⟨g', cap', cur, h', hb, hg, hnc, hcm, hcs, htk⟩⟩
  · cases h
  · simp only [Value.slice.injEq, Option.some.injEq, Addr.mk.injEq, and_true, true_and] at h'
    obtain ⟨rfl, rfl⟩ := h'
    have hle : n * sz ≤ cur.size := by rw [hcs]; exact Nat.mul_le_mul_right _ hnc
    have hst := run_storeCells_at P g o e ys 0 cur w hg (by omega) hy
    simp only [Nat.add_zero] at hst
    refine ⟨_, by simp [Instr.storeAt, Instr.sureAddr, storeVar, hT, hv, hm, hst]; rfl, ⟨?_, .inr ⟨g, cap, _, rfl, hb, setRow_heap w g cur _ e _ hg, hnc, hcm, ?_, ?_⟩⟩, ⟨rfl, rfl, rfl, by simp, fun k _ hk => setRow_other w g k _ (fun e => hk (by simp [e]))⟩, by simp⟩
    · simp; omega
    · simp; omega
    · subst htk
      apply List.ext_getElem?
      intro i
      simp only [List.getElem?_take, List.getElem?_append, List.getElem?_drop, List.length_append, List.length_take, List.take_take, Array.length_toList]
      have e1 : min o cur.size = o := by omega
      have e2 : min o (min (n * sz) cur.size) = o := by omega
      have e3 : min o (n * sz) = o := by omega
      simp only [e1, e2, e3, hm]
      by_cases c1 : i < n * sz
      · by_cases c2 : i < o
        · have : i < o + m := by omega
          simp [c1, c2, this]
        · by_cases c3 : i < o + m
          · simp [c1, c2, c3]
            intro h; omega
          · have : o + m + (i - (o + m)) < n * sz := by omega
            have c2' : ¬ i < o := by omega
            have c4 : ¬ i - o < m := by omega
            simp [c1, c3, c2', c4, this, Nat.sub_sub]
      · have c2 : ¬ i < o := by omega
        have c3 : ¬ i < o + m := by omega
        have : ¬ o + m + (i - (o + m)) < n * sz := by omega
        simp [c1, c3, this]
/-- A store into an own row: what it held is turned as R' says. -/
theorem o_steg {x y : Operand} {T e : TypeId} {j o n sz m : Nat} {R R' : LPred} {ev : El} {sv : SV} (hT : ∀ w, (sizeOf T).run cx.P w = .ok m w) (hx : S.op x = some (.e (.a (.e j o)))) (hj : look j S.L = some (.own e sz n R)) (hy : S.op y = some (.e ev)) (h1 : ev.one S) (hm : ev.cells.length = m) (hn : 0 < n) (ho : o + m ≤ n * sz)
    (hR : ∀ M ε I a w, SatM cx M ε I S a w → ∀ xs, R.h I xs → R'.h I (xs.take o ++ ev.cells.map (At.den ε) ++ xs.drop (o + m))) (hsv : sv = .e (.a (.v undef))) :
    OpG cx S ⟨none, .store T x y, ty, pos, af, none⟩ ⟨sv, [], [], [(j, .own e sz n R')], []⟩ := by
  intro M ε I a w next Q hs hN K
  subst hsv
  have he1 := hs.eval hx
  have he2 := hs.eval hy
  obtain ⟨xs, h2, h3⟩ := hs.L j _ hj
  obtain ⟨g, cap, cur, hv, _⟩ := own_some h2 hn
  simp only [SV.den, El.den, At.den, hv, padd, Addr.add_plain, Nat.zero_add] at he1
  simp only [SV.den] at he2
  rw [hv] at h2
  have hcells : (ev.den ε).cells = (ev.cells.map (At.den ε)).toArray := by
    cases ev with
    | a z => simp [El.den, El.cells, cells_one (hs.one h1)]
    | g l => rfl
  obtain ⟨w', h4, h5, h6, h7⟩ := run_store_own (P := cx.P) hT hcells (by simpa using hm) (fun z hz => by obtain ⟨c, hc, rfl⟩ := List.mem_map.1 hz; exact hs.elone h1 c hc) h2 ho
  refine ⟨fun _ _ => trivial, ?_⟩
  rw [semAt_eq _ _ _ (fun _ => by simp)]
  have hrun : (execOp a.eval ⟨none, .store T x y, ty, pos, af, none⟩).run cx.P w = .ok .skip w' := by simp [execOp, he1, he2, h4]
  rw [hrun]
  have hob : (ε.ν j).ownBlock = some g := by rw [hv]; rfl
  have hft := hs.foot j _ hj g hob
  have hfp : fpOf S ε ⟨.e (.a (.v undef)), [], [], [(j, .own e sz n R')], []⟩ g := ⟨j, _, by simp [look], hj, hob⟩
  refine K ε I w' ⟨fun _ _ => ⟨rfl, rfl, rfl⟩, IH.le.rfl', ?_, h6.os, h6.tape, h6.output, h6.size, fun b hb hb' => h6.block b hb (fun e => by cases e; exact hb' hfp), fun _ _ h => .inl h⟩
    ⟨trivial, fun _ _ h => (by cases h), fun _ _ h => (by cases h), ?_, fun _ _ h => (by cases h), ?_, ?_, ?_, fun k x h => by obtain ⟨_, h⟩ := look_one h; cases h⟩
  · intro b o' hb
    rw [h6.block b (IH.on_lt hs.imm hb) (fun e => by cases e; rw [hft.2.2] at hb; cases hb)]
    exact hs.imm b o' hb
  · intro i e' he
    obtain ⟨rfl, rfl⟩ := look_one he
    exact ⟨.inl (hs.wfL i _ hj).1, trivial⟩
  · intro i e' he
    obtain ⟨rfl, rfl⟩ := look_one he
    exact ⟨_, by rw [hv]; exact h5, hR M ε I a w hs xs h3⟩
  · intro i e' he b hb
    obtain ⟨rfl, rfl⟩ := look_one he
    have hb : (ε.ν i).ownBlock = some b := hb
    rw [hob] at hb
    cases hb
    exact ⟨hft.1, by rw [h7]; exact hft.2.1, hft.2.2, .inr hfp⟩
  · intro i i' e' e'' b he he' hne
    obtain ⟨rfl, _⟩ := look_one he
    obtain ⟨rfl, _⟩ := look_one he'
    exact absurd rfl hne
/-- A whole element is stored. -/
theorem o_steE {α : Type} {E : EP α} {x y : Operand} {T e : TypeId} {j n sz : Nat} {l : List α} {i : Int} {z : α} {ev : El} (hT : ∀ w, (sizeOf T).run cx.P w = .ok sz w) (hx : S.op x = some (.e (.a (.e j (i.toNat * sz))))) (hj : look j S.L = some (.own e sz n (RP E l))) (hy : S.op y = some (.e ev)) (h1 : ev.one S) (hz : EOK cx S E ev z)
    (hm : ev.cells.length = sz) (hsz : sz = E.size) (hn : n = l.length) (h0 : 0 ≤ i) (hi : i < l.length) :
    OpG cx S ⟨none, .store T x y, ty, pos, af, none⟩ ⟨.e (.a (.v undef)), [], [], [(j, .own e sz n (RP E (lset l i z)))], []⟩ := by
  subst hsz
  subst hn
  have hlt : i.toNat + 1 ≤ l.length := by omega
  refine o_steg hT hx hj hy h1 hm (by omega) ?_ (fun M ε I a w hs xs h => RP.set h (hz M ε I a w hs) h0 hi) rfl
  calc i.toNat * E.size + E.size = (i.toNat + 1) * E.size := by rw [Nat.add_mul]; omega
    _ ≤ l.length * E.size := Nat.mul_le_mul_right _ hlt

/-! ### Slice literals -/
def idxOK : Nat → List (Nat × El) → Bool
  | _, [] => true
  | i, (j, _) :: t => Nat.beq i j && idxOK (i + 1) t
inductive Els (cx : Cx) (S : St) {α : Type} (E : EP α) : List (Nat × El) → List α → Prop
  | nil : Els cx S E [] []
  | cons {i : Nat} {e : El} {x : α} {t : List (Nat × El)} {l : List α} (h1 : e.one S) (hm : e.cells.length = E.size) (h : EOK cx S E e x) (k : Els cx S E t l) : Els cx S E ((i, e) :: t) (x :: l)
theorem fill_row {size : Nat} {ε : Env} : ∀ {els : List (Nat × El)} {i : Nat} {pre rest : List Value}, idxOK i els = true → pre.length = i * size → rest.length = els.length * size → (∀ p ∈ els, p.2.cells.length = size ∧ ∀ c ∈ p.2.cells, (c.den ε).oneCell' = true) →
    Instr.fill (fun i => some (i * size, size)) (pre ++ rest).toArray (els.map fun p => (p.1, p.2.den ε)) = some (pre ++ (els.map fun p => p.2.cells.map (At.den ε)).flatten).toArray
  | [], i, pre, rest, _, _, hr, _ => by
    have : rest = [] := List.eq_nil_of_length_eq_zero (by simpa using hr)
    subst this
    simp [Instr.fill]
  | (j, e) :: t, i, pre, rest, hi, hp, hr, hc => by
    simp only [idxOK, Bool.and_eq_true] at hi
    obtain ⟨hij, hi⟩ := hi
    replace hij := Nat.eq_of_beq_eq_true hij
    subst hij
    obtain ⟨h1, h2⟩ := hc (i, e) List.mem_cons_self
    simp only at h1
    have hcells : (e.den ε).cells = (e.cells.map (At.den ε)).toArray := El.den_cells fun y hy => by
      subst hy; exact h2 y (by simp [El.cells])
    simp only [List.map_cons, Instr.fill, hcells]
    have hlen : i * size + size ≤ (pre ++ rest).length := by have hr' : rest.length = t.length * size + size := (by rw [hr, List.length_cons, Nat.add_mul]; omega); simp only [List.length_append, hp, hr']; omega
    rw [if_neg (by simp [h1]; simp at hlen; omega)]
    have := foldl_set (e.cells.map (At.den ε)) 0 (i * size) (pre ++ rest) (by simp only [List.length_map, h1]; omega)
    have hz' : Array.foldl (fun (acc : Array Value) (x : Value × Nat) => match x with | (c, j) => acc.setIfInBounds (i * size + j) c) (pre ++ rest).toArray (e.cells.map (At.den ε)).toArray.zipIdx = (pre ++ e.cells.map (At.den ε) ++ rest.drop size).toArray := by
      have hzi : (e.cells.map (At.den ε)).toArray.zipIdx = ((e.cells.map (At.den ε)).zipIdx).toArray := by simp
      rw [hzi, List.foldl_toArray]
      refine this.trans ?_
      simp only [Nat.add_zero, List.length_map, h1, ← hp]
      rw [List.take_left, List.drop_length_add_append]
    simp only [hz']
    have ih := fill_row (size := size) (ε := ε) (els := t) (i := i + 1) (pre := pre ++ e.cells.map (At.den ε)) (rest := rest.drop size) hi (by simp [hp, h1, Nat.add_mul]) (by simp [hr, Nat.add_mul]) (fun p hp => hc p (List.mem_cons_of_mem _ hp))
    rw [ih]
    simp [List.append_assoc]
theorem Els.ok {α : Type} {E : EP α} {M : Nat → Prop} {ε : Env} {I : IH} {a : Act} {w : World} (hs : SatM cx M ε I S a w) : ∀ {els : List (Nat × El)} {l : List α}, Els cx S E els l →
    (∀ p ∈ els, p.2.cells.length = E.size ∧ ∀ c ∈ p.2.cells, (c.den ε).oneCell' = true) ∧ els.length = l.length ∧ (RP E l).h I (els.map fun p => p.2.cells.map (At.den ε)).flatten := by
  intro els l h
  induction h with
  | nil => exact ⟨fun p hp => (by cases hp), rfl, RP.nil⟩
  | cons h1 hm h k ih =>
    obtain ⟨i1, i2, i3⟩ := ih
    refine ⟨fun p hp => ?_, by simp [i2], RP.cons (h M ε I a w hs) i3⟩
    rcases List.mem_cons.1 hp with rfl | hp
    · exact ⟨hm, hs.elone h1⟩
    · exact i1 p hp
/-- A slice literal: a row of the call's own. -/
theorem o_bsl {α : Type} {E : EP α} {t e : TypeId} {bytes len k : Nat} {zs : List Value} {parts : List (Nat × Operand)} {els : List (Nat × El)} {l : List α} (hT : RowT cx.P t e E.size bytes zs) (hp : S.els parts = some els) (hi : idxOK 0 els = true) (hE : Els cx S E els l) (hl : l.length = len) (hb : Nat.ble (len * E.size) 16777216 = true) :
    OpG cx S ⟨dst, .buildSlice t len parts.toArray, ty, pos, af, gd⟩ ⟨.e (.a (.q k)), [k], [], [(k, .own e E.size l.length (RP E l))], []⟩ :=
  OpG.own0 (fun _ => by simp) fun M ε I a w hs => by
    subst hl
    obtain ⟨h1, h2, h3⟩ := Els.ok hs hE
    obtain ⟨h4, _⟩ := hs.elsv hp
    obtain ⟨i, z, hi1, hi2, hi3, hi4, hi5⟩ := hT.i
    have hb' : ¬ (2 ^ 24 < l.length * E.size) := by have : l.length * E.size ≤ 16777216 := by simpa using hb
                                                    omega
    have h4' : (parts.toArray.map fun (p : Nat × Operand) => (p.1, a.eval p.2)).toList = els.map (fun p => (p.1, p.2.den ε)) := by simpa using h4
    have hlen := RP.len h3
    have hfill := fill_row (size := E.size) (ε := ε) (els := els) (i := 0) (pre := []) (rest := ((Array.range (l.length * E.size)).map ((if l.length * E.size = 0 then #[] else z.cells)[· % (if l.length * E.size = 0 then #[] else z.cells).size]!)).toList) hi (by simp) (by simp [h2]) h1
    simp only [List.nil_append, Array.toArray_toList] at hfill
    refine ⟨.slice (some ⟨w.heap.size, 0, none⟩) l.length l.length, w.alloc (.cells (els.map fun p => p.2.cells.map (At.den ε)).flatten.toArray e), (els.map fun p => p.2.cells.map (At.den ε)).flatten, ?_, ?_, h3, World.grownBy_alloc w _ none, fun b hb => by simp [Value.ownBlock] at hb; omega⟩
    · simp only [execOp, Sem.run_bind, Instr.buildSlice, run_underlying hT.u, hT.sz, Result.andThen_ok, if_neg hb', Sem.run_pure, h4']
      by_cases h0 : l.length * E.size = 0
      · simp only [h0, if_true, Sem.run_bind, Sem.run_pure, Result.andThen_ok] at hfill ⊢
        simp only [hfill]
        simp [newRow, newObj, Sem.run]
      · have hzv : (zeroValue e).run cx.P w = .ok z w := by simp [zeroValue, typeInfo, hi1, hi2]
        simp only [h0, if_false, Sem.run_bind, hzv, Sem.run_pure, Result.andThen_ok] at hfill ⊢
        simp only [hfill]
        simp [newRow, newObj, Sem.run]
    · have := World.ownsRow_lit (base := 0) (e := e) (size := E.size) w (els.map fun p => p.2.cells.map (At.den ε)).flatten.toArray l.length (Nat.zero_le _) (by
        refine maxLen_ok ?_
        have hpos := hT.pos
        have : l.length ≤ l.length * E.size := Nat.le_mul_of_pos_right _ hpos
        omega) (by simpa using hlen)
      simpa using this
end ops
end Go.Eng
