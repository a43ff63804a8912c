/- The engine, part H: a region whose order of evaluation Go leaves open: it is walked once, in the order of the text, each operation off what no unordered one touches; then it goes through in every order. -/
import Derived.Test.YtglbnodjcngefaaEngG
import Derived.OrdersIn
import Derived.KernelRfl
set_option linter.unusedSimpArgs false
set_option linter.unusedVariables false
namespace Go.Eng
open Go

/-- Of an operation in its region: the slots and keys that it must not lean on; the keys that it makes; those that it touches; operations that are surely ahead of it. -/
structure Rec where
  ds : List Nat
  dk : List Nat
  N : List Nat
  ks : List Nat
  pre : List Nat
def memb (k : Nat) : List Nat → Bool
  | [] => false
  | x :: t => bif Nat.beq x k then true else memb k t
theorem memb_iff {k : Nat} : ∀ {l : List Nat}, memb k l = true ↔ k ∈ l
  | [] => by simp [memb]
  | x :: t => by
    simp only [memb, List.mem_cons, cond_eq_ite]
    by_cases h : x = k
    · simp [h]
    · simp only [Nat.beq_eq, h, if_false, memb_iff (l := t)]
      constructor
      · exact .inr
      · intro h'
        rcases h' with rfl | h'
        · exact absurd rfl h
        · exact h'
def dropL {α : Type} (ds : List Nat) : List (Nat × α) → List (Nat × α)
  | [] => []
  | (k, x) :: t => bif memb k ds then dropL ds t else (k, x) :: dropL ds t
theorem look_dropL {α : Type} (ds : List Nat) (i : Nat) : ∀ l : List (Nat × α), look i (dropL ds l) = if i ∈ ds then none else look i l
  | [] => by simp [dropL, look]
  | (k, x) :: t => by
    have ih := look_dropL ds i t
    simp only [dropL]
    cases hm : memb k ds with
    | true =>
      rw [cond_true, ih, look_cons]
      by_cases hk : k = i
      · subst hk; simp [memb_iff.1 hm]
      · simp [hk]
    | false =>
      have hn : k ∉ ds := fun h => by rw [memb_iff.2 h] at hm; cases hm
      rw [cond_false, look_cons, look_cons, ih]
      by_cases hk : k = i
      · subst hk; simp [hn]
      · simp [hk]
def St.drop (S : St) (ds dk : List Nat) : St := ⟨S.n, dropL ds S.fr, dropL dk S.X, dropL dk S.L, S.D, S.G⟩

/-! ### States that look up the same -/
structure St.eqv (S T : St) : Prop where
  fr : ∀ i, look i S.fr = look i T.fr
  X : ∀ i, look i S.X = look i T.X
  L : ∀ i, look i S.L = look i T.L
  D : S.D = T.D
  G : ∀ i, look i S.G = look i T.G
theorem St.eqv.symm {S T : St} (h : S.eqv T) : T.eqv S := ⟨fun i => (h.fr i).symm, fun i => (h.X i).symm, fun i => (h.L i).symm, h.D.symm, fun i => (h.G i).symm⟩
theorem St.eqv.le {S T : St} (h : S.eqv T) : S.le T := ⟨fun i x hx => by rw [h.fr i]; exact hx, fun i x hx => by rw [h.X i]; exact hx, fun i x hx => by rw [h.L i]; exact hx, h.D.symm, fun i x hx => by rw [h.G i]; exact hx⟩
theorem fpOf_eqv {S T : St} (h : S.eqv T) (ε : Env) (u : U) : fpOf S ε u = fpOf T ε u := by
  funext b; simp only [fpOf, h.L]
theorem New.eqv {cx : Cx} {M : Nat → Prop} {S T : St} {ε ε' : Env} {I' : IH} {w w' : World} {u : U} (h : S.eqv T) (hn : New cx M S ε ε' I' w w' u) : New cx M T ε ε' I' w w' u :=
  ⟨hn.sv, hn.wX, hn.wG, hn.wL, hn.X, hn.L, fun k e he b hb => by rw [← fpOf_eqv h]; exact hn.foot k e he b hb, hn.sep, hn.ext⟩
theorem ROp.eqv {cx : Cx} {ops : Array Oper} {S T : St} {o : Oper} {u : U} (h : S.eqv T) (hr : ROp cx ops S o u) : ROp cx ops T o u := by
  intro M ε I a w next Q hs hN K
  refine hr M ε I a w next Q (SatM.le h.symm.le hs) hN fun ε' I' w' ht hn => ?_
  rw [fpOf_eqv h] at ht
  exact K ε' I' w' ht (hn.eqv h)
theorem St.eqv.drop {S T : St} (h : S.eqv T) (ds dk : List Nat) : (S.drop ds dk).eqv (T.drop ds dk) :=
  ⟨fun i => by simp only [St.drop, look_dropL, h.fr], fun i => by simp only [St.drop, look_dropL, h.X], fun i => by simp only [St.drop, look_dropL, h.L], h.D, h.G⟩
theorem St.eqv.app {S T : St} (h : S.eqv T) (m m' : Nat) (d : Option Nat) (u : U) : (S.app m d u).eqv (T.app m' d u) := by
  refine ⟨fun i => ?_, fun i => ?_, fun i => ?_, h.D, fun i => ?_⟩
  · cases d <;> simp only [St.app, look_cons, h.fr]
  · simp only [St.app, look_append, h.X]
  · simp only [St.app, look_append, h.L]
  · simp only [St.app, look_append, h.G]
theorem St.eqv.trans {S T V : St} (h : S.eqv T) (k : T.eqv V) : S.eqv V := ⟨fun i => (h.fr i).trans (k.fr i), fun i => (h.X i).trans (k.X i), fun i => (h.L i).trans (k.L i), h.D.trans k.D, fun i => (h.G i).trans (k.G i)⟩

/-- What is asked of an update: that it touches what its record says. -/
structure Fits (cx : Cx) (o : Oper) (r : Rec) (u : U) : Prop where
  N : u.N = r.N
  X : ∀ k R, look k u.X = some R → k ∈ r.ks
  L : ∀ k R, look k u.L = some R → k ∈ r.ks
  G : u.G = []
  d : ∀ i, o.dst = some i → i < cx.N
def DRQ (cx : Cx) (ops : Array Oper) (nf : Nat) : List (Oper × Rec) → St → (Exit → Act → World → Prop) → Prop
  | [], S, Q => EX cx { S with n := nf } .normal Q
  | (o, r) :: t, S, Q => ∃ u, ROp cx ops (S.drop r.ds r.dk) o u ∧ Fits cx o r u ∧ DRQ cx ops nf t (S.app S.n o.dst u) Q

theorem EX.eqv {cx : Cx} {S T : St} {e : Exit} {Q : Exit → Act → World → Prop} (h : S.eqv T) (hn : S.n = T.n) (hx : EX cx S e Q) : EX cx T e Q := fun ε I a w hs =>
  hx ε I a w (by unfold Sat; rw [hn]; exact SatM.le h.symm.le hs)
theorem DRQ.eqv {cx : Cx} {ops : Array Oper} {nf : Nat} {Q : Exit → Act → World → Prop} : ∀ {l : List (Oper × Rec)} {S T : St}, S.eqv T → DRQ cx ops nf l S Q → DRQ cx ops nf l T Q
  | [], S, T, h, hd => EX.eqv (S := { S with n := nf }) (T := { T with n := nf }) ⟨h.fr, h.X, h.L, h.D, h.G⟩ rfl hd
  | (o, r) :: t, S, T, h, ⟨u, h1, h2, h3⟩ => ⟨u, ROp.eqv (h.drop _ _) h1, h2, DRQ.eqv (h.app _ _ _ _) h3⟩

/-- Two operations of a region that touch nothing of each other's. -/
structure Ind (a : Oper) (ra : Rec) (o : Oper) (r : Rec) : Prop where
  d1 : ∀ i, a.dst = some i → i ∈ r.ds
  d2 : ∀ i, o.dst = some i → i ∈ ra.ds
  k1 : ∀ k ∈ ra.ks, k ∈ r.dk
  k2 : ∀ k ∈ r.ks, k ∈ ra.dk
  k3 : ∀ k ∈ ra.ks, k ∉ r.ks
  d3 : ∀ i, a.dst = some i → o.dst ≠ some i
theorem drop_app {cx : Cx} {a : Oper} {ra : Rec} {r : Rec} {u : U} (S : St) (m : Nat) (hf : Fits cx a ra u) (hd : ∀ i, a.dst = some i → i ∈ r.ds) (hk : ∀ k ∈ ra.ks, k ∈ r.dk) : ((S.app m a.dst u).drop r.ds r.dk).eqv (S.drop r.ds r.dk) := by
  refine ⟨fun i => ?_, fun i => ?_, fun i => ?_, rfl, fun i => ?_⟩
  · simp only [St.drop, look_dropL]
    by_cases hi : i ∈ r.ds
    · simp [hi]
    · simp only [hi, if_false]
      cases hdst : a.dst with
      | none => rfl
      | some d =>
        have : d ≠ i := fun e => hi (e ▸ hd d hdst)
        simp [St.app, look_cons, this]
  · simp only [St.drop, look_dropL, St.app, look_append]
    by_cases hi : i ∈ r.dk
    · simp [hi]
    · simp only [hi, if_false]
      cases hu : look i u.X with
      | none => simp
      | some R => exact absurd (hk i (hf.X i R hu)) hi
  · simp only [St.drop, look_dropL, St.app, look_append]
    by_cases hi : i ∈ r.dk
    · simp [hi]
    · simp only [hi, if_false]
      cases hu : look i u.L with
      | none => simp
      | some R => exact absurd (hk i (hf.L i R hu)) hi
  · simp only [St.drop, St.app, hf.G, List.nil_append]
theorem app_comm {cx : Cx} {a o : Oper} {ra r : Rec} {ua u : U} (S : St) (m m' m2 m2' : Nat) (ha : Fits cx a ra ua) (ho : Fits cx o r u) (hi : Ind a ra o r) :
    ((S.app m a.dst ua).app m' o.dst u).eqv ((S.app m2 o.dst u).app m2' a.dst ua) := by
  refine ⟨fun i => ?_, fun i => ?_, fun i => ?_, rfl, fun i => ?_⟩
  · cases hda : a.dst with
    | none => cases hdo : o.dst <;> simp [St.app, look_cons]
    | some d =>
      cases hdo : o.dst with
      | none => simp [St.app, look_cons]
      | some d' =>
        have hne : d ≠ d' := fun e => hi.d3 d hda (e ▸ hdo)
        simp only [St.app, look_cons]
        by_cases h1 : d' = i
        · have : d ≠ i := fun e => hne (e.trans h1.symm)
          simp [h1, this]
        · simp [h1]
  · simp only [St.app, look_append]
    cases h1 : look i u.X with
    | none => simp
    | some R =>
      cases h2 : look i ua.X with
      | none => simp
      | some R' => exact absurd (ho.X i R h1) (hi.k3 i (ha.X i R' h2))
  · simp only [St.app, look_append]
    cases h1 : look i u.L with
    | none => simp
    | some R =>
      cases h2 : look i ua.L with
      | none => simp
      | some R' => exact absurd (ho.L i R h1) (hi.k3 i (ha.L i R' h2))
  · simp only [St.app, ha.G, ho.G, List.nil_append]
/-- An operation on which nothing ahead of it bears may come first. -/
theorem DRQ.front {cx : Cx} {ops : Array Oper} {nf : Nat} {Q : Exit → Act → World → Prop} {o : Oper} {r : Rec} {B : List (Oper × Rec)} : ∀ {A : List (Oper × Rec)} {S : St}, DRQ cx ops nf (A ++ (o, r) :: B) S Q → (∀ p ∈ A, Ind p.1 p.2 o r) →
    ∃ u, ROp cx ops (S.drop r.ds r.dk) o u ∧ Fits cx o r u ∧ DRQ cx ops nf (A ++ B) (S.app S.n o.dst u) Q
  | [], S, h, _ => h
  | (a, ra) :: A, S, ⟨ua, h1, h2, h3⟩, hi => by
    obtain ⟨u, h4, h5, h6⟩ := DRQ.front (A := A) h3 (fun p hp => hi p (List.mem_cons_of_mem _ hp))
    have hia := hi (a, ra) List.mem_cons_self
    refine ⟨u, ROp.eqv (drop_app S _ h2 hia.d1 hia.k1) h4, h5, ua, ROp.eqv (drop_app S _ h5 hia.d2 hia.k2).symm h1, h2, ?_⟩
    exact DRQ.eqv (app_comm S _ _ _ _ h2 h5 hia) h6

/-! ### Every order -/
def dirs (ops : Array Oper) (j : Nat) : List Nat := match ops[j]? with
  | some o => (o.after.toList.filter (Region.binds .any ·)).map (·.on)
  | none => []
def indb (a : Oper) (ra : Rec) (o : Oper) (r : Rec) : Bool :=
  (match a.dst with | some i => memb i r.ds && (match o.dst with | some j => !(Nat.beq i j) | none => true) | none => true) &&
  (match o.dst with | some i => memb i ra.ds | none => true) &&
  ra.ks.all (fun k => memb k r.dk && !(memb k r.ks)) && r.ks.all (fun k => memb k ra.dk)
theorem Ind.of {a : Oper} {ra : Rec} {o : Oper} {r : Rec} (h : indb a ra o r = true) : Ind a ra o r := by
  simp only [indb, Bool.and_eq_true, List.all_eq_true, memb_iff, Bool.not_eq_true'] at h
  obtain ⟨⟨⟨h1, h2⟩, h3⟩, h4⟩ := h
  refine ⟨fun i hi => ?_, fun i hi => ?_, fun k hk => (h3 k hk).1, fun k hk => h4 k hk, fun k hk hk' => ?_, fun i hi hj => ?_⟩
  · rw [hi] at h1; simp only [Bool.and_eq_true, memb_iff] at h1; exact h1.1
  · rw [hi] at h2; exact memb_iff.1 h2
  · have := (h3 k hk).2; rw [memb_iff.2 hk'] at this; cases this
  · rw [hi, hj] at h1; simp at h1
/-- The check of a region's records: by reckoning. l: (place, operation, record), in the order of the text. -/
def chkPairs : List (Nat × Oper × Rec) → Bool
  | [] => true
  | (i, a, ra) :: t => t.all (fun p => memb i p.2.2.pre || indb a ra p.2.1 p.2.2) && t.all (fun p => ra.N.all (fun k => !(memb k p.2.2.N))) && chkPairs t
theorem Sat.drew {cx : Cx} {M : Nat → Prop} {ε : Env} {I : IH} {S : St} {a : Act} {w : World} (hs : SatM cx M ε I S a w) : SatM cx M ε I S a { w with drawn := w.drawn + 1 } :=
  { hs with
    L := fun k e he => by
      have := hs.L k e he
      cases e <;> first | exact this | exact XP.st (w := w) _ ⟨IH.le.rfl', hs.imm, rfl, rfl, rfl, Nat.le_refl _, fun _ _ _ => rfl, fun _ _ h => .inl h⟩ this
    keep := ⟨hs.keep.os, hs.keep.tape, hs.keep.output, hs.keep.size, hs.keep.block⟩ }

theorem pairs_ind : ∀ {l : List (Nat × Oper × Rec)}, chkPairs l = true → ∀ {A B : List (Nat × Oper × Rec)} {i : Nat} {o : Oper} {r : Rec}, l = A ++ (i, o, r) :: B →
    (∀ p ∈ A, (p.1 ∈ r.pre ∨ Ind p.2.1 p.2.2 o r) ∧ ∀ k ∈ p.2.2.N, k ∉ r.N) ∧ (∀ p ∈ B, ∀ k ∈ r.N, k ∉ p.2.2.N)
  | [], _, A, B, i, o, r, e => by cases A <;> cases e
  | (i0, a, ra) :: t, h, A, B, i, o, r, e => by
    simp only [chkPairs, Bool.and_eq_true, List.all_eq_true, Bool.or_eq_true, Bool.not_eq_true'] at h
    obtain ⟨⟨h1, h2⟩, h3⟩ := h
    cases A with
    | nil =>
      cases e
      refine ⟨fun p hp => (by cases hp), fun p hp k hk hk' => ?_⟩
      have := h2 p hp k hk
      rw [memb_iff.2 hk'] at this; cases this
    | cons x A =>
      rw [List.cons_append] at e
      injection e with e1 e2
      subst e1; subst e2
      obtain ⟨h4, h5⟩ := pairs_ind h3 rfl
      refine ⟨fun p hp => ?_, h5⟩
      rcases List.mem_cons.1 hp with rfl | hp
      · have hm : (i, o, r) ∈ A ++ (i, o, r) :: B := by simp
        refine ⟨?_, fun k hk hk' => ?_⟩
        · rcases h1 _ hm with h | h
          · exact .inl (memb_iff.1 h)
          · exact .inr (Ind.of h)
        · have := h2 _ hm k hk
          rw [memb_iff.2 hk'] at this; cases this
      · exact h4 p hp
theorem chkPairs_sub : ∀ {A B : List (Nat × Oper × Rec)} {x : Nat × Oper × Rec}, chkPairs (A ++ x :: B) = true → chkPairs (A ++ B) = true
  | [], B, (i, a, ra), h => by simp only [List.nil_append, chkPairs, Bool.and_eq_true] at h; exact h.2
  | (i, a, ra) :: A, B, x, h => by
    simp only [List.cons_append, chkPairs, Bool.and_eq_true, List.all_eq_true] at h ⊢
    obtain ⟨⟨h1, h2⟩, h3⟩ := h
    exact ⟨⟨fun p hp => h1 p (by simp at hp ⊢; rcases hp with hp | hp <;> simp [hp]), fun p hp => h2 p (by simp at hp ⊢; rcases hp with hp | hp <;> simp [hp])⟩, chkPairs_sub h3⟩

theorem ready_pre {ops : Array Oper} {listed : Array Bool} {recs : List Rec}
    (hcl : ∀ j o, ops[j]? = some o → listed.getD j true = true → ∀ c ∈ dirs ops j, listed.getD c false = true)
    (hpre : ∀ j r, recs[j]? = some r → j < ops.size → (∀ c ∈ dirs ops j, c < j) ∧ ∀ i ∈ r.pre, i ∈ dirs ops j ∨ ∃ c ∈ dirs ops j, ∃ r', recs[c]? = some r' ∧ i ∈ r'.pre) :
    ∀ (n j : Nat) (r : Rec), j < n → recs[j]? = some r → j < ops.size → (∀ c ∈ dirs ops j, listed.getD c false = true) → ∀ i ∈ r.pre, listed.getD i false = true := by
  intro n
  induction n with
  | zero => intro j r hj; omega
  | succ n ih =>
    intro j r hj hr hs hd i hi
    obtain ⟨h1, h2⟩ := hpre j r hr hs
    rcases h2 i hi with h | ⟨c, hc, r', hr', hi'⟩
    · exact hd i h
    · have hlt := h1 c hc
      have hcs : c < ops.size := by omega
      have hcl' : listed.getD c true = true := by
        have := hd c hc
        by_cases hcl : c < listed.size
        · simp only [Array.getD, hcl, dif_pos] at this ⊢; exact this
        · simp [Array.getD, hcl]
      exact ih c r' (by omega) hr' hcs (hcl c _ (Array.getElem?_eq_getElem hcs) hcl') i hi'

theorem mem_dirs {ops : Array Oper} {j : Nat} {o : Oper} (ho : ops[j]? = some o) {c : Nat} : c ∈ dirs ops j ↔ ∃ e ∈ o.after, Region.binds .any e = true ∧ e.on = c := by
  simp only [dirs, ho, List.mem_map, List.mem_filter, Array.mem_toList_iff, and_assoc]

structure DInv (ops : Array Oper) (recs : List Rec) (nf : Nat) (listed : Array Bool) (todo : List (Nat × Oper × Rec)) (M : Nat → Prop) : Prop where
  ch : chkPairs todo = true
  size : listed.size = ops.size
  at' : ∀ p ∈ todo, ops[p.1]? = some p.2.1 ∧ recs[p.1]? = some p.2.2
  un : ∀ j, j < ops.size → (listed.getD j true = false ↔ ∃ p ∈ todo, p.1 = j)
  nd : todo.Pairwise (fun p q => p.1 ≠ q.1)
  cl : ∀ j o, ops[j]? = some o → listed.getD j true = true → ∀ c ∈ dirs ops j, listed.getD c false = true
  pre : ∀ j r, recs[j]? = some r → j < ops.size → (∀ c ∈ dirs ops j, c < j) ∧ ∀ i ∈ r.pre, i ∈ dirs ops j ∨ ∃ c ∈ dirs ops j, ∃ r', recs[c]? = some r' ∧ i ∈ r'.pre
  N : ∀ p ∈ todo, ∀ k ∈ p.2.2.N, ¬ M k ∧ k < nf
  M : ∀ k, M k → k < nf

theorem getD_tf {listed : Array Bool} {c : Nat} (hc : c < listed.size) (d d' : Bool) : listed.getD c d = listed.getD c d' := by
  simp [Array.getD, hc]

theorem DInv.some_ready {ops : Array Oper} {recs : List Rec} {nf : Nat} {listed : Array Bool} {todo : List (Nat × Oper × Rec)} {M : Nat → Prop} (h : DInv ops recs nf listed todo M) :
    ∀ (n : Nat) (p : Nat × Oper × Rec), p.1 < n → p ∈ todo → Region.ready .any ops listed ≠ [] := by
  intro n
  induction n with
  | zero => intro p hp; omega
  | succ n ih =>
    intro p hp hpt
    obtain ⟨h1, h2⟩ := h.at' p hpt
    have hlt : p.1 < ops.size := (Array.getElem?_eq_some_iff.1 h1).1
    by_cases hall : ∀ c ∈ dirs ops p.1, listed.getD c false = true
    · intro he
      have : p.1 ∈ Region.ready .any ops listed := mem_ready.2 ⟨(h.un _ hlt).2 ⟨p, hpt, rfl⟩, p.2.1, h1, fun e he hb => hall _ ((mem_dirs h1).2 ⟨e, he, hb, rfl⟩)⟩
      rw [he] at this; cases this
    · simp only [Classical.not_forall] at hall
      obtain ⟨c, hc, hl⟩ := hall
      have hcl := (h.pre _ _ h2 hlt).1 c hc
      have hcs : c < ops.size := by omega
      have : listed.getD c true = false := by
        rw [getD_tf (by rw [h.size]; exact hcs) true false]; simpa using hl
      obtain ⟨q, hq, hqc⟩ := (h.un c hcs).1 this
      exact ih q (by omega) hq

theorem DRQ.any {cx : Cx} {ops : Array Oper} {nf : Nat} {Q : Exit → Act → World → Prop} {recs : List Rec} : ∀ (fuel : Nat) {listed : Array Bool} {todo : List (Nat × Oper × Rec)} {M : Nat → Prop} {S : St} {ε : Env} {I : IH} {a : Act} {w : World},
    DInv ops recs nf listed todo M → todo.length ≤ fuel → SatM cx M ε I S a w → DRQ cx ops nf (todo.map Prod.snd) S Q → wpAnyIn (fen cx.r) 0 cx.P .any ops Q fuel listed a w := by
  have hdone : ∀ {listed : Array Bool} {todo : List (Nat × Oper × Rec)} {M : Nat → Prop} {S : St} {ε : Env} {I : IH} {a : Act} {w : World},
      DInv ops recs nf listed todo M → SatM cx M ε I S a w → DRQ cx ops nf (todo.map Prod.snd) S Q → Region.ready .any ops listed = [] → Q .normal a w := by
    intro listed todo M S ε I a w hi hs hd he
    cases todo with
    | nil =>
      have hM : ∀ k, M k → k < nf := hi.M
      exact hd ε I a w (SatM.mono (M' := (· < nf)) hM ⟨hs.wfr, hs.wfX, hs.wfL, hs.wfD, hs.wfG, hs.G, hs.size, hs.defs, hs.fr, hs.X, hs.L, hs.foot, hs.sep, hs.imm, hs.keep, hs.le0, hs.fr0, hs.pin, hs.ext⟩)
    | cons p t => exact absurd he (hi.some_ready (p.1 + 1) p (Nat.lt_succ_self _) List.mem_cons_self)
  intro fuel
  induction fuel with
  | zero =>
    intro listed todo M S ε I a w hi hf hs hd
    have : todo = [] := List.length_eq_zero_iff.1 (by omega)
    subst this
    have hr : Region.ready .any ops listed = [] := by
      cases h : Region.ready .any ops listed with
      | nil => rfl
      | cons x t =>
        have hx : x ∈ Region.ready .any ops listed := by rw [h]; exact List.mem_cons_self
        obtain ⟨h0, o, ho, _⟩ := mem_ready.1 hx
        obtain ⟨p, hp, _⟩ := (hi.un x (Array.getElem?_eq_some_iff.1 ho).1).1 h0
        cases hp
    exact ⟨hr, hdone hi hs hd hr⟩
  | succ fuel ih =>
    intro listed todo M S ε I a w hi hf hs hd
    refine ⟨hdone hi hs hd, fun i hir => ?_⟩
    obtain ⟨h0, o, ho, hafter⟩ := mem_ready.1 hir
    have his : i < ops.size := (Array.getElem?_eq_some_iff.1 ho).1
    obtain ⟨p, hp, hpi⟩ := (hi.un i his).1 h0
    obtain ⟨pi, po, r⟩ := p
    simp only at hpi; subst hpi
    obtain ⟨ho', hr⟩ := hi.at' _ hp
    simp only at ho' hr
    rw [ho] at ho'; cases ho'
    obtain ⟨A, B, hAB⟩ := List.append_of_mem hp
    subst hAB
    obtain ⟨hA, hB⟩ := pairs_ind hi.ch rfl
    have hdl : ∀ c ∈ dirs ops pi, listed.getD c false = true := fun c hc => by
      obtain ⟨e, he, hb, rfl⟩ := (mem_dirs ho).1 hc
      exact hafter e he hb
    have hpl := ready_pre hi.cl hi.pre (pi + 1) pi r (Nat.lt_succ_self _) hr his hdl
    have hind : ∀ q ∈ A, Ind q.2.1 q.2.2 o r := fun q hq => by
      rcases (hA q hq).1 with h | h
      · exfalso
        have h1 := hpl q.1 h
        obtain ⟨h2, _⟩ := hi.at' q (List.mem_append_left _ hq)
        have hqs : q.1 < ops.size := (Array.getElem?_eq_some_iff.1 h2).1
        have h3 := (hi.un q.1 hqs).2 ⟨q, List.mem_append_left _ hq, rfl⟩
        rw [getD_tf (by rw [hi.size]; exact hqs) true false, h1] at h3
        cases h3
      · exact h
    rw [List.map_append, List.map_cons] at hd
    obtain ⟨u, h1, h2, h3⟩ := DRQ.front hd (fun q hq => by
      obtain ⟨q', hq', rfl⟩ := List.mem_map.1 hq
      exact hind q' hq')
    unfold wpOpIn
    simp only [ho]
    have hsub : (A ++ B).map Prod.snd = A.map Prod.snd ++ B.map Prod.snd := List.map_append
    have hdrop : S.le (S.drop r.ds r.dk) := ⟨fun i x hx => by
      rw [St.drop, look_dropL] at hx; split at hx; exact absurd hx (by simp); exact hx, fun i x hx => by
      rw [St.drop, look_dropL] at hx; split at hx; exact absurd hx (by simp); exact hx, fun i x hx => by
      rw [St.drop, look_dropL] at hx; split at hx; exact absurd hx (by simp); exact hx, rfl, fun i x hx => hx⟩
    have hNM : ∀ k ∈ u.N, ¬ M k := fun k hk => (hi.N _ hp k (by rw [h2.N] at hk; exact hk)).1
    refine h1 M ε I a w _ Q (SatM.le hdrop hs) hNM fun ε' I' w' ht hn => ?_
    refine ih (listed := listed.setIfInBounds pi true) (todo := A ++ B) (M := fun k => M k ∨ k ∈ u.N) (S := S.app S.n o.dst u) (ε := ε') (I := I') ?_ ?_ (SatM.app S.n hs hdrop hNM h2.d ht hn) (by rw [hsub]; exact h3)
    · have hmem : ∀ q ∈ A ++ B, q ∈ A ++ (pi, o, r) :: B := fun q hq => by
        rcases List.mem_append.1 hq with h | h
        · exact List.mem_append_left _ h
        · exact List.mem_append_right _ (List.mem_cons_of_mem _ h)
      have hnd := hi.nd
      have hne : ∀ q ∈ A ++ B, q.1 ≠ pi := fun q hq => by
        rw [List.pairwise_append] at hnd
        rcases List.mem_append.1 hq with h | h
        · exact hnd.2.2 q h _ List.mem_cons_self
        · exact fun e => (List.pairwise_cons.1 hnd.2.1).1 q h e.symm
      refine { ch := chkPairs_sub hi.ch, size := by simp [hi.size], at' := fun q hq => hi.at' q (hmem q hq), un := fun j hj => ?_, nd := ?_, cl := fun j oj hoj hl c hc => ?_, pre := hi.pre, N := fun q hq k hk => ⟨?_, (hi.N q (hmem q hq) k hk).2⟩, M := fun k hk => ?_ }
      · by_cases hj' : pi = j
        · subst hj'
          rw [show (listed.setIfInBounds pi true).getD pi true = true from by simp [hi.size]]
          simp only [Bool.true_eq_false, false_iff, not_exists, not_and]
          exact fun q hq => hne q hq
        · rw [getD_set_ne true hj', hi.un j hj]
          constructor
          · rintro ⟨q, hq, rfl⟩
            rcases List.mem_append.1 hq with h | h
            · exact ⟨q, List.mem_append_left _ h, rfl⟩
            · rcases List.mem_cons.1 h with rfl | h
              · exact absurd rfl hj'
              · exact ⟨q, List.mem_append_right _ h, rfl⟩
          · rintro ⟨q, hq, rfl⟩; exact ⟨q, hmem q hq, rfl⟩
      · exact List.Pairwise.sublist (List.Sublist.append_left (List.sublist_cons_self _ _) A) hnd
      · refine getD_set_true ?_
        by_cases hj' : pi = j
        · subst hj'; exact hdl c hc
        · rw [getD_set_ne true hj'] at hl
          exact hi.cl j oj hoj hl c hc
      · rintro (h | h)
        · exact (hi.N q (hmem q hq) k hk).1 h
        · rw [h2.N] at h
          rcases List.mem_append.1 hq with hqA | hqB
          · exact (hA q hqA).2 k hk h
          · exact hB q hqB k h hk
      · rcases hk with hk | hk
        · exact hi.M k hk
        · exact (hi.N _ hp k (by rw [h2.N] at hk; exact hk)).2
    · simp only [List.length_append, List.length_cons] at hf ⊢; omega

def zipI {α β : Type} : Nat → List α → List β → List (Nat × α × β)
  | i, a :: s, b :: t => (i, a, b) :: zipI (i + 1) s t
  | _, _, _ => []
theorem mem_zipI {α β : Type} {p : Nat × α × β} : ∀ {i : Nat} {s : List α} {t : List β}, p ∈ zipI i s t → i ≤ p.1 ∧ s[p.1 - i]? = some p.2.1 ∧ t[p.1 - i]? = some p.2.2
  | i, a :: s, b :: t, h => by
    rcases List.mem_cons.1 h with rfl | h
    · simp
    · obtain ⟨h1, h2, h3⟩ := mem_zipI h
      refine ⟨by omega, ?_, ?_⟩
      · rw [show p.1 - i = (p.1 - (i + 1)) + 1 by omega]; exact h2
      · rw [show p.1 - i = (p.1 - (i + 1)) + 1 by omega]; exact h3
  | _, [], _, h => by cases h
  | _, _ :: _, [], h => by cases h
theorem zipI_mem {α β : Type} : ∀ {i j : Nat} {s : List α} {t : List β}, s.length = t.length → j < s.length → ∃ p ∈ zipI i s t, p.1 = i + j
  | i, 0, a :: s, b :: t, _, _ => ⟨_, List.mem_cons_self, rfl⟩
  | i, j + 1, a :: s, b :: t, hl, hj => by
    obtain ⟨p, hp, he⟩ := zipI_mem (i := i + 1) (j := j) (s := s) (t := t) (by simpa using hl) (by simpa using hj)
    exact ⟨p, List.mem_cons_of_mem _ hp, by omega⟩
  | _, _, [], _, _, hj => by cases hj
  | _, _, _ :: _, [], hl, _ => by cases hl
theorem zipI_nd {α β : Type} : ∀ {i : Nat} {s : List α} {t : List β}, (zipI i s t).Pairwise (fun p q => p.1 ≠ q.1)
  | i, a :: s, b :: t => by
    refine List.pairwise_cons.2 ⟨fun q hq => ?_, zipI_nd⟩
    have := (mem_zipI hq).1
    show i ≠ q.1
    omega
  | _, [], _ => List.Pairwise.nil
  | _, _ :: _, [] => List.Pairwise.nil
theorem zipI_map {α β : Type} : ∀ {i : Nat} {s : List α} {t : List β}, (zipI i s t).map Prod.snd = s.zip t
  | i, a :: s, b :: t => by simp [zipI, zipI_map]
  | _, [], _ => rfl
  | _, _ :: _, [] => rfl
def chkR (ops : List Oper) (recs : List Rec) (n0 nf : Nat) : Bool :=
  Nat.beq recs.length ops.length && Nat.ble n0 nf && chkPairs (zipI 0 ops recs) &&
  (zipI 0 ops recs).all (fun p => (dirs ops.toArray p.1).all (Nat.blt · p.1) && p.2.2.N.all (fun k => Nat.ble n0 k && Nat.blt k nf) &&
    p.2.2.pre.all (fun i => memb i (dirs ops.toArray p.1) || (dirs ops.toArray p.1).any (fun c => match recs[c]? with | some r => memb i r.pre | none => false)))
/-- **A region in whatever order**: the records are checked by reckoning, the operations one by one in the order of the text. -/
theorem WP.draw {cx : Cx} {S : St} {Q : Exit → Act → World → Prop} {id nf : Nat} {ops : List Oper} (recs : List Rec) (hm : cx.P.follows .mixedOrders = true) (hc : chkR ops recs S.n nf = true)
    (h : DRQ cx ops.toArray nf (ops.zip recs) S Q) : WP cx S (.region id ops.toArray true) Q := by
  intro ε I a w hs
  simp only [chkR, Bool.and_eq_true, List.all_eq_true, Nat.beq_eq, Nat.ble_eq, Nat.blt_eq, Bool.or_eq_true, memb_iff, List.any_eq_true] at hc
  obtain ⟨⟨⟨h1, h2⟩, h3⟩, h4⟩ := hc
  refine wpIn_region_any hm (DRQ.any (recs := recs) (todo := zipI 0 ops recs) (M := (· < S.n)) _ ?_ ?_ (Sat.drew hs) (by rw [zipI_map]; exact h))
  · refine { ch := h3, size := by simp, at' := fun p hp => ?_, un := fun j hj => ?_, nd := zipI_nd, cl := fun j o ho hl => ?_, pre := fun j r hr hj => ?_, N := fun p hp k hk => ?_, M := fun k hk => Nat.lt_of_lt_of_le hk h2 }
    · obtain ⟨_, h5, h6⟩ := mem_zipI hp
      exact ⟨by simpa using h5, by simpa using h6⟩
    · have hj' : j < ops.length := by simpa using hj
      obtain ⟨p, hp, he⟩ := zipI_mem (i := 0) h1.symm hj'
      constructor
      · intro _; exact ⟨p, hp, by omega⟩
      · intro _; simp [Array.getD, hj']
    · exfalso
      have hj' : j < ops.length := by
        have := (Array.getElem?_eq_some_iff.1 ho).1; simpa using this
      simp [Array.getD, hj'] at hl
    · have hj' : j < ops.length := by simpa using hj
      obtain ⟨p, hp, he⟩ := zipI_mem (i := 0) h1.symm hj'
      simp only [Nat.zero_add] at he; subst he
      obtain ⟨⟨h5, _⟩, h6⟩ := h4 p hp
      have hr' : recs[p.1]? = some p.2.2 := by simpa using (mem_zipI hp).2.2
      rw [hr] at hr'; cases hr'
      refine ⟨h5, fun i hi => ?_⟩
      rcases h6 i hi with h | ⟨c, hc, h⟩
      · exact .inl h
      · refine .inr ⟨c, hc, ?_⟩
        cases hrc : recs[c]? with
        | none => rw [hrc] at h; cases h
        | some r' => rw [hrc] at h; exact ⟨r', rfl, memb_iff.1 h⟩
    · obtain ⟨⟨_, h5⟩, _⟩ := h4 p hp
      have := h5 k hk
      exact ⟨by show ¬ k < S.n; omega, this.2⟩
  · have : ∀ (i : Nat) (s : List Oper) (t : List Rec), (zipI i s t).length ≤ s.length := by
      intro i s
      induction s generalizing i with
      | nil => intro t; cases t <;> simp [zipI]
      | cons a s ih => intro t; cases t with
        | nil => simp [zipI]
        | cons b t => simp only [zipI, List.length_cons]; have := ih (i + 1) t; omega
    simpa using this 0 ops recs
end Go.Eng
