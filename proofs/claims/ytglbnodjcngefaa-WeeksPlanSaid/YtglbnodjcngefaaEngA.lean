/- The engine, part A: symbolic states (slots, facts, ledger) and what it means that a world satisfies one; how a satisfied state is carried over a step. No program in sight. -/
import Derived.WalkKit
import Derived.TacticsIn
import Derived.RangeFuncIn
import Derived.RangeFuncLeaves
set_option linter.unusedSimpArgs false
set_option linter.unusedVariables false
namespace Go.Eng
open Go

/-- What is known of memory that no longer turns: block to object. -/
abbrev IH := Nat → Option Obj
def IH.le (I I' : IH) : Prop := ∀ b o, I b = some o → I' b = some o
def IH.on (I : IH) (w : World) : Prop := ∀ b o, I b = some o → w.heap[b]? = some o
def IH.cell (I : IH) (a : Addr) : Option Value :=
  match I a.block with
  | some (.cells c _ _) => if a.spot.isSome then none else c[a.off]?
  | _ => none

theorem IH.le.rfl' {I : IH} : I.le I := fun _ _ h => h
theorem IH.le.trans {I J K : IH} (h : I.le J) (k : J.le K) : I.le K := fun b o hb => k b o (h b o hb)
theorem IH.cell_mono {I I' : IH} (h : I.le I') {a : Addr} {v : Value} (hc : I.cell a = some v) : I'.cell a = some v := by
  unfold IH.cell at *
  cases hb : I a.block with
  | none => simp [hb] at hc
  | some o => rw [h _ _ hb]; rw [hb] at hc; exact hc
theorem IH.cell_on {I : IH} {w : World} (h : I.on w) {a : Addr} {v : Value} (hc : I.cell a = some v) : w.cell? a = some v := by
  unfold IH.cell at hc
  unfold World.cell?
  cases hb : I a.block with
  | none => simp [hb] at hc
  | some o => rw [h _ _ hb]; rw [hb] at hc; exact hc
/-- All memory that lies in a world. -/
def World.all (w : World) : IH := fun b => w.heap[b]?
theorem World.all_on (w : World) : IH.on (World.all w) w := fun _ _ h => h

/-- A word on a value that leans on settled memory alone. -/
structure Pred where
  h : IH → Value → Prop
  mono : ∀ {I I' : IH} {v : Value}, I.le I' → h I v → h I' v
/-- A word on a list of cells. -/
structure LPred where
  h : IH → List Value → Prop
  mono : ∀ {I I' : IH} {xs : List Value}, I.le I' → h I xs → h I' xs

structure Env where
  β : Nat → Nat
  ν : Nat → Value
  γ : Nat → Bool

/-- The pointer n cells behind a pointer, or behind a slice's first cell. -/
def padd (v : Value) (n : Nat) : Value :=
  match v with
  | .slice (some a) _ _ => .pointer (some (a.add n))
  | .pointer (some a) => .pointer (some (a.add n))
  | _ => undef

inductive At where
  | v (y : Value)
  | q (j : Nat)
  | p (k o : Nat)
  | e (j o : Nat)
  | s (k n : Nat)
  | f (fn : FuncId) (js : List Nat)
def At.den (ε : Env) : At → Value
  | .v y => y
  | .q j => ε.ν j
  | .p k o => .pointer (some ⟨ε.β k, o, none⟩)
  | .e j o => padd (ε.ν j) o
  | .s k n => .slice (some ⟨ε.β k, 0, none⟩) n n
  | .f fn js => .func (.func fn) #[] (js.map ε.ν).toArray
def At.on (M : Nat → Prop) : At → Prop
  | .v _ => True
  | .q j => M j
  | .p k _ => M k
  | .e j _ => M j
  | .s k _ => M k
  | .f _ js => ∀ j ∈ js, M j
inductive El where
  | a (x : At)
  | g (l : List At)
def El.den (ε : Env) : El → Value
  | .a x => x.den ε
  | .g l => .agg (l.map (At.den ε)).toArray
def El.on (M : Nat → Prop) : El → Prop
  | .a x => x.on M
  | .g l => ∀ x ∈ l, x.on M
inductive SV where
  | e (x : El)
  | t (l : List El)
  | c (g : Nat) (x : El)
def SV.den (ε : Env) : SV → Value
  | .e x => x.den ε
  | .t l => .tuple (l.map (El.den ε)).toArray
  | .c g x => bif ε.γ g then x.den ε else undef
def SV.on (γ : Nat → Bool) (M : Nat → Prop) : SV → Prop
  | .e x => x.on M
  | .t l => ∀ x ∈ l, x.on M
  | .c g x => M g ∧ (γ g = true → x.on M)

def Env.agree (M : Nat → Prop) (ε ε' : Env) : Prop := ∀ k, M k → ε'.β k = ε.β k ∧ ε'.ν k = ε.ν k ∧ ε'.γ k = ε.γ k
theorem Env.agree.refl {M : Nat → Prop} {ε : Env} : Env.agree M ε ε := fun _ _ => ⟨rfl, rfl, rfl⟩

theorem At.den_agree {M : Nat → Prop} {ε ε' : Env} (h : Env.agree M ε ε') : ∀ {x : At}, x.on M → x.den ε' = x.den ε
  | .v _, _ => rfl
  | .q j, hx => (h j hx).2.1
  | .p k _, hx => by simp only [At.den, (h k hx).1]
  | .e j _, hx => by simp only [At.den, (h j hx).2.1]
  | .s k _, hx => by simp only [At.den, (h k hx).1]
  | .f _ js, hx => by
    simp only [At.den]
    rw [List.map_congr_left (fun j hj => (h j (hx j hj)).2.1)]
theorem El.den_agree {M : Nat → Prop} {ε ε' : Env} (h : Env.agree M ε ε') : ∀ {x : El}, x.on M → x.den ε' = x.den ε
  | .a _, hx => At.den_agree h hx
  | .g l, hx => by
    simp only [El.den]
    rw [List.map_congr_left (fun j hj => At.den_agree h (hx j hj))]
theorem SV.den_agree {M : Nat → Prop} {ε ε' : Env} (h : Env.agree M ε ε') : ∀ {x : SV}, x.on ε.γ M → x.den ε' = x.den ε
  | .e _, hx => El.den_agree h hx
  | .t l, hx => by
    simp only [SV.den]
    rw [List.map_congr_left (fun j hj => El.den_agree h (hx j hj))]
  | .c g y, hx => by
    simp only [SV.den, (h g hx.1).2.2]
    cases hg : ε.γ g with
    | false => rfl
    | true => simp only [cond_true]; exact El.den_agree h (hx.2 hg)

theorem At.on_mono {M M' : Nat → Prop} (h : ∀ k, M k → M' k) : ∀ {x : At}, x.on M → x.on M'
  | .v _, _ => trivial
  | .q _, hx => h _ hx
  | .p _ _, hx => h _ hx
  | .e _ _, hx => h _ hx
  | .s _ _, hx => h _ hx
  | .f _ _, hx => fun j hj => h _ (hx j hj)
theorem El.on_mono {M M' : Nat → Prop} (h : ∀ k, M k → M' k) : ∀ {x : El}, x.on M → x.on M'
  | .a _, hx => At.on_mono h hx
  | .g _, hx => fun x hx' => At.on_mono h (hx x hx')
theorem SV.on_mono {γ : Nat → Bool} {M M' : Nat → Prop} (h : ∀ k, M k → M' k) : ∀ {x : SV}, x.on γ M → x.on γ M'
  | .e _, hx => El.on_mono h hx
  | .t _, hx => fun x hx' => El.on_mono h (hx x hx')
  | .c _ _, hx => ⟨h _ hx.1, fun hg => El.on_mono h (hx.2 hg)⟩
theorem SV.on_agree {M : Nat → Prop} {ε ε' : Env} (h : Env.agree M ε ε') : ∀ {x : SV}, x.on ε.γ M → x.on ε'.γ M
  | .e _, hx => hx
  | .t _, hx => hx
  | .c g _, hx => ⟨hx.1, fun hg => hx.2 (by rw [← (h g hx.1).2.2]; exact hg)⟩

/-- What holds of a world between two steps of somebody else: of Rd and of F nothing is turned; nothing below n1 and of F is settled. -/
structure Stab (n1 : Nat) (Rd F : Nat → Prop) (I I' : IH) (w w' : World) : Prop where
  le : I.le I'
  on : I'.on w'
  os : w'.os = w.os
  tape : w'.tape = w.tape
  output : w'.output = w.output
  size : w.heap.size ≤ w'.heap.size
  block : ∀ b, b < w.heap.size → Rd b ∨ F b → w'.heap[b]? = w.heap[b]?
  fresh : ∀ b o, I' b = some o → I b = some o ∨ (n1 ≤ b ∧ ¬ F b)
/-- A word on memory that others turn: kept as long as nobody touches F. -/
structure XP where
  n1 : Nat
  Rd : Nat → Prop
  F : Nat → Prop
  J : IH → World → Prop
  st : ∀ {I I' : IH} {w w' : World}, Stab n1 Rd F I I' w w' → J I w → J I' w'
/-- An entry of the ledger: memory of the call's own that still turns. -/
inductive Ent where
  | blk (cs : List At) (T : TypeId)
  | own (T : TypeId) (size n : Nat) (R : LPred)
  | ob (o : Obj)
  | ext (x : XP)
  | dead
def Ent.ok (ε : Env) (I : IH) (w : World) (k : Nat) : Ent → Prop
  | .blk cs T => w.heap[ε.β k]? = some (.cells (cs.map (At.den ε)).toArray T (0, 0))
  | .own T size n R => ∃ xs, w.ownsRow 0 T size (ε.ν k) n xs ∧ R.h I xs
  | .ob o => w.heap[ε.β k]? = some o
  | .ext x => x.J I w
  | .dead => True
def Ent.foot (ε : Env) (k : Nat) : Ent → Nat → Prop
  | .blk _ _, b => b = ε.β k
  | .own _ _ _ _, b => (ε.ν k).ownBlock = some b
  | .ob _, b => b = ε.β k
  | .ext x, b => x.F b
  | .dead, _ => False
def Ent.on (M : Nat → Prop) : Ent → Prop
  | .blk cs _ => ∀ c ∈ cs, c.on M
  | _ => True

def look {α : Type} (i : Nat) : List (Nat × α) → Option α
  | [] => none
  | (k, x) :: t => bif Nat.beq k i then some x else look i t

theorem look_cons {α : Type} (i k : Nat) (x : α) (t : List (Nat × α)) : look i ((k, x) :: t) = if k = i then some x else look i t := by
  simp only [look, cond_eq_ite]
  by_cases h : k = i <;> simp [h]
theorem look_append {α : Type} (i : Nat) : ∀ (s t : List (Nat × α)), look i (s ++ t) = (look i s).or (look i t)
  | [], t => by simp [look]
  | (k, x) :: s, t => by
    rw [List.cons_append, look_cons, look_cons, look_append i s t]
    by_cases h : k = i <;> simp [h]
theorem look_mem {α : Type} {i : Nat} {x : α} : ∀ {t : List (Nat × α)}, look i t = some x → (i, x) ∈ t
  | (k, y) :: t, h => by
    rw [look_cons] at h
    by_cases hk : k = i
    · subst hk; simp at h; subst h; exact List.mem_cons_self
    · simp [hk] at h; exact List.mem_cons_of_mem _ (look_mem h)

structure St where
  n : Nat
  fr : List (Nat × SV)
  X : List (Nat × Pred)
  L : List (Nat × Ent)
  D : List Nat
  G : List (Nat × Bool)

structure Cx where
  P : Program
  r : Option Nat
  w0 : World
  N : Nat
  E : Nat → Prop
  I0 : IH
  nB : Nat
  pβ : Nat → Nat
  pν : Nat → Value

def fen (r : Option Nat) : Fence := { Fence.wide with round := r }

structure Keep (E : Nat → Prop) (w w' : World) : Prop where
  os : w'.os = w.os
  tape : w'.tape = w.tape
  output : w'.output = w.output
  size : w.heap.size ≤ w'.heap.size
  block : ∀ b, b < w.heap.size → ¬ E b → w'.heap[b]? = w.heap[b]?
theorem Keep.refl {E : Nat → Prop} (w : World) : Keep E w w := ⟨rfl, rfl, rfl, Nat.le_refl _, fun _ _ _ => rfl⟩
theorem Keep.trans {E : Nat → Prop} {a b c : World} (h : Keep E a b) (k : Keep E b c) : Keep E a c :=
  ⟨k.os.trans h.os, k.tape.trans h.tape, k.output.trans h.output, Nat.le_trans h.size k.size,
   fun i hi he => (k.block i (Nat.lt_of_lt_of_le hi h.size) he).trans (h.block i hi he)⟩
theorem Keep.mono {E E' : Nat → Prop} {a b : World} (h : Keep E a b) (k : ∀ i, i < a.heap.size → E i → E' i) : Keep E' a b :=
  ⟨h.os, h.tape, h.output, h.size, fun i hi he => h.block i hi (fun e => he (k i hi e))⟩
def Emp : Nat → Prop := fun _ => False

def markOf (β : Nat → Nat) (k : Nat) : Deferred := { target := .collected (β k), args := #[] }

structure SatM (cx : Cx) (M : Nat → Prop) (ε : Env) (I : IH) (S : St) (a : Act) (w : World) : Prop where
  wfr : ∀ i x, look i S.fr = some x → x.on ε.γ M
  wfX : ∀ j R, look j S.X = some R → M j
  wfL : ∀ k e, look k S.L = some e → M k ∧ e.on M
  wfD : ∀ k ∈ S.D, M k
  wfG : ∀ g b, look g S.G = some b → M g
  G : ∀ g b, look g S.G = some b → ε.γ g = b
  size : a.tmps.size = cx.N
  defs : a.defers = S.D.map (markOf ε.β)
  fr : ∀ i x, look i S.fr = some x → a.tmps[i]? = some (x.den ε)
  X : ∀ j R, look j S.X = some R → R.h I (ε.ν j)
  L : ∀ k e, look k S.L = some e → e.ok ε I w k
  foot : ∀ k e, look k S.L = some e → ∀ b, e.foot ε k b → (cx.w0.heap.size ≤ b ∨ cx.E b) ∧ b < w.heap.size ∧ I b = none
  sep : ∀ k k' e e' b, look k S.L = some e → look k' S.L = some e' → k ≠ k' → e.foot ε k b → ¬ e'.foot ε k' b
  imm : I.on w
  keep : Keep cx.E cx.w0 w
  le0 : cx.I0.le I
  fr0 : ∀ b o, I b = some o → cx.I0 b = some o ∨ cx.w0.heap.size ≤ b
  pin : ∀ k, k < cx.nB → M k ∧ ε.β k = cx.pβ k ∧ ε.ν k = cx.pν k
  ext : ∀ k x, look k S.L = some (.ext x) → x.n1 ≤ cx.w0.heap.size ∧ ∀ b, x.Rd b → b < cx.w0.heap.size ∧ (cx.E b → x.F b)

def Sat (cx : Cx) (ε : Env) (I : IH) (S : St) (a : Act) (w : World) : Prop := SatM cx (· < S.n) ε I S a w

theorem SatM.mono {cx : Cx} {M M' : Nat → Prop} {ε : Env} {I : IH} {S : St} {a : Act} {w : World} (hM : ∀ k, M k → M' k) (h : SatM cx M ε I S a w) : SatM cx M' ε I S a w :=
  { h with
    wfr := fun i x hx => SV.on_mono hM (h.wfr i x hx)
    wfX := fun j R hR => hM _ (h.wfX j R hR)
    wfL := fun k e he => ⟨hM _ (h.wfL k e he).1, by
      have := (h.wfL k e he).2
      cases e <;> first | exact trivial | exact fun c hc => At.on_mono hM (this c hc)⟩
    wfD := fun k hk => hM _ (h.wfD k hk)
    wfG := fun g b hg => hM _ (h.wfG g b hg)
    pin := fun k hk => ⟨hM _ (h.pin k hk).1, (h.pin k hk).2⟩ }

/-- A lesser state: what it looks up, the greater one does. -/
structure St.le (S S' : St) : Prop where
  fr : ∀ i x, look i S'.fr = some x → look i S.fr = some x
  X : ∀ i x, look i S'.X = some x → look i S.X = some x
  L : ∀ i x, look i S'.L = some x → look i S.L = some x
  D : S'.D = S.D
  G : ∀ i x, look i S'.G = some x → look i S.G = some x

theorem SatM.le {cx : Cx} {M : Nat → Prop} {ε : Env} {I : IH} {S S' : St} {a : Act} {w : World} (hl : S.le S') (h : SatM cx M ε I S a w) : SatM cx M ε I S' a w :=
  { h with
    wfr := fun i x hx => h.wfr i x (hl.fr i x hx)
    wfX := fun j R hR => h.wfX j R (hl.X j R hR)
    wfL := fun k e he => h.wfL k e (hl.L k e he)
    wfD := fun k hk => h.wfD k (hl.D ▸ hk)
    wfG := fun g b hg => h.wfG g b (hl.G g b hg)
    G := fun g b hg => h.G g b (hl.G g b hg)
    defs := by rw [hl.D]; exact h.defs
    fr := fun i x hx => h.fr i x (hl.fr i x hx)
    X := fun j R hR => h.X j R (hl.X j R hR)
    L := fun k e he => h.L k e (hl.L k e he)
    foot := fun k e he => h.foot k e (hl.L k e he)
    sep := fun k k' e e' b he he' => h.sep k k' e e' b (hl.L k e he) (hl.L k' e' he')
    ext := fun k x hx => h.ext k x (hl.L k _ hx) }

/-- What an operation turns: its slot's value, new keys, new facts, new (or turned) entries. -/
structure U where
  sv : SV
  N : List Nat
  X : List (Nat × Pred)
  L : List (Nat × Ent)
  G : List (Nat × Bool)
def U.val (sv : SV) : U := ⟨sv, [], [], [], []⟩
def St.app (S : St) (m : Nat) (d : Option Nat) (u : U) : St :=
  { n := m, fr := (match d with | some d => (d, u.sv) :: S.fr | none => S.fr), X := u.X ++ S.X, L := u.L ++ S.L, D := S.D, G := u.G ++ S.G }

/-- The blocks of the entries that an update lays over. -/
def fpOf (S : St) (ε : Env) (u : U) (b : Nat) : Prop := ∃ k e, (look k u.L).isSome = true ∧ look k S.L = some e ∧ e.foot ε k b

/-- A step of the world. -/
structure Tr (n0 : Nat) (ε ε' : Env) (I I' : IH) (w w' : World) (N : List Nat) (fp : Nat → Prop) : Prop where
  ag : ∀ k, k ∉ N → ε'.β k = ε.β k ∧ ε'.ν k = ε.ν k ∧ ε'.γ k = ε.γ k
  le : I.le I'
  imm : I'.on w'
  os : w'.os = w.os
  tape : w'.tape = w.tape
  output : w'.output = w.output
  size : w.heap.size ≤ w'.heap.size
  block : ∀ b, b < w.heap.size → ¬ fp b → w'.heap[b]? = w.heap[b]?
  fresh : ∀ b o, I' b = some o → I b = some o ∨ w.heap.size ≤ b ∨ (fp b ∧ n0 ≤ b)

structure New (cx : Cx) (M : Nat → Prop) (S : St) (ε ε' : Env) (I' : IH) (w w' : World) (u : U) : Prop where
  sv : u.sv.on ε'.γ (fun k => M k ∨ k ∈ u.N)
  wX : ∀ j R, look j u.X = some R → M j ∨ j ∈ u.N
  wG : ∀ g b, look g u.G = some b → (M g ∨ g ∈ u.N) ∧ ε'.γ g = b
  wL : ∀ k e, look k u.L = some e → (M k ∨ k ∈ u.N) ∧ e.on (fun k => M k ∨ k ∈ u.N)
  X : ∀ j R, look j u.X = some R → R.h I' (ε'.ν j)
  L : ∀ k e, look k u.L = some e → e.ok ε' I' w' k
  foot : ∀ k e, look k u.L = some e → ∀ b, e.foot ε' k b → (cx.w0.heap.size ≤ b ∨ cx.E b) ∧ b < w'.heap.size ∧ I' b = none ∧ (w.heap.size ≤ b ∨ fpOf S ε u b)
  sep : ∀ k k' e e' b, look k u.L = some e → look k' u.L = some e' → k ≠ k' → e.foot ε' k b → ¬ e'.foot ε' k' b
  ext : ∀ k x, look k u.L = some (.ext x) → x.n1 ≤ cx.w0.heap.size ∧ ∀ b, x.Rd b → b < cx.w0.heap.size ∧ (cx.E b → x.F b)

/-- **An operation's contract, small**: from whatever world satisfies S it goes through, and its update is what is said. -/
def OpG (cx : Cx) (S : St) (o : Oper) (u : U) : Prop :=
  ∀ (M : Nat → Prop) (ε : Env) (I : IH) (a : Act) (w : World) (next : Act → World → Prop) (Q : Exit → Act → World → Prop), SatM cx M ε I S a w → (∀ k ∈ u.N, ¬ M k) →
    (∀ ε' I' w', Tr cx.w0.heap.size ε ε' I I' w w' u.N (fpOf S ε u) → New cx M S ε ε' I' w w' u → next (a.put o.dst (u.sv.den ε')) w') →
    o.wpIn (fen cx.r) 0 cx.P a w next Q

theorem Ent.ok_kept {ε ε' : Env} {I I' : IH} {w w' : World} {M : Nat → Prop} (hag : Env.agree M ε ε') (hI : I.le I') {k : Nat} {e : Ent} (hk : M k) (he : e.on M) (h : e.ok ε I w k)
    (hb : ∀ b, e.foot ε k b → w'.heap[b]? = w.heap[b]?) (hx : ∀ x, e = .ext x → Stab x.n1 x.Rd x.F I I' w w') : e.ok ε' I' w' k := by
  cases e with
  | blk cs T =>
    simp only [Ent.ok] at h ⊢
    rw [(hag k hk).1, hb _ rfl, h, List.map_congr_left (fun c hc => At.den_agree hag (he c hc))]
  | own T size n R =>
    obtain ⟨xs, h1, h2⟩ := h
    refine ⟨xs, ?_, R.mono hI h2⟩
    rw [(hag k hk).2.1]
    obtain ⟨hl, h1⟩ := h1
    refine ⟨hl, ?_⟩
    rcases h1 with h1 | ⟨g, cap, cur, hv, hg, hh, r⟩
    · exact .inl h1
    · exact .inr ⟨g, cap, cur, hv, hg, by rw [hb g (by simp [Ent.foot, hv, Value.ownBlock])]; exact hh, r⟩
  | ob o => simp only [Ent.ok] at h ⊢; rw [(hag k hk).1, hb _ rfl, h]
  | ext x => exact x.st (hx x rfl) h
  | dead => trivial
theorem Ent.foot_agree {ε ε' : Env} {M : Nat → Prop} (hag : Env.agree M ε ε') {k : Nat} {e : Ent} (hk : M k) : e.foot ε' k = e.foot ε k := by
  funext b; cases e <;> simp [Ent.foot, (hag k hk).1, (hag k hk).2.1]

/-- **A satisfied state is carried over a step**: the operation's contract may have been shown at a lesser state S0. -/
theorem SatM.app {cx : Cx} {M : Nat → Prop} {ε ε' : Env} {I I' : IH} {S S0 : St} {a : Act} {w w' : World} {u : U} {d : Option Nat} (m : Nat) (h : SatM cx M ε I S a w) (hle : S.le S0)
    (hN : ∀ k ∈ u.N, ¬ M k) (hd : ∀ i, d = some i → i < cx.N)
    (ht : Tr cx.w0.heap.size ε ε' I I' w w' u.N (fpOf S0 ε u)) (hn : New cx M S0 ε ε' I' w w' u) :
    SatM cx (fun k => M k ∨ k ∈ u.N) ε' I' (S.app m d u) (a.put d (u.sv.den ε')) w' := by
  have hag : Env.agree M ε ε' := fun k hk => ht.ag k (fun hm => hN k hm hk)
  have hM : ∀ k, M k → M k ∨ k ∈ u.N := fun _ => .inl
  have hfp : ∀ k e, look k S.L = some e → (look k u.L) = none → ∀ b, e.foot ε k b → ¬ fpOf S0 ε u b := by
    rintro k e he hnone b hb ⟨k', e', hk', he', hb'⟩
    have hne : k ≠ k' := by rintro rfl; rw [hnone] at hk'; cases hk'
    exact h.sep k k' e e' b he (hle.L _ _ he') hne hb hb'
  have hLl : ∀ k e, look k (u.L ++ S.L) = some e → (look k u.L = some e) ∨ (look k u.L = none ∧ look k S.L = some e) := by
    intro k e he
    rw [look_append] at he
    cases hu : look k u.L with
    | none => rw [hu] at he; simp at he; exact .inr ⟨rfl, he⟩
    | some e' => rw [hu] at he; simp at he; exact .inl (by rw [he])
  have hXl : ∀ k e, look k (u.X ++ S.X) = some e → (look k u.X = some e) ∨ (look k S.X = some e) := by
    intro k e he
    rw [look_append] at he
    cases hu : look k u.X with
    | none => rw [hu] at he; simp at he; exact .inr he
    | some e' => rw [hu] at he; simp at he; exact .inl (by rw [he])
  have hfrl : ∀ i x, look i (S.app m d u).fr = some x → (d = some i ∧ x = u.sv) ∨ (d ≠ some i ∧ look i S.fr = some x) := by
    intro i x hx
    cases d with
    | none => exact .inr ⟨by simp, hx⟩
    | some d =>
      simp only [St.app, look_cons] at hx
      by_cases hdi : d = i
      · subst hdi; simp at hx; exact .inl ⟨rfl, hx.symm⟩
      · simp [hdi] at hx; exact .inr ⟨by simpa using hdi, hx⟩
  have hGl : ∀ g b, look g (u.G ++ S.G) = some b → (look g u.G = some b) ∨ (look g S.G = some b) := by
    intro k e he
    rw [look_append] at he
    cases hu : look k u.G with
    | none => rw [hu] at he; simp at he; exact .inr he
    | some e' => rw [hu] at he; simp at he; exact .inl (by rw [he])
  refine ⟨?_, ?_, ?_, ?_, ?_, ?_, ?_, ?_, ?_, ?_, ?_, ?_, ?_, ht.imm, ?_, h.le0.trans ht.le, ?_, ?_, ?_⟩
  · intro i x hx
    rcases hfrl i x hx with ⟨_, rfl⟩ | ⟨_, hx⟩
    · exact hn.sv
    · exact SV.on_mono hM (SV.on_agree hag (h.wfr i x hx))
  · intro j R hR
    rcases hXl j R hR with hR | hR
    · exact hn.wX j R hR
    · exact hM _ (h.wfX j R hR)
  · intro k e he
    rcases hLl k e he with he | ⟨_, he⟩
    · exact hn.wL k e he
    · refine ⟨hM _ (h.wfL k e he).1, ?_⟩
      have := (h.wfL k e he).2
      cases e <;> first | exact trivial | exact fun c hc => At.on_mono hM (this c hc)
  · intro k hk; exact hM _ (h.wfD k hk)
  · intro g b hg
    rcases hGl g b hg with hg | hg
    · exact (hn.wG g b hg).1
    · exact hM _ (h.wfG g b hg)
  · intro g b hg
    rcases hGl g b hg with hg' | hg'
    · exact (hn.wG g b hg').2
    · rw [(hag g (h.wfG g b hg')).2.2]; exact h.G g b hg'
  · cases d <;> simp [Act.put, h.size]
  · have : (a.put d (u.sv.den ε')).defers = a.defers := by cases d <;> rfl
    rw [this, h.defs]
    exact List.map_congr_left fun k hk => by simp only [markOf]; rw [(hag k (h.wfD k hk)).1]
  · intro i x hx
    rcases hfrl i x hx with ⟨rfl, rfl⟩ | ⟨hdi, hx⟩
    · have hi : i < a.tmps.size := by rw [h.size]; exact hd i rfl
      simp [Act.put, hi]
    · have := h.fr i x hx
      rw [SV.den_agree hag (h.wfr i x hx)]
      cases d with
      | none => exact this
      | some d => simp only [Act.put]; rw [Array.getElem?_setIfInBounds_ne (by simpa using hdi)]; exact this
  · intro j R hR
    have hR' : look j (u.X ++ S.X) = some R := hR
    rw [look_append] at hR'
    cases hu : look j u.X with
    | some R' => rw [hu] at hR'; simp at hR'; subst hR'; exact hn.X j _ hu
    | none =>
      rw [hu] at hR'; simp at hR'
      rw [(hag j (h.wfX j R hR')).2.1]
      exact R.mono ht.le (h.X j R hR')
  · intro k e he
    rcases hLl k e he with he | ⟨hnone, he⟩
    · exact hn.L k e he
    · exact Ent.ok_kept hag ht.le (h.wfL k e he).1 (h.wfL k e he).2 (h.L k e he) (fun b hb => ht.block b (h.foot k e he b hb).2.1 (hfp k e he hnone b hb)) (fun x hx => by
        subst hx
        obtain ⟨hx1, hx2⟩ := h.ext k x he
        have hxF : ∀ b, x.F b → ¬ fpOf S0 ε u b := fun b hb => hfp k _ he hnone b hb
        refine ⟨ht.le, ht.imm, ht.os, ht.tape, ht.output, ht.size, fun b hb hn => ht.block b hb ?_, fun b o hb => ?_⟩
        · rcases hn with hn | hn
          · rintro ⟨k', e', h1, h2, h3⟩
            rcases (h.foot k' e' (hle.L _ _ h2) b h3).1 with h4 | h4
            · have := (hx2 b hn).1; omega
            · exact hxF b ((hx2 b hn).2 h4) ⟨k', e', h1, h2, h3⟩
          · exact hxF b hn
        · rcases ht.fresh b o hb with h1 | h1 | h1
          · exact .inl h1
          · refine .inr ⟨Nat.le_trans hx1 (Nat.le_trans h.keep.size h1), fun hF => ?_⟩
            have := (h.foot k _ he b hF).2.1
            omega
          · exact .inr ⟨Nat.le_trans hx1 h1.2, fun hF => hxF b hF h1.1⟩)
  · intro k e he b hb
    rcases hLl k e he with he | ⟨hnone, he⟩
    · obtain ⟨h1, h2, h3, _⟩ := hn.foot k e he b hb
      exact ⟨h1, h2, h3⟩
    · rw [Ent.foot_agree hag (h.wfL k e he).1] at hb
      obtain ⟨h1, h2, h3⟩ := h.foot k e he b hb
      refine ⟨h1, Nat.lt_of_lt_of_le h2 ht.size, ?_⟩
      cases hI : I' b with
      | none => rfl
      | some o =>
        rcases ht.fresh b o hI with h4 | h4 | h4
        · rw [h3] at h4; cases h4
        · omega
        · exact absurd h4.1 (hfp k e he hnone b hb)
  · have key : ∀ k k' e e' b, look k u.L = some e → look k' u.L = none → look k' S.L = some e' → e.foot ε' k b → ¬ e'.foot ε' k' b := by
      intro k k' e e' b he hnone he' hb hb'
      rw [Ent.foot_agree hag (h.wfL k' e' he').1] at hb'
      rcases (hn.foot k e he b hb).2.2.2 with h4 | h4
      · have := (h.foot k' e' he' b hb').2.1; omega
      · exact hfp k' e' he' hnone b hb' h4
    intro k k' e e' b he he' hne hb
    rcases hLl k e he with he | ⟨hnone, he⟩ <;> rcases hLl k' e' he' with he' | ⟨hnone', he'⟩
    · exact hn.sep k k' e e' b he he' hne hb
    · exact key k k' e e' b he hnone' he' hb
    · intro hb'; exact key k' k e' e b he' hnone he hb' hb
    · rw [Ent.foot_agree hag (h.wfL k e he).1] at hb
      rw [Ent.foot_agree hag (h.wfL k' e' he').1]
      exact h.sep k k' e e' b he he' hne hb
  · refine ⟨ht.os.trans h.keep.os, ht.tape.trans h.keep.tape, ht.output.trans h.keep.output, Nat.le_trans h.keep.size ht.size, fun b hb hE => ?_⟩
    refine (ht.block b (Nat.lt_of_lt_of_le hb h.keep.size) ?_).trans (h.keep.block b hb hE)
    rintro ⟨k, e, _, he, hf⟩
    rcases (h.foot k e (hle.L _ _ he) b hf).1 with h1 | h1
    · omega
    · exact hE h1
  · intro b o hb
    rcases ht.fresh b o hb with h1 | h1 | h1
    · exact h.fr0 b o h1
    · exact .inr (Nat.le_trans h.keep.size h1)
    · exact .inr h1.2
  · intro k hk
    obtain ⟨h1, h2, h3⟩ := h.pin k hk
    obtain ⟨h4, h5, _⟩ := hag k h1
    exact ⟨.inl h1, h4.trans h2, h5.trans h3⟩
  · intro k x hx
    rcases hLl k _ hx with he | ⟨_, he⟩
    · exact hn.ext k x he
    · exact h.ext k x he

end Go.Eng
