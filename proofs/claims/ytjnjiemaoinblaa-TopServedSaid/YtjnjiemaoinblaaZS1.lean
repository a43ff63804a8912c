/- Part 1 of the texts behind the claim: EngA EngB EngC EngD EngE EngF EngG EngH EngI EngJ EngK EngL EngM EngN. -/
import Derived.WalkKit
import Derived.TacticsIn
import Derived.RangeFuncIn
import Derived.RangeFuncLeaves
import Derived.OrdersIn
import Derived.KernelRfl
import Derived.Maps.AppendAt
import Derived.Laws.OwnMore
import Derived.RangeFuncSeq
import Derived.DeepKeys3
import Derived.Laws.CopyOwn
import Derived.ChangeSame
import Derived.ChangeSlices
import Derived.ChangeVars
import Derived.JoinedOf
import Derived.Handed
import Derived.WideKeyArgs
import Derived.ArgAppend
import Derived.WalkSmall
import Derived.Maps.RangeRun
import Derived.Test.YtjnjiemaoinblaaProg
import Derived.Test.YtjnjiemaoinblaaRows
set_option linter.unusedSimpArgs false
set_option linter.unusedVariables false
namespace Go.Flong
theorem cnd : (∀ (p : Prop) [Decidable p], (decide p = true) = p) ∧ (∀ (p : Prop) [Decidable p], (decide p = false) = ¬p) ∧ (∀ a b : Bool, ((a && b) = true) = (a = true ∧ b = true)) ∧ (∀ a b : Bool, ((a || b) = true) = (a = true ∨ b = true)) ∧ (∀ a b : Bool, ((a && b) = false) = (a = false ∨ b = false)) ∧ (∀ a b : Bool, ((a || b) = false) = (a = false ∧ b = false)) ∧ (∀ b : Bool, ((!b) = true) = (b = false)) ∧ (∀ b : Bool, ((!b) = false) = (b = true)) ∧ (∀ p : Prop, (¬¬p) = p) :=
  ⟨fun _ _ => by simp, fun _ _ => by simp, fun a b => by cases a <;> cases b <;> simp, fun a b => by cases a <;> cases b <;> simp, fun a b => by cases a <;> cases b <;> simp, fun a b => by cases a <;> cases b <;> simp, fun a => by cases a <;> simp, fun a => by cases a <;> simp, fun p => propext Classical.not_not⟩
end Go.Flong
namespace Go.Eng
open Go
abbrev IH := Nat → Option Obj
def IH.le (I I' : IH) : Prop := ∀ b o,I b = some o → I' b = some o
def IH.on (I : IH) (w : World) : Prop := ∀ b o,I b = some o → w.heap[b]? = some o
def IH.cell (I : IH) (a : Addr) : Option Value :=
  match I a.block with
  | some (.cells c _ _) => if a.spot.isSome then none else c[a.off]?
  | _ => none
theorem IH.le.rfl' {I : IH} : I.le I := fun _ _ h => h
theorem IH.le.trans {I J K : IH} (h : I.le J) (k : J.le K) : I.le K := fun b o hb => k b o (h b o hb)
theorem IH.cell_mono {I I' : IH} (h : I.le I') {a : Addr} {v : Value} (hc : I.cell a = some v) : I'.cell a = some v := by
  unfold IH.cell at *
  cases hb : I a.block with
  | none => simp [hb] at hc
  | some o => rw [h _ _ hb]; rw [hb] at hc; exact hc
theorem IH.cell_on {I : IH} {w : World} (h : I.on w) {a : Addr} {v : Value} (hc : I.cell a = some v) : w.cell? a = some v := by
  unfold IH.cell at hc
  unfold World.cell?
  cases hb : I a.block with
  | none => simp [hb] at hc
  | some o => rw [h _ _ hb]; rw [hb] at hc; exact hc
def World.all (w : World) : IH := fun b => w.heap[b]?
theorem World.all_on (w : World) : IH.on (World.all w) w := fun _ _ h => h
structure Pred where
  h : IH → Value → Prop
  mono : ∀ {I I' : IH} {v : Value},I.le I' → h I v → h I' v
structure LPred where
  h : IH → List Value → Prop
  mono : ∀ {I I' : IH} {xs : List Value},I.le I' → h I xs → h I' xs
structure Env where
  β : Nat → Nat
  ν : Nat → Value
  γ : Nat → Bool
def padd (v : Value) (n : Nat) : Value :=
  match v with
  | .slice (some a) _ _ => .pointer (some (a.add n))
  | .pointer (some a) => .pointer (some (a.add n))
  | _ => undef
inductive At where
  | v (y : Value)
  | q (j : Nat)
  | p (k o : Nat)
  | e (j o : Nat)
  | s (k n : Nat)
  | f (fn : FuncId) (js : List Nat)
def At.den (ε : Env) : At → Value
  | .v y => y
  | .q j => ε.ν j
  | .p k o => .pointer (some ⟨ε.β k,o,none⟩)
  | .e j o => padd (ε.ν j) o
  | .s k n => .slice (some ⟨ε.β k,0,none⟩) n n
  | .f fn js => .func (.func fn) #[] (js.map ε.ν).toArray
def At.on (M : Nat → Prop) : At → Prop
  | .v _ => True
  | .q j => M j
  | .p k _ => M k
  | .e j _ => M j
  | .s k _ => M k
  | .f _ js => ∀ j ∈ js,M j
inductive El where
  | a (x : At)
  | g (l : List At)
def El.den (ε : Env) : El → Value
  | .a x => x.den ε
  | .g l => .agg (l.map (At.den ε)).toArray
def El.on (M : Nat → Prop) : El → Prop
  | .a x => x.on M
  | .g l => ∀ x ∈ l,x.on M
inductive SV where
  | e (x : El)
  | t (l : List El)
  | c (g : Nat) (x : El)
def SV.den (ε : Env) : SV → Value
  | .e x => x.den ε
  | .t l => .tuple (l.map (El.den ε)).toArray
  | .c g x => bif ε.γ g then x.den ε else undef
def SV.on (γ : Nat → Bool) (M : Nat → Prop) : SV → Prop
  | .e x => x.on M
  | .t l => ∀ x ∈ l,x.on M
  | .c g x => M g ∧ (γ g = true → x.on M)
def Env.agree (M : Nat → Prop) (ε ε' : Env) : Prop := ∀ k,M k → ε'.β k = ε.β k ∧ ε'.ν k = ε.ν k ∧ ε'.γ k = ε.γ k
theorem Env.agree.refl {M : Nat → Prop} {ε : Env} : Env.agree M ε ε := fun _ _ => ⟨rfl,rfl,rfl⟩
theorem At.den_agree {M : Nat → Prop} {ε ε' : Env} (h : Env.agree M ε ε') : ∀ {x : At},x.on M → x.den ε' = x.den ε
  | .v _,_ => rfl
  | .q j,hx => (h j hx).2.1
  | .p k _,hx => by simp only [At.den,(h k hx).1]
  | .e j _,hx => by simp only [At.den,(h j hx).2.1]
  | .s k _,hx => by simp only [At.den,(h k hx).1]
  | .f _ js,hx => by
    simp only [At.den]
    rw [List.map_congr_left (fun j hj => (h j (hx j hj)).2.1)]
theorem El.den_agree {M : Nat → Prop} {ε ε' : Env} (h : Env.agree M ε ε') : ∀ {x : El},x.on M → x.den ε' = x.den ε
  | .a _,hx => At.den_agree h hx
  | .g l,hx => by
    simp only [El.den]
    rw [List.map_congr_left (fun j hj => At.den_agree h (hx j hj))]
theorem SV.den_agree {M : Nat → Prop} {ε ε' : Env} (h : Env.agree M ε ε') : ∀ {x : SV},x.on ε.γ M → x.den ε' = x.den ε
  | .e _,hx => El.den_agree h hx
  | .t l,hx => by
    simp only [SV.den]
    rw [List.map_congr_left (fun j hj => El.den_agree h (hx j hj))]
  | .c g y,hx => by
    simp only [SV.den,(h g hx.1).2.2]
    cases hg : ε.γ g with
    | false => rfl
    | true => simp only [cond_true]; exact El.den_agree h (hx.2 hg)
theorem At.on_mono {M M' : Nat → Prop} (h : ∀ k,M k → M' k) : ∀ {x : At},x.on M → x.on M'
  | .v _,_ => trivial
  | .q _,hx => h _ hx
  | .p _ _,hx => h _ hx
  | .e _ _,hx => h _ hx
  | .s _ _,hx => h _ hx
  | .f _ _,hx => fun j hj => h _ (hx j hj)
theorem El.on_mono {M M' : Nat → Prop} (h : ∀ k,M k → M' k) : ∀ {x : El},x.on M → x.on M'
  | .a _,hx => At.on_mono h hx
  | .g _,hx => fun x hx' => At.on_mono h (hx x hx')
theorem SV.on_mono {γ : Nat → Bool} {M M' : Nat → Prop} (h : ∀ k,M k → M' k) : ∀ {x : SV},x.on γ M → x.on γ M'
  | .e _,hx => El.on_mono h hx
  | .t _,hx => fun x hx' => El.on_mono h (hx x hx')
  | .c _ _,hx => ⟨h _ hx.1,fun hg => El.on_mono h (hx.2 hg)⟩
theorem SV.on_agree {M : Nat → Prop} {ε ε' : Env} (h : Env.agree M ε ε') : ∀ {x : SV},x.on ε.γ M → x.on ε'.γ M
  | .e _,hx => hx
  | .t _,hx => hx
  | .c g _,hx => ⟨hx.1,fun hg => hx.2 (by rw [← (h g hx.1).2.2]; exact hg)⟩
abbrev Out (w' w : World) : Prop := w'.output = w.output ∧ w.drawn ≤ w'.drawn
theorem Out.rf {w' w : World} (h1 : w'.output = w.output := by rfl) (h2 : w'.drawn = w.drawn := by rfl) : Out w' w := ⟨h1,by rw [h2]; exact Nat.le_refl _⟩
theorem Out.trans {a b c : World} (h : Out a b) (k : Out b c) : Out a c := ⟨h.1.trans k.1,Nat.le_trans k.2 h.2⟩
structure Stab (n1 : Nat) (Rd F : Nat → Prop) (I I' : IH) (w w' : World) : Prop where
  le : I.le I'
  on : I'.on w'
  os : w'.os = w.os
  tape : w'.tape = w.tape
  output : Out w' w
  size : w.heap.size ≤ w'.heap.size
  block : ∀ b,b < w.heap.size → Rd b ∨ F b → w'.heap[b]? = w.heap[b]?
  fresh : ∀ b o,I' b = some o → I b = some o ∨ (n1 ≤ b ∧ ¬ F b)
structure XP where
  n1 : Nat
  Rd : Nat → Prop
  F : Nat → Prop
  J : IH → World → Prop
  st : ∀ {I I' : IH} {w w' : World},Stab n1 Rd F I I' w w' → J I w → J I' w'
inductive Ent where
  | blk (cs : List At) (T : TypeId)
  | own (T : TypeId) (size n : Nat) (R : LPred)
  | ob (o : Obj)
  | ext (x : XP)
  | dead
def Ent.ok (ε : Env) (I : IH) (w : World) (k : Nat) : Ent → Prop
  | .blk cs T => w.heap[ε.β k]? = some (.cells (cs.map (At.den ε)).toArray T (0,0))
  | .own T size n R => ∃ xs,w.ownsRow 0 T size (ε.ν k) n xs ∧ R.h I xs
  | .ob o => w.heap[ε.β k]? = some o
  | .ext x => x.J I w
  | .dead => True
def Ent.foot (ε : Env) (k : Nat) : Ent → Nat → Prop
  | .blk _ _,b => b = ε.β k
  | .own _ _ _ _,b => (ε.ν k).ownBlock = some b
  | .ob _,b => b = ε.β k
  | .ext x,b => x.F b
  | .dead,_ => False
def Ent.on (M : Nat → Prop) : Ent → Prop
  | .blk cs _ => ∀ c ∈ cs,c.on M
  | _ => True
def look {α : Type} (i : Nat) : List (Nat × α) → Option α
  | [] => none
  | (k,x) :: t => bif Nat.beq k i then some x else look i t
theorem look_cons {α : Type} (i k : Nat) (x : α) (t : List (Nat × α)) : look i ((k,x) :: t) = if k = i then some x else look i t := by
  simp only [look,cond_eq_ite]
  by_cases h : k = i <;> simp [h]
theorem look_append {α : Type} (i : Nat) : ∀ (s t : List (Nat × α)),look i (s ++ t) = (look i s).or (look i t)
  | [],t => by simp [look]
  | (k,x) :: s,t => by
    rw [List.cons_append,look_cons,look_cons,look_append i s t]
    by_cases h : k = i <;> simp [h]
theorem look_mem {α : Type} {i : Nat} {x : α} : ∀ {t : List (Nat × α)},look i t = some x → (i,x) ∈ t
  | (k,y) :: t,h => by
    rw [look_cons] at h
    by_cases hk : k = i
    · subst hk; simp at h; subst h; exact List.mem_cons_self
    · simp [hk] at h; exact List.mem_cons_of_mem _ (look_mem h)
structure St where
  n : Nat
  fr : List (Nat × SV)
  X : List (Nat × Pred)
  L : List (Nat × Ent)
  D : List Nat
  G : List (Nat × Bool)
structure Cx where
  P : Program
  r : Option Nat
  w0 : World
  N : Nat
  E : Nat → Prop
  I0 : IH
  nB : Nat
  pβ : Nat → Nat
  pν : Nat → Value
def fen (r : Option Nat) : Fence := { Fence.wide with round := r }
structure Keep (E : Nat → Prop) (w w' : World) : Prop where
  os : w'.os = w.os
  tape : w'.tape = w.tape
  output : Out w' w
  size : w.heap.size ≤ w'.heap.size
  block : ∀ b,b < w.heap.size → ¬ E b → w'.heap[b]? = w.heap[b]?
theorem Keep.refl {E : Nat → Prop} (w : World) : Keep E w w := ⟨rfl,rfl,Out.rf,Nat.le_refl _,fun _ _ _ => rfl⟩
def Emp : Nat → Prop := fun _ => False
structure Grew (w w' : World) (row : Option Nat) : Prop where
  os : w'.os = w.os
  tape : w'.tape = w.tape
  output : Out w' w
  size : w.heap.size ≤ w'.heap.size
  block : ∀ k,k < w.heap.size → some k ≠ row → w'.heap[k]? = w.heap[k]?
theorem Grew.of {w w' : World} {row : Option Nat} (h : w.grownBy w' row) (hd : w.drawn ≤ w'.drawn) : Grew w w' row := ⟨h.os,h.tape,⟨h.output,hd⟩,h.size,h.block⟩
def markOf (β : Nat → Nat) (k : Nat) : Deferred := { target := .collected (β k),args := #[] }
structure SatM (cx : Cx) (M : Nat → Prop) (ε : Env) (I : IH) (S : St) (a : Act) (w : World) : Prop where
  wfr : ∀ i x,look i S.fr = some x → x.on ε.γ M
  wfX : ∀ j R,look j S.X = some R → M j
  wfL : ∀ k e,look k S.L = some e → M k ∧ e.on M
  wfD : ∀ k ∈ S.D,M k
  wfG : ∀ g b,look g S.G = some b → M g
  G : ∀ g b,look g S.G = some b → ε.γ g = b
  size : a.tmps.size = cx.N
  defs : a.defers = S.D.map (markOf ε.β)
  fr : ∀ i x,look i S.fr = some x → a.tmps[i]? = some (x.den ε)
  X : ∀ j R,look j S.X = some R → R.h I (ε.ν j)
  L : ∀ k e,look k S.L = some e → e.ok ε I w k
  foot : ∀ k e,look k S.L = some e → ∀ b,e.foot ε k b → (cx.w0.heap.size ≤ b ∨ cx.E b) ∧ b < w.heap.size ∧ I b = none
  sep : ∀ k k' e e' b,look k S.L = some e → look k' S.L = some e' → k ≠ k' → e.foot ε k b → ¬ e'.foot ε k' b
  imm : I.on w
  keep : Keep cx.E cx.w0 w
  le0 : cx.I0.le I
  fr0 : ∀ b o,I b = some o → cx.I0 b = some o ∨ cx.w0.heap.size ≤ b
  pin : ∀ k,k < cx.nB → M k ∧ ε.β k = cx.pβ k ∧ ε.ν k = cx.pν k
  ext : ∀ k x,look k S.L = some (.ext x) → x.n1 ≤ cx.w0.heap.size ∧ ∀ b,x.Rd b → b < cx.w0.heap.size ∧ (cx.E b → x.F b)
def Sat (cx : Cx) (ε : Env) (I : IH) (S : St) (a : Act) (w : World) : Prop := SatM cx (· < S.n) ε I S a w
theorem SatM.mono {cx : Cx} {M M' : Nat → Prop} {ε : Env} {I : IH} {S : St} {a : Act} {w : World} (hM : ∀ k,M k → M' k) (h : SatM cx M ε I S a w) : SatM cx M' ε I S a w :=
  { h with
    wfr := fun i x hx => SV.on_mono hM (h.wfr i x hx)
    wfX := fun j R hR => hM _ (h.wfX j R hR)
    wfL := fun k e he => ⟨hM _ (h.wfL k e he).1,by
      have := (h.wfL k e he).2
      cases e <;> first | exact trivial | exact fun c hc => At.on_mono hM (this c hc)⟩
    wfD := fun k hk => hM _ (h.wfD k hk)
    wfG := fun g b hg => hM _ (h.wfG g b hg)
    pin := fun k hk => ⟨hM _ (h.pin k hk).1,(h.pin k hk).2⟩ }
structure St.le (S S' : St) : Prop where
  fr : ∀ i x,look i S'.fr = some x → look i S.fr = some x
  X : ∀ i x,look i S'.X = some x → look i S.X = some x
  L : ∀ i x,look i S'.L = some x → look i S.L = some x
  D : S'.D = S.D
  G : ∀ i x,look i S'.G = some x → look i S.G = some x
theorem SatM.le {cx : Cx} {M : Nat → Prop} {ε : Env} {I : IH} {S S' : St} {a : Act} {w : World} (hl : S.le S') (h : SatM cx M ε I S a w) : SatM cx M ε I S' a w :=
  { h with
    wfr := fun i x hx => h.wfr i x (hl.fr i x hx)
    wfX := fun j R hR => h.wfX j R (hl.X j R hR)
    wfL := fun k e he => h.wfL k e (hl.L k e he)
    wfD := fun k hk => h.wfD k (hl.D ▸ hk)
    wfG := fun g b hg => h.wfG g b (hl.G g b hg)
    G := fun g b hg => h.G g b (hl.G g b hg)
    defs := by rw [hl.D]; exact h.defs
    fr := fun i x hx => h.fr i x (hl.fr i x hx)
    X := fun j R hR => h.X j R (hl.X j R hR)
    L := fun k e he => h.L k e (hl.L k e he)
    foot := fun k e he => h.foot k e (hl.L k e he)
    sep := fun k k' e e' b he he' => h.sep k k' e e' b (hl.L k e he) (hl.L k' e' he')
    ext := fun k x hx => h.ext k x (hl.L k _ hx) }
structure U where
  sv : SV
  N : List Nat
  X : List (Nat × Pred)
  L : List (Nat × Ent)
  G : List (Nat × Bool)
def U.val (sv : SV) : U := ⟨sv,[],[],[],[]⟩
def St.app (S : St) (m : Nat) (d : Option Nat) (u : U) : St :=
  { n := m,fr := (match d with | some d => (d,u.sv) :: S.fr | none => S.fr),X := u.X ++ S.X,L := u.L ++ S.L,D := S.D,G := u.G ++ S.G }
def fpOf (S : St) (ε : Env) (u : U) (b : Nat) : Prop := ∃ k e,(look k u.L).isSome = true ∧ look k S.L = some e ∧ e.foot ε k b
structure Tr (n0 : Nat) (ε ε' : Env) (I I' : IH) (w w' : World) (N : List Nat) (fp : Nat → Prop) : Prop where
  ag : ∀ k,k ∉ N → ε'.β k = ε.β k ∧ ε'.ν k = ε.ν k ∧ ε'.γ k = ε.γ k
  le : I.le I'
  imm : I'.on w'
  os : w'.os = w.os
  tape : w'.tape = w.tape
  output : Out w' w
  size : w.heap.size ≤ w'.heap.size
  block : ∀ b,b < w.heap.size → ¬ fp b → w'.heap[b]? = w.heap[b]?
  fresh : ∀ b o,I' b = some o → I b = some o ∨ w.heap.size ≤ b ∨ (fp b ∧ n0 ≤ b)
structure New (cx : Cx) (M : Nat → Prop) (S : St) (ε ε' : Env) (I' : IH) (w w' : World) (u : U) : Prop where
  sv : u.sv.on ε'.γ (fun k => M k ∨ k ∈ u.N)
  wX : ∀ j R,look j u.X = some R → M j ∨ j ∈ u.N
  wG : ∀ g b,look g u.G = some b → (M g ∨ g ∈ u.N) ∧ ε'.γ g = b
  wL : ∀ k e,look k u.L = some e → (M k ∨ k ∈ u.N) ∧ e.on (fun k => M k ∨ k ∈ u.N)
  X : ∀ j R,look j u.X = some R → R.h I' (ε'.ν j)
  L : ∀ k e,look k u.L = some e → e.ok ε' I' w' k
  foot : ∀ k e,look k u.L = some e → ∀ b,e.foot ε' k b → (cx.w0.heap.size ≤ b ∨ cx.E b) ∧ b < w'.heap.size ∧ I' b = none ∧ (w.heap.size ≤ b ∨ fpOf S ε u b)
  sep : ∀ k k' e e' b,look k u.L = some e → look k' u.L = some e' → k ≠ k' → e.foot ε' k b → ¬ e'.foot ε' k' b
  ext : ∀ k x,look k u.L = some (.ext x) → x.n1 ≤ cx.w0.heap.size ∧ ∀ b,x.Rd b → b < cx.w0.heap.size ∧ (cx.E b → x.F b)
def OpG (cx : Cx) (S : St) (o : Oper) (u : U) : Prop :=
  ∀ (M : Nat → Prop) (ε : Env) (I : IH) (a : Act) (w : World) (next : Act → World → Prop) (Q : Exit → Act → World → Prop),SatM cx M ε I S a w → (∀ k ∈ u.N,¬ M k) →
    (∀ ε' I' w',Tr cx.w0.heap.size ε ε' I I' w w' u.N (fpOf S ε u) → New cx M S ε ε' I' w w' u → next (a.put o.dst (u.sv.den ε')) w') →
    o.wpIn (fen cx.r) 0 cx.P a w next Q
theorem Ent.ok_kept {ε ε' : Env} {I I' : IH} {w w' : World} {M : Nat → Prop} (hag : Env.agree M ε ε') (hI : I.le I') {k : Nat} {e : Ent} (hk : M k) (he : e.on M) (h : e.ok ε I w k)
    (hb : ∀ b,e.foot ε k b → w'.heap[b]? = w.heap[b]?) (hx : ∀ x,e = .ext x → Stab x.n1 x.Rd x.F I I' w w') : e.ok ε' I' w' k := by
  cases e with
  | blk cs T =>
    simp only [Ent.ok] at h ⊢
    rw [(hag k hk).1,hb _ rfl,h,List.map_congr_left (fun c hc => At.den_agree hag (he c hc))]
  | own T size n R =>
    obtain ⟨xs,h1,h2⟩ := h
    refine ⟨xs,?_,R.mono hI h2⟩
    rw [(hag k hk).2.1]
    obtain ⟨hl,h1⟩ := h1
    refine ⟨hl,?_⟩
    rcases h1 with h1 | ⟨g,cap,cur,hv,hg,hh,r⟩
    · exact .inl h1
    · exact .inr ⟨g,cap,cur,hv,hg,by rw [hb g (by simp [Ent.foot,hv,Value.ownBlock])]; exact hh,r⟩
  | ob o => simp only [Ent.ok] at h ⊢; rw [(hag k hk).1,hb _ rfl,h]
  | ext x => exact x.st (hx x rfl) h
  | dead => trivial
theorem Ent.foot_agree {ε ε' : Env} {M : Nat → Prop} (hag : Env.agree M ε ε') {k : Nat} {e : Ent} (hk : M k) : e.foot ε' k = e.foot ε k := by
  funext b; cases e <;> simp [Ent.foot,(hag k hk).1,(hag k hk).2.1]
theorem SatM.app {cx : Cx} {M : Nat → Prop} {ε ε' : Env} {I I' : IH} {S S0 : St} {a : Act} {w w' : World} {u : U} {d : Option Nat} (m : Nat) (h : SatM cx M ε I S a w) (hle : S.le S0)
    (hN : ∀ k ∈ u.N,¬ M k) (hd : ∀ i,d = some i → i < cx.N)
    (ht : Tr cx.w0.heap.size ε ε' I I' w w' u.N (fpOf S0 ε u)) (hn : New cx M S0 ε ε' I' w w' u) :
    SatM cx (fun k => M k ∨ k ∈ u.N) ε' I' (S.app m d u) (a.put d (u.sv.den ε')) w' := by
  have hag : Env.agree M ε ε' := fun k hk => ht.ag k (fun hm => hN k hm hk)
  have hM : ∀ k,M k → M k ∨ k ∈ u.N := fun _ => .inl
  have hfp : ∀ k e,look k S.L = some e → (look k u.L) = none → ∀ b,e.foot ε k b → ¬ fpOf S0 ε u b := by
    rintro k e he hnone b hb ⟨k',e',hk',he',hb'⟩
    have hne : k ≠ k' := by rintro rfl; rw [hnone] at hk'; cases hk'
    exact h.sep k k' e e' b he (hle.L _ _ he') hne hb hb'
  have hLl : ∀ k e,look k (u.L ++ S.L) = some e → (look k u.L = some e) ∨ (look k u.L = none ∧ look k S.L = some e) := by
    intro k e he
    rw [look_append] at he
    cases hu : look k u.L with
    | none => rw [hu] at he; simp at he; exact .inr ⟨rfl,he⟩
    | some e' => rw [hu] at he; simp at he; exact .inl (by rw [he])
  have hXl : ∀ k e,look k (u.X ++ S.X) = some e → (look k u.X = some e) ∨ (look k S.X = some e) := by
    intro k e he
    rw [look_append] at he
    cases hu : look k u.X with
    | none => rw [hu] at he; simp at he; exact .inr he
    | some e' => rw [hu] at he; simp at he; exact .inl (by rw [he])
  have hfrl : ∀ i x,look i (S.app m d u).fr = some x → (d = some i ∧ x = u.sv) ∨ (d ≠ some i ∧ look i S.fr = some x) := by
    intro i x hx
    cases d with
    | none => exact .inr ⟨by simp,hx⟩
    | some d =>
      simp only [St.app,look_cons] at hx
      by_cases hdi : d = i
      · subst hdi; simp at hx; exact .inl ⟨rfl,hx.symm⟩
      · simp [hdi] at hx; exact .inr ⟨by simpa using hdi,hx⟩
  have hGl : ∀ g b,look g (u.G ++ S.G) = some b → (look g u.G = some b) ∨ (look g S.G = some b) := by
    intro k e he
    rw [look_append] at he
    cases hu : look k u.G with
    | none => rw [hu] at he; simp at he; exact .inr he
    | some e' => rw [hu] at he; simp at he; exact .inl (by rw [he])
  refine ⟨?_,?_,?_,?_,?_,?_,?_,?_,?_,?_,?_,?_,?_,ht.imm,?_,h.le0.trans ht.le,?_,?_,?_⟩
  · intro i x hx
    rcases hfrl i x hx with ⟨_,rfl⟩ | ⟨_,hx⟩
    · exact hn.sv
    · exact SV.on_mono hM (SV.on_agree hag (h.wfr i x hx))
  · intro j R hR
    rcases hXl j R hR with hR | hR
    · exact hn.wX j R hR
    · exact hM _ (h.wfX j R hR)
  · intro k e he
    rcases hLl k e he with he | ⟨_,he⟩
    · exact hn.wL k e he
    · refine ⟨hM _ (h.wfL k e he).1,?_⟩
      have := (h.wfL k e he).2
      cases e <;> first | exact trivial | exact fun c hc => At.on_mono hM (this c hc)
  · intro k hk; exact hM _ (h.wfD k hk)
  · intro g b hg
    rcases hGl g b hg with hg | hg
    · exact (hn.wG g b hg).1
    · exact hM _ (h.wfG g b hg)
  · intro g b hg
    rcases hGl g b hg with hg' | hg'
    · exact (hn.wG g b hg').2
    · rw [(hag g (h.wfG g b hg')).2.2]; exact h.G g b hg'
  · cases d <;> simp [Act.put,h.size]
  · have : (a.put d (u.sv.den ε')).defers = a.defers := by cases d <;> rfl
    rw [this,h.defs]
    exact List.map_congr_left fun k hk => by simp only [markOf]; rw [(hag k (h.wfD k hk)).1]
  · intro i x hx
    rcases hfrl i x hx with ⟨rfl,rfl⟩ | ⟨hdi,hx⟩
    · have hi : i < a.tmps.size := by rw [h.size]; exact hd i rfl
      simp [Act.put,hi]
    · have := h.fr i x hx
      rw [SV.den_agree hag (h.wfr i x hx)]
      cases d with
      | none => exact this
      | some d => simp only [Act.put]; rw [Array.getElem?_setIfInBounds_ne (by simpa using hdi)]; exact this
  · intro j R hR
    have hR' : look j (u.X ++ S.X) = some R := hR
    rw [look_append] at hR'
    cases hu : look j u.X with
    | some R' => rw [hu] at hR'; simp at hR'; subst hR'; exact hn.X j _ hu
    | none =>
      rw [hu] at hR'; simp at hR'
      rw [(hag j (h.wfX j R hR')).2.1]
      exact R.mono ht.le (h.X j R hR')
  · intro k e he
    rcases hLl k e he with he | ⟨hnone,he⟩
    · exact hn.L k e he
    · exact Ent.ok_kept hag ht.le (h.wfL k e he).1 (h.wfL k e he).2 (h.L k e he) (fun b hb => ht.block b (h.foot k e he b hb).2.1 (hfp k e he hnone b hb)) (fun x hx => by
        subst hx
        obtain ⟨hx1,hx2⟩ := h.ext k x he
        have hxF : ∀ b,x.F b → ¬ fpOf S0 ε u b := fun b hb => hfp k _ he hnone b hb
        refine ⟨ht.le,ht.imm,ht.os,ht.tape,ht.output,ht.size,fun b hb hn => ht.block b hb ?_,fun b o hb => ?_⟩
        · rcases hn with hn | hn
          · rintro ⟨k',e',h1,h2,h3⟩
            rcases (h.foot k' e' (hle.L _ _ h2) b h3).1 with h4 | h4
            · have := (hx2 b hn).1; omega
            · exact hxF b ((hx2 b hn).2 h4) ⟨k',e',h1,h2,h3⟩
          · exact hxF b hn
        · rcases ht.fresh b o hb with h1 | h1 | h1
          · exact .inl h1
          · refine .inr ⟨Nat.le_trans hx1 (Nat.le_trans h.keep.size h1),fun hF => ?_⟩
            have := (h.foot k _ he b hF).2.1
            omega
          · exact .inr ⟨Nat.le_trans hx1 h1.2,fun hF => hxF b hF h1.1⟩)
  · intro k e he b hb
    rcases hLl k e he with he | ⟨hnone,he⟩
    · obtain ⟨h1,h2,h3,_⟩ := hn.foot k e he b hb
      exact ⟨h1,h2,h3⟩
    · rw [Ent.foot_agree hag (h.wfL k e he).1] at hb
      obtain ⟨h1,h2,h3⟩ := h.foot k e he b hb
      refine ⟨h1,Nat.lt_of_lt_of_le h2 ht.size,?_⟩
      cases hI : I' b with
      | none => rfl
      | some o =>
        rcases ht.fresh b o hI with h4 | h4 | h4
        · rw [h3] at h4; cases h4
        · omega
        · exact absurd h4.1 (hfp k e he hnone b hb)
  · have key : ∀ k k' e e' b,look k u.L = some e → look k' u.L = none → look k' S.L = some e' → e.foot ε' k b → ¬ e'.foot ε' k' b := by
      intro k k' e e' b he hnone he' hb hb'
      rw [Ent.foot_agree hag (h.wfL k' e' he').1] at hb'
      rcases (hn.foot k e he b hb).2.2.2 with h4 | h4
      · have := (h.foot k' e' he' b hb').2.1; omega
      · exact hfp k' e' he' hnone b hb' h4
    intro k k' e e' b he he' hne hb
    rcases hLl k e he with he | ⟨hnone,he⟩ <;> rcases hLl k' e' he' with he' | ⟨hnone',he'⟩
    · exact hn.sep k k' e e' b he he' hne hb
    · exact key k k' e e' b he hnone' he' hb
    · intro hb'; exact key k' k e' e b he' hnone he hb' hb
    · rw [Ent.foot_agree hag (h.wfL k e he).1] at hb
      rw [Ent.foot_agree hag (h.wfL k' e' he').1]
      exact h.sep k k' e e' b he he' hne hb
  · refine ⟨ht.os.trans h.keep.os,ht.tape.trans h.keep.tape,ht.output.trans h.keep.output,Nat.le_trans h.keep.size ht.size,fun b hb hE => ?_⟩
    refine (ht.block b (Nat.lt_of_lt_of_le hb h.keep.size) ?_).trans (h.keep.block b hb hE)
    rintro ⟨k,e,_,he,hf⟩
    rcases (h.foot k e (hle.L _ _ he) b hf).1 with h1 | h1
    · omega
    · exact hE h1
  · intro b o hb
    rcases ht.fresh b o hb with h1 | h1 | h1
    · exact h.fr0 b o h1
    · exact .inr (Nat.le_trans h.keep.size h1)
    · exact .inr h1.2
  · intro k hk
    obtain ⟨h1,h2,h3⟩ := h.pin k hk
    obtain ⟨h4,h5,_⟩ := hag k h1
    exact ⟨.inl h1,h4.trans h2,h5.trans h3⟩
  · intro k x hx
    rcases hLl k _ hx with he | ⟨_,he⟩
    · exact hn.ext k x he
    · exact h.ext k x he
end Go.Eng
namespace Go.Eng
open Go
theorem Addr.add_plain (b o n : Nat) : (⟨b,o,none⟩ : Addr).add n = ⟨b,o + n,none⟩ := by
  unfold Go.Addr.add; split <;> simp_all
theorem Addr.add_add {a : Addr} (h : a.spot = none) (m n : Nat) : (a.add m).add n = a.add (m + n) := by
  obtain ⟨b,o,s⟩ := a
  simp only at h; subst h
  rw [Addr.add_plain,Addr.add_plain,Addr.add_plain,Nat.add_assoc]
theorem Addr.add_spot {a : Addr} (h : a.spot = none) (m : Nat) : (a.add m).spot = none := by
  obtain ⟨b,o,s⟩ := a
  simp only at h; subst h
  rw [Addr.add_plain]
theorem Addr.add_zero' (a : Addr) : a.add 0 = a := by simp [Go.Addr.add]
structure EP (α : Type) where
  size : Nat
  h : IH → List Value → α → Prop
  len : ∀ {I : IH} {cs : List Value} {x : α},h I cs x → cs.length = size
  mono : ∀ {I I' : IH} {cs : List Value} {x : α},I.le I' → h I cs x → h I' cs x
def EP.fix {α : Type} (n : Nat) (enc : α → List Value) (hn : ∀ x,(enc x).length = n) : EP α := ⟨n,fun _ cs x => cs = enc x,fun h => h ▸ hn _,fun _ h => h⟩
def EP.int : EP Int := .fix 1 (fun n => [.int .i64 n]) (fun _ => rfl)
def PL {α : Type} (E : EP α) (l : List α) : Pred where
  h I v := ∃ a cap,v = .slice a l.length cap ∧ l.length ≤ cap ∧ ∀ i (hi : i < l.length),∃ cs ad,E.h I cs l[i] ∧ a = some ad ∧ ad.spot = none ∧ ∀ j y,cs[j]? = some y → I.cell (ad.add (i * E.size + j)) = some y
  mono := by
    rintro I I' v hI ⟨a,cap,hv,hc,h⟩
    refine ⟨a,cap,hv,hc,fun i hi => ?_⟩
    obtain ⟨cs,ad,h1,h2,h3,h4⟩ := h i hi
    exact ⟨cs,ad,E.mono hI h1,h2,h3,fun j y hj => IH.cell_mono hI (h4 j y hj)⟩
def EP.sl {α : Type} (E : EP α) : EP (List α) := ⟨1,fun I cs l => ∃ v,cs = [v] ∧ (PL E l).h I v,fun ⟨_,h,_⟩ => by rw [h]; rfl,fun hI ⟨v,h,k⟩ => ⟨v,h,(PL E _).mono hI k⟩⟩
def PP {α : Type} (E : EP α) (x : α) : Pred where
  h I v := ∃ ad cs,v = .pointer (some ad) ∧ ad.spot = none ∧ E.h I cs x ∧ ∀ j y,cs[j]? = some y → I.cell (ad.add j) = some y
  mono := by
    rintro I I' v hI ⟨ad,cs,h1,h2,h3,h4⟩
    exact ⟨ad,cs,h1,h2,E.mono hI h3,fun j y hj => IH.cell_mono hI (h4 j y hj)⟩
def RP {α : Type} (E : EP α) (l : List α) : LPred where
  h I xs := ∃ css : List (List Value),xs = css.flatten ∧ css.length = l.length ∧ ∀ i (hi : i < css.length) (hl : i < l.length),E.h I css[i] l[i]
  mono := by
    rintro I I' xs hI ⟨css,h1,h2,h3⟩
    exact ⟨css,h1,h2,fun i hi hl => E.mono hI (h3 i hi hl)⟩
def Pred.iff (b : Bool) (R : Pred) : Pred := ⟨fun I v => b = true → R.h I v,fun hI h hb => R.mono hI (h hb)⟩
def Pred.top : Pred := ⟨fun _ _ => True,fun _ h => h⟩
def Pred.is (y : Value) : Pred := ⟨fun _ v => v = y,fun _ h => h⟩
def Has (X : List (Nat × Pred)) (j : Nat) (R : Pred) : Prop := ∃ R',look j X = some R' ∧ ∀ I v,R'.h I v → R.h I v
theorem lx {X : List (Nat × Pred)} {j : Nat} {R : Pred} (h : look j X = some R) : Has X j R := ⟨R,h,fun _ _ h => h⟩
theorem lxi {X : List (Nat × Pred)} {j : Nat} {R : Pred} {b : Bool} (hb : b = true) (h : look j X = some (Pred.iff b R)) : Has X j R := ⟨_,h,fun _ _ h => h hb⟩
def WP (cx : Cx) (S : St) (c : Code) (Q : Exit → Act → World → Prop) : Prop := ∀ ε I a w,Sat cx ε I S a w → c.wpIn (fen cx.r) 0 cx.P Q a w
def WPl (cx : Cx) (ops : Array Oper) (S : St) (l : List Oper) (Q : Exit → Act → World → Prop) : Prop := ∀ ε I a w,Sat cx ε I S a w → wpListIn (fen cx.r) 0 cx.P ops Q l a w
def EX (cx : Cx) (S : St) (e : Exit) (Q : Exit → Act → World → Prop) : Prop := ∀ ε I a w,Sat cx ε I S a w → Q e a w
section rules
variable {cx : Cx} {S : St} {Q : Exit → Act → World → Prop} {ops : Array Oper}
theorem WP.seq {c1 c2 : Code} (h : WP cx S c1 (Exit.then (c2.wpIn (fen cx.r) 0 cx.P Q) Q)) : WP cx S (.seq c1 c2) Q := fun ε I a w hs => wpIn_seq (h ε I a w hs)
theorem WP.region {id : Nat} {l : List Oper} (h : WPl cx l.toArray S l Q) : WP cx S (.region id l.toArray false) Q := fun ε I a w hs => wpIn_region_lit (h ε I a w hs)
theorem WPl.nil (h : EX cx S .normal Q) : WPl cx ops S [] Q := fun ε I a w hs => h ε I a w hs
theorem EX.then {c : Code} {Q' : Exit → Act → World → Prop} (h : WP cx S c Q) : EX cx S .normal (Exit.then (c.wpIn (fen cx.r) 0 cx.P Q) Q') := fun ε I a w hs => h ε I a w hs
theorem EX.ret_then {K : Act → World → Prop} (h : EX cx S .ret Q) : EX cx S .ret (Exit.then K Q) := h
theorem EX.exit_then {K : Act → World → Prop} {id : Nat} (h : EX cx S (.exit id) Q) : EX cx S (.exit id) (Exit.then K Q) := h
theorem EX.blk {id : Nat} (h : EX cx S .normal Q) : EX cx S .normal (Exit.inBlock id Q) := h
theorem EX.ret_blk {id : Nat} (h : EX cx S .ret Q) : EX cx S .ret (Exit.inBlock id Q) := h
theorem EX.exit_blk {id : Nat} (h : EX cx S .normal Q) : EX cx S (.exit id) (Exit.inBlock id Q) := fun ε I a w hs => by
  simp only [Exit.inBlock,if_true]; exact h ε I a w hs
theorem EX.exit_out {id id' : Nat} (hne : Nat.beq id' id = false) (h : EX cx S (.exit id') Q) : EX cx S (.exit id') (Exit.inBlock id Q) := fun ε I a w hs => by
  have : ¬ id' = id := fun e => by subst e; simp at hne
  simp only [Exit.inBlock,this,if_false]; exact h ε I a w hs
theorem WP.block {id : Nat} {c : Code} (h : WP cx S c (Exit.inBlock id Q)) : WP cx S (.block id c) Q := fun ε I a w hs => wpIn_block (h ε I a w hs)
theorem WP.skip (h : EX cx S .normal Q) : WP cx S .skip Q := fun ε I a w hs => wpIn_skip (h ε I a w hs)
theorem WP.ret (h : EX cx S .ret Q) : WP cx S .ret Q := fun ε I a w hs => wpIn_ret (h ε I a w hs)
theorem WP.exit {id : Nat} (h : EX cx S (.exit id) Q) : WP cx S (.exit id) Q := fun ε I a w hs => wpIn_exit (h ε I a w hs)
end rules
def St.op (S : St) : Operand → Option SV
  | .tmp t => look t S.fr
  | .const v => some (.e (.a (.v v)))
  | .global _ => none
  | .func f => some (.e (.a (.f f [])))
theorem SatM.eval {cx : Cx} {M : Nat → Prop} {ε : Env} {I : IH} {S : St} {a : Act} {w : World} (h : SatM cx M ε I S a w) {x : Operand} {sv : SV} (hx : S.op x = some sv) : a.eval x = sv.den ε := by
  cases x with
  | tmp t =>
    have := h.fr t sv hx
    simp [Act.eval,this]
  | const v => simp only [St.op,Option.some.injEq] at hx; subst hx; rfl
  | global g => cases hx
  | func f => simp only [St.op,Option.some.injEq] at hx; subst hx; rfl
theorem SatM.on {cx : Cx} {M : Nat → Prop} {ε : Env} {I : IH} {S : St} {a : Act} {w : World} (h : SatM cx M ε I S a w) {x : Operand} {sv : SV} (hx : S.op x = some sv) : sv.on ε.γ M := by
  cases x with
  | tmp t => exact h.wfr t sv hx
  | const v => simp only [St.op,Option.some.injEq] at hx; subst hx; trivial
  | global g => cases hx
  | func f => simp only [St.op,Option.some.injEq] at hx; subst hx; intro j hj; cases hj
theorem SatM.has {cx : Cx} {M : Nat → Prop} {ε : Env} {I : IH} {S : St} {a : Act} {w : World} (h : SatM cx M ε I S a w) {j : Nat} {R : Pred} (hj : Has S.X j R) : R.h I (ε.ν j) := by
  obtain ⟨R',h1,h2⟩ := hj; exact h2 _ _ (h.X j R' h1)
theorem semAt_eq (r : Option Nat) (ρ : Operand → Value) (o : Oper) (h : ∀ c,o.op ≠ .defer c) : Oper.semAt r ρ o = execOp ρ o := by
  cases r with
  | none => rfl
  | some l => exact Oper.semAt_some l ρ o h
theorem Tr.refl {n0 : Nat} {ε : Env} {I : IH} {w : World} {fp : Nat → Prop} (hI : I.on w) : Tr n0 ε ε I I w w [] fp :=
  ⟨fun _ _ => ⟨rfl,rfl,rfl⟩,IH.le.rfl',hI,rfl,rfl,Out.rf,Nat.le_refl _,fun _ _ _ => rfl,fun _ _ h => .inl h⟩
theorem New.val {cx : Cx} {M : Nat → Prop} {S : St} {ε : Env} {I : IH} {w w' : World} {sv : SV} (h : sv.on ε.γ M) : New cx M S ε ε I w w' (.val sv) :=
  ⟨SV.on_mono (fun _ => .inl) h,fun _ _ h => (by cases h),fun _ _ h => (by cases h),fun _ _ h => (by cases h),fun _ _ h => (by cases h),fun _ _ h => (by cases h),fun _ _ h => (by cases h),fun _ _ _ _ _ h => (by cases h),fun _ _ h => (by cases h)⟩
theorem OpG.pure {cx : Cx} {S : St} {o : Oper} {sv : SV} (hnd : ∀ c,o.op ≠ .defer c)
    (h : ∀ M ε I a w,SatM cx M ε I S a w → sv.on ε.γ M ∧ (execOp a.eval o).run cx.P w = .ok (.value (sv.den ε)) w) : OpG cx S o (.val sv) := by
  intro M ε I a w next Q hs _ K
  obtain ⟨h1,h2⟩ := h M ε I a w hs
  refine ⟨fun _ _ => trivial,?_⟩
  rw [semAt_eq _ _ _ hnd,h2]
  exact K ε I w (Tr.refl hs.imm) (New.val h1)
def opw (cx : Cx) (ops : Array Oper) (o : Oper) (a : Act) (w : World) (next : Act → World → Prop) (Q : Exit → Act → World → Prop) : Prop :=
  if Region.wanted o (yielded ops a.tmps) then o.wpIn (fen cx.r) 0 cx.P a w next Q else (∀ f,o.about cx.P w a.eval = some f → (fen cx.r).fn f) ∧ next (a.put o.dst undef) w
def ROp (cx : Cx) (ops : Array Oper) (S : St) (o : Oper) (u : U) : Prop :=
  ∀ (M : Nat → Prop) (ε : Env) (I : IH) (a : Act) (w : World) (next : Act → World → Prop) (Q : Exit → Act → World → Prop),SatM cx M ε I S a w → (∀ k ∈ u.N,¬ M k) →
    (∀ ε' I' w',Tr cx.w0.heap.size ε ε' I I' w w' u.N (fpOf S ε u) → New cx M S ε ε' I' w w' u → next (a.put o.dst (u.sv.den ε')) w') → opw cx ops o a w next Q
theorem ROp.plain {cx : Cx} {ops : Array Oper} {S : St} {o : Oper} {u : U} (hg : o.guard = none) (h : OpG cx S o u) : ROp cx ops S o u := by
  intro M ε I a w next Q hs hN K
  unfold opw
  simp only [Region.wanted,hg,if_true]
  exact h M ε I a w next Q hs hN K
def strip (gs : List Nat) : SV → SV
  | .c g x => if g ∈ gs then .e x else .c g x
  | x => x
def und (gs : List Nat) : List (Nat × SV) → List (Nat × SV)
  | [] => []
  | (i,x) :: t => (i,strip gs x) :: und gs t
theorem look_und (gs : List Nat) (i : Nat) : ∀ fr : List (Nat × SV),look i (und gs fr) = (look i fr).map (strip gs)
  | [] => rfl
  | (k,x) :: t => by
    rw [und,look_cons,look_cons,look_und gs i t]
    by_cases h : k = i <;> simp [h]
def St.und (S : St) (gs : List Nat) : St := { S with fr := Eng.und gs S.fr }
theorem SatM.und {cx : Cx} {M : Nat → Prop} {ε : Env} {I : IH} {S : St} {a : Act} {w : World} {gs : List Nat} (hg : ∀ g ∈ gs,ε.γ g = true) (h : SatM cx M ε I S a w) : SatM cx M ε I (S.und gs) a w := by
  have key : ∀ i x,look i (Eng.und gs S.fr) = some x → x.on ε.γ M ∧ a.tmps[i]? = some (x.den ε) := by
    intro i x hx
    rw [look_und] at hx
    cases hl : look i S.fr with
    | none => rw [hl] at hx; cases hx
    | some y =>
      rw [hl] at hx
      simp only [Option.map_some,Option.some.injEq] at hx
      subst hx
      have h1 := h.wfr i y hl
      have h2 := h.fr i y hl
      cases y with
      | e y => exact ⟨h1,h2⟩
      | t l => exact ⟨h1,h2⟩
      | c g y =>
        simp only [strip]
        split
        · rename_i hgs
          refine ⟨h1.2 (hg g hgs),?_⟩
          simp only [SV.den,hg g hgs,cond_true] at h2
          exact h2
        · exact ⟨h1,h2⟩
  exact { h with wfr := fun i x hx => (key i x hx).1,fr := fun i x hx => (key i x hx).2 }
def U.cond (u : U) (g : Nat) (b : Bool) (x : El) : U := ⟨.c g x,u.N,u.X.map (fun p => (p.1,Pred.iff b p.2)),[],[]⟩
theorem look_map {α γ : Type} (f : α → γ) (i : Nat) : ∀ t : List (Nat × α),look i (t.map fun p => (p.1,f p.2)) = (look i t).map f
  | [] => rfl
  | (k,x) :: t => by
    rw [List.map_cons,look_cons,look_cons,look_map f i t]
    by_cases h : k = i <;> simp [h]
theorem ROp.guard {cx : Cx} {ops : Array Oper} {S : St} {o : Oper} {u : U} {g : Nat} {gs : List Nat} {b : Bool} {x : El} {j dj : Nat} {want : Bool} {sv : SV} (hg : o.guard = some (j,want)) (hj : (ops[j]?).bind (·.dst) = some dj)
    (hdj : look dj S.fr = some sv) (hbit : look g S.G = some b) (hb : ∀ ε : Env,(∀ k c,look k S.G = some c → ε.γ k = c) → (b = true ↔ sv.den ε = .bool want))
    (hgs : ∀ ε : Env,(∀ k c,look k S.G = some c → ε.γ k = c) → b = true → ∀ k ∈ gs,ε.γ k = true)
    (hu : u.sv = .e x) (hL : u.L = []) (hX : ∀ k R,look k u.X = some R → k ∈ u.N) (h : b = true → OpG cx (S.und gs) o u) : ROp cx ops S o (u.cond g b x) := by
  intro M ε I a w next Q hs hN K
  have hdv := hs.fr dj sv hdj
  have hγ := hs.G g b hbit
  have hMg := hs.wfG g b hbit
  unfold opw
  have hw : Region.wanted o (yielded ops a.tmps) = true ↔ b = true := by
    rw [hb ε hs.G]
    simp only [Region.wanted,hg,yielded,hj,Option.bind_some,hdv]
    cases hsv : sv.den ε <;> simp
  by_cases hbt : b = true
  · rw [if_pos (hw.2 hbt)]
    have hs' := SatM.und (hgs ε (hs.G) hbt) hs
    refine h hbt M ε I a w next Q hs' hN fun ε' I' w' ht hn => ?_
    have hfp : fpOf S ε (u.cond g b x) = fpOf (S.und gs) ε u := by
      funext c; simp [fpOf,U.cond,hL,look]
    have hγ' : ε'.γ g = true := by
      rw [(ht.ag g (fun hm => hN g hm hMg)).2.2,hγ,hbt]
    have hsv : (u.cond g b x).sv.den ε' = u.sv.den ε' := by rw [hu]; simp [U.cond,SV.den,hγ']
    rw [← hsv]
    refine K ε' I' w' (by rw [hfp]; exact ht) ⟨⟨.inl hMg,fun _ => by have := hn.sv; rw [hu] at this; exact this⟩,?_,fun _ _ h => (by cases h),fun _ _ h => (by cases h),?_,fun _ _ h => (by cases h),fun _ _ h => (by cases h),fun _ _ _ _ _ h => (by cases h),fun _ _ h => (by cases h)⟩
    · intro k R hR
      simp only [U.cond,look_map] at hR
      cases hk : look k u.X with
      | none => rw [hk] at hR; cases hR
      | some R' => exact hn.wX k R' hk
    · intro k R hR
      simp only [U.cond,look_map] at hR
      cases hk : look k u.X with
      | none => rw [hk] at hR; cases hR
      | some R' =>
        rw [hk] at hR
        simp only [Option.map_some,Option.some.injEq] at hR
        subst hR
        exact fun _ => hn.X k R' hk
  · rw [if_neg (by rw [hw]; exact hbt)]
    have hbf : b = false := by simpa using hbt
    refine ⟨fun _ _ => trivial,?_⟩
    have hsv : (u.cond g b x).sv.den ε = undef := by simp [U.cond,SV.den,hγ,hbf]
    rw [← hsv]
    refine K ε I w ⟨fun _ _ => ⟨rfl,rfl,rfl⟩,IH.le.rfl',hs.imm,rfl,rfl,Out.rf,Nat.le_refl _,fun _ _ _ => rfl,fun _ _ h => .inl h⟩ ⟨⟨.inl hMg,fun hg' => by rw [hγ,hbf] at hg'; cases hg'⟩,?_,fun _ _ h => (by cases h),fun _ _ h => (by cases h),?_,fun _ _ h => (by cases h),fun _ _ h => (by cases h),fun _ _ _ _ _ h => (by cases h),fun _ _ h => (by cases h)⟩
    · intro k R hR
      simp only [U.cond,look_map] at hR
      cases hk : look k u.X with
      | none => rw [hk] at hR; cases hR
      | some R' => exact .inr (hX k R' hk)
    · intro k R hR
      simp only [U.cond,look_map] at hR
      cases hk : look k u.X with
      | none => rw [hk] at hR; cases hR
      | some R' =>
        rw [hk] at hR
        simp only [Option.map_some,Option.some.injEq] at hR
        subst hR
        exact fun h => absurd h hbt
section steps
variable {cx : Cx} {Q : Exit → Act → World → Prop} {ops : Array Oper} {rest : List Oper}
theorem WPl.upd {S S0 : St} {o : Oper} {u : U} (m : Nat) (h : ROp cx ops S0 o u) (hle : S.le S0) (hd : ∀ i,o.dst = some i → i < cx.N) (hN : ∀ k ∈ u.N,S.n ≤ k ∧ k < m) (hm : S.n ≤ m)
    (K : WPl cx ops (S.app m o.dst u) rest Q) : WPl cx ops S (o :: rest) Q := by
  intro ε I a w hs
  refine wpListIn_step fun K' hK => ?_
  refine h _ ε I a w K' Q (SatM.le hle hs) (fun k hk hlt => by have := (hN k hk).1; omega) fun ε' I' w' ht hn => hK _ _ (K ε' I' _ w' ?_)
  have hN' : ∀ k ∈ u.N,¬ k < S.n := fun k hk hlt => by have := (hN k hk).1; omega
  refine SatM.mono ?_ (SatM.app m hs hle hN' hd ht hn)
  rintro k (hk | hk)
  · exact Nat.lt_of_lt_of_le hk hm
  · exact (hN k hk).2
theorem St.le.refl (S : St) : S.le S := ⟨fun _ _ h => h,fun _ _ h => h,fun _ _ h => h,rfl,fun _ _ h => h⟩
variable {n : Nat} {fr : List (Nat × SV)} {X : List (Nat × Pred)} {L : List (Nat × Ent)} {D : List Nat} {G : List (Nat × Bool)} {d : Tmp} {op : Op} {ty : TypeId} {pos : String} {af : Array Edge} {gd : Option (Nat × Bool)} {sv : SV}
theorem WPl.v (hd : Nat.blt d cx.N = true) (h : OpG cx ⟨n,fr,X,L,D,G⟩ ⟨some d,op,ty,pos,af,none⟩ (.val sv)) (K : WPl cx ops ⟨n,(d,sv) :: fr,X,L,D,G⟩ rest Q) :
    WPl cx ops ⟨n,fr,X,L,D,G⟩ (⟨some d,op,ty,pos,af,none⟩ :: rest) Q :=
  have hd' : d < cx.N := by rw [Nat.blt_eq] at hd; exact hd
  WPl.upd n (ROp.plain rfl h) (St.le.refl _) (fun i hi => by cases hi; exact hd') (fun k hk => by cases hk) (Nat.le_refl _) K
theorem WPl.u1 {k m : Nat} {X' : List (Nat × Pred)} {L' : List (Nat × Ent)} (hk : Nat.ble n k = true) (hm : Nat.blt k m = true) (hd : Nat.blt d cx.N = true) (h : OpG cx ⟨n,fr,X,L,D,G⟩ ⟨some d,op,ty,pos,af,none⟩ ⟨sv,[k],X',L',[]⟩)
    (K : WPl cx ops ⟨m,(d,sv) :: fr,X' ++ X,L' ++ L,D,G⟩ rest Q) :
    WPl cx ops ⟨n,fr,X,L,D,G⟩ (⟨some d,op,ty,pos,af,none⟩ :: rest) Q :=
  have hk' : n ≤ k := by simpa using hk
  have hm' : k < m := by rw [Nat.blt_eq] at hm; exact hm
  have hd' : d < cx.N := by rw [Nat.blt_eq] at hd; exact hd
  WPl.upd m (ROp.plain rfl h) (St.le.refl _) (fun i hi => by cases hi; exact hd') (fun j hj => by rw [List.mem_singleton] at hj; subst hj; exact ⟨hk',hm'⟩) (by show n ≤ m; omega) K
theorem WPl.s {L' : List (Nat × Ent)} (h : OpG cx ⟨n,fr,X,L,D,G⟩ ⟨none,op,ty,pos,af,none⟩ ⟨sv,[],[],L',[]⟩)
    (K : WPl cx ops ⟨n,fr,X,L' ++ L,D,G⟩ rest Q) :
    WPl cx ops ⟨n,fr,X,L,D,G⟩ (⟨none,op,ty,pos,af,none⟩ :: rest) Q :=
  WPl.upd n (ROp.plain rfl h) (St.le.refl _) (fun i hi => by cases hi) (fun k hk => by cases hk) (Nat.le_refl _) K
end steps
end Go.Eng
namespace Go.Eng
open Go
abbrev SV.i (n : Int) : SV := .e (.a (.v (.int .i64 n)))
abbrev SV.b (b : Bool) : SV := .e (.a (.v (.bool b)))
abbrev ai (n : Int) : At := .v (.int .i64 n)
def nth {α : Type} [Inhabited α] (l : List α) (i : Int) : α := l.getD i.toNat default
def El.cells : El → List At
  | .a x => [x]
  | .g l => l
theorem wrap_in {n : Int} (h1 : -9223372036854775808 ≤ n) (h2 : n ≤ 9223372036854775807) : IntKind.i64.wrap n = n := by
  have h3 : (2 : Int) ^ IntKind.i64.bits = 18446744073709551616 := by decide
  have h4 : (2 : Int) ^ (IntKind.i64.bits - 1) = 9223372036854775808 := by decide
  simp only [IntKind.wrap,h3,h4,IntKind.signed,Bool.true_and,decide_eq_true_eq]
  split <;> omega
structure TyS (P : Program) (T : TypeId) : Prop where
  ag : ∀ w,(isAgg T).run P w = .ok false w
  sz : ∀ w,(sizeOf T).run P w = .ok 1 w
structure TyG (P : Program) (T : TypeId) (m : Nat) : Prop where
  ag : ∀ w,(isAgg T).run P w = .ok true w
  sz : ∀ w,(sizeOf T).run P w = .ok m w
def Fld (P : Program) (T : TypeId) (f off : Nat) : Prop := ∀ a w,(Instr.fieldAt T (.pointer (some a)) f).run P w = .ok (.pointer (some (a.add off))) w
def Zero (P : Program) (T : TypeId) (cs : List At) : Prop := ∃ z,(∀ w,(zeroValue T).run P w = .ok z w) ∧ (∀ ε,z.cells = (cs.map (At.den ε)).toArray) ∧ ∀ M : Nat → Prop,∀ c ∈ cs,c.on M
def IsSl (P : Program) (T e : TypeId) (sz : Nat) : Prop := P.underlying T = some (.slice e) ∧ ∀ w,(sizeOf e).run P w = .ok sz w
section ops
variable {cx : Cx} {S : St} {dst : Option Tmp} {ty : TypeId} {pos : String} {af : Array Edge} {gd : Option (Nat × Bool)}
theorem o_move {x : Operand} {sv : SV} (hx : S.op x = some sv) : OpG cx S ⟨dst,.move x,ty,pos,af,gd⟩ (.val sv) :=
  OpG.pure (fun _ => by simp) fun M ε I a w hs => ⟨hs.on hx,by simp [execOp,hs.eval hx]⟩
theorem o_assign {x : Operand} {sv : SV} (hx : S.op x = some sv) : OpG cx S ⟨dst,.assign x,ty,pos,af,gd⟩ (.val sv) :=
  OpG.pure (fun _ => by simp) fun M ε I a w hs => ⟨hs.on hx,by simp [execOp,hs.eval hx]⟩
theorem o_bin {op : BinOp} {x y : Operand} {t t' : TypeId} {a b : Int} {r : Value} (hx : S.op x = some (.i a)) (hy : S.op y = some (.i b))
    (hr : ∀ w,(do eqGuard op t x y (.int .i64 a) (.int .i64 b); binOp op t (.int .i64 a) (.int .i64 b) : Sem Value).run cx.P w = .ok r w) :
    OpG cx S ⟨dst,.binOp op t x y t',ty,pos,af,gd⟩ (.val (.e (.a (.v r)))) :=
  OpG.pure (fun _ => by simp) fun M ε I ac w hs => ⟨trivial,by
    have h1 := hs.eval hx; have h2 := hs.eval hy
    simp only [SV.den,El.den,At.den] at h1 h2
    simp only [execOp,h1,h2]
    rw [Sem.run_bind,hr]
    rfl⟩
section
variable {x y : Operand} {t t' : TypeId} {a b : Int}
theorem o_addw (hx : S.op x = some (.i a)) (hy : S.op y = some (.i b)) : OpG cx S ⟨dst,.binOp .add t x y t',ty,pos,af,gd⟩ (.val (.i (IntKind.i64.wrap (a + b)))) :=
  o_bin hx hy fun w => by simp [eqGuard,binOp,Op.intArith]
theorem o_subw (hx : S.op x = some (.i a)) (hy : S.op y = some (.i b)) : OpG cx S ⟨dst,.binOp .sub t x y t',ty,pos,af,gd⟩ (.val (.i (IntKind.i64.wrap (a - b)))) :=
  o_bin hx hy fun w => by simp [eqGuard,binOp,Op.intArith]
theorem o_mulw (hx : S.op x = some (.i a)) (hy : S.op y = some (.i b)) : OpG cx S ⟨dst,.binOp .mul t x y t',ty,pos,af,gd⟩ (.val (.i (IntKind.i64.wrap (a * b)))) :=
  o_bin hx hy fun w => by simp [eqGuard,binOp,Op.intArith]
theorem o_add (hx : S.op x = some (.i a)) (hy : S.op y = some (.i b)) (h1 : -9223372036854775808 ≤ a + b) (h2 : a + b ≤ 9223372036854775807) : OpG cx S ⟨dst,.binOp .add t x y t',ty,pos,af,gd⟩ (.val (.i (a + b))) := by
  have := o_addw (cx := cx) (dst := dst) (ty := ty) (pos := pos) (af := af) (gd := gd) (t := t) (t' := t') hx hy; rwa [wrap_in h1 h2] at this
theorem o_sub (hx : S.op x = some (.i a)) (hy : S.op y = some (.i b)) (h1 : -9223372036854775808 ≤ a - b) (h2 : a - b ≤ 9223372036854775807) : OpG cx S ⟨dst,.binOp .sub t x y t',ty,pos,af,gd⟩ (.val (.i (a - b))) := by
  have := o_subw (cx := cx) (dst := dst) (ty := ty) (pos := pos) (af := af) (gd := gd) (t := t) (t' := t') hx hy; rwa [wrap_in h1 h2] at this
theorem o_mul (hx : S.op x = some (.i a)) (hy : S.op y = some (.i b)) (h1 : -9223372036854775808 ≤ a * b) (h2 : a * b ≤ 9223372036854775807) : OpG cx S ⟨dst,.binOp .mul t x y t',ty,pos,af,gd⟩ (.val (.i (a * b))) := by
  have := o_mulw (cx := cx) (dst := dst) (ty := ty) (pos := pos) (af := af) (gd := gd) (t := t) (t' := t') hx hy; rwa [wrap_in h1 h2] at this
theorem o_lss (hx : S.op x = some (.i a)) (hy : S.op y = some (.i b)) : OpG cx S ⟨dst,.binOp .lss t x y t',ty,pos,af,gd⟩ (.val (.b (decide (a < b)))) :=
  o_bin hx hy fun w => by simp [eqGuard,binOp,Op.intCmp]
theorem o_leq (hx : S.op x = some (.i a)) (hy : S.op y = some (.i b)) : OpG cx S ⟨dst,.binOp .leq t x y t',ty,pos,af,gd⟩ (.val (.b (decide (a ≤ b)))) :=
  o_bin hx hy fun w => by simp [eqGuard,binOp,Op.intCmp]
theorem o_gtr (hx : S.op x = some (.i a)) (hy : S.op y = some (.i b)) : OpG cx S ⟨dst,.binOp .gtr t x y t',ty,pos,af,gd⟩ (.val (.b (decide (b < a)))) :=
  o_bin hx hy fun w => by simp [eqGuard,binOp,Op.intCmp]
theorem o_geq (hx : S.op x = some (.i a)) (hy : S.op y = some (.i b)) : OpG cx S ⟨dst,.binOp .geq t x y t',ty,pos,af,gd⟩ (.val (.b (decide (b ≤ a)))) :=
  o_bin hx hy fun w => by simp [eqGuard,binOp,Op.intCmp]
theorem o_eql (hx : S.op x = some (.i a)) (hy : S.op y = some (.i b)) : OpG cx S ⟨dst,.binOp .eql t x y t',ty,pos,af,gd⟩ (.val (.b (decide (a = b)))) :=
  o_bin hx hy fun w => by simp [eqGuard,binOp,Op.intCmp]; rfl
theorem o_neq (hx : S.op x = some (.i a)) (hy : S.op y = some (.i b)) : OpG cx S ⟨dst,.binOp .neq t x y t',ty,pos,af,gd⟩ (.val (.b (decide (a ≠ b)))) :=
  o_bin hx hy fun w => by simp [eqGuard,binOp,Op.intCmp]; rfl
theorem o_not {b : Bool} (hx : S.op x = some (.b b)) : OpG cx S ⟨dst,.unOp .not t x,ty,pos,af,gd⟩ (.val (.b (!b))) :=
  OpG.pure (fun _ => by simp) fun M ε I ac w hs => ⟨trivial,by
    have h := hs.eval hx
    simp only [SV.den,El.den,At.den] at h
    simp [execOp,h,Op.unary,SV.den,El.den,At.den]⟩
end
theorem o_pick {c x y : Operand} {b : Bool} {sv : SV} (hc : S.op c = some (.b b))
    (hxy : ∀ M ε I a w,SatM cx M ε I S a w → sv.on ε.γ M ∧ (if b then a.eval x else a.eval y) = sv.den ε) : OpG cx S ⟨dst,.pick c x y,ty,pos,af,gd⟩ (.val sv) :=
  OpG.pure (fun _ => by simp) fun M ε I a w hs => by
    obtain ⟨h1,h2⟩ := hxy M ε I a w hs
    refine ⟨h1,?_⟩
    have h := hs.eval hc
    simp only [SV.den,El.den,At.den] at h
    simp [execOp,h,asBool,h2]
theorem o_and {c x : Operand} {b b' y : Bool} {g : Nat} (hc : S.op c = some (.b b)) (hx : S.op x = some (.c g (.a (.v (.bool y))))) (hg : look g S.G = some b') (hb : b = true → b' = true) :
    OpG cx S ⟨dst,.pick c x (.const (.bool false)),ty,pos,af,gd⟩ (.val (.b (b && y))) :=
  o_pick hc fun M ε I a w hs => ⟨trivial,by
    have h1 := hs.eval hx
    have h2 := hs.G g b' hg
    cases b with
    | false => rfl
    | true => simp only [if_true,h1,SV.den,El.den,At.den,h2,hb rfl,cond_true,Bool.true_and]⟩
theorem o_or {c x : Operand} {b b' y : Bool} {g : Nat} (hc : S.op c = some (.b b)) (hx : S.op x = some (.c g (.a (.v (.bool y))))) (hg : look g S.G = some b') (hb : b = false → b' = true) :
    OpG cx S ⟨dst,.pick c (.const (.bool true)) x,ty,pos,af,gd⟩ (.val (.b (b || y))) :=
  o_pick hc fun M ε I a w hs => ⟨trivial,by
    have h1 := hs.eval hx
    have h2 := hs.G g b' hg
    cases b with
    | true => rfl
    | false =>
      simp only [Bool.false_eq_true,if_false,h1,SV.den,El.den,At.den,h2,hb rfl,cond_true,Bool.false_or]⟩
theorem o_fldp {x : Operand} {T : TypeId} {f off k o : Nat} (hf : Fld cx.P T f off) (hx : S.op x = some (.e (.a (.p k o)))) : OpG cx S ⟨dst,.fieldAddr T x f,ty,pos,af,gd⟩ (.val (.e (.a (.p k (o + off))))) :=
  OpG.pure (fun _ => by simp) fun M ε I a w hs => ⟨hs.on (sv := .e (.a (.p k o))) hx,by
    have h := hs.eval hx
    simp only [SV.den,El.den,At.den] at h
    simp [execOp,h,hf _ _,Addr.add_plain,SV.den,El.den,At.den]⟩
theorem PP.base {α : Type} {E : EP α} {y : α} {I : IH} {v : Value} (h : (PP E y).h I v) : ∃ ad,v = .pointer (some ad) ∧ ad.spot = none := by
  obtain ⟨ad,_,h1,h2,_⟩ := h; exact ⟨ad,h1,h2⟩
theorem o_fldq {x : Operand} {T : TypeId} {f off j : Nat} {α : Type} {E : EP α} {y : α} (hf : Fld cx.P T f off) (hx : S.op x = some (.e (.a (.q j)))) (hj : Has S.X j (PP E y)) :
    OpG cx S ⟨dst,.fieldAddr T x f,ty,pos,af,gd⟩ (.val (.e (.a (.e j off)))) :=
  OpG.pure (fun _ => by simp) fun M ε I a w hs => ⟨hs.on (sv := .e (.a (.q j))) hx,by
    have h := hs.eval hx
    obtain ⟨ad,h1,h2⟩ := PP.base (hs.has hj)
    simp only [SV.den,El.den,At.den,h1] at h
    simp [execOp,h,hf _ _,SV.den,El.den,At.den,h1,padd]⟩
theorem o_flde {x : Operand} {T : TypeId} {f off j o : Nat} {α : Type} {E : EP α} {y : α} (hf : Fld cx.P T f off) (hx : S.op x = some (.e (.a (.e j o)))) (hj : Has S.X j (PP E y)) :
    OpG cx S ⟨dst,.fieldAddr T x f,ty,pos,af,gd⟩ (.val (.e (.a (.e j (o + off))))) :=
  OpG.pure (fun _ => by simp) fun M ε I a w hs => ⟨hs.on (sv := .e (.a (.e j o))) hx,by
    have h := hs.eval hx
    obtain ⟨ad,h1,h2⟩ := PP.base (hs.has hj)
    simp only [SV.den,El.den,At.den,h1,padd] at h
    simp [execOp,h,hf _ _,SV.den,El.den,At.den,h1,padd,Addr.add_add h2]⟩
theorem run_load1 {P : Program} {T : TypeId} (hT : TyS P T) {w : World} {a : Addr} {v : Value} (h : w.cell? a = some v) : (Instr.loadAt T (.pointer (some a))).run P w = .ok v w := by
  simp [Instr.loadAt,Instr.sureAddr,loadVar,hT.ag,load,Sem.run,h]
theorem run_loadg {P : Program} {T : TypeId} {m : Nat} (hT : TyG P T m) {w : World} {a : Addr} {cs : List Value} (hm : cs.length = m) (h : ∀ j v,cs[j]? = some v → w.cell? (a.add j) = some v) :
    (Instr.loadAt T (.pointer (some a))).run P w = .ok (.agg cs.toArray) w := by
  have := run_loadCells_list (P := P) (w := w) a cs h
  rw [hm] at this
  simp [Instr.loadAt,Instr.sureAddr,loadVar,hT.ag,hT.sz,this]
theorem SatM.blk {cx : Cx} {M : Nat → Prop} {ε : Env} {I : IH} {S : St} {a : Act} {w : World} (hs : SatM cx M ε I S a w) {k : Nat} {cs : List At} {T : TypeId} (h : look k S.L = some (.blk cs T)) (j : Nat) :
    w.cell? ⟨ε.β k,j,none⟩ = (cs[j]?).map (At.den ε) := by
  have := hs.L k _ h
  simp only [Ent.ok] at this
  simp [World.cell?,this]
theorem SatM.blk_on {cx : Cx} {M : Nat → Prop} {ε : Env} {I : IH} {S : St} {a : Act} {w : World} (hs : SatM cx M ε I S a w) {k : Nat} {cs : List At} {T : TypeId} (h : look k S.L = some (.blk cs T)) : ∀ c ∈ cs,c.on M :=
  (hs.wfL k _ h).2
theorem o_ldp {x : Operand} {T T' : TypeId} {k o : Nat} {cs : List At} {y : At} (hT : TyS cx.P T) (hx : S.op x = some (.e (.a (.p k o)))) (hk : look k S.L = some (.blk cs T')) (hy : cs[o]? = some y) :
    OpG cx S ⟨dst,.load T x,ty,pos,af,gd⟩ (.val (.e (.a y))) :=
  OpG.pure (fun _ => by simp) fun M ε I a w hs => ⟨hs.blk_on hk y (List.mem_of_getElem? hy),by
    have h := hs.eval hx
    simp only [SV.den,El.den,At.den] at h
    have h2 := hs.blk hk o
    rw [hy] at h2
    simp [execOp,h,run_load1 hT h2,SV.den,El.den]⟩
theorem o_ldpg {x : Operand} {T T' : TypeId} {k o m : Nat} {cs : List At} (hT : TyG cx.P T m) (hx : S.op x = some (.e (.a (.p k o)))) (hk : look k S.L = some (.blk cs T')) (hm : Nat.ble (o + m) cs.length = true) :
    OpG cx S ⟨dst,.load T x,ty,pos,af,gd⟩ (.val (.e (.g ((cs.drop o).take m)))) :=
  OpG.pure (fun _ => by simp) fun M ε I a w hs => ⟨fun c hc => hs.blk_on hk c (List.mem_of_mem_drop (List.mem_of_mem_take hc)),by
    have h := hs.eval hx
    simp only [SV.den,El.den,At.den] at h
    have hm' : o + m ≤ cs.length := by simpa using hm
    have := run_loadg hT (w := w) (a := ⟨ε.β k,o,none⟩) (cs := ((cs.drop o).take m).map (At.den ε)) (by simp; omega) (fun j v hj => by
      rw [Addr.add_plain,hs.blk hk]
      rw [List.getElem?_map,List.getElem?_take] at hj
      split at hj
      · rw [List.getElem?_drop] at hj; exact hj
      · cases hj)
    simp [execOp,h,this,SV.den,El.den]⟩
theorem o_ldpa {x : Operand} {T T' : TypeId} {k m : Nat} {cs : List At} (hT : TyG cx.P T m) (hx : S.op x = some (.e (.a (.p k 0)))) (hk : look k S.L = some (.blk cs T')) (hm : cs.length = m) :
    OpG cx S ⟨dst,.load T x,ty,pos,af,gd⟩ (.val (.e (.g cs))) := by
  have := o_ldpg (dst := dst) (ty := ty) (pos := pos) (af := af) (gd := gd) hT hx hk (by simp [hm])
  rwa [List.drop_zero,List.take_of_length_le (by omega)] at this
theorem PP.cell {α : Type} {E : EP α} {y : α} {I : IH} {v : Value} {w : World} (h : (PP E y).h I v) (hI : I.on w) : ∃ ad cs,v = .pointer (some ad) ∧ ad.spot = none ∧ E.h I cs y ∧ ∀ j z,cs[j]? = some z → w.cell? (ad.add j) = some z := by
  obtain ⟨ad,cs,h1,h2,h3,h4⟩ := h
  exact ⟨ad,cs,h1,h2,h3,fun j z hj => IH.cell_on hI (h4 j z hj)⟩
theorem o_lde {x : Operand} {T : TypeId} {j o : Nat} {α : Type} {E : EP α} {y : α} {z : Value} (hT : TyS cx.P T) (hx : S.op x = some (.e (.a (.e j o)))) (hj : Has S.X j (PP E y)) (hz : ∀ I cs,E.h I cs y → cs[o]? = some z) :
    OpG cx S ⟨dst,.load T x,ty,pos,af,gd⟩ (.val (.e (.a (.v z)))) :=
  OpG.pure (fun _ => by simp) fun M ε I a w hs => ⟨trivial,by
    have h := hs.eval hx
    obtain ⟨ad,cs,h1,h2,h3,h4⟩ := PP.cell (hs.has hj) hs.imm
    simp only [SV.den,El.den,At.den,h1,padd] at h
    simp [execOp,h,run_load1 hT (h4 o z (hz I cs h3)),SV.den,El.den,At.den]⟩
theorem o_ldq {x : Operand} {T : TypeId} {j : Nat} {α : Type} {E : EP α} {y : α} {z : Value} (hT : TyS cx.P T) (hx : S.op x = some (.e (.a (.q j)))) (hj : Has S.X j (PP E y)) (hz : ∀ I cs,E.h I cs y → cs[0]? = some z) :
    OpG cx S ⟨dst,.load T x,ty,pos,af,gd⟩ (.val (.e (.a (.v z)))) :=
  OpG.pure (fun _ => by simp) fun M ε I a w hs => ⟨trivial,by
    have h := hs.eval hx
    obtain ⟨ad,cs,h1,h2,h3,h4⟩ := PP.cell (hs.has hj) hs.imm
    simp only [SV.den,El.den,At.den,h1] at h
    have h5 := h4 0 z (hz I cs h3)
    rw [Addr.add_zero'] at h5
    simp [execOp,h,run_load1 hT h5,SV.den,El.den,At.den]⟩
theorem o_ldqg {x : Operand} {T : TypeId} {j m : Nat} {α : Type} {E : EP α} {y : α} {zs : List Value} {asv : List At} (hT : TyG cx.P T m) (hx : S.op x = some (.e (.a (.q j)))) (hj : Has S.X j (PP E y)) (hz : ∀ I cs,E.h I cs y → (cs.drop 0).take m = zs) (hm : zs.length = m) (has : asv = zs.map .v) :
    OpG cx S ⟨dst,.load T x,ty,pos,af,gd⟩ (.val (.e (.g asv))) :=
  OpG.pure (fun _ => by simp) fun M ε I a w hs => ⟨by subst has; intro c hc; obtain ⟨z,_,rfl⟩ := List.mem_map.1 hc; trivial,by
    have h := hs.eval hx
    obtain ⟨ad,cs,h1,h2,h3,h4⟩ := PP.cell (hs.has hj) hs.imm
    simp only [SV.den,El.den,At.den,h1] at h
    have hz' := hz I cs h3
    have := run_loadg hT (w := w) (a := ad) (cs := zs) hm (fun i v hi => by
      refine h4 _ v ?_
      rw [← hz',List.getElem?_take] at hi
      split at hi
      · rw [List.getElem?_drop] at hi; simpa using hi
      · cases hi)
    subst has
    simp [execOp,h,this,SV.den,El.den,List.map_map,Function.comp_def,At.den]⟩
theorem fixg {α : Type} {n : Nat} {enc : α → List Value} {hn : ∀ x,(enc x).length = n} {x : α} {o m : Nat} {zs : List Value} (hz : ((enc x).drop o).take m = zs) : ∀ I cs,(EP.fix n enc hn).h I cs x → (cs.drop o).take m = zs := fun _ _ h => by
  have h : _ = _ := h
  rw [h]; exact hz
end ops
end Go.Eng
namespace Go.Eng
open Go
def upd {α : Type} (f : Nat → α) (k : Nat) (v : α) : Nat → α := fun i => if i = k then v else f i
theorem upd_same {α : Type} (f : Nat → α) (k : Nat) (v : α) : upd f k v k = v := by simp [upd]
theorem upd_other {α : Type} (f : Nat → α) {k i : Nat} (v : α) (h : i ≠ k) : upd f k v i = f i := by simp [upd,h]
theorem look_one {α : Type} {i k : Nat} {x y : α} (h : look i [(k,x)] = some y) : i = k ∧ y = x := by
  rw [look_cons] at h
  by_cases hk : k = i
  · subst hk; simp at h; exact ⟨rfl,h.symm⟩
  · simp [hk,look] at h
theorem IH.on_lt {I : IH} {w : World} (h : I.on w) {b : Nat} {o : Obj} (hb : I b = some o) : b < w.heap.size := (Array.getElem?_eq_some_iff.1 (h b o hb)).1
theorem IH.none_ge {I : IH} {w : World} (h : I.on w) {b : Nat} (hb : w.heap.size ≤ b) : I b = none := by
  cases hI : I b with
  | none => rfl
  | some o => have := IH.on_lt h hI; omega
theorem IH.on_alloc {I : IH} {w : World} (h : I.on w) (o : Obj) : I.on (w.alloc o) := fun b o' hb => by
  rw [heap_alloc_old w o (IH.on_lt h hb)]; exact h b o' hb
theorem Tr.alloc {n0 : Nat} {ε : Env} {I : IH} {w : World} {fp : Nat → Prop} (hI : I.on w) (k : Nat) (o : Obj) (v : Value) : Tr n0 ε ⟨upd ε.β k w.heap.size,upd ε.ν k v,ε.γ⟩ I I w (w.alloc o) [k] fp :=
  ⟨fun i hi => by
      have : i ≠ k := fun e => hi (by simp [e])
      exact ⟨upd_other _ _ this,upd_other _ _ this,rfl⟩,
    IH.le.rfl',IH.on_alloc hI o,rfl,rfl,Out.rf,by simp,fun b hb _ => heap_alloc_old w o hb,fun _ _ h => .inl h⟩
theorem OpG.newq {cx : Cx} {S : St} {o : Oper} {R : Pred} {k : Nat} (hnd : ∀ c,o.op ≠ .defer c)
    (h : ∀ M ε I a w,SatM cx M ε I S a w → ∃ u,R.h I u ∧ (execOp a.eval o).run cx.P w = .ok (.value u) w) : OpG cx S o ⟨.e (.a (.q k)),[k],[(k,R)],[],[]⟩ := by
  intro M ε I a w next Q hs hN K
  obtain ⟨u,h1,h2⟩ := h M ε I a w hs
  refine ⟨fun _ _ => trivial,?_⟩
  rw [semAt_eq _ _ _ hnd,h2]
  have := K ⟨ε.β,upd ε.ν k u,ε.γ⟩ I w
    ⟨fun i hi => by
      have : i ≠ k := fun e => hi (by simp [e])
      exact ⟨rfl,upd_other _ _ this,rfl⟩,IH.le.rfl',hs.imm,rfl,rfl,Out.rf,Nat.le_refl _,fun _ _ _ => rfl,fun _ _ h => .inl h⟩
    ⟨.inr (by simp),fun j R' hj => by obtain ⟨rfl,_⟩ := look_one hj; exact .inr (by simp),fun _ _ h => (by cases h),fun _ _ h => (by cases h),
      fun j R' hj => by obtain ⟨rfl,rfl⟩ := look_one hj; simpa only [upd_same] using h1,fun _ _ h => (by cases h),fun _ _ h => (by cases h),fun _ _ _ _ _ h => (by cases h),fun _ _ h => (by cases h)⟩
  simp only [SV.den,El.den,At.den,upd_same] at this
  exact this
section ops
variable {cx : Cx} {S : St} {dst : Option Tmp} {ty : TypeId} {pos : String} {af : Array Edge} {gd : Option (Nat × Bool)}
theorem o_ldex {x : Operand} {T : TypeId} {j o : Nat} {α : Type} {E : EP α} {y : α} {R : Pred} {k : Nat} (hT : TyS cx.P T) (hx : S.op x = some (.e (.a (.e j o)))) (hj : Has S.X j (PP E y)) (hz : ∀ I cs,E.h I cs y → ∃ u,cs[o]? = some u ∧ R.h I u) :
    OpG cx S ⟨dst,.load T x,ty,pos,af,gd⟩ ⟨.e (.a (.q k)),[k],[(k,R)],[],[]⟩ :=
  OpG.newq (fun _ => by simp) fun M ε I a w hs => by
    have h := hs.eval hx
    obtain ⟨ad,cs,h1,h2,h3,h4⟩ := hs.has hj
    simp only [SV.den,El.den,At.den,h1,padd] at h
    obtain ⟨u,h5,h6⟩ := hz I cs h3
    exact ⟨u,h6,by simp [execOp,h,run_load1 hT (IH.cell_on hs.imm (h4 o u h5))]⟩
theorem o_ldqx {x : Operand} {T : TypeId} {j : Nat} {α : Type} {E : EP α} {y : α} {R : Pred} {k : Nat} (hT : TyS cx.P T) (hx : S.op x = some (.e (.a (.q j)))) (hj : Has S.X j (PP E y)) (hz : ∀ I cs,E.h I cs y → ∃ u,cs[0]? = some u ∧ R.h I u) :
    OpG cx S ⟨dst,.load T x,ty,pos,af,gd⟩ ⟨.e (.a (.q k)),[k],[(k,R)],[],[]⟩ :=
  OpG.newq (fun _ => by simp) fun M ε I a w hs => by
    have h := hs.eval hx
    obtain ⟨ad,cs,h1,h2,h3,h4⟩ := hs.has hj
    simp only [SV.den,El.den,At.den,h1] at h
    obtain ⟨u,h5,h6⟩ := hz I cs h3
    have h7 := IH.cell_on hs.imm (h4 0 u h5)
    rw [Addr.add_zero'] at h7
    exact ⟨u,h6,by simp [execOp,h,run_load1 hT h7]⟩
theorem slx {α : Type} {E : EP α} {l : List α} : ∀ I cs,(EP.sl E).h I cs l → ∃ u,cs[0]? = some u ∧ (PL E l).h I u := fun _ _ ⟨v,h,k⟩ => ⟨v,by rw [h]; rfl,k⟩
theorem run_indexAt {P : Program} {T e : TypeId} {sz : Nat} (hT : IsSl P T e sz) {ad : Addr} {len cap : Nat} {i : Int} (h0 : 0 ≤ i) (h1 : i < len) (w : World) :
    (Instr.indexAt T (.slice (some ad) len cap) (.int .i64 i)).run P w = .ok (.pointer (some (ad.add (i.toNat * sz)))) w := by
  obtain ⟨h2,h3⟩ := hT
  simp [Instr.indexAt,asIntOf,run_underlying h2,h0,h1,h3]
theorem PL.elem {α : Type} [Inhabited α] {E : EP α} {l : List α} {I : IH} {v : Value} (h : (PL E l).h I v) {i : Int} (h0 : 0 ≤ i) (h1 : i < l.length) :
    ∃ ad cap,v = .slice (some ad) l.length cap ∧ (PP E (nth l i)).h I (.pointer (some (ad.add (i.toNat * E.size)))) := by
  obtain ⟨a,cap,hv,_,h⟩ := h
  obtain ⟨cs,ad,h2,h3,h4,h5⟩ := h i.toNat (by omega)
  subst h3
  refine ⟨ad,cap,hv,_,cs,rfl,Addr.add_spot h4 _,?_,fun j y hj => ?_⟩
  · have : nth l i = l[i.toNat]'(by omega) := by simp [nth,List.getD_eq_getElem?_getD,List.getElem?_eq_getElem (show i.toNat < l.length by omega)]
    rw [this]; exact h2
  · rw [Addr.add_add h4]; exact h5 j y hj
theorem o_idx {x y : Operand} {T e : TypeId} {j k : Nat} {α : Type} [Inhabited α] {E : EP α} {l : List α} {i : Int} (hT : IsSl cx.P T e E.size) (hx : S.op x = some (.e (.a (.q j)))) (hj : Has S.X j (PL E l)) (hi : S.op y = some (.i i))
    (h0 : 0 ≤ i) (h1 : i < l.length) : OpG cx S ⟨dst,.indexAddr T x y,ty,pos,af,gd⟩ ⟨.e (.a (.q k)),[k],[(k,PP E (nth l i))],[],[]⟩ :=
  OpG.newq (fun _ => by simp) fun M ε I a w hs => by
    have h := hs.eval hx
    have h' := hs.eval hi
    obtain ⟨ad,cap,h2,h3⟩ := PL.elem (hs.has hj) h0 h1
    simp only [SV.den,El.den,At.den,h2] at h
    simp only [SV.den,El.den,At.den] at h'
    exact ⟨_,h3,by simp [execOp,h,h',run_indexAt hT h0 h1 w]⟩
def IsArr (P : Program) (T e : TypeId) (n : Nat) : Prop := P.underlying T = some (.array n e) ∧ (∀ w,(sizeOf e).run P w = .ok 1 w)
theorem o_idxp {x y : Operand} {T e : TypeId} {k n : Nat} {i : Int} (hT : IsArr cx.P T e n) (hx : S.op x = some (.e (.a (.p k 0)))) (hi : S.op y = some (.i i)) (h0 : 0 ≤ i) (h1 : i < n) :
    OpG cx S ⟨dst,.indexAddr T x y,ty,pos,af,gd⟩ (.val (.e (.a (.p k i.toNat)))) :=
  OpG.pure (fun _ => by simp) fun M ε I a w hs => ⟨hs.on (sv := .e (.a (.p k 0))) hx,by
    have h := hs.eval hx
    have h' := hs.eval hi
    obtain ⟨h2,h3⟩ := hT
    simp only [SV.den,El.den,At.den] at h h'
    simp [execOp,h,h',Instr.indexAt,asIntOf,run_underlying h2,h0,h1,h3,Instr.sureAddr,Addr.add_plain,SV.den,El.den,At.den]⟩
theorem newblk {cx : Cx} {S : St} {M : Nat → Prop} {ε : Env} {I : IH} {a : Act} {w : World} (hs : SatM cx M ε I S a w) {k : Nat} (hk : ¬ M k) {cs : List At} (hcs : ∀ c ∈ cs,c.on M) (T : TypeId) (v : Value) :
    New cx M S ε ⟨upd ε.β k w.heap.size,upd ε.ν k v,ε.γ⟩ I w (w.alloc (.cells (cs.map (At.den ε)).toArray T)) ⟨.e (.a (.p k 0)),[k],[],[(k,.blk cs T)],[]⟩ := by
  have hag : Env.agree M ε ⟨upd ε.β k w.heap.size,upd ε.ν k v,ε.γ⟩ := fun i hi => by
    have : i ≠ k := fun e => hk (e ▸ hi)
    exact ⟨upd_other _ _ this,upd_other _ _ this,rfl⟩
  refine ⟨.inr (by simp),fun _ _ h => (by cases h),fun _ _ h => (by cases h),?_,fun _ _ h => (by cases h),?_,?_,?_,fun k x h => by obtain ⟨_,h⟩ := look_one h; cases h⟩
  · intro i e he
    obtain ⟨rfl,rfl⟩ := look_one he
    exact ⟨.inr (by simp),fun c hc => At.on_mono (fun _ => .inl) (hcs c hc)⟩
  · intro i e he
    obtain ⟨rfl,rfl⟩ := look_one he
    simp only [Ent.ok,upd_same]
    rw [List.map_congr_left (fun c hc => At.den_agree hag (hcs c hc))]
    exact heap_alloc_new w _
  · intro i e he b hb
    obtain ⟨rfl,rfl⟩ := look_one he
    simp only [Ent.foot,upd_same] at hb
    subst hb
    exact ⟨.inl hs.keep.size,by simp,IH.none_ge hs.imm (Nat.le_refl _),.inl (Nat.le_refl _)⟩
  · intro i i' e e' b he he' hne
    obtain ⟨rfl,_⟩ := look_one he
    obtain ⟨rfl,_⟩ := look_one he'
    exact absurd rfl hne
theorem OpG.newblk {cx : Cx} {S : St} {o : Oper} {T : TypeId} {k : Nat} {cs : List At} (hnd : ∀ c,o.op ≠ .defer c)
    (h : ∀ M ε I a w,SatM cx M ε I S a w → (∀ c ∈ cs,c.on M) ∧ (execOp a.eval o).run cx.P w = .ok (.value (.pointer (some ⟨w.heap.size,0,none⟩))) (w.alloc (.cells (cs.map (At.den ε)).toArray T))) :
    OpG cx S o ⟨.e (.a (.p k 0)),[k],[],[(k,.blk cs T)],[]⟩ := by
  intro M ε I a w next Q hs hN K
  obtain ⟨h1,h2⟩ := h M ε I a w hs
  refine ⟨fun _ _ => trivial,?_⟩
  rw [semAt_eq _ _ _ hnd,h2]
  have := K _ I _ (Tr.alloc hs.imm k _ undef) (Eng.newblk hs (hN k (by simp)) h1 T undef)
  simp only [SV.den,El.den,At.den,upd_same] at this
  exact this
theorem o_alloc {T : TypeId} {k : Nat} {cs : List At} (hz : Zero cx.P T cs) : OpG cx S ⟨dst,.alloc T,ty,pos,af,gd⟩ ⟨.e (.a (.p k 0)),[k],[],[(k,.blk cs T)],[]⟩ :=
  OpG.newblk (fun _ => by simp) fun M ε I a w hs => by
    obtain ⟨z,h1,h2,h3⟩ := hz
    exact ⟨h3 M,by simp [execOp,Instr.alloc,h1,newVar,newRow,newObj,Sem.run,h2 ε]⟩
theorem o_box {x : Operand} {T : TypeId} {k : Nat} {cs : List At} {z : El} (hx : S.op x = some (.e z)) (hc : z.cells = cs) (hz : ∀ ε,(z.den ε).cells = (z.cells.map (At.den ε)).toArray) : OpG cx S ⟨dst,.box T x,ty,pos,af,gd⟩ ⟨.e (.a (.p k 0)),[k],[],[(k,.blk cs T)],[]⟩ :=
  OpG.newblk (fun _ => by simp) fun M ε I a w hs => by
    subst hc
    have h := hs.eval hx
    have h' := hs.on hx
    refine ⟨?_,by simp [execOp,h,SV.den,Instr.box,newVar,newRow,newObj,Sem.run,hz ε]⟩
    cases z with
    | a y => intro c hc; rw [El.cells,List.mem_singleton] at hc; subst hc; exact h'
    | g l => exact h'
theorem o_boxg {x : Operand} {T : TypeId} {k : Nat} {cs : List At} (hx : S.op x = some (.e (.g cs))) : OpG cx S ⟨dst,.box T x,ty,pos,af,gd⟩ ⟨.e (.a (.p k 0)),[k],[],[(k,.blk cs T)],[]⟩ :=
  o_box hx rfl (fun _ => rfl)
def At.one (S : St) : At → Prop
  | .v y => y.oneCell' = true
  | .q j => (∃ R,Has S.X j R ∧ ∀ I v,R.h I v → v.oneCell' = true) ∨ ∃ T sz n R,look j S.L = some (.own T sz n R)
  | .e _ _ => False
  | _ => True
theorem PL.one {α : Type} {E : EP α} {l : List α} : ∀ I v,(PL E l).h I v → v.oneCell' = true := by
  rintro I v ⟨a,cap,rfl,_⟩; rfl
theorem SatM.one {cx : Cx} {M : Nat → Prop} {ε : Env} {I : IH} {S : St} {a : Act} {w : World} (hs : SatM cx M ε I S a w) {y : At} (h : y.one S) : (y.den ε).oneCell' = true := by
  cases y with
  | v y => exact h
  | q j =>
    rcases h with ⟨R,h1,h2⟩ | ⟨T,sz,n,R,h1⟩
    · exact h2 I _ (hs.has h1)
    · obtain ⟨xs,⟨_,h2⟩,_⟩ := hs.L j _ h1
      show (ε.ν j).oneCell' = true
      rcases h2 with ⟨h2,_⟩ | ⟨g,cap,cur,h2,_⟩ <;> rw [h2] <;> rfl
  | e j o => exact h.elim
  | p k o => rfl
  | s k n => rfl
  | f fn js => rfl
theorem cells_one {v : Value} (h : v.oneCell' = true) : v.cells = #[v] := by
  cases v <;> first | rfl | (simp [Value.oneCell'] at h)
def OneAll (S : St) : List At → Prop
  | [] => True
  | c :: t => c.one S ∧ OneAll S t
theorem OneAll.mem {S : St} : ∀ {l : List At},OneAll S l → ∀ c ∈ l,c.one S
  | _ :: _,h,_,hc => by
    rcases List.mem_cons.1 hc with rfl | hc
    · exact h.1
    · exact OneAll.mem h.2 _ hc
theorem o_boxa {x : Operand} {T : TypeId} {k : Nat} {y : At} (hx : S.op x = some (.e (.a y))) (hy : y.one S) : OpG cx S ⟨dst,.box T x,ty,pos,af,gd⟩ ⟨.e (.a (.p k 0)),[k],[],[(k,.blk [y] T)],[]⟩ :=
  OpG.newblk (fun _ => by simp) fun M ε I a w hs => by
    have h := hs.eval hx
    refine ⟨?_,by simp [execOp,h,SV.den,El.den,Instr.box,newVar,newRow,newObj,Sem.run,cells_one (hs.one hy)]⟩
    intro c hc; rw [List.mem_singleton] at hc; subst hc; exact hs.on (sv := .e (.a c)) hx
theorem run_storeCells_blk (P : Program) (g : Nat) (T : TypeId) : ∀ (ys : List Value) (o i : Nat) (cur : List Value) (w : World),w.heap[g]? = some (.cells cur.toArray T (0,0)) → o + i + ys.length ≤ cur.length → (∀ y ∈ ys,y.oneCell' = true) →
    ∃ w',(storeCells ⟨g,o,none⟩ ys i).run P w = .ok () w' ∧ w'.heap[g]? = some (.cells (cur.take (o + i) ++ ys ++ cur.drop (o + i + ys.length)).toArray T (0,0)) ∧ w'.os = w.os ∧ w'.tape = w.tape ∧ Out w' w ∧ w'.heap.size = w.heap.size ∧ ∀ b,b ≠ g → w'.heap[b]? = w.heap[b]?
  | [],o,i,cur,w,hg,hl,h1 => ⟨w,by simp [storeCells],by simpa using hg,rfl,rfl,Out.rf,rfl,fun _ _ => rfl⟩
  | y :: ys,o,i,cur,w,hg,hl,h1 => by
    have hlt : o + i < cur.length := by simp at hl; omega
    have hc : w.cell? ⟨g,o + i,none⟩ = some (cur[o + i]'hlt) := by simp [World.cell?,hg,hlt]
    have hf : w.frozen? ⟨g,o + i,none⟩ = false := by simp [World.frozen?,hg]
    have hg' : (w.setCell ⟨g,o + i,none⟩ y).heap[g]? = some (.cells (cur.set (o + i) y).toArray T (0,0)) := by
      have := heap_setCell_same w g (o + i) cur.toArray T y hg
      simpa using this
    obtain ⟨w',h2,h3,h4,h5,h6,h7,h8⟩ := run_storeCells_blk P g T ys o (i + 1) (cur.set (o + i) y) (w.setCell ⟨g,o + i,none⟩ y) hg' (by simp at hl ⊢; omega) (fun z hz => h1 z (List.mem_cons_of_mem _ hz))
    refine ⟨w',?_,?_,h4,h5,h6,by rw [h7]; simp [World.setCell],fun b hb => by rw [h8 b hb]; exact heap_setCell_other w _ b y hb⟩
    · have hy := h1 y List.mem_cons_self
      rw [storeCells,Sem.run_bind,Addr.add_plain]
      have : (store ⟨g,o + i,none⟩ y).run P w = .ok () (w.setCell ⟨g,o + i,none⟩ y) := by
        cases y <;> first | (simp [Value.oneCell'] at hy; done) | simp [store,Sem.run,hc,hf]
      rw [this]
      exact h2
    · rw [h3]
      refine congrArg (fun l : List Value => some (Obj.cells l.toArray T (0,0))) ?_
      apply List.ext_getElem?
      intro m
      simp only [List.getElem?_append,List.length_append,List.length_take,List.length_set,List.getElem?_take,List.getElem?_drop,List.getElem?_set,List.length_cons,List.getElem?_cons]
      have e1 : min (o + i) cur.length = o + i := by omega
      have e2 : min (o + (i + 1)) cur.length = o + (i + 1) := by omega
      simp only [e1,e2]
      by_cases c1 : m < o + i
      · have : ¬ (o + i = m) := by omega
        have c2 : m < o + (i + 1) := by omega
        have c3 : m < o + i + (ys.length + 1) := by omega
        have c4 : m < o + (i + 1) + ys.length := by omega
        simp [c1,this,c2,c3,c4]
      · by_cases c5 : m = o + i
        · subst c5
          simp [hlt]
          intro h; omega
        · have c6 : ¬ m < o + (i + 1) := by omega
          have c7 : ¬ (m - (o + i) = 0) := by omega
          have c8 : m - (o + i) - 1 = m - (o + (i + 1)) := by omega
          by_cases c9 : m < o + i + (ys.length + 1)
          · have : m < o + (i + 1) + ys.length := by omega
            simp [c1,c6,c7,c8,c9,this]
          · have : ¬ m < o + (i + 1) + ys.length := by omega
            have e3 : o + i + (ys.length + 1) + (m - (o + i + (ys.length + 1))) = o + (i + 1) + ys.length + (m - (o + (i + 1) + ys.length)) := by omega
            have c10 : ¬ (o + i = o + (i + 1) + ys.length + (m - (o + (i + 1) + ys.length))) := by omega
            simp [c9,this,e3,c10]
def splice (cs : List At) (o : Nat) (ys : List At) : List At := cs.take o ++ ys ++ cs.drop (o + ys.length)
theorem o_stg {x y : Operand} {T T' : TypeId} {k o m : Nat} {cs ys : List At} {ev : El} (hT : ∀ w,(sizeOf T).run cx.P w = .ok m w) (hx : S.op x = some (.e (.a (.p k o)))) (hk : look k S.L = some (.blk cs T')) (hy : S.op y = some (.e ev))
    (hev : ∀ M ε I a w,SatM cx M ε I S a w → (ev.den ε).cells = (ys.map (At.den ε)).toArray ∧ (∀ c ∈ ys,c.on M) ∧ ∀ c ∈ ys,(c.den ε).oneCell' = true) (hm : ys.length = m) (ho : Nat.ble (o + m) cs.length = true) {sv : SV} (hsv : sv = .e (.a (.v undef))) :
    OpG cx S ⟨none,.store T x y,ty,pos,af,none⟩ ⟨sv,[],[],[(k,.blk (splice cs o ys) T')],[]⟩ := by
  intro M ε I a w next Q hs hN K
  subst hsv
  obtain ⟨he1,he2,he3⟩ := hev M ε I a w hs
  have h1 := hs.eval hx
  have h2 := hs.eval hy
  simp only [SV.den,El.den,At.den] at h1
  simp only [SV.den] at h2
  have hb := hs.L k _ hk
  simp only [Ent.ok] at hb
  have ho' : o + m ≤ cs.length := by simpa using ho
  obtain ⟨w',h3,h4,h5,h6,h7,h8,h9⟩ := run_storeCells_blk cx.P (ε.β k) T' (ys.map (At.den ε)) o 0 (cs.map (At.den ε)) w hb (by simp; omega) (fun z hz => by obtain ⟨c,hc,rfl⟩ := List.mem_map.1 hz; exact he3 c hc)
  refine ⟨fun _ _ => trivial,?_⟩
  rw [semAt_eq _ _ _ (fun _ => by simp)]
  have hrun : (execOp a.eval ⟨none,.store T x y,ty,pos,af,none⟩).run cx.P w = .ok .skip w' := by
    simp [execOp,h1,h2,Instr.storeAt,Instr.sureAddr,storeVar,hT,he1,hm,h3]
  rw [hrun]
  have hfoot := hs.foot k _ hk (ε.β k) rfl
  have hfp : fpOf S ε ⟨.e (.a (.v undef)),[],[],[(k,.blk (splice cs o ys) T')],[]⟩ (ε.β k) := ⟨k,_,by simp [look],hk,rfl⟩
  refine K ε I w' ⟨fun _ _ => ⟨rfl,rfl,rfl⟩,IH.le.rfl',?_,h5,h6,h7,by omega,fun b _ hb' => h9 b (fun e => hb' (e ▸ hfp)),fun _ _ h => .inl h⟩
    ⟨trivial,fun _ _ h => (by cases h),fun _ _ h => (by cases h),?_,fun _ _ h => (by cases h),?_,?_,?_,fun k x h => by obtain ⟨_,h⟩ := look_one h; cases h⟩
  · intro b o' hb'
    rw [h9 b (fun e => by rw [e,hfoot.2.2] at hb'; cases hb')]
    exact hs.imm b o' hb'
  · intro i e he
    obtain ⟨rfl,rfl⟩ := look_one he
    refine ⟨.inl (hs.wfL i _ hk).1,fun c hc => At.on_mono (fun _ => .inl) ?_⟩
    have hcs := hs.blk_on hk
    simp only [splice,List.mem_append] at hc
    rcases hc with (hc | hc) | hc
    · exact hcs c (List.mem_of_mem_take hc)
    · exact he2 c hc
    · exact hcs c (List.mem_of_mem_drop hc)
  · intro i e he
    obtain ⟨rfl,rfl⟩ := look_one he
    simp only [Ent.ok]
    rw [h4]
    simp [splice,List.map_take,List.map_drop]
  · intro i e he b hb'
    obtain ⟨rfl,rfl⟩ := look_one he
    simp only [Ent.foot] at hb'
    subst hb'
    exact ⟨hfoot.1,by rw [h8]; exact hfoot.2.1,hfoot.2.2,.inr hfp⟩
  · intro i i' e e' b he he' hne
    obtain ⟨rfl,_⟩ := look_one he
    obtain ⟨rfl,_⟩ := look_one he'
    exact absurd rfl hne
theorem o_sta {x y : Operand} {T T' : TypeId} {k o : Nat} {cs : List At} {z : At} (hT : TyS cx.P T) (hx : S.op x = some (.e (.a (.p k o)))) (hk : look k S.L = some (.blk cs T')) (hy : S.op y = some (.e (.a z))) (hz : z.one S) (ho : Nat.ble (o + 1) cs.length = true) :
    OpG cx S ⟨none,.store T x y,ty,pos,af,none⟩ ⟨.e (.a (.v undef)),[],[],[(k,.blk (splice cs o [z]) T')],[]⟩ :=
  o_stg hT.sz hx hk hy (fun _ _ _ _ _ hs => ⟨by simp [El.den,cells_one (hs.one hz)],fun c hc => by rw [List.mem_singleton] at hc; subst hc; exact hs.on (sv := .e (.a c)) hy,fun c hc => by rw [List.mem_singleton] at hc; subst hc; exact hs.one hz⟩) rfl ho rfl
theorem o_stag {x y : Operand} {T T' : TypeId} {k o m : Nat} {cs ys : List At} (hT : TyG cx.P T m) (hx : S.op x = some (.e (.a (.p k o)))) (hk : look k S.L = some (.blk cs T')) (hy : S.op y = some (.e (.g ys))) (hz : OneAll S ys) (hm : ys.length = m) (ho : Nat.ble (o + m) cs.length = true) :
    OpG cx S ⟨none,.store T x y,ty,pos,af,none⟩ ⟨.e (.a (.v undef)),[],[],[(k,.blk (splice cs o ys) T')],[]⟩ :=
  o_stg hT.sz hx hk hy (fun _ _ _ _ _ hs => ⟨rfl,fun c hc => hs.on (sv := .e (.g ys)) hy c hc,fun c hc => hs.one (hz.mem c hc)⟩) hm ho rfl
end ops
end Go.Eng
namespace Go.Eng
open Go
def CtR (I : IH) (w : World) (E : Nat → Prop) (sv : SV) (X : List (Nat × Pred)) : Ending → World → Prop := fun e w' =>
  ∃ I' us,e = .returned (sv.den ⟨fun _ => 0,us,fun _ => true⟩) ∧ Keep E w w' ∧ I.le I' ∧ I'.on w' ∧ (∀ b o,I' b = some o → I b = some o ∨ w.heap.size ≤ b) ∧ ∀ j R,look j X = some R → R.h I' (us j)
def Ct (P : Program) (f : FuncId) (args : Array Value) (I : IH) (w : World) (E : Nat → Prop) (sv : SV) (X : List (Nat × Pred)) : Prop :=
  CallsIn Fence.wide 0 P f args w (CtR I w E sv X)
theorem callsIn_fen {r : Option Nat} {P : Program} {f : FuncId} {args : Array Value} {w : World} {R : Ending → World → Prop} (h : CallsIn Fence.wide 0 P f args w R) : CallsIn (fen r) 0 P f args w R := by
  cases r with
  | none => exact h
  | some l => exact h
def Enters' (P : Program) (f : FuncId) : Prop := ∀ args w,(callFunc f args).run P w = .ok (.enter f args) w
def At.res (J : List Nat) : At → Prop
  | .v _ => True
  | .q j => j ∈ J
  | _ => False
def El.res (J : List Nat) : El → Prop
  | .a x => x.res J
  | .g l => ∀ x ∈ l,x.res J
def SV.res (J : List Nat) : SV → Prop
  | .e x => x.res J
  | .t l => ∀ x ∈ l,x.res J
  | .c _ _ => False
theorem At.den_res {J : List Nat} {ε ε' : Env} (h : ∀ j ∈ J,ε'.ν j = ε.ν j) : ∀ {x : At},x.res J → x.den ε' = x.den ε
  | .v _,_ => rfl
  | .q j,hx => h j hx
theorem El.den_res {J : List Nat} {ε ε' : Env} (h : ∀ j ∈ J,ε'.ν j = ε.ν j) : ∀ {x : El},x.res J → x.den ε' = x.den ε
  | .a _,hx => At.den_res h hx
  | .g l,hx => by simp only [El.den]; rw [List.map_congr_left (fun c hc => At.den_res h (hx c hc))]
theorem SV.den_res {J : List Nat} {ε ε' : Env} (h : ∀ j ∈ J,ε'.ν j = ε.ν j) : ∀ {x : SV},x.res J → x.den ε' = x.den ε
  | .e _,hx => El.den_res h hx
  | .t l,hx => by simp only [SV.den]; rw [List.map_congr_left (fun c hc => El.den_res h (hx c hc))]
theorem At.on_res {J : List Nat} {M : Nat → Prop} (h : ∀ j ∈ J,M j) : ∀ {x : At},x.res J → x.on M
  | .v _,_ => trivial
  | .q j,hx => h j hx
theorem El.on_res {J : List Nat} {M : Nat → Prop} (h : ∀ j ∈ J,M j) : ∀ {x : El},x.res J → x.on M
  | .a _,hx => At.on_res h hx
  | .g _,hx => fun c hc => At.on_res h (hx c hc)
theorem SV.on_res {J : List Nat} {γ : Nat → Bool} {M : Nat → Prop} (h : ∀ j ∈ J,M j) : ∀ {x : SV},x.res J → x.on γ M
  | .e _,hx => El.on_res h hx
  | .t _,hx => fun c hc => El.on_res h (hx c hc)
def keys {α : Type} (X : List (Nat × α)) : List Nat := X.map (·.1)
theorem look_keys {α : Type} {X : List (Nat × α)} {j : Nat} {R : α} (h : look j X = some R) : j ∈ keys X := List.mem_map.2 ⟨(j,R),look_mem h,rfl⟩
theorem OpG.call {cx : Cx} {S : St} {o : Oper} {sv : SV} {X : List (Nat × Pred)} (hnd : ∀ c,o.op ≠ .defer c) (hres : sv.res (keys X))
    (h : ∀ M ε I a w,SatM cx M ε I S a w → ∃ f args,(execOp a.eval o).run cx.P w = .ok (.enter f args) w ∧ Ct cx.P f args I w Emp sv X) : OpG cx S o ⟨sv,keys X,X,[],[]⟩ := by
  intro M ε I a w next Q hs hN K
  obtain ⟨f,args,h1,h2⟩ := h M ε I a w hs
  refine ⟨fun _ _ => trivial,?_⟩
  rw [semAt_eq _ _ _ hnd,h1]
  refine ⟨fun h => (by cases h),CallsIn.mono (callsIn_fen h2) ?_⟩
  rintro e w' ⟨I',us,rfl,hk,hle,hon,hfr,hX⟩
  have hsv : sv.den ⟨fun _ => 0,us,fun _ => true⟩ = sv.den ⟨ε.β,fun j => if j ∈ keys X then us j else ε.ν j,ε.γ⟩ :=
    SV.den_res (fun j hj => by simp [hj]) hres
  show next (a.put o.dst _) w'
  rw [hsv]
  refine K ⟨ε.β,fun j => if j ∈ keys X then us j else ε.ν j,ε.γ⟩ I' w'
    ⟨fun i hi => ⟨rfl,by simp [hi],rfl⟩,hle,hon,hk.os,hk.tape,hk.output,hk.size,fun b hb _ => hk.block b hb (fun h => h),fun b o hb => ?_⟩
    ⟨SV.on_res (fun j hj => .inr hj) hres,fun j R hj => .inr (look_keys hj),fun _ _ h => (by cases h),fun _ _ h => (by cases h),fun j R hj => ?_,fun _ _ h => (by cases h),fun _ _ h => (by cases h),fun _ _ _ _ _ h => (by cases h),fun _ _ h => (by cases h)⟩
  · rcases hfr b o hb with h | h
    · exact .inl h
    · exact .inr (.inl h)
  · have : j ∈ keys X := look_keys hj
    simp only [this,if_true]
    exact hX j R hj
def St.ops (S : St) : List Operand → Option (List SV)
  | [] => some []
  | x :: t => match S.op x,S.ops t with
    | some y,some l => some (y :: l)
    | _,_ => none
theorem SatM.evals {cx : Cx} {M : Nat → Prop} {ε : Env} {I : IH} {S : St} {a : Act} {w : World} (h : SatM cx M ε I S a w) : ∀ {l : List Operand} {svs : List SV},S.ops l = some svs → l.map a.eval = svs.map (SV.den ε)
  | [],svs,hl => by cases hl; rfl
  | x :: t,svs,hl => by
    simp only [St.ops] at hl
    split at hl
    · rename_i y l h1 h2
      cases hl
      simp [h.eval h1,SatM.evals h h2]
    · cases hl
section ops
variable {cx : Cx} {S : St} {dst : Option Tmp} {ty : TypeId} {pos : String} {af : Array Edge} {gd : Option (Nat × Bool)}
theorem o_call {f : FuncId} {l : List Operand} {ts : Array TypeId} {svs : List SV} {sv : SV} {X : List (Nat × Pred)} (hf : Enters' cx.P f) (hl : S.ops l = some svs) (hres : sv.res (keys X))
    (h : ∀ M ε I a w,SatM cx M ε I S a w → Ct cx.P f (svs.map (SV.den ε)).toArray I w Emp sv X) :
    OpG cx S ⟨dst,.call { callee := .value (.func f),args := l.toArray,argTypes := ts },ty,pos,af,gd⟩ ⟨sv,keys X,X,[],[]⟩ :=
  OpG.call (fun _ => by simp) hres fun M ε I a w hs => by
    refine ⟨f,_,?_,h M ε I a w hs⟩
    have := hs.evals hl
    simp [execOp,resolve,Act.eval,Deferred.ofValue,invoke,this,hf _ _]
theorem o_extract {x : Operand} {i : Nat} {l : List El} {el : El} (hx : S.op x = some (.t l)) (hi : l[i]? = some el) : OpG cx S ⟨dst,.extract x i,ty,pos,af,gd⟩ (.val (.e el)) :=
  OpG.pure (fun _ => by simp) fun M ε I a w hs => by
    have h := hs.eval hx
    refine ⟨hs.on (sv := .t l) hx el (List.mem_of_getElem? hi),?_⟩
    simp only [SV.den] at h
    simp [execOp,h,Instr.extract,hi,SV.den]
theorem run_len_slice {P : Program} {T e : TypeId} {sz : Nat} (hT : IsSl P T e sz) (r : TypeId) (a : Option Addr) (n c : Nat) (w : World) : (Builtin.len_ #[T] r #[.slice a n c]).run P w = .ok (.int .i64 n) w := by
  simp [Builtin.len_,run_underlying hT.1,goInt]
theorem o_lenq {x : Operand} {T e : TypeId} {sz j : Nat} {α : Type} {E : EP α} {l : List α} (hT : IsSl cx.P T e sz) (hx : S.op x = some (.e (.a (.q j)))) (hj : Has S.X j (PL E l)) :
    OpG cx S ⟨dst,.call { callee := .builtin .len,args := #[x],argTypes := #[T] },ty,pos,af,gd⟩ (.val (.i l.length)) :=
  OpG.pure (fun _ => by simp) fun M ε I a w hs => ⟨trivial,by
    have h := hs.eval hx
    obtain ⟨ad,cap,h1,_⟩ := hs.has hj
    simp only [SV.den,El.den,At.den,h1] at h
    simp [execOp,resolve,invoke,builtin,h,run_len_slice hT,SV.den,El.den,At.den]⟩
theorem o_lenv {x : Operand} {T e : TypeId} {sz n c : Nat} {ad : Option Addr} (hT : IsSl cx.P T e sz) (hx : S.op x = some (.e (.a (.v (.slice ad n c))))) :
    OpG cx S ⟨dst,.call { callee := .builtin .len,args := #[x],argTypes := #[T] },ty,pos,af,gd⟩ (.val (.i n)) :=
  OpG.pure (fun _ => by simp) fun M ε I a w hs => ⟨trivial,by
    have h := hs.eval hx
    simp only [SV.den,El.den,At.den] at h
    simp [execOp,resolve,invoke,builtin,h,run_len_slice hT,SV.den,El.den,At.den]⟩
theorem o_leno {x : Operand} {T e e' : TypeId} {sz sz' j n : Nat} {R : LPred} (hT : IsSl cx.P T e sz) (hx : S.op x = some (.e (.a (.q j)))) (hj : look j S.L = some (.own e' sz' n R)) :
    OpG cx S ⟨dst,.call { callee := .builtin .len,args := #[x],argTypes := #[T] },ty,pos,af,gd⟩ (.val (.i n)) :=
  OpG.pure (fun _ => by simp) fun M ε I a w hs => ⟨trivial,by
    have h := hs.eval hx
    obtain ⟨xs,⟨_,h2⟩,_⟩ := hs.L j _ hj
    simp only [SV.den,El.den,At.den] at h
    rcases h2 with ⟨h2,rfl⟩ | ⟨g,cap,cur,h2,_⟩ <;> rw [h2] at h <;> simp [execOp,resolve,invoke,builtin,h,run_len_slice hT,SV.den,El.den,At.den]⟩
theorem o_max {x y : Operand} {ts : Array TypeId} {a b : Int} (hx : S.op x = some (.i a)) (hy : S.op y = some (.i b)) :
    OpG cx S ⟨dst,.call { callee := .builtin .max,args := #[x,y],argTypes := ts },ty,pos,af,gd⟩ (.val (.i (max a b))) :=
  OpG.pure (fun _ => by simp) fun M ε I ac w hs => ⟨trivial,by
    have h1 := hs.eval hx; have h2 := hs.eval hy
    simp only [SV.den,El.den,At.den] at h1 h2
    have : (if a < b then b else a) = max a b := by rw [Int.max_def]; split <;> split <;> omega
    simp [execOp,resolve,invoke,builtin,h1,h2,run_max_int2,this,SV.den,El.den,At.den]⟩
end ops
section rules
variable {cx : Cx} {S : St} {Q : Exit → Act → World → Prop}
theorem WP.cond {c : Operand} {x y : Code} {b : Bool} (hc : S.op c = some (.b b)) (ht : b = true → WP cx S x Q) (hf : b = false → WP cx S y Q) : WP cx S (.cond c x y) Q := fun ε I a w hs =>
  wpIn_cond_split (hs.eval hc) (fun h => ht h ε I a w hs) (fun h => hf h ε I a w hs)
def Post (P : Program) (fn : Func) (R : Ending → World → Prop) : Exit → Act → World → Prop := bodyPostM (fen none) 0 P fn R
def frOf : Nat → List SV → List (Nat × SV)
  | _,[] => []
  | k,x :: t => (k,x) :: frOf (k + 1) t
theorem look_frOf : ∀ (svs : List SV) (k i : Nat) (x : SV),look i (frOf k svs) = some x → k ≤ i ∧ svs[i - k]? = some x
  | [],_,_,_,h => by cases h
  | y :: t,k,i,x,h => by
    rw [frOf,look_cons] at h
    by_cases hk : k = i
    · subst hk; simp at h; simp [h]
    · simp only [hk,if_false] at h
      obtain ⟨h1,h2⟩ := look_frOf t (k + 1) i x h
      refine ⟨by omega,?_⟩
      obtain ⟨m,hm⟩ : ∃ m,i - k = m + 1 := ⟨i - k - 1,by omega⟩
      rw [hm,List.getElem?_cons_succ]
      have : i - (k + 1) = m := by omega
      rw [this] at h2; exact h2
def FactsOK (ν : Nat → Value) (I : IH) : List (Nat × Pred) → Prop
  | [] => True
  | (j,R) :: t => R.h I (ν j) ∧ FactsOK ν I t
theorem FactsOK.get {ν : Nat → Value} {I : IH} : ∀ {X : List (Nat × Pred)},FactsOK ν I X → ∀ j R,look j X = some R → R.h I (ν j)
  | (k,R') :: t,h,j,R,hj => by
    rw [look_cons] at hj
    by_cases hk : k = j
    · subst hk; simp at hj; subst hj; exact h.1
    · simp [hk] at hj; exact FactsOK.get h.2 j R hj
theorem Ct.intro {P : Program} {f : FuncId} {fn : Func} {c : Code} {args : Array Value} {I : IH} {w : World} {E : Nat → Prop} {sv : SV} {X : List (Nat × Pred)} (hf : P.funcs[f]? = some fn) (hb : fn.body = some c) (hI : I.on w)
    (ν : Nat → Value) (svs : List SV) (X0 : List (Nat × Pred)) (n : Nat) (fr : List (Nat × SV)) (hfr : fr = frOf 0 svs) (hargs : args = (svs.map (SV.den ⟨fun _ => 0,ν,fun _ => true⟩)).toArray) (hX : FactsOK ν I X0)
    (hwf : ∀ x ∈ svs,x.res (keys X0)) (hn : ∀ k ∈ keys X0,k < n) (hN : Nat.ble svs.length fn.ntmps = true)
    (h : WP ⟨P,none,w,fn.ntmps,E,I,0,fun _ => 0,fun _ => undef⟩ ⟨n,fr,X0,[],[],[]⟩ c (Post P fn (CtR I w E sv X))) : Ct P f args I w E sv X := by
  refine callsIn_of_wp_marks hf hb trivial ?_
  refine h ⟨fun _ => 0,ν,fun _ => true⟩ I _ w ?_
  have hN' : svs.length ≤ fn.ntmps := by simpa using hN
  subst hargs
  subst hfr
  refine ⟨?_,?_,fun _ _ h => (by cases h),fun _ h => (by cases h),fun _ _ h => (by cases h),fun _ _ h => (by cases h),?_,rfl,?_,hX.get,fun _ _ h => (by cases h),fun _ _ h => (by cases h),fun _ _ _ _ _ h => (by cases h),hI,Keep.refl w,IH.le.rfl',fun _ _ h => .inl h,fun _ h => absurd h (Nat.not_lt_zero _),fun _ _ h => (by cases h)⟩
  · intro i x hx
    have := (look_frOf svs 0 i x hx).2
    exact SV.on_res (fun j hj => hn j hj) (hwf x (List.mem_of_getElem? this))
  · intro j R hj; exact hn j (look_keys hj)
  · simp; omega
  · intro i x hx
    have := (look_frOf svs 0 i x hx).2
    simp only [Nat.sub_zero] at this
    have hi : i < svs.length := (List.getElem?_eq_some_iff.1 this).1
    rw [Array.getElem?_append_left (by simpa using hi)]
    simp [this]
def At.ren (ρ : Nat → Nat) : At → At
  | .q j => .q (ρ j)
  | x => x
def El.ren (ρ : Nat → Nat) : El → El
  | .a x => .a (x.ren ρ)
  | .g l => .g (l.map (At.ren ρ))
inductive ResOf (cx : Cx) (S : St) : List ResultVar → List El → Prop
  | nil : ResOf cx S [] []
  | tmp {t : Tmp} {el : El} {rs : List ResultVar} {els : List El} (h : look t S.fr = some (.e el)) (k : ResOf cx S rs els) : ResOf cx S (.tmp t :: rs) (el :: els)
  | cell1 {t : Tmp} {T T' : TypeId} {k : Nat} {y : At} {rs : List ResultVar} {els : List El} (hT : TyS cx.P T) (h : look t S.fr = some (.e (.a (.p k 0)))) (hk : look k S.L = some (.blk [y] T')) (r : ResOf cx S rs els) : ResOf cx S (.cell t T :: rs) (.a y :: els)
  | cellg {t : Tmp} {T T' : TypeId} {k m : Nat} {cs : List At} {rs : List ResultVar} {els : List El} (hT : TyG cx.P T m) (h : look t S.fr = some (.e (.a (.p k 0)))) (hk : look k S.L = some (.blk cs T')) (hm : cs.length = m) (r : ResOf cx S rs els) : ResOf cx S (.cell t T :: rs) (.g cs :: els)
def rv (tmps : Array Value) : ResultVar → Sem Value
  | .tmp t => pure (tmps.getD t undef)
  | .cell p t => do loadVar t (← asAddr (tmps.getD p undef))
theorem rv_tmp {P : Program} {tmps : Array Value} {t : Tmp} {v : Value} {w : World} (h : tmps[t]? = some v) : (rv tmps (.tmp t)).run P w = .ok v w := by
  simp [rv,h]
theorem rv_cell {P : Program} {tmps : Array Value} {t : Tmp} {T : TypeId} {ad : Addr} {w : World} {r : Result Value} (h : tmps[t]? = some (.pointer (some ad))) (hr : (loadVar T ad).run P w = r) : (rv tmps (.cell t T)).run P w = r := by
  simp [rv,h,asAddr,hr]
theorem ResOf.run {cx : Cx} {M : Nat → Prop} {ε : Env} {I : IH} {S : St} {a : Act} {w : World} (hs : SatM cx M ε I S a w) {rs : List ResultVar} {els : List El} (h : ResOf cx S rs els) :
    (rs.mapM (rv a.tmps)).run cx.P w = .ok (els.map (El.den ε)) w := by
  induction h with
  | nil => rfl
  | tmp h k ih =>
    rw [List.mapM_cons,Sem.run_bind,rv_tmp (hs.fr _ _ h)]
    simp only [Result.andThen_ok,Sem.run_bind,ih,Sem.run_pure,List.map_cons,SV.den]
  | cell1 hT h hk k ih =>
    have h2 := hs.blk hk 0
    rw [List.mapM_cons,Sem.run_bind,rv_cell (hs.fr _ _ h) (show _ = .ok _ _ by simp only [loadVar,Sem.run_bind,hT.ag,Result.andThen_ok,Bool.false_eq_true,if_false,load,Sem.run,h2]; rfl)]
    simp only [Result.andThen_ok,Sem.run_bind,ih,Sem.run_pure,List.map_cons,El.den]
  | @cellg t T T' k m cs rs els hT h hk hm k' ih =>
    have h3 := run_loadCells_list (P := cx.P) (w := w) ⟨ε.β k,0,none⟩ (cs.map (At.den ε)) (fun j v hj => by
      rw [Addr.add_plain,hs.blk hk,Nat.zero_add]
      rw [List.getElem?_map] at hj; exact hj)
    rw [List.length_map,hm] at h3
    rw [List.mapM_cons,Sem.run_bind,rv_cell (hs.fr _ _ h) (show _ = .ok _ _ by simp only [loadVar,Sem.run_bind,hT.ag,hT.sz,Result.andThen_ok,if_true,h3,Sem.run_pure]; rfl)]
    simp only [Result.andThen_ok,Sem.run_bind,ih,Sem.run_pure,List.map_cons,El.den]
def resSV : List El → SV
  | [x] => .e x
  | l => .t l
theorem results_run {cx : Cx} {M : Nat → Prop} {ε : Env} {I : IH} {S : St} {a : Act} {w : World} {fn : Func} (hs : SatM cx M ε I S a w) {rs : List ResultVar} {els : List El} (h : ResOf cx S rs els) (hr : fn.results = rs.toArray) :
    (results fn a.tmps).run cx.P w = .ok ((resSV els).den ε) w := by
  have h1 := ResOf.run hs h
  have e : results fn a.tmps = (do let vs ← fn.results.mapM (rv a.tmps); pure (if h : vs.size = 1 then vs[0] else .tuple vs)) := by
    unfold results
    congr 1
  rw [e,hr,List.mapM_toArray]
  simp only [Sem.run_bind,Sem.run_map,h1,Result.andThen_ok,Sem.run_pure]
  congr 1
  match els with
  | [] => rfl
  | [x] => rfl
  | x :: y :: t => simp [resSV,SV.den]
theorem run_take {P : Program} {w : World} {b : Nat} {ds : List Deferred} (h : w.heap[b]? = some (.deferred (some ds))) :
    (Instr.takeDeferred b).run P w = .ok ds { w with heap := w.heap.setIfInBounds b (.deferred none) } := by
  simp [Instr.takeDeferred,Sem.run_bind,getObj,setObj,Sem.run,h,Result.andThen]
theorem ResOf.dead {cx : Cx} {S : St} {rs : List ResultVar} {els : List El} {k0 : Nat} {o : Obj} {D' : List Nat} (hk0 : look k0 S.L = some (.ob o)) (h : ResOf cx S rs els) : ResOf cx { S with L := (k0,.dead) :: S.L,D := D' } rs els := by
  have key : ∀ k cs T,look k S.L = some (.blk cs T) → look k ((k0,Ent.dead) :: S.L) = some (.blk cs T) := by
    intro k cs T hk
    rw [look_cons]
    by_cases e : k0 = k
    · subst e; rw [hk0] at hk; cases hk
    · simp [e,hk]
  induction h with
  | nil => exact .nil
  | tmp h _ ih => exact .tmp h ih
  | cell1 hT h hk _ ih => exact .cell1 hT h (key _ _ _ hk) ih
  | cellg hT h hk hm _ ih => exact .cellg hT h (key _ _ _ hk) hm ih
theorem leavesM {cx : Cx} {fn : Func} {R : Ending → World → Prop} {rs : List ResultVar} {els : List El} {ε : Env} {I : IH} {M : Nat → Prop} (hr : fn.results = rs.toArray) :
    ∀ (D : List Nat) (S : St) (a : Act) (w : World),S.D = D → (∀ k ∈ D,look k S.L = some (.ob (.deferred (some [])))) → D.Nodup → SatM cx M ε I S a w → ResOf cx S rs els →
    (∀ w',Keep cx.E cx.w0 w' → I.on w' → R (.returned ((resSV els).den ε)) w') → LeavesInM (fen none) 0 cx.P fn a.tmps R a.defers .returning w
  | [],S,a,w,hD,_,_,hs,hres,hR => by
    have : a.defers = [] := by rw [hs.defs,hD]; rfl
    rw [this]
    exact ⟨_,results_run hs hres hr,hR w hs.keep hs.imm⟩
  | k :: D,S,a,w,hD,hmk,hnd,hs,hres,hR => by
    have : a.defers = markOf ε.β k :: D.map (markOf ε.β) := by rw [hs.defs,hD]; rfl
    rw [this]
    have hob := hmk k List.mem_cons_self
    have hL := hs.L k _ hob
    simp only [Ent.ok] at hL
    have hlt := (Array.getElem?_eq_some_iff.1 hL).1
    have hft := hs.foot k _ hob _ rfl
    refine ⟨by simp,.inl ⟨_,_,rfl,run_take hL,?_⟩⟩
    have hoth : ∀ b,b ≠ ε.β k → ({ w with heap := w.heap.setIfInBounds (ε.β k) (.deferred none) } : World).heap[b]? = w.heap[b]? := fun b hb => by
      simp [Array.getElem?_setIfInBounds_ne (Ne.symm hb)]
    have himm : I.on { w with heap := w.heap.setIfInBounds (ε.β k) (.deferred none) } := fun b o hb => by
      rw [hoth b (fun e => by rw [e,hft.2.2] at hb; cases hb)]; exact hs.imm b o hb
    have hlk : ∀ i e,look i ((k,Ent.dead) :: S.L) = some e → (i = k ∧ e = .dead) ∨ (i ≠ k ∧ look i S.L = some e) := by
      intro i e he
      rw [look_cons] at he
      by_cases hk : k = i
      · subst hk; simp at he; exact .inl ⟨rfl,he.symm⟩
      · simp [hk] at he; exact .inr ⟨fun e => hk e.symm,he⟩
    have := leavesM (R := R) hr D { S with L := (k,.dead) :: S.L,D := D } { a with defers := D.map (markOf ε.β) } { w with heap := w.heap.setIfInBounds (ε.β k) (.deferred none) } rfl
      (fun i hi => by
        have hne : k ≠ i := fun e => by subst e; exact (List.nodup_cons.1 hnd).1 hi
        simp only [look_cons,hne,if_false]; exact hmk i (List.mem_cons_of_mem _ hi)) (List.nodup_cons.1 hnd).2
      { wfr := hs.wfr,wfX := hs.wfX,wfG := hs.wfG,G := hs.G,size := hs.size,fr := hs.fr,X := hs.X,le0 := hs.le0,fr0 := hs.fr0
        wfL := fun i e he => by
          rcases hlk i e he with ⟨rfl,rfl⟩ | ⟨_,he⟩
          · exact ⟨(hs.wfL i _ hob).1,trivial⟩
          · exact hs.wfL i e he
        wfD := fun i hi => hs.wfD i (by rw [hD]; exact List.mem_cons_of_mem _ hi)
        defs := rfl
        L := fun i e he => by
          rcases hlk i e he with ⟨rfl,rfl⟩ | ⟨hne,he⟩
          · trivial
          · exact Ent.ok_kept (M := M) Env.agree.refl IH.le.rfl' (hs.wfL i e he).1 (hs.wfL i e he).2 (hs.L i e he) (fun b hb => hoth b (fun eb => hs.sep i k e _ b he hob hne hb (by rw [eb]; rfl))) (fun x hx => by
            subst hx
            obtain ⟨hx1,hx2⟩ := hs.ext i x he
            refine ⟨IH.le.rfl',himm,rfl,rfl,Out.rf,by simp,fun b hb hn => hoth b (fun eb => ?_),fun b o hb => .inl hb⟩
            have hnF : ¬ x.F b := fun hF => hs.sep i k _ _ b he hob hne hF eb
            rcases hn with hn | hn
            · rcases hft.1 with h1 | h1
              · rw [← eb] at h1
                have := (hx2 b hn).1
                omega
              · rw [← eb] at h1
                exact hnF ((hx2 b hn).2 h1)
            · exact hnF hn)
        foot := fun i e he b hb => by
          rcases hlk i e he with ⟨rfl,rfl⟩ | ⟨_,he⟩
          · cases hb
          · have := hs.foot i e he b hb
            exact ⟨this.1,by simpa using this.2.1,this.2.2⟩
        sep := fun i i' e e' b he he' hne hb => by
          rcases hlk i e he with ⟨rfl,rfl⟩ | ⟨_,he⟩
          · cases hb
          · rcases hlk i' e' he' with ⟨rfl,rfl⟩ | ⟨_,he'⟩
            · simp [Ent.foot]
            · exact hs.sep i i' e e' b he he' hne hb
        imm := himm
        pin := hs.pin
        ext := fun i x hx => by
          rcases hlk i _ hx with ⟨_,hx⟩ | ⟨_,hx⟩
          · cases hx
          · exact hs.ext i x hx
        keep := ⟨hs.keep.os,hs.keep.tape,hs.keep.output,by simpa using hs.keep.size,fun b hb hE => by
          rw [hoth b (fun e => by rw [e] at hb hE; rcases hft.1 with h | h; · omega
                                  · exact hE h)]
          exact hs.keep.block b hb hE⟩ } (ResOf.dead hob hres) hR
    exact this
def SV.ren (ρ : Nat → Nat) : SV → SV
  | .e x => .e (x.ren ρ)
  | .t l => .t (l.map (El.ren ρ))
  | .c g x => .c g x
theorem At.den_ren {J : List Nat} {ρ : Nat → Nat} {ε : Env} {b : Nat → Nat} {g : Nat → Bool} : ∀ {x : At},x.res J → (x.ren ρ).den ε = x.den ⟨b,fun j => ε.ν (ρ j),g⟩
  | .v _,_ => rfl
  | .q _,_ => rfl
theorem El.den_ren {J : List Nat} {ρ : Nat → Nat} {ε : Env} {b : Nat → Nat} {g : Nat → Bool} : ∀ {x : El},x.res J → (x.ren ρ).den ε = x.den ⟨b,fun j => ε.ν (ρ j),g⟩
  | .a _,hx => At.den_ren hx
  | .g l,hx => by simp only [El.ren,El.den,List.map_map]; rw [List.map_congr_left (fun c hc => by show (c.ren ρ).den ε = _; exact At.den_ren (b := b) (g := g) (hx c hc))]
theorem SV.den_ren {J : List Nat} {ρ : Nat → Nat} {ε : Env} {b : Nat → Nat} {g : Nat → Bool} : ∀ {x : SV},x.res J → (x.ren ρ).den ε = x.den ⟨b,fun j => ε.ν (ρ j),g⟩
  | .e _,hx => El.den_ren hx
  | .t l,hx => by simp only [SV.ren,SV.den,List.map_map]; rw [List.map_congr_left (fun c hc => by show (c.ren ρ).den ε = _; exact El.den_ren (b := b) (g := g) (hx c hc))]
def RenOK (X : List (Nat × Pred)) (ρ : Nat → Nat) : List (Nat × Pred) → Prop
  | [] => True
  | (j,R) :: t => Has X (ρ j) R ∧ RenOK X ρ t
theorem RenOK.get {X : List (Nat × Pred)} {ρ : Nat → Nat} : ∀ {X' : List (Nat × Pred)},RenOK X ρ X' → ∀ j R,look j X' = some R → Has X (ρ j) R
  | (k,R') :: t,h,j,R,hj => by
    rw [look_cons] at hj
    by_cases hk : k = j
    · subst hk; simp at hj; subst hj; exact h.1
    · simp [hk] at hj; exact RenOK.get h.2 j R hj
theorem EX.fin {cx : Cx} {S : St} {fn : Func} {rs : List ResultVar} {els : List El} {sv : SV} {X : List (Nat × Pred)} {e : Exit} (ρ : Nat → Nat) (he : e = .ret ∨ e = .normal) (hr : fn.results = rs.toArray) (hres : ResOf cx S rs els)
    (hsv : resSV els = sv.ren ρ) (hw : sv.res (keys X)) (hX : RenOK S.X ρ X) (hmk : ∀ k ∈ S.D,look k S.L = some (.ob (.deferred (some [])))) (hnd : S.D.Nodup) :
    EX cx S e (Post cx.P fn (CtR cx.I0 cx.w0 cx.E sv X)) := by
  intro ε I a w hs
  have key : LeavesInM (fen none) 0 cx.P fn a.tmps (CtR cx.I0 cx.w0 cx.E sv X) a.defers .returning w :=
    leavesM hr S.D S a w rfl hmk hnd hs hres fun w' hk hon =>
      ⟨I,fun j => ε.ν (ρ j),by rw [hsv,SV.den_ren hw],hk,hs.le0,hon,hs.fr0,fun j R hj => hs.has (hX.get j R hj)⟩
  rcases he with rfl | rfl <;> exact key
end rules
end Go.Eng
namespace Go.Eng
open Go
def At.renk (ρ : Nat → Nat) : At → At
  | .v y => .v y
  | .q j => .q (ρ j)
  | .p k o => .p (ρ k) o
  | .e j o => .e (ρ j) o
  | .s k n => .s (ρ k) n
  | .f fn js => .f fn (js.map ρ)
def El.renk (ρ : Nat → Nat) : El → El
  | .a x => .a (x.renk ρ)
  | .g l => .g (l.map (At.renk ρ))
def SV.renk (ρ : Nat → Nat) : SV → SV
  | .e x => .e (x.renk ρ)
  | .t l => .t (l.map (El.renk ρ))
  | .c g x => .c (ρ g) (x.renk ρ)
def Ent.renk (ρ : Nat → Nat) : Ent → Ent
  | .blk cs T => .blk (cs.map (At.renk ρ)) T
  | e => e
def Env.ren (ε : Env) (ρ : Nat → Nat) : Env := ⟨fun k => ε.β (ρ k),fun k => ε.ν (ρ k),fun k => ε.γ (ρ k)⟩
theorem At.den_renk {ρ : Nat → Nat} {ε : Env} : ∀ {x : At},(x.renk ρ).den ε = x.den (ε.ren ρ)
  | .v _ | .q _ | .p _ _ | .e _ _ | .s _ _ => rfl
  | .f _ js => by simp [At.renk,At.den,Env.ren,Function.comp_def]
theorem El.den_renk {ρ : Nat → Nat} {ε : Env} : ∀ {x : El},(x.renk ρ).den ε = x.den (ε.ren ρ)
  | .a _ => At.den_renk
  | .g l => by simp only [El.renk,El.den,List.map_map]; rw [List.map_congr_left (fun c _ => by show (c.renk ρ).den ε = _; exact At.den_renk)]
theorem SV.den_renk {ρ : Nat → Nat} {ε : Env} : ∀ {x : SV},(x.renk ρ).den ε = x.den (ε.ren ρ)
  | .e _ => El.den_renk
  | .t l => by simp only [SV.renk,SV.den,List.map_map]; rw [List.map_congr_left (fun c _ => by show (c.renk ρ).den ε = _; exact El.den_renk)]
  | .c g x => by simp only [SV.renk,SV.den,El.den_renk]; rfl
def At.kb (n : Nat) : At → Bool
  | .v _ => true
  | .q j => Nat.blt j n
  | .p k _ => Nat.blt k n
  | .e j _ => Nat.blt j n
  | .s k _ => Nat.blt k n
  | .f _ js => js.all (Nat.blt · n)
def El.kb (n : Nat) : El → Bool
  | .a x => x.kb n
  | .g l => l.all (At.kb n)
def SV.kb (n : Nat) : SV → Bool
  | .e x => x.kb n
  | .t l => l.all (El.kb n)
  | .c g x => Nat.blt g n && x.kb n
def Ent.kb (n : Nat) : Ent → Bool
  | .blk cs _ => cs.all (At.kb n)
  | _ => true
def St.kb (S : St) : Bool :=
  S.fr.all (fun p => p.2.kb S.n) && S.X.all (fun p => Nat.blt p.1 S.n) && S.L.all (fun p => Nat.blt p.1 S.n && p.2.kb S.n) && S.D.all (Nat.blt · S.n)
theorem At.on_kb {n : Nat} : ∀ {x : At},x.kb n = true → x.on (· < n)
  | .v _,_ => trivial
  | .q _,h | .p _ _,h | .e _ _,h | .s _ _,h => by simpa [At.kb,Nat.blt_eq,At.on] using h
  | .f _ js,h => fun j hj => by simpa [Nat.blt_eq] using (List.all_eq_true.1 h j hj)
theorem El.on_kb {n : Nat} : ∀ {x : El},x.kb n = true → x.on (· < n)
  | .a _,h => At.on_kb h
  | .g _,h => fun c hc => At.on_kb (List.all_eq_true.1 h c hc)
theorem SV.on_kb {n : Nat} {γ : Nat → Bool} : ∀ {x : SV},x.kb n = true → x.on γ (· < n)
  | .e _,h => El.on_kb h
  | .t _,h => fun c hc => El.on_kb (List.all_eq_true.1 h c hc)
  | .c g x,h => by
    simp only [SV.kb,Bool.and_eq_true,Nat.blt_eq] at h
    exact ⟨h.1,fun _ => El.on_kb h.2⟩
theorem Ent.on_kb {n : Nat} : ∀ {e : Ent},e.kb n = true → e.on (· < n)
  | .blk _ _,h => fun c hc => At.on_kb (List.all_eq_true.1 h c hc)
  | .own _ _ _ _,_ | .ob _,_ | .ext _,_ | .dead,_ => trivial
def LeFr (fr : List (Nat × SV)) (ρ : Nat → Nat) : List (Nat × SV) → Prop
  | [] => True
  | (i,x) :: t => look i fr = some (x.renk ρ) ∧ LeFr fr ρ t
def LeX (X : List (Nat × Pred)) (ρ : Nat → Nat) : List (Nat × Pred) → Prop
  | [] => True
  | (j,R) :: t => Has X (ρ j) R ∧ LeX X ρ t
def LeL (L : List (Nat × Ent)) (ρ : Nat → Nat) : List (Nat × Ent) → Prop
  | [] => True
  | (k,e) :: t => look (ρ k) L = some (e.renk ρ) ∧ LeL L ρ t
theorem LeFr.get {fr : List (Nat × SV)} {ρ : Nat → Nat} : ∀ {fr' : List (Nat × SV)},LeFr fr ρ fr' → ∀ i x,look i fr' = some x → look i fr = some (x.renk ρ)
  | (k,y) :: t,h,i,x,hi => by
    rw [look_cons] at hi
    by_cases hk : k = i
    · subst hk; simp at hi; subst hi; exact h.1
    · simp [hk] at hi; exact LeFr.get h.2 i x hi
theorem LeX.get {X : List (Nat × Pred)} {ρ : Nat → Nat} : ∀ {X' : List (Nat × Pred)},LeX X ρ X' → ∀ i x,look i X' = some x → Has X (ρ i) x
  | (k,y) :: t,h,i,x,hi => by
    rw [look_cons] at hi
    by_cases hk : k = i
    · subst hk; simp at hi; subst hi; exact h.1
    · simp [hk] at hi; exact LeX.get h.2 i x hi
theorem LeL.get {L : List (Nat × Ent)} {ρ : Nat → Nat} : ∀ {L' : List (Nat × Ent)},LeL L ρ L' → ∀ i x,look i L' = some x → look (ρ i) L = some (x.renk ρ)
  | (k,y) :: t,h,i,x,hi => by
    rw [look_cons] at hi
    by_cases hk : k = i
    · subst hk; simp at hi; subst hi; exact h.1
    · simp [hk] at hi; exact LeL.get h.2 i x hi
structure LeR (nB : Nat) (S S' : St) (ρ : Nat → Nat) : Prop where
  fr : LeFr S.fr ρ S'.fr
  X : LeX S.X ρ S'.X
  L : LeL S.L ρ S'.L
  inj : ∀ k k',k ∈ keys S'.L → k' ∈ keys S'.L → ρ k = ρ k' → k = k'
  D : S.D = S'.D.map ρ
  G : S'.G = []
  kb : S'.kb = true
  pin : ∀ k,k < nB → ρ k = k ∧ k < S'.n
theorem Sat.leR {cx : Cx} {ε : Env} {I : IH} {S S' : St} {ρ : Nat → Nat} {a : Act} {w : World} (hl : LeR cx.nB S S' ρ) (h : Sat cx ε I S a w) : Sat cx (ε.ren ρ) I S' a w := by
  have hkb := hl.kb
  simp only [St.kb,Bool.and_eq_true] at hkb
  obtain ⟨⟨⟨k1,k2⟩,k3⟩,k4⟩ := hkb
  refine ⟨?_,?_,?_,?_,?_,?_,h.size,?_,?_,?_,?_,?_,?_,h.imm,h.keep,h.le0,h.fr0,?_,?_⟩
  · intro i x hx
    exact SV.on_kb (List.all_eq_true.1 k1 _ (look_mem hx))
  · intro j R hj
    simpa [Nat.blt_eq] using List.all_eq_true.1 k2 _ (look_mem hj)
  · intro k e he
    have := List.all_eq_true.1 k3 _ (look_mem he)
    simp only [Bool.and_eq_true,Nat.blt_eq] at this
    exact ⟨this.1,Ent.on_kb this.2⟩
  · intro k hk
    simpa [Nat.blt_eq] using List.all_eq_true.1 k4 _ hk
  · intro g b hg; rw [hl.G] at hg; cases hg
  · intro g b hg; rw [hl.G] at hg; cases hg
  · rw [h.defs,hl.D,List.map_map]; rfl
  · intro i x hx
    rw [h.fr i _ (hl.fr.get i x hx),SV.den_renk]
  · intro j R hj
    exact h.has (hl.X.get j R hj)
  · intro k e he
    have := h.L _ _ (hl.L.get k e he)
    cases e with
    | blk cs T =>
      simp only [Ent.ok,Ent.renk,List.map_map] at this ⊢
      rw [show (ε.ren ρ).β k = ε.β (ρ k) from rfl,this,List.map_congr_left (fun c _ => by show (c.renk ρ).den ε = _; exact At.den_renk)]
    | own T size n R => exact this
    | ob o => exact this
    | ext x => exact this
    | dead => trivial
  · intro k e he b hb
    refine h.foot _ _ (hl.L.get k e he) b ?_
    cases e <;> exact hb
  · intro k k' e e' b he he' hne hb
    have := h.sep _ _ _ _ b (hl.L.get k e he) (hl.L.get k' e' he') (fun e => hne (hl.inj k k' (look_keys he) (look_keys he') e)) (by cases e <;> exact hb)
    intro hb'
    exact this (by cases e' <;> exact hb')
  · intro k hk
    obtain ⟨h1,h2⟩ := hl.pin k hk
    obtain ⟨_,h3⟩ := h.pin k hk
    exact ⟨h2,by simpa [Env.ren,h1] using h3⟩
  · intro k x hx
    exact h.ext _ x (hl.L.get k _ hx)
section rules
variable {cx : Cx} {S S' : St} {Q : Exit → Act → World → Prop}
theorem WP.leR {c : Code} (ρ : Nat → Nat) (hl : LeR cx.nB S S' ρ) (h : WP cx S' c Q) : WP cx S c Q := fun _ _ _ _ hs => h _ _ _ _ (Sat.leR hl hs)
def LoopK {Gh : Type} (cx : Cx) (Sg : Gh → St) (φ : Gh → Prop) (μ : Gh → Nat) (g : Gh) (Q : Exit → Act → World → Prop) : Exit → Act → World → Prop :=
  Exit.then (fun a w => ∃ g',φ g' ∧ μ g' < μ g ∧ ∃ ε I,Sat cx ε I (Sg g') a w) Q
theorem EX.again {Gh : Type} {Sg : Gh → St} {φ : Gh → Prop} {μ : Gh → Nat} {g : Gh} (g' : Gh) (ρ : Nat → Nat) (hφ : φ g') (hμ : μ g' < μ g) (hl : LeR cx.nB S (Sg g') ρ) : EX cx S .normal (LoopK cx Sg φ μ g Q) :=
  fun _ _ _ _ hs => ⟨g',hφ,hμ,_,_,Sat.leR hl hs⟩
theorem least {P : Nat → Prop} (h : ∃ n,P n) : ∃ n,P n ∧ ∀ m,P m → n ≤ m := by
  obtain ⟨n,hn⟩ := h
  induction n using Nat.strongRecOn with
  | _ n ih =>
    by_cases hc : ∃ m,m < n ∧ P m
    · obtain ⟨m,h1,h2⟩ := hc; exact ih m h1 h2
    · exact ⟨n,hn,fun m hm => by
        rcases Nat.lt_or_ge m n with h | h
        · exact absurd ⟨m,h,hm⟩ hc
        · exact h⟩
open Classical in
theorem WP.loop {Gh : Type} {c : Code} (Sg : Gh → St) (φ : Gh → Prop) (μ : Gh → Nat) (g0 : Gh) (ρ : Nat → Nat) (hφ : φ g0) (hl : LeR cx.nB S (Sg g0) ρ) (h : ∀ g,φ g → WP cx (Sg g) c (LoopK cx Sg φ μ g Q)) : WP cx S (.loop c) Q := by
  intro ε I a w hs
  let Inv : Act → World → Prop := fun a w => ∃ g,φ g ∧ ∃ ε I,Sat cx ε I (Sg g) a w
  let P : Act → World → Nat → Prop := fun a w n => ∃ g,φ g ∧ μ g = n ∧ ∃ ε I,Sat cx ε I (Sg g) a w
  let M : Act → World → Nat := fun a w => if h : ∃ n,P a w n then Classical.choose (least h) else 0
  have hM : ∀ a w g,φ g → (∃ ε I,Sat cx ε I (Sg g) a w) → M a w ≤ μ g := by
    intro a w g h1 h2
    have hex : ∃ n,P a w n := ⟨_,g,h1,rfl,h2⟩
    simp only [M,dif_pos hex]
    exact (Classical.choose_spec (least hex)).2 _ ⟨g,h1,rfl,h2⟩
  refine wpIn_loop Inv M ⟨g0,hφ,_,_,Sat.leR hl hs⟩ ?_
  rintro a w ⟨g,h1,h2⟩
  have hex : ∃ n,P a w n := ⟨_,g,h1,rfl,h2⟩
  obtain ⟨g,h1,h3,ε,I,h4⟩ := (Classical.choose_spec (least hex)).1
  have hMe : M a w = μ g := by simp only [M,dif_pos hex]; exact h3.symm
  refine wpIn_mono (h g h1 ε I a w h4) ?_
  intro e a' w' hq
  cases e with
  | normal =>
    obtain ⟨g',h5,h6,h7⟩ := hq
    exact ⟨⟨g',h5,h7⟩,by rw [hMe]; exact Nat.lt_of_le_of_lt (hM a' w' g' h5 h7) h6⟩
  | _ => exact hq
end rules
theorem Fld.mk {P : Program} {T t : TypeId} {fs : List Field} {f off : Nat} {fd : Field} {m : Nat} (hu : P.underlying T = some (.struct fs.toArray)) (hf : fs[f]? = some fd) (ht : fd.type = t) (ho : fd.offset = off) (hs : ∀ w,(sizeOf t).run P w = .ok m w) (hm : Nat.blt 0 m = true) : Fld P T f off := by
  intro a w
  subst ho
  subst ht
  rw [Nat.blt_eq] at hm
  have hm' : m ≠ 0 := by omega
  simp [Instr.fieldAt,run_underlying hu,hf,Instr.sureAddr,fieldPlace,hs,hm']
theorem Zero.mk {P : Program} {T : TypeId} {z : Value} {zs : List Value} {cs : List At} (hz : ∀ w,(zeroValue T).run P w = .ok z w) (hzs : z.cells = zs.toArray) (hc : cs = zs.map .v) : Zero P T cs := by
  subst hc
  refine ⟨z,hz,fun ε => ?_,?_⟩
  · rw [hzs,List.map_map]
    simp [Function.comp_def,At.den]
  · intro M c hc
    obtain ⟨v,_,rfl⟩ := List.mem_map.1 hc
    trivial
end Go.Eng
namespace Go.Eng
open Go
section steps
variable {cx : Cx} {Q : Exit → Act → World → Prop} {ops : Array Oper} {rest : List Oper}
variable {n : Nat} {fr : List (Nat × SV)} {X : List (Nat × Pred)} {L : List (Nat × Ent)} {D : List Nat} {G : List (Nat × Bool)} {d : Tmp} {op : Op} {ty : TypeId} {pos : String} {af : Array Edge} {gd : Option (Nat × Bool)} {sv : SV}
theorem WPl.x (k m : Nat) {R : Pred} (hk : Nat.ble n k = true) (hm : Nat.blt k m = true) (hd : Nat.blt d cx.N = true) (h : OpG cx ⟨n,fr,X,L,D,G⟩ ⟨some d,op,ty,pos,af,none⟩ ⟨sv,[k],[(k,R)],[],[]⟩)
    (K : WPl cx ops ⟨m,(d,sv) :: fr,(k,R) :: X,L,D,G⟩ rest Q) : WPl cx ops ⟨n,fr,X,L,D,G⟩ (⟨some d,op,ty,pos,af,none⟩ :: rest) Q := WPl.u1 hk hm hd h K
theorem WPl.l (k m : Nat) {e : Ent} (hk : Nat.ble n k = true) (hm : Nat.blt k m = true) (hd : Nat.blt d cx.N = true) (h : OpG cx ⟨n,fr,X,L,D,G⟩ ⟨some d,op,ty,pos,af,none⟩ ⟨sv,[k],[],[(k,e)],[]⟩)
    (K : WPl cx ops ⟨m,(d,sv) :: fr,X,(k,e) :: L,D,G⟩ rest Q) : WPl cx ops ⟨n,fr,X,L,D,G⟩ (⟨some d,op,ty,pos,af,none⟩ :: rest) Q := WPl.u1 hk hm hd h K
theorem WPl.s1 {k : Nat} {e : Ent} (h : OpG cx ⟨n,fr,X,L,D,G⟩ ⟨none,op,ty,pos,af,none⟩ ⟨sv,[],[],[(k,e)],[]⟩)
    (K : WPl cx ops ⟨n,fr,X,(k,e) :: L,D,G⟩ rest Q) : WPl cx ops ⟨n,fr,X,L,D,G⟩ (⟨none,op,ty,pos,af,none⟩ :: rest) Q := WPl.s h K
theorem WPl.upd0 {S : St} {o : Oper} {u : U} (m : Nat) (h : ROp cx ops S o u) (hd : ∀ i,o.dst = some i → i < cx.N) (hN : ∀ k ∈ u.N,S.n ≤ k ∧ k < m) (hm : S.n ≤ m)
    (K : WPl cx ops (S.app m o.dst u) rest Q) : WPl cx ops S (o :: rest) Q := WPl.upd m h (St.le.refl _) hd hN hm K
theorem WPl.cs (m : Nat) {X' : List (Nat × Pred)} (hk : (keys X').all (Nat.ble n ·) = true) (hm : (keys X').all (Nat.blt · m) = true) (hn : Nat.ble n m = true) (hd : Nat.blt d cx.N = true) (h : OpG cx ⟨n,fr,X,L,D,G⟩ ⟨some d,op,ty,pos,af,none⟩ ⟨sv,keys X',X',[],[]⟩)
    (K : WPl cx ops ⟨m,(d,sv) :: fr,X' ++ X,L,D,G⟩ rest Q) : WPl cx ops ⟨n,fr,X,L,D,G⟩ (⟨some d,op,ty,pos,af,none⟩ :: rest) Q :=
  WPl.upd m (ROp.plain rfl h) (St.le.refl _) (fun i hi => by cases hi; rw [Nat.blt_eq] at hd; exact hd)
    (fun j h => ⟨by simpa using List.all_eq_true.1 hk j h,by simpa [Nat.blt_eq] using List.all_eq_true.1 hm j h⟩) (by simpa using hn) K
theorem Env.γ_agree {ε : Env} {M : Nat → Prop} {g : Nat} {b : Bool} (hg : ¬ M g) : Env.agree M ε ⟨ε.β,ε.ν,upd ε.γ g b⟩ := fun _ hk => ⟨rfl,rfl,upd_other _ _ (fun e => hg (e ▸ hk))⟩
theorem Sat.bit {ε : Env} {I : IH} {a : Act} {w : World} {g m : Nat} {b : Bool} (hg : n ≤ g) (hm : g < m) (hs : Sat cx ε I ⟨n,fr,X,L,D,G⟩ a w) : Sat cx ⟨ε.β,ε.ν,upd ε.γ g b⟩ I ⟨m,fr,X,L,D,(g,b) :: G⟩ a w := by
  have hag : Env.agree (· < n) ε ⟨ε.β,ε.ν,upd ε.γ g b⟩ := Env.γ_agree (by omega)
  have hM : ∀ k,k < n → k < m := fun k hk => by omega
  refine { size := hs.size,imm := hs.imm,keep := hs.keep,le0 := hs.le0,fr0 := hs.fr0,ext := hs.ext,pin := fun k hk => ⟨hM _ (hs.pin k hk).1,(hs.pin k hk).2⟩,sep := ?_,foot := ?_,L := ?_,X := hs.X,fr := ?_,defs := hs.defs,wfr := ?_,wfX := fun j R h => hM _ (hs.wfX j R h),wfL := ?_,wfD := fun k h => hM _ (hs.wfD k h),wfG := ?_,G := ?_ }
  · intro i x hx; exact SV.on_mono hM (SV.on_agree hag (hs.wfr i x hx))
  · intro k e he
    refine ⟨hM _ (hs.wfL k e he).1,?_⟩
    have := (hs.wfL k e he).2
    cases e <;> first | exact trivial | exact fun c hc => At.on_mono hM (this c hc)
  · intro k c hc
    rw [look_cons] at hc
    by_cases hk : g = k
    · subst hk; exact hm
    · simp [hk] at hc; exact hM _ (hs.wfG k c hc)
  · intro k c hc
    rw [look_cons] at hc
    by_cases hk : g = k
    · subst hk; simp at hc; subst hc; exact upd_same _ _ _
    · simp [hk] at hc
      have h1 := hs.G k c hc
      have h2 : k < n := hs.wfG k c hc
      show upd ε.γ g b k = c
      rw [upd_other _ _ (by omega)]; exact h1
  · intro i x hx; rw [hs.fr i x hx,SV.den_agree hag (hs.wfr i x hx)]
  · intro k e he; exact Ent.ok_kept hag IH.le.rfl' (hs.wfL k e he).1 (hs.wfL k e he).2 (hs.L k e he) (fun _ _ => rfl) (fun x _ => ⟨IH.le.rfl',hs.imm,rfl,rfl,Out.rf,Nat.le_refl _,fun _ _ _ => rfl,fun _ _ h => .inl h⟩)
  · intro k e he c hc
    rw [Ent.foot_agree hag (hs.wfL k e he).1] at hc
    exact hs.foot k e he c hc
  · intro k k' e e' c he he' hne hc
    rw [Ent.foot_agree hag (hs.wfL k e he).1] at hc
    rw [Ent.foot_agree hag (hs.wfL k' e' he').1]
    exact hs.sep k k' e e' c he he' hne hc
theorem WPl.bit (g m : Nat) (b : Bool) (hg : Nat.ble n g = true) (hm : Nat.blt g m = true) (K : WPl cx ops ⟨m,fr,X,L,D,(g,b) :: G⟩ rest Q) : WPl cx ops ⟨n,fr,X,L,D,G⟩ rest Q :=
  fun _ _ _ _ hs => K _ _ _ _ (Sat.bit (by simpa using hg) (by rw [Nat.blt_eq] at hm; exact hm) hs)
inductive GB (S : St) (dj : Nat) (want : Bool) (g : Nat) : List Nat → Bool → Prop
  | plain {c b : Bool} (h : look dj S.fr = some (.b c)) (hb : (b = true ↔ c = want)) (hg : look g S.G = some b) : GB S dj want g [g] b
  | nest {g' : Nat} {c b b' : Bool} (h : look dj S.fr = some (.c g' (.a (.v (.bool c))))) (hg' : look g' S.G = some b') (hb : (b = true ↔ b' = true ∧ c = want)) (hg : look g S.G = some b) : GB S dj want g [g,g'] b
  | nest2 {g' g'' : Nat} {c b b' b'' : Bool} (h : look dj S.fr = some (.c g' (.a (.v (.bool c))))) (hg' : look g' S.G = some b') (hg'' : look g'' S.G = some b'') (hb : (b = true ↔ b' = true ∧ c = want)) (h2 : b' = true → b'' = true) (hg : look g S.G = some b) : GB S dj want g [g,g',g''] b
theorem ROp.g {S : St} {o : Oper} {u : U} {g : Nat} {gs : List Nat} {b : Bool} {x : El} {j dj : Nat} {want : Bool} (hg : o.guard = some (j,want)) (hj : (ops[j]?).bind (·.dst) = some dj) (hb : GB S dj want g gs b)
    (hu : u.sv = .e x) (hL : u.L = []) (hX : ∀ k R,look k u.X = some R → k ∈ u.N) (h : b = true → OpG cx (S.und gs) o u) : ROp cx ops S o (u.cond g b x) := by
  cases hb with
  | plain h1 h2 h3 =>
    refine ROp.guard hg hj h1 h3 (fun ε _ => ?_) (fun ε hε hbt k hk => ?_) hu hL hX h
    · rw [h2]; simp [SV.den,El.den,At.den]
    · rw [List.mem_singleton] at hk; subst hk; rw [hε _ _ h3,hbt]
  | nest h1 h2 h3 h4 =>
    refine ROp.guard hg hj h1 h4 (fun ε hε => ?_) (fun ε hε hbt k hk => ?_) hu hL hX h
    · rw [h3,SV.den,hε _ _ h2]
      rename_i g' c b'
      cases b' <;> simp [El.den,At.den,undef]
    · rcases List.mem_cons.1 hk with rfl | hk
      · rw [hε _ _ h4,hbt]
      · rw [List.mem_singleton] at hk; subst hk; rw [hε _ _ h2]; exact (h3.1 hbt).1
  | nest2 h1 h2 h2' h3 h3' h4 =>
    refine ROp.guard hg hj h1 h4 (fun ε hε => ?_) (fun ε hε hbt k hk => ?_) hu hL hX h
    · rw [h3,SV.den,hε _ _ h2]
      rename_i g' g'' c b' b''
      cases b' <;> simp [El.den,At.den,undef]
    · rcases List.mem_cons.1 hk with rfl | hk
      · rw [hε _ _ h4,hbt]
      · rcases List.mem_cons.1 hk with rfl | hk
        · rw [hε _ _ h2]; exact (h3.1 hbt).1
        · rw [List.mem_singleton] at hk; subst hk; rw [hε _ _ h2']; exact h3' (h3.1 hbt).1
theorem WPl.gv (g : Nat) {gs : List Nat} {b : Bool} {x : El} {j dj : Nat} {want : Bool} (hd : Nat.blt d cx.N = true) (hj : (ops[j]?).bind (·.dst) = some dj) (hb : GB ⟨n,fr,X,L,D,G⟩ dj want g gs b)
    (h : b = true → OpG cx ⟨n,und gs fr,X,L,D,G⟩ ⟨some d,op,ty,pos,af,some (j,want)⟩ (.val (.e x))) (K : WPl cx ops ⟨n,(d,.c g x) :: fr,X,L,D,G⟩ rest Q) :
    WPl cx ops ⟨n,fr,X,L,D,G⟩ (⟨some d,op,ty,pos,af,some (j,want)⟩ :: rest) Q :=
  WPl.upd0 n (ROp.g (u := .val (.e x)) rfl hj hb rfl rfl (fun _ _ h => by cases h) h) (fun i hi => by cases hi; rw [Nat.blt_eq] at hd; exact hd) (fun _ h => by cases h) (Nat.le_refl _) K
theorem WPl.gx (g k m : Nat) {gs : List Nat} {b : Bool} {x : El} {j dj : Nat} {want : Bool} {R : Pred} (hk : Nat.ble n k = true) (hm : Nat.blt k m = true) (hd : Nat.blt d cx.N = true) (hj : (ops[j]?).bind (·.dst) = some dj) (hb : GB ⟨n,fr,X,L,D,G⟩ dj want g gs b)
    (h : b = true → OpG cx ⟨n,und gs fr,X,L,D,G⟩ ⟨some d,op,ty,pos,af,some (j,want)⟩ ⟨.e x,[k],[(k,R)],[],[]⟩) (K : WPl cx ops ⟨m,(d,.c g x) :: fr,(k,Pred.iff b R) :: X,L,D,G⟩ rest Q) :
    WPl cx ops ⟨n,fr,X,L,D,G⟩ (⟨some d,op,ty,pos,af,some (j,want)⟩ :: rest) Q := by
  have hk' : n ≤ k := by simpa using hk
  rw [Nat.blt_eq] at hm hd
  refine WPl.upd0 m (ROp.g (u := ⟨.e x,[k],[(k,R)],[],[]⟩) rfl hj hb rfl rfl (fun _ _ h => by obtain ⟨rfl,_⟩ := look_one h; simp) h) (fun i hi => by cases hi; exact hd) (fun i h => ?_) (by show n ≤ m; omega) ?_
  · have h : i ∈ [k] := h
    rw [List.mem_singleton] at h; subst h; exact ⟨hk',hm⟩
  · exact K
theorem WPl.gc0 (g : Nat) {gs : List Nat} {b : Bool} {x : El} {j dj : Nat} {want : Bool} (hd : Nat.blt d cx.N = true) (hj : (ops[j]?).bind (·.dst) = some dj) (hb : GB ⟨n,fr,X,L,D,G⟩ dj want g gs b)
    (h : b = true → OpG cx ⟨n,und gs fr,X,L,D,G⟩ ⟨some d,op,ty,pos,af,some (j,want)⟩ ⟨.e x,keys ([] : List (Nat × Pred)),[],[],[]⟩) (K : WPl cx ops ⟨n,(d,.c g x) :: fr,X,L,D,G⟩ rest Q) :
    WPl cx ops ⟨n,fr,X,L,D,G⟩ (⟨some d,op,ty,pos,af,some (j,want)⟩ :: rest) Q := WPl.gv g hd hj hb h K
end steps
def BldT (P : Program) (T : TypeId) (pl : List (Nat × Nat)) (zs : List Value) : Prop :=
  (∃ fs : Array Field,P.underlying T = some (.struct fs) ∧ ∀ w,(fs.mapM (fun f => do pure (f.offset,← sizeOf f.type) : Field → Sem (Nat × Nat))).run P w = .ok pl.toArray w) ∧ ∃ z,(∀ w,(zeroValue T).run P w = .ok z w) ∧ z.cells = zs.toArray
def fillc (cs : List At) : List (Nat × List At) → List At
  | [] => cs
  | (o,ys) :: t => fillc (splice cs o ys) t
def partsOf (pl : List (Nat × Nat)) (len : Nat) : List (Nat × El) → Option (List (Nat × List At))
  | [] => some []
  | (i,e) :: t => match pl[i]?,partsOf pl len t with
    | some (o,sz),some l => bif Nat.beq e.cells.length sz && Nat.ble (o + sz) len then some ((o,e.cells) :: l) else none
    | _,_ => none
def OneEls (S : St) : List (Nat × El) → Prop
  | [] => True
  | (_,.a y) :: t => y.one S ∧ OneEls S t
  | (_,.g _) :: t => OneEls S t
def St.els (S : St) : List (Nat × Operand) → Option (List (Nat × El))
  | [] => some []
  | (i,x) :: t => match S.op x,S.els t with
    | some (.e e),some l => some ((i,e) :: l)
    | _,_ => none
theorem SatM.elsv {cx : Cx} {M : Nat → Prop} {ε : Env} {I : IH} {S : St} {a : Act} {w : World} (hs : SatM cx M ε I S a w) : ∀ {l : List (Nat × Operand)} {els : List (Nat × El)},S.els l = some els → l.map (fun p => (p.1,a.eval p.2)) = els.map (fun p => (p.1,p.2.den ε)) ∧ ∀ p ∈ els,p.2.on M
  | [],_,h => by cases h; exact ⟨rfl,fun _ h => by cases h⟩
  | (i,x) :: t,els,h => by
    simp only [St.els] at h
    split at h
    · rename_i e l h1 h2
      cases h
      obtain ⟨h3,h4⟩ := SatM.elsv hs h2
      refine ⟨by simp [hs.eval h1,SV.den,h3],fun p hp => ?_⟩
      rcases List.mem_cons.1 hp with rfl | hp
      · exact hs.on (sv := .e e) h1
      · exact h4 p hp
    · cases h
theorem El.den_cells {ε : Env} {e : El} (h : ∀ y,e = .a y → (y.den ε).oneCell' = true) : (e.den ε).cells = (e.cells.map (At.den ε)).toArray := by
  cases e with
  | a y => simp [El.den,El.cells,cells_one (h y rfl)]
  | g l => rfl
theorem foldl_set : ∀ (ys : List Value) (k o : Nat) (cs : List Value),o + k + ys.length ≤ cs.length →
    (ys.zipIdx k).foldl (fun (acc : Array Value) (p : Value × Nat) => acc.setIfInBounds (o + p.2) p.1) cs.toArray = (cs.take (o + k) ++ ys ++ cs.drop (o + k + ys.length)).toArray
  | [],k,o,cs,h => by simp
  | y :: ys,k,o,cs,h => by
    rw [List.zipIdx_cons,List.foldl_cons]
    have h' : o + k < cs.length := by simp at h; omega
    have e : cs.toArray.setIfInBounds (o + k) y = (cs.set (o + k) y).toArray := by simp
    show List.foldl _ (cs.toArray.setIfInBounds (o + k) y) _ = _
    rw [e,foldl_set ys (k + 1) o (cs.set (o + k) y) (by simp at h ⊢; omega)]
    congr 1
    rw [show o + (k + 1) = o + k + 1 from by omega,List.take_succ_eq_append_getElem (by simpa using h')]
    simp only [List.getElem_set_self,List.take_set_of_le (Nat.le_refl _),List.append_assoc,List.cons_append,List.nil_append]
    congr 3
    rw [List.drop_set_of_lt (by omega)]
    simp; congr 1; omega
theorem fill_ok {pl : List (Nat × Nat)} {ε : Env} : ∀ {els : List (Nat × El)} {cs : List At} {ps : List (Nat × List At)},partsOf pl cs.length els = some ps → (∀ p ∈ els,∀ y,p.2 = .a y → (y.den ε).oneCell' = true) →
    Instr.fill (pl.toArray[·]?) (cs.map (At.den ε)).toArray (els.map fun p => (p.1,p.2.den ε)) = some ((fillc cs ps).map (At.den ε)).toArray ∧ (fillc cs ps).length = cs.length
  | [],cs,ps,h,_ => by cases h; simp [Instr.fill,fillc]
  | (i,e) :: t,cs,ps,h,h1 => by
    simp only [partsOf] at h
    split at h
    · rename_i o sz l h2 h3
      cases hb : (Nat.beq e.cells.length sz && Nat.ble (o + sz) cs.length) with
      | false => rw [hb] at h; cases h
      | true =>
        rw [hb] at h
        simp only [cond_true,Option.some.injEq] at h
        subst h
        simp only [Bool.and_eq_true,Nat.ble_eq] at hb
        obtain ⟨hb1,hb2⟩ := hb
        replace hb1 := Nat.eq_of_beq_eq_true hb1
        have hcells := El.den_cells (ε := ε) (e := e) (h1 (i,e) List.mem_cons_self)
        have hlen : (splice cs o e.cells).length = cs.length := by simp [splice]; omega
        obtain ⟨h4,h5⟩ := fill_ok (ε := ε) (els := t) (cs := splice cs o e.cells) (ps := l) (by rw [hlen]; exact h3) (fun p hp => h1 p (List.mem_cons_of_mem _ hp))
        refine ⟨?_,by simp [fillc,h5,hlen]⟩
        simp only [List.map_cons,Instr.fill]
        have hpl : (pl.toArray[i]? : Option (Nat × Nat)) = some (o,sz) := by simpa using h2
        rw [hpl]
        simp only [hcells]
        rw [if_neg (by simp; omega)]
        have := foldl_set (e.cells.map (At.den ε)) 0 o (cs.map (At.den ε)) (by simp; omega)
        have hz : (e.cells.map (At.den ε)).toArray.zipIdx.foldl (fun (acc : Array Value) (p : Value × Nat) => acc.setIfInBounds (o + p.2) p.1) (cs.map (At.den ε)).toArray = ((splice cs o e.cells).map (At.den ε)).toArray := by
          have hzi : (e.cells.map (At.den ε)).toArray.zipIdx = ((e.cells.map (At.den ε)).zipIdx).toArray := by simp
          rw [hzi,List.foldl_toArray,this]
          simp [splice,List.map_take,List.map_drop]
        have hz' : Array.foldl (fun (acc : Array Value) (x : Value × Nat) => match x with | (c,j) => acc.setIfInBounds (o + j) c) (cs.map (At.den ε)).toArray (e.cells.map (At.den ε)).toArray.zipIdx = ((splice cs o e.cells).map (At.den ε)).toArray := hz
        simp only [hz',fillc]
        exact h4
    · cases h
section ops
variable {cx : Cx} {S : St} {dst : Option Tmp} {ty : TypeId} {pos : String} {af : Array Edge} {gd : Option (Nat × Bool)}
theorem o_build {T : TypeId} {l : List (Nat × Operand)} {els : List (Nat × El)} {pl : List (Nat × Nat)} {zs : List Value} {cs : List At} {ps : List (Nat × List At)} (hT : BldT cx.P T pl zs) (hl : S.els l = some els) (h1 : OneEls S els) (hz : zs.map .v = cs) (hp : partsOf pl cs.length els = some ps) :
    OpG cx S ⟨dst,.build T l.toArray,ty,pos,af,gd⟩ (.val (.e (.g (fillc cs ps)))) := by
  obtain ⟨⟨fs,h2,h3⟩,z,h4,h5⟩ := hT
  subst hz
  refine OpG.pure (fun _ => by simp) fun M ε I a w hs => ?_
  obtain ⟨h6,h7⟩ := hs.elsv hl
  have hone : ∀ p ∈ els,∀ y,p.2 = .a y → (y.den ε).oneCell' = true := by
    have : ∀ l : List (Nat × El),OneEls S l → ∀ p ∈ l,∀ y,p.2 = .a y → (y.den ε).oneCell' = true := by
      intro l
      induction l with
      | nil => intro _ p hp; cases hp
      | cons q t ih =>
        intro h p hp y hy
        obtain ⟨i,e⟩ := q
        cases e with
        | a z =>
          rcases List.mem_cons.1 hp with rfl | hp
          · cases hy; exact hs.one h.1
          · exact ih h.2 p hp y hy
        | g l =>
          rcases List.mem_cons.1 hp with rfl | hp
          · cases hy
          · exact ih h p hp y hy
    exact this els h1
  obtain ⟨h8,_⟩ := fill_ok (ε := ε) hp hone
  refine ⟨?_,?_⟩
  · have hon : ∀ (l : List (Nat × El)) (cs : List At) (ps : List (Nat × List At)),partsOf pl zs.length l = some ps → (∀ p ∈ l,p.2.on M) → (∀ c ∈ cs,c.on M) → ∀ c ∈ fillc cs ps,c.on M := by
      intro l
      induction l with
      | nil => intro cs ps h _ hc; cases h; exact hc
      | cons q t ih =>
        intro cs ps h hq hc
        obtain ⟨i,e⟩ := q
        simp only [partsOf] at h
        split at h
        · rename_i o sz l' _ h9
          cases hb : (Nat.beq e.cells.length sz && Nat.ble (o + sz) zs.length) with
          | false => rw [hb] at h; cases h
          | true =>
            rw [hb] at h
            simp only [cond_true,Option.some.injEq] at h
            subst h
            refine ih (splice cs o e.cells) l' h9 (fun p hp => hq p (List.mem_cons_of_mem _ hp)) ?_
            intro c hcm
            simp only [splice,List.mem_append] at hcm
            rcases hcm with (hcm | hcm) | hcm
            · exact hc c (List.mem_of_mem_take hcm)
            · have := hq (i,e) List.mem_cons_self
              cases e with
              | a y => rw [El.cells,List.mem_singleton] at hcm; subst hcm; exact this
              | g l => exact this c hcm
            · exact hc c (List.mem_of_mem_drop hcm)
        · cases h
    exact hon els _ ps (by simpa using hp) h7 (fun c hc => by obtain ⟨v,_,rfl⟩ := List.mem_map.1 hc; trivial)
  · have hcs : (zs.map (At.den ε ∘ At.v)) = zs := by simp [Function.comp_def,At.den]
    rw [List.map_map,hcs] at h8
    have h6' : (l.toArray.map fun (p : Nat × Operand) => (p.1,a.eval p.2)).toList = els.map (fun p => (p.1,p.2.den ε)) := by simpa using h6
    simp only [execOp,Sem.run_bind,Instr.build,h4,run_underlying h2,Result.andThen_ok,h3,h5,Sem.run_pure,h6',h8]
    rfl
end ops
end Go.Eng
namespace Go.Eng
open Go
structure Rec where
  ds : List Nat
  dk : List Nat
  N : List Nat
  ks : List Nat
  pre : List Nat
def memb (k : Nat) : List Nat → Bool
  | [] => false
  | x :: t => bif Nat.beq x k then true else memb k t
theorem memb_iff {k : Nat} : ∀ {l : List Nat},memb k l = true ↔ k ∈ l
  | [] => by simp [memb]
  | x :: t => by
    simp only [memb,List.mem_cons,cond_eq_ite]
    by_cases h : x = k
    · simp [h]
    · simp only [Nat.beq_eq,h,if_false,memb_iff (l := t)]
      constructor
      · exact .inr
      · intro h'
        rcases h' with rfl | h'
        · exact absurd rfl h
        · exact h'
def dropL {α : Type} (ds : List Nat) : List (Nat × α) → List (Nat × α)
  | [] => []
  | (k,x) :: t => bif memb k ds then dropL ds t else (k,x) :: dropL ds t
theorem look_dropL {α : Type} (ds : List Nat) (i : Nat) : ∀ l : List (Nat × α),look i (dropL ds l) = if i ∈ ds then none else look i l
  | [] => by simp [dropL,look]
  | (k,x) :: t => by
    have ih := look_dropL ds i t
    simp only [dropL]
    cases hm : memb k ds with
    | true =>
      rw [cond_true,ih,look_cons]
      by_cases hk : k = i
      · subst hk; simp [memb_iff.1 hm]
      · simp [hk]
    | false =>
      have hn : k ∉ ds := fun h => by rw [memb_iff.2 h] at hm; cases hm
      rw [cond_false,look_cons,look_cons,ih]
      by_cases hk : k = i
      · subst hk; simp [hn]
      · simp [hk]
def St.drop (S : St) (ds dk : List Nat) : St := ⟨S.n,dropL ds S.fr,dropL dk S.X,dropL dk S.L,S.D,S.G⟩
structure St.eqv (S T : St) : Prop where
  fr : ∀ i,look i S.fr = look i T.fr
  X : ∀ i,look i S.X = look i T.X
  L : ∀ i,look i S.L = look i T.L
  D : S.D = T.D
  G : ∀ i,look i S.G = look i T.G
theorem St.eqv.symm {S T : St} (h : S.eqv T) : T.eqv S := ⟨fun i => (h.fr i).symm,fun i => (h.X i).symm,fun i => (h.L i).symm,h.D.symm,fun i => (h.G i).symm⟩
theorem St.eqv.le {S T : St} (h : S.eqv T) : S.le T := ⟨fun i x hx => by rw [h.fr i]; exact hx,fun i x hx => by rw [h.X i]; exact hx,fun i x hx => by rw [h.L i]; exact hx,h.D.symm,fun i x hx => by rw [h.G i]; exact hx⟩
theorem fpOf_eqv {S T : St} (h : S.eqv T) (ε : Env) (u : U) : fpOf S ε u = fpOf T ε u := by
  funext b; simp only [fpOf,h.L]
theorem New.eqv {cx : Cx} {M : Nat → Prop} {S T : St} {ε ε' : Env} {I' : IH} {w w' : World} {u : U} (h : S.eqv T) (hn : New cx M S ε ε' I' w w' u) : New cx M T ε ε' I' w w' u :=
  ⟨hn.sv,hn.wX,hn.wG,hn.wL,hn.X,hn.L,fun k e he b hb => by rw [← fpOf_eqv h]; exact hn.foot k e he b hb,hn.sep,hn.ext⟩
theorem ROp.eqv {cx : Cx} {ops : Array Oper} {S T : St} {o : Oper} {u : U} (h : S.eqv T) (hr : ROp cx ops S o u) : ROp cx ops T o u := by
  intro M ε I a w next Q hs hN K
  refine hr M ε I a w next Q (SatM.le h.symm.le hs) hN fun ε' I' w' ht hn => ?_
  rw [fpOf_eqv h] at ht
  exact K ε' I' w' ht (hn.eqv h)
theorem St.eqv.drop {S T : St} (h : S.eqv T) (ds dk : List Nat) : (S.drop ds dk).eqv (T.drop ds dk) :=
  ⟨fun i => by simp only [St.drop,look_dropL,h.fr],fun i => by simp only [St.drop,look_dropL,h.X],fun i => by simp only [St.drop,look_dropL,h.L],h.D,h.G⟩
theorem St.eqv.app {S T : St} (h : S.eqv T) (m m' : Nat) (d : Option Nat) (u : U) : (S.app m d u).eqv (T.app m' d u) := by
  refine ⟨fun i => ?_,fun i => ?_,fun i => ?_,h.D,fun i => ?_⟩
  · cases d <;> simp only [St.app,look_cons,h.fr]
  · simp only [St.app,look_append,h.X]
  · simp only [St.app,look_append,h.L]
  · simp only [St.app,look_append,h.G]
structure Fits (cx : Cx) (o : Oper) (r : Rec) (u : U) : Prop where
  N : u.N = r.N
  X : ∀ k R,look k u.X = some R → k ∈ r.ks
  L : ∀ k R,look k u.L = some R → k ∈ r.ks
  G : u.G = []
  d : ∀ i,o.dst = some i → i < cx.N
def DRQ (cx : Cx) (ops : Array Oper) (nf : Nat) : List (Oper × Rec) → St → (Exit → Act → World → Prop) → Prop
  | [],S,Q => EX cx { S with n := nf } .normal Q
  | (o,r) :: t,S,Q => ∃ u,ROp cx ops (S.drop r.ds r.dk) o u ∧ Fits cx o r u ∧ DRQ cx ops nf t (S.app S.n o.dst u) Q
theorem EX.eqv {cx : Cx} {S T : St} {e : Exit} {Q : Exit → Act → World → Prop} (h : S.eqv T) (hn : S.n = T.n) (hx : EX cx S e Q) : EX cx T e Q := fun ε I a w hs =>
  hx ε I a w (by unfold Sat; rw [hn]; exact SatM.le h.symm.le hs)
theorem DRQ.eqv {cx : Cx} {ops : Array Oper} {nf : Nat} {Q : Exit → Act → World → Prop} : ∀ {l : List (Oper × Rec)} {S T : St},S.eqv T → DRQ cx ops nf l S Q → DRQ cx ops nf l T Q
  | [],S,T,h,hd => EX.eqv (S := { S with n := nf }) (T := { T with n := nf }) ⟨h.fr,h.X,h.L,h.D,h.G⟩ rfl hd
  | (o,r) :: t,S,T,h,⟨u,h1,h2,h3⟩ => ⟨u,ROp.eqv (h.drop _ _) h1,h2,DRQ.eqv (h.app _ _ _ _) h3⟩
structure Ind (a : Oper) (ra : Rec) (o : Oper) (r : Rec) : Prop where
  d1 : ∀ i,a.dst = some i → i ∈ r.ds
  d2 : ∀ i,o.dst = some i → i ∈ ra.ds
  k1 : ∀ k ∈ ra.ks,k ∈ r.dk
  k2 : ∀ k ∈ r.ks,k ∈ ra.dk
  k3 : ∀ k ∈ ra.ks,k ∉ r.ks
  d3 : ∀ i,a.dst = some i → o.dst ≠ some i
theorem drop_app {cx : Cx} {a : Oper} {ra : Rec} {r : Rec} {u : U} (S : St) (m : Nat) (hf : Fits cx a ra u) (hd : ∀ i,a.dst = some i → i ∈ r.ds) (hk : ∀ k ∈ ra.ks,k ∈ r.dk) : ((S.app m a.dst u).drop r.ds r.dk).eqv (S.drop r.ds r.dk) := by
  refine ⟨fun i => ?_,fun i => ?_,fun i => ?_,rfl,fun i => ?_⟩
  · simp only [St.drop,look_dropL]
    by_cases hi : i ∈ r.ds
    · simp [hi]
    · simp only [hi,if_false]
      cases hdst : a.dst with
      | none => rfl
      | some d =>
        have : d ≠ i := fun e => hi (e ▸ hd d hdst)
        simp [St.app,look_cons,this]
  · simp only [St.drop,look_dropL,St.app,look_append]
    by_cases hi : i ∈ r.dk
    · simp [hi]
    · simp only [hi,if_false]
      cases hu : look i u.X with
      | none => simp
      | some R => exact absurd (hk i (hf.X i R hu)) hi
  · simp only [St.drop,look_dropL,St.app,look_append]
    by_cases hi : i ∈ r.dk
    · simp [hi]
    · simp only [hi,if_false]
      cases hu : look i u.L with
      | none => simp
      | some R => exact absurd (hk i (hf.L i R hu)) hi
  · simp only [St.drop,St.app,hf.G,List.nil_append]
theorem app_comm {cx : Cx} {a o : Oper} {ra r : Rec} {ua u : U} (S : St) (m m' m2 m2' : Nat) (ha : Fits cx a ra ua) (ho : Fits cx o r u) (hi : Ind a ra o r) :
    ((S.app m a.dst ua).app m' o.dst u).eqv ((S.app m2 o.dst u).app m2' a.dst ua) := by
  refine ⟨fun i => ?_,fun i => ?_,fun i => ?_,rfl,fun i => ?_⟩
  · cases hda : a.dst with
    | none => cases hdo : o.dst <;> simp [St.app,look_cons]
    | some d =>
      cases hdo : o.dst with
      | none => simp [St.app,look_cons]
      | some d' =>
        have hne : d ≠ d' := fun e => hi.d3 d hda (e ▸ hdo)
        simp only [St.app,look_cons]
        by_cases h1 : d' = i
        · have : d ≠ i := fun e => hne (e.trans h1.symm)
          simp [h1,this]
        · simp [h1]
  · simp only [St.app,look_append]
    cases h1 : look i u.X with
    | none => simp
    | some R =>
      cases h2 : look i ua.X with
      | none => simp
      | some R' => exact absurd (ho.X i R h1) (hi.k3 i (ha.X i R' h2))
  · simp only [St.app,look_append]
    cases h1 : look i u.L with
    | none => simp
    | some R =>
      cases h2 : look i ua.L with
      | none => simp
      | some R' => exact absurd (ho.L i R h1) (hi.k3 i (ha.L i R' h2))
  · simp only [St.app,ha.G,ho.G,List.nil_append]
theorem DRQ.front {cx : Cx} {ops : Array Oper} {nf : Nat} {Q : Exit → Act → World → Prop} {o : Oper} {r : Rec} {B : List (Oper × Rec)} : ∀ {A : List (Oper × Rec)} {S : St},DRQ cx ops nf (A ++ (o,r) :: B) S Q → (∀ p ∈ A,Ind p.1 p.2 o r) →
    ∃ u,ROp cx ops (S.drop r.ds r.dk) o u ∧ Fits cx o r u ∧ DRQ cx ops nf (A ++ B) (S.app S.n o.dst u) Q
  | [],S,h,_ => h
  | (a,ra) :: A,S,⟨ua,h1,h2,h3⟩,hi => by
    obtain ⟨u,h4,h5,h6⟩ := DRQ.front (A := A) h3 (fun p hp => hi p (List.mem_cons_of_mem _ hp))
    have hia := hi (a,ra) List.mem_cons_self
    refine ⟨u,ROp.eqv (drop_app S _ h2 hia.d1 hia.k1) h4,h5,ua,ROp.eqv (drop_app S _ h5 hia.d2 hia.k2).symm h1,h2,?_⟩
    exact DRQ.eqv (app_comm S _ _ _ _ h2 h5 hia) h6
def dirs (ops : Array Oper) (j : Nat) : List Nat := match ops[j]? with
  | some o => (o.after.toList.filter (Region.binds .any ·)).map (·.on)
  | none => []
def indb (a : Oper) (ra : Rec) (o : Oper) (r : Rec) : Bool :=
  (match a.dst with | some i => memb i r.ds && (match o.dst with | some j => !(Nat.beq i j) | none => true) | none => true) &&
  (match o.dst with | some i => memb i ra.ds | none => true) &&
  ra.ks.all (fun k => memb k r.dk && !(memb k r.ks)) && r.ks.all (fun k => memb k ra.dk)
theorem Ind.of {a : Oper} {ra : Rec} {o : Oper} {r : Rec} (h : indb a ra o r = true) : Ind a ra o r := by
  simp only [indb,Bool.and_eq_true,List.all_eq_true,memb_iff,Bool.not_eq_true'] at h
  obtain ⟨⟨⟨h1,h2⟩,h3⟩,h4⟩ := h
  refine ⟨fun i hi => ?_,fun i hi => ?_,fun k hk => (h3 k hk).1,fun k hk => h4 k hk,fun k hk hk' => ?_,fun i hi hj => ?_⟩
  · rw [hi] at h1; simp only [Bool.and_eq_true,memb_iff] at h1; exact h1.1
  · rw [hi] at h2; exact memb_iff.1 h2
  · have := (h3 k hk).2; rw [memb_iff.2 hk'] at this; cases this
  · rw [hi,hj] at h1; simp at h1
def chkPairs : List (Nat × Oper × Rec) → Bool
  | [] => true
  | (i,a,ra) :: t => t.all (fun p => memb i p.2.2.pre || indb a ra p.2.1 p.2.2) && t.all (fun p => ra.N.all (fun k => !(memb k p.2.2.N))) && chkPairs t
theorem Sat.drew {cx : Cx} {M : Nat → Prop} {ε : Env} {I : IH} {S : St} {a : Act} {w : World} (hs : SatM cx M ε I S a w) : SatM cx M ε I S a { w with drawn := w.drawn + 1 } :=
  { hs with
    L := fun k e he => by
      have := hs.L k e he
      cases e <;> first | exact this | exact XP.st (w := w) _ ⟨IH.le.rfl',hs.imm,rfl,rfl,⟨rfl,Nat.le_succ _⟩,Nat.le_refl _,fun _ _ _ => rfl,fun _ _ h => .inl h⟩ this
    keep := ⟨hs.keep.os,hs.keep.tape,⟨hs.keep.output.1,Nat.le_succ_of_le hs.keep.output.2⟩,hs.keep.size,hs.keep.block⟩ }
theorem pairs_ind : ∀ {l : List (Nat × Oper × Rec)},chkPairs l = true → ∀ {A B : List (Nat × Oper × Rec)} {i : Nat} {o : Oper} {r : Rec},l = A ++ (i,o,r) :: B →
    (∀ p ∈ A,(p.1 ∈ r.pre ∨ Ind p.2.1 p.2.2 o r) ∧ ∀ k ∈ p.2.2.N,k ∉ r.N) ∧ (∀ p ∈ B,∀ k ∈ r.N,k ∉ p.2.2.N)
  | [],_,A,B,i,o,r,e => by cases A <;> cases e
  | (i0,a,ra) :: t,h,A,B,i,o,r,e => by
    simp only [chkPairs,Bool.and_eq_true,List.all_eq_true,Bool.or_eq_true,Bool.not_eq_true'] at h
    obtain ⟨⟨h1,h2⟩,h3⟩ := h
    cases A with
    | nil =>
      cases e
      refine ⟨fun p hp => (by cases hp),fun p hp k hk hk' => ?_⟩
      have := h2 p hp k hk
      rw [memb_iff.2 hk'] at this; cases this
    | cons x A =>
      rw [List.cons_append] at e
      injection e with e1 e2
      subst e1; subst e2
      obtain ⟨h4,h5⟩ := pairs_ind h3 rfl
      refine ⟨fun p hp => ?_,h5⟩
      rcases List.mem_cons.1 hp with rfl | hp
      · have hm : (i,o,r) ∈ A ++ (i,o,r) :: B := by simp
        refine ⟨?_,fun k hk hk' => ?_⟩
        · rcases h1 _ hm with h | h
          · exact .inl (memb_iff.1 h)
          · exact .inr (Ind.of h)
        · have := h2 _ hm k hk
          rw [memb_iff.2 hk'] at this; cases this
      · exact h4 p hp
theorem chkPairs_sub : ∀ {A B : List (Nat × Oper × Rec)} {x : Nat × Oper × Rec},chkPairs (A ++ x :: B) = true → chkPairs (A ++ B) = true
  | [],B,(i,a,ra),h => by simp only [List.nil_append,chkPairs,Bool.and_eq_true] at h; exact h.2
  | (i,a,ra) :: A,B,x,h => by
    simp only [List.cons_append,chkPairs,Bool.and_eq_true,List.all_eq_true] at h ⊢
    obtain ⟨⟨h1,h2⟩,h3⟩ := h
    exact ⟨⟨fun p hp => h1 p (by simp at hp ⊢; rcases hp with hp | hp <;> simp [hp]),fun p hp => h2 p (by simp at hp ⊢; rcases hp with hp | hp <;> simp [hp])⟩,chkPairs_sub h3⟩
theorem ready_pre {ops : Array Oper} {listed : Array Bool} {recs : List Rec}
    (hcl : ∀ j o,ops[j]? = some o → listed.getD j true = true → ∀ c ∈ dirs ops j,listed.getD c false = true)
    (hpre : ∀ j r,recs[j]? = some r → j < ops.size → (∀ c ∈ dirs ops j,c < j) ∧ ∀ i ∈ r.pre,i ∈ dirs ops j ∨ ∃ c ∈ dirs ops j,∃ r',recs[c]? = some r' ∧ i ∈ r'.pre) :
    ∀ (n j : Nat) (r : Rec),j < n → recs[j]? = some r → j < ops.size → (∀ c ∈ dirs ops j,listed.getD c false = true) → ∀ i ∈ r.pre,listed.getD i false = true := by
  intro n
  induction n with
  | zero => intro j r hj; omega
  | succ n ih =>
    intro j r hj hr hs hd i hi
    obtain ⟨h1,h2⟩ := hpre j r hr hs
    rcases h2 i hi with h | ⟨c,hc,r',hr',hi'⟩
    · exact hd i h
    · have hlt := h1 c hc
      have hcs : c < ops.size := by omega
      have hcl' : listed.getD c true = true := by
        have := hd c hc
        by_cases hcl : c < listed.size
        · simp only [Array.getD,hcl,dif_pos] at this ⊢; exact this
        · simp [Array.getD,hcl]
      exact ih c r' (by omega) hr' hcs (hcl c _ (Array.getElem?_eq_getElem hcs) hcl') i hi'
theorem mem_dirs {ops : Array Oper} {j : Nat} {o : Oper} (ho : ops[j]? = some o) {c : Nat} : c ∈ dirs ops j ↔ ∃ e ∈ o.after,Region.binds .any e = true ∧ e.on = c := by
  simp only [dirs,ho,List.mem_map,List.mem_filter,Array.mem_toList_iff,and_assoc]
structure DInv (ops : Array Oper) (recs : List Rec) (nf : Nat) (listed : Array Bool) (todo : List (Nat × Oper × Rec)) (M : Nat → Prop) : Prop where
  ch : chkPairs todo = true
  size : listed.size = ops.size
  at' : ∀ p ∈ todo,ops[p.1]? = some p.2.1 ∧ recs[p.1]? = some p.2.2
  un : ∀ j,j < ops.size → (listed.getD j true = false ↔ ∃ p ∈ todo,p.1 = j)
  nd : todo.Pairwise (fun p q => p.1 ≠ q.1)
  cl : ∀ j o,ops[j]? = some o → listed.getD j true = true → ∀ c ∈ dirs ops j,listed.getD c false = true
  pre : ∀ j r,recs[j]? = some r → j < ops.size → (∀ c ∈ dirs ops j,c < j) ∧ ∀ i ∈ r.pre,i ∈ dirs ops j ∨ ∃ c ∈ dirs ops j,∃ r',recs[c]? = some r' ∧ i ∈ r'.pre
  N : ∀ p ∈ todo,∀ k ∈ p.2.2.N,¬ M k ∧ k < nf
  M : ∀ k,M k → k < nf
theorem getD_tf {listed : Array Bool} {c : Nat} (hc : c < listed.size) (d d' : Bool) : listed.getD c d = listed.getD c d' := by
  simp [Array.getD,hc]
theorem DInv.some_ready {ops : Array Oper} {recs : List Rec} {nf : Nat} {listed : Array Bool} {todo : List (Nat × Oper × Rec)} {M : Nat → Prop} (h : DInv ops recs nf listed todo M) :
    ∀ (n : Nat) (p : Nat × Oper × Rec),p.1 < n → p ∈ todo → Region.ready .any ops listed ≠ [] := by
  intro n
  induction n with
  | zero => intro p hp; omega
  | succ n ih =>
    intro p hp hpt
    obtain ⟨h1,h2⟩ := h.at' p hpt
    have hlt : p.1 < ops.size := (Array.getElem?_eq_some_iff.1 h1).1
    by_cases hall : ∀ c ∈ dirs ops p.1,listed.getD c false = true
    · intro he
      have : p.1 ∈ Region.ready .any ops listed := mem_ready.2 ⟨(h.un _ hlt).2 ⟨p,hpt,rfl⟩,p.2.1,h1,fun e he hb => hall _ ((mem_dirs h1).2 ⟨e,he,hb,rfl⟩)⟩
      rw [he] at this; cases this
    · simp only [Classical.not_forall] at hall
      obtain ⟨c,hc,hl⟩ := hall
      have hcl := (h.pre _ _ h2 hlt).1 c hc
      have hcs : c < ops.size := by omega
      have : listed.getD c true = false := by
        rw [getD_tf (by rw [h.size]; exact hcs) true false]; simpa using hl
      obtain ⟨q,hq,hqc⟩ := (h.un c hcs).1 this
      exact ih q (by omega) hq
theorem DRQ.any {cx : Cx} {ops : Array Oper} {nf : Nat} {Q : Exit → Act → World → Prop} {recs : List Rec} : ∀ (fuel : Nat) {listed : Array Bool} {todo : List (Nat × Oper × Rec)} {M : Nat → Prop} {S : St} {ε : Env} {I : IH} {a : Act} {w : World},
    DInv ops recs nf listed todo M → todo.length ≤ fuel → SatM cx M ε I S a w → DRQ cx ops nf (todo.map Prod.snd) S Q → wpAnyIn (fen cx.r) 0 cx.P .any ops Q fuel listed a w := by
  have hdone : ∀ {listed : Array Bool} {todo : List (Nat × Oper × Rec)} {M : Nat → Prop} {S : St} {ε : Env} {I : IH} {a : Act} {w : World},
      DInv ops recs nf listed todo M → SatM cx M ε I S a w → DRQ cx ops nf (todo.map Prod.snd) S Q → Region.ready .any ops listed = [] → Q .normal a w := by
    intro listed todo M S ε I a w hi hs hd he
    cases todo with
    | nil =>
      have hM : ∀ k,M k → k < nf := hi.M
      exact hd ε I a w (SatM.mono (M' := (· < nf)) hM ⟨hs.wfr,hs.wfX,hs.wfL,hs.wfD,hs.wfG,hs.G,hs.size,hs.defs,hs.fr,hs.X,hs.L,hs.foot,hs.sep,hs.imm,hs.keep,hs.le0,hs.fr0,hs.pin,hs.ext⟩)
    | cons p t => exact absurd he (hi.some_ready (p.1 + 1) p (Nat.lt_succ_self _) List.mem_cons_self)
  intro fuel
  induction fuel with
  | zero =>
    intro listed todo M S ε I a w hi hf hs hd
    have : todo = [] := List.length_eq_zero_iff.1 (by omega)
    subst this
    have hr : Region.ready .any ops listed = [] := by
      cases h : Region.ready .any ops listed with
      | nil => rfl
      | cons x t =>
        have hx : x ∈ Region.ready .any ops listed := by rw [h]; exact List.mem_cons_self
        obtain ⟨h0,o,ho,_⟩ := mem_ready.1 hx
        obtain ⟨p,hp,_⟩ := (hi.un x (Array.getElem?_eq_some_iff.1 ho).1).1 h0
        cases hp
    exact ⟨hr,hdone hi hs hd hr⟩
  | succ fuel ih =>
    intro listed todo M S ε I a w hi hf hs hd
    refine ⟨hdone hi hs hd,fun i hir => ?_⟩
    obtain ⟨h0,o,ho,hafter⟩ := mem_ready.1 hir
    have his : i < ops.size := (Array.getElem?_eq_some_iff.1 ho).1
    obtain ⟨p,hp,hpi⟩ := (hi.un i his).1 h0
    obtain ⟨pi,po,r⟩ := p
    simp only at hpi; subst hpi
    obtain ⟨ho',hr⟩ := hi.at' _ hp
    simp only at ho' hr
    rw [ho] at ho'; cases ho'
    obtain ⟨A,B,hAB⟩ := List.append_of_mem hp
    subst hAB
    obtain ⟨hA,hB⟩ := pairs_ind hi.ch rfl
    have hdl : ∀ c ∈ dirs ops pi,listed.getD c false = true := fun c hc => by
      obtain ⟨e,he,hb,rfl⟩ := (mem_dirs ho).1 hc
      exact hafter e he hb
    have hpl := ready_pre hi.cl hi.pre (pi + 1) pi r (Nat.lt_succ_self _) hr his hdl
    have hind : ∀ q ∈ A,Ind q.2.1 q.2.2 o r := fun q hq => by
      rcases (hA q hq).1 with h | h
      · exfalso
        have h1 := hpl q.1 h
        obtain ⟨h2,_⟩ := hi.at' q (List.mem_append_left _ hq)
        have hqs : q.1 < ops.size := (Array.getElem?_eq_some_iff.1 h2).1
        have h3 := (hi.un q.1 hqs).2 ⟨q,List.mem_append_left _ hq,rfl⟩
        rw [getD_tf (by rw [hi.size]; exact hqs) true false,h1] at h3
        cases h3
      · exact h
    rw [List.map_append,List.map_cons] at hd
    obtain ⟨u,h1,h2,h3⟩ := DRQ.front hd (fun q hq => by
      obtain ⟨q',hq',rfl⟩ := List.mem_map.1 hq
      exact hind q' hq')
    unfold wpOpIn
    simp only [ho]
    have hsub : (A ++ B).map Prod.snd = A.map Prod.snd ++ B.map Prod.snd := List.map_append
    have hdrop : S.le (S.drop r.ds r.dk) := ⟨fun i x hx => by
      rw [St.drop,look_dropL] at hx; split at hx; exact absurd hx (by simp); exact hx,fun i x hx => by
      rw [St.drop,look_dropL] at hx; split at hx; exact absurd hx (by simp); exact hx,fun i x hx => by
      rw [St.drop,look_dropL] at hx; split at hx; exact absurd hx (by simp); exact hx,rfl,fun i x hx => hx⟩
    have hNM : ∀ k ∈ u.N,¬ M k := fun k hk => (hi.N _ hp k (by rw [h2.N] at hk; exact hk)).1
    refine h1 M ε I a w _ Q (SatM.le hdrop hs) hNM fun ε' I' w' ht hn => ?_
    refine ih (listed := listed.setIfInBounds pi true) (todo := A ++ B) (M := fun k => M k ∨ k ∈ u.N) (S := S.app S.n o.dst u) (ε := ε') (I := I') ?_ ?_ (SatM.app S.n hs hdrop hNM h2.d ht hn) (by rw [hsub]; exact h3)
    · have hmem : ∀ q ∈ A ++ B,q ∈ A ++ (pi,o,r) :: B := fun q hq => by
        rcases List.mem_append.1 hq with h | h
        · exact List.mem_append_left _ h
        · exact List.mem_append_right _ (List.mem_cons_of_mem _ h)
      have hnd := hi.nd
      have hne : ∀ q ∈ A ++ B,q.1 ≠ pi := fun q hq => by
        rw [List.pairwise_append] at hnd
        rcases List.mem_append.1 hq with h | h
        · exact hnd.2.2 q h _ List.mem_cons_self
        · exact fun e => (List.pairwise_cons.1 hnd.2.1).1 q h e.symm
      refine { ch := chkPairs_sub hi.ch,size := by simp [hi.size],at' := fun q hq => hi.at' q (hmem q hq),un := fun j hj => ?_,nd := ?_,cl := fun j oj hoj hl c hc => ?_,pre := hi.pre,N := fun q hq k hk => ⟨?_,(hi.N q (hmem q hq) k hk).2⟩,M := fun k hk => ?_ }
      · by_cases hj' : pi = j
        · subst hj'
          rw [show (listed.setIfInBounds pi true).getD pi true = true from by simp [hi.size]]
          simp only [Bool.true_eq_false,false_iff,not_exists,not_and]
          exact fun q hq => hne q hq
        · rw [getD_set_ne true hj',hi.un j hj]
          constructor
          · rintro ⟨q,hq,rfl⟩
            rcases List.mem_append.1 hq with h | h
            · exact ⟨q,List.mem_append_left _ h,rfl⟩
            · rcases List.mem_cons.1 h with rfl | h
              · exact absurd rfl hj'
              · exact ⟨q,List.mem_append_right _ h,rfl⟩
          · rintro ⟨q,hq,rfl⟩; exact ⟨q,hmem q hq,rfl⟩
      · exact List.Pairwise.sublist (List.Sublist.append_left (List.sublist_cons_self _ _) A) hnd
      · refine getD_set_true ?_
        by_cases hj' : pi = j
        · subst hj'; exact hdl c hc
        · rw [getD_set_ne true hj'] at hl
          exact hi.cl j oj hoj hl c hc
      · rintro (h | h)
        · exact (hi.N q (hmem q hq) k hk).1 h
        · rw [h2.N] at h
          rcases List.mem_append.1 hq with hqA | hqB
          · exact (hA q hqA).2 k hk h
          · exact hB q hqB k h hk
      · rcases hk with hk | hk
        · exact hi.M k hk
        · exact (hi.N _ hp k (by rw [h2.N] at hk; exact hk)).2
    · simp only [List.length_append,List.length_cons] at hf ⊢; omega
def zipI {α β : Type} : Nat → List α → List β → List (Nat × α × β)
  | i,a :: s,b :: t => (i,a,b) :: zipI (i + 1) s t
  | _,_,_ => []
theorem mem_zipI {α β : Type} {p : Nat × α × β} : ∀ {i : Nat} {s : List α} {t : List β},p ∈ zipI i s t → i ≤ p.1 ∧ s[p.1 - i]? = some p.2.1 ∧ t[p.1 - i]? = some p.2.2
  | i,a :: s,b :: t,h => by
    rcases List.mem_cons.1 h with rfl | h
    · simp
    · obtain ⟨h1,h2,h3⟩ := mem_zipI h
      refine ⟨by omega,?_,?_⟩
      · rw [show p.1 - i = (p.1 - (i + 1)) + 1 by omega]; exact h2
      · rw [show p.1 - i = (p.1 - (i + 1)) + 1 by omega]; exact h3
  | _,[],_,h => by cases h
  | _,_ :: _,[],h => by cases h
theorem zipI_mem {α β : Type} : ∀ {i j : Nat} {s : List α} {t : List β},s.length = t.length → j < s.length → ∃ p ∈ zipI i s t,p.1 = i + j
  | i,0,a :: s,b :: t,_,_ => ⟨_,List.mem_cons_self,rfl⟩
  | i,j + 1,a :: s,b :: t,hl,hj => by
    obtain ⟨p,hp,he⟩ := zipI_mem (i := i + 1) (j := j) (s := s) (t := t) (by simpa using hl) (by simpa using hj)
    exact ⟨p,List.mem_cons_of_mem _ hp,by omega⟩
  | _,_,[],_,_,hj => by cases hj
  | _,_,_ :: _,[],hl,_ => by cases hl
theorem zipI_nd {α β : Type} : ∀ {i : Nat} {s : List α} {t : List β},(zipI i s t).Pairwise (fun p q => p.1 ≠ q.1)
  | i,a :: s,b :: t => by
    refine List.pairwise_cons.2 ⟨fun q hq => ?_,zipI_nd⟩
    have := (mem_zipI hq).1
    show i ≠ q.1
    omega
  | _,[],_ => List.Pairwise.nil
  | _,_ :: _,[] => List.Pairwise.nil
theorem zipI_map {α β : Type} : ∀ {i : Nat} {s : List α} {t : List β},(zipI i s t).map Prod.snd = s.zip t
  | i,a :: s,b :: t => by simp [zipI,zipI_map]
  | _,[],_ => rfl
  | _,_ :: _,[] => rfl
def chkR (ops : List Oper) (recs : List Rec) (n0 nf : Nat) : Bool :=
  Nat.beq recs.length ops.length && Nat.ble n0 nf && chkPairs (zipI 0 ops recs) &&
  (zipI 0 ops recs).all (fun p => (dirs ops.toArray p.1).all (Nat.blt · p.1) && p.2.2.N.all (fun k => Nat.ble n0 k && Nat.blt k nf) &&
    p.2.2.pre.all (fun i => memb i (dirs ops.toArray p.1) || (dirs ops.toArray p.1).any (fun c => match recs[c]? with | some r => memb i r.pre | none => false)))
theorem WP.draw {cx : Cx} {S : St} {Q : Exit → Act → World → Prop} {id nf : Nat} {ops : List Oper} (recs : List Rec) (hm : cx.P.follows .mixedOrders = true) (hc : chkR ops recs S.n nf = true)
    (h : DRQ cx ops.toArray nf (ops.zip recs) S Q) : WP cx S (.region id ops.toArray true) Q := by
  intro ε I a w hs
  simp only [chkR,Bool.and_eq_true,List.all_eq_true,Nat.beq_eq,Nat.ble_eq,Nat.blt_eq,Bool.or_eq_true,memb_iff,List.any_eq_true] at hc
  obtain ⟨⟨⟨h1,h2⟩,h3⟩,h4⟩ := hc
  refine wpIn_region_any hm (DRQ.any (recs := recs) (todo := zipI 0 ops recs) (M := (· < S.n)) _ ?_ ?_ (Sat.drew hs) (by rw [zipI_map]; exact h))
  · refine { ch := h3,size := by simp,at' := fun p hp => ?_,un := fun j hj => ?_,nd := zipI_nd,cl := fun j o ho hl => ?_,pre := fun j r hr hj => ?_,N := fun p hp k hk => ?_,M := fun k hk => Nat.lt_of_lt_of_le hk h2 }
    · obtain ⟨_,h5,h6⟩ := mem_zipI hp
      exact ⟨by simpa using h5,by simpa using h6⟩
    · have hj' : j < ops.length := by simpa using hj
      obtain ⟨p,hp,he⟩ := zipI_mem (i := 0) h1.symm hj'
      constructor
      · intro _; exact ⟨p,hp,by omega⟩
      · intro _; simp [Array.getD,hj']
    · exfalso
      have hj' : j < ops.length := by
        have := (Array.getElem?_eq_some_iff.1 ho).1; simpa using this
      simp [Array.getD,hj'] at hl
    · have hj' : j < ops.length := by simpa using hj
      obtain ⟨p,hp,he⟩ := zipI_mem (i := 0) h1.symm hj'
      simp only [Nat.zero_add] at he; subst he
      obtain ⟨⟨h5,_⟩,h6⟩ := h4 p hp
      have hr' : recs[p.1]? = some p.2.2 := by simpa using (mem_zipI hp).2.2
      rw [hr] at hr'; cases hr'
      refine ⟨h5,fun i hi => ?_⟩
      rcases h6 i hi with h | ⟨c,hc,h⟩
      · exact .inl h
      · refine .inr ⟨c,hc,?_⟩
        cases hrc : recs[c]? with
        | none => rw [hrc] at h; cases h
        | some r' => rw [hrc] at h; exact ⟨r',rfl,memb_iff.1 h⟩
    · obtain ⟨⟨_,h5⟩,_⟩ := h4 p hp
      have := h5 k hk
      exact ⟨by show ¬ k < S.n; omega,this.2⟩
  · have : ∀ (i : Nat) (s : List Oper) (t : List Rec),(zipI i s t).length ≤ s.length := by
      intro i s
      induction s generalizing i with
      | nil => intro t; cases t <;> simp [zipI]
      | cons a s ih => intro t; cases t with
        | nil => simp [zipI]
        | cons b t => simp only [zipI,List.length_cons]; have := ih (i + 1) t; omega
    simpa using this 0 ops recs
end Go.Eng
namespace Go.Eng
open Go
structure RowT (P : Program) (t e : TypeId) (size bytes : Nat) (zs : List Value) : Prop where
  u : P.underlying t = some (.slice e)
  i : ∃ i z,P.info? e = some i ∧ i.zero = some z ∧ i.size = size ∧ i.bytes = bytes ∧ z.cells = zs.toArray
  z : zs.length = size
  pos : 0 < size
theorem RowT.sz {P : Program} {t e : TypeId} {size bytes : Nat} {zs : List Value} (h : RowT P t e size bytes zs) (w : World) : (sizeOf e).run P w = .ok size w := by
  obtain ⟨i,z,h1,_,h3,_⟩ := h.i
  simp [sizeOf,typeInfo,h1,h3]
def Spread (w : World) (size : Nat) (u : Value) (m : Nat) (news : List Value) : Prop :=
  ∃ a c,u = .slice a m c ∧ news.length = m * size ∧ ((a = none ∧ c = 0) ∨ ∃ ad,a = some ad ∧ ∀ j y,news[j]? = some y → w.cell? (ad.add j) = some y) ∧ ∀ y ∈ news,y.oneCell' = true
theorem app_drawn {P : Program} {w w' : World} {v v' : Value} {t ty e : TypeId} {i : TypeInfo} {z : Value} {size bytes : Nat} (ht : P.underlying t = some (.slice e)) (hi : P.info? e = some i) (hz : i.zero = some z) (hsize : i.size = size) (hby : i.bytes = bytes) {n : Nat} {xs : List Value} (hown : w.ownsRow 0 e size v n xs)
    {a : Addr} {m c : Nat} {news : List Value} (hl : news.length = m * size) (hnews : ∀ j u,news[j]? = some u → w.cell? (a.add j) = some u) (h1 : ∀ u ∈ news,u.oneCell' = true) (h63 : n + m ≤ maxLen) (hbytes : (n + m) * bytes ≤ 140737488355328)
    (hr : (Builtin.append_ #[t,t] ty #[v,.slice (some a) m c]).run P w = .ok v' w') : w.drawn ≤ w'.drawn := by
  subst hsize
  subst hby
  simp only [maxLen] at h63
  have hown' := hown
  rcases hown'.2 with ⟨rfl,hn⟩ | ⟨g,cap,cur,rfl,hbg,hg,hnc,hcm,hcs,htake⟩
  · by_cases hm : m = 0
    · subst hm
      have hn : news = [] := List.eq_nil_of_length_eq_zero (by simpa using hl)
      subst hn
      simp [Builtin.append_,run_underlying ht,sizeOf,typeInfo,hi,Builtin.lenOf,Builtin.firstCells,loadCells,loadCellsFrom] at hr
      rw [← hr.2]; exact Nat.le_refl _
    · have h48 : m * i.bytes ≤ 281474976710656 := by
        have : m * i.bytes ≤ (n + m) * i.bytes := Nat.mul_le_mul_right _ (by omega)
        omega
      have h := run_append_nil (P := P) w t ty e i z ht hi hz a m c news hl hnews (by omega) (by omega) h48
      rw [h] at hr
      simp only [Result.ok.injEq] at hr
      rw [← hr.2]; exact Nat.le_succ _
  · by_cases hroom : n + m ≤ cap
    · have hfit : n * i.size + news.length ≤ cur.size := by rw [hl,hcs,← Nat.add_mul]; exact Nat.mul_le_mul_right _ hroom
      have h := run_append_room (P := P) w t ty e i ht hi g n cap cur hg a m c news hl hnews h1 hroom hfit
      rw [h] at hr
      simp only [Result.ok.injEq] at hr
      rw [← hr.2]; exact Nat.le_refl _
    · have holds : ∀ j u,xs[j]? = some u → w.cell? ((⟨g,0,none⟩ : Addr).add j) = some u := hown.cells (g := g) rfl
      have h := run_append_grow (P := P) w t ty e i z ht hi hz ⟨g,0,none⟩ n cap xs hown.1 holds a m c news hl hnews (by omega) (by omega) (growslice_fits (by omega) hbytes)
      rw [h] at hr
      simp only [Result.ok.injEq] at hr
      rw [← hr.2]; exact Nat.le_succ _
theorem run_app {P : Program} {t e : TypeId} {size bytes : Nat} {zs : List Value} (hT : RowT P t e size bytes zs) (w : World) {ty : TypeId} {v u : Value} {n m : Nat} {xs news : List Value} (hown : w.ownsRow 0 e size v n xs) (hu : Spread w size u m news) (hm0 : ∀ c,u = .slice none m c → m = 0)
    (h63 : n + m ≤ maxLen) (hbytes : (n + m) * bytes ≤ 140737488355328) :
    ∃ v' w',(Builtin.append_ #[t,t] ty #[v,u]).run P w = .ok v' w' ∧ w'.ownsRow 0 e size v' (n + m) (xs ++ news) ∧ Grew w w' v.ownBlock ∧ (v'.ownBlock = v.ownBlock ∨ v'.ownBlock = some w.heap.size) := by
  obtain ⟨i,z,h1,h2,h3,h4,h5⟩ := hT.i
  obtain ⟨a,c,rfl,hl,ha,h6⟩ := hu
  rcases ha with ⟨rfl,rfl⟩ | ⟨ad,rfl,ha⟩
  · have hm := hm0 0 rfl
    subst hm
    have : news = [] := List.eq_nil_of_length_eq_zero (by simpa using hl)
    subst this
    refine ⟨v,w,run_append_owned_none w 0 t ty e i size hT.u h1 v n xs hown,by simpa using hown,⟨rfl,rfl,Out.rf,Nat.le_refl _,fun _ _ _ => rfl⟩,.inl rfl⟩
  · obtain ⟨v',w',h7,h8,h9,_,h10⟩ := run_append_own_at (P := P) w 0 t ty e i z size bytes hT.u h1 h2 h3 h4 (by rw [h5]; simpa using hT.z) hT.pos v n xs hown ad m c news hl ha h6 h63 hbytes (Nat.zero_le _)
    exact ⟨v',w',h7,h8,Grew.of h9 (app_drawn hT.u h1 h2 h3 h4 hown hl ha h6 h63 hbytes h7),h10⟩
theorem ownBlock_lt {w : World} {T : TypeId} {size n : Nat} {v : Value} {xs : List Value} (h : w.ownsRow 0 T size v n xs) {b : Nat} (hb : v.ownBlock = some b) : b < w.heap.size := (h.lt b hb).2
theorem OpG.own0 {cx : Cx} {S : St} {o : Oper} {T : TypeId} {size n k : Nat} {R : LPred} (hnd : ∀ c,o.op ≠ .defer c)
    (h : ∀ M ε I a w,SatM cx M ε I S a w → ∃ v' w' xs',(execOp a.eval o).run cx.P w = .ok (.value v') w' ∧ w'.ownsRow 0 T size v' n xs' ∧ R.h I xs' ∧ Grew w w' none ∧ (∀ b,v'.ownBlock = some b → w.heap.size ≤ b)) :
    OpG cx S o ⟨.e (.a (.q k)),[k],[],[(k,.own T size n R)],[]⟩ := by
  intro M ε I a w next Q hs hN K
  obtain ⟨v',w',xs',h1,h2,h3,h4,h5⟩ := h M ε I a w hs
  refine ⟨fun _ _ => trivial,?_⟩
  rw [semAt_eq _ _ _ hnd,h1]
  have := K ⟨ε.β,upd ε.ν k v',ε.γ⟩ I w'
    ⟨fun i hi => by
      have : i ≠ k := fun e => hi (by simp [e])
      exact ⟨rfl,upd_other _ _ this,rfl⟩,IH.le.rfl',fun b o' hb => by rw [h4.block b (IH.on_lt hs.imm hb) (by simp)]; exact hs.imm b o' hb,h4.os,h4.tape,h4.output,h4.size,fun b hb _ => h4.block b hb (by simp),fun _ _ h => .inl h⟩
    ⟨.inr (by simp),fun _ _ h => (by cases h),fun _ _ h => (by cases h),fun i e he => by obtain ⟨rfl,rfl⟩ := look_one he; exact ⟨.inr (by simp),trivial⟩,
      fun _ _ h => (by cases h),fun i e he => by obtain ⟨rfl,rfl⟩ := look_one he; exact ⟨xs',by simpa only [upd_same] using h2,h3⟩,
      fun i e he b hb => by
        obtain ⟨rfl,rfl⟩ := look_one he
        simp only [Ent.foot,upd_same] at hb
        have hge := h5 b hb
        exact ⟨.inl (Nat.le_trans hs.keep.size hge),ownBlock_lt h2 hb,IH.none_ge hs.imm hge,.inl hge⟩,
      fun i i' e e' b he he' hne => by
        obtain ⟨rfl,_⟩ := look_one he
        obtain ⟨rfl,_⟩ := look_one he'
        exact absurd rfl hne,fun k x h => by obtain ⟨_,h⟩ := look_one h; cases h⟩
  simp only [SV.den,El.den,At.den,upd_same] at this
  exact this
theorem look_two {α : Type} {i k k0 : Nat} {x y z : α} (h : look i [(k,x),(k0,z)] = some y) : (i = k ∧ y = x) ∨ (i ≠ k ∧ i = k0 ∧ y = z) := by
  rw [look_cons] at h
  by_cases hk : k = i
  · subst hk; simp at h; exact .inl ⟨rfl,h.symm⟩
  · simp only [hk,if_false] at h
    obtain ⟨h1,h2⟩ := look_one h
    exact .inr ⟨fun e => hk e.symm,h1,h2⟩
theorem OpG.own1 {cx : Cx} {S : St} {o : Oper} {T T0 : TypeId} {size size0 n n0 k k0 : Nat} {R R0 : LPred} (hnd : ∀ c,o.op ≠ .defer c) (hk0 : look k0 S.L = some (.own T0 size0 n0 R0))
    (h : ∀ M ε I a w,SatM cx M ε I S a w → ∃ v' w' xs',(execOp a.eval o).run cx.P w = .ok (.value v') w' ∧ w'.ownsRow 0 T size v' n xs' ∧ R.h I xs' ∧ Grew w w' (ε.ν k0).ownBlock ∧ (v'.ownBlock = (ε.ν k0).ownBlock ∨ v'.ownBlock = some w.heap.size)) :
    OpG cx S o ⟨.e (.a (.q k)),[k],[],[(k,.own T size n R),(k0,.dead)],[]⟩ := by
  intro M ε I a w next Q hs hN K
  obtain ⟨v',w',xs',h1,h2,h3,h4,h5⟩ := h M ε I a w hs
  have hMk : ¬ M k := hN k (by simp)
  have hMk0 := (hs.wfL k0 _ hk0).1
  have hne0 : k ≠ k0 := fun e => hMk (e ▸ hMk0)
  have hfp : ∀ b,(ε.ν k0).ownBlock = some b → fpOf S ε ⟨.e (.a (.q k)),[k],[],[(k,.own T size n R),(k0,.dead)],[]⟩ b := fun b hb =>
    ⟨k0,_,by simp [look_cons,hne0],hk0,hb⟩
  have hft : ∀ b,(ε.ν k0).ownBlock = some b → (cx.w0.heap.size ≤ b ∨ cx.E b) ∧ b < w.heap.size ∧ I b = none := fun b hb => hs.foot k0 _ hk0 b hb
  refine ⟨fun _ _ => trivial,?_⟩
  rw [semAt_eq _ _ _ hnd,h1]
  have := K ⟨ε.β,upd ε.ν k v',ε.γ⟩ I w'
    ⟨fun i hi => by
      have : i ≠ k := fun e => hi (by simp [e])
      exact ⟨rfl,upd_other _ _ this,rfl⟩,IH.le.rfl',fun b o' hb => by
        rw [h4.block b (IH.on_lt hs.imm hb) (fun e => by rw [(hft b e.symm).2.2] at hb; cases hb)]; exact hs.imm b o' hb,
      h4.os,h4.tape,h4.output,h4.size,fun b hb hn => h4.block b hb (fun e => hn (hfp b e.symm)),fun _ _ h => .inl h⟩
    ⟨.inr (by simp),fun _ _ h => (by cases h),fun _ _ h => (by cases h),fun i e he => by
        rcases look_two he with ⟨rfl,rfl⟩ | ⟨_,rfl,rfl⟩
        · exact ⟨.inr (by simp),trivial⟩
        · exact ⟨.inl hMk0,trivial⟩,
      fun _ _ h => (by cases h),fun i e he => by
        rcases look_two he with ⟨rfl,rfl⟩ | ⟨_,rfl,rfl⟩
        · exact ⟨xs',by simpa only [upd_same] using h2,h3⟩
        · trivial,
      fun i e he b hb => by
        rcases look_two he with ⟨rfl,rfl⟩ | ⟨_,rfl,rfl⟩
        · simp only [Ent.foot,upd_same] at hb
          have hlt := ownBlock_lt h2 hb
          rcases h5 with h5 | h5
          · rw [h5] at hb
            exact ⟨(hft b hb).1,hlt,(hft b hb).2.2,.inr (hfp b hb)⟩
          · rw [h5] at hb
            simp only [Option.some.injEq] at hb
            subst hb
            exact ⟨.inl hs.keep.size,hlt,IH.none_ge hs.imm (Nat.le_refl _),.inl (Nat.le_refl _)⟩
        · exact absurd hb (fun h => h),
      fun i i' e e' b he he' hne hb hb' => by
        rcases look_two he with ⟨rfl,rfl⟩ | ⟨_,rfl,rfl⟩
        · rcases look_two he' with ⟨rfl,rfl⟩ | ⟨_,rfl,rfl⟩
          · exact hne rfl
          · exact hb'
        · exact hb,fun k x h => by
        rcases look_two h with ⟨_,h⟩ | ⟨_,_,h⟩ <;> cases h⟩
  simp only [SV.den,El.den,At.den,upd_same] at this
  exact this
theorem RP.nil {α : Type} {E : EP α} {I : IH} : (RP E []).h I [] := ⟨[],rfl,rfl,fun i hi => absurd hi (by simp)⟩
theorem RP.app {α : Type} {E : EP α} {I : IH} {l l' : List α} {xs xs' : List Value} (h : (RP E l).h I xs) (h' : (RP E l').h I xs') : (RP E (l ++ l')).h I (xs ++ xs') := by
  obtain ⟨c,rfl,h1,h2⟩ := h
  obtain ⟨c',rfl,h1',h2'⟩ := h'
  refine ⟨c ++ c',by simp,by simp [h1,h1'],fun i hi hl => ?_⟩
  by_cases hc : i < c.length
  · rw [List.getElem_append_left hc,List.getElem_append_left (by omega)]; exact h2 i hc _
  · rw [List.getElem_append_right (by omega),List.getElem_append_right (by omega)]
    have e : i - c.length = i - l.length := by rw [h1]
    have := h2' (i - c.length) (by simp at hi; omega) (by simp at hl; omega)
    simp only [h1] at this ⊢; exact this
theorem RP.cons {α : Type} {E : EP α} {I : IH} {x : α} {l : List α} {cs xs : List Value} (h : E.h I cs x) (h' : (RP E l).h I xs) : (RP E (x :: l)).h I (cs ++ xs) := by
  obtain ⟨c,rfl,h1,h2⟩ := h'
  refine ⟨cs :: c,by simp,by simp [h1],fun i hi hl => ?_⟩
  cases i with
  | zero => exact h
  | succ i => exact h2 i (by simpa using hi) (by simpa using hl)
theorem RP.len {α : Type} {E : EP α} {I : IH} {l : List α} {xs : List Value} (h : (RP E l).h I xs) : xs.length = l.length * E.size := by
  obtain ⟨c,rfl,h1,h2⟩ := h
  rw [← h1]
  have : ∀ (c : List (List Value)),(∀ y ∈ c,y.length = E.size) → c.flatten.length = c.length * E.size := by
    intro c
    induction c with
    | nil => intro _; simp
    | cons y t ih =>
      intro hc
      rw [List.flatten_cons,List.length_append,ih (fun z hz => hc z (List.mem_cons_of_mem _ hz)),hc y List.mem_cons_self,List.length_cons,Nat.add_mul]
      omega
  refine this c fun y hy => ?_
  obtain ⟨i,hi,rfl⟩ := List.mem_iff_getElem.1 hy
  exact E.len (h2 i hi (by omega))
theorem flatten_get {size : Nat} : ∀ {c : List (List Value)} {i j : Nat} {y : Value},(∀ z ∈ c,z.length = size) → (hi : i < c.length) → c[i][j]? = some y → c.flatten[i * size + j]? = some y
  | x :: t,0,j,y,hc,_,h => by
    simp only [List.flatten_cons,Nat.zero_mul,Nat.zero_add]
    simp only [List.getElem_cons_zero] at h
    have := (List.getElem?_eq_some_iff.1 h).1
    rw [List.getElem?_append_left this]; exact h
  | x :: t,i + 1,j,y,hc,hi,h => by
    have hx := hc x List.mem_cons_self
    simp only [List.flatten_cons]
    rw [List.getElem?_append_right (by rw [hx,Nat.add_mul]; omega),hx,show (i + 1) * size + j - size = i * size + j by rw [Nat.add_mul]; omega]
    exact flatten_get (fun z hz => hc z (List.mem_cons_of_mem _ hz)) (by simpa using hi) (by simpa using h)
theorem RP.at {α : Type} [Inhabited α] {E : EP α} {I : IH} {l : List α} {xs : List Value} (h : (RP E l).h I xs) {i : Int} (h0 : 0 ≤ i) (h1 : i < l.length) : ∃ cs,E.h I cs (nth l i) ∧ ∀ j y,cs[j]? = some y → xs[i.toNat * E.size + j]? = some y := by
  obtain ⟨c,rfl,h2,h3⟩ := h
  have hi : i.toNat < l.length := by omega
  have : nth l i = l[i.toNat] := by simp [nth,List.getD_eq_getElem?_getD,List.getElem?_eq_getElem hi]
  rw [this]
  refine ⟨c[i.toNat]'(by omega),h3 _ _ hi,fun j y hj => flatten_get (fun z hz => ?_) (by omega) hj⟩
  obtain ⟨m,hm,rfl⟩ := List.mem_iff_getElem.1 hz
  exact E.len (h3 m hm (by omega))
def EP.one {α : Type} (E : EP α) : Prop := ∀ I cs x,E.h I cs x → ∀ y ∈ cs,y.oneCell' = true
theorem EP.int_one : EP.int.one := fun I cs x h y hy => by
  cases (show cs = [Value.int .i64 x] from h)
  rw [List.mem_singleton] at hy; subst hy; rfl
theorem EP.sl_one {α : Type} {E : EP α} : E.sl.one := fun I cs x ⟨v,h,k⟩ y hy => by
  subst h; rw [List.mem_singleton] at hy; subst hy; exact PL.one _ _ k
theorem RP.one {α : Type} {E : EP α} (hE : E.one) {I : IH} {l : List α} {xs : List Value} (h : (RP E l).h I xs) : ∀ y ∈ xs,y.oneCell' = true := by
  obtain ⟨c,rfl,h1,h2⟩ := h
  intro y hy
  obtain ⟨z,hz,hy⟩ := List.mem_flatten.1 hy
  obtain ⟨m,hm,rfl⟩ := List.mem_iff_getElem.1 hz
  exact hE _ _ _ (h2 m hm (by omega)) y hy
theorem PL.spread {α : Type} {E : EP α} (hE : E.one) {I : IH} {w : World} (hon : I.on w) {l : List α} {v : Value} (h : (PL E l).h I v) : (∃ c,v = .slice none 0 c ∧ l = []) ∨ ∃ news,Spread w E.size v l.length news ∧ (RP E l).h I news ∧ ∀ c,v ≠ .slice none l.length c := by
  obtain ⟨a,cap,rfl,hc,h⟩ := h
  cases a with
  | none =>
    left
    cases l with
    | nil => exact ⟨cap,rfl,rfl⟩
    | cons x t =>
      obtain ⟨_,ad,_,h,_⟩ := h 0 (by simp)
      cases h
  | some ad =>
    right
    have h' : ∀ i (hi : i < l.length),∃ cs,E.h I cs l[i] ∧ ad.spot = none ∧ ∀ j y,cs[j]? = some y → I.cell (ad.add (i * E.size + j)) = some y := fun i hi => by
      obtain ⟨cs,ad',h1,h2,h3,h4⟩ := h i hi
      cases h2
      exact ⟨cs,h1,h3,h4⟩
    have key : ∀ (m : Nat),m ≤ l.length → ∃ c : List (List Value),c.length = m ∧ (∀ i (hi : i < c.length) (hl : i < l.length),E.h I c[i] l[i]) ∧ ∀ j y,c.flatten[j]? = some y → w.cell? (ad.add j) = some y := by
      intro m
      induction m with
      | zero => intro _; exact ⟨[],rfl,fun i hi => absurd hi (by simp),fun j y hj => by simp at hj⟩
      | succ m ih =>
        intro hm
        obtain ⟨c,h1,h2,h3⟩ := ih (by omega)
        obtain ⟨cs,h4,h5,h6⟩ := h' m (by omega)
        have hfl : c.flatten.length = m * E.size := by
          have : (RP E (l.take m)).h I c.flatten := ⟨c,rfl,by simp [h1]; omega,fun i hi hl => by
            rw [List.getElem_take]; exact h2 i hi (by simp at hl; omega)⟩
          have hlt := RP.len this
          rw [List.length_take,Nat.min_eq_left (by omega)] at hlt; exact hlt
        refine ⟨c ++ [cs],by simp [h1],fun i hi hl => ?_,fun j y hj => ?_⟩
        · by_cases hc : i < c.length
          · rw [List.getElem_append_left hc]; exact h2 i hc hl
          · have : i = m := by simp at hi; omega
            subst this
            rw [List.getElem_append_right (by omega)]
            simpa [h1] using h4
        · simp only [List.flatten_append,List.flatten_cons,List.flatten_nil,List.append_nil] at hj
          by_cases hc : j < c.flatten.length
          · rw [List.getElem?_append_left hc] at hj; exact h3 j y hj
          · rw [List.getElem?_append_right (by omega),hfl] at hj
            have := h6 _ y hj
            rw [show m * E.size + (j - m * E.size) = j by omega] at this
            exact IH.cell_on hon this
    obtain ⟨c,h1,h2,h3⟩ := key l.length (Nat.le_refl _)
    have hrp : (RP E l).h I c.flatten := ⟨c,rfl,h1,h2⟩
    exact ⟨c.flatten,⟨some ad,cap,rfl,RP.len hrp,.inr ⟨ad,rfl,h3⟩,RP.one hE hrp⟩,hrp,fun c h => by cases h⟩
theorem own_spread {w : World} {T : TypeId} {size n : Nat} {v : Value} {xs : List Value} (h : w.ownsRow 0 T size v n xs) (h1 : ∀ y ∈ xs,y.oneCell' = true) : Spread w size v n xs ∧ ∀ c,v = .slice none n c → n = 0 := by
  obtain ⟨hl,h2⟩ := h
  rcases h2 with ⟨rfl,rfl⟩ | ⟨g,cap,cur,rfl,hb,hg,hn,hm,hs,htk⟩
  · exact ⟨⟨none,0,rfl,hl,.inl ⟨rfl,rfl⟩,h1⟩,fun _ _ => rfl⟩
  · refine ⟨⟨_,cap,rfl,hl,.inr ⟨_,rfl,fun j y hj => ?_⟩,h1⟩,fun c h => by cases h⟩
    have hown : w.ownsRow 0 T size (.slice (some ⟨g,0,none⟩) n cap) n xs := ⟨hl,.inr ⟨g,cap,cur,rfl,hb,hg,hn,hm,hs,htk⟩⟩
    exact World.ownsRow.cells hown rfl j y hj
section ops
variable {cx : Cx} {S : St} {dst : Option Tmp} {ty : TypeId} {pos : String} {af : Array Edge} {gd : Option (Nat × Bool)}
theorem maxLen_ok {n : Nat} (h : n ≤ 4611686018427387904) : n ≤ maxLen := by unfold maxLen; omega
theorem o_apps {α : Type} {E : EP α} {x y : Operand} {t e : TypeId} {bytes k k0 j : Nat} {zs : List Value} {l l' : List α} (hT : RowT cx.P t e E.size bytes zs) (hE : E.one) (hx : S.op x = some (.e (.a (.q k0)))) (hk0 : look k0 S.L = some (.own e E.size l.length (RP E l)))
    (hy : S.op y = some (.e (.a (.q j)))) (hj : Has S.X j (PL E l')) (hb : (l.length + l'.length) * bytes ≤ 140737488355328) (hl : l.length + l'.length ≤ 4611686018427387904) :
    OpG cx S ⟨dst,.call { callee := .builtin .append,args := #[x,y],argTypes := #[t,t] },ty,pos,af,gd⟩ ⟨.e (.a (.q k)),[k],[],[(k,.own e E.size (l ++ l').length (RP E (l ++ l'))),(k0,.dead)],[]⟩ :=
  OpG.own1 (fun _ => by simp) hk0 fun M ε I a w hs => by
    have h1 := hs.eval hx
    have h2 := hs.eval hy
    simp only [SV.den,El.den,At.den] at h1 h2
    obtain ⟨xs,h3,h4⟩ := hs.L k0 _ hk0
    rcases PL.spread hE hs.imm (hs.has hj) with ⟨c,h5,rfl⟩ | ⟨news,h5,h6,h7⟩
    · obtain ⟨a',cap,hv,hc,_⟩ := hs.has hj
      rw [h5] at hv
      simp only [Value.slice.injEq] at hv
      obtain ⟨rfl,_,rfl⟩ := hv
      obtain ⟨i,z,hi,_⟩ := hT.i
      have hr : (Builtin.append_ #[t,t] ty #[ε.ν k0,.slice none 0 c]).run cx.P w = .ok (ε.ν k0) w := by
        rcases h3.2 with ⟨hv,hn⟩ | ⟨g,cap,cur,hv,_,_,hnc,_⟩
        · rw [hv]; simp [Builtin.append_,run_underlying hT.u,sizeOf,typeInfo,hi,Builtin.lenOf,Builtin.firstCells]
        · rw [hv]; simp [Builtin.append_,run_underlying hT.u,sizeOf,typeInfo,hi,Builtin.lenOf,Builtin.firstCells,hnc,storeCells]
      refine ⟨_,w,xs,by simp [execOp,resolve,invoke,builtin,h1,h2,h5,hr],?_,?_,⟨rfl,rfl,Out.rf,Nat.le_refl _,fun _ _ _ => rfl⟩,.inl rfl⟩
      · simpa using h3
      · simpa using h4
    · obtain ⟨v',w',h8,h9,h10,h11⟩ := run_app hT w (ty := ty) h3 h5 (fun c h => absurd h (h7 c)) (maxLen_ok hl) hb
      exact ⟨v',w',_,by simp [execOp,resolve,invoke,builtin,h1,h2,h8],by rw [List.length_append]; exact h9,RP.app h4 h6,h10,h11⟩
theorem o_appo {α : Type} {E : EP α} {x y : Operand} {t e e' : TypeId} {bytes k k0 k1 : Nat} {zs : List Value} {l l' : List α} (hT : RowT cx.P t e E.size bytes zs) (hE : E.one) (hx : S.op x = some (.e (.a (.q k0)))) (hk0 : look k0 S.L = some (.own e E.size l.length (RP E l)))
    (hy : S.op y = some (.e (.a (.q k1)))) (hk1 : look k1 S.L = some (.own e' E.size l'.length (RP E l'))) (hb : (l.length + l'.length) * bytes ≤ 140737488355328) (hl : l.length + l'.length ≤ 4611686018427387904) :
    OpG cx S ⟨dst,.call { callee := .builtin .append,args := #[x,y],argTypes := #[t,t] },ty,pos,af,gd⟩ ⟨.e (.a (.q k)),[k],[],[(k,.own e E.size (l ++ l').length (RP E (l ++ l'))),(k0,.dead)],[]⟩ :=
  OpG.own1 (fun _ => by simp) hk0 fun M ε I a w hs => by
    have h1 := hs.eval hx
    have h2 := hs.eval hy
    simp only [SV.den,El.den,At.den] at h1 h2
    obtain ⟨xs,h3,h4⟩ := hs.L k0 _ hk0
    obtain ⟨ys,h5,h6⟩ := hs.L k1 _ hk1
    obtain ⟨h7,h7'⟩ := own_spread h5 (RP.one hE h6)
    obtain ⟨v',w',h8,h9,h10,h11⟩ := run_app hT w (ty := ty) h3 h7 h7' (maxLen_ok hl) hb
    exact ⟨v',w',_,by simp [execOp,resolve,invoke,builtin,h1,h2,h8],by rw [List.length_append]; exact h9,RP.app h4 h6,h10,h11⟩
theorem o_make {α : Type} {E : EP α} {x y : Operand} {t e : TypeId} {bytes k : Nat} {zs : List Value} {z : α} (n : Nat) (hT : RowT cx.P t e E.size bytes zs) (hz : ∀ I,E.h I zs z) (hx : S.op x = some (.i n)) (hy : S.op y = some (.i n)) (hb : bytes * n ≤ 281474976710656) (hl : n ≤ 4611686018427387904) :
    OpG cx S ⟨dst,.makeSlice t x y,ty,pos,af,gd⟩ ⟨.e (.a (.q k)),[k],[],[(k,.own e E.size (List.replicate n z).length (RP E (List.replicate n z)))],[]⟩ :=
  OpG.own0 (fun _ => by simp) fun M ε I a w hs => by
    have h1 := hs.eval hx
    have h2 := hs.eval hy
    simp only [SV.den,El.den,At.den] at h1 h2
    obtain ⟨i,zv,hi,hzv,hsz,hby,hzc⟩ := hT.i
    obtain ⟨w',h3,h4,h5⟩ := run_make_full (P := cx.P) w 0 t e i zv E.size hT.u hi hzv hsz .i64 .i64 n (by rw [hby]; exact hb) (maxLen_ok hl) (Nat.zero_le _)
    have hdr : w.drawn ≤ w'.drawn := by
      have hb' : (i.bytes : Int) * (n : Int) ≤ 281474976710656 := by
        have h : ((i.bytes * n : Nat) : Int) ≤ 281474976710656 := by rw [hby]; omega
        rwa [Int.natCast_mul] at h
      have hr := run_make (P := cx.P) w t e i zv hT.u hi hzv .i64 .i64 n n (by omega) (Int.le_refl _) hb' (by omega)
      rw [h3] at hr
      simp only [Result.ok.injEq] at hr
      rw [hr.2]; exact Nat.le_refl _
    refine ⟨.slice (some ⟨w.heap.size,0,none⟩) n n,w',(madeCells zv.cells (n * E.size)).toList,by simp [execOp,h1,h2,h3],by rw [List.length_replicate]; exact h4,?_,Grew.of h5 hdr,fun b hb => ?_⟩
    · refine ⟨List.replicate n zs,?_,by simp,fun i hi hl => by simpa using hz I⟩
      have hpos := hT.pos
      have hzl := hT.z
      rw [hzc]
      apply List.ext_getElem?
      intro j
      have hlen : (List.replicate n zs).flatten.length = n * E.size := by simp [hzl]
      by_cases hj : j < n * E.size
      · have hq : j / E.size < n := (Nat.div_lt_iff_lt_mul hpos).2 hj
        have hr : j % E.size < zs.length := by rw [hzl]; exact Nat.mod_lt _ hpos
        have hfg := flatten_get (c := List.replicate n zs) (size := E.size) (i := j / E.size) (j := j % E.size) (y := zs[j % E.size]) (fun z hz => by rw [List.eq_of_mem_replicate hz]; exact hzl) (by simpa using hq) (by simp [hr])
        rw [show j / E.size * E.size + j % E.size = j from by rw [Nat.mul_comm]; exact Nat.div_add_mod j E.size] at hfg
        rw [hfg]
        have hr' : j % E.size < zs.length := hr
        simp [madeCells,hj,hzl,List.getElem?_eq_getElem hr']
      · rw [List.getElem?_eq_none (by simp [madeCells]; omega),List.getElem?_eq_none (by rw [hlen]; omega)]
    · simp [Value.ownBlock] at hb; omega
end ops
end Go.Eng
namespace Go.Eng
open Go
def lset {α : Type} (l : List α) (i : Int) (x : α) : List α := l.set i.toNat x
theorem lset_len {α : Type} (l : List α) (i : Int) (x : α) : (lset l i x).length = l.length := by simp [lset]
theorem flatten_set {size : Nat} {ys : List Value} : ∀ {c : List (List Value)} {i : Nat},(∀ z ∈ c,z.length = size) → ys.length = size → i < c.length →
    (c.set i ys).flatten = c.flatten.take (i * size) ++ ys ++ c.flatten.drop (i * size + size)
  | x :: t,0,hc,hy,_ => by
    have hx := hc x List.mem_cons_self
    simp only [List.set_cons_zero,List.flatten_cons,Nat.zero_mul,List.take_zero,List.nil_append,Nat.zero_add]
    rw [← hx,List.drop_left]
  | x :: t,i + 1,hc,hy,hi => by
    have hx := hc x List.mem_cons_self
    have ih := flatten_set (c := t) (i := i) (fun z hz => hc z (List.mem_cons_of_mem _ hz)) hy (by simpa using hi)
    simp only [List.set_cons_succ,List.flatten_cons,ih]
    rw [show (i + 1) * size = x.length + i * size by rw [hx,Nat.add_mul]; omega,List.take_length_add_append,Nat.add_assoc,List.drop_length_add_append]
    simp
theorem RP.set {α : Type} {E : EP α} {I : IH} {l : List α} {xs ys : List Value} {i : Int} {x : α} (h : (RP E l).h I xs) (hy : E.h I ys x) (h0 : 0 ≤ i) (h1 : i < l.length) :
    (RP E (lset l i x)).h I (xs.take (i.toNat * E.size) ++ ys ++ xs.drop (i.toNat * E.size + E.size)) := by
  obtain ⟨c,rfl,h2,h3⟩ := h
  have hi : i.toNat < c.length := by omega
  have hc : ∀ z ∈ c,z.length = E.size := fun z hz => by
    obtain ⟨m,hm,rfl⟩ := List.mem_iff_getElem.1 hz
    exact E.len (h3 m hm (by omega))
  refine ⟨c.set i.toNat ys,(flatten_set hc (E.len hy) hi).symm,by simp [lset,h2],fun m hm hl => ?_⟩
  by_cases e : i.toNat = m
  · subst e; simpa [lset] using hy
  · have hm' : m < c.length := by simpa using hm
    have := h3 m hm' (by omega)
    simpa [lset,e] using this
theorem own_some {w : World} {T : TypeId} {size n : Nat} {v : Value} {xs : List Value} (h : w.ownsRow 0 T size v n xs) (hn : 0 < n) : ∃ g cap cur,v = .slice (some ⟨g,0,none⟩) n cap ∧ w.heap[g]? = some (.cells cur T (0,0)) ∧ cur.size = cap * size ∧ n ≤ cap ∧ cap ≤ maxLen ∧ cur.toList.take (n * size) = xs := by
  obtain ⟨hl,h2⟩ := h
  rcases h2 with ⟨rfl,rfl⟩ | ⟨g,cap,cur,rfl,hb,hg,hn,hm,hs,htk⟩
  · omega
  · exact ⟨g,cap,cur,rfl,hg,hs,hn,hm,htk⟩
section ops
variable {cx : Cx} {S : St} {dst : Option Tmp} {ty : TypeId} {pos : String} {af : Array Edge} {gd : Option (Nat × Bool)}
theorem o_idxo {x y : Operand} {T e e' : TypeId} {j n sz : Nat} {R : LPred} {i : Int} (hT : IsSl cx.P T e sz) (hx : S.op x = some (.e (.a (.q j)))) (hj : look j S.L = some (.own e' sz n R)) (hi : S.op y = some (.i i))
    (h0 : 0 ≤ i) (h1 : i < n) : OpG cx S ⟨dst,.indexAddr T x y,ty,pos,af,gd⟩ (.val (.e (.a (.e j (i.toNat * sz))))) :=
  OpG.pure (fun _ => by simp) fun M ε I a w hs => ⟨hs.on (sv := .e (.a (.q j))) hx,by
    have h := hs.eval hx
    have h' := hs.eval hi
    obtain ⟨xs,h2,_⟩ := hs.L j _ hj
    obtain ⟨g,cap,cur,hv,_⟩ := own_some h2 (by omega)
    simp only [SV.den,El.den,At.den,hv] at h
    simp only [SV.den,El.den,At.den] at h'
    simp [execOp,h,h',run_indexAt hT h0 h1 w,SV.den,El.den,At.den,hv,padd]⟩
theorem own_cell {M : Nat → Prop} {ε : Env} {I : IH} {a : Act} {w : World} (hs : SatM cx M ε I S a w) {j n sz : Nat} {e : TypeId} {R : LPred} (hj : look j S.L = some (.own e sz n R)) (hn : 0 < n) : ∃ g cap xs,ε.ν j = .slice (some ⟨g,0,none⟩) n cap ∧ R.h I xs ∧ xs.length = n * sz ∧ ∀ o y,xs[o]? = some y → w.cell? ⟨g,o,none⟩ = some y := by
  obtain ⟨xs,h2,h3⟩ := hs.L j _ hj
  obtain ⟨g,cap,cur,hv,hg,_,_,_,htk⟩ := own_some h2 hn
  refine ⟨g,cap,xs,hv,h3,h2.1,fun o y ho => ?_⟩
  rw [← htk,List.getElem?_take] at ho
  split at ho
  · simp [World.cell?,hg]; simpa using ho
  · cases ho
theorem o_ldo {x : Operand} {T e : TypeId} {j o n sz : Nat} {R : LPred} {z : Value} (hT : TyS cx.P T) (hx : S.op x = some (.e (.a (.e j o)))) (hj : look j S.L = some (.own e sz n R)) (hn : 0 < n) (hz : ∀ I xs,R.h I xs → xs[o]? = some z) :
    OpG cx S ⟨dst,.load T x,ty,pos,af,gd⟩ (.val (.e (.a (.v z)))) :=
  OpG.pure (fun _ => by simp) fun M ε I a w hs => ⟨trivial,by
    have h := hs.eval hx
    obtain ⟨g,cap,xs,hv,h2,_,h3⟩ := own_cell hs hj hn
    simp only [SV.den,El.den,At.den,hv,padd,Addr.add_plain,Nat.zero_add] at h
    simp [execOp,h,run_load1 hT (h3 o z (hz I xs h2)),SV.den,El.den,At.den]⟩
theorem o_ldoi {x : Operand} {T e : TypeId} {j n sz : Nat} {l : List Int} {i : Int} (hT : TyS cx.P T) (hx : S.op x = some (.e (.a (.e j (i.toNat * sz))))) (hj : look j S.L = some (.own e sz n (RP EP.int l))) (hsz : sz = 1) (hn : n = l.length) (h0 : 0 ≤ i) (h1 : i < l.length) :
    OpG cx S ⟨dst,.load T x,ty,pos,af,gd⟩ (.val (.i (nth l i))) := by
  subst hn
  subst hsz
  refine o_ldo hT hx hj (by omega) fun I xs h => ?_
  obtain ⟨cs,h2,h3⟩ := RP.at h h0 h1
  have := h3 0 _ (by rw [show cs = [Value.int .i64 (nth l i)] from h2]; rfl)
  simpa [EP.int,EP.fix] using this
def EOK (cx : Cx) (S : St) {α : Type} (E : EP α) (e : El) (x : α) : Prop := ∀ M ε I a w,SatM cx M ε I S a w → E.h I (e.cells.map (At.den ε)) x
theorem eok_int {n : Int} : EOK cx S EP.int (.a (.v (.int .i64 n))) n := fun _ _ _ _ _ _ => rfl
theorem eok_sl {α : Type} {E : EP α} {j : Nat} {l : List α} (hj : Has S.X j (PL E l)) : EOK cx S E.sl (.a (.q j)) l := fun _ _ _ _ _ hs => ⟨_,rfl,hs.has hj⟩
theorem eok_fix {α : Type} {n : Nat} {enc : α → List Value} {hn : ∀ x,(enc x).length = n} {e : El} {x : α} (h : ∀ ε,e.cells.map (At.den ε) = enc x) : EOK cx S (EP.fix n enc hn) e x := fun _ ε _ _ _ _ => h ε
def El.one (S : St) : El → Prop
  | .a y => y.one S
  | .g l => OneAll S l
theorem SatM.elone {M : Nat → Prop} {ε : Env} {I : IH} {a : Act} {w : World} (hs : SatM cx M ε I S a w) {e : El} (h : e.one S) : ∀ c ∈ e.cells,(c.den ε).oneCell' = true := by
  cases e with
  | a y => intro c hc; rw [El.cells,List.mem_singleton] at hc; subst hc; exact hs.one h
  | g l => intro c hc; exact hs.one (h.mem c hc)
theorem run_store_own {P : Program} {T e : TypeId} {m g cap n sz o : Nat} {v : Value} {ys xs : List Value} {w : World} (hT : ∀ w,(sizeOf T).run P w = .ok m w) (hv : v.cells = ys.toArray) (hm : ys.length = m) (hy : ∀ y ∈ ys,y.oneCell' = true)
    (hown : w.ownsRow 0 e sz (.slice (some ⟨g,0,none⟩) n cap) n xs) (ho : o + m ≤ n * sz) :
    ∃ w',(Instr.storeAt T (.pointer (some ⟨g,o,none⟩)) v).run P w = .ok () w' ∧ w'.ownsRow 0 e sz (.slice (some ⟨g,0,none⟩) n cap) n (xs.take o ++ ys ++ xs.drop (o + m)) ∧ Grew w w' (some g) ∧ w'.heap.size = w.heap.size := by
  rcases hown with ⟨hl,⟨h,_⟩ | ⟨g',cap',cur,h',hb,hg,hnc,hcm,hcs,htk⟩⟩
  · cases h
  · simp only [Value.slice.injEq,Option.some.injEq,Addr.mk.injEq,and_true,true_and] at h'
    obtain ⟨rfl,rfl⟩ := h'
    have hle : n * sz ≤ cur.size := by rw [hcs]; exact Nat.mul_le_mul_right _ hnc
    have hst := run_storeCells_at P g o e ys 0 cur w hg (by omega) hy
    simp only [Nat.add_zero] at hst
    refine ⟨_,by simp [Instr.storeAt,Instr.sureAddr,storeVar,hT,hv,hm,hst]; rfl,⟨?_,.inr ⟨g,cap,_,rfl,hb,setRow_heap w g cur _ e _ hg,hnc,hcm,?_,?_⟩⟩,⟨rfl,rfl,Out.rf,by simp,fun k _ hk => setRow_other w g k _ (fun e => hk (by simp [e]))⟩,by simp⟩
    · simp; omega
    · simp; omega
    · subst htk
      apply List.ext_getElem?
      intro i
      simp only [List.getElem?_take,List.getElem?_append,List.getElem?_drop,List.length_append,List.length_take,List.take_take,Array.length_toList]
      have e1 : min o cur.size = o := by omega
      have e2 : min o (min (n * sz) cur.size) = o := by omega
      have e3 : min o (n * sz) = o := by omega
      simp only [e1,e2,e3,hm]
      by_cases c1 : i < n * sz
      · by_cases c2 : i < o
        · have : i < o + m := by omega
          simp [c1,c2,this]
        · by_cases c3 : i < o + m
          · simp [c1,c2,c3]
            intro h; omega
          · have : o + m + (i - (o + m)) < n * sz := by omega
            have c2' : ¬ i < o := by omega
            have c4 : ¬ i - o < m := by omega
            simp [c1,c3,c2',c4,this,Nat.sub_sub]
      · have c2 : ¬ i < o := by omega
        have c3 : ¬ i < o + m := by omega
        have : ¬ o + m + (i - (o + m)) < n * sz := by omega
        simp [c1,c3,this]
theorem o_steg {x y : Operand} {T e : TypeId} {j o n sz m : Nat} {R R' : LPred} {ev : El} {sv : SV} (hT : ∀ w,(sizeOf T).run cx.P w = .ok m w) (hx : S.op x = some (.e (.a (.e j o)))) (hj : look j S.L = some (.own e sz n R)) (hy : S.op y = some (.e ev)) (h1 : ev.one S) (hm : ev.cells.length = m) (hn : 0 < n) (ho : o + m ≤ n * sz)
    (hR : ∀ M ε I a w,SatM cx M ε I S a w → ∀ xs,R.h I xs → R'.h I (xs.take o ++ ev.cells.map (At.den ε) ++ xs.drop (o + m))) (hsv : sv = .e (.a (.v undef))) :
    OpG cx S ⟨none,.store T x y,ty,pos,af,none⟩ ⟨sv,[],[],[(j,.own e sz n R')],[]⟩ := by
  intro M ε I a w next Q hs hN K
  subst hsv
  have he1 := hs.eval hx
  have he2 := hs.eval hy
  obtain ⟨xs,h2,h3⟩ := hs.L j _ hj
  obtain ⟨g,cap,cur,hv,_⟩ := own_some h2 hn
  simp only [SV.den,El.den,At.den,hv,padd,Addr.add_plain,Nat.zero_add] at he1
  simp only [SV.den] at he2
  rw [hv] at h2
  have hcells : (ev.den ε).cells = (ev.cells.map (At.den ε)).toArray := by
    cases ev with
    | a z => simp [El.den,El.cells,cells_one (hs.one h1)]
    | g l => rfl
  obtain ⟨w',h4,h5,h6,h7⟩ := run_store_own (P := cx.P) hT hcells (by simpa using hm) (fun z hz => by obtain ⟨c,hc,rfl⟩ := List.mem_map.1 hz; exact hs.elone h1 c hc) h2 ho
  refine ⟨fun _ _ => trivial,?_⟩
  rw [semAt_eq _ _ _ (fun _ => by simp)]
  have hrun : (execOp a.eval ⟨none,.store T x y,ty,pos,af,none⟩).run cx.P w = .ok .skip w' := by simp [execOp,he1,he2,h4]
  rw [hrun]
  have hob : (ε.ν j).ownBlock = some g := by rw [hv]; rfl
  have hft := hs.foot j _ hj g hob
  have hfp : fpOf S ε ⟨.e (.a (.v undef)),[],[],[(j,.own e sz n R')],[]⟩ g := ⟨j,_,by simp [look],hj,hob⟩
  refine K ε I w' ⟨fun _ _ => ⟨rfl,rfl,rfl⟩,IH.le.rfl',?_,h6.os,h6.tape,h6.output,h6.size,fun b hb hb' => h6.block b hb (fun e => by cases e; exact hb' hfp),fun _ _ h => .inl h⟩
    ⟨trivial,fun _ _ h => (by cases h),fun _ _ h => (by cases h),?_,fun _ _ h => (by cases h),?_,?_,?_,fun k x h => by obtain ⟨_,h⟩ := look_one h; cases h⟩
  · intro b o' hb
    rw [h6.block b (IH.on_lt hs.imm hb) (fun e => by cases e; rw [hft.2.2] at hb; cases hb)]
    exact hs.imm b o' hb
  · intro i e' he
    obtain ⟨rfl,rfl⟩ := look_one he
    exact ⟨.inl (hs.wfL i _ hj).1,trivial⟩
  · intro i e' he
    obtain ⟨rfl,rfl⟩ := look_one he
    exact ⟨_,by rw [hv]; exact h5,hR M ε I a w hs xs h3⟩
  · intro i e' he b hb
    obtain ⟨rfl,rfl⟩ := look_one he
    have hb : (ε.ν i).ownBlock = some b := hb
    rw [hob] at hb
    cases hb
    exact ⟨hft.1,by rw [h7]; exact hft.2.1,hft.2.2,.inr hfp⟩
  · intro i i' e' e'' b he he' hne
    obtain ⟨rfl,_⟩ := look_one he
    obtain ⟨rfl,_⟩ := look_one he'
    exact absurd rfl hne
theorem o_steE {α : Type} {E : EP α} {x y : Operand} {T e : TypeId} {j n sz : Nat} {l : List α} {i : Int} {z : α} {ev : El} (hT : ∀ w,(sizeOf T).run cx.P w = .ok sz w) (hx : S.op x = some (.e (.a (.e j (i.toNat * sz))))) (hj : look j S.L = some (.own e sz n (RP E l))) (hy : S.op y = some (.e ev)) (h1 : ev.one S) (hz : EOK cx S E ev z)
    (hm : ev.cells.length = sz) (hsz : sz = E.size) (hn : n = l.length) (h0 : 0 ≤ i) (hi : i < l.length) :
    OpG cx S ⟨none,.store T x y,ty,pos,af,none⟩ ⟨.e (.a (.v undef)),[],[],[(j,.own e sz n (RP E (lset l i z)))],[]⟩ := by
  subst hsz
  subst hn
  have hlt : i.toNat + 1 ≤ l.length := by omega
  refine o_steg hT hx hj hy h1 hm (by omega) ?_ (fun M ε I a w hs xs h => RP.set h (hz M ε I a w hs) h0 hi) rfl
  calc i.toNat * E.size + E.size = (i.toNat + 1) * E.size := by rw [Nat.add_mul]; omega
    _ ≤ l.length * E.size := Nat.mul_le_mul_right _ hlt
def idxOK : Nat → List (Nat × El) → Bool
  | _,[] => true
  | i,(j,_) :: t => Nat.beq i j && idxOK (i + 1) t
inductive Els (cx : Cx) (S : St) {α : Type} (E : EP α) : List (Nat × El) → List α → Prop
  | nil : Els cx S E [] []
  | cons {i : Nat} {e : El} {x : α} {t : List (Nat × El)} {l : List α} (h1 : e.one S) (hm : e.cells.length = E.size) (h : EOK cx S E e x) (k : Els cx S E t l) : Els cx S E ((i,e) :: t) (x :: l)
theorem fill_row {size : Nat} {ε : Env} : ∀ {els : List (Nat × El)} {i : Nat} {pre rest : List Value},idxOK i els = true → pre.length = i * size → rest.length = els.length * size → (∀ p ∈ els,p.2.cells.length = size ∧ ∀ c ∈ p.2.cells,(c.den ε).oneCell' = true) →
    Instr.fill (fun i => some (i * size,size)) (pre ++ rest).toArray (els.map fun p => (p.1,p.2.den ε)) = some (pre ++ (els.map fun p => p.2.cells.map (At.den ε)).flatten).toArray
  | [],i,pre,rest,_,_,hr,_ => by
    have : rest = [] := List.eq_nil_of_length_eq_zero (by simpa using hr)
    subst this
    simp [Instr.fill]
  | (j,e) :: t,i,pre,rest,hi,hp,hr,hc => by
    simp only [idxOK,Bool.and_eq_true] at hi
    obtain ⟨hij,hi⟩ := hi
    replace hij := Nat.eq_of_beq_eq_true hij
    subst hij
    obtain ⟨h1,h2⟩ := hc (i,e) List.mem_cons_self
    simp only at h1
    have hcells : (e.den ε).cells = (e.cells.map (At.den ε)).toArray := El.den_cells fun y hy => by
      subst hy; exact h2 y (by simp [El.cells])
    simp only [List.map_cons,Instr.fill,hcells]
    have hlen : i * size + size ≤ (pre ++ rest).length := by have hr' : rest.length = t.length * size + size := (by rw [hr,List.length_cons,Nat.add_mul]; omega); simp only [List.length_append,hp,hr']; omega
    rw [if_neg (by simp [h1]; simp at hlen; omega)]
    have := foldl_set (e.cells.map (At.den ε)) 0 (i * size) (pre ++ rest) (by simp only [List.length_map,h1]; omega)
    have hz' : Array.foldl (fun (acc : Array Value) (x : Value × Nat) => match x with | (c,j) => acc.setIfInBounds (i * size + j) c) (pre ++ rest).toArray (e.cells.map (At.den ε)).toArray.zipIdx = (pre ++ e.cells.map (At.den ε) ++ rest.drop size).toArray := by
      have hzi : (e.cells.map (At.den ε)).toArray.zipIdx = ((e.cells.map (At.den ε)).zipIdx).toArray := by simp
      rw [hzi,List.foldl_toArray]
      refine this.trans ?_
      simp only [Nat.add_zero,List.length_map,h1,← hp]
      rw [List.take_left,List.drop_length_add_append]
    simp only [hz']
    have ih := fill_row (size := size) (ε := ε) (els := t) (i := i + 1) (pre := pre ++ e.cells.map (At.den ε)) (rest := rest.drop size) hi (by simp [hp,h1,Nat.add_mul]) (by simp [hr,Nat.add_mul]) (fun p hp => hc p (List.mem_cons_of_mem _ hp))
    rw [ih]
    simp [List.append_assoc]
theorem Els.ok {α : Type} {E : EP α} {M : Nat → Prop} {ε : Env} {I : IH} {a : Act} {w : World} (hs : SatM cx M ε I S a w) : ∀ {els : List (Nat × El)} {l : List α},Els cx S E els l →
    (∀ p ∈ els,p.2.cells.length = E.size ∧ ∀ c ∈ p.2.cells,(c.den ε).oneCell' = true) ∧ els.length = l.length ∧ (RP E l).h I (els.map fun p => p.2.cells.map (At.den ε)).flatten := by
  intro els l h
  induction h with
  | nil => exact ⟨fun p hp => (by cases hp),rfl,RP.nil⟩
  | cons h1 hm h k ih =>
    obtain ⟨i1,i2,i3⟩ := ih
    refine ⟨fun p hp => ?_,by simp [i2],RP.cons (h M ε I a w hs) i3⟩
    rcases List.mem_cons.1 hp with rfl | hp
    · exact ⟨hm,hs.elone h1⟩
    · exact i1 p hp
theorem o_bsl {α : Type} {E : EP α} {t e : TypeId} {bytes len k : Nat} {zs : List Value} {parts : List (Nat × Operand)} {els : List (Nat × El)} {l : List α} (hT : RowT cx.P t e E.size bytes zs) (hp : S.els parts = some els) (hi : idxOK 0 els = true) (hE : Els cx S E els l) (hl : l.length = len) (hb : Nat.ble (len * E.size) 16777216 = true) :
    OpG cx S ⟨dst,.buildSlice t len parts.toArray,ty,pos,af,gd⟩ ⟨.e (.a (.q k)),[k],[],[(k,.own e E.size l.length (RP E l))],[]⟩ :=
  OpG.own0 (fun _ => by simp) fun M ε I a w hs => by
    subst hl
    obtain ⟨h1,h2,h3⟩ := Els.ok hs hE
    obtain ⟨h4,_⟩ := hs.elsv hp
    obtain ⟨i,z,hi1,hi2,hi3,hi4,hi5⟩ := hT.i
    have hb' : ¬ (2 ^ 24 < l.length * E.size) := by have : l.length * E.size ≤ 16777216 := by simpa using hb
                                                    omega
    have h4' : (parts.toArray.map fun (p : Nat × Operand) => (p.1,a.eval p.2)).toList = els.map (fun p => (p.1,p.2.den ε)) := by simpa using h4
    have hlen := RP.len h3
    have hfill := fill_row (size := E.size) (ε := ε) (els := els) (i := 0) (pre := []) (rest := ((Array.range (l.length * E.size)).map ((if l.length * E.size = 0 then #[] else z.cells)[· % (if l.length * E.size = 0 then #[] else z.cells).size]!)).toList) hi (by simp) (by simp [h2]) h1
    simp only [List.nil_append,Array.toArray_toList] at hfill
    refine ⟨.slice (some ⟨w.heap.size,0,none⟩) l.length l.length,w.alloc (.cells (els.map fun p => p.2.cells.map (At.den ε)).flatten.toArray e),(els.map fun p => p.2.cells.map (At.den ε)).flatten,?_,?_,h3,(Grew.of (World.grownBy_alloc w _ none) (Nat.le_refl _)),fun b hb => by simp [Value.ownBlock] at hb; omega⟩
    · simp only [execOp,Sem.run_bind,Instr.buildSlice,run_underlying hT.u,hT.sz,Result.andThen_ok,if_neg hb',Sem.run_pure,h4']
      by_cases h0 : l.length * E.size = 0
      · simp only [h0,if_true,Sem.run_bind,Sem.run_pure,Result.andThen_ok] at hfill ⊢
        simp only [hfill]
        simp [newRow,newObj,Sem.run]
      · have hzv : (zeroValue e).run cx.P w = .ok z w := by simp [zeroValue,typeInfo,hi1,hi2]
        simp only [h0,if_false,Sem.run_bind,hzv,Sem.run_pure,Result.andThen_ok] at hfill ⊢
        simp only [hfill]
        simp [newRow,newObj,Sem.run]
    · have := World.ownsRow_lit (base := 0) (e := e) (size := E.size) w (els.map fun p => p.2.cells.map (At.den ε)).flatten.toArray l.length (Nat.zero_le _) (by
        refine maxLen_ok ?_
        have hpos := hT.pos
        have : l.length ≤ l.length * E.size := Nat.le_mul_of_pos_right _ hpos
        omega) (by simpa using hlen)
      simpa using this
end ops
end Go.Eng
namespace Go.Eng
open Go
def Imp (cx : Cx) (S S' : St) : Prop := ∀ ε I a w,Sat cx ε I S a w → ∃ ε' I',Sat cx ε' I' S' a w
section
variable {cx : Cx} {S S' : St} {Q : Exit → Act → World → Prop}
theorem WP.imp {c : Code} (hi : Imp cx S S') (h : WP cx S' c Q) : WP cx S c Q := fun ε I a w hs => by
  obtain ⟨ε',I',hs'⟩ := hi ε I a w hs; exact h _ _ _ _ hs'
theorem WPl.imp {ops : Array Oper} {l : List Oper} (hi : Imp cx S S') (h : WPl cx ops S' l Q) : WPl cx ops S l Q := fun ε I a w hs => by
  obtain ⟨ε',I',hs'⟩ := hi ε I a w hs; exact h _ _ _ _ hs'
theorem EX.imp {e : Exit} (hi : Imp cx S S') (h : EX cx S' e Q) : EX cx S e Q := fun ε I a w hs => by
  obtain ⟨ε',I',hs'⟩ := hi ε I a w hs; exact h _ _ _ _ hs'
def Gh (cx : Cx) (S : St) (u : U) : Prop := ∀ M ε I a w,SatM cx M ε I S a w → (∀ k ∈ u.N,¬ M k) → ∃ ε' I',Tr cx.w0.heap.size ε ε' I I' w w u.N (fpOf S ε u) ∧ New cx M S ε ε' I' w w u
theorem Imp.app {u : U} (m : Nat) (h : Gh cx S u) (hN : ∀ k ∈ u.N,S.n ≤ k ∧ k < m) (hm : S.n ≤ m) : Imp cx S (S.app m none u) := fun ε I a w hs => by
  have hN' : ∀ k ∈ u.N,¬ k < S.n := fun k hk hlt => by have := (hN k hk).1; omega
  obtain ⟨ε',I',ht,hn⟩ := h _ ε I a w hs hN'
  refine ⟨ε',I',SatM.mono ?_ (SatM.app m hs (St.le.refl _) hN' (fun i hi => by cases hi) ht hn)⟩
  rintro k (hk | hk)
  · exact Nat.lt_of_lt_of_le hk hm
  · exact (hN k hk).2
end
section
variable {cx : Cx} {n : Nat} {fr : List (Nat × SV)} {X : List (Nat × Pred)} {L : List (Nat × Ent)} {D : List Nat} {G : List (Nat × Bool)}
theorem Imp.nam (k m : Nat) (v : Value) {R : Pred} (hR : ∀ I,R.h I v) (hk : Nat.ble n k = true) (hm : Nat.blt k m = true) : Imp cx ⟨n,fr,X,L,D,G⟩ ⟨m,fr,(k,R) :: X,L,D,G⟩ := by
  have hk' : n ≤ k := by simpa using hk
  rw [Nat.blt_eq] at hm
  refine Imp.app (u := ⟨.e (.a (.v undef)),[k],[(k,R)],[],[]⟩) m ?_ (fun i hi => by
    have hi : i ∈ [k] := hi
    rw [List.mem_singleton] at hi; subst hi; exact ⟨hk',hm⟩) (by show n ≤ m; omega)
  intro M ε I a w hs hN
  refine ⟨⟨ε.β,upd ε.ν k v,ε.γ⟩,I,⟨fun i hi => ?_,IH.le.rfl',hs.imm,rfl,rfl,Out.rf,Nat.le_refl _,fun _ _ _ => rfl,fun _ _ h => .inl h⟩,
    ⟨trivial,fun j R' hj => by obtain ⟨rfl,_⟩ := look_one hj; exact .inr (by simp),fun _ _ h => (by cases h),fun _ _ h => (by cases h),
      fun j R' hj => by obtain ⟨rfl,rfl⟩ := look_one hj; simpa only [upd_same] using hR I,fun _ _ h => (by cases h),fun _ _ h => (by cases h),fun _ _ _ _ _ h => (by cases h),fun _ _ h => (by cases h)⟩⟩
  have : i ≠ k := fun e => hi (by simp [e])
  exact ⟨rfl,upd_other _ _ this,rfl⟩
theorem Imp.namo {α : Type} (E : EP α) (k m : Nat) (T : TypeId) (hk : Nat.ble n k = true) (hm : Nat.blt k m = true) : Imp cx ⟨n,fr,X,L,D,G⟩ ⟨m,fr,(k,Pred.is (.slice none 0 0)) :: X,(k,.own T E.size ([] : List α).length (RP E [])) :: L,D,G⟩ := by
  have hk' : n ≤ k := by simpa using hk
  rw [Nat.blt_eq] at hm
  refine Imp.app (u := ⟨.e (.a (.v undef)),[k],[(k,Pred.is (.slice none 0 0))],[(k,.own T E.size ([] : List α).length (RP E []))],[]⟩) m ?_ (fun i hi => by
    have hi : i ∈ [k] := hi
    rw [List.mem_singleton] at hi; subst hi; exact ⟨hk',hm⟩) (by show n ≤ m; omega)
  intro M ε I a w hs hN
  refine ⟨⟨ε.β,upd ε.ν k (.slice none 0 0),ε.γ⟩,I,⟨fun i hi => ?_,IH.le.rfl',hs.imm,rfl,rfl,Out.rf,Nat.le_refl _,fun _ _ _ => rfl,fun _ _ h => .inl h⟩,
    ⟨trivial,fun j R' hj => by obtain ⟨rfl,_⟩ := look_one hj; exact .inr (by simp),fun _ _ h => (by cases h),fun i e he => by obtain ⟨rfl,rfl⟩ := look_one he; exact ⟨.inr (by simp),trivial⟩,
      fun j R' hj => by obtain ⟨rfl,rfl⟩ := look_one hj; simp only [upd_same]; rfl,fun i e he => by
        obtain ⟨rfl,rfl⟩ := look_one he
        exact ⟨[],by simp only [upd_same]; exact World.ownsRow_nil w 0 T E.size,RP.nil⟩,fun i e he b hb => by
        obtain ⟨rfl,rfl⟩ := look_one he
        simp [Ent.foot,upd_same,Value.ownBlock] at hb,fun i i' e e' b he he' hne => by
        obtain ⟨rfl,_⟩ := look_one he
        obtain ⟨rfl,_⟩ := look_one he'
        exact absurd rfl hne,fun k x h => by obtain ⟨_,h⟩ := look_one h; cases h⟩⟩
  have : i ≠ k := fun e => hi (by simp [e])
  exact ⟨rfl,upd_other _ _ this,rfl⟩
theorem Imp.swF (d k : Nat) {u : Value} (hd : look d fr = some (.e (.a (.v u)))) (hk : Has X k (Pred.is u)) : Imp cx ⟨n,fr,X,L,D,G⟩ ⟨n,(d,.e (.a (.q k))) :: fr,X,L,D,G⟩ := fun ε I a w hs => by
  have hv : ε.ν k = u := hs.has hk
  obtain ⟨R,hR,_⟩ := hk
  have hkn : k < n := hs.wfX k R hR
  refine ⟨ε,I,{ hs with wfr := fun i x hx => ?_,fr := fun i x hx => ?_ }⟩
  · rw [look_cons] at hx
    by_cases hi : d = i
    · subst hi; simp at hx; subst hx; exact hkn
    · simp [hi] at hx; exact hs.wfr i x hx
  · rw [look_cons] at hx
    by_cases hi : d = i
    · subst hi; simp at hx; subst hx
      rw [hs.fr d _ hd]
      simp [SV.den,El.den,At.den,hv]
    · simp [hi] at hx; exact hs.fr i x hx
theorem Imp.swL (kb o k : Nat) {u : Value} {cs : List At} {T : TypeId} (hb : look kb L = some (.blk cs T)) (ho : cs[o]? = some (.v u)) (hk : Has X k (Pred.is u)) : Imp cx ⟨n,fr,X,L,D,G⟩ ⟨n,fr,X,(kb,.blk (cs.set o (.q k)) T) :: L,D,G⟩ := fun ε I a w hs => by
  have hv : ε.ν k = u := hs.has hk
  obtain ⟨R,hR,_⟩ := hk
  have hkn : k < n := hs.wfX k R hR
  have hlt := (List.getElem?_eq_some_iff.1 ho).1
  have hlk : ∀ i e,look i ((kb,Ent.blk (cs.set o (.q k)) T) :: L) = some e → (i = kb ∧ e = .blk (cs.set o (.q k)) T) ∨ look i L = some e := by
    intro i e he
    rw [look_cons] at he
    by_cases hi : kb = i
    · subst hi; simp at he; exact .inl ⟨rfl,he.symm⟩
    · simp [hi] at he; exact .inr he
  have hft : ∀ i e,look i ((kb,Ent.blk (cs.set o (.q k)) T) :: L) = some e → ∃ e',look i L = some e' ∧ ∀ b,e.foot ε i b → e'.foot ε i b := fun i e he => by
    rcases hlk i e he with ⟨rfl,rfl⟩ | he
    · exact ⟨_,hb,fun b h => h⟩
    · exact ⟨_,he,fun b h => h⟩
  refine ⟨ε,I,{ hs with wfL := fun i e he => ?_,L := fun i e he => ?_,foot := fun i e he b hfb => ?_,sep := fun i i' e e' b he he' hne h1 h2 => ?_,ext := fun i x hx => ?_ }⟩
  · rcases hlk i e he with ⟨rfl,rfl⟩ | he
    · refine ⟨(hs.wfL i _ hb).1,fun c hc => ?_⟩
      rcases List.mem_or_eq_of_mem_set hc with hc | rfl
      · exact (hs.wfL i _ hb).2 c hc
      · exact hkn
    · exact hs.wfL i e he
  · rcases hlk i e he with ⟨rfl,rfl⟩ | he
    · have := hs.L i _ hb
      simp only [Ent.ok] at this ⊢
      rw [this,List.map_set]
      congr 3
      rw [show At.den ε (.q k) = At.den ε (.v u) from hv]
      have h1 : (cs.map (At.den ε))[o]? = some (At.den ε (.v u)) := by rw [List.getElem?_map,ho]; rfl
      obtain ⟨h2,h3⟩ := List.getElem?_eq_some_iff.1 h1
      rw [← h3,List.set_getElem_self]
    · exact hs.L i e he
  · obtain ⟨e',h1,h2⟩ := hft i e he; exact hs.foot i e' h1 b (h2 b hfb)
  · obtain ⟨e1,h3,h4⟩ := hft i e he
    obtain ⟨e2,h5,h6⟩ := hft i' e' he'
    exact hs.sep i i' e1 e2 b h3 h5 hne (h4 b h1) (h6 b h2)
  · rcases hlk i _ hx with ⟨_,h⟩ | h
    · cases h
    · exact hs.ext i x h
def IH.from (n : Nat) (I : IH) : IH := fun b => if n ≤ b then I b else none
def Pred.from (n : Nat) (R : Pred) : Pred := ⟨fun I v => R.h (I.from n) v,fun hI h => R.mono (fun b o hb => by
  unfold IH.from at hb ⊢; split at hb
  · rename_i hn; rw [if_pos hn]; exact hI b o hb
  · cases hb) h⟩
theorem own_pl {α : Type} {E : EP α} {w : World} {T : TypeId} {I I' : IH} {v : Value} {l : List α} {xs : List Value} (hown : w.ownsRow 0 T E.size v l.length xs) (hR : (RP E l).h I xs) (hI : ∀ cs x,E.h I cs x → E.h I' cs x) (hb : ∀ b,v.ownBlock = some b → I' b = w.heap[b]?) : (PL E l).h I' v := by
  obtain ⟨hl,h2⟩ := hown
  rcases h2 with ⟨rfl,hn⟩ | ⟨g,cap,cur,rfl,_,hg,hn,_,_,htk⟩
  · exact ⟨none,0,by rw [hn],by omega,fun i hi => by omega⟩
  · refine ⟨_,cap,rfl,hn,fun i hi => ?_⟩
    obtain ⟨c,rfl,h3,h4⟩ := hR
    have hic : i < c.length := by omega
    refine ⟨c[i],_,hI _ _ (h4 i hic hi),rfl,rfl,fun j y hj => ?_⟩
    have hbg := hb g rfl
    rw [hg] at hbg
    rw [Addr.add_plain,Nat.zero_add]
    have h5 := flatten_get (size := E.size) (fun z hz => by
      obtain ⟨m,hm,rfl⟩ := List.mem_iff_getElem.1 hz
      exact E.len (h4 m hm (by omega))) hic hj
    rw [← htk,List.getElem?_take] at h5
    split at h5
    · simp only [IH.cell,hbg]
      simpa using h5
    · cases h5
theorem Gh.frz {α : Type} {E : EP α} {S : St} {k : Nat} {T : TypeId} {l : List α} (R' : Pred) (hE : cx.E = Emp) (hk : look k S.L = some (.own T E.size l.length (RP E l)))
    (hR : ∀ I I' v xs (w : World),w.ownsRow 0 T E.size v l.length xs → (RP E l).h I xs → I.le I' → (∀ b,v.ownBlock = some b → cx.w0.heap.size ≤ b ∧ I' b = w.heap[b]?) → R'.h I' v) :
    Gh cx S ⟨.e (.a (.v undef)),[],[(k,R')],[(k,.dead)],[]⟩ := by
  intro M ε I a w hs hN
  obtain ⟨xs,h1,h2⟩ := hs.L k _ hk
  have hft := hs.foot k _ hk
  have hfp : ∀ b,(ε.ν k).ownBlock = some b → fpOf S ε ⟨.e (.a (.v undef)),[],[(k,R')],[(k,.dead)],[]⟩ b := fun b hb => ⟨k,_,by simp [look],hk,hb⟩
  let I' : IH := fun b => if (ε.ν k).ownBlock = some b then w.heap[b]? else I b
  have hle : I.le I' := fun b o hb => by
    by_cases h : (ε.ν k).ownBlock = some b
    · rw [(hft b h).2.2] at hb; cases hb
    · simp only [I',if_neg h]; exact hb
  refine ⟨ε,I',⟨fun _ _ => ⟨rfl,rfl,rfl⟩,hle,fun b o hb => ?_,rfl,rfl,Out.rf,Nat.le_refl _,fun _ _ _ => rfl,fun b o hb => ?_⟩,
    ⟨trivial,fun j R h => by obtain ⟨rfl,_⟩ := look_one h; exact .inl (hs.wfL j _ hk).1,fun _ _ h => (by cases h),fun i e he => by obtain ⟨rfl,rfl⟩ := look_one he; exact ⟨.inl (hs.wfL i _ hk).1,trivial⟩,
      fun j R h => ?_,fun i e he => by obtain ⟨rfl,rfl⟩ := look_one he; trivial,fun i e he b hb => by obtain ⟨rfl,rfl⟩ := look_one he; exact absurd hb (fun h => h),
      fun i i' e e' b he he' hne hb => by obtain ⟨rfl,rfl⟩ := look_one he; exact absurd hb (fun h => h),fun k x h => by obtain ⟨_,h⟩ := look_one h; cases h⟩⟩
  · by_cases h : (ε.ν k).ownBlock = some b
    · simp only [I',if_pos h] at hb; exact hb
    · simp only [I',if_neg h] at hb; exact hs.imm b o hb
  · by_cases h : (ε.ν k).ownBlock = some b
    · right; right
      refine ⟨hfp b h,?_⟩
      rcases (hft b h).1 with h1 | h1
      · exact h1
      · rw [hE] at h1; exact h1.elim
    · simp only [I',if_neg h] at hb; exact .inl hb
  · obtain ⟨rfl,rfl⟩ := look_one h
    refine hR I I' _ xs w h1 h2 hle fun b hb => ⟨?_,by simp only [I',if_pos hb]⟩
    rcases (hft b hb).1 with h1 | h1
    · exact h1
    · rw [hE] at h1; exact h1.elim
theorem Imp.frz {α : Type} {E : EP α} (k : Nat) {T : TypeId} {l : List α} (hE : cx.E = Emp) (hk : look k L = some (.own T E.size l.length (RP E l))) : Imp cx ⟨n,fr,X,L,D,G⟩ ⟨n,fr,(k,PL E l) :: X,(k,.dead) :: L,D,G⟩ :=
  Imp.app n (Gh.frz (PL E l) hE hk fun _ _ _ _ _ h1 h2 hI hb => own_pl h1 h2 (fun _ _ h => E.mono hI h) fun b h => (hb b h).2) (fun _ h => by cases h) (Nat.le_refl _)
theorem Imp.frzf {α : Type} {E : EP α} (k : Nat) {T : TypeId} {l : List α} (hm : ∀ I I' cs x,E.h I cs x → E.h I' cs x) (hE : cx.E = Emp) (hk : look k L = some (.own T E.size l.length (RP E l))) :
    Imp cx ⟨n,fr,X,L,D,G⟩ ⟨n,fr,(k,Pred.from cx.w0.heap.size (PL E l)) :: X,(k,.dead) :: L,D,G⟩ :=
  Imp.app n (Gh.frz (Pred.from cx.w0.heap.size (PL E l)) hE hk fun _ _ _ _ _ h1 h2 hI hb => own_pl h1 h2 (fun _ _ h => hm _ _ _ _ h) fun b h => by
    unfold IH.from; rw [if_pos (hb b h).1]; exact (hb b h).2) (fun _ h => by cases h) (Nat.le_refl _)
theorem EP.fix_free {α : Type} {n : Nat} {enc : α → List Value} {hn : ∀ x,(enc x).length = n} : ∀ I I' cs x,(EP.fix n enc hn).h I cs x → (EP.fix n enc hn).h I' cs x := fun _ _ _ _ h => h
def At.sub (k k2 : Nat) : At → At
  | .p k' o => bif Nat.beq k' k then (bif Nat.beq o 0 then .q k2 else .e k2 o) else .p k' o
  | x => x
def El.sub (k k2 : Nat) : El → El
  | .a x => .a (x.sub k k2)
  | .g l => .g (l.map (At.sub k k2))
def SV.sub (k k2 : Nat) : SV → SV
  | .e x => .e (x.sub k k2)
  | .t l => .t (l.map (El.sub k k2))
  | .c g x => .c g x
def Ent.sub (k k2 : Nat) : Ent → Ent
  | .blk cs T => .blk (cs.map (At.sub k k2)) T
  | e => e
def subL {α : Type} (f : α → α) : List (Nat × α) → List (Nat × α)
  | [] => []
  | (i,x) :: t => (i,f x) :: subL f t
theorem look_subL {α : Type} (f : α → α) (i : Nat) : ∀ l : List (Nat × α),look i (subL f l) = (look i l).map f
  | [] => rfl
  | (k,x) :: t => by
    rw [subL,look_cons,look_cons,look_subL f i t]
    by_cases h : k = i <;> simp [h]
section
variable {ε : Env} {k k2 : Nat}
theorem At.den_sub (hν : ε.ν k2 = .pointer (some ⟨ε.β k,0,none⟩)) : ∀ x : At,(x.sub k k2).den ε = x.den ε
  | .v _ | .q _ | .e _ _ | .s _ _ | .f _ _ => rfl
  | .p k' o => by
    unfold At.sub
    by_cases h1 : k' = k
    · subst h1
      by_cases h2 : o = 0
      · subst h2; simp [At.den,hν]
      · have : Nat.beq o 0 = false := by
          cases h : Nat.beq o 0
          · rfl
          · exact absurd (Nat.eq_of_beq_eq_true h) h2
        simp [this,At.den,hν,padd,Addr.add_plain]
    · have : Nat.beq k' k = false := by
        cases h : Nat.beq k' k
        · rfl
        · exact absurd (Nat.eq_of_beq_eq_true h) h1
      simp [this]
theorem El.den_sub (hν : ε.ν k2 = .pointer (some ⟨ε.β k,0,none⟩)) : ∀ x : El,(x.sub k k2).den ε = x.den ε
  | .a x => At.den_sub hν x
  | .g l => by simp only [El.sub,El.den,List.map_map]; rw [List.map_congr_left (fun c _ => by show (c.sub k k2).den ε = _; exact At.den_sub hν c)]
theorem SV.den_sub (hν : ε.ν k2 = .pointer (some ⟨ε.β k,0,none⟩)) : ∀ x : SV,(x.sub k k2).den ε = x.den ε
  | .e x => El.den_sub hν x
  | .t l => by simp only [SV.sub,SV.den,List.map_map]; rw [List.map_congr_left (fun c _ => by show (c.sub k k2).den ε = _; exact El.den_sub hν c)]
  | .c _ _ => rfl
end
theorem At.on_sub {M : Nat → Prop} {k k2 : Nat} (h2 : M k2) : ∀ {x : At},x.on M → (x.sub k k2).on M
  | .v _,h | .q _,h | .e _ _,h | .s _ _,h | .f _ _,h => h
  | .p k' o,h => by
    show At.on M (bif Nat.beq k' k then (bif Nat.beq o 0 then .q k2 else .e k2 o) else .p k' o)
    cases Nat.beq k' k <;> cases Nat.beq o 0 <;> first | exact h | exact h2
theorem El.on_sub {M : Nat → Prop} {k k2 : Nat} (h2 : M k2) : ∀ {x : El},x.on M → (x.sub k k2).on M
  | .a _,h => At.on_sub h2 h
  | .g l,h => fun c hc => by obtain ⟨y,hy,rfl⟩ := List.mem_map.1 hc; exact At.on_sub h2 (h y hy)
theorem SV.on_sub {γ : Nat → Bool} {M : Nat → Prop} {k k2 : Nat} (h2 : M k2) : ∀ {x : SV},x.on γ M → (x.sub k k2).on γ M
  | .e _,h => El.on_sub h2 h
  | .t l,h => fun c hc => by obtain ⟨y,hy,rfl⟩ := List.mem_map.1 hc; exact El.on_sub h2 (h y hy)
  | .c _ _,h => h
theorem SatM.sub {M : Nat → Prop} {ε : Env} {I : IH} {S : St} {a : Act} {w : World} {k k2 : Nat} (hν : ε.ν k2 = .pointer (some ⟨ε.β k,0,none⟩)) (hM : M k2) (h : SatM cx M ε I S a w) :
    SatM cx M ε I { S with fr := subL (SV.sub k k2) S.fr,L := subL (Ent.sub k k2) S.L } a w := by
  have hfr : ∀ i x,look i (subL (SV.sub k k2) S.fr) = some x → ∃ y,look i S.fr = some y ∧ x = y.sub k k2 := fun i x hx => by
    rw [look_subL] at hx
    cases hl : look i S.fr with
    | none => rw [hl] at hx; cases hx
    | some y => rw [hl] at hx; simp at hx; exact ⟨y,rfl,hx.symm⟩
  have hL : ∀ i x,look i (subL (Ent.sub k k2) S.L) = some x → ∃ y,look i S.L = some y ∧ x = y.sub k k2 := fun i x hx => by
    rw [look_subL] at hx
    cases hl : look i S.L with
    | none => rw [hl] at hx; cases hx
    | some y => rw [hl] at hx; simp at hx; exact ⟨y,rfl,hx.symm⟩
  have hft : ∀ (y : Ent) i b,(y.sub k k2).foot ε i b → y.foot ε i b := fun y i b hb => by cases y <;> exact hb
  refine { h with wfr := fun i x hx => ?_,fr := fun i x hx => ?_,wfL := fun i x hx => ?_,L := fun i x hx => ?_,foot := fun i e he b hb => ?_,sep := fun i i' e e' b he he' hne hb hb' => ?_,ext := fun i x hx => ?_ }
  · obtain ⟨y,h1,rfl⟩ := hfr i x hx; exact SV.on_sub hM (h.wfr i y h1)
  · obtain ⟨y,h1,rfl⟩ := hL i x hx
    refine ⟨(h.wfL i y h1).1,?_⟩
    have := (h.wfL i y h1).2
    cases y with
    | blk cs T => intro c hc; obtain ⟨z,hz,rfl⟩ := List.mem_map.1 hc; exact At.on_sub hM (this z hz)
    | _ => exact trivial
  · obtain ⟨y,h1,rfl⟩ := hfr i x hx; rw [SV.den_sub hν]; exact h.fr i y h1
  · obtain ⟨y,h1,rfl⟩ := hL i x hx
    have := h.L i y h1
    cases y with
    | blk cs T =>
      simp only [Ent.ok,Ent.sub,List.map_map] at this ⊢
      rw [this,List.map_congr_left (fun c _ => by show _ = (c.sub k k2).den ε; exact (At.den_sub hν c).symm)]
      simp [Function.comp_def]
    | _ => exact this
  · obtain ⟨y,h1,rfl⟩ := hL i e he; exact h.foot i y h1 b (hft y i b hb)
  · obtain ⟨y,h1,rfl⟩ := hL i e he
    obtain ⟨y',h1',rfl⟩ := hL i' e' he'
    exact h.sep i i' y y' b h1 h1' hne (hft y i b hb) (hft y' i' b hb')
  · obtain ⟨y,h1,h2⟩ := hL i _ hx
    cases y <;> simp only [Ent.sub,reduceCtorEq] at h2
    cases h2; exact h.ext i x h1
theorem Imp.frzb {α : Type} {E : EP α} {y : α} (k k2 m : Nat) {cs : List At} {T : TypeId} {S' : St} (hE : cx.E = Emp) (hk : look k L = some (.blk cs T)) (hz : ∀ M ε I a w,SatM cx M ε I ⟨n,fr,X,L,D,G⟩ a w → E.h I (cs.map (At.den ε)) y)
    (hk2 : Nat.ble n k2 = true) (hm : Nat.blt k2 m = true) (hS' : S' = ⟨m,subL (SV.sub k k2) fr,(k2,PP E y) :: X,(k,.dead) :: subL (Ent.sub k k2) L,D,G⟩) : Imp cx ⟨n,fr,X,L,D,G⟩ S' := by
  subst hS'
  intro ε I a w hs
  have hk2' : n ≤ k2 := by simpa using hk2
  rw [Nat.blt_eq] at hm
  have hb := hs.L k _ hk
  simp only [Ent.ok] at hb
  have hft := hs.foot k _ hk (ε.β k) rfl
  have hge : cx.w0.heap.size ≤ ε.β k := by
    rcases hft.1 with h1 | h1
    · exact h1
    · rw [hE] at h1; exact h1.elim
  have hkn : k < n := (hs.wfL k _ hk).1
  have hne : k ≠ k2 := by omega
  let I' : IH := fun b => if b = ε.β k then w.heap[b]? else I b
  have hle : I.le I' := fun b o hbo => by
    by_cases h : b = ε.β k
    · subst h; rw [hft.2.2] at hbo; cases hbo
    · simp only [I',if_neg h]; exact hbo
  let u : U := ⟨.e (.a (.v undef)),[k2],[(k2,PP E y)],[(k,.dead)],[]⟩
  have hfp : fpOf ⟨n,fr,X,L,D,G⟩ ε u (ε.β k) := ⟨k,_,by simp [u,look],hk,rfl⟩
  let ε' : Env := ⟨ε.β,upd ε.ν k2 (.pointer (some ⟨ε.β k,0,none⟩)),ε.γ⟩
  have hcell : ∀ j z,(cs.map (At.den ε))[j]? = some z → I'.cell ((⟨ε.β k,0,none⟩ : Addr).add j) = some z := fun j z hj => by
    rw [Addr.add_plain,Nat.zero_add]
    simp only [IH.cell,I',if_true,hb]
    simpa using hj
  have ht : Tr cx.w0.heap.size ε ε' I I' w w u.N (fpOf ⟨n,fr,X,L,D,G⟩ ε u) := by
    refine ⟨fun i hi => ?_,hle,fun b o hbo => ?_,rfl,rfl,Out.rf,Nat.le_refl _,fun _ _ _ => rfl,fun b o hbo => ?_⟩
    · have : i ≠ k2 := fun e => hi (by simp [u,e])
      exact ⟨rfl,upd_other _ _ this,rfl⟩
    · by_cases h : b = ε.β k
      · simp only [I',if_pos h] at hbo; exact hbo
      · simp only [I',if_neg h] at hbo; exact hs.imm b o hbo
    · by_cases h : b = ε.β k
      · subst h; exact .inr (.inr ⟨hfp,hge⟩)
      · simp only [I',if_neg h] at hbo; exact .inl hbo
  have hn : New cx (· < n) ⟨n,fr,X,L,D,G⟩ ε ε' I' w w u := by
    refine ⟨trivial,fun j R h => ?_,fun _ _ h => (by cases h),fun i e he => ?_,fun j R h => ?_,fun i e he => ?_,fun i e he b hb => ?_,fun i i' e e' b he he' hne hb => ?_,fun k x h => by obtain ⟨_,h⟩ := look_one h; cases h⟩
    · obtain ⟨rfl,_⟩ := look_one h; exact .inr (by simp [u])
    · obtain ⟨rfl,rfl⟩ := look_one he; exact ⟨.inl hkn,trivial⟩
    · obtain ⟨rfl,rfl⟩ := look_one h
      simp only [ε',upd_same]
      exact ⟨_,_,rfl,rfl,E.mono hle (hz _ ε I a w hs),hcell⟩
    · obtain ⟨rfl,rfl⟩ := look_one he; trivial
    · obtain ⟨rfl,rfl⟩ := look_one he; exact absurd hb (fun h => h)
    · obtain ⟨rfl,rfl⟩ := look_one he; exact absurd hb (fun h => h)
  have h1 := SatM.app m hs (St.le.refl _) (d := none) (fun i hi hlt => by
    have hi : i ∈ [k2] := hi
    rw [List.mem_singleton] at hi; subst hi
    have : i < n := hlt
    omega) (fun i hi => by cases hi) ht hn
  have h2 := SatM.sub (k := k) (k2 := k2) (by simp only [ε',upd_same]) (.inr (by simp [u])) h1
  refine ⟨ε',I',SatM.mono ?_ h2⟩
  rintro i (hi | hi)
  · show i < m
    have : i < n := hi
    omega
  · have hi : i ∈ [k2] := hi
    rw [List.mem_singleton] at hi; subst hi; exact hm
end
theorem SatM.lend {cx : Cx} {M : Nat → Prop} {ε : Env} {I : IH} {S : St} {a : Act} {w : World} (hs : SatM cx M ε I S a w) {α : Type} {E : EP α} {k : Nat} {T : TypeId} {l : List α} (hk : look k S.L = some (.own T E.size l.length (RP E l))) : (PL E l).h (World.all w) (ε.ν k) := by
  obtain ⟨xs,h1,h2⟩ := hs.L k _ hk
  exact own_pl h1 h2 (fun _ _ h => E.mono hs.imm h) fun b _ => rfl
theorem SatM.all {cx : Cx} {M : Nat → Prop} {ε : Env} {I : IH} {S : St} {a : Act} {w : World} (hs : SatM cx M ε I S a w) {j : Nat} {R : Pred} (hj : Has S.X j R) : R.h (World.all w) (ε.ν j) := R.mono hs.imm (hs.has hj)
theorem OpG.callb {cx : Cx} {S : St} {o : Oper} {sv : SV} {X : List (Nat × Pred)} (hnd : ∀ c,o.op ≠ .defer c) (hres : sv.res (keys X))
    (h : ∀ M ε I a w,SatM cx M ε I S a w → ∃ f args,(execOp a.eval o).run cx.P w = .ok (.enter f args) w ∧ Ct cx.P f args (World.all w) w Emp sv (X.map fun p => (p.1,Pred.from w.heap.size p.2))) : OpG cx S o ⟨sv,keys X,X,[],[]⟩ := by
  intro M ε I a w next Q hs hN K
  obtain ⟨f,args,h1,h2⟩ := h M ε I a w hs
  refine ⟨fun _ _ => trivial,?_⟩
  rw [semAt_eq _ _ _ hnd,h1]
  refine ⟨fun h => (by cases h),CallsIn.mono (callsIn_fen h2) ?_⟩
  rintro e w' ⟨I',us,rfl,hk,hle,hon,hfr,hX⟩
  have hsv : sv.den ⟨fun _ => 0,us,fun _ => true⟩ = sv.den ⟨ε.β,fun j => if j ∈ keys X then us j else ε.ν j,ε.γ⟩ :=
    SV.den_res (fun j hj => by simp [hj]) hres
  show next (a.put o.dst _) w'
  rw [hsv]
  let I'' : IH := fun b => if w.heap.size ≤ b then I' b else I b
  refine K ⟨ε.β,fun j => if j ∈ keys X then us j else ε.ν j,ε.γ⟩ I'' w'
    ⟨fun i hi => ⟨rfl,by simp [hi],rfl⟩,fun b o hb => ?_,fun b o hb => ?_,hk.os,hk.tape,hk.output,hk.size,fun b hb _ => hk.block b hb (fun h => h),fun b o hb => ?_⟩
    ⟨SV.on_res (fun j hj => .inr hj) hres,fun j R hj => .inr (look_keys hj),fun _ _ h => (by cases h),fun _ _ h => (by cases h),fun j R hj => ?_,fun _ _ h => (by cases h),fun _ _ h => (by cases h),fun _ _ _ _ _ h => (by cases h),fun _ _ h => (by cases h)⟩
  · have := IH.on_lt hs.imm hb
    simp only [I'',if_neg (show ¬ w.heap.size ≤ b by omega)]; exact hb
  · by_cases hn : w.heap.size ≤ b
    · simp only [I'',if_pos hn] at hb; exact hon b o hb
    · simp only [I'',if_neg hn] at hb
      rw [hk.block b (by omega) (fun h => h)]; exact hs.imm b o hb
  · by_cases hn : w.heap.size ≤ b
    · exact .inr (.inl hn)
    · simp only [I'',if_neg hn] at hb; exact .inl hb
  · have hjk : j ∈ keys X := look_keys hj
    simp only [hjk,if_true]
    have := hX j (Pred.from w.heap.size R) (by rw [look_map (Pred.from w.heap.size)]; rw [hj]; rfl)
    refine R.mono (fun b o hb => ?_) this
    unfold IH.from at hb
    split at hb
    · rename_i hn; simp only [I'',if_pos hn]; exact hb
    · cases hb
section ops
variable {cx : Cx} {S : St} {dst : Option Tmp} {ty : TypeId} {pos : String} {af : Array Edge} {gd : Option (Nat × Bool)}
theorem o_callb {f : FuncId} {l : List Operand} {ts : Array TypeId} {svs : List SV} {sv : SV} {X : List (Nat × Pred)} (hf : Enters' cx.P f) (hl : S.ops l = some svs) (hres : sv.res (keys X))
    (h : ∀ M ε I a w,SatM cx M ε I S a w → Ct cx.P f (svs.map (SV.den ε)).toArray (World.all w) w Emp sv (X.map fun p => (p.1,Pred.from w.heap.size p.2))) :
    OpG cx S ⟨dst,.call { callee := .value (.func f),args := l.toArray,argTypes := ts },ty,pos,af,gd⟩ ⟨sv,keys X,X,[],[]⟩ :=
  OpG.callb (fun _ => by simp) hres fun M ε I a w hs => by
    refine ⟨f,_,?_,h M ε I a w hs⟩
    have := hs.evals hl
    simp [execOp,resolve,Act.eval,Deferred.ofValue,invoke,this,hf _ _]
theorem o_mkfn {f : FuncId} {l l' : List Operand} {svs svs' : List SV} {R : Pred} {k : Nat} (hl : S.ops l = some svs) (hl' : S.ops l' = some svs')
    (h : ∀ M ε I a w,SatM cx M ε I S a w → R.h I (.func (.func f) (svs.map (SV.den ε)).toArray (svs'.map (SV.den ε)).toArray)) :
    OpG cx S ⟨dst,.makeFunc (.func f) l.toArray l'.toArray,ty,pos,af,gd⟩ ⟨.e (.a (.q k)),[k],[(k,R)],[],[]⟩ :=
  OpG.newq (fun _ => by simp) fun M ε I a w hs => by
    have h1 := hs.evals hl
    have h2 := hs.evals hl'
    exact ⟨_,h M ε I a w hs,by simp [execOp,Instr.makeFunc,h1,h2]⟩
def FnV (P : Program) (v : Value) (args : List Value) (f : FuncId) (args' : Array Value) : Prop := ∀ w,(do let d ← Deferred.ofValue v args.toArray; invoke d.target d.args : Sem Next).run P w = .ok (.enter f args') w
theorem FnV.of {P : Program} {f : FuncId} {fs cs : Array Value} {args : List Value} (hf : Enters' P f) : FnV P (.func (.func f) fs cs) args f (fs ++ args.toArray ++ cs) := fun w => by
  simp [Deferred.ofValue,invoke,hf _ _]
theorem o_callv {x : Operand} {l : List Operand} {ts : Array TypeId} {svs : List SV} {fv sv : SV} {X : List (Nat × Pred)} (hx : S.op x = some fv) (hl : S.ops l = some svs) (hres : sv.res (keys X))
    (h : ∀ M ε I a w,SatM cx M ε I S a w → ∃ f args',FnV cx.P (fv.den ε) (svs.map (SV.den ε)) f args' ∧ Ct cx.P f args' I w Emp sv X) :
    OpG cx S ⟨dst,.call { callee := .value x,args := l.toArray,argTypes := ts },ty,pos,af,gd⟩ ⟨sv,keys X,X,[],[]⟩ :=
  OpG.call (fun _ => by simp) hres fun M ε I a w hs => by
    obtain ⟨f,args',h1,h2⟩ := h M ε I a w hs
    refine ⟨f,args',?_,h2⟩
    have h3 := hs.evals hl
    have h4 := hs.eval hx
    have := h1 w
    simpa [execOp,resolve,h3,h4] using this
end ops
end Go.Eng
namespace Go.Eng
open Go
structure YI (n1 : Nat) where
  J : (Nat → Prop) → IH → World → Prop
  st : ∀ {F : Nat → Prop} {I I' : IH} {w w' : World},Stab n1 (· < n1) F I I' w w' → J F I w → J F I' w'
  ft : ∀ {F : Nat → Prop} {I : IH} {w : World},J F I w → ∀ b,F b → b < w.heap.size ∧ I b = none
def YI.xp {n1 : Nat} (Y : YI n1) (F : Nat → Prop) : XP := ⟨n1,(· < n1),F,Y.J F,Y.st⟩
def lblk (v e : Value) (b : Nat) : Prop := v.ownBlock = some b ∨ ∃ (vs : Array Value) (o : Nat),e = .agg vs ∧ .pointer (some ⟨b,o,none⟩) ∈ vs.toList
theorem lblk_undef {v : Value} {b : Nat} (h : lblk v undef b) : v.ownBlock = some b := by
  rcases h with h | ⟨_,_,h,_⟩
  · exact h
  · cases h
open Classical in
noncomputable def rd (w : World) (v e : Value) : IH := fun b => if lblk v e b then w.heap[b]? else none
theorem rd_all {w : World} {v e : Value} : (rd w v e).le (World.all w) := fun b o h => by
  unfold rd at h; split at h; exact h; cases h
structure Item where
  svs : List SV
  X : List (Nat × Pred)
  Lt : List (Nat × Pred)
def den0 (us : Nat → Value) : SV → Value := SV.den ⟨fun _ => 0,us,fun _ => true⟩
structure Item.ok (it : Item) (F : Nat → Prop) (I : IH) (w : World) (us : Nat → Value) (vs : List Value) : Prop where
  vs : vs = it.svs.map (den0 us)
  X : ∀ j R,look j it.X = some R → R.h I (us j)
  Lt : ∀ j R,look j it.Lt = some R → R.h (rd w (us j) (us (1000 + j))) (us j) ∧ ∀ b,lblk (us j) (us (1000 + j)) b → b < w.heap.size ∧ ¬ F b
abbrev yv (l : Nat) : Value := .func (.yield l) #[] #[]
def RoundR (P : Program) (l : Nat) (vs : List Value) (n1 : Nat) (F : Nat → Prop) (I : IH) (w : World) (Y K : YI n1) : Prop :=
  YieldAt (fen none) 0 P l vs.toArray w fun e w' => ∃ b F' I',e = .returned (.bool b) ∧ Keep F w w' ∧ I.le I' ∧ I'.on w' ∧ (∀ c o,I' c = some o → I c = some o ∨ w.heap.size ≤ c) ∧ (∀ c,F c → F' c) ∧ (∀ c,F' c → F c ∨ w.heap.size ≤ c) ∧ (bif b then Y else K).J F' I' w'
def ItR (I : IH) (w : World) (F0 : Nat → Prop) (ok : (Nat → Prop) → IH → World → Prop) : Ending → World → Prop := fun e w' =>
  ∃ v F' I',e = .returned v ∧ Keep F0 w w' ∧ I.le I' ∧ I'.on w' ∧ (∀ b o,I' b = some o → I b = some o ∨ w.heap.size ≤ b) ∧ ok F' I' w'
def ItC (P : Program) (f : FuncId) (mk : Value → Array Value) (I : IH) (w : World) (items : List Item) : Prop :=
  ∀ (l : Nat) (Y : Nat → YI w.heap.size) (K : YI w.heap.size) (F0 : Nat → Prop),(Y 0).J F0 I w →
    (∀ i it,items[i]? = some it → ∀ F I' w' us vs,(Y i).J F I' w' → I.le I' → I'.on w' → w.heap.size ≤ w'.heap.size → (∀ b,F0 b → F b) → it.ok F I' w' us vs → RoundR P l vs w.heap.size F I' w' (Y (i + 1)) K) →
    CallsIn Fence.wide 0 P f (mk (yv l)) w (ItR I w F0 fun F' I' w' => (Y items.length).J F' I' w' ∨ K.J F' I' w')
def PostI (P : Program) (fn : Func) (R : Ending → World → Prop) : Exit → Act → World → Prop := bodyPostM (fen none) 0 P fn R
theorem It.intro {P : Program} {f : FuncId} {fn : Func} {c : Code} {args : Array Value} {I : IH} {w : World} {R : Ending → World → Prop} (hf : P.funcs[f]? = some fn) (hb : fn.body = some c) (hI : I.on w) {Y : YI w.heap.size} {F0 : Nat → Prop} (hY : Y.J F0 I w)
    (ν : Nat → Value) (svs : List SV) (X0 : List (Nat × Pred)) (n ky : Nat) (fr : List (Nat × SV)) (hfr : fr = frOf 0 svs) (hargs : args = (svs.map (SV.den ⟨fun _ => 0,ν,fun _ => true⟩)).toArray) (hX : FactsOK ν I X0)
    (hwf : ∀ x ∈ svs,x.res (keys X0)) (hn : ∀ k ∈ keys X0,k < n) (hky : ky < n) (hN : Nat.ble svs.length fn.ntmps = true)
    (h : WP ⟨P,none,w,fn.ntmps,F0,I,0,fun _ => 0,fun _ => undef⟩ ⟨n,fr,X0,[(ky,.ext (Y.xp F0))],[],[]⟩ c (PostI P fn R)) : CallsIn Fence.wide 0 P f args w R := by
  refine callsIn_of_wp_marks hf hb trivial ?_
  refine h ⟨fun _ => 0,ν,fun _ => true⟩ I _ w ?_
  have hN' : svs.length ≤ fn.ntmps := by simpa using hN
  subst hargs
  subst hfr
  refine ⟨?_,?_,?_,fun _ h => (by cases h),fun _ _ h => (by cases h),fun _ _ h => (by cases h),?_,rfl,?_,hX.get,?_,?_,?_,hI,Keep.refl w,IH.le.rfl',fun _ _ h => .inl h,fun _ h => absurd h (Nat.not_lt_zero _),?_⟩
  · intro i x hx
    have := (look_frOf svs 0 i x hx).2
    exact SV.on_res (fun j hj => hn j hj) (hwf x (List.mem_of_getElem? this))
  · intro j R hj; exact hn j (look_keys hj)
  · intro k e he
    obtain ⟨rfl,rfl⟩ := look_one he
    exact ⟨hky,trivial⟩
  · simp; omega
  · intro i x hx
    have := (look_frOf svs 0 i x hx).2
    simp only [Nat.sub_zero] at this
    have hi : i < svs.length := (List.getElem?_eq_some_iff.1 this).1
    rw [Array.getElem?_append_left (by simpa using hi)]
    simp [this]
  · intro k e he
    obtain ⟨rfl,rfl⟩ := look_one he
    exact hY
  · intro k e he b hb
    obtain ⟨rfl,rfl⟩ := look_one he
    obtain ⟨h1,h2⟩ := Y.ft hY b hb
    exact ⟨.inr hb,h1,h2⟩
  · intro k k' e e' b he he' hne
    obtain ⟨rfl,_⟩ := look_one he
    obtain ⟨rfl,_⟩ := look_one he'
    exact absurd rfl hne
  · intro k x hx
    obtain ⟨_,h⟩ := look_one hx
    cases h
    exact ⟨Nat.le_refl _,fun b hb => ⟨hb,fun h => h⟩⟩
theorem EX.finI {cx : Cx} {S : St} {fn : Func} {n1 ky : Nat} {Y : YI n1} {F : Nat → Prop} {e : Exit} {ok : (Nat → Prop) → IH → World → Prop} (he : e = .ret ∨ e = .normal) (hr : fn.results = #[]) (hD : S.D = []) (hk : look ky S.L = some (.ext (Y.xp F)))
    (hok : ∀ I w,Y.J F I w → ok F I w) : EX cx S e (PostI cx.P fn (ItR cx.I0 cx.w0 cx.E ok)) := by
  intro ε I a w hs
  have hd : a.defers = [] := by rw [hs.defs,hD]; rfl
  have key : LeavesInM (fen none) 0 cx.P fn a.tmps (ItR cx.I0 cx.w0 cx.E ok) a.defers .returning w := by
    rw [hd]
    exact ⟨_,results_run hs .nil (by simpa using hr),_,F,I,rfl,hs.keep,hs.le0,hs.imm,hs.fr0,hok I w (hs.L ky _ hk)⟩
  rcases he with rfl | rfl <;> exact key
section steps
variable {cx : Cx} {Q : Exit → Act → World → Prop} {ops : Array Oper} {rest : List Oper}
variable {n : Nat} {fr : List (Nat × SV)} {X : List (Nat × Pred)} {L : List (Nat × Ent)} {D : List Nat} {G : List (Nat × Bool)} {d : Tmp} {ty : TypeId} {pos : String} {af : Array Edge} {gd : Option (Nat × Bool)}
theorem wanted_on {o : Oper} {j dj : Nat} {want b : Bool} {a : Act} (hg : o.guard = some (j,want)) (hj : (ops[j]?).bind (·.dst) = some dj) (hd : a.tmps[dj]? = some (.bool b)) : Region.wanted o (yielded ops a.tmps) = (b == want) := by
  simp only [Region.wanted,hg,yielded,hj,Option.bind_some,hd]
  cases b <;> cases want <;> rfl
def GOK (ops : Array Oper) (fr : List (Nat × SV)) : Option (Nat × Bool) → Bool → Prop
  | none,r => r = true
  | some (j,want),r => ∃ dj b,(ops[j]?).bind (·.dst) = some dj ∧ look dj fr = some (.b b) ∧ (b == want) = r
theorem GOK.wanted {S : St} {ε : Env} {I : IH} {a : Act} {w : World} {o : Oper} {M : Nat → Prop} {r : Bool} (hs : SatM cx M ε I S a w) (h : GOK ops S.fr o.guard r) : Region.wanted o (yielded ops a.tmps) = r := by
  cases hg : o.guard with
  | none => rw [hg] at h; simp only [GOK] at h; simp [Region.wanted,hg,h]
  | some p =>
    obtain ⟨j,want⟩ := p
    rw [hg] at h
    obtain ⟨dj,b,h1,h2,h3⟩ := h
    rw [wanted_on hg h1 (hs.fr dj _ h2),h3]
theorem ROp.on {S : St} {o : Oper} {u : U} (hg : GOK ops S.fr o.guard true) (h : OpG cx S o u) : ROp cx ops S o u := by
  intro M ε I a w next Q hs hN K
  unfold opw
  rw [if_pos (hg.wanted hs)]
  exact h M ε I a w next Q hs hN K
theorem ROp.off {S : St} {o : Oper} (hg : GOK ops S.fr o.guard false) : ROp cx ops S o (.val (.e (.a (.v undef)))) := by
  intro M ε I a w next Q hs hN K
  unfold opw
  rw [if_neg (by rw [hg.wanted hs]; simp)]
  exact ⟨fun _ _ => trivial,K ε I w (Tr.refl hs.imm) (New.val trivial)⟩
theorem WPl.off {op : Op} (hd : Nat.blt d cx.N = true) (hg : GOK ops fr gd false) (K : WPl cx ops ⟨n,(d,.e (.a (.v undef))) :: fr,X,L,D,G⟩ rest Q) : WPl cx ops ⟨n,fr,X,L,D,G⟩ (⟨some d,op,ty,pos,af,gd⟩ :: rest) Q :=
  WPl.upd0 n (ROp.off hg) (fun i hi => by cases hi; rw [Nat.blt_eq] at hd; exact hd) (fun _ h => by cases h) (Nat.le_refl _) K
theorem WPl.on {op : Op} {sv : SV} (hd : Nat.blt d cx.N = true) (hg : GOK ops fr gd true) (h : OpG cx ⟨n,fr,X,L,D,G⟩ ⟨some d,op,ty,pos,af,gd⟩ (.val sv)) (K : WPl cx ops ⟨n,(d,sv) :: fr,X,L,D,G⟩ rest Q) : WPl cx ops ⟨n,fr,X,L,D,G⟩ (⟨some d,op,ty,pos,af,gd⟩ :: rest) Q :=
  WPl.upd0 n (ROp.on hg h) (fun i hi => by cases hi; rw [Nat.blt_eq] at hd; exact hd) (fun _ h => by cases h) (Nat.le_refl _) K
theorem WPl.yield {x : Operand} {l : Nat} {xs : List Operand} {ts : Array TypeId} {svs : List SV} {n1 : Nat} {Y Y' K' : YI n1} {F : Nat → Prop} (ky : Nat) (hr : cx.r = none) (hd : Nat.blt d cx.N = true) (hg : GOK ops fr gd true)
    (hx : St.op ⟨n,fr,X,L,D,G⟩ x = some (.e (.a (.v (yv l))))) (hl : St.ops ⟨n,fr,X,L,D,G⟩ xs = some svs) (hk : look ky L = some (.ext (Y.xp F)))
    (h : ∀ ε I a w,Sat cx ε I ⟨n,fr,X,L,D,G⟩ a w → RoundR cx.P l (svs.map (SV.den ε)) n1 F I w Y' K')
    (K : ∀ b F',(∀ c,F c → F' c) → WPl cx ops ⟨n,(d,.b b) :: fr,X,(ky,.ext ((bif b then Y' else K').xp F')) :: L,D,G⟩ rest Q) :
    WPl cx ops ⟨n,fr,X,L,D,G⟩ (⟨some d,.call { callee := .value x,args := xs.toArray,argTypes := ts },ty,pos,af,gd⟩ :: rest) Q := by
  intro ε I a w hs
  refine wpListIn_step fun K0 hK => ?_
  rw [if_pos (GOK.wanted hs hg)]
  have hx' := hs.eval hx
  have hl' := hs.evals hl
  obtain ⟨fn,tmps,assign,body,hy,hround⟩ := h ε I a w hs
  have hop : (execOp a.eval ⟨some d,.call { callee := .value x,args := xs.toArray,argTypes := ts },ty,pos,af,gd⟩).run cx.P w = .ok (.round l fn tmps assign body) w := by
    simp only [SV.den,El.den,At.den] at hx'
    simp [execOp,resolve,hx',hl',Deferred.ofValue,invoke,hy]
  refine ⟨fun _ _ => trivial,?_⟩
  rw [semAt_eq _ _ _ (fun _ => by simp),hop]
  rw [hr]
  refine ⟨fun h => (by cases h),RoundIn.mono hround ?_⟩
  rintro e w' ⟨b,F',I',rfl,hkp,hle,hon,hfr,hF1,hF2,hJ⟩
  obtain ⟨hx1,hx2⟩ := hs.ext ky _ hk
  have hft := fun b hb => hs.foot ky _ hk b hb
  have hfp : ∀ c,F c → fpOf ⟨n,fr,X,L,D,G⟩ ε ⟨.b b,[],[],[(ky,.ext ((bif b then Y' else K').xp F'))],[]⟩ c := fun c hc => ⟨ky,_,by simp [look],hk,hc⟩
  have hF := (bif b then Y' else K').ft hJ
  have := SatM.app (d := some d) (u := ⟨.b b,[],[],[(ky,.ext ((bif b then Y' else K').xp F'))],[]⟩) n hs (St.le.refl _) (fun k hk => by cases hk) (fun i hi => by cases hi; rw [Nat.blt_eq] at hd; exact hd)
    (ε' := ε) (I' := I') (w' := w') ⟨fun _ _ => ⟨rfl,rfl,rfl⟩,hle,hon,hkp.os,hkp.tape,hkp.output,hkp.size,fun c hc hn => hkp.block c hc (fun h => hn (hfp c h)),fun c o hc => by
      rcases hfr c o hc with h | h
      · exact .inl h
      · exact .inr (.inl h)⟩
    ⟨trivial,fun _ _ h => (by cases h),fun _ _ h => (by cases h),fun i e he => by obtain ⟨rfl,rfl⟩ := look_one he; exact ⟨.inl (hs.wfL i _ hk).1,trivial⟩,fun _ _ h => (by cases h),
      fun i e he => by obtain ⟨rfl,rfl⟩ := look_one he; exact hJ,
      fun i e he c hc => by
        obtain ⟨rfl,rfl⟩ := look_one he
        have hc : F' c := hc
        refine ⟨?_,(hF c hc).1,(hF c hc).2,?_⟩
        · rcases hF2 c hc with h | h
          · exact (hft c h).1
          · exact .inl (Nat.le_trans hs.keep.size h)
        · rcases hF2 c hc with h | h
          · exact .inr (hfp c h)
          · exact .inl h,
      fun i i' e e' c he he' hne => by
        obtain ⟨rfl,_⟩ := look_one he
        obtain ⟨rfl,_⟩ := look_one he'
        exact absurd rfl hne,
      fun i x hx => by
        obtain ⟨_,h⟩ := look_one hx
        cases h
        exact ⟨hx1,fun c hc => ⟨(hx2 c hc).1,fun hE => hF1 c ((hx2 c hc).2 hE)⟩⟩⟩
  refine hK _ _ (K b F' hF1 ε I' _ w' (SatM.mono (fun k hk => ?_) this))
  rcases hk with hk | hk
  · exact hk
  · cases hk
end steps
end Go.Eng
namespace Go.Eng
open Go
theorem SatM.move {cx : Cx} {M : Nat → Prop} {ε : Env} {I I' : IH} {S : St} {a : Act} {w w' : World} (hs : SatM cx M ε I S a w) (hle : I.le I') (hon : I'.on w') (hos : w'.os = w.os) (htape : w'.tape = w.tape) (hout : Out w' w) (hsz : w.heap.size ≤ w'.heap.size)
    (hb : ∀ b,b < w.heap.size → (b < cx.w0.heap.size ∨ ∃ k e,look k S.L = some e ∧ e.foot ε k b) → w'.heap[b]? = w.heap[b]?)
    (hfr : ∀ b o,I' b = some o → I b = some o ∨ (cx.w0.heap.size ≤ b ∧ ∀ k e,look k S.L = some e → ¬ e.foot ε k b)) : SatM cx M ε I' S a w' :=
  { hs with
    X := fun j R hj => R.mono hle (hs.X j R hj)
    L := fun k e he => Ent.ok_kept (M := M) Env.agree.refl hle (hs.wfL k e he).1 (hs.wfL k e he).2 (hs.L k e he) (fun b hfb => hb b (hs.foot k e he b hfb).2.1 (.inr ⟨k,e,he,hfb⟩)) (fun x hx => by
      subst hx
      obtain ⟨h1,h2⟩ := hs.ext k x he
      refine ⟨hle,hon,hos,htape,hout,hsz,fun b hlt h => hb b hlt ?_,fun b o ho => ?_⟩
      · rcases h with h | h
        · exact .inl (h2 b h).1
        · exact .inr ⟨k,_,he,h⟩
      · rcases hfr b o ho with h | h
        · exact .inl h
        · exact .inr ⟨Nat.le_trans h1 h.1,h.2 k _ he⟩)
    foot := fun k e he b hfb => by
      obtain ⟨h1,h2,h3⟩ := hs.foot k e he b hfb
      refine ⟨h1,Nat.lt_of_lt_of_le h2 hsz,?_⟩
      cases hI : I' b with
      | none => rfl
      | some o =>
        rcases hfr b o hI with h | h
        · rw [h3] at h; cases h
        · exact absurd hfb (h.2 k e he)
    imm := hon
    keep := ⟨hos.trans hs.keep.os,htape.trans hs.keep.tape,hout.trans hs.keep.output,Nat.le_trans hs.keep.size hsz,fun b hlt hE => (hb b (Nat.lt_of_lt_of_le hlt hs.keep.size) (.inl hlt)).trans (hs.keep.block b hlt hE)⟩
    le0 := hs.le0.trans hle
    fr0 := fun b o ho => by
      rcases hfr b o ho with h | h
      · exact hs.fr0 b o h
      · exact .inr h.1 }
theorem rd_same {w w' : World} {u e : Value} (h : ∀ b,b < w.heap.size → lblk u e b → w'.heap[b]? = w.heap[b]?) : (rd w u e).le (rd w' u e) := fun b o hb => by
  unfold rd at hb ⊢
  split at hb
  · rename_i he
    rw [if_pos he,h b (Array.getElem?_eq_some_iff.1 hb).1 he]; exact hb
  · cases hb
def lentXP (u e : Value) (R : Pred) : XP := ⟨0,lblk u e,fun _ => False,fun _ w => R.h (rd w u e) u,fun h hJ => R.mono (rd_same fun b hb he => h.block b hb (.inl he)) hJ⟩
theorem SatM.lent {cx : Cx} {M : Nat → Prop} {ε : Env} {I : IH} {S : St} {a : Act} {w : World} (hs : SatM cx M ε I S a w) {j : Nat} {u e : Value} {R : Pred} (hX : Has S.X j (Pred.is u)) (hL : look j S.L = some (.ext (lentXP u e R))) : R.h (World.all w) (ε.ν j) := by
  rw [show ε.ν j = u from hs.has hX]
  exact R.mono rd_all (hs.L j _ hL)
def sh {α : Type} (m : Nat) (X : List (Nat × α)) : List (Nat × α) := X.map fun p => (m + p.1,p.2)
theorem look_sh {α : Type} {m i : Nat} {x : α} : ∀ {X : List (Nat × α)},look i (sh m X) = some x → ∃ j,i = m + j ∧ look j X = some x
  | (k,y) :: t,h => by
    rw [sh,List.map_cons,look_cons] at h
    by_cases hk : m + k = i
    · subst hk
      simp at h; subst h
      exact ⟨k,rfl,by simp [look_cons]⟩
    · simp only [hk,if_false] at h
      obtain ⟨j,rfl,hj⟩ := look_sh (X := t) h
      exact ⟨j,rfl,by rw [look_cons,if_neg (by omega)]; exact hj⟩
def roundSt (m q kl : Nat) (ps : List Nat) (it : Item) (T : St) (rec : Loop) (us : Nat → Value) : St :=
  ⟨m + q,ps.zip (it.svs.map (SV.ren (m + ·))) ++ T.fr,sh m it.X ++ ((sh m (it.Lt.map fun p => (p.1,Pred.is (us p.1)))) ++ T.X),sh m (it.Lt.map fun p => (p.1,Ent.ext (lentXP (us p.1) (us (1000 + p.1)) p.2))) ++ ((kl,.ob (.loop rec)) :: T.L),[],[]⟩
def St.bare (T : St) (kl : Nat) (rec : Loop) : St := ⟨T.n,[],T.X,(kl,.ob (.loop rec)) :: T.L,[],[]⟩
def RndQ (cx : Cx) (kl : Nat) (rec : Loop) (T : St) (Kx : Code → St → Prop) : Exit → Act → World → Prop
  | .normal,a,w => ∃ ε I,Sat cx ε I (T.bare kl rec) a w
  | .exit id,a,w => ∃ T',Kx (.exit id) T' ∧ ∃ ε I,Sat cx ε I (T'.bare kl rec) a w
  | .ret,a,w => ∃ T',Kx .ret T' ∧ ∃ ε I,Sat cx ε I (T'.bare kl rec) a w
  | _,_,_ => False
def AsgQ (cx : Cx) (kl : Nat) (rec : Loop) (body : Code) (Q : Exit → Act → World → Prop) : Exit → Act → World → Prop
  | .normal,a,w => ∃ S : St,look kl S.L = some (.ob (.loop { rec with state := .ready })) ∧ WP cx { S with L := (kl,.ob (.loop { rec with state := .busy })) :: S.L } body Q ∧ ∃ ε I,Sat cx ε I S a w
  | _,_,_ => False
section
variable {cx : Cx} {S T : St} {kl : Nat} {rec : Loop} {Kx : Code → St → Prop}
theorem EX.beg {body : Code} {Q : Exit → Act → World → Prop} (hk : look kl S.L = some (.ob (.loop { rec with state := .ready }))) (h : WP cx { S with L := (kl,.ob (.loop { rec with state := .busy })) :: S.L } body Q) : EX cx S .normal (AsgQ cx kl rec body Q) :=
  fun ε I _ _ hs => ⟨S,hk,h,ε,I,hs⟩
theorem EX.next (ρ : Nat → Nat) (h : LeR cx.nB S (T.bare kl rec) ρ) : EX cx S .normal (RndQ cx kl rec T Kx) := fun _ _ _ _ hs => ⟨_,_,Sat.leR h hs⟩
theorem EX.jexit {id : Nat} {T' : St} (ρ : Nat → Nat) (hK : Kx (.exit id) T') (h : LeR cx.nB S (T'.bare kl rec) ρ) : EX cx S (.exit id) (RndQ cx kl rec T Kx) := fun _ _ _ _ hs => ⟨T',hK,_,_,Sat.leR h hs⟩
theorem EX.jret {T' : St} (ρ : Nat → Nat) (hK : Kx .ret T') (h : LeR cx.nB S (T'.bare kl rec) ρ) : EX cx S .ret (RndQ cx kl rec T Kx) := fun _ _ _ _ hs => ⟨T',hK,_,_,Sat.leR h hs⟩
end
structure OutJ (cx : Cx) (a : Act) (l nB : Nat) (ε0 : Env) (rec : Loop) (T : St) (F : Nat → Prop) (I : IH) (w : World) (ε : Env) : Prop where
  ag : ∀ k,k < nB → ε.β k = ε0.β k ∧ ε.ν k = ε0.ν k
  sat : Sat cx ε I T a w
  lrec : w.heap[l]? = some (.loop rec)
  foot : ∀ k e b,look k T.L = some e → e.foot ε k b → F b ∧ b ≠ l
  Fl : F l
  F : ∀ b,F b → b < w.heap.size ∧ I b = none ∧ (cx.w0.heap.size ≤ b ∨ cx.E b)
  l0 : cx.w0.heap.size ≤ l
theorem OutJ.st {cx : Cx} {a : Act} {l nB n1 : Nat} {ε0 ε : Env} {rec : Loop} {T : St} {F : Nat → Prop} {I I' : IH} {w w' : World} (hn : cx.w0.heap.size ≤ n1) (h : Stab n1 (· < n1) F I I' w w') (hJ : OutJ cx a l nB ε0 rec T F I w ε) : OutJ cx a l nB ε0 rec T F I' w' ε where
  ag := hJ.ag
  sat := SatM.move hJ.sat h.le h.on h.os h.tape h.output h.size (fun b hb hk => h.block b hb (by
      rcases hk with hk | ⟨k,e,he,hf⟩
      · exact .inl (by show b < n1; omega)
      · exact .inr (hJ.foot k e b he hf).1)) (fun b o ho => by
      rcases h.fresh b o ho with h1 | h1
      · exact .inl h1
      · exact .inr ⟨Nat.le_trans hn h1.1,fun k e he hf => h1.2 (hJ.foot k e b he hf).1⟩)
  lrec := by rw [h.block l (Array.getElem?_eq_some_iff.1 hJ.lrec).1 (.inr hJ.Fl)]; exact hJ.lrec
  foot := hJ.foot
  Fl := hJ.Fl
  F := fun b hb => by
    obtain ⟨h1,h2,h3⟩ := hJ.F b hb
    refine ⟨Nat.lt_of_lt_of_le h1 h.size,?_,h3⟩
    cases hI : I' b with
    | none => rfl
    | some o =>
      rcases h.fresh b o hI with h4 | h4
      · rw [h2] at h4; cases h4
      · exact absurd hb h4.2
  l0 := hJ.l0
def OutY (cx : Cx) (a : Act) (l nB : Nat) (ε0 : Env) {n1 : Nat} (hn : cx.w0.heap.size ≤ n1) (Kx : Loop → St → Prop) : YI n1 where
  J F I w := ∃ rec T ε,Kx rec T ∧ OutJ cx a l nB ε0 rec T F I w ε
  st := fun h ⟨rec,T,ε,hK,hJ⟩ => ⟨rec,T,ε,hK,hJ.st hn h⟩
  ft := fun ⟨_,_,_,_,hJ⟩ b hb => ⟨(hJ.F b hb).1,(hJ.F b hb).2.1⟩
theorem tmps_fold : ∀ (ps : List Nat) (vs : List Value) (tmps : Array Value),ps.Nodup → (∀ t ∈ ps,t < tmps.size) → ps.length = vs.length →
    ((ps.zip vs).foldl (fun tmps (p : Nat × Value) => tmps.setIfInBounds p.1 p.2) tmps).size = tmps.size ∧
    (∀ i,i ∉ ps → ((ps.zip vs).foldl (fun tmps (p : Nat × Value) => tmps.setIfInBounds p.1 p.2) tmps)[i]? = tmps[i]?) ∧
    ∀ (j t : Nat) (v : Value),ps[j]? = some t → vs[j]? = some v → ((ps.zip vs).foldl (fun tmps (p : Nat × Value) => tmps.setIfInBounds p.1 p.2) tmps)[t]? = some v
  | [],vs,tmps,_,_,_ => ⟨by simp,fun i _ => by simp,fun j t v h => by simp at h⟩
  | p :: ps,[],tmps,_,_,h => by simp at h
  | p :: ps,v :: vs,tmps,hnd,hlt,hl => by
    obtain ⟨h1,h2⟩ := List.nodup_cons.1 hnd
    obtain ⟨h3,h4,h5⟩ := tmps_fold ps vs (tmps.setIfInBounds p v) h2 (fun t ht => by simpa using hlt t (List.mem_cons_of_mem _ ht)) (by simpa using hl)
    refine ⟨by simpa using h3,fun i hi => ?_,fun j t u hj hu => ?_⟩
    · simp only [List.zip_cons_cons,List.foldl_cons]
      rw [h4 i (fun h => hi (List.mem_cons_of_mem _ h))]
      exact Array.getElem?_setIfInBounds_ne (fun e => hi (by rw [e]; exact List.mem_cons_self))
    · simp only [List.zip_cons_cons,List.foldl_cons]
      cases j with
      | zero =>
        simp at hj hu; subst hj; subst hu
        rw [h4 p h1]
        have := hlt p List.mem_cons_self
        simp [this]
      | succ j => exact h5 j t u (by simpa using hj) (by simpa using hu)
theorem look_zip : ∀ {ps : List Nat} {svs : List SV} {i : Nat} {x : SV},look i (ps.zip svs) = some x → ∃ j : Nat,ps[j]? = some i ∧ svs[j]? = some x
  | [],svs,i,x,h => by cases h
  | p :: ps,[],i,x,h => by cases h
  | p :: ps,y :: svs,i,x,h => by
    rw [List.zip_cons_cons,look_cons] at h
    by_cases hp : p = i
    · subst hp; simp at h; subst h; exact ⟨0,rfl,rfl⟩
    · simp only [hp,if_false] at h
      obtain ⟨j,h1,h2⟩ := look_zip h
      exact ⟨j + 1,by simpa using h1,by simpa using h2⟩
theorem look_zip_none : ∀ {ps : List Nat} {svs : List SV} {i : Nat},ps.length = svs.length → look i (ps.zip svs) = none → i ∉ ps
  | [],svs,i,_,_ => by simp
  | p :: ps,[],i,h,_ => by simp at h
  | p :: ps,y :: svs,i,hl,h => by
    rw [List.zip_cons_cons,look_cons] at h
    by_cases hp : p = i
    · simp [hp] at h
    · simp only [hp,if_false] at h
      intro hm
      rcases List.mem_cons.1 hm with rfl | hm
      · exact hp rfl
      · exact look_zip_none (by simpa using hl) h hm
def SV.kbp (n : Nat) : SV → Bool
  | .c _ _ => false
  | x => x.kb n
theorem At.den_kb {n : Nat} {ε ε' : Env} (h : ∀ k,k < n → ε'.β k = ε.β k ∧ ε'.ν k = ε.ν k) : ∀ {x : At},x.kb n = true → x.den ε' = x.den ε
  | .v _,_ => rfl
  | .q j,hx => (h j (At.on_kb hx)).2
  | .p k _,hx => by simp only [At.den,(h k (At.on_kb hx)).1]
  | .e j _,hx => by simp only [At.den,(h j (At.on_kb hx)).2]
  | .s k _,hx => by simp only [At.den,(h k (At.on_kb hx)).1]
  | .f _ js,hx => by
    simp only [At.den]
    rw [List.map_congr_left (fun j hj => (h j (At.on_kb hx j hj)).2)]
theorem El.den_kb {n : Nat} {ε ε' : Env} (h : ∀ k,k < n → ε'.β k = ε.β k ∧ ε'.ν k = ε.ν k) : ∀ {x : El},x.kb n = true → x.den ε' = x.den ε
  | .a _,hx => At.den_kb h hx
  | .g l,hx => by simp only [El.den]; rw [List.map_congr_left (fun c hc => At.den_kb h (List.all_eq_true.1 hx c hc))]
theorem SV.den_kb {n : Nat} {ε ε' : Env} (h : ∀ k,k < n → ε'.β k = ε.β k ∧ ε'.ν k = ε.ν k) : ∀ {x : SV},x.kbp n = true → x.den ε' = x.den ε
  | .e _,hx => El.den_kb h hx
  | .t l,hx => by simp only [SV.den]; rw [List.map_congr_left (fun c hc => El.den_kb h (List.all_eq_true.1 hx c hc))]
  | .c _ _,hx => by cases hx
theorem SV.on_kbp {n : Nat} {γ : Nat → Bool} : ∀ {x : SV},x.kbp n = true → x.on γ (· < n)
  | .e _,h => SV.on_kb (x := .e _) h
  | .t _,h => SV.on_kb (x := .t _) h
  | .c _ _,h => by cases h
def At.kr (q : Nat) : At → Bool
  | .v _ => true
  | .q j => Nat.blt j q
  | _ => false
def El.kr (q : Nat) : El → Bool
  | .a x => x.kr q
  | .g l => l.all (At.kr q)
def SV.kr (q : Nat) : SV → Bool
  | .e x => x.kr q
  | _ => false
theorem At.kr_ren {m q : Nat} : ∀ {x : At},x.kr q = true → (x.ren (m + ·)).on (· < m + q)
  | .v _,_ => trivial
  | .q j,h => by
    simp only [At.kr,Nat.blt_eq] at h
    show m + j < m + q
    omega
theorem SV.kr_ren {m q : Nat} {γ : Nat → Bool} : ∀ {x : SV},x.kr q = true → (x.ren (m + ·)).on γ (· < m + q)
  | .e (.a _),h => At.kr_ren h
  | .e (.g l),h => fun c hc => by
    obtain ⟨y,hy,rfl⟩ := List.mem_map.1 hc
    exact At.kr_ren (List.all_eq_true.1 h y hy)
theorem At.kr_den {m q : Nat} {ε : Env} {us : Nat → Value} (h : ∀ j,j < q → ε.ν (m + j) = us j) : ∀ {x : At},x.kr q = true → (x.ren (m + ·)).den ε = x.den ⟨fun _ => 0,us,fun _ => true⟩
  | .v _,_ => rfl
  | .q j,hx => h j (by simpa [At.kr,Nat.blt_eq] using hx)
theorem SV.kr_den {m q : Nat} {ε : Env} {us : Nat → Value} (h : ∀ j,j < q → ε.ν (m + j) = us j) : ∀ {x : SV},x.kr q = true → (x.ren (m + ·)).den ε = den0 us x
  | .e (.a _),hx => At.kr_den h hx
  | .e (.g l),hx => by
    simp only [SV.ren,El.ren,SV.den,El.den,den0,List.map_map]
    rw [List.map_congr_left (fun c hc => by show (c.ren (m + ·)).den ε = _; exact At.kr_den h (List.all_eq_true.1 hx c hc))]
structure RSt (fr0 : List (Nat × SV)) (D0 : List Nat) (m kl : Nat) (T : St) : Prop where
  fr : T.fr = fr0
  D : T.D = D0
  n : T.n = m
  G : T.G = []
  kl : look kl T.L = none
  ext : ∀ k x,look k T.L = some (.ext x) → x.n1 = 0 ∧ ∀ b,¬ x.Rd b
structure ItemOK (q : Nat) (ps : List Nat) (it : Item) : Prop where
  len : ps.length = it.svs.length
  kr : it.svs.all (SV.kr q) = true
  X : (keys it.X).all (Nat.blt · q) = true
  Lt : (keys it.Lt).all (Nat.blt · q) = true
theorem OutJ.back {cx : Cx} {a a2 : Act} {l nB m kl : Nat} {ε0 ε ε2 : Env} {rec rec2 rec3 : Loop} {T T' : St} {F : Nat → Prop} {I I2 : IH} {w w3 w4 : World} {fr0 : List (Nat × SV)} {D0 : List Nat} {pν : Nat → Value}
    (hJ : OutJ cx a l nB ε0 rec T F I w ε) (hT : RSt fr0 D0 m kl T) (hT' : RSt fr0 D0 m kl T') (hfr0 : fr0.all (fun p => p.2.kbp nB) = true) (hD0 : D0.all (Nat.blt · nB) = true) (hnB : nB ≤ m) (hkl : ε0.β kl = l) (hklB : kl < nB) (hcx : cx.nB ≤ nB) (hpν : pν = ε0.ν)
    (hs : Sat ⟨cx.P,some l,w,cx.N,F,I,nB,ε0.β,pν⟩ ε2 I2 (T'.bare kl rec2) a2 w3) (hw4 : w4 = { w3 with heap := w3.heap.setIfInBounds l (.loop rec3) }) :
    Keep F w w4 ∧ I.le I2 ∧ I2.on w4 ∧ (∀ b o,I2 b = some o → I b = some o ∨ w.heap.size ≤ b) ∧ ∃ F',(∀ b,F b → F' b) ∧ (∀ b,F' b → F b ∨ w.heap.size ≤ b) ∧ OutJ cx a l nB ε0 rec3 T' F' I2 w4 ε2 := by
  subst hw4
  subst hpν
  have hpin := fun k hk => hs.pin k hk
  have hag : ∀ k,k < nB → ε2.β k = ε0.β k ∧ ε2.ν k = ε0.ν k := fun k hk => (hpin k hk).2
  have hlook : ∀ k e,look k T'.L = some e → look k (T'.bare kl rec2).L = some e := fun k e he => by
    have hne : kl ≠ k := fun h => by rw [← h,hT'.kl] at he; cases he
    simp only [St.bare,look_cons,hne,if_false]; exact he
  have hlrec : w3.heap[l]? = some (.loop rec2) := by
    have := hs.L kl (.ob (.loop rec2)) (by simp [St.bare,look_cons])
    simp only [Ent.ok] at this
    rw [(hag kl hklB).1,hkl] at this; exact this
  have hlt := (Array.getElem?_eq_some_iff.1 hlrec).1
  have hFl := hJ.F l hJ.Fl
  have hI2 : ∀ b,F b → I2 b = none := fun b hb => by
    cases h : I2 b with
    | none => rfl
    | some o =>
      obtain ⟨h1,h2,_⟩ := hJ.F b hb
      rcases hs.fr0 b o h with h3 | h3
      · have h3 : I b = some o := h3
        rw [h2] at h3; cases h3
      · have h3 : w.heap.size ≤ b := h3
        omega
  have hfoot : ∀ k e b,look k T'.L = some e → e.foot ε2 k b → (w.heap.size ≤ b ∨ F b) ∧ b < w3.heap.size ∧ I2 b = none ∧ b ≠ l := fun k e b he hb => by
    obtain ⟨h1,h2,h3⟩ := hs.foot k e (hlook k e he) b hb
    refine ⟨h1,h2,h3,fun h => ?_⟩
    subst h
    have hne : k ≠ kl := fun h => by rw [h,hT'.kl] at he; cases he
    exact hs.sep k kl e (.ob (.loop rec2)) b (hlook k e he) (by simp [St.bare,look_cons]) hne hb (by show b = ε2.β kl; rw [(hag kl hklB).1,hkl])
  have hkeep3 : Keep F w w3 := hs.keep
  have hwsz : cx.w0.heap.size ≤ w.heap.size := hJ.sat.keep.size
  have h3 : Sat cx ε2 I2 T' a w3 := by
    refine ⟨?_,?_,?_,?_,?_,?_,hJ.sat.size,?_,?_,?_,?_,?_,?_,hs.imm,?_,hJ.sat.le0.trans hs.le0,?_,?_,?_⟩
    · intro i x hx
      rw [hT'.fr] at hx
      refine SV.on_mono (fun k hk => ?_) (SV.on_kbp (List.all_eq_true.1 hfr0 _ (look_mem hx)))
      show k < T'.n
      rw [hT'.n]; omega
    · intro j R hj; exact hs.wfX j R hj
    · intro k e he; exact hs.wfL k e (hlook k e he)
    · intro k hk
      rw [hT'.D] at hk
      have := List.all_eq_true.1 hD0 k hk
      rw [Nat.blt_eq] at this
      show k < T'.n
      rw [hT'.n]; omega
    · intro g b hg; rw [hT'.G] at hg; cases hg
    · intro g b hg; rw [hT'.G] at hg; cases hg
    · rw [hJ.sat.defs,hT.D,hT'.D]
      refine List.map_congr_left fun k hk => ?_
      have := List.all_eq_true.1 hD0 k hk
      rw [Nat.blt_eq] at this
      simp only [markOf]
      rw [(hag k this).1,(hJ.ag k this).1]
    · intro i x hx
      rw [hT'.fr] at hx
      have h1 := hJ.sat.fr i x (by rw [hT.fr]; exact hx)
      rw [h1]
      have hkb := List.all_eq_true.1 hfr0 _ (look_mem hx)
      rw [SV.den_kb (fun k hk => ⟨(hag k hk).1.trans (hJ.ag k hk).1.symm,(hag k hk).2.trans (hJ.ag k hk).2.symm⟩) hkb]
    · intro j R hj; exact hs.X j R hj
    · intro k e he; exact hs.L k e (hlook k e he)
    · intro k e he b hb
      obtain ⟨h1,h2,h3,_⟩ := hfoot k e b he hb
      refine ⟨?_,h2,h3⟩
      rcases h1 with h1 | h1
      · exact .inl (Nat.le_trans hwsz h1)
      · exact (hJ.F b h1).2.2
    · intro k k' e e' b he he' hne hb; exact hs.sep k k' e e' b (hlook k e he) (hlook k' e' he') hne hb
    · refine ⟨hkeep3.os.trans hJ.sat.keep.os,hkeep3.tape.trans hJ.sat.keep.tape,hkeep3.output.trans hJ.sat.keep.output,Nat.le_trans hwsz hkeep3.size,fun b hb hE => ?_⟩
      rw [hkeep3.block b (by omega) (fun hF => by
        rcases (hJ.F b hF).2.2 with h | h
        · omega
        · exact hE h)]
      exact hJ.sat.keep.block b hb hE
    · intro b o hb
      rcases hs.fr0 b o hb with h | h
      · exact hJ.sat.fr0 b o h
      · exact .inr (Nat.le_trans hwsz h)
    · intro k hk
      have hk' : k < nB := by omega
      obtain ⟨_,h1,h2⟩ := hJ.sat.pin k hk
      refine ⟨by show k < T'.n; rw [hT'.n]; omega,?_,?_⟩
      · rw [(hag k hk').1,← (hJ.ag k hk').1]; exact h1
      · rw [(hag k hk').2,← (hJ.ag k hk').2]; exact h2
    · intro k x hx
      obtain ⟨h1,h2⟩ := hT'.ext k x hx
      exact ⟨by omega,fun b hb => absurd hb (h2 b)⟩
  have hb4 : ∀ b,b ≠ l → ({ w3 with heap := w3.heap.setIfInBounds l (.loop rec3) } : World).heap[b]? = w3.heap[b]? := fun b hb => by
    simp [Array.getElem?_setIfInBounds_ne (Ne.symm hb)]
  have hon4 : I2.on { w3 with heap := w3.heap.setIfInBounds l (.loop rec3) } := fun b o hb => by
    rw [hb4 b (fun e => by rw [e,hI2 l hJ.Fl] at hb; cases hb)]
    exact hs.imm b o hb
  have h4 : Sat cx ε2 I2 T' a { w3 with heap := w3.heap.setIfInBounds l (.loop rec3) } := SatM.move h3 IH.le.rfl' hon4 rfl rfl Out.rf (by simp) (fun b hb hk => by
      refine hb4 b ?_
      rcases hk with hk | ⟨k,e,he,hf⟩
      · have := hJ.l0; omega
      · exact (hfoot k e b he hf).2.2.2) (fun b o hb => .inl hb)
  refine ⟨⟨hkeep3.os,hkeep3.tape,hkeep3.output,by simpa using hkeep3.size,fun b hb hF => ?_⟩,hs.le0,hon4,hs.fr0,fun b => F b ∨ ∃ k e,look k T'.L = some e ∧ e.foot ε2 k b,fun b hb => .inl hb,fun b hb => ?_,
    ⟨hag,h4,by simp [hlt],fun k e b he hb => ⟨.inr ⟨k,e,he,hb⟩,(hfoot k e b he hb).2.2.2⟩,.inl hJ.Fl,fun b hb => ?_,hJ.l0⟩⟩
  · rw [hb4 b (fun e => hF (by rw [e]; exact hJ.Fl))]; exact hkeep3.block b hb hF
  · rcases hb with hb | ⟨k,e,he,hb⟩
    · exact .inl hb
    · exact ((hfoot k e b he hb).1).symm
  · rcases hb with hb | ⟨k,e,he,hb⟩
    · refine ⟨?_,hI2 b hb,(hJ.F b hb).2.2⟩
      have := (hJ.F b hb).1
      have h5 := hkeep3.size
      simp; omega
    · obtain ⟨h5,h6,h7,_⟩ := hfoot k e b he hb
      refine ⟨by simpa using h6,h7,?_⟩
      rcases h5 with h5 | h5
      · exact .inl (Nat.le_trans hwsz h5)
      · exact (hJ.F b h5).2.2
end Go.Eng
namespace Go.Eng
open Go
theorem roundSt_sat {cx : Cx} {a : Act} {l nB m q kl : Nat} {ε0 ε : Env} {rec : Loop} {T : St} {F : Nat → Prop} {I : IH} {w : World} {fr0 : List (Nat × SV)} {D0 : List Nat} {ps : List Nat} {it : Item} {us : Nat → Value} {vs : List Value} {tmps : Array Value}
    (hJ : OutJ cx a l nB ε0 rec T F I w ε) (hT : RSt fr0 D0 m kl T) (hnB : nB ≤ m) (hkl : ε0.β kl = l) (hklB : kl < nB) (hcx : cx.nB ≤ nB) (hit : ItemOK q ps it) (hnd : ps.Nodup) (hps : ∀ t ∈ ps,t < cx.N) (hok : it.ok F I w us vs)
    (htm : tmps = (ps.zip vs).foldl (fun tmps (p : Nat × Value) => tmps.setIfInBounds p.1 p.2) a.tmps) :
    Sat ⟨cx.P,some l,w,cx.N,F,I,nB,ε0.β,ε0.ν⟩ ⟨ε.β,fun k => if k < m then ε.ν k else us (k - m),ε.γ⟩ I (roundSt m q kl ps it T rec us) { tmps := tmps,defers := [] } w := by
  subst htm
  have hvl : vs.length = it.svs.length := by rw [hok.vs]; simp
  have hMT : T.n = m := hT.n
  obtain ⟨hz1,hz2,hz3⟩ := tmps_fold ps vs a.tmps hnd (fun t ht => by rw [hJ.sat.size]; exact hps t ht) (by rw [hvl]; exact hit.len)
  have hag : Env.agree (· < m) ε ⟨ε.β,fun k => if k < m then ε.ν k else us (k - m),ε.γ⟩ := fun k hk => ⟨rfl,by have hk : k < m := hk; simp [hk],rfl⟩
  have hus : ∀ j,j < q → (fun k => if k < m then ε.ν k else us (k - m)) (m + j) = us j := fun j _ => by
    have : ¬ m + j < m := by omega
    simp [this]
  have hM : ∀ k,k < m → k < m + q := fun k hk => by omega
  have hX : ∀ j R,look j (roundSt m q kl ps it T rec us).X = some R → (∃ i,j = m + i ∧ look i it.X = some R) ∨ (∃ i R',j = m + i ∧ look i it.Lt = some R' ∧ R = Pred.is (us i)) ∨ look j T.X = some R := by
    intro j R hj
    simp only [roundSt,look_append] at hj
    cases h1 : look j (sh m it.X) with
    | some R1 =>
      rw [h1] at hj; simp at hj; subst hj
      obtain ⟨i,rfl,h2⟩ := look_sh h1
      exact .inl ⟨i,rfl,h2⟩
    | none =>
      rw [h1] at hj
      cases h2 : look j (sh m (it.Lt.map fun p => (p.1,Pred.is (us p.1)))) with
      | some R1 =>
        rw [h2] at hj; simp at hj; subst hj
        obtain ⟨i,rfl,h3⟩ := look_sh h2
        obtain ⟨p,hp,he⟩ := List.mem_map.1 (look_mem h3)
        simp only [Prod.mk.injEq] at he
        obtain ⟨rfl,rfl⟩ := he
        have : ∃ R',look p.1 it.Lt = some R' := by
          have hmem : ∀ l : List (Nat × Pred),p ∈ l → ∃ R',look p.1 l = some R' := by
            intro l
            induction l with
            | nil => intro h; cases h
            | cons y t ih =>
              intro h
              obtain ⟨k,z⟩ := y
              rw [look_cons]
              by_cases hk : k = p.1
              · simp [hk]
              · simp only [hk,if_false]
                rcases List.mem_cons.1 h with h | h
                · exact absurd (by rw [h]) hk
                · exact ih h
          exact hmem _ hp
        obtain ⟨R',hR'⟩ := this
        exact .inr (.inl ⟨p.1,R',rfl,hR',rfl⟩)
      | none => rw [h2] at hj; simp at hj; exact .inr (.inr hj)
  have hL : ∀ k e,look k (roundSt m q kl ps it T rec us).L = some e → (∃ i R,k = m + i ∧ look i it.Lt = some R ∧ e = .ext (lentXP (us i) (us (1000 + i)) R)) ∨ (k = kl ∧ e = .ob (.loop rec)) ∨ (k ≠ kl ∧ look k T.L = some e) := by
    intro k e he
    simp only [roundSt,look_append] at he
    cases h1 : look k (sh m (it.Lt.map fun p => (p.1,Ent.ext (lentXP (us p.1) (us (1000 + p.1)) p.2)))) with
    | some R1 =>
      rw [h1] at he; simp at he; subst he
      obtain ⟨i,rfl,h3⟩ := look_sh h1
      have key : ∀ (l : List (Nat × Pred)) e,look i (l.map fun p => (p.1,Ent.ext (lentXP (us p.1) (us (1000 + p.1)) p.2))) = some e → ∃ R,look i l = some R ∧ e = .ext (lentXP (us i) (us (1000 + i)) R) := by
        intro l
        induction l with
        | nil => intro e h; cases h
        | cons y t ih =>
          intro e h
          obtain ⟨k,z⟩ := y
          rw [List.map_cons,look_cons] at h
          rw [look_cons]
          by_cases hk : k = i
          · subst hk; simp at h; exact ⟨z,by simp,h.symm⟩
          · simp only [hk,if_false] at h ⊢; exact ih e h
      obtain ⟨R,h4,h5⟩ := key _ _ h3
      exact .inl ⟨i,R,rfl,h4,h5⟩
    | none =>
      rw [h1] at he
      simp only [Option.none_or,look_cons] at he
      by_cases hk : kl = k
      · subst hk; simp at he; exact .inr (.inl ⟨rfl,he.symm⟩)
      · simp [hk] at he; exact .inr (.inr ⟨fun h => hk h.symm,he⟩)
  have hkm : ∀ i R,look i it.X = some R → i < q := fun i R h => by
    simpa [Nat.blt_eq] using List.all_eq_true.1 hit.X i (look_keys h)
  have hkm' : ∀ i R,look i it.Lt = some R → i < q := fun i R h => by
    simpa [Nat.blt_eq] using List.all_eq_true.1 hit.Lt i (look_keys h)
  have hTm : ∀ k,k < T.n → k < m := fun k hk => by omega
  have hklf := hJ.F l hJ.Fl
  refine ⟨?_,?_,?_,fun _ h => (by cases h),fun _ _ h => (by cases h),fun _ _ h => (by cases h),?_,rfl,?_,?_,?_,?_,?_,hJ.sat.imm,Keep.refl w,IH.le.rfl',fun _ _ h => .inl h,?_,?_⟩
  · intro i x hx
    simp only [roundSt,look_append] at hx
    cases h1 : look i (ps.zip (it.svs.map (SV.ren (m + ·)))) with
    | some y =>
      rw [h1] at hx; simp at hx; subst hx
      obtain ⟨j,h2,h3⟩ := look_zip h1
      rw [List.getElem?_map] at h3
      cases h4 : it.svs[j]? with
      | none => rw [h4] at h3; cases h3
      | some z =>
        rw [h4] at h3; simp at h3; subst h3
        exact SV.kr_ren (List.all_eq_true.1 hit.kr z (List.mem_of_getElem? h4))
    | none =>
      rw [h1] at hx; simp at hx
      refine SV.on_mono (fun k hk => ?_) (hJ.sat.wfr i x hx)
      have := hTm k hk
      show k < m + q
      omega
  · intro j R hj
    show j < m + q
    rcases hX j R hj with ⟨i,rfl,h⟩ | ⟨i,R',rfl,h,_⟩ | h
    · have := hkm i R h; omega
    · have := hkm' i R' h; omega
    · have := hTm j (hJ.sat.wfX j R h); omega
  · intro k e he
    rcases hL k e he with ⟨i,R,rfl,h,rfl⟩ | ⟨rfl,rfl⟩ | ⟨_,h⟩
    · exact ⟨by have := hkm' i R h; show m + i < m + q; omega,trivial⟩
    · exact ⟨by show k < m + q; omega,trivial⟩
    · refine ⟨by have := hTm k (hJ.sat.wfL k e h).1; show k < m + q; omega,?_⟩
      have := (hJ.sat.wfL k e h).2
      cases e <;> first | exact trivial | exact fun c hc => At.on_mono (fun k hk => by have := hTm k hk; show k < m + q; omega) (this c hc)
  · rw [hz1]; exact hJ.sat.size
  · intro i x hx
    simp only [roundSt,look_append] at hx
    cases h1 : look i (ps.zip (it.svs.map (SV.ren (m + ·)))) with
    | some y =>
      rw [h1] at hx; simp at hx; subst hx
      obtain ⟨j,h2,h3⟩ := look_zip h1
      rw [List.getElem?_map] at h3
      cases h4 : it.svs[j]? with
      | none => rw [h4] at h3; cases h3
      | some z =>
        rw [h4] at h3; simp at h3; subst h3
        rw [SV.kr_den hus (List.all_eq_true.1 hit.kr z (List.mem_of_getElem? h4))]
        refine hz3 j i _ h2 ?_
        rw [hok.vs,List.getElem?_map,h4]; rfl
    | none =>
      rw [h1] at hx; simp at hx
      have hni := look_zip_none (by simp [hit.len]) h1
      show (((ps.zip vs).foldl (fun tmps (p : Nat × Value) => tmps.setIfInBounds p.1 p.2) a.tmps))[i]? = _
      rw [hz2 i hni,hJ.sat.fr i x hx,SV.den_agree (M := (· < m)) hag (SV.on_mono (fun k hk => hTm k hk) (hJ.sat.wfr i x hx))]
  · intro j R hj
    rcases hX j R hj with ⟨i,rfl,h⟩ | ⟨i,R',rfl,h,rfl⟩ | h
    · rw [show (⟨ε.β,fun k => if k < m then ε.ν k else us (k - m),ε.γ⟩ : Env).ν (m + i) = us i from hus i (hkm i R h)]
      exact hok.X i R h
    · exact hus i (hkm' i R' h)
    · have := hTm j (hJ.sat.wfX j R h)
      rw [show (⟨ε.β,fun k => if k < m then ε.ν k else us (k - m),ε.γ⟩ : Env).ν j = ε.ν j by simp [this]]
      exact hJ.sat.X j R h
  · intro k e he
    rcases hL k e he with ⟨i,R,rfl,h,rfl⟩ | ⟨rfl,rfl⟩ | ⟨_,h⟩
    · exact (hok.Lt i R h).1
    · show w.heap[ε.β k]? = _
      rw [(hJ.ag k hklB).1,hkl]; exact hJ.lrec
    · exact Ent.ok_kept (M := (· < m)) hag IH.le.rfl' (hTm k (hJ.sat.wfL k e h).1) (by
        have := (hJ.sat.wfL k e h).2
        cases e <;> first | exact trivial | exact fun c hc => At.on_mono (fun k hk => hTm k hk) (this c hc)) (hJ.sat.L k e h) (fun _ _ => rfl) (fun x _ => ⟨IH.le.rfl',hJ.sat.imm,rfl,rfl,Out.rf,Nat.le_refl _,fun _ _ _ => rfl,fun _ _ h => .inl h⟩)
  · intro k e he b hb
    rcases hL k e he with ⟨i,R,rfl,h,rfl⟩ | ⟨rfl,rfl⟩ | ⟨_,h⟩
    · exact absurd hb (fun h => h)
    · have hb : b = l := by rw [← hkl,← (hJ.ag k hklB).1]; exact hb
      subst hb
      exact ⟨.inr hJ.Fl,hklf.1,hklf.2.1⟩
    · rw [Ent.foot_agree hag (hTm k (hJ.sat.wfL k e h).1)] at hb
      have hF := (hJ.foot k e b h hb).1
      obtain ⟨h1,h2,_⟩ := hJ.F b hF
      exact ⟨.inr hF,h1,h2⟩
  · have hkl' : ∀ k e b,look k T.L = some e → e.foot ⟨ε.β,fun k => if k < m then ε.ν k else us (k - m),ε.γ⟩ k b → b ≠ ε.β kl := fun k e b he hb => by
      rw [Ent.foot_agree hag (hTm k (hJ.sat.wfL k e he).1)] at hb
      rw [(hJ.ag kl hklB).1,hkl]
      exact (hJ.foot k e b he hb).2
    intro k k' e e' b he he' hne hb hb'
    rcases hL k e he with ⟨i,R,rfl,h,rfl⟩ | ⟨rfl,rfl⟩ | ⟨_,h⟩
    · exact hb
    · rcases hL k' e' he' with ⟨i,R,rfl,h',rfl⟩ | ⟨rfl,rfl⟩ | ⟨_,h'⟩
      · exact hb'
      · exact hne rfl
      · exact hkl' k' e' b h' hb' hb
    · rcases hL k' e' he' with ⟨i,R,rfl,h',rfl⟩ | ⟨rfl,rfl⟩ | ⟨_,h'⟩
      · exact hb'
      · exact hkl' k e b h hb hb'
      · rw [Ent.foot_agree hag (hTm k (hJ.sat.wfL k e h).1)] at hb
        rw [Ent.foot_agree hag (hTm k' (hJ.sat.wfL k' e' h').1)] at hb'
        exact hJ.sat.sep k k' e e' b h h' hne hb hb'
  · intro k hk
    have hk : k < nB := hk
    obtain ⟨h1,h2⟩ := hJ.ag k hk
    have hkm : k < m := by omega
    exact ⟨by show k < m + q; omega,h1,by simpa [hkm] using h2⟩
  · intro k x hx
    rcases hL k _ hx with ⟨i,R,rfl,h,he⟩ | ⟨_,h⟩ | ⟨_,h⟩
    · cases he
      exact ⟨Nat.zero_le _,fun b hb => ⟨((hok.Lt i R h).2 b hb).1,fun hF => absurd hF ((hok.Lt i R h).2 b hb).2⟩⟩
    · cases h
    · obtain ⟨h1,h2⟩ := hT.ext k x h
      exact ⟨by omega,fun b hb => absurd hb (h2 b)⟩
theorem range_round {cx : Cx} {a : Act} {l nB m q kl n1 : Nat} {ε0 ε : Env} {R0 : Loop} {T T' : St} {F : Nat → Prop} {I : IH} {w : World} {fr0 : List (Nat × SV)} {D0 : List Nat} {ps : List Nat} {it : Item} {us : Nat → Value} {vs : List Value} {Kx : Code → St → Prop} (hn1 : cx.w0.heap.size ≤ n1)
    (hrs : R0.state = .ready) (hrp : R0.pending = none) (hrt : R0.tmps = a.tmps) (hrps : R0.params = ps.toArray)
    (hJ : OutJ cx a l nB ε0 R0 T F I w ε) (hT : RSt fr0 D0 m kl T) (hT' : RSt fr0 D0 m kl T') (hKx : ∀ c T,Kx c T → RSt fr0 D0 m kl T) (hfr0 : fr0.all (fun p => p.2.kbp nB) = true) (hD0 : D0.all (Nat.blt · nB) = true)
    (hnB : nB ≤ m) (hkl : ε0.β kl = l) (hklB : kl < nB) (hcx : cx.nB ≤ nB) (hit : ItemOK q ps it) (hnd : ps.Nodup) (hps : ∀ t ∈ ps,t < cx.N) (hok : it.ok F I w us vs)
    (hround : WP ⟨cx.P,some l,w,cx.N,F,I,nB,ε0.β,ε0.ν⟩ (roundSt m q kl ps it T R0 us) R0.assign
      (AsgQ ⟨cx.P,some l,w,cx.N,F,I,nB,ε0.β,ε0.ν⟩ kl R0 R0.body (RndQ ⟨cx.P,some l,w,cx.N,F,I,nB,ε0.β,ε0.ν⟩ kl { R0 with state := .busy } T' Kx))) :
    RoundR cx.P l vs n1 F I w (OutY cx a l nB ε0 hn1 fun rec T => rec = R0 ∧ T = T') (OutY cx a l nB ε0 hn1 fun rec T => ∃ c,rec = { R0 with state := .done,pending := some c } ∧ Kx c T) := by
  have hvl : vs.length = it.svs.length := by rw [hok.vs]; simp
  refine ⟨R0.fn,(ps.zip vs).foldl (fun tmps (p : Nat × Value) => tmps.setIfInBounds p.1 p.2) a.tmps,R0.assign,R0.body,?_,?_⟩
  · have hsz : vs.length = ps.length := by rw [hvl,hit.len]
    have hz : ∀ (x y : List Nat) ,True := fun _ _ => trivial
    simp [Instr.yield,Instr.getLoop,getObj,Sem.run,hJ.lrec,hrps,hsz,hrt]
  · refine roundIn_of_wpIn trivial ?_
    have hs0 := roundSt_sat hJ hT hnB hkl hklB hcx hit hnd hps hok rfl
    refine wpIn_mono (hround _ _ _ _ hs0) ?_
    intro e a1 w1 hq
    cases e with
    | normal =>
      obtain ⟨S,hk,hWP,ε1,I1,hs1⟩ := hq
      have hb1 := hs1.L kl _ hk
      simp only [Ent.ok] at hb1
      have hpin1 := (hs1.pin kl hklB).2.1
      have hpl : ε1.β kl = l := hpin1.trans hkl
      rw [hpl] at hb1
      have hlt1 := (Array.getElem?_eq_some_iff.1 hb1).1
      refine ⟨{ w1 with heap := w1.heap.setIfInBounds l (.loop { R0 with state := .busy }) },?_,?_⟩
      · simp [Instr.beginRound,Instr.getLoop,getObj,setObj,Sem.run,hb1]
      · have hft := hs1.foot kl _ hk l (by show l = ε1.β kl; exact hpl.symm)
        have hoth : ∀ b,b ≠ l → ({ w1 with heap := w1.heap.setIfInBounds l (.loop { R0 with state := .busy }) } : World).heap[b]? = w1.heap[b]? := fun b hb => by
          simp [Array.getElem?_setIfInBounds_ne (Ne.symm hb)]
        have hfp : fpOf S ε1 ⟨.e (.a (.v undef)),[],[],[(kl,.ob (.loop { R0 with state := .busy }))],[]⟩ l := ⟨kl,_,by simp [look_cons],hk,hpl.symm⟩
        have hs2 := SatM.app (d := none) (u := ⟨.e (.a (.v undef)),[],[],[(kl,.ob (.loop { R0 with state := .busy }))],[]⟩) S.n hs1 (St.le.refl _) (fun k hk => by cases hk) (fun i hi => by cases hi)
          (ε' := ε1) (I' := I1) (w' := { w1 with heap := w1.heap.setIfInBounds l (.loop { R0 with state := .busy }) })
          ⟨fun _ _ => ⟨rfl,rfl,rfl⟩,IH.le.rfl',fun b o hb => by rw [hoth b (fun e => by rw [e,hft.2.2] at hb; cases hb)]; exact hs1.imm b o hb,rfl,rfl,Out.rf,by simp,fun b _ hn => hoth b (fun e => hn (by rw [e]; exact hfp)),fun _ _ h => .inl h⟩
          ⟨trivial,fun _ _ h => (by cases h),fun _ _ h => (by cases h),fun i e he => by obtain ⟨rfl,rfl⟩ := look_one he; exact ⟨.inl (hs1.wfL i _ hk).1,trivial⟩,fun _ _ h => (by cases h),
            fun i e he => by
              obtain ⟨rfl,rfl⟩ := look_one he
              show _ = _
              rw [hpl]; simp [hlt1],
            fun i e he b hb => by
              obtain ⟨rfl,rfl⟩ := look_one he
              have hb : b = l := by rw [← hpl]; exact hb
              subst hb
              exact ⟨hft.1,by simpa using hft.2.1,hft.2.2,.inr hfp⟩,
            fun i i' e e' b he he' hne => by
              obtain ⟨rfl,_⟩ := look_one he
              obtain ⟨rfl,_⟩ := look_one he'
              exact absurd rfl hne,
            fun k x h => by obtain ⟨_,h⟩ := look_one h; cases h⟩
        have hs3 : Sat ⟨cx.P,some l,w,cx.N,F,I,nB,ε0.β,ε0.ν⟩ ε1 I1 { S with L := (kl,.ob (.loop { R0 with state := .busy })) :: S.L } a1 { w1 with heap := w1.heap.setIfInBounds l (.loop { R0 with state := .busy }) } :=
          SatM.mono (fun k hk => by
            rcases hk with hk | hk
            · exact hk
            · cases hk) hs2
        refine wpIn_mono (hWP ε1 I1 a1 _ hs3) ?_
        intro e a2 w3 hq2
        have hend : ∀ (T2 : St) (ε2 : Env) (I2 : IH) (jump : Option Code),Sat ⟨cx.P,some l,w,cx.N,F,I,nB,ε0.β,ε0.ν⟩ ε2 I2 (T2.bare kl { R0 with state := .busy }) a2 w3 →
            (Instr.endRound l jump).run cx.P w3 = .ok (.bool jump.isNone) { w3 with heap := w3.heap.setIfInBounds l (.loop { R0 with state := if jump.isNone then .ready else .done,pending := jump }) } := by
          intro T2 ε2 I2 jump hs
          have h1 := hs.L kl (.ob (.loop { R0 with state := .busy })) (by simp [St.bare,look_cons])
          simp only [Ent.ok] at h1
          rw [(hs.pin kl hklB).2.1] at h1
          have h1 : w3.heap[ε0.β kl]? = _ := h1
          rw [hkl] at h1
          cases jump <;> simp [Instr.endRound,Instr.getLoop,getObj,setObj,Sem.run,h1]
        have hjump : ∀ (c : Code) (T2 : St),Kx c T2 → (∃ ε I',Sat ⟨cx.P,some l,w,cx.N,F,I,nB,ε0.β,ε0.ν⟩ ε I' (T2.bare kl { R0 with state := .busy }) a2 w3) → ∃ v w',(Instr.endRound l (some c)).run cx.P w3 = .ok v w' ∧
            ∃ b F' I',Ending.returned v = .returned (.bool b) ∧ Keep F w w' ∧ I.le I' ∧ I'.on w' ∧ (∀ c o,I' c = some o → I c = some o ∨ w.heap.size ≤ c) ∧ (∀ c,F c → F' c) ∧ (∀ c,F' c → F c ∨ w.heap.size ≤ c) ∧
              (bif b then (OutY cx a l nB ε0 hn1 fun rec T => rec = R0 ∧ T = T') else (OutY cx a l nB ε0 hn1 fun rec T => ∃ c,rec = { R0 with state := .done,pending := some c } ∧ Kx c T)).J F' I' w' := by
          rintro c T2 hK ⟨ε2,I2,hs⟩
          obtain ⟨h1,h2,h3,h4,F',h5,h6,h7⟩ := OutJ.back hJ hT (hKx c T2 hK) hfr0 hD0 hnB hkl hklB hcx rfl hs rfl
          exact ⟨_,_,hend T2 ε2 I2 (some c) hs,false,F',I2,rfl,h1,h2,h3,h4,h5,h6,_,T2,ε2,⟨c,rfl,hK⟩,h7⟩
        cases e with
        | normal =>
          obtain ⟨ε2,I2,hs⟩ := hq2
          obtain ⟨h1,h2,h3,h4,F',h5,h6,h7⟩ := OutJ.back (rec3 := R0) hJ hT hT' hfr0 hD0 hnB hkl hklB hcx rfl hs rfl
          refine ⟨_,_,hend T' ε2 I2 none hs,true,F',I2,rfl,?_⟩
          have : ({ R0 with state := if (none : Option Code).isNone then .ready else .done,pending := none } : Loop) = R0 := by
            cases R0; simp at hrs hrp ⊢; exact ⟨hrs.symm,hrp.symm⟩
          rw [this]
          exact ⟨h1,h2,h3,h4,h5,h6,R0,T',ε2,⟨rfl,rfl⟩,h7⟩
        | exit id => obtain ⟨T2,hK,h⟩ := hq2; exact hjump _ T2 hK h
        | ret => obtain ⟨T2,hK,h⟩ := hq2; exact hjump _ T2 hK h
        | goto t => exact hq2.elim
        | panic c => exact hq2.elim
        | outgrown => exact hq2.elim
    | exit id => exact hq.elim
    | ret => exact hq.elim
    | goto t => exact hq.elim
    | panic c => exact hq.elim
    | outgrown => exact hq.elim
end Go.Eng
