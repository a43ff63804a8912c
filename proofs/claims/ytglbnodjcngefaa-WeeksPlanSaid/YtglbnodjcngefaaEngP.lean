/- The engine, part P: steps of drawn regions; records of fields; contracts as signatures. -/
import Derived.Test.YtglbnodjcngefaaEngO
set_option linter.unusedSimpArgs false
set_option linter.unusedVariables false
namespace Go.Eng
open Go

/-! ### Steps of a drawn region -/
section
variable {cx : Cx} {Q : Exit → Act → World → Prop} {ops : Array Oper} {nf : Nat} {r : Rec} {t : List (Oper × Rec)}
variable {n : Nat} {fr : List (Nat × SV)} {X : List (Nat × Pred)} {L : List (Nat × Ent)} {D : List Nat} {G : List (Nat × Bool)} {d : Tmp} {op : Op} {ty : TypeId} {pos : String} {af : Array Edge} {gd : Option (Nat × Bool)} {sv : SV}
theorem DRQ.nil' (h : EX cx ⟨nf, fr, X, L, D, G⟩ .normal Q) : DRQ cx ops nf [] ⟨n, fr, X, L, D, G⟩ Q := h
/-- A value. -/
theorem DRQ.v (hd : Nat.blt d cx.N = true) (hg : GOK ops (dropL r.ds fr) gd true) (hN : r.N = []) (h : OpG cx (St.drop ⟨n, fr, X, L, D, G⟩ r.ds r.dk) ⟨some d, op, ty, pos, af, gd⟩ (.val sv)) (K : DRQ cx ops nf t ⟨n, (d, sv) :: fr, X, L, D, G⟩ Q) :
    DRQ cx ops nf ((⟨some d, op, ty, pos, af, gd⟩, r) :: t) ⟨n, fr, X, L, D, G⟩ Q :=
  ⟨.val sv, ROp.on hg h, ⟨hN.symm, fun _ _ h => (by cases h), fun _ _ h => (by cases h), rfl, fun i hi => by cases hi; rw [Nat.blt_eq] at hd; exact hd⟩, K⟩
/-- An operation whose guard lets it not. -/
theorem DRQ.off (hd : Nat.blt d cx.N = true) (hg : GOK ops (dropL r.ds fr) gd false) (hN : r.N = []) (K : DRQ cx ops nf t ⟨n, (d, .e (.a (.v undef))) :: fr, X, L, D, G⟩ Q) :
    DRQ cx ops nf ((⟨some d, op, ty, pos, af, gd⟩, r) :: t) ⟨n, fr, X, L, D, G⟩ Q :=
  ⟨.val (.e (.a (.v undef))), ROp.off hg, ⟨hN.symm, fun _ _ h => (by cases h), fun _ _ h => (by cases h), rfl, fun i hi => by cases hi; rw [Nat.blt_eq] at hd; exact hd⟩, K⟩
/-- A new hidden value. -/
theorem DRQ.x (k : Nat) {R : Pred} (hd : Nat.blt d cx.N = true) (hg : GOK ops (dropL r.ds fr) gd true) (hN : r.N = [k]) (hk : r.ks = [k]) (h : OpG cx (St.drop ⟨n, fr, X, L, D, G⟩ r.ds r.dk) ⟨some d, op, ty, pos, af, gd⟩ ⟨sv, [k], [(k, R)], [], []⟩)
    (K : DRQ cx ops nf t ⟨n, (d, sv) :: fr, (k, R) :: X, L, D, G⟩ Q) : DRQ cx ops nf ((⟨some d, op, ty, pos, af, gd⟩, r) :: t) ⟨n, fr, X, L, D, G⟩ Q :=
  ⟨⟨sv, [k], [(k, R)], [], []⟩, ROp.on hg h, ⟨hN.symm, fun i _ h => (by obtain ⟨rfl, _⟩ := look_one h; rw [hk]; simp), fun _ _ h => (by cases h), rfl, fun i hi => by cases hi; rw [Nat.blt_eq] at hd; exact hd⟩, K⟩
/-- A new block. -/
theorem DRQ.l (k : Nat) {e : Ent} (hd : Nat.blt d cx.N = true) (hg : GOK ops (dropL r.ds fr) gd true) (hN : r.N = [k]) (hk : r.ks = [k]) (h : OpG cx (St.drop ⟨n, fr, X, L, D, G⟩ r.ds r.dk) ⟨some d, op, ty, pos, af, gd⟩ ⟨sv, [k], [], [(k, e)], []⟩)
    (K : DRQ cx ops nf t ⟨n, (d, sv) :: fr, X, (k, e) :: L, D, G⟩ Q) : DRQ cx ops nf ((⟨some d, op, ty, pos, af, gd⟩, r) :: t) ⟨n, fr, X, L, D, G⟩ Q :=
  ⟨⟨sv, [k], [], [(k, e)], []⟩, ROp.on hg h, ⟨hN.symm, fun _ _ h => (by cases h), fun i _ h => (by obtain ⟨rfl, _⟩ := look_one h; rw [hk]; simp), rfl, fun i hi => by cases hi; rw [Nat.blt_eq] at hd; exact hd⟩, K⟩
/-- An own row turned into another one. -/
theorem DRQ.l2 (k k0 : Nat) {e e0 : Ent} (hd : Nat.blt d cx.N = true) (hg : GOK ops (dropL r.ds fr) gd true) (hN : r.N = [k]) (hk : r.ks = [k, k0]) (h : OpG cx (St.drop ⟨n, fr, X, L, D, G⟩ r.ds r.dk) ⟨some d, op, ty, pos, af, gd⟩ ⟨sv, [k], [], [(k, e), (k0, e0)], []⟩)
    (K : DRQ cx ops nf t ⟨n, (d, sv) :: fr, X, (k, e) :: (k0, e0) :: L, D, G⟩ Q) : DRQ cx ops nf ((⟨some d, op, ty, pos, af, gd⟩, r) :: t) ⟨n, fr, X, L, D, G⟩ Q :=
  ⟨⟨sv, [k], [], [(k, e), (k0, e0)], []⟩, ROp.on hg h, ⟨hN.symm, fun _ _ h => (by cases h), fun i _ h => (by rcases look_two h with ⟨rfl, _⟩ | ⟨_, rfl, _⟩ <;> (rw [hk]; simp)), rfl, fun i hi => by cases hi; rw [Nat.blt_eq] at hd; exact hd⟩, K⟩
/-- A store. -/
theorem DRQ.s (k : Nat) {e : Ent} (hg : GOK ops (dropL r.ds fr) gd true) (hN : r.N = []) (hk : r.ks = [k]) (h : OpG cx (St.drop ⟨n, fr, X, L, D, G⟩ r.ds r.dk) ⟨none, op, ty, pos, af, gd⟩ ⟨sv, [], [], [(k, e)], []⟩)
    (K : DRQ cx ops nf t ⟨n, fr, X, (k, e) :: L, D, G⟩ Q) : DRQ cx ops nf ((⟨none, op, ty, pos, af, gd⟩, r) :: t) ⟨n, fr, X, L, D, G⟩ Q :=
  ⟨⟨sv, [], [], [(k, e)], []⟩, ROp.on hg h, ⟨hN.symm, fun _ _ h => (by cases h), fun i _ h => (by obtain ⟨rfl, _⟩ := look_one h; rw [hk]; simp), rfl, fun i hi => by cases hi⟩, K⟩
/-- A call that hands back hidden values. -/
theorem DRQ.cs {X' : List (Nat × Pred)} (hd : Nat.blt d cx.N = true) (hg : GOK ops (dropL r.ds fr) gd true) (hN : r.N = keys X') (hk : r.ks = keys X') (h : OpG cx (St.drop ⟨n, fr, X, L, D, G⟩ r.ds r.dk) ⟨some d, op, ty, pos, af, gd⟩ ⟨sv, keys X', X', [], []⟩)
    (K : DRQ cx ops nf t ⟨n, (d, sv) :: fr, X' ++ X, L, D, G⟩ Q) : DRQ cx ops nf ((⟨some d, op, ty, pos, af, gd⟩, r) :: t) ⟨n, fr, X, L, D, G⟩ Q :=
  ⟨⟨sv, keys X', X', [], []⟩, ROp.on hg h, ⟨hN.symm, fun i _ h => by rw [hk]; exact look_keys h, fun _ _ h => (by cases h), rfl, fun i hi => by cases hi; rw [Nat.blt_eq] at hd; exact hd⟩, K⟩
end

/-! ### Records of fields -/
inductive Fd (α : Type) : Type 1 where
  | i (f : α → Int)
  | s {β : Type} (E : EP β) (f : α → List β)
  | v (f : α → Value) (h : ∀ x, (f x).oneCell' = true)
def Fd.ok {α : Type} (I : IH) (v : Value) (x : α) : Fd α → Prop
  | .i f => v = .int .i64 (f x)
  | .s E f => (PL E (f x)).h I v
  | .v f _ => v = f x
def FdAll {α : Type} (I : IH) (x : α) : List Value → List (Fd α) → Prop
  | [], [] => True
  | v :: vs, f :: fs => f.ok I v x ∧ FdAll I x vs fs
  | _, _ => False
theorem FdAll.len {α : Type} {I : IH} {x : α} : ∀ {vs : List Value} {fs : List (Fd α)}, FdAll I x vs fs → vs.length = fs.length
  | [], [], _ => rfl
  | _ :: _, _ :: _, h => by simp [FdAll.len h.2]
theorem FdAll.mono {α : Type} {I I' : IH} {x : α} (hI : I.le I') : ∀ {vs : List Value} {fs : List (Fd α)}, FdAll I x vs fs → FdAll I' x vs fs
  | [], [], _ => trivial
  | v :: vs, f :: fs, h => ⟨by
      cases f with
      | i f => exact h.1
      | s E f => exact (PL E _).mono hI h.1
      | v f _ => exact h.1, FdAll.mono hI h.2⟩
theorem FdAll.get {α : Type} {I : IH} {x : α} : ∀ {vs : List Value} {fs : List (Fd α)} {o : Nat} {f : Fd α}, FdAll I x vs fs → fs[o]? = some f → ∃ v, vs[o]? = some v ∧ f.ok I v x
  | [], _ :: _, _, _, h, _ => h.elim
  | v :: vs, f :: fs, 0, g, h, ho => by simp at ho; subst ho; exact ⟨v, rfl, h.1⟩
  | v :: vs, f :: fs, o + 1, g, h, ho => by
    obtain ⟨u, h1, h2⟩ := FdAll.get h.2 (o := o) (by simpa using ho)
    exact ⟨u, by simpa using h1, h2⟩
def EP.str {α : Type} (fs : List (Fd α)) : EP α := ⟨fs.length, fun I cs x => FdAll I x cs fs, FdAll.len, fun hI h => FdAll.mono hI h⟩
theorem EP.str_one {α : Type} {fs : List (Fd α)} : (EP.str fs).one := by
  intro I cs x h y hy
  have : ∀ {vs : List Value} {gs : List (Fd α)}, FdAll I x vs gs → ∀ y ∈ vs, y.oneCell' = true := by
    intro vs
    induction vs with
    | nil => intro gs _ y hy; cases hy
    | cons v vs ih =>
      intro gs h y hy
      cases gs with
      | nil => exact h.elim
      | cons g gs =>
        rcases List.mem_cons.1 hy with rfl | hy
        · cases g with
          | i f => rw [show y = _ from h.1]; rfl
          | s E f => exact PL.one _ _ h.1
          | v f hf => rw [show y = _ from h.1]; exact hf x
        · exact ih h.2 y hy
  exact this h y hy
section
variable {α : Type} {fs : List (Fd α)} {x : α} {o : Nat}
theorem strI {f : α → Int} (ho : fs[o]? = some (.i f)) : ∀ I cs, (EP.str fs).h I cs x → cs[o]? = some (.int .i64 (f x)) := fun I cs h => by
  obtain ⟨v, h1, h2⟩ := FdAll.get h ho
  rw [h1, show v = _ from h2]
theorem strV {f : α → Value} {hf : ∀ x, (f x).oneCell' = true} (ho : fs[o]? = some (.v f hf)) : ∀ I cs, (EP.str fs).h I cs x → cs[o]? = some (f x) := fun I cs h => by
  obtain ⟨v, h1, h2⟩ := FdAll.get h ho
  rw [h1, show v = _ from h2]
theorem strS {β : Type} {E : EP β} {f : α → List β} (ho : fs[o]? = some (.s E f)) : ∀ I cs, (EP.str fs).h I cs x → ∃ u, cs[o]? = some u ∧ (PL E (f x)).h I u := fun I cs h => FdAll.get h ho
def allI : List (Fd α) → Option (List (α → Int))
  | [] => some []
  | .i f :: t => match allI t with
    | some l => some (f :: l)
    | none => none
  | _ => none
theorem allI_vals {I : IH} : ∀ {cs : List Value} {gs : List (Fd α)} {l : List (α → Int)}, FdAll I x cs gs → allI gs = some l → cs = l.map fun g => .int .i64 (g x)
  | [], [], l, _, h => by cases h; rfl
  | c :: cs, .i f :: gs, l, h, hl => by
    simp only [allI] at hl
    cases hg : allI gs with
    | none => rw [hg] at hl; cases hl
    | some l' =>
      rw [hg] at hl; cases hl
      rw [List.map_cons, ← allI_vals h.2 hg, show c = _ from h.1]
theorem FdAll.sub {I : IH} : ∀ {o m : Nat} {cs : List Value} {gs : List (Fd α)}, FdAll I x cs gs → FdAll I x ((cs.drop o).take m) ((gs.drop o).take m)
  | 0, 0, cs, gs, _ => by simp [FdAll]
  | 0, m + 1, [], [], _ => trivial
  | 0, m + 1, c :: cs, g :: gs, h => ⟨h.1, by simpa using FdAll.sub (o := 0) (m := m) h.2⟩
  | o + 1, m, [], [], _ => by simp [FdAll]
  | o + 1, m, c :: cs, g :: gs, h => by simpa using FdAll.sub (o := o) (m := m) h.2
theorem strG {m : Nat} {l : List (α → Int)} (ho : allI ((fs.drop o).take m) = some l) : ∀ I cs, (EP.str fs).h I cs x → (cs.drop o).take m = l.map fun g => .int .i64 (g x) := fun _ _ h => allI_vals (FdAll.sub h) ho
theorem strG0 {l : List (α → Int)} (ho : allI fs = some l) : ∀ I cs, (EP.str fs).h I cs x → cs = l.map fun g => .int .i64 (g x) := fun _ _ h => allI_vals h ho
/-- Records of numbers lean on no memory. -/
theorem str_free {l : List (α → Int)} (ho : allI fs = some l) : ∀ I I' cs x, (EP.str fs).h I cs x → (EP.str fs).h I' cs x := by
  intro I I' cs x h
  have : ∀ {cs : List Value} {gs : List (Fd α)} {l : List (α → Int)}, FdAll I x cs gs → allI gs = some l → FdAll I' x cs gs := by
    intro cs
    induction cs with
    | nil => intro gs l h _; cases gs <;> first | trivial | exact h.elim
    | cons c cs ih =>
      intro gs l h hl
      cases gs with
      | nil => exact h.elim
      | cons g gs =>
        cases g with
        | i f =>
          simp only [allI] at hl
          cases hg : allI gs with
          | none => rw [hg] at hl; cases hl
          | some l' => exact ⟨h.1, ih h.2 hg⟩
        | s E f => cases hl
        | v f hf => cases hl
  exact this h ho
end
/-- Cells of the state that stand for a record. -/
def FAs (S : St) {α : Type} (x : α) : List At → List (Fd α) → Prop
  | [], [] => True
  | c :: cs, .i f :: fs => c = ai (f x) ∧ FAs S x cs fs
  | c :: cs, .s E f :: fs => (∃ j, c = .q j ∧ Has S.X j (PL E (f x))) ∧ FAs S x cs fs
  | c :: cs, .v f _ :: fs => (c = .v (f x) ∨ ∃ j, c = .q j ∧ Has S.X j (Pred.is (f x))) ∧ FAs S x cs fs
  | _, _ => False
theorem FAs.ok {cx : Cx} {S : St} {α : Type} {x : α} {M : Nat → Prop} {ε : Env} {I : IH} {a : Act} {w : World} (hs : SatM cx M ε I S a w) : ∀ {cs : List At} {fs : List (Fd α)}, FAs S x cs fs → FdAll I x (cs.map (At.den ε)) fs
  | [], [], _ => trivial
  | c :: cs, .i f :: fs, h => ⟨by rw [h.1]; rfl, FAs.ok hs h.2⟩
  | c :: cs, .s E f :: fs, h => ⟨by obtain ⟨j, rfl, hj⟩ := h.1; exact hs.has hj, FAs.ok hs h.2⟩
  | c :: cs, .v f _ :: fs, h => ⟨by
      rcases h.1 with rfl | ⟨j, rfl, hj⟩
      · rfl
      · exact hs.has hj, FAs.ok hs h.2⟩
theorem eok_str {cx : Cx} {S : St} {α : Type} {fs : List (Fd α)} {x : α} {e : El} (h : FAs S x e.cells fs) : EOK cx S (EP.str fs) e x := fun _ _ _ _ _ hs => h.ok hs
theorem bok_str {cx : Cx} {S : St} {α : Type} {fs : List (Fd α)} {x : α} {cs : List At} (h : FAs S x cs fs) : ∀ M ε I a w, SatM cx M ε I S a w → (EP.str fs).h I (cs.map (At.den ε)) x := fun _ _ _ _ _ hs => h.ok hs

/-! ### Contracts as signatures -/
def Sig (P : Program) (f : FuncId) (svs : List SV) (X0 : List (Nat × Pred)) (sv : SV) (X : List (Nat × Pred)) : Prop :=
  ∀ (I : IH) (w : World) (ν : Nat → Value), I.on w → FactsOK ν I X0 → Ct P f (svs.map (den0 ν)).toArray I w Emp sv X
theorem Sig.intro {P : Program} {f : FuncId} {fn : Func} {c : Code} {svs : List SV} {X0 : List (Nat × Pred)} {sv : SV} {X : List (Nat × Pred)} (hf : P.funcs[f]? = some fn) (hb : fn.body = some c) (n : Nat) (fr : List (Nat × SV)) (hfr : fr = frOf 0 svs)
    (hwf : ∀ x ∈ svs, x.res (keys X0)) (hn : (keys X0).all (Nat.blt · n) = true) (hN : Nat.ble svs.length fn.ntmps = true)
    (h : ∀ I w, WP ⟨P, none, w, fn.ntmps, Emp, I, 0, fun _ => 0, fun _ => undef⟩ ⟨n, fr, X0, [], [], []⟩ c (Post P fn (CtR I w Emp sv X))) : Sig P f svs X0 sv X := fun I w ν hI hX =>
  Ct.intro hf hb hI ν svs X0 n fr hfr rfl hX hwf (fun k hk => by simpa [Nat.blt_eq] using List.all_eq_true.1 hn k hk) hN (h I w)
theorem At.ren_den {J : List Nat} {ρ : Nat → Nat} {ε : Env} : ∀ {x : At}, x.res J → (x.ren ρ).den ε = x.den ⟨fun _ => 0, fun j => ε.ν (ρ j), fun _ => true⟩
  | .v _, _ => rfl
  | .q _, _ => rfl
theorem SV.ren_den {J : List Nat} {ρ : Nat → Nat} {ε : Env} {x : SV} (h : x.res J) : (x.ren ρ).den ε = den0 (fun j => ε.ν (ρ j)) x := SV.den_ren h
theorem FactsOK.of {ν : Nat → Value} {I : IH} {ρ : Nat → Nat} {X : List (Nat × Pred)} (h : ∀ j R, Has X (ρ j) R → R.h I (ν (ρ j))) : ∀ {X0 : List (Nat × Pred)}, RenOK X ρ X0 → FactsOK (fun j => ν (ρ j)) I X0
  | [], _ => trivial
  | (j, R) :: t, hX => ⟨h j R hX.1, FactsOK.of h hX.2⟩
section ops
variable {cx : Cx} {S : St} {dst : Option Tmp} {ty : TypeId} {pos : String} {af : Array Edge} {gd : Option (Nat × Bool)}
theorem CtR.shift {I : IH} {w : World} {E : Nat → Prop} {sv : SV} {X : List (Nat × Pred)} {m : Nat} (hres : sv.res (keys X)) {e : Ending} {w' : World} (h : CtR I w E sv X e w') : CtR I w E (sv.ren (m + ·)) (sh m X) e w' := by
  obtain ⟨I', us, rfl, h1, h2, h3, h4, h5⟩ := h
  refine ⟨I', fun j => us (j - m), ?_, h1, h2, h3, h4, fun j R hj => ?_⟩
  · rw [SV.ren_den hres]
    have : (fun j => us (m + j - m)) = us := by funext j; congr 1; omega
    simp only [den0, this]
  · obtain ⟨i, rfl, hi⟩ := look_sh hj
    have : us (m + i - m) = us i := by congr 1; omega
    show R.h I' (us (m + i - m))
    rw [this]; exact h5 i R hi
theorem At.ren_res {J : List Nat} {m : Nat} : ∀ {x : At}, x.res J → (x.ren (m + ·)).res (J.map (m + ·))
  | .v _, _ => trivial
  | .q j, h => List.mem_map.2 ⟨j, h, rfl⟩
theorem El.ren_res {J : List Nat} {m : Nat} : ∀ {x : El}, x.res J → (x.ren (m + ·)).res (J.map (m + ·))
  | .a _, h => At.ren_res h
  | .g l, h => fun c hc => by obtain ⟨y, hy, rfl⟩ := List.mem_map.1 hc; exact At.ren_res (h y hy)
theorem SV.ren_res {J : List Nat} {m : Nat} : ∀ {x : SV}, x.res J → (x.ren (m + ·)).res (J.map (m + ·))
  | .e _, h => El.ren_res h
  | .t l, h => fun c hc => by obtain ⟨y, hy, rfl⟩ := List.mem_map.1 hc; exact El.ren_res (h y hy)
theorem keys_sh {α : Type} {m : Nat} {X : List (Nat × α)} : keys (sh m X) = (keys X).map (m + ·) := by simp [keys, sh]
/-- A call, by its callee's signature. m: the first key of its results. -/
theorem o_sig {P : Program} {f : FuncId} {l : List Operand} {ts : Array TypeId} {svs svs' : List SV} {X0 : List (Nat × Pred)} {sv : SV} {X : List (Nat × Pred)} (m : Nat) (ρ : Nat → Nat) (hs : Sig P f svs X0 sv X) (hf : Enters' P f) (hP : cx.P = P) (hl : S.ops l = some svs') (hren : svs' = svs.map (SV.ren ρ))
    (hwf : ∀ x ∈ svs, x.res (keys X0)) (hX : RenOK S.X ρ X0) (hres : sv.res (keys X)) :
    OpG cx S ⟨dst, .call { callee := .value (.func f), args := l.toArray, argTypes := ts }, ty, pos, af, gd⟩ ⟨sv.ren (m + ·), keys (sh m X), sh m X, [], []⟩ := by
  subst hP
  refine o_call hf hl (by rw [keys_sh]; exact SV.ren_res hres) fun M ε I a w h => ?_
  subst hren
  have := hs I w (fun j => ε.ν (ρ j)) h.imm (FactsOK.of (fun j R hj => h.has hj) hX)
  rw [List.map_map, show svs.map (SV.den ε ∘ SV.ren ρ) = svs.map (den0 fun j => ε.ν (ρ j)) from List.map_congr_left (fun x hx => SV.ren_den (hwf x hx))]
  exact CallsIn.mono this fun e w' h => CtR.shift hres h
end ops
end Go.Eng
