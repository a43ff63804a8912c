/- The engine, part R: facts on types, further small forms. -/
import Derived.Test.YtglbnodjcngefaaEngQ
import Derived.KernelRfl
set_option linter.unusedSimpArgs false
set_option linter.unusedVariables false
namespace Go.Eng
open Go
theorem intc {y : Int} : ∀ I cs, EP.int.h I cs y → cs[0]? = some (.int .i64 y) := fun _ _ h => by
  rw [show _ = _ from h]; rfl
def SzAll (P : Program) : List Field → List Nat → Prop
  | [], [] => True
  | f :: fs, n :: ns => (∀ w, (sizeOf f.type).run P w = .ok n w) ∧ SzAll P fs ns
  | _, _ => False
theorem SzAll.run {P : Program} {w : World} : ∀ {fs : List Field} {ns : List Nat}, SzAll P fs ns → (fs.mapM (fun f => do pure (f.offset, ← sizeOf f.type) : Field → Sem (Nat × Nat))).run P w = .ok ((fs.map (·.offset)).zip ns) w
  | [], [], _ => rfl
  | f :: fs, n :: ns, h => by
    rw [List.mapM_cons]
    simp only [Sem.run_bind, h.1, Result.andThen_ok, Sem.run_pure, SzAll.run h.2]
    rfl
theorem BldT.mk {P : Program} {T : TypeId} {fs : List Field} {ns : List Nat} {pl : List (Nat × Nat)} {z : Value} {zs : List Value} (hu : P.underlying T = some (.struct fs.toArray)) (hn : SzAll P fs ns) (hpl : pl = (fs.map (·.offset)).zip ns) (hz : ∀ w, (zeroValue T).run P w = .ok z w) (hzs : z.cells = zs.toArray) : BldT P T pl zs :=
  ⟨⟨_, hu, fun w => by
    rw [List.mapM_toArray]
    simp only [Sem.run_map, SzAll.run hn, hpl]
    rfl⟩, z, hz, hzs⟩

def Pred.and (R R' : Pred) : Pred := ⟨fun I v => R.h I v ∧ R'.h I v, fun hI h => ⟨R.mono hI h.1, R'.mono hI h.2⟩⟩
theorem lxl {X : List (Nat × Pred)} {j : Nat} {R R' : Pred} (h : look j X = some (R.and R')) : Has X j R := ⟨_, h, fun _ _ h => h.1⟩
theorem lxr {X : List (Nat × Pred)} {j : Nat} {R R' : Pred} (h : look j X = some (R.and R')) : Has X j R' := ⟨_, h, fun _ _ h => h.2⟩
/-- The nil slice, by a name. -/
def PN {α : Type} (E : EP α) : Pred := (PL E []).and (Pred.is (.slice none 0 0))
theorem pn_ok {α : Type} {E : EP α} : ∀ I, (PN E).h I (.slice none 0 0) := fun _ => ⟨⟨none, 0, rfl, Nat.le_refl _, fun i hi => absurd hi (by simp)⟩, rfl⟩

/-! ### Calls that are lent memory -/
def SigF (P : Program) (f : FuncId) (svs : List SV) (X0 : List (Nat × Pred)) (sv : SV) (X : List (Nat × Pred)) : Prop :=
  ∀ (I : IH) (w : World) (ν : Nat → Value), I.on w → FactsOK ν I X0 → Ct P f (svs.map (den0 ν)).toArray I w Emp sv (X.map fun p => (p.1, Pred.from w.heap.size p.2))
theorem Sig.free {P : Program} {f : FuncId} {svs : List SV} {X0 : List (Nat × Pred)} {sv : SV} (h : Sig P f svs X0 sv []) : SigF P f svs X0 sv [] := h
theorem SigF.intro {P : Program} {f : FuncId} {fn : Func} {c : Code} {svs : List SV} {X0 : List (Nat × Pred)} {sv : SV} {X : List (Nat × Pred)} (hf : P.funcs[f]? = some fn) (hb : fn.body = some c) (n : Nat) (fr : List (Nat × SV)) (hfr : fr = frOf 0 svs)
    (hwf : ∀ x ∈ svs, x.res (keys X0)) (hn : (keys X0).all (Nat.blt · n) = true) (hN : Nat.ble svs.length fn.ntmps = true)
    (h : ∀ I w, WP ⟨P, none, w, fn.ntmps, Emp, I, 0, fun _ => 0, fun _ => undef⟩ ⟨n, fr, X0, [], [], []⟩ c (Post P fn (CtR I w Emp sv (X.map fun p => (p.1, Pred.from w.heap.size p.2))))) : SigF P f svs X0 sv X := fun I w ν hI hX =>
  Ct.intro hf hb hI ν svs X0 n fr hfr rfl hX hwf (fun k hk => by simpa [Nat.blt_eq] using List.all_eq_true.1 hn k hk) hN (h I w)
inductive LendF (S : St) (k : Nat) (R : Pred) : Prop
  | x (h : Has S.X k R)
  | own {α : Type} {E : EP α} {l : List α} {T : TypeId} (hk : look k S.L = some (.own T E.size l.length (RP E l))) (hR : R = PL E l)
  | ext {u : Value} (hX : Has S.X k (Pred.is u)) (hL : look k S.L = some (.ext (lentXP u R)))
def LendOK (S : St) (ρ : Nat → Nat) : List (Nat × Pred) → Prop
  | [] => True
  | (j, R) :: t => LendF S (ρ j) R ∧ LendOK S ρ t
theorem LendF.ok {cx : Cx} {M : Nat → Prop} {ε : Env} {I : IH} {S : St} {a : Act} {w : World} (hs : SatM cx M ε I S a w) {k : Nat} {R : Pred} (h : LendF S k R) : R.h (World.all w) (ε.ν k) := by
  cases h with
  | x h => exact hs.all h
  | own hk hR => subst hR; exact hs.lend hk
  | ext hX hL => exact hs.lent hX hL
theorem LendOK.ok {cx : Cx} {M : Nat → Prop} {ε : Env} {I : IH} {S : St} {a : Act} {w : World} (hs : SatM cx M ε I S a w) {ρ : Nat → Nat} : ∀ {X0 : List (Nat × Pred)}, LendOK S ρ X0 → FactsOK (fun j => ε.ν (ρ j)) (World.all w) X0
  | [], _ => trivial
  | _ :: _, h => ⟨h.1.ok hs, LendOK.ok hs h.2⟩
section ops
variable {cx : Cx} {S : St} {dst : Option Tmp} {ty : TypeId} {pos : String} {af : Array Edge} {gd : Option (Nat × Bool)}
theorem sh_map {α β : Type} (m : Nat) (f : α → β) (X : List (Nat × α)) : sh m (X.map fun p => (p.1, f p.2)) = (sh m X).map fun p => (p.1, f p.2) := by simp [sh]
/-- A call by its callee's signature, that is lent all memory. -/
theorem o_sigb {P : Program} {f : FuncId} {l : List Operand} {ts : Array TypeId} {svs svs' : List SV} {X0 : List (Nat × Pred)} {sv : SV} {X : List (Nat × Pred)} (m : Nat) (ρ : Nat → Nat) (hs : SigF P f svs X0 sv X) (hf : Enters' P f) (hP : cx.P = P) (hl : S.ops l = some svs') (hren : svs' = svs.map (SV.ren ρ))
    (hwf : ∀ x ∈ svs, x.res (keys X0)) (hX : LendOK S ρ X0) (hres : sv.res (keys X)) :
    OpG cx S ⟨dst, .call { callee := .value (.func f), args := l.toArray, argTypes := ts }, ty, pos, af, gd⟩ ⟨sv.ren (m + ·), keys (sh m X), sh m X, [], []⟩ := by
  subst hP
  refine o_callb hf hl (by rw [keys_sh]; exact SV.ren_res hres) fun M ε I a w h => ?_
  subst hren
  have := hs (World.all w) w (fun j => ε.ν (ρ j)) (World.all_on w) (LendOK.ok h hX)
  rw [List.map_map, show svs.map (SV.den ε ∘ SV.ren ρ) = svs.map (den0 fun j => ε.ν (ρ j)) from List.map_congr_left (fun x hx => SV.ren_den (hwf x hx)), ← sh_map]
  exact CallsIn.mono this fun e w' h => CtR.shift (by
    have : keys (X.map fun p => (p.1, Pred.from w.heap.size p.2)) = keys X := by simp [keys]
    rw [this]; exact hres) h
end ops
section ops
variable {cx : Cx} {S : St} {pos : String} {af : Array Edge} {ty : TypeId}
/-- A whole element of an own row is stored. -/
theorem o_steE2 {α : Type} {E : EP α} {x y : Operand} {T e : TypeId} {j n sz : Nat} {l : List α} {i : Int} {z : α} {ev : El} (hT : ∀ w, (sizeOf T).run cx.P w = .ok sz w) (hx : S.op x = some (.e (.a (.e j (i.toNat * sz))))) (hj : look j S.L = some (.own e sz n (RP E l))) (hy : S.op y = some (.e ev)) (h1 : ev.one S) (hz : EOK cx S E ev z)
    (hm : ev.cells.length = sz) (hsz : sz = E.size) (hn : n = l.length) (h0 : 0 ≤ i) (hi : i < l.length) :
    OpG cx S ⟨none, .store T x y, ty, pos, af, none⟩ ⟨.e (.a (.v undef)), [], [], [(j, .own e sz (lset l i z).length (RP E (lset l i z)))], []⟩ := by
  have := o_steE (ty := ty) (pos := pos) (af := af) hT hx hj hy h1 hz hm hsz hn h0 hi
  rw [lset_len, ← hn]; exact this
end ops
section ops
variable {cx : Cx} {S : St} {dst : Option Tmp} {ty : TypeId} {pos : String} {af : Array Edge} {gd : Option (Nat × Bool)}
/-- A field of a struct value: one cell. -/
theorem o_field {x : Operand} {T : TypeId} {f : Nat} {fs : List Field} {fd : Field} {cs : List At} {y : At} (hu : cx.P.underlying T = some (.struct fs.toArray)) (hf : fs[f]? = some fd) (hT : TyS cx.P fd.type) (hx : S.op x = some (.e (.g cs))) (hy : cs[fd.offset]? = some y) :
    OpG cx S ⟨dst, .field T x f, ty, pos, af, gd⟩ (.val (.e (.a y))) :=
  OpG.pure (fun _ => by simp) fun M ε I a w hs => ⟨hs.on (sv := .e (.g cs)) hx y (List.mem_of_getElem? hy), by
    have h := hs.eval hx
    simp only [SV.den, El.den] at h
    have h2 : Option.map (At.den ε) cs[fd.offset]? = some (y.den ε) := by rw [hy]; rfl
    simp [execOp, h, Instr.field, run_underlying hu, hf, asAgg, part, hT.ag, hT.sz, h2, SV.den, El.den]⟩
end ops
section
variable {cx : Cx} {Q : Exit → Act → World → Prop} {ops : Array Oper} {nf : Nat} {r : Rec} {t : List (Oper × Rec)} {rest : List Oper}
variable {n : Nat} {fr : List (Nat × SV)} {X : List (Nat × Pred)} {L : List (Nat × Ent)} {D : List Nat} {G : List (Nat × Bool)} {d : Tmp} {op : Op} {ty : TypeId} {pos : String} {af : Array Edge}
def iffX (b : Bool) (X : List (Nat × Pred)) : List (Nat × Pred) := X.map fun p => (p.1, Pred.iff b p.2)
/-- A guarded call that hands back hidden values. -/
theorem DRQ.gcs (g : Nat) {gs : List Nat} {b : Bool} {x : El} {X' : List (Nat × Pred)} {j dj : Nat} {want : Bool} (hd : Nat.blt d cx.N = true) (hj : (ops[j]?).bind (·.dst) = some dj) (hb : GB (St.drop ⟨n, fr, X, L, D, G⟩ r.ds r.dk) dj want g gs b) (hN : r.N = keys X') (hk : r.ks = keys X')
    (h : b = true → OpG cx ((St.drop ⟨n, fr, X, L, D, G⟩ r.ds r.dk).und gs) ⟨some d, op, ty, pos, af, some (j, want)⟩ ⟨.e x, keys X', X', [], []⟩) (K : DRQ cx ops nf t ⟨n, (d, .c g x) :: fr, iffX b X' ++ X, L, D, G⟩ Q) :
    DRQ cx ops nf ((⟨some d, op, ty, pos, af, some (j, want)⟩, r) :: t) ⟨n, fr, X, L, D, G⟩ Q :=
  ⟨U.cond ⟨.e x, keys X', X', [], []⟩ g b x, ROp.g rfl hj hb rfl rfl (fun _ _ h => look_keys h) h, ⟨hN.symm, fun i R h => (by
    rw [hk]
    have h2 : look i (X'.map fun p => (p.1, Pred.iff b p.2)) = some R := h
    rw [look_map] at h2
    cases h3 : look i X' with
    | none => rw [h3] at h2; cases h2
    | some R' => exact look_keys h3), fun _ _ h => (by cases h), rfl, fun i hi => by cases hi; rw [Nat.blt_eq] at hd; exact hd⟩, K⟩
end
end Go.Eng
