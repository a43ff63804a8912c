/- The engine, part E: calls, a function's entry and its return, branches, loops. -/
import Derived.Test.YtglbnodjcngefaaEngD
set_option linter.unusedSimpArgs false
set_option linter.unusedVariables false
namespace Go.Eng
open Go

/-- What a contract says of a call: it returns sv, whose hidden values bear the facts X; what lay (but for E) lies as it lay; what was settled stays so, and what is newly so is new. -/
def CtR (I : IH) (w : World) (E : Nat → Prop) (sv : SV) (X : List (Nat × Pred)) : Ending → World → Prop := fun e w' =>
  ∃ I' us, e = .returned (sv.den ⟨fun _ => 0, us, fun _ => true⟩) ∧ Keep E w w' ∧ I.le I' ∧ I'.on w' ∧ (∀ b o, I' b = some o → I b = some o ∨ w.heap.size ≤ b) ∧ ∀ j R, look j X = some R → R.h I' (us j)
def Ct (P : Program) (f : FuncId) (args : Array Value) (I : IH) (w : World) (E : Nat → Prop) (sv : SV) (X : List (Nat × Pred)) : Prop :=
  CallsIn Fence.wide 0 P f args w (CtR I w E sv X)

theorem callsIn_fen {r : Option Nat} {P : Program} {f : FuncId} {args : Array Value} {w : World} {R : Ending → World → Prop} (h : CallsIn Fence.wide 0 P f args w R) : CallsIn (fen r) 0 P f args w R := by
  cases r with
  | none => exact h
  | some l => exact h
def Enters' (P : Program) (f : FuncId) : Prop := ∀ args w, (callFunc f args).run P w = .ok (.enter f args) w
theorem enters_of' {P : Program} {f : FuncId} {fn : Func} {c : Code} (hf : P.funcs[f]? = some fn) (hname : (fn.name == "runtime.NumGoroutine") = false) (hb : fn.body = some c) : Enters' P f := by
  intro args w
  have h1 : fn.name ≠ "runtime.NumGoroutine" := by simpa using hname
  simp [callFunc, hf, h1, hb, mark]

/-- An atom of a contract's result: plain, or one of its hidden values. -/
def At.res (J : List Nat) : At → Prop
  | .v _ => True
  | .q j => j ∈ J
  | _ => False
def El.res (J : List Nat) : El → Prop
  | .a x => x.res J
  | .g l => ∀ x ∈ l, x.res J
def SV.res (J : List Nat) : SV → Prop
  | .e x => x.res J
  | .t l => ∀ x ∈ l, x.res J
  | .c _ _ => False
theorem At.den_res {J : List Nat} {ε ε' : Env} (h : ∀ j ∈ J, ε'.ν j = ε.ν j) : ∀ {x : At}, x.res J → x.den ε' = x.den ε
  | .v _, _ => rfl
  | .q j, hx => h j hx
theorem El.den_res {J : List Nat} {ε ε' : Env} (h : ∀ j ∈ J, ε'.ν j = ε.ν j) : ∀ {x : El}, x.res J → x.den ε' = x.den ε
  | .a _, hx => At.den_res h hx
  | .g l, hx => by simp only [El.den]; rw [List.map_congr_left (fun c hc => At.den_res h (hx c hc))]
theorem SV.den_res {J : List Nat} {ε ε' : Env} (h : ∀ j ∈ J, ε'.ν j = ε.ν j) : ∀ {x : SV}, x.res J → x.den ε' = x.den ε
  | .e _, hx => El.den_res h hx
  | .t l, hx => by simp only [SV.den]; rw [List.map_congr_left (fun c hc => El.den_res h (hx c hc))]
theorem At.on_res {J : List Nat} {M : Nat → Prop} (h : ∀ j ∈ J, M j) : ∀ {x : At}, x.res J → x.on M
  | .v _, _ => trivial
  | .q j, hx => h j hx
theorem El.on_res {J : List Nat} {M : Nat → Prop} (h : ∀ j ∈ J, M j) : ∀ {x : El}, x.res J → x.on M
  | .a _, hx => At.on_res h hx
  | .g _, hx => fun c hc => At.on_res h (hx c hc)
theorem SV.on_res {J : List Nat} {γ : Nat → Bool} {M : Nat → Prop} (h : ∀ j ∈ J, M j) : ∀ {x : SV}, x.res J → x.on γ M
  | .e _, hx => El.on_res h hx
  | .t _, hx => fun c hc => El.on_res h (hx c hc)

def keys {α : Type} (X : List (Nat × α)) : List Nat := X.map (·.1)
theorem look_keys {α : Type} {X : List (Nat × α)} {j : Nat} {R : α} (h : look j X = some R) : j ∈ keys X := List.mem_map.2 ⟨(j, R), look_mem h, rfl⟩

theorem OpG.call {cx : Cx} {S : St} {o : Oper} {sv : SV} {X : List (Nat × Pred)} (hnd : ∀ c, o.op ≠ .defer c) (hres : sv.res (keys X))
    (h : ∀ M ε I a w, SatM cx M ε I S a w → ∃ f args, (execOp a.eval o).run cx.P w = .ok (.enter f args) w ∧ Ct cx.P f args I w Emp sv X) : OpG cx S o ⟨sv, keys X, X, [], []⟩ := by
  intro M ε I a w next Q hs hN K
  obtain ⟨f, args, h1, h2⟩ := h M ε I a w hs
  refine ⟨fun _ _ => trivial, ?_⟩
  rw [semAt_eq _ _ _ hnd, h1]
  refine ⟨fun h => (by cases h), CallsIn.mono (callsIn_fen h2) ?_⟩
  rintro e w' ⟨I', us, rfl, hk, hle, hon, hfr, hX⟩
  have hsv : sv.den ⟨fun _ => 0, us, fun _ => true⟩ = sv.den ⟨ε.β, fun j => if j ∈ keys X then us j else ε.ν j, ε.γ⟩ :=
    SV.den_res (fun j hj => by simp [hj]) hres
  show next (a.put o.dst _) w'
  rw [hsv]
  refine K ⟨ε.β, fun j => if j ∈ keys X then us j else ε.ν j, ε.γ⟩ I' w'
    ⟨fun i hi => ⟨rfl, by simp [hi], rfl⟩, hle, hon, hk.os, hk.tape, hk.output, hk.size, fun b hb _ => hk.block b hb (fun h => h), fun b o hb => ?_⟩
    ⟨SV.on_res (fun j hj => .inr hj) hres, fun j R hj => .inr (look_keys hj), fun _ _ h => (by cases h), fun _ _ h => (by cases h), fun j R hj => ?_, fun _ _ h => (by cases h), fun _ _ h => (by cases h), fun _ _ _ _ _ h => (by cases h), fun _ _ h => (by cases h)⟩
  · rcases hfr b o hb with h | h
    · exact .inl h
    · exact .inr (.inl h)
  · have : j ∈ keys X := look_keys hj
    simp only [this, if_true]
    exact hX j R hj

def St.ops (S : St) : List Operand → Option (List SV)
  | [] => some []
  | x :: t => match S.op x, S.ops t with
    | some y, some l => some (y :: l)
    | _, _ => none
theorem SatM.evals {cx : Cx} {M : Nat → Prop} {ε : Env} {I : IH} {S : St} {a : Act} {w : World} (h : SatM cx M ε I S a w) : ∀ {l : List Operand} {svs : List SV}, S.ops l = some svs → l.map a.eval = svs.map (SV.den ε)
  | [], svs, hl => by cases hl; rfl
  | x :: t, svs, hl => by
    simp only [St.ops] at hl
    split at hl
    · rename_i y l h1 h2
      cases hl
      simp [h.eval h1, SatM.evals h h2]
    · cases hl

section ops
variable {cx : Cx} {S : St} {dst : Option Tmp} {ty : TypeId} {pos : String} {af : Array Edge} {gd : Option (Nat × Bool)}
/-- A call of a function by its name. -/
theorem o_call {f : FuncId} {l : List Operand} {ts : Array TypeId} {svs : List SV} {sv : SV} {X : List (Nat × Pred)} (hf : Enters' cx.P f) (hl : S.ops l = some svs) (hres : sv.res (keys X))
    (h : ∀ M ε I a w, SatM cx M ε I S a w → Ct cx.P f (svs.map (SV.den ε)).toArray I w Emp sv X) :
    OpG cx S ⟨dst, .call { callee := .value (.func f), args := l.toArray, argTypes := ts }, ty, pos, af, gd⟩ ⟨sv, keys X, X, [], []⟩ :=
  OpG.call (fun _ => by simp) hres fun M ε I a w hs => by
    refine ⟨f, _, ?_, h M ε I a w hs⟩
    have := hs.evals hl
    simp [execOp, resolve, Act.eval, Deferred.ofValue, invoke, this, hf _ _]
theorem o_extract {x : Operand} {i : Nat} {l : List El} {el : El} (hx : S.op x = some (.t l)) (hi : l[i]? = some el) : OpG cx S ⟨dst, .extract x i, ty, pos, af, gd⟩ (.val (.e el)) :=
  OpG.pure (fun _ => by simp) fun M ε I a w hs => by
    have h := hs.eval hx
    refine ⟨hs.on (sv := .t l) hx el (List.mem_of_getElem? hi), ?_⟩
    simp only [SV.den] at h
    simp [execOp, h, Instr.extract, hi, SV.den]
/-! #### Lengths -/
theorem run_len_slice {P : Program} {T e : TypeId} {sz : Nat} (hT : IsSl P T e sz) (r : TypeId) (a : Option Addr) (n c : Nat) (w : World) : (Builtin.len_ #[T] r #[.slice a n c]).run P w = .ok (.int .i64 n) w := by
  simp [Builtin.len_, run_underlying hT.1, goInt]
theorem o_lenq {x : Operand} {T e : TypeId} {sz j : Nat} {α : Type} {E : EP α} {l : List α} (hT : IsSl cx.P T e sz) (hx : S.op x = some (.e (.a (.q j)))) (hj : Has S.X j (PL E l)) :
    OpG cx S ⟨dst, .call { callee := .builtin .len, args := #[x], argTypes := #[T] }, ty, pos, af, gd⟩ (.val (.i l.length)) :=
  OpG.pure (fun _ => by simp) fun M ε I a w hs => ⟨trivial, by
    have h := hs.eval hx
    obtain ⟨ad, cap, h1, _⟩ := hs.has hj
    simp only [SV.den, El.den, At.den, h1] at h
    simp [execOp, resolve, invoke, builtin, h, run_len_slice hT, SV.den, El.den, At.den]⟩
theorem o_lenv {x : Operand} {T e : TypeId} {sz n c : Nat} {ad : Option Addr} (hT : IsSl cx.P T e sz) (hx : S.op x = some (.e (.a (.v (.slice ad n c))))) :
    OpG cx S ⟨dst, .call { callee := .builtin .len, args := #[x], argTypes := #[T] }, ty, pos, af, gd⟩ (.val (.i n)) :=
  OpG.pure (fun _ => by simp) fun M ε I a w hs => ⟨trivial, by
    have h := hs.eval hx
    simp only [SV.den, El.den, At.den] at h
    simp [execOp, resolve, invoke, builtin, h, run_len_slice hT, SV.den, El.den, At.den]⟩
theorem o_leno {x : Operand} {T e e' : TypeId} {sz sz' j n : Nat} {R : LPred} (hT : IsSl cx.P T e sz) (hx : S.op x = some (.e (.a (.q j)))) (hj : look j S.L = some (.own e' sz' n R)) :
    OpG cx S ⟨dst, .call { callee := .builtin .len, args := #[x], argTypes := #[T] }, ty, pos, af, gd⟩ (.val (.i n)) :=
  OpG.pure (fun _ => by simp) fun M ε I a w hs => ⟨trivial, by
    have h := hs.eval hx
    obtain ⟨xs, ⟨_, h2⟩, _⟩ := hs.L j _ hj
    simp only [SV.den, El.den, At.den] at h
    rcases h2 with ⟨h2, rfl⟩ | ⟨g, cap, cur, h2, _⟩ <;> rw [h2] at h <;> simp [execOp, resolve, invoke, builtin, h, run_len_slice hT, SV.den, El.den, At.den]⟩
theorem o_min {x y : Operand} {ts : Array TypeId} {a b : Int} (hx : S.op x = some (.i a)) (hy : S.op y = some (.i b)) :
    OpG cx S ⟨dst, .call { callee := .builtin .min, args := #[x, y], argTypes := ts }, ty, pos, af, gd⟩ (.val (.i (min a b))) :=
  OpG.pure (fun _ => by simp) fun M ε I ac w hs => ⟨trivial, by
    have h1 := hs.eval hx; have h2 := hs.eval hy
    simp only [SV.den, El.den, At.den] at h1 h2
    have : (if b < a then b else a) = min a b := by rw [Int.min_def]; split <;> split <;> omega
    simp [execOp, resolve, invoke, builtin, h1, h2, run_min_int2, this, SV.den, El.den, At.den]⟩
theorem o_max {x y : Operand} {ts : Array TypeId} {a b : Int} (hx : S.op x = some (.i a)) (hy : S.op y = some (.i b)) :
    OpG cx S ⟨dst, .call { callee := .builtin .max, args := #[x, y], argTypes := ts }, ty, pos, af, gd⟩ (.val (.i (max a b))) :=
  OpG.pure (fun _ => by simp) fun M ε I ac w hs => ⟨trivial, by
    have h1 := hs.eval hx; have h2 := hs.eval hy
    simp only [SV.den, El.den, At.den] at h1 h2
    have : (if a < b then b else a) = max a b := by rw [Int.max_def]; split <;> split <;> omega
    simp [execOp, resolve, invoke, builtin, h1, h2, run_max_int2, this, SV.den, El.den, At.den]⟩
end ops

/-! ### Branches -/
section rules
variable {cx : Cx} {S : St} {Q : Exit → Act → World → Prop}
theorem WP.cond {c : Operand} {x y : Code} {b : Bool} (hc : S.op c = some (.b b)) (ht : b = true → WP cx S x Q) (hf : b = false → WP cx S y Q) : WP cx S (.cond c x y) Q := fun ε I a w hs =>
  wpIn_cond_split (hs.eval hc) (fun h => ht h ε I a w hs) (fun h => hf h ε I a w hs)

/-! ### Entry and return -/
def Post (P : Program) (fn : Func) (R : Ending → World → Prop) : Exit → Act → World → Prop := bodyPostM (fen none) 0 P fn R
def frOf : Nat → List SV → List (Nat × SV)
  | _, [] => []
  | k, x :: t => (k, x) :: frOf (k + 1) t
theorem look_frOf : ∀ (svs : List SV) (k i : Nat) (x : SV), look i (frOf k svs) = some x → k ≤ i ∧ svs[i - k]? = some x
  | [], _, _, _, h => by cases h
  | y :: t, k, i, x, h => by
    rw [frOf, look_cons] at h
    by_cases hk : k = i
    · subst hk; simp at h; simp [h]
    · simp only [hk, if_false] at h
      obtain ⟨h1, h2⟩ := look_frOf t (k + 1) i x h
      refine ⟨by omega, ?_⟩
      obtain ⟨m, hm⟩ : ∃ m, i - k = m + 1 := ⟨i - k - 1, by omega⟩
      rw [hm, List.getElem?_cons_succ]
      have : i - (k + 1) = m := by omega
      rw [this] at h2; exact h2
def FactsOK (ν : Nat → Value) (I : IH) : List (Nat × Pred) → Prop
  | [] => True
  | (j, R) :: t => R.h I (ν j) ∧ FactsOK ν I t
theorem FactsOK.get {ν : Nat → Value} {I : IH} : ∀ {X : List (Nat × Pred)}, FactsOK ν I X → ∀ j R, look j X = some R → R.h I (ν j)
  | (k, R') :: t, h, j, R, hj => by
    rw [look_cons] at hj
    by_cases hk : k = j
    · subst hk; simp at hj; subst hj; exact h.1
    · simp [hk] at hj; exact FactsOK.get h.2 j R hj
/-- **A contract out of the body's walk.** -/
theorem Ct.intro {P : Program} {f : FuncId} {fn : Func} {c : Code} {args : Array Value} {I : IH} {w : World} {E : Nat → Prop} {sv : SV} {X : List (Nat × Pred)} (hf : P.funcs[f]? = some fn) (hb : fn.body = some c) (hI : I.on w)
    (ν : Nat → Value) (svs : List SV) (X0 : List (Nat × Pred)) (n : Nat) (fr : List (Nat × SV)) (hfr : fr = frOf 0 svs) (hargs : args = (svs.map (SV.den ⟨fun _ => 0, ν, fun _ => true⟩)).toArray) (hX : FactsOK ν I X0)
    (hwf : ∀ x ∈ svs, x.res (keys X0)) (hn : ∀ k ∈ keys X0, k < n) (hN : Nat.ble svs.length fn.ntmps = true)
    (h : WP ⟨P, none, w, fn.ntmps, E, I, 0, fun _ => 0, fun _ => undef⟩ ⟨n, fr, X0, [], [], []⟩ c (Post P fn (CtR I w E sv X))) : Ct P f args I w E sv X := by
  refine callsIn_of_wp_marks hf hb trivial ?_
  refine h ⟨fun _ => 0, ν, fun _ => true⟩ I _ w ?_
  have hN' : svs.length ≤ fn.ntmps := by simpa using hN
  subst hargs
  subst hfr
  refine ⟨?_, ?_, fun _ _ h => (by cases h), fun _ h => (by cases h), fun _ _ h => (by cases h), fun _ _ h => (by cases h), ?_, rfl, ?_, hX.get, fun _ _ h => (by cases h), fun _ _ h => (by cases h), fun _ _ _ _ _ h => (by cases h), hI, Keep.refl w, IH.le.rfl', fun _ _ h => .inl h, fun _ h => absurd h (Nat.not_lt_zero _), fun _ _ h => (by cases h)⟩
  · intro i x hx
    have := (look_frOf svs 0 i x hx).2
    exact SV.on_res (fun j hj => hn j hj) (hwf x (List.mem_of_getElem? this))
  · intro j R hj; exact hn j (look_keys hj)
  · simp; omega
  · intro i x hx
    have := (look_frOf svs 0 i x hx).2
    simp only [Nat.sub_zero] at this
    have hi : i < svs.length := (List.getElem?_eq_some_iff.1 this).1
    rw [Array.getElem?_append_left (by simpa using hi)]
    simp [this]

def At.ren (ρ : Nat → Nat) : At → At
  | .q j => .q (ρ j)
  | x => x
def El.ren (ρ : Nat → Nat) : El → El
  | .a x => .a (x.ren ρ)
  | .g l => .g (l.map (At.ren ρ))
/-- What the results are, off the state. -/
inductive ResOf (cx : Cx) (S : St) : List ResultVar → List El → Prop
  | nil : ResOf cx S [] []
  | tmp {t : Tmp} {el : El} {rs : List ResultVar} {els : List El} (h : look t S.fr = some (.e el)) (k : ResOf cx S rs els) : ResOf cx S (.tmp t :: rs) (el :: els)
  | cell1 {t : Tmp} {T T' : TypeId} {k : Nat} {y : At} {rs : List ResultVar} {els : List El} (hT : TyS cx.P T) (h : look t S.fr = some (.e (.a (.p k 0)))) (hk : look k S.L = some (.blk [y] T')) (r : ResOf cx S rs els) : ResOf cx S (.cell t T :: rs) (.a y :: els)
  | cellg {t : Tmp} {T T' : TypeId} {k m : Nat} {cs : List At} {rs : List ResultVar} {els : List El} (hT : TyG cx.P T m) (h : look t S.fr = some (.e (.a (.p k 0)))) (hk : look k S.L = some (.blk cs T')) (hm : cs.length = m) (r : ResOf cx S rs els) : ResOf cx S (.cell t T :: rs) (.g cs :: els)
def rv (tmps : Array Value) : ResultVar → Sem Value
  | .tmp t => pure (tmps.getD t undef)
  | .cell p t => do loadVar t (← asAddr (tmps.getD p undef))
theorem rv_tmp {P : Program} {tmps : Array Value} {t : Tmp} {v : Value} {w : World} (h : tmps[t]? = some v) : (rv tmps (.tmp t)).run P w = .ok v w := by
  simp [rv, h]
theorem rv_cell {P : Program} {tmps : Array Value} {t : Tmp} {T : TypeId} {ad : Addr} {w : World} {r : Result Value} (h : tmps[t]? = some (.pointer (some ad))) (hr : (loadVar T ad).run P w = r) : (rv tmps (.cell t T)).run P w = r := by
  simp [rv, h, asAddr, hr]
theorem ResOf.run {cx : Cx} {M : Nat → Prop} {ε : Env} {I : IH} {S : St} {a : Act} {w : World} (hs : SatM cx M ε I S a w) {rs : List ResultVar} {els : List El} (h : ResOf cx S rs els) :
    (rs.mapM (rv a.tmps)).run cx.P w = .ok (els.map (El.den ε)) w := by
  induction h with
  | nil => rfl
  | tmp h k ih =>
    rw [List.mapM_cons, Sem.run_bind, rv_tmp (hs.fr _ _ h)]
    simp only [Result.andThen_ok, Sem.run_bind, ih, Sem.run_pure, List.map_cons, SV.den]
  | cell1 hT h hk k ih =>
    have h2 := hs.blk hk 0
    rw [List.mapM_cons, Sem.run_bind, rv_cell (hs.fr _ _ h) (show _ = .ok _ _ by simp only [loadVar, Sem.run_bind, hT.ag, Result.andThen_ok, Bool.false_eq_true, if_false, load, Sem.run, h2]; rfl)]
    simp only [Result.andThen_ok, Sem.run_bind, ih, Sem.run_pure, List.map_cons, El.den]
  | @cellg t T T' k m cs rs els hT h hk hm k' ih =>
    have h3 := run_loadCells_list (P := cx.P) (w := w) ⟨ε.β k, 0, none⟩ (cs.map (At.den ε)) (fun j v hj => by
      rw [Addr.add_plain, hs.blk hk, Nat.zero_add]
      rw [List.getElem?_map] at hj; exact hj)
    rw [List.length_map, hm] at h3
    rw [List.mapM_cons, Sem.run_bind, rv_cell (hs.fr _ _ h) (show _ = .ok _ _ by simp only [loadVar, Sem.run_bind, hT.ag, hT.sz, Result.andThen_ok, if_true, h3, Sem.run_pure]; rfl)]
    simp only [Result.andThen_ok, Sem.run_bind, ih, Sem.run_pure, List.map_cons, El.den]
def resSV : List El → SV
  | [x] => .e x
  | l => .t l
theorem results_run {cx : Cx} {M : Nat → Prop} {ε : Env} {I : IH} {S : St} {a : Act} {w : World} {fn : Func} (hs : SatM cx M ε I S a w) {rs : List ResultVar} {els : List El} (h : ResOf cx S rs els) (hr : fn.results = rs.toArray) :
    (results fn a.tmps).run cx.P w = .ok ((resSV els).den ε) w := by
  have h1 := ResOf.run hs h
  have e : results fn a.tmps = (do let vs ← fn.results.mapM (rv a.tmps); pure (if h : vs.size = 1 then vs[0] else .tuple vs)) := by
    unfold results
    congr 1
  rw [e, hr, List.mapM_toArray]
  simp only [Sem.run_bind, Sem.run_map, h1, Result.andThen_ok, Sem.run_pure]
  congr 1
  match els with
  | [] => rfl
  | [x] => rfl
  | x :: y :: t => simp [resSV, SV.den]
theorem run_take {P : Program} {w : World} {b : Nat} {ds : List Deferred} (h : w.heap[b]? = some (.deferred (some ds))) :
    (Instr.takeDeferred b).run P w = .ok ds { w with heap := w.heap.setIfInBounds b (.deferred none) } := by
  simp [Instr.takeDeferred, Sem.run_bind, getObj, setObj, Sem.run, h, Result.andThen]
theorem ResOf.dead {cx : Cx} {S : St} {rs : List ResultVar} {els : List El} {k0 : Nat} {o : Obj} {D' : List Nat} (hk0 : look k0 S.L = some (.ob o)) (h : ResOf cx S rs els) : ResOf cx { S with L := (k0, .dead) :: S.L, D := D' } rs els := by
  have key : ∀ k cs T, look k S.L = some (.blk cs T) → look k ((k0, Ent.dead) :: S.L) = some (.blk cs T) := by
    intro k cs T hk
    rw [look_cons]
    by_cases e : k0 = k
    · subst e; rw [hk0] at hk; cases hk
    · simp [e, hk]
  induction h with
  | nil => exact .nil
  | tmp h _ ih => exact .tmp h ih
  | cell1 hT h hk _ ih => exact .cell1 hT h (key _ _ _ hk) ih
  | cellg hT h hk hm _ ih => exact .cellg hT h (key _ _ _ hk) hm ih
/-- The marks are taken over one by one; then the results are read. -/
theorem leavesM {cx : Cx} {fn : Func} {R : Ending → World → Prop} {rs : List ResultVar} {els : List El} {ε : Env} {I : IH} {M : Nat → Prop} (hr : fn.results = rs.toArray) :
    ∀ (D : List Nat) (S : St) (a : Act) (w : World), S.D = D → (∀ k ∈ D, look k S.L = some (.ob (.deferred (some [])))) → D.Nodup → SatM cx M ε I S a w → ResOf cx S rs els →
    (∀ w', Keep cx.E cx.w0 w' → I.on w' → R (.returned ((resSV els).den ε)) w') → LeavesInM (fen none) 0 cx.P fn a.tmps R a.defers .returning w
  | [], S, a, w, hD, _, _, hs, hres, hR => by
    have : a.defers = [] := by rw [hs.defs, hD]; rfl
    rw [this]
    exact ⟨_, results_run hs hres hr, hR w hs.keep hs.imm⟩
  | k :: D, S, a, w, hD, hmk, hnd, hs, hres, hR => by
    have : a.defers = markOf ε.β k :: D.map (markOf ε.β) := by rw [hs.defs, hD]; rfl
    rw [this]
    have hob := hmk k List.mem_cons_self
    have hL := hs.L k _ hob
    simp only [Ent.ok] at hL
    have hlt := (Array.getElem?_eq_some_iff.1 hL).1
    have hft := hs.foot k _ hob _ rfl
    refine ⟨by simp, .inl ⟨_, _, rfl, run_take hL, ?_⟩⟩
    have hoth : ∀ b, b ≠ ε.β k → ({ w with heap := w.heap.setIfInBounds (ε.β k) (.deferred none) } : World).heap[b]? = w.heap[b]? := fun b hb => by
      simp [Array.getElem?_setIfInBounds_ne (Ne.symm hb)]
    have himm : I.on { w with heap := w.heap.setIfInBounds (ε.β k) (.deferred none) } := fun b o hb => by
      rw [hoth b (fun e => by rw [e, hft.2.2] at hb; cases hb)]; exact hs.imm b o hb
    have hlk : ∀ i e, look i ((k, Ent.dead) :: S.L) = some e → (i = k ∧ e = .dead) ∨ (i ≠ k ∧ look i S.L = some e) := by
      intro i e he
      rw [look_cons] at he
      by_cases hk : k = i
      · subst hk; simp at he; exact .inl ⟨rfl, he.symm⟩
      · simp [hk] at he; exact .inr ⟨fun e => hk e.symm, he⟩
    have := leavesM (R := R) hr D { S with L := (k, .dead) :: S.L, D := D } { a with defers := D.map (markOf ε.β) } { w with heap := w.heap.setIfInBounds (ε.β k) (.deferred none) } rfl
      (fun i hi => by
        have hne : k ≠ i := fun e => by subst e; exact (List.nodup_cons.1 hnd).1 hi
        simp only [look_cons, hne, if_false]; exact hmk i (List.mem_cons_of_mem _ hi)) (List.nodup_cons.1 hnd).2
      { wfr := hs.wfr, wfX := hs.wfX, wfG := hs.wfG, G := hs.G, size := hs.size, fr := hs.fr, X := hs.X, le0 := hs.le0, fr0 := hs.fr0
        wfL := fun i e he => by
          rcases hlk i e he with ⟨rfl, rfl⟩ | ⟨_, he⟩
          · exact ⟨(hs.wfL i _ hob).1, trivial⟩
          · exact hs.wfL i e he
        wfD := fun i hi => hs.wfD i (by rw [hD]; exact List.mem_cons_of_mem _ hi)
        defs := rfl
        L := fun i e he => by
          rcases hlk i e he with ⟨rfl, rfl⟩ | ⟨hne, he⟩
          · trivial
          · exact Ent.ok_kept (M := M) Env.agree.refl IH.le.rfl' (hs.wfL i e he).1 (hs.wfL i e he).2 (hs.L i e he) (fun b hb => hoth b (fun eb => hs.sep i k e _ b he hob hne hb (by rw [eb]; rfl))) (fun x hx => by
            subst hx
            obtain ⟨hx1, hx2⟩ := hs.ext i x he
            refine ⟨IH.le.rfl', himm, rfl, rfl, rfl, by simp, fun b hb hn => hoth b (fun eb => ?_), fun b o hb => .inl hb⟩
            have hnF : ¬ x.F b := fun hF => hs.sep i k _ _ b he hob hne hF eb
            rcases hn with hn | hn
            · rcases hft.1 with h1 | h1
              · rw [← eb] at h1
                have := (hx2 b hn).1
                omega
              · rw [← eb] at h1
                exact hnF ((hx2 b hn).2 h1)
            · exact hnF hn)
        foot := fun i e he b hb => by
          rcases hlk i e he with ⟨rfl, rfl⟩ | ⟨_, he⟩
          · cases hb
          · have := hs.foot i e he b hb
            exact ⟨this.1, by simpa using this.2.1, this.2.2⟩
        sep := fun i i' e e' b he he' hne hb => by
          rcases hlk i e he with ⟨rfl, rfl⟩ | ⟨_, he⟩
          · cases hb
          · rcases hlk i' e' he' with ⟨rfl, rfl⟩ | ⟨_, he'⟩
            · simp [Ent.foot]
            · exact hs.sep i i' e e' b he he' hne hb
        imm := himm
        pin := hs.pin
        ext := fun i x hx => by
          rcases hlk i _ hx with ⟨_, hx⟩ | ⟨_, hx⟩
          · cases hx
          · exact hs.ext i x hx
        keep := ⟨hs.keep.os, hs.keep.tape, hs.keep.output, by simpa using hs.keep.size, fun b hb hE => by
          rw [hoth b (fun e => by rw [e] at hb hE; rcases hft.1 with h | h; · omega
                                  · exact hE h)]
          exact hs.keep.block b hb hE⟩ } (ResOf.dead hob hres) hR
    exact this

def El.resb (J : List Nat) : El → Prop := El.res J
def SV.ren (ρ : Nat → Nat) : SV → SV
  | .e x => .e (x.ren ρ)
  | .t l => .t (l.map (El.ren ρ))
  | .c g x => .c g x
theorem At.den_ren {J : List Nat} {ρ : Nat → Nat} {ε : Env} {b : Nat → Nat} {g : Nat → Bool} : ∀ {x : At}, x.res J → (x.ren ρ).den ε = x.den ⟨b, fun j => ε.ν (ρ j), g⟩
  | .v _, _ => rfl
  | .q _, _ => rfl
theorem El.den_ren {J : List Nat} {ρ : Nat → Nat} {ε : Env} {b : Nat → Nat} {g : Nat → Bool} : ∀ {x : El}, x.res J → (x.ren ρ).den ε = x.den ⟨b, fun j => ε.ν (ρ j), g⟩
  | .a _, hx => At.den_ren hx
  | .g l, hx => by simp only [El.ren, El.den, List.map_map]; rw [List.map_congr_left (fun c hc => by show (c.ren ρ).den ε = _; exact At.den_ren (b := b) (g := g) (hx c hc))]
theorem SV.den_ren {J : List Nat} {ρ : Nat → Nat} {ε : Env} {b : Nat → Nat} {g : Nat → Bool} : ∀ {x : SV}, x.res J → (x.ren ρ).den ε = x.den ⟨b, fun j => ε.ν (ρ j), g⟩
  | .e _, hx => El.den_ren hx
  | .t l, hx => by simp only [SV.ren, SV.den, List.map_map]; rw [List.map_congr_left (fun c hc => by show (c.ren ρ).den ε = _; exact El.den_ren (b := b) (g := g) (hx c hc))]
def RenOK (X : List (Nat × Pred)) (ρ : Nat → Nat) : List (Nat × Pred) → Prop
  | [] => True
  | (j, R) :: t => Has X (ρ j) R ∧ RenOK X ρ t
theorem RenOK.get {X : List (Nat × Pred)} {ρ : Nat → Nat} : ∀ {X' : List (Nat × Pred)}, RenOK X ρ X' → ∀ j R, look j X' = some R → Has X (ρ j) R
  | (k, R') :: t, h, j, R, hj => by
    rw [look_cons] at hj
    by_cases hk : k = j
    · subst hk; simp at hj; subst hj; exact h.1
    · simp [hk] at hj; exact RenOK.get h.2 j R hj
/-- **The function's end**: its results, read off the state, are the contract's. -/
theorem EX.fin {cx : Cx} {S : St} {fn : Func} {rs : List ResultVar} {els : List El} {sv : SV} {X : List (Nat × Pred)} {e : Exit} (ρ : Nat → Nat) (he : e = .ret ∨ e = .normal) (hr : fn.results = rs.toArray) (hres : ResOf cx S rs els)
    (hsv : resSV els = sv.ren ρ) (hw : sv.res (keys X)) (hX : RenOK S.X ρ X) (hmk : ∀ k ∈ S.D, look k S.L = some (.ob (.deferred (some [])))) (hnd : S.D.Nodup) :
    EX cx S e (Post cx.P fn (CtR cx.I0 cx.w0 cx.E sv X)) := by
  intro ε I a w hs
  have key : LeavesInM (fen none) 0 cx.P fn a.tmps (CtR cx.I0 cx.w0 cx.E sv X) a.defers .returning w :=
    leavesM hr S.D S a w rfl hmk hnd hs hres fun w' hk hon =>
      ⟨I, fun j => ε.ν (ρ j), by rw [hsv, SV.den_ren hw], hk, hs.le0, hon, hs.fr0, fun j R hj => hs.has (hX.get j R hj)⟩
  rcases he with rfl | rfl <;> exact key
end rules
end Go.Eng
