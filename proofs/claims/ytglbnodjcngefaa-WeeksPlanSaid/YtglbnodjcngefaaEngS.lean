/- The engine, part S: facts on function values and iterators; contracts that hand own memory back, or are lent memory that they turn; constants that are handed over; own rows that are known to be new. -/
import Derived.Test.YtglbnodjcngefaaEngR
set_option linter.unusedSimpArgs false
set_option linter.unusedVariables false
namespace Go.Eng
open Go

/-! ### One hidden cell -/
/-- A cell that holds a value of which R is known. -/
def EP.box (R : Pred) : EP Unit := ⟨1, fun I cs _ => ∃ v, cs = [v] ∧ R.h I v, fun ⟨_, h, _⟩ => by rw [h]; rfl, fun hI ⟨v, h, k⟩ => ⟨v, h, R.mono hI k⟩⟩
theorem boxx {R : Pred} : ∀ I cs, (EP.box R).h I cs () → ∃ u, cs[0]? = some u ∧ R.h I u := fun _ _ ⟨v, h, k⟩ => ⟨v, by rw [h]; rfl, k⟩
theorem bok_box {cx : Cx} {S : St} {R : Pred} {j : Nat} (hj : Has S.X j R) : ∀ M ε I a w, SatM cx M ε I S a w → (EP.box R).h I (([.q j] : List At).map (At.den ε)) () := fun _ _ _ _ _ hs => ⟨_, rfl, hs.has hj⟩
theorem bok_int {cx : Cx} {S : St} {n : Int} : ∀ M ε I a w, SatM cx M ε I S a w → EP.int.h I (([ai n] : List At).map (At.den ε)) n := fun _ _ _ _ _ _ => rfl
theorem bok_con {cx : Cx} {S : St} {u : Value} : ∀ M ε I a w, SatM cx M ε I S a w → (EP.box (Pred.is u)).h I (([.v u] : List At).map (At.den ε)) () := fun _ _ _ _ _ _ => ⟨_, rfl, rfl⟩
def Pred.all {ι : Type} (R : ι → Pred) : Pred := ⟨fun I v => ∀ i, (R i).h I v, fun hI h i => (R i).mono hI (h i)⟩
theorem lxa {X : List (Nat × Pred)} {j : Nat} {ι : Type} {R : ι → Pred} (i : ι) (h : look j X = some (Pred.all R)) : Has X j (R i) := ⟨_, h, fun _ _ h => h i⟩
theorem Has.of {X : List (Nat × Pred)} {j : Nat} {R R' : Pred} (h : Has X j R) (k : ∀ I v, R.h I v → R'.h I v) : Has X j R' := by
  obtain ⟨R0, h1, h2⟩ := h; exact ⟨R0, h1, fun I v h => k I v (h2 I v h)⟩

/-! ### Arguments: as they are, or constants under a name -/
def SvsOK (S : St) : List SV → List SV → Prop
  | [], [] => True
  | y :: ys, x :: xs => (y = x ∨ ∃ j u, x = .e (.a (.q j)) ∧ (∀ ε, y.den ε = u) ∧ Has S.X j (Pred.is u)) ∧ SvsOK S ys xs
  | _, _ => False
theorem SvsOK.den {cx : Cx} {M : Nat → Prop} {ε : Env} {I : IH} {S : St} {a : Act} {w : World} (hs : SatM cx M ε I S a w) : ∀ {ys xs : List SV}, SvsOK S ys xs → ys.map (SV.den ε) = xs.map (SV.den ε)
  | [], [], _ => rfl
  | y :: ys, x :: xs, h => by
    rw [List.map_cons, List.map_cons, SvsOK.den hs h.2]
    rcases h.1 with h1 | ⟨j, u, rfl, h2, h3⟩
    · rw [h1]
    · rw [h2 ε, show SV.den ε (.e (.a (.q j))) = u from hs.has h3]
theorem SvsOK.rf {S : St} : ∀ {l : List SV}, SvsOK S l l
  | [] => trivial
  | _ :: _ => ⟨.inl rfl, SvsOK.rf⟩
theorem svs_ren {ε : Env} {ρ : Nat → Nat} {svs : List SV} {J : List Nat} (hwf : ∀ x ∈ svs, x.res J) : (svs.map (SV.ren ρ)).map (SV.den ε) = svs.map (den0 fun j => ε.ν (ρ j)) := by
  rw [List.map_map]; exact List.map_congr_left (fun x hx => SV.ren_den (hwf x hx))

section ops
variable {cx : Cx} {S : St} {dst : Option Tmp} {ty : TypeId} {pos : String} {af : Array Edge} {gd : Option (Nat × Bool)}
/-- A call by its callee's signature, constants handed over. -/
theorem o_sigc {P : Program} {f : FuncId} {l : List Operand} {ts : Array TypeId} {svs svs' : List SV} {X0 : List (Nat × Pred)} {sv : SV} {X : List (Nat × Pred)} (m : Nat) (ρ : Nat → Nat) (hs : Sig P f svs X0 sv X) (hf : Enters' P f) (hP : cx.P = P) (hl : S.ops l = some svs') (hren : SvsOK S svs' (svs.map (SV.ren ρ)))
    (hwf : ∀ x ∈ svs, x.res (keys X0)) (hX : RenOK S.X ρ X0) (hres : sv.res (keys X)) :
    OpG cx S ⟨dst, .call { callee := .value (.func f), args := l.toArray, argTypes := ts }, ty, pos, af, gd⟩ ⟨sv.ren (m + ·), keys (sh m X), sh m X, [], []⟩ := by
  subst hP
  refine o_call hf hl (by rw [keys_sh]; exact SV.ren_res hres) fun M ε I a w h => ?_
  have := hs I w (fun j => ε.ν (ρ j)) h.imm (FactsOK.of (fun j R hj => h.has hj) hX)
  rw [hren.den h, svs_ren hwf]
  exact CallsIn.mono this fun e w' h => CtR.shift hres h
/-- A call that is lent all memory, constants handed over. -/
theorem o_sigbc {P : Program} {f : FuncId} {l : List Operand} {ts : Array TypeId} {svs svs' : List SV} {X0 : List (Nat × Pred)} {sv : SV} {X : List (Nat × Pred)} (m : Nat) (ρ : Nat → Nat) (hs : SigF P f svs X0 sv X) (hf : Enters' P f) (hP : cx.P = P) (hl : S.ops l = some svs') (hren : SvsOK S svs' (svs.map (SV.ren ρ)))
    (hwf : ∀ x ∈ svs, x.res (keys X0)) (hX : LendOK S ρ X0) (hres : sv.res (keys X)) :
    OpG cx S ⟨dst, .call { callee := .value (.func f), args := l.toArray, argTypes := ts }, ty, pos, af, gd⟩ ⟨sv.ren (m + ·), keys (sh m X), sh m X, [], []⟩ := by
  subst hP
  refine o_callb hf hl (by rw [keys_sh]; exact SV.ren_res hres) fun M ε I a w h => ?_
  have := hs (World.all w) w (fun j => ε.ν (ρ j)) (World.all_on w) (LendOK.ok h hX)
  rw [hren.den h, svs_ren hwf, ← sh_map]
  exact CallsIn.mono this fun e w' h => CtR.shift (by
    have : keys (X.map fun p => (p.1, Pred.from w.heap.size p.2)) = keys X := by simp [keys]
    rw [this]; exact hres) h
end ops

/-! ### Function values -/
/-- A function value of which a contract is known. -/
def FvP (P : Program) (svs : List SV) (X0 : List (Nat × Pred)) (sv : SV) (X : List (Nat × Pred)) : Pred where
  h I v := (∃ fn fs cs, v = .func fn fs cs) ∧ ∀ (I' : IH) (w : World) (ν : Nat → Value), I.le I' → I'.on w → FactsOK ν I' X0 → ∃ f args', FnV P v (svs.map (den0 ν)) f args' ∧ Ct P f args' I' w Emp sv X
  mono hI h := ⟨h.1, fun I' w ν hle => h.2 I' w ν (hI.trans hle)⟩
/-- A function value. -/
def Pred.fn : Pred := ⟨fun _ v => ∃ fn fs cs, v = .func fn fs cs, fun _ h => h⟩
theorem FvP.fn {P : Program} {svs : List SV} {X0 : List (Nat × Pred)} {sv : SV} {X : List (Nat × Pred)} : ∀ I v, (FvP P svs X0 sv X).h I v → Pred.fn.h I v := fun _ _ h => h.1
theorem Pred.fn_one : ∀ I v, Pred.fn.h I v → v.oneCell' = true := by rintro I v ⟨_, _, _, rfl⟩; rfl
theorem FvP.one {P : Program} {svs : List SV} {X0 : List (Nat × Pred)} {sv : SV} {X : List (Nat × Pred)} : ∀ I v, (FvP P svs X0 sv X).h I v → v.oneCell' = true := fun I v h => Pred.fn_one I v (FvP.fn I v h)
theorem FvP.onea {P : Program} {ι : Type} [Inhabited ι] {svs : ι → List SV} {X0 : ι → List (Nat × Pred)} {sv : ι → SV} {X : ι → List (Nat × Pred)} : ∀ I v, (Pred.all fun i => FvP P (svs i) (X0 i) (sv i) (X i)).h I v → v.oneCell' = true := fun I v h => FvP.one I v (h default)
theorem FactsOK.app {ν : Nat → Value} {I : IH} : ∀ {X X' : List (Nat × Pred)}, FactsOK ν I X → FactsOK ν I X' → FactsOK ν I (X ++ X')
  | [], _, _, h => h
  | _ :: _, _, h, h' => ⟨h.1, FactsOK.app h.2 h'⟩
theorem FactsOK.mono {ν : Nat → Value} {I I' : IH} (hI : I.le I') : ∀ {X : List (Nat × Pred)}, FactsOK ν I X → FactsOK ν I' X
  | [], _ => trivial
  | p :: _, h => ⟨p.2.mono hI h.1, FactsOK.mono hI h.2⟩
theorem FactsOK.congr {ν ν' : Nat → Value} {I : IH} : ∀ {X : List (Nat × Pred)}, (∀ k ∈ keys X, ν' k = ν k) → FactsOK ν I X → FactsOK ν' I X
  | [], _, _ => trivial
  | (k, R) :: t, h, hf => ⟨by rw [h k (by simp [keys])]; exact hf.1, FactsOK.congr (fun j hj => h j (List.mem_cons_of_mem _ hj)) hf.2⟩
theorem den0_congr {ν ν' : Nat → Value} {J : List Nat} (h : ∀ k ∈ J, ν' k = ν k) {x : SV} (hx : x.res J) : den0 ν' x = den0 ν x := SV.den_res (ε := ⟨fun _ => 0, ν, fun _ => true⟩) (ε' := ⟨fun _ => 0, ν', fun _ => true⟩) h hx
def disj (a b : List Nat) : Bool := a.all fun k => notin k b
theorem FvP.mk {P : Program} {f : FuncId} {svs cs : List SV} {X0 Xc : List (Nat × Pred)} {sv : SV} {X : List (Nat × Pred)} (hs : Sig P f (svs ++ cs) (X0 ++ Xc) sv X) (hen : Enters' P f) (hd : disj (keys Xc) (keys X0) = true)
    (hwf : ∀ x ∈ svs, x.res (keys X0)) (hwc : ∀ x ∈ cs, x.res (keys Xc)) {I : IH} {ν : Nat → Value} (hc : FactsOK ν I Xc) : (FvP P svs X0 sv X).h I (.func (.func f) #[] (cs.map (den0 ν)).toArray) := by
  refine ⟨⟨_, _, _, rfl⟩, ?_⟩
  intro I' w ν' hle hon hX
  let ν2 : Nat → Value := fun k => if k ∈ keys X0 then ν' k else ν k
  have e1 : ∀ k ∈ keys X0, ν2 k = ν' k := fun k hk => by simp [ν2, hk]
  have e2 : ∀ k ∈ keys Xc, ν2 k = ν k := fun k hk => by
    have : k ∉ keys X0 := notin_iff (List.all_eq_true.1 hd k hk)
    simp [ν2, this]
  refine ⟨f, _, FnV.of hen, ?_⟩
  have := hs I' w ν2 hon (FactsOK.app (FactsOK.congr e1 hX) (FactsOK.congr e2 (FactsOK.mono hle hc)))
  have ha : (#[] ++ (svs.map (den0 ν')).toArray ++ (cs.map (den0 ν)).toArray : Array Value) = ((svs ++ cs).map (den0 ν2)).toArray := by
    rw [List.map_append, List.map_congr_left (fun x hx => (den0_congr e1 (hwf x hx)).symm), List.map_congr_left (fun x hx => (den0_congr e2 (hwc x hx)).symm)]
    simp
  rw [ha]; exact this
section ops
variable {cx : Cx} {S : St} {dst : Option Tmp} {ty : TypeId} {pos : String} {af : Array Edge} {gd : Option (Nat × Bool)}
theorem o_callfv {P : Program} {x : Operand} {l : List Operand} {ts : Array TypeId} {svs svs' : List SV} {X0 : List (Nat × Pred)} {sv : SV} {X : List (Nat × Pred)} {j : Nat} (m : Nat) (ρ : Nat → Nat) (hx : S.op x = some (.e (.a (.q j)))) (hj : Has S.X j (FvP P svs X0 sv X)) (hP : cx.P = P)
    (hl : S.ops l = some svs') (hren : SvsOK S svs' (svs.map (SV.ren ρ))) (hwf : ∀ x ∈ svs, x.res (keys X0)) (hX : RenOK S.X ρ X0) (hres : sv.res (keys X)) :
    OpG cx S ⟨dst, .call { callee := .value x, args := l.toArray, argTypes := ts }, ty, pos, af, gd⟩ ⟨sv.ren (m + ·), keys (sh m X), sh m X, [], []⟩ := by
  subst hP
  refine o_callv hx hl (by rw [keys_sh]; exact SV.ren_res hres) fun M ε I a w h => ?_
  obtain ⟨f, args', h1, h2⟩ := (h.has hj).2 I w (fun j => ε.ν (ρ j)) IH.le.rfl' h.imm (FactsOK.of (fun j R hj => h.has hj) hX)
  refine ⟨f, args', ?_, CallsIn.mono h2 fun e w' h => CtR.shift hres h⟩
  rw [hren.den h, svs_ren hwf]; exact h1
/-- The same, lent all memory: a result without memory. -/
theorem o_callfvb {P : Program} {x : Operand} {l : List Operand} {ts : Array TypeId} {svs svs' : List SV} {X0 : List (Nat × Pred)} {sv : SV} {j : Nat} (m : Nat) (ρ : Nat → Nat) (hx : S.op x = some (.e (.a (.q j)))) (hj : Has S.X j (FvP P svs X0 sv [])) (hP : cx.P = P)
    (hl : S.ops l = some svs') (hren : SvsOK S svs' (svs.map (SV.ren ρ))) (hwf : ∀ x ∈ svs, x.res (keys X0)) (hX : LendOK S ρ X0) (hres : sv.res (keys ([] : List (Nat × Pred)))) :
    OpG cx S ⟨dst, .call { callee := .value x, args := l.toArray, argTypes := ts }, ty, pos, af, gd⟩ ⟨sv.ren (m + ·), keys (sh m ([] : List (Nat × Pred))), sh m [], [], []⟩ := by
  subst hP
  refine o_callvb hx hl (by rw [keys_sh]; exact SV.ren_res hres) fun M ε I a w h => ?_
  obtain ⟨f, args', h1, h2⟩ := (h.has hj).2 (World.all w) w (fun j => ε.ν (ρ j)) (fun b o hb => h.imm b o hb) (World.all_on w) (LendOK.ok h hX)
  refine ⟨f, args', ?_, CallsIn.mono h2 fun e w' h => CtR.shift hres h⟩
  rw [hren.den h, svs_ren hwf]; exact h1
/-- A function value is made, with what it captures. -/
theorem o_mkfv {P : Program} {f : FuncId} {l' : List Operand} {svs cs svs' : List SV} {X0 Xc : List (Nat × Pred)} {sv : SV} {X : List (Nat × Pred)} (k : Nat) (ρ : Nat → Nat) (hs : Sig P f (svs ++ cs) (X0 ++ Xc) sv X) (hen : Enters' P f) (hd : disj (keys Xc) (keys X0) = true)
    (hl' : S.ops l' = some svs') (hren : SvsOK S svs' (cs.map (SV.ren ρ))) (hwf : ∀ x ∈ svs, x.res (keys X0)) (hwc : ∀ x ∈ cs, x.res (keys Xc)) (hX : RenOK S.X ρ Xc) :
    OpG cx S ⟨dst, .makeFunc (.func f) #[] l'.toArray, ty, pos, af, gd⟩ ⟨.e (.a (.q k)), [k], [(k, FvP P svs X0 sv X)], [], []⟩ :=
  o_mkfn (l := []) rfl hl' fun M ε I a w h => by
    have := FvP.mk hs hen hd hwf hwc (I := I) (ν := fun j => ε.ν (ρ j)) (FactsOK.of (fun j R hj => h.has hj) hX)
    rw [hren.den h, svs_ren hwc]; exact this
/-- The same, for a family of contracts. -/
theorem o_mkfva {P : Program} {f : FuncId} {l' : List Operand} {cs svs' : List SV} {Xc : List (Nat × Pred)} {ι : Type} {svs : ι → List SV} {X0 : ι → List (Nat × Pred)} {sv : ι → SV} {X : ι → List (Nat × Pred)} (k : Nat) (ρ : Nat → Nat) (hs : ∀ i, Sig P f (svs i ++ cs) (X0 i ++ Xc) (sv i) (X i)) (hen : Enters' P f) (hd : ∀ i, disj (keys Xc) (keys (X0 i)) = true)
    (hl' : S.ops l' = some svs') (hren : SvsOK S svs' (cs.map (SV.ren ρ))) (hwf : ∀ i, ∀ x ∈ svs i, x.res (keys (X0 i))) (hwc : ∀ x ∈ cs, x.res (keys Xc)) (hX : RenOK S.X ρ Xc) :
    OpG cx S ⟨dst, .makeFunc (.func f) #[] l'.toArray, ty, pos, af, gd⟩ ⟨.e (.a (.q k)), [k], [(k, Pred.all fun i => FvP P (svs i) (X0 i) (sv i) (X i))], [], []⟩ :=
  o_mkfn (l := []) rfl hl' fun M ε I a w h => by
    intro i
    have := FvP.mk (hs i) hen (hd i) (hwf i) hwc (I := I) (ν := fun j => ε.ν (ρ j)) (FactsOK.of (fun j R hj => h.has hj) hX)
    rw [hren.den h, svs_ren hwc]; exact this
end ops
/-- A function by its name, as a value. -/
theorem FvP.name {P : Program} {f : FuncId} {svs : List SV} {X0 : List (Nat × Pred)} {sv : SV} {X : List (Nat × Pred)} (hs : Sig P f svs X0 sv X) (hen : Enters' P f) (hwf : ∀ x ∈ svs, x.res (keys X0)) (I : IH) : ((FvP P svs X0 sv X).and (Pred.is (.func (.func f) #[] #[]))).h I (.func (.func f) #[] #[]) :=
  ⟨FvP.mk (cs := []) (Xc := []) (by rw [List.append_nil, List.append_nil]; exact hs) hen rfl hwf (fun _ h => by cases h) (ν := fun _ => undef) trivial, rfl⟩
theorem FvP.namea {P : Program} {f : FuncId} {ι : Type} {svs : ι → List SV} {X0 : ι → List (Nat × Pred)} {sv : ι → SV} {X : ι → List (Nat × Pred)} (hs : ∀ i, Sig P f (svs i) (X0 i) (sv i) (X i)) (hen : Enters' P f) (hwf : ∀ i, ∀ x ∈ svs i, x.res (keys (X0 i))) (I : IH) :
    ((Pred.all fun i => FvP P (svs i) (X0 i) (sv i) (X i)).and (Pred.is (.func (.func f) #[] #[]))).h I (.func (.func f) #[] #[]) := ⟨fun i => (FvP.name (hs i) hen (hwf i) I).1, rfl⟩

/-! ### Iterators -/
def ItP (P : Program) (items : List Item) : Pred := ⟨fun I v => ∃ f cs, v = .func (.func f) #[] cs ∧ Enters' P f ∧ ∀ I' w, I.le I' → I'.on w → ItC P f (fun y => #[] ++ #[y] ++ cs) I' w items, fun hI ⟨f, cs, h1, h2, h3⟩ => ⟨f, cs, h1, h2, fun I' w hle => h3 I' w (hI.trans hle)⟩⟩
def SigI (P : Program) (f : FuncId) (cs : List SV) (Xc : List (Nat × Pred)) (items : List Item) : Prop := ∀ (I : IH) (w : World) (ν : Nat → Value), I.on w → FactsOK ν I Xc → ItC P f (fun y => #[] ++ #[y] ++ (cs.map (den0 ν)).toArray) I w items
theorem ItP.hit {cx : Cx} {S : St} {j : Nat} {items : List Item} (hj : Has S.X j (ItP cx.P items)) : ∀ M ε I a w, SatM cx M ε I S a w → ∃ f fs cs, (SV.e (.a (.q j))).den ε = .func (.func f) fs cs ∧ Enters' cx.P f ∧ ∀ w2, I.on w2 → ItC cx.P f (fun y => fs ++ #[y] ++ cs) I w2 items := fun M ε I a w hs => by
  obtain ⟨f, cs, h1, h2, h3⟩ := hs.has hj
  exact ⟨f, #[], cs, h1, h2, fun w2 h => h3 I w2 IH.le.rfl' h⟩
theorem ItP.name {P : Program} {f : FuncId} {items : List Item} (hs : SigI P f [] [] items) (hen : Enters' P f) (I : IH) : ((ItP P items).and (Pred.is (.func (.func f) #[] #[]))).h I (.func (.func f) #[] #[]) :=
  ⟨⟨f, #[], rfl, hen, fun I' w _ hon => hs I' w (fun _ => undef) hon trivial⟩, rfl⟩
/-- A bound method as an iterator, or a function whose first argument is laid. -/
theorem o_mkit {cx : Cx} {S : St} {dst : Option Tmp} {ty : TypeId} {pos : String} {af : Array Edge} {gd : Option (Nat × Bool)} {P : Program} {f : FuncId} {l' : List Operand} {cs svs' : List SV} {Xc : List (Nat × Pred)} {items : List Item} (k : Nat) (ρ : Nat → Nat) (hs : SigI P f cs Xc items) (hen : Enters' P f)
    (hl' : S.ops l' = some svs') (hren : SvsOK S svs' (cs.map (SV.ren ρ))) (hwc : ∀ x ∈ cs, x.res (keys Xc)) (hX : RenOK S.X ρ Xc) :
    OpG cx S ⟨dst, .makeFunc (.func f) #[] l'.toArray, ty, pos, af, gd⟩ ⟨.e (.a (.q k)), [k], [(k, ItP P items)], [], []⟩ :=
  o_mkfn (l := []) rfl hl' fun M ε I a w h => by
    rw [hren.den h, svs_ren hwc]
    exact ⟨f, _, rfl, hen, fun I' w' hle hon => hs I' w' _ hon (FactsOK.mono hle (FactsOK.of (fun j R hj => h.has hj) hX))⟩
/-- The iterator's contract out of its body's walk. ky: the key of what its caller turns between the yields. -/
theorem SigI.intro {P : Program} {f : FuncId} {fn : Func} {c : Code} {cs : List SV} {Xc : List (Nat × Pred)} {items : List Item} (hf : P.funcs[f]? = some fn) (hb : fn.body = some c) (n ky : Nat) (hwf : ∀ x ∈ cs, x.res (keys Xc)) (hn : (keys Xc).all (Nat.blt · n) = true) (hky : Nat.blt ky n = true) (hN : Nat.ble (cs.length + 1) fn.ntmps = true)
    (h : ∀ (I : IH) (w : World) (l : Nat) (Y : Nat → YI w.heap.size) (K : YI w.heap.size) (F0 : Nat → Prop),
      (∀ i it, items[i]? = some it → ∀ F I' w' us vs, (Y i).J F I' w' → I.le I' → I'.on w' → w.heap.size ≤ w'.heap.size → (∀ b, F0 b → F b) → it.ok F I' w' us vs → RoundR P l vs w.heap.size F I' w' (Y (i + 1)) K) →
      WP ⟨P, none, w, fn.ntmps, F0, I, 0, fun _ => 0, fun _ => undef⟩ ⟨n, frOf 0 (.e (.a (.v (yv l))) :: cs), Xc, [(ky, .ext ((Y 0).xp F0))], [], []⟩ c (PostI P fn (ItR I w F0 fun F' I' w' => (Y items.length).J F' I' w' ∨ K.J F' I' w'))) :
    SigI P f cs Xc items := fun I w ν hI hX l Y K F0 hY hround => by
  have hky' : ky < n := by rw [Nat.blt_eq] at hky; exact hky
  refine It.intro hf hb hI hY ν (.e (.a (.v (yv l))) :: cs) Xc n ky _ rfl ?_ hX ?_ (fun k hk => by simpa [Nat.blt_eq] using List.all_eq_true.1 hn k hk) hky' (by simpa using hN) (h I w l Y K F0 hround)
  · show _ = (yv l :: cs.map (den0 ν)).toArray
    simp
  · intro x hx
    rcases List.mem_cons.1 hx with rfl | hx
    · trivial
    · exact hwf x hx

/-! ### Leaving with marks: what the ledger still says -/
theorem leavesM2 {cx : Cx} {fn : Func} {R : Ending → World → Prop} {rs : List ResultVar} {els : List El} {ε : Env} {I : IH} {M : Nat → Prop} (hr : fn.results = rs.toArray) :
    ∀ (D : List Nat) (S : St) (a : Act) (w : World), S.D = D → (∀ k ∈ D, look k S.L = some (.ob (.deferred (some [])))) → D.Nodup → SatM cx M ε I S a w → ResOf cx S rs els →
    (∀ S' a' w', SatM cx M ε I S' a' w' → (∀ i e, look i S.L = some e → (∀ o, e ≠ .ob o) → look i S'.L = some e) → R (.returned ((resSV els).den ε)) w') → LeavesInM (fen none) 0 cx.P fn a.tmps R a.defers .returning w
  | [], S, a, w, hD, _, _, hs, hres, hR => by
    have : a.defers = [] := by rw [hs.defs, hD]; rfl
    rw [this]
    exact ⟨_, results_run hs hres hr, hR S a w hs (fun _ _ h _ => h)⟩
  | k :: D, S, a, w, hD, hmk, hnd, hs, hres, hR => by
    have : a.defers = markOf ε.β k :: D.map (markOf ε.β) := by rw [hs.defs, hD]; rfl
    rw [this]
    have hob := hmk k List.mem_cons_self
    have hL := hs.L k _ hob
    simp only [Ent.ok] at hL
    have hlt := (Array.getElem?_eq_some_iff.1 hL).1
    have hft := hs.foot k _ hob _ rfl
    refine ⟨by simp, .inl ⟨_, _, rfl, run_take hL, ?_⟩⟩
    have hoth : ∀ b, b ≠ ε.β k → ({ w with heap := w.heap.setIfInBounds (ε.β k) (.deferred none) } : World).heap[b]? = w.heap[b]? := fun b hb => by
      simp [Array.getElem?_setIfInBounds_ne (Ne.symm hb)]
    have himm : I.on { w with heap := w.heap.setIfInBounds (ε.β k) (.deferred none) } := fun b o hb => by
      rw [hoth b (fun e => by rw [e, hft.2.2] at hb; cases hb)]; exact hs.imm b o hb
    have hlk : ∀ i e, look i ((k, Ent.dead) :: S.L) = some e → (i = k ∧ e = .dead) ∨ (i ≠ k ∧ look i S.L = some e) := by
      intro i e he
      rw [look_cons] at he
      by_cases hk : k = i
      · subst hk; simp at he; exact .inl ⟨rfl, he.symm⟩
      · simp [hk] at he; exact .inr ⟨fun e => hk e.symm, he⟩
    have := leavesM2 (R := R) hr D { S with L := (k, .dead) :: S.L, D := D } { a with defers := D.map (markOf ε.β) } { w with heap := w.heap.setIfInBounds (ε.β k) (.deferred none) } rfl
      (fun i hi => by
        have hne : k ≠ i := fun e => by subst e; exact (List.nodup_cons.1 hnd).1 hi
        simp only [look_cons, hne, if_false]; exact hmk i (List.mem_cons_of_mem _ hi)) (List.nodup_cons.1 hnd).2
      { wfr := hs.wfr, wfX := hs.wfX, wfG := hs.wfG, G := hs.G, size := hs.size, fr := hs.fr, X := hs.X, le0 := hs.le0, fr0 := hs.fr0
        wfL := fun i e he => by
          rcases hlk i e he with ⟨rfl, rfl⟩ | ⟨_, he⟩
          · exact ⟨(hs.wfL i _ hob).1, trivial⟩
          · exact hs.wfL i e he
        wfD := fun i hi => hs.wfD i (by rw [hD]; exact List.mem_cons_of_mem _ hi)
        defs := rfl
        L := fun i e he => by
          rcases hlk i e he with ⟨rfl, rfl⟩ | ⟨hne, he⟩
          · trivial
          · exact Ent.ok_kept (M := M) Env.agree.refl IH.le.rfl' (hs.wfL i e he).1 (hs.wfL i e he).2 (hs.L i e he) (fun b hb => hoth b (fun eb => hs.sep i k e _ b he hob hne hb (by rw [eb]; rfl))) (fun x hx => by
            subst hx
            obtain ⟨hx1, hx2⟩ := hs.ext i x he
            refine ⟨IH.le.rfl', himm, rfl, rfl, rfl, by simp, fun b hb hn => hoth b (fun eb => ?_), fun b o hb => .inl hb⟩
            have hnF : ¬ x.F b := fun hF => hs.sep i k _ _ b he hob hne hF eb
            rcases hn with hn | hn
            · rcases hft.1 with h1 | h1
              · rw [← eb] at h1
                have := (hx2 b hn).1
                omega
              · rw [← eb] at h1
                exact hnF ((hx2 b hn).2 h1)
            · exact hnF hn)
        foot := fun i e he b hb => by
          rcases hlk i e he with ⟨rfl, rfl⟩ | ⟨_, he⟩
          · cases hb
          · have := hs.foot i e he b hb
            exact ⟨this.1, by simpa using this.2.1, this.2.2⟩
        sep := fun i i' e e' b he he' hne hb => by
          rcases hlk i e he with ⟨rfl, rfl⟩ | ⟨_, he⟩
          · cases hb
          · rcases hlk i' e' he' with ⟨rfl, rfl⟩ | ⟨_, he'⟩
            · simp [Ent.foot]
            · exact hs.sep i i' e e' b he he' hne hb
        imm := himm
        pin := hs.pin
        ext := fun i x hx => by
          rcases hlk i _ hx with ⟨_, hx⟩ | ⟨_, hx⟩
          · cases hx
          · exact hs.ext i x hx
        keep := ⟨hs.keep.os, hs.keep.tape, hs.keep.output, by simpa using hs.keep.size, fun b hb hE => by
          rw [hoth b (fun e => by rw [e] at hb hE; rcases hft.1 with h | h; · omega
                                  · exact hE h)]
          exact hs.keep.block b hb hE⟩ } (ResOf.dead hob hres) (fun S' a' w' hs' hk' => hR S' a' w' hs' fun i e he hno => hk' i e (by
            have hne : k ≠ i := fun h => by subst h; rw [hob] at he; cases he; exact hno _ rfl
            simp only [look_cons, hne, if_false]; exact he) hno)
    exact this

/-! ### Contracts that hand own memory back -/
def envU (us : Nat → Value) : Env := ⟨fun _ => 0, us, fun _ => true⟩
def Ent.isOwn : Ent → Bool
  | .own _ _ _ _ => true
  | _ => false
structure LOK (us : Nat → Value) (I' : IH) (w w' : World) (L : List (Nat × Ent)) : Prop where
  ok : ∀ k e, look k L = some e → e.ok (envU us) I' w' k
  foot : ∀ k e, look k L = some e → ∀ b, e.foot (envU us) k b → w.heap.size ≤ b ∧ b < w'.heap.size ∧ I' b = none
  sep : ∀ k k' e e' b, look k L = some e → look k' L = some e' → k ≠ k' → e.foot (envU us) k b → ¬ e'.foot (envU us) k' b
def CtRO (I : IH) (w : World) (sv : SV) (X : List (Nat × Pred)) (L : List (Nat × Ent)) : Ending → World → Prop := fun e w' =>
  ∃ I' us, e = .returned (sv.den (envU us)) ∧ Keep Emp w w' ∧ I.le I' ∧ I'.on w' ∧ (∀ b o, I' b = some o → I b = some o ∨ w.heap.size ≤ b) ∧ (∀ j R, look j X = some R → R.h I' (us j)) ∧ LOK us I' w w' L
def SigO (P : Program) (f : FuncId) (svs : List SV) (X0 : List (Nat × Pred)) (sv : SV) (X : List (Nat × Pred)) (L : List (Nat × Ent)) : Prop :=
  ∀ (I : IH) (w : World) (ν : Nat → Value), I.on w → FactsOK ν I X0 → CallsIn Fence.wide 0 P f (svs.map (den0 ν)).toArray w (CtRO I w sv X L)
theorem own_only {L : List (Nat × Ent)} (h : L.all (fun p => p.2.isOwn) = true) {k : Nat} {e : Ent} (he : look k L = some e) : ∃ T s n R, e = .own T s n R := by
  have := List.all_eq_true.1 h _ (look_mem he)
  cases e <;> simp [Ent.isOwn] at this ⊢
theorem SigO.intro {P : Program} {f : FuncId} {fn : Func} {c : Code} {svs : List SV} {X0 : List (Nat × Pred)} {sv : SV} {X : List (Nat × Pred)} {L : List (Nat × Ent)} (hf : P.funcs[f]? = some fn) (hb : fn.body = some c) (n : Nat) (fr : List (Nat × SV)) (hfr : fr = frOf 0 svs)
    (hwf : ∀ x ∈ svs, x.res (keys X0)) (hn : (keys X0).all (Nat.blt · n) = true) (hN : Nat.ble svs.length fn.ntmps = true)
    (h : ∀ I w, WP ⟨P, none, w, fn.ntmps, Emp, I, 0, fun _ => 0, fun _ => undef⟩ ⟨n, fr, X0, [], [], []⟩ c (Post P fn (CtRO I w sv X L))) : SigO P f svs X0 sv X L := fun I w ν hI hX => by
  refine callsIn_of_wp_marks hf hb trivial ?_
  refine h I w ⟨fun _ => 0, ν, fun _ => true⟩ I _ w ?_
  have hN' : svs.length ≤ fn.ntmps := by simpa using hN
  subst hfr
  refine ⟨?_, ?_, fun _ _ h => (by cases h), fun _ h => (by cases h), fun _ _ h => (by cases h), fun _ _ h => (by cases h), ?_, rfl, ?_, hX.get, fun _ _ h => (by cases h), fun _ _ h => (by cases h), fun _ _ _ _ _ h => (by cases h), hI, Keep.refl w, IH.le.rfl', fun _ _ h => .inl h, fun _ h => absurd h (Nat.not_lt_zero _), fun _ _ h => (by cases h)⟩
  · intro i x hx
    have := (look_frOf svs 0 i x hx).2
    exact SV.on_res (fun j hj => by simpa [Nat.blt_eq] using List.all_eq_true.1 hn j hj) (hwf x (List.mem_of_getElem? this))
  · intro j R hj
    simpa [Nat.blt_eq] using List.all_eq_true.1 hn j (look_keys hj)
  · simp; omega
  · intro i x hx
    have := (look_frOf svs 0 i x hx).2
    simp only [Nat.sub_zero] at this
    have hi : i < svs.length := (List.getElem?_eq_some_iff.1 this).1
    rw [Array.getElem?_append_left (by simpa using hi)]
    simp [this, den0]
def OwnOK (S : St) (ρ : Nat → Nat) : List (Nat × Ent) → Prop
  | [] => True
  | (k, e) :: t => look (ρ k) S.L = some e ∧ OwnOK S ρ t
theorem OwnOK.get {S : St} {ρ : Nat → Nat} : ∀ {L : List (Nat × Ent)}, OwnOK S ρ L → ∀ k e, look k L = some e → look (ρ k) S.L = some e
  | (j, e') :: t, h, k, e, hk => by
    rw [look_cons] at hk
    by_cases hj : j = k
    · subst hj; simp at hk; subst hk; exact h.1
    · simp [hj] at hk; exact OwnOK.get h.2 k e hk
/-- The function's end: own rows are handed back. -/
theorem EX.finO {cx : Cx} {S : St} {fn : Func} {rs : List ResultVar} {els : List El} {sv : SV} {X : List (Nat × Pred)} {L : List (Nat × Ent)} {e : Exit} (ρ : Nat → Nat) (hE : cx.E = Emp) (he : e = .ret ∨ e = .normal) (hr : fn.results = rs.toArray) (hres : ResOf cx S rs els)
    (hsv : resSV els = sv.ren ρ) (hw : sv.res (keys X)) (hX : RenOK S.X ρ X) (hL : OwnOK S ρ L) (hown : L.all (fun p => p.2.isOwn) = true) (hinj : nodupb ((keyset (keys L)).map ρ) = true) (hmk : ∀ k ∈ S.D, look k S.L = some (.ob (.deferred (some [])))) (hnd : S.D.Nodup) :
    EX cx S e (Post cx.P fn (CtRO cx.I0 cx.w0 sv X L)) := by
  intro ε I a w hs
  have key : LeavesInM (fen none) 0 cx.P fn a.tmps (CtRO cx.I0 cx.w0 sv X L) a.defers .returning w :=
    leavesM2 hr S.D S a w rfl hmk hnd hs hres fun S' a' w' hs' hk' => by
      have hl : ∀ k e, look k L = some e → look (ρ k) S'.L = some e ∧ (∀ b, e.foot (envU fun j => ε.ν (ρ j)) k b ↔ e.foot ε (ρ k) b) ∧ (e.ok ε I w' (ρ k) → e.ok (envU fun j => ε.ν (ρ j)) I w' k) := fun k e h => by
        obtain ⟨T, s, n, R, rfl⟩ := own_only hown h
        exact ⟨hk' _ _ (hL.get k _ h) (fun o ho => by cases ho), fun b => Iff.rfl, fun h => h⟩
      refine ⟨I, fun j => ε.ν (ρ j), by rw [hsv]; exact congrArg _ (SV.den_ren hw), ?_, hs'.le0, hs'.imm, hs'.fr0, fun j R hj => ?_, ⟨fun k e h => (hl k e h).2.2 (hs'.L _ _ (hl k e h).1), fun k e h b hb => ?_, fun k k' e e' b h h' hne hb hb' => ?_⟩⟩
      · have := hs'.keep; rw [hE] at this; exact this
      · exact hs.has (hX.get j R hj)
      · obtain ⟨h1, h2, h3⟩ := hs'.foot _ _ (hl k e h).1 b (((hl k e h).2.1 b).1 hb)
        refine ⟨?_, h2, h3⟩
        rcases h1 with h1 | h1
        · exact h1
        · rw [hE] at h1; exact h1.elim
      · exact hs'.sep _ _ _ _ b (hl k e h).1 (hl k' e' h').1 (fun he => hne (nodupb_inj hinj k k' (mem_keyset (look_keys h)) (mem_keyset (look_keys h')) he)) (((hl k e h).2.1 b).1 hb) (((hl k' e' h').2.1 b).1 hb')
  rcases he with rfl | rfl <;> exact key
/-- A call that hands own rows back. -/
theorem o_sigo {cx : Cx} {S : St} {dst : Option Tmp} {ty : TypeId} {pos : String} {af : Array Edge} {gd : Option (Nat × Bool)} {P : Program} {f : FuncId} {l : List Operand} {ts : Array TypeId} {svs svs' : List SV} {X0 : List (Nat × Pred)} {sv : SV} {X : List (Nat × Pred)} {L : List (Nat × Ent)} (m : Nat) (ρ : Nat → Nat) (hs : SigO P f svs X0 sv X L) (hf : Enters' P f) (hP : cx.P = P)
    (hl : S.ops l = some svs') (hren : SvsOK S svs' (svs.map (SV.ren ρ))) (hwf : ∀ x ∈ svs, x.res (keys X0)) (hX : RenOK S.X ρ X0) (hres : sv.res (keys X)) (hown : L.all (fun p => p.2.isOwn) = true) (hLX : (keys L).all (fun k => memb k (keys X)) = true) :
    OpG cx S ⟨dst, .call { callee := .value (.func f), args := l.toArray, argTypes := ts }, ty, pos, af, gd⟩ ⟨sv.ren (m + ·), keys (sh m X), sh m X, sh m L, []⟩ := by
  subst hP
  intro M ε I a w next Q h hN K
  have h1 := hs I w (fun j => ε.ν (ρ j)) h.imm (FactsOK.of (fun j R hj => h.has hj) hX)
  refine ⟨fun _ _ => trivial, ?_⟩
  have hev := h.evals hl
  rw [hren.den h, svs_ren hwf] at hev
  have hex : (execOp a.eval ⟨dst, .call { callee := .value (.func f), args := l.toArray, argTypes := ts }, ty, pos, af, gd⟩).run cx.P w = .ok (.enter f (svs.map (den0 fun j => ε.ν (ρ j))).toArray) w := by
    simp [execOp, resolve, Act.eval, Deferred.ofValue, invoke, hev, hf _ _]
  rw [semAt_eq _ _ _ (fun _ => by simp), hex]
  refine ⟨fun h => (by cases h), CallsIn.mono (callsIn_fen h1) ?_⟩
  rintro e w' ⟨I', us, rfl, hk, hle, hon, hfr, hXs, hLo⟩
  let us' : Nat → Value := fun j => us (j - m)
  have hus : ∀ i, us' (m + i) = us i := fun i => by show us (m + i - m) = us i; congr 1; omega
  let ε' : Env := ⟨ε.β, fun j => if j ∈ keys (sh m X) then us' j else ε.ν j, ε.γ⟩
  have hν : ∀ i, i ∈ keys X → ε'.ν (m + i) = us i := fun i hi => by
    have : m + i ∈ keys (sh m X) := by rw [keys_sh]; exact List.mem_map.2 ⟨i, hi, rfl⟩
    show (if m + i ∈ keys (sh m X) then us' (m + i) else ε.ν (m + i)) = us i
    rw [if_pos this, hus]
  have hlk : ∀ k e, look k (sh m L) = some e → ∃ i, k = m + i ∧ look i L = some e ∧ ε'.ν k = us i ∧ k ∈ keys (sh m X) := fun k e he => by
    obtain ⟨i, rfl, hi⟩ := look_sh he
    have hiX : i ∈ keys X := memb_iff.1 (List.all_eq_true.1 hLX i (look_keys hi))
    exact ⟨i, rfl, hi, hν i hiX, by rw [keys_sh]; exact List.mem_map.2 ⟨i, hiX, rfl⟩⟩
  have hsv : sv.den (envU us) = (sv.ren (m + ·)).den ε' := by
    rw [SV.ren_den hres]
    exact SV.den_res (ε := ⟨fun _ => 0, fun j => ε'.ν (m + j), fun _ => true⟩) (ε' := envU us) (fun j hj => (hν j hj).symm) hres
  show next (a.put dst _) w'
  rw [hsv]
  refine K ε' I' w' ⟨fun i hi => ⟨rfl, by show (if i ∈ keys (sh m X) then us' i else ε.ν i) = _; rw [if_neg hi], rfl⟩, hle, hon, hk.os, hk.tape, hk.output, hk.size, fun b hb _ => hk.block b hb (fun h => h), fun b o hb => ?_⟩
    ⟨SV.on_res (J := keys (sh m X)) (fun j hj => .inr hj) (by rw [keys_sh]; exact SV.ren_res hres), fun j R hj => .inr (look_keys hj), fun _ _ h => (by cases h), fun k e he => ?_, fun j R hj => ?_, fun k e he => ?_, fun k e he b hb => ?_, fun k k' e e' b he he' hne hb hb' => ?_, fun k x he => ?_⟩
  · rcases hfr b o hb with h | h
    · exact .inl h
    · exact .inr (.inl h)
  · obtain ⟨i, rfl, hi, _, hkX⟩ := hlk k e he
    obtain ⟨T, s, n, R, rfl⟩ := own_only hown hi
    exact ⟨.inr hkX, trivial⟩
  · obtain ⟨i, rfl, hi⟩ := look_sh hj
    rw [hν i (look_keys hi)]; exact hXs i R hi
  · obtain ⟨i, rfl, hi, h2, _⟩ := hlk k e he
    obtain ⟨T, s, n, R, rfl⟩ := own_only hown hi
    have := hLo.ok i _ hi
    simp only [Ent.ok] at this ⊢
    rw [h2]; exact this
  · obtain ⟨i, rfl, hi, h2, _⟩ := hlk k e he
    obtain ⟨T, s, n, R, rfl⟩ := own_only hown hi
    have hb' : (us i).ownBlock = some b := by rw [← h2]; exact hb
    obtain ⟨h3, h4, h5⟩ := hLo.foot i _ hi b hb'
    exact ⟨.inl (Nat.le_trans h.keep.size h3), h4, h5, .inl h3⟩
  · obtain ⟨i, rfl, hi, h2, _⟩ := hlk k e he
    obtain ⟨i', rfl, hi', h2', _⟩ := hlk k' e' he'
    obtain ⟨T, s, n, R, rfl⟩ := own_only hown hi
    obtain ⟨T', s', n', R', rfl⟩ := own_only hown hi'
    have hb1 : (us i).ownBlock = some b := by rw [← h2]; exact hb
    have hb2 : (us i').ownBlock = some b := by rw [← h2']; exact hb'
    exact hLo.sep i i' _ _ b hi hi' (fun h => hne (by rw [h])) hb1 hb2
  · obtain ⟨i, rfl, hi, _, _⟩ := hlk k _ he
    obtain ⟨T, s, n, R, h⟩ := own_only hown hi
    cases h

/-! ### Own rows that are known to be new -/
def Pred.newer (n : Nat) : Pred := ⟨fun _ v => ∀ b, v.ownBlock = some b → n ≤ b, fun _ h => h⟩
theorem newer_nil {X : List (Nat × Pred)} {j n : Nat} (h : look j X = some (Pred.is (.slice none 0 0))) : Has X j (Pred.newer n) := ⟨_, h, fun _ v h b hb => by
  rw [show v = _ from h] at hb; cases hb⟩
theorem OpG.newer0 {cx : Cx} {S : St} {o : Oper} {sv : SV} {k : Nat} {T : TypeId} {s n : Nat} {R : LPred} (h : OpG cx S o ⟨sv, [k], [], [(k, .own T s n R)], []⟩) : OpG cx S o ⟨sv, [k], [(k, Pred.newer cx.w0.heap.size)], [(k, .own T s n R)], []⟩ := by
  intro M ε I a w next Q hs hN K
  refine h M ε I a w next Q hs hN fun ε' I' w' ht hn => K ε' I' w' ht
    ⟨hn.sv, fun j R hj => by obtain ⟨rfl, _⟩ := look_one hj; exact .inr (by simp), hn.wG, hn.wL, fun j R hj => ?_, hn.L, hn.foot, hn.sep, hn.ext⟩
  obtain ⟨rfl, rfl⟩ := look_one hj
  intro b hb
  rcases (hn.foot j (.own T s n R) (by simp [look_cons]) b hb).2.2.2 with h1 | ⟨k', e', h1, h2, _⟩
  · exact Nat.le_trans hs.keep.size h1
  · exfalso
    have hk' : k' = j := by
      cases hl : look k' [(j, Ent.own T s n R)] with
      | none => rw [hl] at h1; cases h1
      | some x => exact (look_one hl).1
    subst hk'
    exact hN k' (by simp) (hs.wfL k' _ h2).1
theorem OpG.newer1 {cx : Cx} {S : St} {o : Oper} {sv : SV} {k k0 : Nat} {T : TypeId} {s n : Nat} {R : LPred} (h0 : Has S.X k0 (Pred.newer cx.w0.heap.size)) {T0 : TypeId} {s0 n0 : Nat} {R0 : LPred} (hk0 : look k0 S.L = some (.own T0 s0 n0 R0)) (h : OpG cx S o ⟨sv, [k], [], [(k, .own T s n R), (k0, .dead)], []⟩) :
    OpG cx S o ⟨sv, [k], [(k, Pred.newer cx.w0.heap.size)], [(k, .own T s n R), (k0, .dead)], []⟩ := by
  intro M ε I a w next Q hs hN K
  refine h M ε I a w next Q hs hN fun ε' I' w' ht hn => K ε' I' w' ht
    ⟨hn.sv, fun j R hj => by obtain ⟨rfl, _⟩ := look_one hj; exact .inr (by simp), hn.wG, hn.wL, fun j R hj => ?_, hn.L, hn.foot, hn.sep, hn.ext⟩
  obtain ⟨rfl, rfl⟩ := look_one hj
  intro b hb
  rcases (hn.foot j (.own T s n R) (by simp [look_cons]) b hb).2.2.2 with h1 | ⟨k', e', h1, h2, h3⟩
  · exact Nat.le_trans hs.keep.size h1
  · have hk' : k' = j ∨ k' = k0 := by
      cases hl : look k' [(j, Ent.own T s n R), (k0, .dead)] with
      | none => rw [hl] at h1; cases h1
      | some x =>
        rcases look_two hl with ⟨h, _⟩ | ⟨_, h, _⟩
        · exact .inl h
        · exact .inr h
    rcases hk' with rfl | rfl
    · exact absurd (hs.wfL k' _ h2).1 (hN k' (by simp))
    · rw [hk0] at h2
      cases h2
      exact hs.has h0 b h3
theorem Gh.frzN {cx : Cx} {α : Type} {E : EP α} {S : St} {k : Nat} {T : TypeId} {l : List α} (hn : Has S.X k (Pred.newer cx.w0.heap.size)) (hk : look k S.L = some (.own T E.size l.length (RP E l))) :
    Gh cx S ⟨.e (.a (.v undef)), [], [(k, PL E l)], [(k, .dead)], []⟩ := by
  intro M ε I a w hs hN
  obtain ⟨xs, h1, h2⟩ := hs.L k _ hk
  have hft := hs.foot k _ hk
  have hfp : ∀ b, (ε.ν k).ownBlock = some b → fpOf S ε ⟨.e (.a (.v undef)), [], [(k, PL E l)], [(k, .dead)], []⟩ b := fun b hb => ⟨k, _, by simp [look], hk, hb⟩
  let I' : IH := fun b => if (ε.ν k).ownBlock = some b then w.heap[b]? else I b
  have hle : I.le I' := fun b o hb => by
    by_cases h : (ε.ν k).ownBlock = some b
    · rw [(hft b h).2.2] at hb; cases hb
    · simp only [I', if_neg h]; exact hb
  refine ⟨ε, I', ⟨fun _ _ => ⟨rfl, rfl, rfl⟩, hle, fun b o hb => ?_, rfl, rfl, rfl, Nat.le_refl _, fun _ _ _ => rfl, fun b o hb => ?_⟩,
    ⟨trivial, fun j R h => by obtain ⟨rfl, _⟩ := look_one h; exact .inl (hs.wfL j _ hk).1, fun _ _ h => (by cases h), fun i e he => by obtain ⟨rfl, rfl⟩ := look_one he; exact ⟨.inl (hs.wfL i _ hk).1, trivial⟩,
      fun j R h => ?_, fun i e he => by obtain ⟨rfl, rfl⟩ := look_one he; trivial, fun i e he b hb => by obtain ⟨rfl, rfl⟩ := look_one he; exact absurd hb (fun h => h),
      fun i i' e e' b he he' hne hb => by obtain ⟨rfl, rfl⟩ := look_one he; exact absurd hb (fun h => h), fun k x h => by obtain ⟨_, h⟩ := look_one h; cases h⟩⟩
  · by_cases h : (ε.ν k).ownBlock = some b
    · simp only [I', if_pos h] at hb; exact hb
    · simp only [I', if_neg h] at hb; exact hs.imm b o hb
  · by_cases h : (ε.ν k).ownBlock = some b
    · exact .inr (.inr ⟨hfp b h, hs.has hn b h⟩)
    · simp only [I', if_neg h] at hb; exact .inl hb
  · obtain ⟨rfl, rfl⟩ := look_one h
    exact own_pl h1 h2 (fun _ _ h => E.mono hle h) fun b hb => by simp only [I', if_pos hb]
/-- A row of the call's own that is known to be new is settled. -/
theorem Imp.frzN {cx : Cx} {n : Nat} {fr : List (Nat × SV)} {X : List (Nat × Pred)} {L : List (Nat × Ent)} {D : List Nat} {G : List (Nat × Bool)} {α : Type} {E : EP α} (k : Nat) {T : TypeId} {l : List α} (hn : Has X k (Pred.newer cx.w0.heap.size)) (hk : look k L = some (.own T E.size l.length (RP E l))) :
    Imp cx ⟨n, fr, X, L, D, G⟩ ⟨n, fr, (k, PL E l) :: X, (k, .dead) :: L, D, G⟩ :=
  Imp.app n (Gh.frzN (S := ⟨n, fr, X, L, D, G⟩) hn hk) (fun _ h => by cases h) (Nat.le_refl _)

/-! ### Contracts that are lent memory that they turn -/
def CtRX (I : IH) (w : World) (Y : XP) (sv : SV) (X : List (Nat × Pred)) : Ending → World → Prop := fun e w' =>
  ∃ I' us, e = .returned (sv.den (envU us)) ∧ Keep Y.F w w' ∧ I.le I' ∧ I'.on w' ∧ (∀ b o, I' b = some o → I b = some o ∨ w.heap.size ≤ b) ∧ (∀ j R, look j X = some R → R.h I' (us j)) ∧ Y.J I' w'
def SigX (P : Program) (f : FuncId) (svs : List SV) (X0 : List (Nat × Pred)) (Y : XP) (sv : SV) (X : List (Nat × Pred)) : Prop :=
  ∀ (I : IH) (w : World) (ν : Nat → Value), I.on w → FactsOK ν I X0 → Y.J I w → (∀ c, Y.F c → c < w.heap.size ∧ I c = none) → CallsIn Fence.wide 0 P f (svs.map (den0 ν)).toArray w (CtRX I w Y sv X)
structure XP.plain (Y : XP) : Prop where
  n1 : Y.n1 = 0
  Rd : ∀ b, ¬ Y.Rd b
theorem SigX.intro {P : Program} {f : FuncId} {fn : Func} {c : Code} {svs : List SV} {X0 : List (Nat × Pred)} {Y : XP} {sv : SV} {X : List (Nat × Pred)} (hY : Y.plain) (hf : P.funcs[f]? = some fn) (hb : fn.body = some c) (n ky : Nat) (fr : List (Nat × SV)) (hfr : fr = frOf 0 svs)
    (hwf : ∀ x ∈ svs, x.res (keys X0)) (hn : (keys X0).all (Nat.blt · n) = true) (hky : Nat.blt ky n = true) (hN : Nat.ble svs.length fn.ntmps = true)
    (h : ∀ I w, WP ⟨P, none, w, fn.ntmps, Y.F, I, 0, fun _ => 0, fun _ => undef⟩ ⟨n, fr, X0, [(ky, .ext Y)], [], []⟩ c (Post P fn (CtRX I w Y sv X))) : SigX P f svs X0 Y sv X := fun I w ν hI hX hJ hF => by
  refine callsIn_of_wp_marks hf hb trivial ?_
  refine h I w ⟨fun _ => 0, ν, fun _ => true⟩ I _ w ?_
  have hN' : svs.length ≤ fn.ntmps := by simpa using hN
  subst hfr
  refine ⟨?_, ?_, fun k e he => ?_, fun _ h => (by cases h), fun _ _ h => (by cases h), fun _ _ h => (by cases h), ?_, rfl, ?_, hX.get, fun k e he => ?_, fun k e he b hb => ?_, fun k k' e e' b he he' hne => ?_, hI, Keep.refl w, IH.le.rfl', fun _ _ h => .inl h, fun _ h => absurd h (Nat.not_lt_zero _), fun k x he => ?_⟩
  · intro i x hx
    have := (look_frOf svs 0 i x hx).2
    exact SV.on_res (fun j hj => by simpa [Nat.blt_eq] using List.all_eq_true.1 hn j hj) (hwf x (List.mem_of_getElem? this))
  · intro j R hj
    simpa [Nat.blt_eq] using List.all_eq_true.1 hn j (look_keys hj)
  · obtain ⟨rfl, rfl⟩ := look_one he
    exact ⟨by simpa [Nat.blt_eq] using hky, trivial⟩
  · simp; omega
  · intro i x hx
    have := (look_frOf svs 0 i x hx).2
    simp only [Nat.sub_zero] at this
    have hi : i < svs.length := (List.getElem?_eq_some_iff.1 this).1
    rw [Array.getElem?_append_left (by simpa using hi)]
    simp [this, den0]
  · obtain ⟨rfl, rfl⟩ := look_one he; exact hJ
  · obtain ⟨rfl, rfl⟩ := look_one he
    exact ⟨.inr hb, hF b hb⟩
  · obtain ⟨rfl, _⟩ := look_one he
    obtain ⟨rfl, _⟩ := look_one he'
    exact absurd rfl hne
  · obtain ⟨_, h⟩ := look_one he
    cases h
    exact ⟨by rw [hY.n1]; exact Nat.zero_le _, fun b hb => absurd hb (hY.Rd b)⟩
theorem EX.finX {cx : Cx} {S : St} {fn : Func} {rs : List ResultVar} {els : List El} {sv : SV} {X : List (Nat × Pred)} {Y : XP} {e : Exit} (ρ : Nat → Nat) (ky : Nat) (hE : cx.E = Y.F) (he : e = .ret ∨ e = .normal) (hr : fn.results = rs.toArray) (hres : ResOf cx S rs els)
    (hsv : resSV els = sv.ren ρ) (hw : sv.res (keys X)) (hX : RenOK S.X ρ X) (hL : look ky S.L = some (.ext Y)) (hmk : ∀ k ∈ S.D, look k S.L = some (.ob (.deferred (some [])))) (hnd : S.D.Nodup) :
    EX cx S e (Post cx.P fn (CtRX cx.I0 cx.w0 Y sv X)) := by
  intro ε I a w hs
  have key : LeavesInM (fen none) 0 cx.P fn a.tmps (CtRX cx.I0 cx.w0 Y sv X) a.defers .returning w :=
    leavesM2 hr S.D S a w rfl hmk hnd hs hres fun S' a' w' hs' hk' =>
      ⟨I, fun j => ε.ν (ρ j), by rw [hsv]; exact congrArg _ (SV.den_ren hw), by have := hs'.keep; rw [hE] at this; exact this, hs'.le0, hs'.imm, hs'.fr0, fun j R hj => hs.has (hX.get j R hj), hs'.L ky _ (hk' ky _ hL (fun o h => by cases h))⟩
  rcases he with rfl | rfl <;> exact key
/-- A call that is lent memory that it turns. -/
theorem o_sigx {cx : Cx} {S : St} {dst : Option Tmp} {ty : TypeId} {pos : String} {af : Array Edge} {gd : Option (Nat × Bool)} {P : Program} {f : FuncId} {l : List Operand} {ts : Array TypeId} {svs svs' : List SV} {X0 : List (Nat × Pred)} {sv : SV} {X : List (Nat × Pred)} {Y : XP} (m : Nat) (ρ : Nat → Nat) (ky : Nat) (hs : SigX P f svs X0 Y sv X) (hY : Y.plain) (hf : Enters' P f) (hP : cx.P = P)
    (hk : look ky S.L = some (.ext Y)) (hl : S.ops l = some svs') (hren : SvsOK S svs' (svs.map (SV.ren ρ))) (hwf : ∀ x ∈ svs, x.res (keys X0)) (hX : RenOK S.X ρ X0) (hres : sv.res (keys X)) :
    OpG cx S ⟨dst, .call { callee := .value (.func f), args := l.toArray, argTypes := ts }, ty, pos, af, gd⟩ ⟨sv.ren (m + ·), keys (sh m X), sh m X, [(ky, .ext Y)], []⟩ := by
  subst hP
  intro M ε I a w next Q h hN K
  have hft := h.foot ky _ hk
  have h1 := hs I w (fun j => ε.ν (ρ j)) h.imm (FactsOK.of (fun j R hj => h.has hj) hX) (h.L ky _ hk) (fun c hc => (hft c hc).2)
  refine ⟨fun _ _ => trivial, ?_⟩
  have hev := h.evals hl
  rw [hren.den h, svs_ren hwf] at hev
  have hex : (execOp a.eval ⟨dst, .call { callee := .value (.func f), args := l.toArray, argTypes := ts }, ty, pos, af, gd⟩).run cx.P w = .ok (.enter f (svs.map (den0 fun j => ε.ν (ρ j))).toArray) w := by
    simp [execOp, resolve, Act.eval, Deferred.ofValue, invoke, hev, hf _ _]
  rw [semAt_eq _ _ _ (fun _ => by simp), hex]
  refine ⟨fun h => (by cases h), CallsIn.mono (callsIn_fen h1) ?_⟩
  rintro e w' ⟨I', us, rfl, hkp, hle, hon, hfr, hXs, hJ⟩
  let us' : Nat → Value := fun j => us (j - m)
  let ε' : Env := ⟨ε.β, fun j => if j ∈ keys (sh m X) then us' j else ε.ν j, ε.γ⟩
  have hν : ∀ i, i ∈ keys X → ε'.ν (m + i) = us i := fun i hi => by
    have : m + i ∈ keys (sh m X) := by rw [keys_sh]; exact List.mem_map.2 ⟨i, hi, rfl⟩
    show (if m + i ∈ keys (sh m X) then us' (m + i) else ε.ν (m + i)) = us i
    rw [if_pos this]; show us (m + i - m) = us i; congr 1; omega
  have hsv : sv.den (envU us) = (sv.ren (m + ·)).den ε' := by
    rw [SV.ren_den hres]
    exact SV.den_res (ε := ⟨fun _ => 0, fun j => ε'.ν (m + j), fun _ => true⟩) (ε' := envU us) (fun j hj => (hν j hj).symm) hres
  have hfp : ∀ b, Y.F b → fpOf S ε ⟨sv.ren (m + ·), keys (sh m X), sh m X, [(ky, .ext Y)], []⟩ b := fun b hb => ⟨ky, _, by simp [look], hk, hb⟩
  show next (a.put dst _) w'
  rw [hsv]
  refine K ε' I' w' ⟨fun i hi => ⟨rfl, by show (if i ∈ keys (sh m X) then us' i else ε.ν i) = _; rw [if_neg hi], rfl⟩, hle, hon, hkp.os, hkp.tape, hkp.output, hkp.size, fun b hb hn => hkp.block b hb (fun h => hn (hfp b h)), fun b o hb => ?_⟩
    ⟨SV.on_res (J := keys (sh m X)) (fun j hj => .inr hj) (by rw [keys_sh]; exact SV.ren_res hres), fun j R hj => .inr (look_keys hj), fun _ _ h => (by cases h), fun k e he => by obtain ⟨rfl, rfl⟩ := look_one he; exact ⟨.inl (h.wfL k _ hk).1, trivial⟩, fun j R hj => ?_, fun k e he => by obtain ⟨rfl, rfl⟩ := look_one he; exact hJ, fun k e he b hb => ?_, fun k k' e e' b he he' hne => ?_, fun k x he => ?_⟩
  · rcases hfr b o hb with h | h
    · exact .inl h
    · exact .inr (.inl h)
  · obtain ⟨i, rfl, hi⟩ := look_sh hj
    rw [hν i (look_keys hi)]; exact hXs i R hi
  · obtain ⟨rfl, rfl⟩ := look_one he
    obtain ⟨h2, h3, h4⟩ := hft b hb
    refine ⟨h2, Nat.lt_of_lt_of_le h3 hkp.size, ?_, .inr (hfp b hb)⟩
    cases hI : I' b with
    | none => rfl
    | some o =>
      rcases hfr b o hI with h5 | h5
      · rw [h4] at h5; cases h5
      · omega
  · obtain ⟨rfl, _⟩ := look_one he
    obtain ⟨rfl, _⟩ := look_one he'
    exact absurd rfl hne
  · obtain ⟨_, h5⟩ := look_one he
    cases h5
    exact ⟨by rw [hY.n1]; exact Nat.zero_le _, fun b hb => absurd hb (hY.Rd b)⟩
end Go.Eng
