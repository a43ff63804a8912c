/- The engine, part X: maps that are told in short; calls of functions by a value. -/
import Derived.Test.YtglbnodjcngefaaEngW
set_option linter.unusedSimpArgs false
set_option linter.unusedVariables false
namespace Go.Eng
open Go
section
variable {cx : Cx} {n : Nat} {fr : List (Nat × SV)} {X : List (Nat × Pred)} {L : List (Nat × Ent)} {D : List Nat} {G : List (Nat × Bool)}
/-- Of a map only what is said of each entry is kept. -/
theorem Imp.closeX {ag : Bool} {nk b km : Nat} {l : MapL} {Kp : List Int → Int → Prop} (hk : look km L = some (.ext (mapXP ag nk b l))) (hl : ∀ p ∈ l, Kp p.1 p.2) : Imp cx ⟨n, fr, X, L, D, G⟩ ⟨n, fr, X, (km, .ext (memoXP ag nk b Kp)) :: L, D, G⟩ := by
  intro ε I a w hs
  refine ⟨ε, I, ?_⟩
  have hlk : ∀ i e, look i ((km, Ent.ext (memoXP ag nk b Kp)) :: L) = some e → (i = km ∧ e = .ext (memoXP ag nk b Kp)) ∨ (i ≠ km ∧ look i L = some e) := by
    intro i e he
    rw [look_cons] at he
    by_cases hi : km = i
    · subst hi; simp at he; exact .inl ⟨rfl, he.symm⟩
    · simp [hi] at he; exact .inr ⟨fun h => hi h.symm, he⟩
  have hft : ∀ i e, look i ((km, Ent.ext (memoXP ag nk b Kp)) :: L) = some e → ∃ e', look i L = some e' ∧ ∀ c, e.foot ε i c → e'.foot ε i c := fun i e he => by
    rcases hlk i e he with ⟨rfl, rfl⟩ | ⟨_, he⟩
    · exact ⟨_, hk, fun c h => h⟩
    · exact ⟨_, he, fun c h => h⟩
  refine { hs with wfL := fun i e he => ?_, L := fun i e he => ?_, foot := fun i e he c hfb => ?_, sep := fun i i' e e' c he he' hne h1 h2 => ?_, ext := fun i z hz => ?_ }
  · rcases hlk i e he with ⟨rfl, rfl⟩ | ⟨_, he⟩
    · exact ⟨(hs.wfL i _ hk).1, trivial⟩
    · exact hs.wfL i e he
  · rcases hlk i e he with ⟨rfl, rfl⟩ | ⟨_, he⟩
    · exact ⟨l, hl, hs.L i _ hk⟩
    · exact hs.L i e he
  · obtain ⟨e', h1, h2⟩ := hft i e he; exact hs.foot i e' h1 c (h2 c hfb)
  · obtain ⟨e1, h3, h4⟩ := hft i e he
    obtain ⟨e2, h5, h6⟩ := hft i' e' he'
    exact hs.sep i i' e1 e2 c h3 h5 hne (h4 c h1) (h6 c h2)
  · rcases hlk i _ hz with ⟨_, h'⟩ | ⟨_, h'⟩
    · cases h'; exact ⟨Nat.zero_le _, fun _ h => h.elim⟩
    · exact hs.ext i z h'
end
section ops
variable {cx : Cx} {S : St} {dst : Option Tmp} {ty : TypeId} {pos : String} {af : Array Edge} {gd : Option (Nat × Bool)}
/-- A function that lies in a slot by its name. -/
theorem o_sigt {P : Program} {f : FuncId} {x : Operand} {l : List Operand} {ts : Array TypeId} {svs svs' : List SV} {X0 : List (Nat × Pred)} {sv : SV} {X : List (Nat × Pred)} (hx : S.op x = some (.e (.a (.f f [])))) (m : Nat) (ρ : Nat → Nat) (hs : Sig P f svs X0 sv X) (hf : Enters' P f) (hP : cx.P = P) (hl : S.ops l = some svs') (hren : svs' = svs.map (SV.ren ρ))
    (hwf : ∀ x ∈ svs, x.res (keys X0)) (hX : RenOK S.X ρ X0) (hres : sv.res (keys X)) :
    OpG cx S ⟨dst, .call { callee := .value x, args := l.toArray, argTypes := ts }, ty, pos, af, gd⟩ ⟨sv.ren (m + ·), keys (sh m X), sh m X, [], []⟩ := by
  subst hP
  subst hren
  refine o_callv hx hl (by rw [keys_sh]; exact SV.ren_res hres) fun M ε I a w h => ?_
  have := hs I w (fun j => ε.ν (ρ j)) h.imm (FactsOK.of (fun j R hj => h.has hj) hX)
  refine ⟨f, _, FnV.of hf, ?_⟩
  rw [List.map_map, show svs.map (SV.den ε ∘ SV.ren ρ) = svs.map (den0 fun j => ε.ν (ρ j)) from List.map_congr_left (fun x hx => SV.ren_den (hwf x hx))]
  simp only [List.map_nil, Array.append_empty, Array.empty_append]
  have h2 : ∀ z : Array Value, (#[] ++ z ++ #[] : Array Value) = z := fun z => by simp
  first
    | exact CallsIn.mono this fun e w' h => CtR.shift hres h
    | (rw [h2]; exact CallsIn.mono this fun e w' h => CtR.shift hres h)
end ops
end Go.Eng
namespace Go.Eng
open Go
/-! ### A field of an element of an own row is stored -/
section
variable {α : Type} {x : α}
theorem FdAll.of_vals {I : IH} : ∀ {gs : List (Fd α)} {l : List (α → Int)}, allI gs = some l → FdAll I x (l.map fun g => .int .i64 (g x)) gs
  | [], l, h => by cases h; trivial
  | .i f :: gs, l, h => by
    simp only [allI] at h
    cases hg : allI gs with
    | none => rw [hg] at h; cases h
    | some l' =>
      rw [hg] at h; cases h
      exact ⟨rfl, FdAll.of_vals hg⟩
  | .s E f :: gs, l, h => by cases h
  | .v f hf :: gs, l, h => by cases h
theorem str_set {fs : List (Fd α)} {gl : List (α → Int)} (ho : allI fs = some gl) {y z : α} {off : Nat} {v : Int} (hz : (gl.map fun g => g y).set off v = gl.map fun g => g z) : ∀ I cs, (EP.str fs).h I cs y → (EP.str fs).h I (cs.set off (.int .i64 v)) z := fun I cs h => by
  have h1 := allI_vals (show FdAll I y cs fs from h) ho
  have h2 : cs.set off (.int .i64 v) = gl.map fun g => .int .i64 (g z) := by
    have e1 : (gl.map fun g => (Value.int .i64 (g y))) = (gl.map fun g => g y).map (Value.int .i64) := by simp
    have e2 : (gl.map fun g => (Value.int .i64 (g z))) = (gl.map fun g => g z).map (Value.int .i64) := by simp
    rw [h1, e1, e2, ← hz, List.map_set]
  rw [h2]; exact FdAll.of_vals ho
end
theorem seg_set {α : Type} {A B C : List α} {p off : Nat} {v : α} (hA : A.length = p) (ho : off < B.length) : A ++ B.set off v ++ C = (A ++ B ++ C).take (p + off) ++ [v] ++ (A ++ B ++ C).drop (p + off + 1) := by
  have h1 : (A ++ B ++ C).set (p + off) v = A ++ B.set off v ++ C := by
    rw [List.set_append_left _ _ (by simp; omega), List.set_append_right _ _ (by omega), hA, Nat.add_sub_cancel_left]
  rw [← h1, List.set_eq_take_append_cons_drop, if_pos (by simp; omega)]
  simp
theorem RP.setc {α : Type} [Inhabited α] {E : EP α} {I : IH} {l : List α} {xs : List Value} {i : Int} {off : Nat} {v : Value} {z : α} (h : (RP E l).h I xs) (hz : ∀ cs, E.h I cs (nth l i) → E.h I (cs.set off v) z) (hoff : off < E.size) (h0 : 0 ≤ i) (h1 : i < l.length) :
    (RP E (lset l i z)).h I (xs.take (i.toNat * E.size + off) ++ [v] ++ xs.drop (i.toNat * E.size + off + 1)) := by
  obtain ⟨c, rfl, h2, h3⟩ := h
  have hi : i.toNat < c.length := by omega
  have hil : i.toNat < l.length := by omega
  have hc : ∀ y ∈ c, y.length = E.size := fun y hy => by
    obtain ⟨m, hm, rfl⟩ := List.mem_iff_getElem.1 hy
    exact E.len (h3 m hm (by omega))
  have hn : nth l i = l[i.toNat] := by simp [nth, List.getD_eq_getElem?_getD, hil]
  have hci := h3 _ hi hil
  have hlen : c[i.toNat].length = E.size := E.len hci
  have hy := hz c[i.toNat] (by rw [hn]; exact hci)
  have hset := RP.set (E := E) (l := l) (xs := c.flatten) (i := i) (x := z) (ys := c[i.toNat].set off v) ⟨c, rfl, h2, h3⟩ hy h0 h1
  have e := flatten_set hc hlen hi
  rw [List.set_getElem_self] at e
  have hfl : c.flatten.length = c.length * E.size := by
    have := RP.len (E := E) (l := l) (I := I) (xs := c.flatten) ⟨c, rfl, h2, h3⟩
    rw [this, h2]
  have hle : i.toNat * E.size + E.size ≤ c.flatten.length := by
    rw [hfl]
    calc i.toNat * E.size + E.size = (i.toNat + 1) * E.size := by rw [Nat.add_mul]; omega
      _ ≤ c.length * E.size := Nat.mul_le_mul_right _ hi
  have hseg := seg_set (A := c.flatten.take (i.toNat * E.size)) (B := c[i.toNat]) (C := c.flatten.drop (i.toNat * E.size + E.size)) (p := i.toNat * E.size) (off := off) (v := v) (by rw [List.length_take]; omega) (by omega)
  rw [hseg, ← e] at hset
  exact hset
section ops
variable {cx : Cx} {S : St} {ty : TypeId} {pos : String} {af : Array Edge}
theorem o_stfi {α : Type} [Inhabited α] {E : EP α} {x y : Operand} {T e : TypeId} {j n off : Nat} {l : List α} {i v : Int} {z : α} (hT : TyS cx.P T) (hx : S.op x = some (.e (.a (.e j (i.toNat * E.size + off))))) (hj : look j S.L = some (.own e E.size n (RP E l))) (hy : S.op y = some (.i v)) (hz : ∀ I cs, E.h I cs (nth l i) → E.h I (cs.set off (.int .i64 v)) z) (hoff : off < E.size) (hn : n = l.length) (h0 : 0 ≤ i) (hi : i < l.length) :
    OpG cx S ⟨none, .store T x y, ty, pos, af, none⟩ ⟨.e (.a (.v undef)), [], [], [(j, .own e E.size (lset l i z).length (RP E (lset l i z)))], []⟩ := by
  subst hn
  rw [lset_len]
  have hlt : (i.toNat + 1) * E.size ≤ l.length * E.size := Nat.mul_le_mul_right _ (by omega)
  rw [Nat.add_mul] at hlt
  exact o_steg (ev := .a (ai v)) (m := 1) hT.sz hx hj hy (by trivial) rfl (by omega) (by omega) (fun M ε I a w hs xs h => RP.setc h (hz I) hoff h0 hi) rfl
end ops
end Go.Eng
namespace Go.Eng
open Go
section
variable {cx : Cx} {S : St} {dst : Option Tmp} {ty : TypeId} {pos : String} {af : Array Edge} {gd : Option (Nat × Bool)} {x y : Operand} {t t' : TypeId} {a b : Int}
theorem o_quo (hx : S.op x = some (.i a)) (hy : S.op y = some (.i b)) (hb : 0 < b) (h1 : -9223372036854775808 ≤ a.tdiv b) (h2 : a.tdiv b ≤ 9223372036854775807) : OpG cx S ⟨dst, .binOp .quo t x y t', ty, pos, af, gd⟩ (.val (.i (a.tdiv b))) := by
  have hb0 : b ≠ 0 := by omega
  have : OpG cx S ⟨dst, .binOp .quo t x y t', ty, pos, af, gd⟩ (.val (.i (IntKind.i64.wrap (a.tdiv b)))) := o_bin hx hy fun w => by simp [eqGuard, binOp, Op.intDiv, hb0]
  rwa [wrap_in h1 h2] at this
end
end Go.Eng
