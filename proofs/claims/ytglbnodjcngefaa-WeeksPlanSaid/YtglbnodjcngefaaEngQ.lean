/- The engine, part Q: checks by reckoning for renamings; guards in drawn regions; arrays; further operations. -/
import Derived.Test.YtglbnodjcngefaaEngP
set_option linter.unusedSimpArgs false
set_option linter.unusedVariables false
namespace Go.Eng
open Go

def ren (l : List (Nat × Nat)) (k : Nat) : Nat := match look k l with | some i => i | none => k
def notin (x : Nat) : List Nat → Bool
  | [] => true
  | y :: t => !(Nat.beq x y) && notin x t
def nodupb : List Nat → Bool
  | [] => true
  | x :: t => notin x t && nodupb t
theorem notin_iff {x : Nat} : ∀ {l : List Nat}, notin x l = true → x ∉ l
  | [], _ => by simp
  | y :: t, h => by
    simp only [notin, Bool.and_eq_true, Bool.not_eq_true'] at h
    intro hm
    rcases List.mem_cons.1 hm with rfl | hm
    · have := h.1; rw [Nat.beq_refl] at this; cases this
    · exact notin_iff h.2 hm
theorem nodupb_inj {ρ : Nat → Nat} : ∀ {l : List Nat}, nodupb (l.map ρ) = true → ∀ k k', k ∈ l → k' ∈ l → ρ k = ρ k' → k = k'
  | [], _, k, _, h, _, _ => by cases h
  | x :: t, h, k, k', hk, hk', he => by
    simp only [List.map_cons, nodupb, Bool.and_eq_true] at h
    rcases List.mem_cons.1 hk with h1 | h1
    · rcases List.mem_cons.1 hk' with h2 | h2
      · rw [h1, h2]
      · exact absurd (by rw [← h1, he]; exact List.mem_map.2 ⟨k', h2, rfl⟩) (notin_iff h.1)
    · rcases List.mem_cons.1 hk' with h2 | h2
      · exact absurd (by rw [← h2, ← he]; exact List.mem_map.2 ⟨k, h1, rfl⟩) (notin_iff h.1)
      · exact nodupb_inj h.2 k k' h1 h2 he
def keyset : List Nat → List Nat
  | [] => []
  | x :: t => bif notin x t then x :: keyset t else keyset t
theorem mem_keyset {k : Nat} : ∀ {l : List Nat}, k ∈ l → k ∈ keyset l
  | x :: t, h => by
    simp only [keyset]
    cases hn : notin x t with
    | true =>
      rcases List.mem_cons.1 h with rfl | h
      · exact List.mem_cons_self
      · exact List.mem_cons_of_mem _ (mem_keyset h)
    | false =>
      rcases List.mem_cons.1 h with rfl | h
      · have : k ∈ t := by
          have key : ∀ l : List Nat, notin k l = false → k ∈ l := by
            intro l
            induction l with
            | nil => intro h; cases h
            | cons y t ih =>
              intro h
              simp only [notin, Bool.and_eq_false_iff, Bool.not_eq_false'] at h
              rcases h with h | h
              · rw [Nat.eq_of_beq_eq_true h]; exact List.mem_cons_self
              · exact List.mem_cons_of_mem _ (ih h)
          exact key t hn
        exact mem_keyset this
      · exact mem_keyset h
def pinb (nB n : Nat) (ρ : Nat → Nat) : Bool := (List.range nB).all fun k => Nat.beq (ρ k) k && Nat.blt k n
theorem pin_of {nB n : Nat} {ρ : Nat → Nat} (h : pinb nB n ρ = true) : ∀ k, k < nB → ρ k = k ∧ k < n := fun k hk => by
  have := List.all_eq_true.1 h k (List.mem_range.2 hk)
  simp only [Bool.and_eq_true, Nat.blt_eq] at this
  exact ⟨Nat.eq_of_beq_eq_true this.1, this.2⟩
theorem LeR.of {nB : Nat} {S S' : St} {ρ : Nat → Nat} (fr : LeFr S.fr ρ S'.fr) (X : LeX S.X ρ S'.X) (L : LeL S.L ρ S'.L) (hinj : nodupb ((keyset (keys S'.L)).map ρ) = true) (D : S.D = S'.D.map ρ) (G : S'.G = []) (kb : S'.kb = true) (hpin : pinb nB S'.n ρ = true) : LeR nB S S' ρ :=
  ⟨fr, X, L, fun k k' hk hk' h => nodupb_inj hinj k k' (mem_keyset hk) (mem_keyset hk') h, D, G, kb, pin_of hpin⟩

section
variable {cx : Cx} {Q : Exit → Act → World → Prop} {ops : Array Oper} {nf : Nat} {r : Rec} {t : List (Oper × Rec)}
variable {n : Nat} {fr : List (Nat × SV)} {X : List (Nat × Pred)} {L : List (Nat × Ent)} {D : List Nat} {G : List (Nat × Bool)} {d : Tmp} {op : Op} {ty : TypeId} {pos : String} {af : Array Edge} {sv : SV}
theorem Imp.bit (g m : Nat) (b : Bool) (hg : Nat.ble n g = true) (hm : Nat.blt g m = true) : Imp cx ⟨n, fr, X, L, D, G⟩ ⟨m, fr, X, L, D, (g, b) :: G⟩ :=
  fun _ _ _ _ hs => ⟨_, _, Sat.bit (by simpa using hg) (by rw [Nat.blt_eq] at hm; exact hm) hs⟩
/-- A guarded value in a drawn region. -/
theorem DRQ.gv (g : Nat) {gs : List Nat} {b : Bool} {x : El} {j dj : Nat} {want : Bool} (hd : Nat.blt d cx.N = true) (hj : (ops[j]?).bind (·.dst) = some dj) (hb : GB (St.drop ⟨n, fr, X, L, D, G⟩ r.ds r.dk) dj want g gs b) (hN : r.N = [])
    (h : b = true → OpG cx ((St.drop ⟨n, fr, X, L, D, G⟩ r.ds r.dk).und gs) ⟨some d, op, ty, pos, af, some (j, want)⟩ (.val (.e x))) (K : DRQ cx ops nf t ⟨n, (d, .c g x) :: fr, X, L, D, G⟩ Q) :
    DRQ cx ops nf ((⟨some d, op, ty, pos, af, some (j, want)⟩, r) :: t) ⟨n, fr, X, L, D, G⟩ Q :=
  ⟨U.cond (.val (.e x)) g b x, ROp.g rfl hj hb rfl rfl (fun _ _ h => by cases h) h, ⟨hN.symm, fun _ _ h => (by cases h), fun _ _ h => (by cases h), rfl, fun i hi => by cases hi; rw [Nat.blt_eq] at hd; exact hd⟩, K⟩
theorem DRQ.gx (g k : Nat) {gs : List Nat} {b : Bool} {x : El} {R : Pred} {j dj : Nat} {want : Bool} (hd : Nat.blt d cx.N = true) (hj : (ops[j]?).bind (·.dst) = some dj) (hb : GB (St.drop ⟨n, fr, X, L, D, G⟩ r.ds r.dk) dj want g gs b) (hN : r.N = [k]) (hk : r.ks = [k])
    (h : b = true → OpG cx ((St.drop ⟨n, fr, X, L, D, G⟩ r.ds r.dk).und gs) ⟨some d, op, ty, pos, af, some (j, want)⟩ ⟨.e x, [k], [(k, R)], [], []⟩) (K : DRQ cx ops nf t ⟨n, (d, .c g x) :: fr, (k, Pred.iff b R) :: X, L, D, G⟩ Q) :
    DRQ cx ops nf ((⟨some d, op, ty, pos, af, some (j, want)⟩, r) :: t) ⟨n, fr, X, L, D, G⟩ Q :=
  ⟨U.cond ⟨.e x, [k], [(k, R)], [], []⟩ g b x, ROp.g rfl hj hb rfl rfl (fun _ _ h => by obtain ⟨rfl, _⟩ := look_one h; simp) h, ⟨hN.symm, fun i _ h => (by obtain ⟨rfl, _⟩ := look_one h; rw [hk]; simp), fun _ _ h => (by cases h), rfl, fun i hi => by cases hi; rw [Nat.blt_eq] at hd; exact hd⟩, K⟩
end

/-! ### Arrays of numbers -/
def arrA (n : Nat) (l : List Int) : List At := (List.range n).map fun (j : Nat) => ai (nth l (j : Int))
theorem arrA_get {n : Nat} {l : List Int} {i : Int} (h0 : 0 ≤ i) (h1 : i < n) : (arrA n l)[i.toNat]? = some (ai (nth l i)) := by
  have h : i.toNat < n := by omega
  have e : ((i.toNat : Nat) : Int) = i := by omega
  simp [arrA, h, e]
theorem arrA_set {n : Nat} {l : List Int} {i : Int} {v : Int} (hl : l.length = n) (h0 : 0 ≤ i) (h1 : i < n) : splice (arrA n l) i.toNat [ai v] = arrA n (lset l i v) := by
  have h : i.toNat < n := by omega
  apply List.ext_getElem?
  intro j
  simp only [splice, arrA, List.getElem?_append, List.length_append, List.length_take, List.length_map, List.length_range, List.length_cons, List.length_nil, List.getElem?_take, List.getElem?_drop, List.getElem?_map]
  have e1 : min i.toNat n = i.toNat := by omega
  simp only [e1]
  by_cases c1 : j < i.toNat
  · have c2 : j < i.toNat + 1 := by omega
    have c3 : j < n := by omega
    have c4 : ¬ i.toNat = j := by omega
    simp [c1, c2, c3, nth, lset, List.getD_eq_getElem?_getD, List.getElem?_set, c4]
  · by_cases c2 : j = i.toNat
    · subst c2
      simp [h, nth, lset, List.getD_eq_getElem?_getD, List.getElem?_set, hl]
    · have c3 : ¬ j < i.toNat + 1 := by omega
      have c5 : i.toNat + 1 + (j - (i.toNat + 1)) = j := by omega
      have c4 : ¬ i.toNat = j := by omega
      by_cases c6 : j < n
      · simp [c3, c5, c6, nth, lset, List.getD_eq_getElem?_getD, List.getElem?_set, c4]
      · simp [c3, c5, c6]
section ops
variable {cx : Cx} {S : St} {dst : Option Tmp} {ty : TypeId} {pos : String} {af : Array Edge} {gd : Option (Nat × Bool)}
/-- An element of an array in a block of its own. -/
theorem o_ldpn {x : Operand} {T T' : TypeId} {k n : Nat} {cs : List At} {l : List Int} {i : Int} (hT : TyS cx.P T) (hx : S.op x = some (.e (.a (.p k i.toNat)))) (hk : look k S.L = some (.blk cs T')) (hcs : cs = arrA n l) (h0 : 0 ≤ i) (h1 : i < n) :
    OpG cx S ⟨dst, .load T x, ty, pos, af, gd⟩ (.val (.i (nth l i))) := by
  subst hcs
  exact o_ldp hT hx hk (arrA_get h0 h1)
theorem o_stpn {x y : Operand} {T T' : TypeId} {k n : Nat} {cs cs' : List At} {l : List Int} {i v : Int} (hT : TyS cx.P T) (hx : S.op x = some (.e (.a (.p k i.toNat)))) (hk : look k S.L = some (.blk cs T')) (hy : S.op y = some (.i v)) (hcs : cs = arrA n l) (hcs' : cs' = arrA n (lset l i v)) (hl : l.length = n) (h0 : 0 ≤ i) (h1 : i < n) :
    OpG cx S ⟨none, .store T x y, ty, pos, af, none⟩ ⟨.e (.a (.v undef)), [], [], [(k, .blk cs' T')], []⟩ := by
  subst hcs
  subst hcs'
  rw [← arrA_set hl h0 h1]
  refine o_sta hT hx hk hy rfl ?_
  have : (arrA n l).length = n := by simp [arrA]
  rw [this]
  simp; omega
/-- An element of an array behind a pointer into settled memory: its place. -/
theorem o_idxe {x y : Operand} {T e : TypeId} {j o n : Nat} {i : Int} {α : Type} {E : EP α} {z : α} (hT : IsArr cx.P T e n) (hx : S.op x = some (.e (.a (.e j o)))) (hj : Has S.X j (PP E z)) (hi : S.op y = some (.i i)) (h0 : 0 ≤ i) (h1 : i < n) :
    OpG cx S ⟨dst, .indexAddr T x y, ty, pos, af, gd⟩ (.val (.e (.a (.e j (o + i.toNat))))) :=
  OpG.pure (fun _ => by simp) fun M ε I a w hs => ⟨hs.on (sv := .e (.a (.e j o))) hx, by
    have h := hs.eval hx
    have h' := hs.eval hi
    obtain ⟨ad, h4, h5⟩ := PP.base (hs.has hj)
    obtain ⟨h2, h3⟩ := hT
    simp only [SV.den, El.den, At.den, h4, padd] at h
    simp only [SV.den, El.den, At.den] at h'
    simp [execOp, h, h', Instr.indexAt, asIntOf, run_underlying h2, h0, h1, h3, Instr.sureAddr, SV.den, El.den, At.den, h4, padd, Addr.add_add h5]⟩
theorem o_idxq {x y : Operand} {T e : TypeId} {j n : Nat} {i : Int} {α : Type} {E : EP α} {z : α} (hT : IsArr cx.P T e n) (hx : S.op x = some (.e (.a (.q j)))) (hj : Has S.X j (PP E z)) (hi : S.op y = some (.i i)) (h0 : 0 ≤ i) (h1 : i < n) :
    OpG cx S ⟨dst, .indexAddr T x y, ty, pos, af, gd⟩ (.val (.e (.a (.e j i.toNat)))) :=
  OpG.pure (fun _ => by simp) fun M ε I a w hs => ⟨hs.on (sv := .e (.a (.q j))) hx, by
    have h := hs.eval hx
    have h' := hs.eval hi
    obtain ⟨ad, h4, h5⟩ := PP.base (hs.has hj)
    obtain ⟨h2, h3⟩ := hT
    simp only [SV.den, El.den, At.den, h4] at h
    simp only [SV.den, El.den, At.den] at h'
    simp [execOp, h, h', Instr.indexAt, asIntOf, run_underlying h2, h0, h1, h3, Instr.sureAddr, SV.den, El.den, At.den, h4, padd]⟩
/-- How an array of numbers lies in settled memory. -/
def EArr (n : Nat) : EP (List Int) := .fix n (fun l => (List.range n).map fun (j : Nat) => .int .i64 (nth l (j : Int))) (fun _ => by simp)
theorem arr_get {n : Nat} {l : List Int} {i : Int} (h0 : 0 ≤ i) (h1 : i < n) : ∀ I cs, (EArr n).h I cs l → cs[i.toNat]? = some (.int .i64 (nth l i)) := fun _ _ h => by
  have h2 : i.toNat < n := by omega
  have e : ((i.toNat : Nat) : Int) = i := by omega
  rw [show _ = _ from h]
  simp [h2, e]

/-! ### Comparisons of other things than numbers -/
theorem run_eqb {P : Program} {t : TypeId} (hT : P.underlying t = some .bool) (a b : Bool) (w : World) : (Op.equal t (.bool a) (.bool b)).run P w = .ok (a == b) w := by
  show (Op.equalIn (Op.maxDepth - 1 + 1) t (.bool a) (.bool b)).run P w = _
  simp [Op.equalIn, run_underlying hT]
theorem o_eqb {x y : Operand} {t t' : TypeId} {a b : Bool} (hT : cx.P.underlying t = some .bool) (hx : S.op x = some (.b a)) (hy : S.op y = some (.b b)) : OpG cx S ⟨dst, .binOp .eql t x y t', ty, pos, af, gd⟩ (.val (.b (a == b))) :=
  OpG.pure (fun _ => by simp) fun M ε I ac w hs => ⟨trivial, by
    have h1 := hs.eval hx; have h2 := hs.eval hy
    simp only [SV.den, El.den, At.den] at h1 h2
    have := run_eqb hT a b w
    simp [execOp, h1, h2, eqGuard, binOp, SV.den, El.den, At.den, this]⟩
theorem o_neb {x y : Operand} {t t' : TypeId} {a b : Bool} (hT : cx.P.underlying t = some .bool) (hx : S.op x = some (.b a)) (hy : S.op y = some (.b b)) : OpG cx S ⟨dst, .binOp .neq t x y t', ty, pos, af, gd⟩ (.val (.b (a != b))) :=
  OpG.pure (fun _ => by simp) fun M ε I ac w hs => ⟨trivial, by
    have h1 := hs.eval hx; have h2 := hs.eval hy
    simp only [SV.den, El.den, At.den] at h1 h2
    have := run_eqb hT a b w
    simp [execOp, h1, h2, eqGuard, binOp, SV.den, El.den, At.den, this]
    cases a <;> cases b <;> rfl⟩
end ops
end Go.Eng
