/- The engine, part M: the loop that ranges over a function, from its caller's side. -/
import Derived.Test.YtglbnodjcngefaaEngL
set_option linter.unusedSimpArgs false
set_option linter.unusedVariables false
namespace Go.Eng
open Go

theorem SatM.move {cx : Cx} {M : Nat → Prop} {ε : Env} {I I' : IH} {S : St} {a : Act} {w w' : World} (hs : SatM cx M ε I S a w) (hle : I.le I') (hon : I'.on w') (hos : w'.os = w.os) (htape : w'.tape = w.tape) (hout : w'.output = w.output) (hsz : w.heap.size ≤ w'.heap.size)
    (hb : ∀ b, b < w.heap.size → (b < cx.w0.heap.size ∨ ∃ k e, look k S.L = some e ∧ e.foot ε k b) → w'.heap[b]? = w.heap[b]?)
    (hfr : ∀ b o, I' b = some o → I b = some o ∨ (cx.w0.heap.size ≤ b ∧ ∀ k e, look k S.L = some e → ¬ e.foot ε k b)) : SatM cx M ε I' S a w' :=
  { hs with
    X := fun j R hj => R.mono hle (hs.X j R hj)
    L := fun k e he => Ent.ok_kept (M := M) Env.agree.refl hle (hs.wfL k e he).1 (hs.wfL k e he).2 (hs.L k e he) (fun b hfb => hb b (hs.foot k e he b hfb).2.1 (.inr ⟨k, e, he, hfb⟩)) (fun x hx => by
      subst hx
      obtain ⟨h1, h2⟩ := hs.ext k x he
      refine ⟨hle, hon, hos, htape, hout, hsz, fun b hlt h => hb b hlt ?_, fun b o ho => ?_⟩
      · rcases h with h | h
        · exact .inl (h2 b h).1
        · exact .inr ⟨k, _, he, h⟩
      · rcases hfr b o ho with h | h
        · exact .inl h
        · exact .inr ⟨Nat.le_trans h1 h.1, h.2 k _ he⟩)
    foot := fun k e he b hfb => by
      obtain ⟨h1, h2, h3⟩ := hs.foot k e he b hfb
      refine ⟨h1, Nat.lt_of_lt_of_le h2 hsz, ?_⟩
      cases hI : I' b with
      | none => rfl
      | some o =>
        rcases hfr b o hI with h | h
        · rw [h3] at h; cases h
        · exact absurd hfb (h.2 k e he)
    imm := hon
    keep := ⟨hos.trans hs.keep.os, htape.trans hs.keep.tape, hout.trans hs.keep.output, Nat.le_trans hs.keep.size hsz, fun b hlt hE => (hb b (Nat.lt_of_lt_of_le hlt hs.keep.size) (.inl hlt)).trans (hs.keep.block b hlt hE)⟩
    le0 := hs.le0.trans hle
    fr0 := fun b o ho => by
      rcases hfr b o ho with h | h
      · exact hs.fr0 b o h
      · exact .inr h.1 }

/-! ### A round -/
theorem rd_same {w w' : World} {u : Value} (h : ∀ b, b < w.heap.size → u.ownBlock = some b → w'.heap[b]? = w.heap[b]?) : (rd w u).le (rd w' u) := fun b o hb => by
  unfold rd at hb ⊢
  split at hb
  · rename_i he
    rw [if_pos he, h b (Array.getElem?_eq_some_iff.1 hb).1 he]; exact hb
  · cases hb
def lentXP (u : Value) (R : Pred) : XP := ⟨0, fun b => u.ownBlock = some b, fun _ => False, fun _ w => R.h (rd w u) u, fun h hJ => R.mono (rd_same fun b hb he => h.block b hb (.inl he)) hJ⟩
theorem SatM.lent {cx : Cx} {M : Nat → Prop} {ε : Env} {I : IH} {S : St} {a : Act} {w : World} (hs : SatM cx M ε I S a w) {j : Nat} {u : Value} {R : Pred} (hX : Has S.X j (Pred.is u)) (hL : look j S.L = some (.ext (lentXP u R))) : R.h (World.all w) (ε.ν j) := by
  rw [show ε.ν j = u from hs.has hX]
  exact R.mono rd_all (hs.L j _ hL)

def sh {α : Type} (m : Nat) (X : List (Nat × α)) : List (Nat × α) := X.map fun p => (m + p.1, p.2)
theorem look_sh {α : Type} {m i : Nat} {x : α} : ∀ {X : List (Nat × α)}, look i (sh m X) = some x → ∃ j, i = m + j ∧ look j X = some x
  | (k, y) :: t, h => by
    rw [sh, List.map_cons, look_cons] at h
    by_cases hk : m + k = i
    · subst hk
      simp at h; subst h
      exact ⟨k, rfl, by simp [look_cons]⟩
    · simp only [hk, if_false] at h
      obtain ⟨j, rfl, hj⟩ := look_sh (X := t) h
      exact ⟨j, rfl, by rw [look_cons, if_neg (by omega)]; exact hj⟩
/-- The state in which a round begins. -/
def roundSt (m q kl : Nat) (ps : List Nat) (it : Item) (T : St) (rec : Loop) (us : Nat → Value) : St :=
  ⟨m + q, ps.zip (it.svs.map (SV.ren (m + ·))) ++ T.fr, sh m it.X ++ ((sh m (it.Lt.map fun p => (p.1, Pred.is (us p.1)))) ++ T.X), sh m (it.Lt.map fun p => (p.1, Ent.ext (lentXP (us p.1) p.2))) ++ ((kl, .ob (.loop rec)) :: T.L), [], []⟩
/-- What of a state lasts beyond a round. -/
def St.bare (T : St) (kl : Nat) (rec : Loop) : St := ⟨T.n, [], T.X, (kl, .ob (.loop rec)) :: T.L, [], []⟩
/-- How a round's body is left. -/
def RndQ (cx : Cx) (kl : Nat) (rec : Loop) (T : St) (Kx : Code → St → Prop) : Exit → Act → World → Prop
  | .normal, a, w => ∃ ε I, Sat cx ε I (T.bare kl rec) a w
  | .exit id, a, w => ∃ T', Kx (.exit id) T' ∧ ∃ ε I, Sat cx ε I (T'.bare kl rec) a w
  | .ret, a, w => ∃ T', Kx .ret T' ∧ ∃ ε I, Sat cx ε I (T'.bare kl rec) a w
  | _, _, _ => False
def AsgQ (cx : Cx) (kl : Nat) (rec : Loop) (body : Code) (Q : Exit → Act → World → Prop) : Exit → Act → World → Prop
  | .normal, a, w => ∃ S : St, look kl S.L = some (.ob (.loop { rec with state := .ready })) ∧ WP cx { S with L := (kl, .ob (.loop { rec with state := .busy })) :: S.L } body Q ∧ ∃ ε I, Sat cx ε I S a w
  | _, _, _ => False
section
variable {cx : Cx} {S T : St} {kl : Nat} {rec : Loop} {Kx : Code → St → Prop}
theorem EX.beg {body : Code} {Q : Exit → Act → World → Prop} (hk : look kl S.L = some (.ob (.loop { rec with state := .ready }))) (h : WP cx { S with L := (kl, .ob (.loop { rec with state := .busy })) :: S.L } body Q) : EX cx S .normal (AsgQ cx kl rec body Q) :=
  fun ε I _ _ hs => ⟨S, hk, h, ε, I, hs⟩
theorem EX.next (ρ : Nat → Nat) (h : LeR cx.nB S (T.bare kl rec) ρ) : EX cx S .normal (RndQ cx kl rec T Kx) := fun _ _ _ _ hs => ⟨_, _, Sat.leR h hs⟩
theorem EX.jexit {id : Nat} {T' : St} (ρ : Nat → Nat) (hK : Kx (.exit id) T') (h : LeR cx.nB S (T'.bare kl rec) ρ) : EX cx S (.exit id) (RndQ cx kl rec T Kx) := fun _ _ _ _ hs => ⟨T', hK, _, _, Sat.leR h hs⟩
theorem EX.jret {T' : St} (ρ : Nat → Nat) (hK : Kx .ret T') (h : LeR cx.nB S (T'.bare kl rec) ρ) : EX cx S .ret (RndQ cx kl rec T Kx) := fun _ _ _ _ hs => ⟨T', hK, _, _, Sat.leR h hs⟩
end

/-! ### The loop's own word -/
structure OutJ (cx : Cx) (a : Act) (l nB : Nat) (ε0 : Env) (rec : Loop) (T : St) (F : Nat → Prop) (I : IH) (w : World) (ε : Env) : Prop where
  ag : ∀ k, k < nB → ε.β k = ε0.β k ∧ ε.ν k = ε0.ν k
  sat : Sat cx ε I T a w
  lrec : w.heap[l]? = some (.loop rec)
  foot : ∀ k e b, look k T.L = some e → e.foot ε k b → F b ∧ b ≠ l
  Fl : F l
  F : ∀ b, F b → b < w.heap.size ∧ I b = none ∧ (cx.w0.heap.size ≤ b ∨ cx.E b)
  l0 : cx.w0.heap.size ≤ l
theorem OutJ.st {cx : Cx} {a : Act} {l nB n1 : Nat} {ε0 ε : Env} {rec : Loop} {T : St} {F : Nat → Prop} {I I' : IH} {w w' : World} (hn : cx.w0.heap.size ≤ n1) (h : Stab n1 (· < n1) F I I' w w') (hJ : OutJ cx a l nB ε0 rec T F I w ε) : OutJ cx a l nB ε0 rec T F I' w' ε where
  ag := hJ.ag
  sat := SatM.move hJ.sat h.le h.on h.os h.tape h.output h.size (fun b hb hk => h.block b hb (by
      rcases hk with hk | ⟨k, e, he, hf⟩
      · exact .inl (by show b < n1; omega)
      · exact .inr (hJ.foot k e b he hf).1)) (fun b o ho => by
      rcases h.fresh b o ho with h1 | h1
      · exact .inl h1
      · exact .inr ⟨Nat.le_trans hn h1.1, fun k e he hf => h1.2 (hJ.foot k e b he hf).1⟩)
  lrec := by rw [h.block l (Array.getElem?_eq_some_iff.1 hJ.lrec).1 (.inr hJ.Fl)]; exact hJ.lrec
  foot := hJ.foot
  Fl := hJ.Fl
  F := fun b hb => by
    obtain ⟨h1, h2, h3⟩ := hJ.F b hb
    refine ⟨Nat.lt_of_lt_of_le h1 h.size, ?_, h3⟩
    cases hI : I' b with
    | none => rfl
    | some o =>
      rcases h.fresh b o hI with h4 | h4
      · rw [h2] at h4; cases h4
      · exact absurd hb h4.2
  l0 := hJ.l0
def OutY (cx : Cx) (a : Act) (l nB : Nat) (ε0 : Env) {n1 : Nat} (hn : cx.w0.heap.size ≤ n1) (Kx : Loop → St → Prop) : YI n1 where
  J F I w := ∃ rec T ε, Kx rec T ∧ OutJ cx a l nB ε0 rec T F I w ε
  st := fun h ⟨rec, T, ε, hK, hJ⟩ => ⟨rec, T, ε, hK, hJ.st hn h⟩
  ft := fun ⟨_, _, _, _, hJ⟩ b hb => ⟨(hJ.F b hb).1, (hJ.F b hb).2.1⟩

/-- The temporaries with the yielded values laid in. -/
theorem tmps_fold : ∀ (ps : List Nat) (vs : List Value) (tmps : Array Value), ps.Nodup → (∀ t ∈ ps, t < tmps.size) → ps.length = vs.length →
    ((ps.zip vs).foldl (fun tmps (p : Nat × Value) => tmps.setIfInBounds p.1 p.2) tmps).size = tmps.size ∧
    (∀ i, i ∉ ps → ((ps.zip vs).foldl (fun tmps (p : Nat × Value) => tmps.setIfInBounds p.1 p.2) tmps)[i]? = tmps[i]?) ∧
    ∀ (j t : Nat) (v : Value), ps[j]? = some t → vs[j]? = some v → ((ps.zip vs).foldl (fun tmps (p : Nat × Value) => tmps.setIfInBounds p.1 p.2) tmps)[t]? = some v
  | [], vs, tmps, _, _, _ => ⟨by simp, fun i _ => by simp, fun j t v h => by simp at h⟩
  | p :: ps, [], tmps, _, _, h => by simp at h
  | p :: ps, v :: vs, tmps, hnd, hlt, hl => by
    obtain ⟨h1, h2⟩ := List.nodup_cons.1 hnd
    obtain ⟨h3, h4, h5⟩ := tmps_fold ps vs (tmps.setIfInBounds p v) h2 (fun t ht => by simpa using hlt t (List.mem_cons_of_mem _ ht)) (by simpa using hl)
    refine ⟨by simpa using h3, fun i hi => ?_, fun j t u hj hu => ?_⟩
    · simp only [List.zip_cons_cons, List.foldl_cons]
      rw [h4 i (fun h => hi (List.mem_cons_of_mem _ h))]
      exact Array.getElem?_setIfInBounds_ne (fun e => hi (by rw [e]; exact List.mem_cons_self))
    · simp only [List.zip_cons_cons, List.foldl_cons]
      cases j with
      | zero =>
        simp at hj hu; subst hj; subst hu
        rw [h4 p h1]
        have := hlt p List.mem_cons_self
        simp [this]
      | succ j => exact h5 j t u (by simpa using hj) (by simpa using hu)
theorem look_zip : ∀ {ps : List Nat} {svs : List SV} {i : Nat} {x : SV}, look i (ps.zip svs) = some x → ∃ j : Nat, ps[j]? = some i ∧ svs[j]? = some x
  | [], svs, i, x, h => by cases h
  | p :: ps, [], i, x, h => by cases h
  | p :: ps, y :: svs, i, x, h => by
    rw [List.zip_cons_cons, look_cons] at h
    by_cases hp : p = i
    · subst hp; simp at h; subst h; exact ⟨0, rfl, rfl⟩
    · simp only [hp, if_false] at h
      obtain ⟨j, h1, h2⟩ := look_zip h
      exact ⟨j + 1, by simpa using h1, by simpa using h2⟩
theorem look_zip_none : ∀ {ps : List Nat} {svs : List SV} {i : Nat}, ps.length = svs.length → look i (ps.zip svs) = none → i ∉ ps
  | [], svs, i, _, _ => by simp
  | p :: ps, [], i, h, _ => by simp at h
  | p :: ps, y :: svs, i, hl, h => by
    rw [List.zip_cons_cons, look_cons] at h
    by_cases hp : p = i
    · simp [hp] at h
    · simp only [hp, if_false] at h
      intro hm
      rcases List.mem_cons.1 hm with rfl | hm
      · exact hp rfl
      · exact look_zip_none (by simpa using hl) h hm
/-- A slot's value that stands for the same under every environment that agrees on the keys below nB. -/
def SV.kbp (n : Nat) : SV → Bool
  | .c _ _ => false
  | x => x.kb n
theorem At.den_kb {n : Nat} {ε ε' : Env} (h : ∀ k, k < n → ε'.β k = ε.β k ∧ ε'.ν k = ε.ν k) : ∀ {x : At}, x.kb n = true → x.den ε' = x.den ε
  | .v _, _ => rfl
  | .q j, hx => (h j (At.on_kb hx)).2
  | .p k _, hx => by simp only [At.den, (h k (At.on_kb hx)).1]
  | .e j _, hx => by simp only [At.den, (h j (At.on_kb hx)).2]
  | .s k _, hx => by simp only [At.den, (h k (At.on_kb hx)).1]
  | .f _ js, hx => by
    simp only [At.den]
    rw [List.map_congr_left (fun j hj => (h j (At.on_kb hx j hj)).2)]
theorem El.den_kb {n : Nat} {ε ε' : Env} (h : ∀ k, k < n → ε'.β k = ε.β k ∧ ε'.ν k = ε.ν k) : ∀ {x : El}, x.kb n = true → x.den ε' = x.den ε
  | .a _, hx => At.den_kb h hx
  | .g l, hx => by simp only [El.den]; rw [List.map_congr_left (fun c hc => At.den_kb h (List.all_eq_true.1 hx c hc))]
theorem SV.den_kb {n : Nat} {ε ε' : Env} (h : ∀ k, k < n → ε'.β k = ε.β k ∧ ε'.ν k = ε.ν k) : ∀ {x : SV}, x.kbp n = true → x.den ε' = x.den ε
  | .e _, hx => El.den_kb h hx
  | .t l, hx => by simp only [SV.den]; rw [List.map_congr_left (fun c hc => El.den_kb h (List.all_eq_true.1 hx c hc))]
  | .c _ _, hx => by cases hx
theorem SV.on_kbp {n : Nat} {γ : Nat → Bool} : ∀ {x : SV}, x.kbp n = true → x.on γ (· < n)
  | .e _, h => SV.on_kb (x := .e _) h
  | .t _, h => SV.on_kb (x := .t _) h
  | .c _ _, h => by cases h

/-- A value of an item: plain, or one of its hidden values. -/
def At.kr (q : Nat) : At → Bool
  | .v _ => true
  | .q j => Nat.blt j q
  | _ => false
def El.kr (q : Nat) : El → Bool
  | .a x => x.kr q
  | .g l => l.all (At.kr q)
def SV.kr (q : Nat) : SV → Bool
  | .e x => x.kr q
  | _ => false
theorem At.kr_ren {m q : Nat} : ∀ {x : At}, x.kr q = true → (x.ren (m + ·)).on (· < m + q)
  | .v _, _ => trivial
  | .q j, h => by
    simp only [At.kr, Nat.blt_eq] at h
    show m + j < m + q
    omega
theorem SV.kr_ren {m q : Nat} {γ : Nat → Bool} : ∀ {x : SV}, x.kr q = true → (x.ren (m + ·)).on γ (· < m + q)
  | .e (.a _), h => At.kr_ren h
  | .e (.g l), h => fun c hc => by
    obtain ⟨y, hy, rfl⟩ := List.mem_map.1 hc
    exact At.kr_ren (List.all_eq_true.1 h y hy)
theorem At.kr_den {m q : Nat} {ε : Env} {us : Nat → Value} (h : ∀ j, j < q → ε.ν (m + j) = us j) : ∀ {x : At}, x.kr q = true → (x.ren (m + ·)).den ε = x.den ⟨fun _ => 0, us, fun _ => true⟩
  | .v _, _ => rfl
  | .q j, hx => h j (by simpa [At.kr, Nat.blt_eq] using hx)
theorem SV.kr_den {m q : Nat} {ε : Env} {us : Nat → Value} (h : ∀ j, j < q → ε.ν (m + j) = us j) : ∀ {x : SV}, x.kr q = true → (x.ren (m + ·)).den ε = den0 us x
  | .e (.a _), hx => At.kr_den h hx
  | .e (.g l), hx => by
    simp only [SV.ren, El.ren, SV.den, El.den, den0, List.map_map]
    rw [List.map_congr_left (fun c hc => by show (c.ren (m + ·)).den ε = _; exact At.kr_den h (List.all_eq_true.1 hx c hc))]

structure RSt (fr0 : List (Nat × SV)) (D0 : List Nat) (m kl : Nat) (T : St) : Prop where
  fr : T.fr = fr0
  D : T.D = D0
  n : T.n = m
  G : T.G = []
  kl : look kl T.L = none
  ext : ∀ k x, look k T.L = some (.ext x) → x.n1 = 0 ∧ ∀ b, ¬ x.Rd b
structure ItemOK (q : Nat) (ps : List Nat) (it : Item) : Prop where
  len : ps.length = it.svs.length
  kr : it.svs.all (SV.kr q) = true
  X : (keys it.X).all (Nat.blt · q) = true
  Lt : (keys it.Lt).all (Nat.blt · q) = true

/-- The state of the outer activation, behind a round. -/
theorem OutJ.back {cx : Cx} {a a2 : Act} {l nB m kl : Nat} {ε0 ε ε2 : Env} {rec rec2 rec3 : Loop} {T T' : St} {F : Nat → Prop} {I I2 : IH} {w w3 w4 : World} {fr0 : List (Nat × SV)} {D0 : List Nat} {pν : Nat → Value}
    (hJ : OutJ cx a l nB ε0 rec T F I w ε) (hT : RSt fr0 D0 m kl T) (hT' : RSt fr0 D0 m kl T') (hfr0 : fr0.all (fun p => p.2.kbp nB) = true) (hD0 : D0.all (Nat.blt · nB) = true) (hnB : nB ≤ m) (hkl : ε0.β kl = l) (hklB : kl < nB) (hcx : cx.nB ≤ nB) (hpν : pν = ε0.ν)
    (hs : Sat ⟨cx.P, some l, w, cx.N, F, I, nB, ε0.β, pν⟩ ε2 I2 (T'.bare kl rec2) a2 w3) (hw4 : w4 = { w3 with heap := w3.heap.setIfInBounds l (.loop rec3) }) :
    Keep F w w4 ∧ I.le I2 ∧ I2.on w4 ∧ (∀ b o, I2 b = some o → I b = some o ∨ w.heap.size ≤ b) ∧ ∃ F', (∀ b, F b → F' b) ∧ (∀ b, F' b → F b ∨ w.heap.size ≤ b) ∧ OutJ cx a l nB ε0 rec3 T' F' I2 w4 ε2 := by
  subst hw4
  subst hpν
  have hpin := fun k hk => hs.pin k hk
  have hag : ∀ k, k < nB → ε2.β k = ε0.β k ∧ ε2.ν k = ε0.ν k := fun k hk => (hpin k hk).2
  have hlook : ∀ k e, look k T'.L = some e → look k (T'.bare kl rec2).L = some e := fun k e he => by
    have hne : kl ≠ k := fun h => by rw [← h, hT'.kl] at he; cases he
    simp only [St.bare, look_cons, hne, if_false]; exact he
  have hlrec : w3.heap[l]? = some (.loop rec2) := by
    have := hs.L kl (.ob (.loop rec2)) (by simp [St.bare, look_cons])
    simp only [Ent.ok] at this
    rw [(hag kl hklB).1, hkl] at this; exact this
  have hlt := (Array.getElem?_eq_some_iff.1 hlrec).1
  have hFl := hJ.F l hJ.Fl
  have hI2 : ∀ b, F b → I2 b = none := fun b hb => by
    cases h : I2 b with
    | none => rfl
    | some o =>
      obtain ⟨h1, h2, _⟩ := hJ.F b hb
      rcases hs.fr0 b o h with h3 | h3
      · have h3 : I b = some o := h3
        rw [h2] at h3; cases h3
      · have h3 : w.heap.size ≤ b := h3
        omega
  have hfoot : ∀ k e b, look k T'.L = some e → e.foot ε2 k b → (w.heap.size ≤ b ∨ F b) ∧ b < w3.heap.size ∧ I2 b = none ∧ b ≠ l := fun k e b he hb => by
    obtain ⟨h1, h2, h3⟩ := hs.foot k e (hlook k e he) b hb
    refine ⟨h1, h2, h3, fun h => ?_⟩
    subst h
    have hne : k ≠ kl := fun h => by rw [h, hT'.kl] at he; cases he
    exact hs.sep k kl e (.ob (.loop rec2)) b (hlook k e he) (by simp [St.bare, look_cons]) hne hb (by show b = ε2.β kl; rw [(hag kl hklB).1, hkl])
  have hkeep3 : Keep F w w3 := hs.keep
  have hwsz : cx.w0.heap.size ≤ w.heap.size := hJ.sat.keep.size
  -- the outer state in w3
  have h3 : Sat cx ε2 I2 T' a w3 := by
    refine ⟨?_, ?_, ?_, ?_, ?_, ?_, hJ.sat.size, ?_, ?_, ?_, ?_, ?_, ?_, hs.imm, ?_, hJ.sat.le0.trans hs.le0, ?_, ?_, ?_⟩
    · intro i x hx
      rw [hT'.fr] at hx
      refine SV.on_mono (fun k hk => ?_) (SV.on_kbp (List.all_eq_true.1 hfr0 _ (look_mem hx)))
      show k < T'.n
      rw [hT'.n]; omega
    · intro j R hj; exact hs.wfX j R hj
    · intro k e he; exact hs.wfL k e (hlook k e he)
    · intro k hk
      rw [hT'.D] at hk
      have := List.all_eq_true.1 hD0 k hk
      rw [Nat.blt_eq] at this
      show k < T'.n
      rw [hT'.n]; omega
    · intro g b hg; rw [hT'.G] at hg; cases hg
    · intro g b hg; rw [hT'.G] at hg; cases hg
    · rw [hJ.sat.defs, hT.D, hT'.D]
      refine List.map_congr_left fun k hk => ?_
      have := List.all_eq_true.1 hD0 k hk
      rw [Nat.blt_eq] at this
      simp only [markOf]
      rw [(hag k this).1, (hJ.ag k this).1]
    · intro i x hx
      rw [hT'.fr] at hx
      have h1 := hJ.sat.fr i x (by rw [hT.fr]; exact hx)
      rw [h1]
      have hkb := List.all_eq_true.1 hfr0 _ (look_mem hx)
      rw [SV.den_kb (fun k hk => ⟨(hag k hk).1.trans (hJ.ag k hk).1.symm, (hag k hk).2.trans (hJ.ag k hk).2.symm⟩) hkb]
    · intro j R hj; exact hs.X j R hj
    · intro k e he; exact hs.L k e (hlook k e he)
    · intro k e he b hb
      obtain ⟨h1, h2, h3, _⟩ := hfoot k e b he hb
      refine ⟨?_, h2, h3⟩
      rcases h1 with h1 | h1
      · exact .inl (Nat.le_trans hwsz h1)
      · exact (hJ.F b h1).2.2
    · intro k k' e e' b he he' hne hb; exact hs.sep k k' e e' b (hlook k e he) (hlook k' e' he') hne hb
    · refine ⟨hkeep3.os.trans hJ.sat.keep.os, hkeep3.tape.trans hJ.sat.keep.tape, hkeep3.output.trans hJ.sat.keep.output, Nat.le_trans hwsz hkeep3.size, fun b hb hE => ?_⟩
      rw [hkeep3.block b (by omega) (fun hF => by
        rcases (hJ.F b hF).2.2 with h | h
        · omega
        · exact hE h)]
      exact hJ.sat.keep.block b hb hE
    · intro b o hb
      rcases hs.fr0 b o hb with h | h
      · exact hJ.sat.fr0 b o h
      · exact .inr (Nat.le_trans hwsz h)
    · intro k hk
      have hk' : k < nB := by omega
      obtain ⟨_, h1, h2⟩ := hJ.sat.pin k hk
      refine ⟨by show k < T'.n; rw [hT'.n]; omega, ?_, ?_⟩
      · rw [(hag k hk').1, ← (hJ.ag k hk').1]; exact h1
      · rw [(hag k hk').2, ← (hJ.ag k hk').2]; exact h2
    · intro k x hx
      obtain ⟨h1, h2⟩ := hT'.ext k x hx
      exact ⟨by omega, fun b hb => absurd hb (h2 b)⟩
  have hb4 : ∀ b, b ≠ l → ({ w3 with heap := w3.heap.setIfInBounds l (.loop rec3) } : World).heap[b]? = w3.heap[b]? := fun b hb => by
    simp [Array.getElem?_setIfInBounds_ne (Ne.symm hb)]
  have hon4 : I2.on { w3 with heap := w3.heap.setIfInBounds l (.loop rec3) } := fun b o hb => by
    rw [hb4 b (fun e => by rw [e, hI2 l hJ.Fl] at hb; cases hb)]
    exact hs.imm b o hb
  have h4 : Sat cx ε2 I2 T' a { w3 with heap := w3.heap.setIfInBounds l (.loop rec3) } := SatM.move h3 IH.le.rfl' hon4 rfl rfl rfl (by simp) (fun b hb hk => by
      refine hb4 b ?_
      rcases hk with hk | ⟨k, e, he, hf⟩
      · have := hJ.l0; omega
      · exact (hfoot k e b he hf).2.2.2) (fun b o hb => .inl hb)
  refine ⟨⟨hkeep3.os, hkeep3.tape, hkeep3.output, by simpa using hkeep3.size, fun b hb hF => ?_⟩, hs.le0, hon4, hs.fr0, fun b => F b ∨ ∃ k e, look k T'.L = some e ∧ e.foot ε2 k b, fun b hb => .inl hb, fun b hb => ?_,
    ⟨hag, h4, by simp [hlt], fun k e b he hb => ⟨.inr ⟨k, e, he, hb⟩, (hfoot k e b he hb).2.2.2⟩, .inl hJ.Fl, fun b hb => ?_, hJ.l0⟩⟩
  · rw [hb4 b (fun e => hF (by rw [e]; exact hJ.Fl))]; exact hkeep3.block b hb hF
  · rcases hb with hb | ⟨k, e, he, hb⟩
    · exact .inl hb
    · exact ((hfoot k e b he hb).1).symm
  · rcases hb with hb | ⟨k, e, he, hb⟩
    · refine ⟨?_, hI2 b hb, (hJ.F b hb).2.2⟩
      have := (hJ.F b hb).1
      have h5 := hkeep3.size
      simp; omega
    · obtain ⟨h5, h6, h7, _⟩ := hfoot k e b he hb
      refine ⟨by simpa using h6, h7, ?_⟩
      rcases h5 with h5 | h5
      · exact .inl (Nat.le_trans hwsz h5)
      · exact (hJ.F b h5).2.2
end Go.Eng
