/- The engine, part U: rows that are settled as soon as they are made; nil among elements; iterations. -/
import Derived.Test.YtglbnodjcngefaaEngT
set_option linter.unusedSimpArgs false
set_option linter.unusedVariables false
namespace Go.Eng
open Go

theorem nofp {cx : Cx} {M : Nat → Prop} {ε : Env} {I : IH} {S : St} {a : Act} {w : World} (hs : SatM cx M ε I S a w) {u : U} (h : ∀ k e, look k u.L = some e → ¬ M k) : ∀ b, ¬ fpOf S ε u b := by
  rintro b ⟨k, e, h1, h2, _⟩
  cases hl : look k u.L with
  | none => rw [hl] at h1; cases h1
  | some x => exact h k x hl (hs.wfL k _ h2).1
theorem OpG.settle0 {cx : Cx} {S : St} {o : Oper} {sv : SV} {k : Nat} {T : TypeId} {α : Type} {E : EP α} {l : List α} (h : OpG cx S o ⟨sv, [k], [], [(k, .own T E.size l.length (RP E l))], []⟩) : OpG cx S o ⟨sv, [k], [(k, PL E l)], [], []⟩ := by
  intro M ε I a w next Q hs hN K
  refine h M ε I a w next Q hs hN fun ε' I' w' ht hn => ?_
  have hk : look k [(k, Ent.own T E.size l.length (RP E l))] = some (.own T E.size l.length (RP E l)) := by simp [look_cons]
  have hnofp := nofp hs (u := ⟨sv, [k], [], [(k, .own T E.size l.length (RP E l))], []⟩) (fun k' e he => by obtain ⟨rfl, _⟩ := look_one he; exact hN k' (by simp))
  obtain ⟨xs, h1, h2⟩ := hn.L k _ hk
  have hft : ∀ b, (ε'.ν k).ownBlock = some b → w.heap.size ≤ b ∧ b < w'.heap.size ∧ I' b = none := fun b hb => by
    obtain ⟨_, h4, h5, h6⟩ := hn.foot k (.own T E.size l.length (RP E l)) hk b hb
    rcases h6 with h6 | h6
    · exact ⟨h6, h4, h5⟩
    · exact absurd h6 (hnofp b)
  let I2 : IH := fun b => if (ε'.ν k).ownBlock = some b then w'.heap[b]? else I' b
  have hle : I'.le I2 := fun b o hb => by
    by_cases h : (ε'.ν k).ownBlock = some b
    · rw [(hft b h).2.2] at hb; cases hb
    · simp only [I2, if_neg h]; exact hb
  refine K ε' I2 w' ⟨ht.ag, ht.le.trans hle, fun b o hb => ?_, ht.os, ht.tape, ht.output, ht.size, fun b hb _ => ht.block b hb (hnofp b), fun b o hb => ?_⟩
    ⟨hn.sv, fun j R hj => by obtain ⟨rfl, _⟩ := look_one hj; exact .inr (by simp), hn.wG, fun _ _ h => (by cases h), fun j R hj => ?_, fun _ _ h => (by cases h), fun _ _ h => (by cases h), fun _ _ _ _ _ h => (by cases h), fun _ _ h => (by cases h)⟩
  · by_cases h : (ε'.ν k).ownBlock = some b
    · simp only [I2, if_pos h] at hb; exact hb
    · simp only [I2, if_neg h] at hb; exact ht.imm b o hb
  · by_cases h : (ε'.ν k).ownBlock = some b
    · exact .inr (.inl (hft b h).1)
    · simp only [I2, if_neg h] at hb
      rcases ht.fresh b o hb with h | h | h
      · exact .inl h
      · exact .inr (.inl h)
      · exact absurd h.1 (hnofp b)
  · obtain ⟨rfl, rfl⟩ := look_one hj
    exact own_pl h1 h2 (fun _ _ h => E.mono hle h) fun b hb => by simp only [I2, if_pos hb]
theorem OpG.settle1 {cx : Cx} {S : St} {o : Oper} {sv : SV} {k k0 : Nat} {T T0 : TypeId} {s0 n0 : Nat} {R0 : LPred} {α : Type} {E : EP α} {l : List α} (hE : cx.E = Emp ∨ Has S.X k0 (Pred.newer cx.w0.heap.size)) (hk0 : look k0 S.L = some (.own T0 s0 n0 R0)) (h : OpG cx S o ⟨sv, [k], [], [(k, .own T E.size l.length (RP E l)), (k0, .dead)], []⟩) : OpG cx S o ⟨sv, [k], [(k, PL E l)], [(k0, .dead)], []⟩ := by
  intro M ε I a w next Q hs hN K
  refine h M ε I a w next Q hs hN fun ε' I' w' ht hn => ?_
  have hk : look k [(k, Ent.own T E.size l.length (RP E l)), (k0, .dead)] = some (.own T E.size l.length (RP E l)) := by simp [look_cons]
  have hne0 : k ≠ k0 := fun e => hN k (by simp) (by rw [e]; exact (hs.wfL k0 _ hk0).1)
  have hk0M := (hs.wfL k0 _ hk0).1
  have hfpE : ∀ b, fpOf S ε ⟨sv, [k], [], [(k, .own T E.size l.length (RP E l)), (k0, .dead)], []⟩ b → (ε.ν k0).ownBlock = some b := by
    rintro b ⟨k', e', h1, h2, h3⟩
    have hk' : k' = k ∨ k' = k0 := by
      cases hl : look k' [(k, Ent.own T E.size l.length (RP E l)), (k0, .dead)] with
      | none => rw [hl] at h1; cases h1
      | some x =>
        rcases look_two hl with ⟨h, _⟩ | ⟨_, h, _⟩
        · exact .inl h
        · exact .inr h
    rcases hk' with rfl | rfl
    · exact absurd (hs.wfL k' _ h2).1 (hN k' (by simp))
    · rw [hk0] at h2; cases h2; exact h3
  have hfp : ∀ b, (ε.ν k0).ownBlock = some b → fpOf S ε ⟨sv, [k], [(k, PL E l)], [(k0, .dead)], []⟩ b := fun b hb => ⟨k0, _, by simp [look], hk0, hb⟩
  have hge : ∀ b, (ε.ν k0).ownBlock = some b → cx.w0.heap.size ≤ b := fun b hb => by
    rcases hE with hE | hE
    · rcases (hs.foot k0 _ hk0 b hb).1 with h | h
      · exact h
      · rw [hE] at h; exact h.elim
    · exact hs.has hE b hb
  obtain ⟨xs, h1, h2⟩ := hn.L k _ hk
  have hft : ∀ b, (ε'.ν k).ownBlock = some b → (w.heap.size ≤ b ∨ (ε.ν k0).ownBlock = some b) ∧ b < w'.heap.size ∧ I' b = none := fun b hb => by
    obtain ⟨_, h4, h5, h6⟩ := hn.foot k (.own T E.size l.length (RP E l)) hk b hb
    rcases h6 with h6 | h6
    · exact ⟨.inl h6, h4, h5⟩
    · exact ⟨.inr (hfpE b h6), h4, h5⟩
  let I2 : IH := fun b => if (ε'.ν k).ownBlock = some b then w'.heap[b]? else I' b
  have hle : I'.le I2 := fun b o hb => by
    by_cases h : (ε'.ν k).ownBlock = some b
    · rw [(hft b h).2.2] at hb; cases hb
    · simp only [I2, if_neg h]; exact hb
  refine K ε' I2 w' ⟨ht.ag, ht.le.trans hle, fun b o hb => ?_, ht.os, ht.tape, ht.output, ht.size, fun b hb hn' => ht.block b hb (fun h => hn' (hfp b (hfpE b h))), fun b o hb => ?_⟩
    ⟨hn.sv, fun j R hj => by obtain ⟨rfl, _⟩ := look_one hj; exact .inr (by simp), hn.wG, fun j e he => by obtain ⟨rfl, rfl⟩ := look_one he; exact ⟨.inl hk0M, trivial⟩, fun j R hj => ?_, fun j e he => by obtain ⟨rfl, rfl⟩ := look_one he; trivial, fun j e he b hb => by obtain ⟨rfl, rfl⟩ := look_one he; exact absurd hb (fun h => h),
      fun i i' e e' b he he' hne hb => by obtain ⟨rfl, rfl⟩ := look_one he; exact absurd hb (fun h => h), fun j x h => by obtain ⟨_, h⟩ := look_one h; cases h⟩
  · by_cases h : (ε'.ν k).ownBlock = some b
    · simp only [I2, if_pos h] at hb; exact hb
    · simp only [I2, if_neg h] at hb; exact ht.imm b o hb
  · by_cases h : (ε'.ν k).ownBlock = some b
    · rcases (hft b h).1 with h' | h'
      · exact .inr (.inl h')
      · exact .inr (.inr ⟨hfp b h', hge b h'⟩)
    · simp only [I2, if_neg h] at hb
      rcases ht.fresh b o hb with h | h | h
      · exact .inl h
      · exact .inr (.inl h)
      · exact .inr (.inr ⟨hfp b (hfpE b h.1), h.2⟩)
  · obtain ⟨rfl, rfl⟩ := look_one hj
    exact own_pl h1 h2 (fun _ _ h => E.mono hle h) fun b hb => by simp only [I2, if_pos hb]
theorem pl_nil {α : Type} {E : EP α} {I : IH} : (PL E []).h I (.slice none 0 0) := ⟨none, 0, rfl, Nat.le_refl _, fun i hi => absurd hi (by simp)⟩
theorem eok_nil {cx : Cx} {S : St} {α : Type} {E : EP α} : EOK cx S E.sl (.a (.v (.slice none 0 0))) [] := fun _ _ _ _ _ _ => ⟨_, rfl, pl_nil⟩
section
variable {cx : Cx} {Q : Exit → Act → World → Prop} {ops : Array Oper} {rest : List Oper}
variable {n : Nat} {fr : List (Nat × SV)} {X : List (Nat × Pred)} {L : List (Nat × Ent)} {D : List Nat} {G : List (Nat × Bool)} {d : Tmp} {op : Op} {ty : TypeId} {pos : String} {af : Array Edge} {sv : SV}
/-- An own row turned into a settled one. -/
theorem WPl.st (k m : Nat) {R : Pred} {L' : List (Nat × Ent)} (hk : Nat.ble n k = true) (hm : Nat.blt k m = true) (hd : Nat.blt d cx.N = true) (h : OpG cx ⟨n, fr, X, L, D, G⟩ ⟨some d, op, ty, pos, af, none⟩ ⟨sv, [k], [(k, R)], L', []⟩)
    (K : WPl cx ops ⟨m, (d, sv) :: fr, (k, R) :: X, L' ++ L, D, G⟩ rest Q) : WPl cx ops ⟨n, fr, X, L, D, G⟩ (⟨some d, op, ty, pos, af, none⟩ :: rest) Q := WPl.u1 hk hm hd h K
end

/-- So many steps. -/
def iter {σ : Type} (f : Nat → σ → σ) (s : σ) : Nat → σ
  | 0 => s
  | n + 1 => f n (iter f s n)
end Go.Eng
namespace Go.Eng
open Go

/-! ### The statement 'for .. := range f', its items counted -/
theorem nodup_of : ∀ {l : List Nat}, nodupb l = true → l.Nodup
  | [], _ => List.nodup_nil
  | x :: t, h => by
    simp only [nodupb, Bool.and_eq_true] at h
    exact List.nodup_cons.2 ⟨notin_iff h.1, nodup_of h.2⟩
theorem ItemOK.of {q : Nat} {ps : List Nat} {it : Item} (h : (Nat.beq ps.length it.svs.length && it.svs.all (SV.kr q) && (keys it.X).all (Nat.blt · q) && (keys it.Lt).all (Nat.blt · q)) = true) : ItemOK q ps it := by
  simp only [Bool.and_eq_true] at h
  exact ⟨Nat.eq_of_beq_eq_true h.1.1.1, h.1.1.2, h.1.2, h.2⟩
def Ent.plainb : Ent → Bool
  | .ext _ => false
  | _ => true
theorem RSt.of {fr0 : List (Nat × SV)} {D0 : List Nat} {m kl : Nat} {T : St} (fr : T.fr = fr0) (D : T.D = D0) (n : T.n = m) (G : T.G = []) (kl' : look kl T.L = none) (h : T.L.all (fun p => p.2.plainb) = true) : RSt fr0 D0 m kl T :=
  ⟨fr, D, n, G, kl', fun k x hx => by
    have := List.all_eq_true.1 h _ (look_mem hx)
    cases this⟩
/-- One entry of others' memory, and no other. -/
theorem RSt.of1 {fr0 : List (Nat × SV)} {D0 : List Nat} {m kl : Nat} {T : St} (kx : Nat) {Y : XP} (fr : T.fr = fr0) (D : T.D = D0) (n : T.n = m) (G : T.G = []) (kl' : look kl T.L = none) (hk : look kx T.L = some (.ext Y)) (hY : Y.plain) (h : T.L.all (fun p => p.2.plainb || Nat.beq p.1 kx) = true) : RSt fr0 D0 m kl T :=
  ⟨fr, D, n, G, kl', fun k x hx => by
    have h1 := List.all_eq_true.1 h _ (look_mem hx)
    simp only [Ent.plainb, Bool.false_or] at h1
    have := Nat.eq_of_beq_eq_true h1
    subst this
    rw [hk] at hx; cases hx
    exact ⟨hY.n1, hY.Rd⟩⟩
section
variable {cx : Cx} {n : Nat} {fr : List (Nat × SV)} {X : List (Nat × Pred)} {L : List (Nat × Ent)} {D : List Nat} {G : List (Nat × Bool)} {ps : List Nat} {assign body : Code} {items : List Item} {Q : Exit → Act → World → Prop} {g : Operand} {j : Nat}
theorem range_items {N : Nat} {gI : Nat → Item} {i : Nat} {it : Item} (h : ((List.range N).map gI)[i]? = some it) : i < N ∧ it = gI i := by
  rw [List.getElem?_map] at h
  cases hr : (List.range N)[i]? with
  | none => rw [hr] at h; cases h
  | some k =>
    rw [hr] at h
    obtain ⟨h1, h2⟩ := List.getElem?_eq_some_iff.1 hr
    simp at h1 h2 h
    subst h2
    exact ⟨h1, h.symm⟩
theorem Loop.ready_eta {R0 : Loop} (h : R0.state = .ready) : ∃ R1 : Loop, R0 = { R1 with state := .ready } := ⟨R0, by cases R0; simp at h; subst h; rfl⟩
theorem Rng.ofG {m q N : Nat} {gI : Nat → Item} {Sg : Nat → St} {Kx : Code → St → Prop} {D0 : List Nat} (hst : ∀ i, RSt fr D0 m (n + 1) (Sg i)) (hkx : ∀ c T, Kx c T → RSt fr D0 m (n + 1) T) (hfr : fr.all (fun p => p.2.kbp (n + 2)) = true) (hD : D0.all (Nat.blt · (n + 2)) = true) (hm : Nat.ble (n + 2) m = true)
    (hitem : ∀ i, i < N → ItemOK q ps (gI i)) (hnd : nodupb ps = true) (hps : ps.all (Nat.blt · cx.N) = true)
    (round : ∀ i, i < N → ∀ (w0 : World) (E : Nat → Prop) (I0 : IH) (R1 : Loop) (pβ : Nat → Nat) (pν us : Nat → Value), WP ⟨cx.P, some (pβ (n + 1)), w0, cx.N, E, I0, n + 2, pβ, pν⟩ (roundSt m q (n + 1) ps (gI i) (Sg i) { R1 with state := .ready } us) assign
      (AsgQ ⟨cx.P, some (pβ (n + 1)), w0, cx.N, E, I0, n + 2, pβ, pν⟩ (n + 1) { R1 with state := .ready } body (RndQ ⟨cx.P, some (pβ (n + 1)), w0, cx.N, E, I0, n + 2, pβ, pν⟩ (n + 1) { R1 with state := .busy } (Sg (i + 1)) Kx))) :
    Rng cx n fr D0 ps assign body ((List.range N).map gI) m q Sg Kx :=
  ⟨hst, hkx, hfr, hD, by simpa using hm, fun it hi => by
    obtain ⟨k, hk, rfl⟩ := List.mem_map.1 hi
    exact hitem k (by simpa using hk), nodup_of hnd, fun t ht => by simpa [Nat.blt_eq] using List.all_eq_true.1 hps t ht, fun i it hi w0 E I0 R0 pβ pν us hR => by
    obtain ⟨h1, rfl⟩ := range_items hi
    obtain ⟨R1, rfl⟩ := Loop.ready_eta hR
    exact round i h1 w0 E I0 R1 pβ pν us⟩
theorem WP.rangeG (m q N : Nat) (gI : Nat → Item) (Sg : Nat → St) (Kx : Code → St → Prop) (hr : cx.r = none) (hg : St.op ⟨n, fr, X, L, D, G⟩ g = some (.e (.a (.q j)))) (hj : Has X j (ItP cx.P items)) (hit : items = (List.range N).map gI)
    (hst : ∀ i, RSt fr (n :: D) m (n + 1) (Sg i)) (hkx : ∀ c T, Kx c T → RSt fr (n :: D) m (n + 1) T) (hfr : fr.all (fun p => p.2.kbp (n + 2)) = true) (hD : (n :: D).all (Nat.blt · (n + 2)) = true) (hm : Nat.ble (n + 2) m = true)
    (hitem : ∀ i, i < N → ItemOK q ps (gI i)) (hnd : nodupb ps = true) (hps : ps.all (Nat.blt · cx.N) = true)
    (ρ : Nat → Nat) (h0 : LeR (n + 2) ⟨n + 2, fr, X, (n, .ob (.deferred (some []))) :: L, n :: D, []⟩ (Sg 0) ρ)
    (round : ∀ i, i < N → ∀ (w0 : World) (E : Nat → Prop) (I0 : IH) (R1 : Loop) (pβ : Nat → Nat) (pν us : Nat → Value), WP ⟨cx.P, some (pβ (n + 1)), w0, cx.N, E, I0, n + 2, pβ, pν⟩ (roundSt m q (n + 1) ps (gI i) (Sg i) { R1 with state := .ready } us) assign
      (AsgQ ⟨cx.P, some (pβ (n + 1)), w0, cx.N, E, I0, n + 2, pβ, pν⟩ (n + 1) { R1 with state := .ready } body (RndQ ⟨cx.P, some (pβ (n + 1)), w0, cx.N, E, I0, n + 2, pβ, pν⟩ (n + 1) { R1 with state := .busy } (Sg (i + 1)) Kx)))
    (hjump : ∀ c T, Kx c T → WP cx T c Q) (hnorm : EX cx (Sg N) .normal Q) : WP cx ⟨n, fr, X, L, D, G⟩ (.rangeFunc g ps.toArray assign body) Q := by
  subst hit
  exact WP.range hr (Rng.ofG hst hkx hfr hD hm hitem hnd hps round) hg (ItP.hit hj) ρ h0 (by simpa using hnorm) hjump
theorem WP.rangeG2 {l0 : Nat} {rec0 : Loop} (kl0 : Nat) (m q N : Nat) (gI : Nat → Item) (Sg : Nat → St) (Kx : Code → St → Prop) (hr : cx.r = some l0) (hkl0 : Nat.blt kl0 cx.nB = true) (hpl : cx.pβ kl0 = l0) (hlk : look kl0 L = some (.ob (.loop rec0))) (hg : St.op ⟨n, fr, X, L, D, G⟩ g = some (.e (.a (.q j)))) (hj : Has X j (ItP cx.P items)) (hit : items = (List.range N).map gI)
    (hst : ∀ i, RSt fr D m (n + 1) (Sg i)) (hkx : ∀ c T, Kx c T → RSt fr D m (n + 1) T) (hfr : fr.all (fun p => p.2.kbp (n + 2)) = true) (hD : D.all (Nat.blt · (n + 2)) = true) (hm : Nat.ble (n + 2) m = true)
    (hitem : ∀ i, i < N → ItemOK q ps (gI i)) (hnd : nodupb ps = true) (hps : ps.all (Nat.blt · cx.N) = true)
    (ρ : Nat → Nat) (h0 : LeR (n + 2) ⟨n + 2, fr, X, L, D, []⟩ (Sg 0) ρ)
    (round : ∀ i, i < N → ∀ (w0 : World) (E : Nat → Prop) (I0 : IH) (R1 : Loop) (pβ : Nat → Nat) (pν us : Nat → Value), WP ⟨cx.P, some (pβ (n + 1)), w0, cx.N, E, I0, n + 2, pβ, pν⟩ (roundSt m q (n + 1) ps (gI i) (Sg i) { R1 with state := .ready } us) assign
      (AsgQ ⟨cx.P, some (pβ (n + 1)), w0, cx.N, E, I0, n + 2, pβ, pν⟩ (n + 1) { R1 with state := .ready } body (RndQ ⟨cx.P, some (pβ (n + 1)), w0, cx.N, E, I0, n + 2, pβ, pν⟩ (n + 1) { R1 with state := .busy } (Sg (i + 1)) Kx)))
    (hjump : ∀ c T, Kx c T → WP cx T c Q) (hnorm : EX cx (Sg N) .normal Q) : WP cx ⟨n, fr, X, L, D, G⟩ (.rangeFunc g ps.toArray assign body) Q := by
  subst hit
  exact WP.range2 hr (by rw [Nat.blt_eq] at hkl0; exact hkl0) hpl hlk (Rng.ofG hst hkx hfr hD hm hitem hnd hps round) hg (ItP.hit hj) ρ h0 (by simpa using hnorm) hjump
end

/-! ### A slice against nil -/
section
variable {cx : Cx} {Q : Exit → Act → World → Prop} {ops : Array Oper} {rest : List Oper}
variable {n : Nat} {fr : List (Nat × SV)} {X : List (Nat × Pred)} {L : List (Nat × Ent)} {D : List Nat} {G : List (Nat × Bool)} {d : Tmp} {ty : TypeId} {pos : String} {af : Array Edge}
theorem run_eqsl {P : Program} {t e : TypeId} (hT : P.underlying t = some (.slice e)) (a : Option Addr) (len cap : Nat) (w : World) : (Op.equal t (.slice a len cap) (.slice none 0 0)).run P w = .ok a.isNone w := by
  show (Op.equalIn (Op.maxDepth - 1 + 1) t (.slice a len cap) (.slice none 0 0)).run P w = _
  cases a <;> simp [Op.equalIn, run_underlying hT]
/-- A slice of which the elements are known is held against nil: if it is nil, it has none. -/
theorem WPl.eqnil {x : Operand} {t t' e : TypeId} {j : Nat} {α : Type} {E : EP α} {l : List α} (hT : cx.P.underlying t = some (.slice e)) (hd : Nat.blt d cx.N = true) (hx : St.op ⟨n, fr, X, L, D, G⟩ x = some (.e (.a (.q j)))) (hj : Has X j (PL E l))
    (K : ∀ c : Bool, (c = true → l = []) → WPl cx ops ⟨n, (d, .b c) :: fr, X, L, D, G⟩ rest Q) : WPl cx ops ⟨n, fr, X, L, D, G⟩ (⟨some d, .binOp .eql t x (.const (.slice none 0 0)) t', ty, pos, af, none⟩ :: rest) Q := by
  intro ε I a w hs
  obtain ⟨ad, cap, hv, hc, hl⟩ := hs.has hj
  have hx' := hs.eval hx
  simp only [SV.den, El.den, At.den, hv] at hx'
  refine wpListIn_step fun K' hK => ?_
  simp only [Region.wanted, if_true]
  refine ⟨fun _ _ => trivial, ?_⟩
  have h3 : a.eval (.const (.slice none 0 0)) = .slice none 0 0 := rfl
  have hrun : (execOp a.eval ⟨some d, .binOp .eql t x (.const (.slice none 0 0)) t', ty, pos, af, none⟩).run cx.P w = .ok (.value (.bool ad.isNone)) w := by
    simp [execOp, hx', h3, eqGuard, binOp, run_eqsl hT]
  rw [semAt_eq _ _ _ (fun _ => by simp), hrun]
  have hd' : d < cx.N := by rw [Nat.blt_eq] at hd; exact hd
  refine hK _ _ (K ad.isNone (fun h => ?_) ε I _ w ?_)
  · cases l with
    | nil => rfl
    | cons y t =>
      obtain ⟨cs, ad', _, h2, _⟩ := hl 0 (by simp)
      rw [h2] at h; cases h
  · have := SatM.app (d := some d) (u := .val (.b ad.isNone)) n hs (St.le.refl _) (fun k hk => by cases hk) (fun i hi => by cases hi; exact hd') (Tr.refl hs.imm) (New.val trivial)
    exact SatM.mono (fun k hk => by
      rcases hk with hk | hk
      · exact hk
      · cases hk) this
end
end Go.Eng
namespace Go.Eng
open Go
section ops
variable {cx : Cx} {S : St} {dst : Option Tmp} {ty : TypeId} {pos : String} {af : Array Edge} {gd : Option (Nat × Bool)}
theorem RP.cells {α : Type} [Inhabited α] {E : EP α} {I : IH} {l : List α} {xs : List Value} (h : (RP E l).h I xs) {i : Int} (h0 : 0 ≤ i) (h1 : i < l.length) : ∃ cs, E.h I cs (nth l i) ∧ cs.length = E.size ∧ (xs.drop (i.toNat * E.size)).take E.size = cs := by
  obtain ⟨cs, h2, h3⟩ := RP.at h h0 h1
  refine ⟨cs, h2, E.len h2, ?_⟩
  apply List.ext_getElem?
  intro j
  rw [List.getElem?_take, List.getElem?_drop]
  by_cases hj : j < E.size
  · have : j < cs.length := by rw [E.len h2]; exact hj
    rw [if_pos hj, h3 j cs[j] (by simp [this])]
    simp [this]
  · rw [if_neg hj, List.getElem?_eq_none (by rw [E.len h2]; omega)]
/-- A whole element of an own row: plain cells. -/
theorem o_ldoG {x : Operand} {T e : TypeId} {j n sz : Nat} {α : Type} [Inhabited α] {E : EP α} {l : List α} {i : Int} {zs : List Value} {as : List At} (hT : TyG cx.P T sz) (hx : S.op x = some (.e (.a (.e j (i.toNat * sz))))) (hj : look j S.L = some (.own e sz n (RP E l))) (hsz : sz = E.size) (hn : n = l.length) (h0 : 0 ≤ i) (h1 : i < l.length)
    (hz : ∀ I cs, E.h I cs (nth l i) → (cs.drop 0).take sz = zs) (hm : zs.length = sz) (has : as = zs.map .v) : OpG cx S ⟨dst, .load T x, ty, pos, af, gd⟩ (.val (.e (.g as))) := by
  subst hsz
  refine o_ldog hT hx hj (by omega) (fun I xs h => ?_) hm has
  obtain ⟨cs, h2, h3, h4⟩ := RP.cells h h0 h1
  rw [h4, ← hz I cs h2, List.drop_zero, List.take_of_length_le (by omega)]
/-- A whole element of an own row: a value with memory behind it. -/
theorem o_ldoR {x : Operand} {T e : TypeId} {j n sz k : Nat} {α : Type} [Inhabited α] {E : EP α} {l : List α} {i : Int} {R' : Pred} (hT : TyS cx.P T) (hx : S.op x = some (.e (.a (.e j (i.toNat * sz))))) (hj : look j S.L = some (.own e sz n (RP E l))) (hsz : sz = E.size) (hn : n = l.length) (h0 : 0 ≤ i) (h1 : i < l.length)
    (hz : ∀ I cs, E.h I cs (nth l i) → ∃ u, cs[0]? = some u ∧ R'.h I u) : OpG cx S ⟨dst, .load T x, ty, pos, af, gd⟩ ⟨.e (.a (.q k)), [k], [(k, R')], [], []⟩ := by
  subst hsz
  refine o_ldox hT hx hj (by omega) fun I xs h => ?_
  obtain ⟨cs, h2, h3⟩ := RP.at h h0 h1
  obtain ⟨u, h4, h5⟩ := hz I cs h2
  exact ⟨u, by have := h3 0 u h4; simpa using this, h5⟩
end ops
section
variable {cx : Cx} {n : Nat} {fr : List (Nat × SV)} {X : List (Nat × Pred)} {L : List (Nat × Ent)} {D : List Nat} {G : List (Nat × Bool)}
/-- An own row's key bears the empty fact. -/
theorem Imp.topX (k : Nat) {T : TypeId} {s m : Nat} {R : LPred} (hk : look k L = some (.own T s m R)) : Imp cx ⟨n, fr, X, L, D, G⟩ ⟨n, fr, (k, Pred.top) :: X, L, D, G⟩ := fun ε I a w hs => by
  refine ⟨ε, I, { hs with wfX := fun j R hj => ?_, X := fun j R hj => ?_ }⟩
  · have hj : look j ((k, Pred.top) :: X) = some R := hj
    rw [look_cons] at hj
    by_cases h : k = j
    · subst h; exact (hs.wfL k _ hk).1
    · simp [h] at hj; exact hs.wfX j R hj
  · have hj : look j ((k, Pred.top) :: X) = some R := hj
    rw [look_cons] at hj
    by_cases h : k = j
    · subst h; simp at hj; subst hj; trivial
    · simp [h] at hj; exact hs.X j R hj
end
end Go.Eng
namespace Go.Eng
open Go
section
variable {cx : Cx} {Q : Exit → Act → World → Prop} {ops : Array Oper} {nf : Nat} {r : Rec} {t : List (Oper × Rec)}
variable {n : Nat} {fr : List (Nat × SV)} {X : List (Nat × Pred)} {L : List (Nat × Ent)} {D : List Nat} {G : List (Nat × Bool)} {d : Tmp} {op : Op} {ty : TypeId} {pos : String} {af : Array Edge} {gd : Option (Nat × Bool)} {sv : SV}
theorem DRQ.u1 (k : Nat) {R : Pred} {L' : List (Nat × Ent)} (hd : Nat.blt d cx.N = true) (hg : GOK ops (dropL r.ds fr) gd true) (hN : r.N = [k]) (h : OpG cx (St.drop ⟨n, fr, X, L, D, G⟩ r.ds r.dk) ⟨some d, op, ty, pos, af, gd⟩ ⟨sv, [k], [(k, R)], L', []⟩) (hk : r.ks = k :: keys L')
    (K : DRQ cx ops nf t ⟨n, (d, sv) :: fr, (k, R) :: X, L' ++ L, D, G⟩ Q) : DRQ cx ops nf ((⟨some d, op, ty, pos, af, gd⟩, r) :: t) ⟨n, fr, X, L, D, G⟩ Q :=
  ⟨⟨sv, [k], [(k, R)], L', []⟩, ROp.on hg h, ⟨hN.symm, fun i _ h => by obtain ⟨rfl, _⟩ := look_one h; rw [hk]; exact List.mem_cons_self, fun i _ h => by rw [hk]; exact List.mem_cons_of_mem _ (look_keys h), rfl, fun i hi => by cases hi; rw [Nat.blt_eq] at hd; exact hd⟩, K⟩
end
end Go.Eng
namespace Go.Eng
theorem has_eq {X : List (Nat × Pred)} {j : Nat} {α : Type} {F : α → Pred} {a b : α} (h : a = b) (hx : Has X j (F a)) : Has X j (F b) := h ▸ hx
end Go.Eng
