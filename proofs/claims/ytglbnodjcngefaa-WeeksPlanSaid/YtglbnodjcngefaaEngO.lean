/- The engine, part O: the statement 'for .. := range f'. -/
import Derived.Test.YtglbnodjcngefaaEngN
set_option linter.unusedSimpArgs false
set_option linter.unusedVariables false
namespace Go.Eng
open Go

theorem SatM.agree {cx : Cx} {M : Nat → Prop} {ε ε' : Env} {I : IH} {S : St} {a : Act} {w : World} (hag : Env.agree M ε ε') (hs : SatM cx M ε I S a w) : SatM cx M ε' I S a w :=
  { hs with
    wfr := fun i x hx => SV.on_agree hag (hs.wfr i x hx)
    G := fun g b hg => by rw [(hag g (hs.wfG g b hg)).2.2]; exact hs.G g b hg
    defs := by rw [hs.defs]; exact List.map_congr_left fun k hk => by simp only [markOf]; rw [(hag k (hs.wfD k hk)).1]
    fr := fun i x hx => by rw [hs.fr i x hx, SV.den_agree hag (hs.wfr i x hx)]
    X := fun j R hj => by rw [(hag j (hs.wfX j R hj)).2.1]; exact hs.X j R hj
    L := fun k e he => Ent.ok_kept hag IH.le.rfl' (hs.wfL k e he).1 (hs.wfL k e he).2 (hs.L k e he) (fun _ _ => rfl) (fun x _ => ⟨IH.le.rfl', hs.imm, rfl, rfl, rfl, Nat.le_refl _, fun _ _ _ => rfl, fun _ _ h => .inl h⟩)
    foot := fun k e he b hb => by rw [Ent.foot_agree hag (hs.wfL k e he).1] at hb; exact hs.foot k e he b hb
    sep := fun k k' e e' b he he' hne hb => by
      rw [Ent.foot_agree hag (hs.wfL k e he).1] at hb
      rw [Ent.foot_agree hag (hs.wfL k' e' he').1]
      exact hs.sep k k' e e' b he he' hne hb
    pin := fun k hk => by
      obtain ⟨h1, h2, h3⟩ := hs.pin k hk
      obtain ⟨h4, h5, _⟩ := hag k h1
      exact ⟨h1, h4.trans h2, h5.trans h3⟩ }
theorem SatM.more {cx : Cx} {M : Nat → Prop} {ε : Env} {I : IH} {S : St} {a : Act} {w : World} (o : Obj) (hs : SatM cx M ε I S a w) : SatM cx M ε I S a (w.alloc o) :=
  SatM.move hs IH.le.rfl' (IH.on_alloc hs.imm o) rfl rfl rfl (by simp) (fun b hb _ => heap_alloc_old w o hb) (fun _ _ h => .inl h)

/-- The range's setting: what its caller says of it. -/
structure Rng (cx : Cx) (n : Nat) (fr : List (Nat × SV)) (D0 : List Nat) (ps : List Nat) (assign body : Code) (items : List Item) (m q : Nat) (Sg : Nat → St) (Kx : Code → St → Prop) : Prop where
  st : ∀ i, RSt fr D0 m (n + 1) (Sg i)
  kx : ∀ c T, Kx c T → RSt fr D0 m (n + 1) T
  fr0 : fr.all (fun p => p.2.kbp (n + 2)) = true
  D0 : D0.all (Nat.blt · (n + 2)) = true
  hm : n + 2 ≤ m
  hit : ∀ it ∈ items, ItemOK q ps it
  nd : ps.Nodup
  hps : ∀ t ∈ ps, t < cx.N
  round : ∀ i it, items[i]? = some it → ∀ (w0 : World) (E : Nat → Prop) (I0 : IH) (R0 : Loop) (pβ : Nat → Nat) (pν us : Nat → Value), R0.state = .ready → 
    WP ⟨cx.P, some (pβ (n + 1)), w0, cx.N, E, I0, n + 2, pβ, pν⟩ (roundSt m q (n + 1) ps it (Sg i) R0 us) assign
      (AsgQ ⟨cx.P, some (pβ (n + 1)), w0, cx.N, E, I0, n + 2, pβ, pν⟩ (n + 1) R0 body (RndQ ⟨cx.P, some (pβ (n + 1)), w0, cx.N, E, I0, n + 2, pβ, pν⟩ (n + 1) { R0 with state := .busy } (Sg (i + 1)) Kx))

theorem range_core {cx : Cx} {n : Nat} {fr : List (Nat × SV)} {D0 : List Nat} {ps : List Nat} {assign body : Code} {items : List Item} {m q : Nat} {Sg : Nat → St} {Kx : Code → St → Prop} {Q : Exit → Act → World → Prop} (hR : Rng cx n fr D0 ps assign body items m q Sg Kx)
    (hcx : cx.nB ≤ n) {a : Act} {l : Nat} {ε0 : Env} {R0 : Loop} {I : IH} {w1 : World} {f : FuncId} {mk : Value → Array Value} {ρ : Nat → Nat} {S1 : St}
    (hrs : R0.state = .ready) (hrp : R0.pending = none) (hrt : R0.tmps = a.tmps) (hrps : R0.params = ps.toArray) (hra : R0.assign = assign) (hrb : R0.body = body) (hl : l < w1.heap.size) (hrec : w1.heap[l]? = some (.loop R0)) (hl0 : cx.w0.heap.size ≤ l) (hlI : I l = none)
    (hkl : ε0.β (n + 1) = l) (hs1 : Sat cx ε0 I S1 a w1) (hfl : ∀ k e, look k S1.L = some e → ¬ e.foot ε0 k l) (h0 : LeR (n + 2) S1 (Sg 0) ρ) (hit : ItC cx.P f mk I w1 items)
    (hnorm : EX cx (Sg items.length) .normal Q) (hjump : ∀ c T, Kx c T → WP cx T c Q) :
    CallsIn (fen cx.r) (0 - 1) cx.P f (mk (yv l)) w1 (rangePost (fen cx.r) 0 cx.P l Q a) := by
  have hw1 : cx.w0.heap.size ≤ w1.heap.size := hs1.keep.size
  have hs0 : Sat cx (ε0.ren ρ) I (Sg 0) a w1 := Sat.leR ⟨h0.fr, h0.X, h0.L, h0.inj, h0.D, h0.G, h0.kb, fun k hk => h0.pin k (by omega)⟩ hs1
  have hfoot0 : ∀ k e b, look k (Sg 0).L = some e → e.foot (ε0.ren ρ) k b → b ≠ l := fun k e b he hb heq => by
    subst heq
    refine hfl (ρ k) (e.renk ρ) (h0.L.get k e he) ?_
    cases e <;> exact hb
  have hJ0 : OutJ cx a l (n + 2) ε0 R0 (Sg 0) (fun b => b = l ∨ ∃ k e, look k (Sg 0).L = some e ∧ e.foot (ε0.ren ρ) k b) I w1 (ε0.ren ρ) :=
    { ag := fun k hk => by
        obtain ⟨h1, _⟩ := h0.pin k hk
        simp [Env.ren, h1]
      sat := hs0
      lrec := hrec
      foot := fun k e b he hb => ⟨.inr ⟨k, e, he, hb⟩, hfoot0 k e b he hb⟩
      Fl := .inl rfl
      F := fun b hb => by
        rcases hb with rfl | ⟨k, e, he, hb⟩
        · exact ⟨hl, hlI, .inl hl0⟩
        · obtain ⟨h1, h2, h3⟩ := hs0.foot k e he b hb
          exact ⟨h2, h3, h1⟩
      l0 := hl0 }
  have hcall := hit l (fun i => OutY cx a l (n + 2) ε0 hw1 fun rec T => rec = R0 ∧ T = Sg i) (OutY cx a l (n + 2) ε0 hw1 fun rec T => ∃ c, rec = { R0 with state := .done, pending := some c } ∧ Kx c T) _ ⟨R0, Sg 0, _, ⟨rfl, rfl⟩, hJ0⟩ (by
    rintro i it hi F I' w' us vs ⟨_, _, ε, ⟨hr1, hr2⟩, hJ⟩ _ hon _ _ hok
    rw [hr1, hr2] at hJ
    have := hR.round i it hi w' F I' R0 ε0.β ε0.ν us hrs
    rw [hkl] at this
    subst hra
    subst hrb
    exact range_round hw1 hrs hrp hrt hrps hJ (hR.st i) (hR.st (i + 1)) hR.kx hR.fr0 hR.D0 hR.hm hkl (by omega) (by omega) (hR.hit it (List.mem_of_getElem? hi)) hR.nd hR.hps hok this)
  refine CallsIn.mono (callsIn_fen hcall) ?_
  rintro e w3 ⟨v, F', I3, rfl, hk, hle, hon, hfr, hJ⟩
  have hset : ∀ (T : St) (ε : Env) (rec rec' : Loop), OutJ cx a l (n + 2) ε0 rec T F' I3 w3 ε → Sat cx ε I3 T a { w3 with heap := w3.heap.setIfInBounds l (.loop rec') } := fun T ε rec rec' hJ => by
    have hb4 : ∀ b, b ≠ l → ({ w3 with heap := w3.heap.setIfInBounds l (.loop rec') } : World).heap[b]? = w3.heap[b]? := fun b hb => by
      simp [Array.getElem?_setIfInBounds_ne (Ne.symm hb)]
    refine SatM.move hJ.sat IH.le.rfl' (fun b o hb => ?_) rfl rfl rfl (by simp) (fun b _ hk => hb4 b ?_) (fun _ _ h => .inl h)
    · rw [hb4 b (fun e => by rw [e, (hJ.F l hJ.Fl).2.1] at hb; cases hb)]; exact hJ.sat.imm b o hb
    · rcases hk with hk | ⟨k, e, he, hf⟩
      · have := hJ.l0; omega
      · exact (hJ.foot k e b he hf).2
  rcases hJ with ⟨_, _, ε, ⟨hr1, hr2⟩, hJ⟩ | ⟨_, T, ε, ⟨c, rfl, hK⟩, hJ⟩
  · rw [hr1, hr2] at hJ
    refine ⟨none, _, ?_, hnorm ε I3 a _ (hset _ _ _ { R0 with state := .exhausted } hJ)⟩
    simp [Instr.endLoop, Instr.getLoop, getObj, setObj, Sem.run, hJ.lrec, hrs, hrp]
  · refine ⟨some c, _, ?_, hjump c T hK ε I3 a _ (hset _ _ _ { R0 with state := .exhausted, pending := some c } hJ)⟩
    simp [Instr.endLoop, Instr.getLoop, getObj, setObj, Sem.run, hJ.lrec]

section
variable {cx : Cx} {n : Nat} {fr : List (Nat × SV)} {X : List (Nat × Pred)} {L : List (Nat × Ent)} {D : List Nat} {G : List (Nat × Bool)} {ps : List Nat} {assign body : Code} {items : List Item} {m q : Nat} {Sg : Nat → St} {Kx : Code → St → Prop} {Q : Exit → Act → World → Prop} {g : Operand} {fv : SV}
theorem pin_le {ε : Env} {I : IH} {a : Act} {w : World} (hs : Sat cx ε I ⟨n, fr, X, L, D, G⟩ a w) : cx.nB ≤ n := by
  rcases Nat.lt_or_ge n cx.nB with h | h
  · have : n < n := (hs.pin n h).1
    omega
  · exact h
theorem leads_ok {F : Fence} (hF : ∀ f, F.fn f) {P : Program} {w : World} {t : Target} {args : Array Value} : ∀ f', Target.leads P w t args = some f' → F.fn f' := fun f' _ => hF f'
/-- **A range over a function, in a function's own body.** -/
theorem WP.range (hr : cx.r = none) (hR : Rng cx n fr (n :: D) ps assign body items m q Sg Kx) (hg : St.op ⟨n, fr, X, L, D, G⟩ g = some fv)
    (hit : ∀ M ε I a w, SatM cx M ε I ⟨n, fr, X, L, D, G⟩ a w → ∃ f fs cs, fv.den ε = .func (.func f) fs cs ∧ Enters' cx.P f ∧ ∀ w2, I.on w2 → ItC cx.P f (fun y => fs ++ #[y] ++ cs) I w2 items)
    (ρ : Nat → Nat) (h0 : LeR (n + 2) ⟨n + 2, fr, X, (n, .ob (.deferred (some []))) :: L, n :: D, []⟩ (Sg 0) ρ) (hnorm : EX cx (Sg items.length) .normal Q) (hjump : ∀ c T, Kx c T → WP cx T c Q) :
    WP cx ⟨n, fr, X, L, D, G⟩ (.rangeFunc g ps.toArray assign body) Q := by
  intro ε I a w hs
  refine wpIn_rangeFunc fun fn _ => ?_
  obtain ⟨f, fs, cs, hfv, hen, hic⟩ := hit _ ε I a w hs
  let R0 : Loop := { state := .ready, pending := none, fn := fn, tmps := a.tmps, params := ps.toArray, assign := assign, body := body, defers := w.heap.size }
  let w1 : World := (w.alloc (.deferred (some []))).alloc (.loop R0)
  let mark : List Deferred := [{ target := .collected w.heap.size, args := #[] }]
  let a' : Act := { a with defers := mark ++ a.defers }
  have hev := hs.eval hg
  rw [hfv] at hev
  refine ⟨w.heap.size + 1, mark, w1, { target := .fn (.func f) cs, args := fs ++ #[yv (w.heap.size + 1)] }, w1, f, fs ++ #[yv (w.heap.size + 1)] ++ cs, w1, ?_, ?_, leads_ok fun _ => trivial, ?_, fun h => (by cases h), ?_⟩
  · rw [show (fen cx.r).round = none by rw [hr]; rfl]
    simp [Instr.enterLoop, newObj, Sem.run, w1, mark, R0]
  · have hc : ∀ v, a.eval (.const v) = v := fun _ => rfl
    simp [resolve, rangeCall, hev, Deferred.ofValue, hc]
  · simp [invoke, hen _ _]
  · have hn0 : ∀ k ∈ [n], ¬ k < n := fun k hk => by rw [List.mem_singleton] at hk; omega
    have h1 := SatM.app (d := none) (u := ⟨.e (.a (.v undef)), [n], [], [(n, .ob (.deferred (some [])))], []⟩) (n + 1) hs (St.le.refl _) hn0 (fun i hi => by cases hi) (Tr.alloc hs.imm n (.deferred (some [])) undef)
      ⟨trivial, fun _ _ h => (by cases h), fun _ _ h => (by cases h), fun i e he => by obtain ⟨rfl, rfl⟩ := look_one he; exact ⟨.inr (by simp), trivial⟩, fun _ _ h => (by cases h),
        fun i e he => by
          obtain ⟨rfl, rfl⟩ := look_one he
          show _ = _
          simp only [upd_same]; exact heap_alloc_new w _,
        fun i e he b hb => by
          obtain ⟨rfl, rfl⟩ := look_one he
          have hb : b = upd ε.β i w.heap.size i := hb
          rw [upd_same] at hb
          subst hb
          exact ⟨.inl hs.keep.size, by simp, IH.none_ge hs.imm (Nat.le_refl _), .inl (Nat.le_refl _)⟩,
        fun i i' e e' b he he' hne => by
          obtain ⟨rfl, _⟩ := look_one he
          obtain ⟨rfl, _⟩ := look_one he'
          exact absurd rfl hne,
        fun k x h => by obtain ⟨_, h⟩ := look_one h; cases h⟩
    have h2 : SatM cx (· < n + 1) ⟨upd ε.β n w.heap.size, upd ε.ν n undef, ε.γ⟩ I ⟨n + 1, fr, X, (n, .ob (.deferred (some []))) :: L, n :: D, []⟩ a' (w.alloc (.deferred (some []))) := by
      have h1' := SatM.mono (M' := (· < n + 1)) (fun k hk => by
        rcases hk with hk | hk
        · have hk : k < n := hk
          show k < n + 1
          omega
        · have hk : k ∈ [n] := hk
          rw [List.mem_singleton] at hk
          show k < n + 1
          omega) h1
      refine { h1' with wfD := fun k hk => ?_, defs := ?_, wfG := fun _ _ h => (by cases h), G := fun _ _ h => (by cases h) }
      · rcases List.mem_cons.1 hk with rfl | hk
        · show k < k + 1
          omega
        · exact h1'.wfD k hk
      · have := h1'.defs
        have h3 : a.defers = D.map (markOf (upd ε.β n w.heap.size)) := this
        show mark ++ a.defers = _
        rw [h3]
        simp [mark, markOf, upd_same]
    have h3 := SatM.more (.loop R0) h2
    have hag4 : Env.agree (· < n + 1) ⟨upd ε.β n w.heap.size, upd ε.ν n undef, ε.γ⟩ ⟨upd (upd ε.β n w.heap.size) (n + 1) (w.heap.size + 1), upd ε.ν n undef, ε.γ⟩ := fun k hk => ⟨by
      have hk : k < n + 1 := hk
      exact upd_other _ _ (by omega), rfl, rfl⟩
    have h4 := SatM.agree hag4 h3
    have h5 : Sat cx ⟨upd (upd ε.β n w.heap.size) (n + 1) (w.heap.size + 1), upd ε.ν n undef, ε.γ⟩ I ⟨n + 2, fr, X, (n, .ob (.deferred (some []))) :: L, n :: D, []⟩ a' w1 := by
      have h6 := SatM.mono (M' := (· < n + 2)) (fun k hk => by
        have hk : k < n + 1 := hk
        show k < n + 2
        omega) h4
      exact ⟨h6.wfr, h6.wfX, h6.wfL, h6.wfD, h6.wfG, h6.G, h6.size, h6.defs, h6.fr, h6.X, h6.L, h6.foot, h6.sep, h6.imm, h6.keep, h6.le0, h6.fr0, h6.pin, h6.ext⟩
    have hsz1 : w1.heap.size = w.heap.size + 2 := by simp [w1]
    refine range_core (mk := fun y => fs ++ #[y] ++ cs) (R0 := R0) (ρ := ρ) hR (pin_le hs) rfl rfl rfl rfl rfl rfl (by omega) ?_ (by have := hs.keep.size; omega) (IH.none_ge hs.imm (by omega)) (by simp only [upd_same]) h5 ?_ h0 (hic w1 h5.imm) hnorm hjump
    · have := heap_alloc_new (w.alloc (.deferred (some []))) (.loop R0)
      rw [show (w.alloc (.deferred (some []))).heap.size = w.heap.size + 1 by simp] at this
      exact this
    · intro k e he hb
      have hb2 : e.foot ⟨upd ε.β n w.heap.size, upd ε.ν n undef, ε.γ⟩ k (w.heap.size + 1) := by
        rw [← Ent.foot_agree hag4 (h2.wfL k e he).1]
        exact hb
      have := (h2.foot k e he _ hb2).2.1
      simp at this
/-- **A range over a function, in a round of another one.** -/
theorem WP.range2 {l0 kl0 : Nat} {rec0 : Loop} (hr : cx.r = some l0) (hkl0 : kl0 < cx.nB) (hpl : cx.pβ kl0 = l0) (hlk : look kl0 L = some (.ob (.loop rec0))) (hR : Rng cx n fr D ps assign body items m q Sg Kx) (hg : St.op ⟨n, fr, X, L, D, G⟩ g = some fv)
    (hit : ∀ M ε I a w, SatM cx M ε I ⟨n, fr, X, L, D, G⟩ a w → ∃ f fs cs, fv.den ε = .func (.func f) fs cs ∧ Enters' cx.P f ∧ ∀ w2, I.on w2 → ItC cx.P f (fun y => fs ++ #[y] ++ cs) I w2 items)
    (ρ : Nat → Nat) (h0 : LeR (n + 2) ⟨n + 2, fr, X, L, D, []⟩ (Sg 0) ρ) (hnorm : EX cx (Sg items.length) .normal Q) (hjump : ∀ c T, Kx c T → WP cx T c Q) :
    WP cx ⟨n, fr, X, L, D, G⟩ (.rangeFunc g ps.toArray assign body) Q := by
  intro ε I a w hs
  refine wpIn_rangeFunc fun fn _ => ?_
  obtain ⟨f, fs, cs, hfv, hen, hic⟩ := hit _ ε I a w hs
  let R0 : Loop := { state := .ready, pending := none, fn := fn, tmps := a.tmps, params := ps.toArray, assign := assign, body := body, defers := rec0.defers }
  let w1 : World := w.alloc (.loop R0)
  have hev := hs.eval hg
  rw [hfv] at hev
  have hl := hs.L kl0 _ hlk
  simp only [Ent.ok] at hl
  rw [(hs.pin kl0 hkl0).2.1, hpl] at hl
  refine ⟨w.heap.size, [], w1, { target := .fn (.func f) cs, args := fs ++ #[yv w.heap.size] }, w1, f, fs ++ #[yv w.heap.size] ++ cs, w1, ?_, ?_, leads_ok fun _ => trivial, ?_, fun h => (by cases h), ?_⟩
  · rw [show (fen cx.r).round = some l0 by rw [hr]; rfl]
    simp [Instr.enterLoop, Instr.getLoop, getObj, newObj, Sem.run, w1, R0, hl]
  · have hc : ∀ v, a.eval (.const v) = v := fun _ => rfl
    simp [resolve, rangeCall, hev, Deferred.ofValue, hc]
  · simp [invoke, hen _ _]
  · have h3 := SatM.more (.loop R0) hs
    have hagr : Env.agree (· < n) ε ⟨upd ε.β (n + 1) w.heap.size, ε.ν, ε.γ⟩ := fun k hk => ⟨by
      have hk : k < n := hk
      exact upd_other _ _ (by omega), rfl, rfl⟩
    have h4 := SatM.agree hagr h3
    have h5 : Sat cx ⟨upd ε.β (n + 1) w.heap.size, ε.ν, ε.γ⟩ I ⟨n + 2, fr, X, L, D, []⟩ a w1 := by
      have h6 := SatM.mono (M' := (· < n + 2)) (fun k hk => by
        have hk : k < n := hk
        show k < n + 2
        omega) h4
      exact ⟨h6.wfr, h6.wfX, h6.wfL, h6.wfD, fun _ _ h => (by cases h), fun _ _ h => (by cases h), h6.size, h6.defs, h6.fr, h6.X, h6.L, h6.foot, h6.sep, h6.imm, h6.keep, h6.le0, h6.fr0, h6.pin, h6.ext⟩
    have hsz1 : w1.heap.size = w.heap.size + 1 := by simp [w1]
    have ha : ({ a with defers := [] ++ a.defers } : Act) = a := rfl
    rw [ha]
    refine range_core (mk := fun y => fs ++ #[y] ++ cs) (R0 := R0) (ρ := ρ) hR (pin_le hs) rfl rfl rfl rfl rfl rfl (by omega) (heap_alloc_new w _) hs.keep.size (IH.none_ge hs.imm (by omega)) (by simp only [upd_same]) h5 ?_ h0 (hic w1 h5.imm) hnorm hjump
    intro k e he hb
    rw [Ent.foot_agree hagr (hs.wfL k e he).1] at hb
    have := (hs.foot k e he _ hb).2.1
    omega
end
end Go.Eng
