/- Part 2 of the texts behind the claim: EngO EngP EngQ EngR EngS EngT EngU EngV EngW EngX EngY EngZ Base Base2 Base3 Base4 Base5 EngZa MB1 MB2 MB3 EngZb EngZc EngZd MB4 MB5 MB6 JM0. -/
import Derived.Test.YtgdaeapahfjobaaZD1
set_option linter.unusedSimpArgs false
set_option linter.unusedVariables false
namespace Go.Eng
open Go
theorem SatM.agree {cx : Cx} {M : Nat → Prop} {ε ε' : Env} {I : IH} {S : St} {a : Act} {w : World} (hag : Env.agree M ε ε') (hs : SatM cx M ε I S a w) : SatM cx M ε' I S a w :=
  { hs with
    wfr := fun i x hx => SV.on_agree hag (hs.wfr i x hx)
    G := fun g b hg => by rw [(hag g (hs.wfG g b hg)).2.2]; exact hs.G g b hg
    defs := by rw [hs.defs]; exact List.map_congr_left fun k hk => by simp only [markOf]; rw [(hag k (hs.wfD k hk)).1]
    fr := fun i x hx => by rw [hs.fr i x hx, SV.den_agree hag (hs.wfr i x hx)]
    X := fun j R hj => by rw [(hag j (hs.wfX j R hj)).2.1]; exact hs.X j R hj
    L := fun k e he => Ent.ok_kept hag IH.le.rfl' (hs.wfL k e he).1 (hs.wfL k e he).2 (hs.L k e he) (fun _ _ => rfl) (fun x _ => ⟨IH.le.rfl', hs.imm, rfl, rfl, rfl, Nat.le_refl _, fun _ _ _ => rfl, fun _ _ h => .inl h⟩)
    foot := fun k e he b hb => by rw [Ent.foot_agree hag (hs.wfL k e he).1] at hb; exact hs.foot k e he b hb
    sep := fun k k' e e' b he he' hne hb => by
      rw [Ent.foot_agree hag (hs.wfL k e he).1] at hb
      rw [Ent.foot_agree hag (hs.wfL k' e' he').1]
      exact hs.sep k k' e e' b he he' hne hb
    pin := fun k hk => by
      obtain ⟨h1, h2, h3⟩ := hs.pin k hk
      obtain ⟨h4, h5, _⟩ := hag k h1
      exact ⟨h1, h4.trans h2, h5.trans h3⟩ }
theorem SatM.more {cx : Cx} {M : Nat → Prop} {ε : Env} {I : IH} {S : St} {a : Act} {w : World} (o : Obj) (hs : SatM cx M ε I S a w) : SatM cx M ε I S a (w.alloc o) :=
  SatM.move hs IH.le.rfl' (IH.on_alloc hs.imm o) rfl rfl rfl (by simp) (fun b hb _ => heap_alloc_old w o hb) (fun _ _ h => .inl h)
structure Rng (cx : Cx) (n : Nat) (fr : List (Nat × SV)) (D0 : List Nat) (ps : List Nat) (assign body : Code) (items : List Item) (m q : Nat) (Sg : Nat → St) (Kx : Code → St → Prop) : Prop where
  st : ∀ i, RSt fr D0 m (n + 1) (Sg i)
  kx : ∀ c T, Kx c T → RSt fr D0 m (n + 1) T
  fr0 : fr.all (fun p => p.2.kbp (n + 2)) = true
  D0 : D0.all (Nat.blt · (n + 2)) = true
  hm : n + 2 ≤ m
  hit : ∀ it ∈ items, ItemOK q ps it
  nd : ps.Nodup
  hps : ∀ t ∈ ps, t < cx.N
  round : ∀ i it, items[i]? = some it → ∀ (w0 : World) (E : Nat → Prop) (I0 : IH) (R0 : Loop) (pβ : Nat → Nat) (pν us : Nat → Value), R0.state = .ready →
    WP ⟨cx.P, some (pβ (n + 1)), w0, cx.N, E, I0, n + 2, pβ, pν⟩ (roundSt m q (n + 1) ps it (Sg i) R0 us) assign
      (AsgQ ⟨cx.P, some (pβ (n + 1)), w0, cx.N, E, I0, n + 2, pβ, pν⟩ (n + 1) R0 body (RndQ ⟨cx.P, some (pβ (n + 1)), w0, cx.N, E, I0, n + 2, pβ, pν⟩ (n + 1) { R0 with state := .busy } (Sg (i + 1)) Kx))
theorem range_core {cx : Cx} {n : Nat} {fr : List (Nat × SV)} {D0 : List Nat} {ps : List Nat} {assign body : Code} {items : List Item} {m q : Nat} {Sg : Nat → St} {Kx : Code → St → Prop} {Q : Exit → Act → World → Prop} (hR : Rng cx n fr D0 ps assign body items m q Sg Kx)
    (hcx : cx.nB ≤ n) {a : Act} {l : Nat} {ε0 : Env} {R0 : Loop} {I : IH} {w1 : World} {f : FuncId} {mk : Value → Array Value} {ρ : Nat → Nat} {S1 : St}
    (hrs : R0.state = .ready) (hrp : R0.pending = none) (hrt : R0.tmps = a.tmps) (hrps : R0.params = ps.toArray) (hra : R0.assign = assign) (hrb : R0.body = body) (hl : l < w1.heap.size) (hrec : w1.heap[l]? = some (.loop R0)) (hl0 : cx.w0.heap.size ≤ l) (hlI : I l = none)
    (hkl : ε0.β (n + 1) = l) (hs1 : Sat cx ε0 I S1 a w1) (hfl : ∀ k e, look k S1.L = some e → ¬ e.foot ε0 k l) (h0 : LeR (n + 2) S1 (Sg 0) ρ) (hit : ItC cx.P f mk I w1 items)
    (hnorm : EX cx (Sg items.length) .normal Q) (hjump : ∀ c T, Kx c T → WP cx T c Q) :
    CallsIn (fen cx.r) (0 - 1) cx.P f (mk (yv l)) w1 (rangePost (fen cx.r) 0 cx.P l Q a) := by
  have hw1 : cx.w0.heap.size ≤ w1.heap.size := hs1.keep.size
  have hs0 : Sat cx (ε0.ren ρ) I (Sg 0) a w1 := Sat.leR ⟨h0.fr, h0.X, h0.L, h0.inj, h0.D, h0.G, h0.kb, fun k hk => h0.pin k (by omega)⟩ hs1
  have hfoot0 : ∀ k e b, look k (Sg 0).L = some e → e.foot (ε0.ren ρ) k b → b ≠ l := fun k e b he hb heq => by
    subst heq
    refine hfl (ρ k) (e.renk ρ) (h0.L.get k e he) ?_
    cases e <;> exact hb
  have hJ0 : OutJ cx a l (n + 2) ε0 R0 (Sg 0) (fun b => b = l ∨ ∃ k e, look k (Sg 0).L = some e ∧ e.foot (ε0.ren ρ) k b) I w1 (ε0.ren ρ) :=
    { ag := fun k hk => by
        obtain ⟨h1, _⟩ := h0.pin k hk
        simp [Env.ren, h1]
      sat := hs0
      lrec := hrec
      foot := fun k e b he hb => ⟨.inr ⟨k, e, he, hb⟩, hfoot0 k e b he hb⟩
      Fl := .inl rfl
      F := fun b hb => by
        rcases hb with rfl | ⟨k, e, he, hb⟩
        · exact ⟨hl, hlI, .inl hl0⟩
        · obtain ⟨h1, h2, h3⟩ := hs0.foot k e he b hb
          exact ⟨h2, h3, h1⟩
      l0 := hl0 }
  have hcall := hit l (fun i => OutY cx a l (n + 2) ε0 hw1 fun rec T => rec = R0 ∧ T = Sg i) (OutY cx a l (n + 2) ε0 hw1 fun rec T => ∃ c, rec = { R0 with state := .done, pending := some c } ∧ Kx c T) _ ⟨R0, Sg 0, _, ⟨rfl, rfl⟩, hJ0⟩ (by
    rintro i it hi F I' w' us vs ⟨_, _, ε, ⟨hr1, hr2⟩, hJ⟩ _ hon _ _ hok
    rw [hr1, hr2] at hJ
    have := hR.round i it hi w' F I' R0 ε0.β ε0.ν us hrs
    rw [hkl] at this
    subst hra
    subst hrb
    exact range_round hw1 hrs hrp hrt hrps hJ (hR.st i) (hR.st (i + 1)) hR.kx hR.fr0 hR.D0 hR.hm hkl (by omega) (by omega) (hR.hit it (List.mem_of_getElem? hi)) hR.nd hR.hps hok this)
  refine CallsIn.mono (callsIn_fen hcall) ?_
  rintro e w3 ⟨v, F', I3, rfl, hk, hle, hon, hfr, hJ⟩
  have hset : ∀ (T : St) (ε : Env) (rec rec' : Loop), OutJ cx a l (n + 2) ε0 rec T F' I3 w3 ε → Sat cx ε I3 T a { w3 with heap := w3.heap.setIfInBounds l (.loop rec') } := fun T ε rec rec' hJ => by
    have hb4 : ∀ b, b ≠ l → ({ w3 with heap := w3.heap.setIfInBounds l (.loop rec') } : World).heap[b]? = w3.heap[b]? := fun b hb => by
      simp [Array.getElem?_setIfInBounds_ne (Ne.symm hb)]
    refine SatM.move hJ.sat IH.le.rfl' (fun b o hb => ?_) rfl rfl rfl (by simp) (fun b _ hk => hb4 b ?_) (fun _ _ h => .inl h)
    · rw [hb4 b (fun e => by rw [e, (hJ.F l hJ.Fl).2.1] at hb; cases hb)]; exact hJ.sat.imm b o hb
    · rcases hk with hk | ⟨k, e, he, hf⟩
      · have := hJ.l0; omega
      · exact (hJ.foot k e b he hf).2
  rcases hJ with ⟨_, _, ε, ⟨hr1, hr2⟩, hJ⟩ | ⟨_, T, ε, ⟨c, rfl, hK⟩, hJ⟩
  · rw [hr1, hr2] at hJ
    refine ⟨none, _, ?_, hnorm ε I3 a _ (hset _ _ _ { R0 with state := .exhausted } hJ)⟩
    simp [Instr.endLoop, Instr.getLoop, getObj, setObj, Sem.run, hJ.lrec, hrs, hrp]
  · refine ⟨some c, _, ?_, hjump c T hK ε I3 a _ (hset _ _ _ { R0 with state := .exhausted, pending := some c } hJ)⟩
    simp [Instr.endLoop, Instr.getLoop, getObj, setObj, Sem.run, hJ.lrec]
section
variable {cx : Cx} {n : Nat} {fr : List (Nat × SV)} {X : List (Nat × Pred)} {L : List (Nat × Ent)} {D : List Nat} {G : List (Nat × Bool)} {ps : List Nat} {assign body : Code} {items : List Item} {m q : Nat} {Sg : Nat → St} {Kx : Code → St → Prop} {Q : Exit → Act → World → Prop} {g : Operand} {fv : SV}
theorem pin_le {ε : Env} {I : IH} {a : Act} {w : World} (hs : Sat cx ε I ⟨n, fr, X, L, D, G⟩ a w) : cx.nB ≤ n := by
  rcases Nat.lt_or_ge n cx.nB with h | h
  · have : n < n := (hs.pin n h).1
    omega
  · exact h
theorem leads_ok {F : Fence} (hF : ∀ f, F.fn f) {P : Program} {w : World} {t : Target} {args : Array Value} : ∀ f', Target.leads P w t args = some f' → F.fn f' := fun f' _ => hF f'
theorem WP.range (hr : cx.r = none) (hR : Rng cx n fr (n :: D) ps assign body items m q Sg Kx) (hg : St.op ⟨n, fr, X, L, D, G⟩ g = some fv)
    (hit : ∀ M ε I a w, SatM cx M ε I ⟨n, fr, X, L, D, G⟩ a w → ∃ f fs cs, fv.den ε = .func (.func f) fs cs ∧ Enters' cx.P f ∧ ∀ w2, I.on w2 → ItC cx.P f (fun y => fs ++ #[y] ++ cs) I w2 items)
    (ρ : Nat → Nat) (h0 : LeR (n + 2) ⟨n + 2, fr, X, (n, .ob (.deferred (some []))) :: L, n :: D, []⟩ (Sg 0) ρ) (hnorm : EX cx (Sg items.length) .normal Q) (hjump : ∀ c T, Kx c T → WP cx T c Q) :
    WP cx ⟨n, fr, X, L, D, G⟩ (.rangeFunc g ps.toArray assign body) Q := by
  intro ε I a w hs
  refine wpIn_rangeFunc fun fn _ => ?_
  obtain ⟨f, fs, cs, hfv, hen, hic⟩ := hit _ ε I a w hs
  let R0 : Loop := { state := .ready, pending := none, fn := fn, tmps := a.tmps, params := ps.toArray, assign := assign, body := body, defers := w.heap.size }
  let w1 : World := (w.alloc (.deferred (some []))).alloc (.loop R0)
  let mark : List Deferred := [{ target := .collected w.heap.size, args := #[] }]
  let a' : Act := { a with defers := mark ++ a.defers }
  have hev := hs.eval hg
  rw [hfv] at hev
  refine ⟨w.heap.size + 1, mark, w1, { target := .fn (.func f) cs, args := fs ++ #[yv (w.heap.size + 1)] }, w1, f, fs ++ #[yv (w.heap.size + 1)] ++ cs, w1, ?_, ?_, leads_ok fun _ => trivial, ?_, fun h => (by cases h), ?_⟩
  · rw [show (fen cx.r).round = none by rw [hr]; rfl]
    simp [Instr.enterLoop, newObj, Sem.run, w1, mark, R0]
  · have hc : ∀ v, a.eval (.const v) = v := fun _ => rfl
    simp [resolve, rangeCall, hev, Deferred.ofValue, hc]
  · simp [invoke, hen _ _]
  · have hn0 : ∀ k ∈ [n], ¬ k < n := fun k hk => by rw [List.mem_singleton] at hk; omega
    have h1 := SatM.app (d := none) (u := ⟨.e (.a (.v undef)), [n], [], [(n, .ob (.deferred (some [])))], []⟩) (n + 1) hs (St.le.refl _) hn0 (fun i hi => by cases hi) (Tr.alloc hs.imm n (.deferred (some [])) undef)
      ⟨trivial, fun _ _ h => (by cases h), fun _ _ h => (by cases h), fun i e he => by obtain ⟨rfl, rfl⟩ := look_one he; exact ⟨.inr (by simp), trivial⟩, fun _ _ h => (by cases h),
        fun i e he => by
          obtain ⟨rfl, rfl⟩ := look_one he
          show _ = _
          simp only [upd_same]; exact heap_alloc_new w _,
        fun i e he b hb => by
          obtain ⟨rfl, rfl⟩ := look_one he
          have hb : b = upd ε.β i w.heap.size i := hb
          rw [upd_same] at hb
          subst hb
          exact ⟨.inl hs.keep.size, by simp, IH.none_ge hs.imm (Nat.le_refl _), .inl (Nat.le_refl _)⟩,
        fun i i' e e' b he he' hne => by
          obtain ⟨rfl, _⟩ := look_one he
          obtain ⟨rfl, _⟩ := look_one he'
          exact absurd rfl hne,
        fun k x h => by obtain ⟨_, h⟩ := look_one h; cases h⟩
    have h2 : SatM cx (· < n + 1) ⟨upd ε.β n w.heap.size, upd ε.ν n undef, ε.γ⟩ I ⟨n + 1, fr, X, (n, .ob (.deferred (some []))) :: L, n :: D, []⟩ a' (w.alloc (.deferred (some []))) := by
      have h1' := SatM.mono (M' := (· < n + 1)) (fun k hk => by
        rcases hk with hk | hk
        · have hk : k < n := hk
          show k < n + 1
          omega
        · have hk : k ∈ [n] := hk
          rw [List.mem_singleton] at hk
          show k < n + 1
          omega) h1
      refine { h1' with wfD := fun k hk => ?_, defs := ?_, wfG := fun _ _ h => (by cases h), G := fun _ _ h => (by cases h) }
      · rcases List.mem_cons.1 hk with rfl | hk
        · show k < k + 1
          omega
        · exact h1'.wfD k hk
      · have := h1'.defs
        have h3 : a.defers = D.map (markOf (upd ε.β n w.heap.size)) := this
        show mark ++ a.defers = _
        rw [h3]
        simp [mark, markOf, upd_same]
    have h3 := SatM.more (.loop R0) h2
    have hag4 : Env.agree (· < n + 1) ⟨upd ε.β n w.heap.size, upd ε.ν n undef, ε.γ⟩ ⟨upd (upd ε.β n w.heap.size) (n + 1) (w.heap.size + 1), upd ε.ν n undef, ε.γ⟩ := fun k hk => ⟨by
      have hk : k < n + 1 := hk
      exact upd_other _ _ (by omega), rfl, rfl⟩
    have h4 := SatM.agree hag4 h3
    have h5 : Sat cx ⟨upd (upd ε.β n w.heap.size) (n + 1) (w.heap.size + 1), upd ε.ν n undef, ε.γ⟩ I ⟨n + 2, fr, X, (n, .ob (.deferred (some []))) :: L, n :: D, []⟩ a' w1 := by
      have h6 := SatM.mono (M' := (· < n + 2)) (fun k hk => by
        have hk : k < n + 1 := hk
        show k < n + 2
        omega) h4
      exact ⟨h6.wfr, h6.wfX, h6.wfL, h6.wfD, h6.wfG, h6.G, h6.size, h6.defs, h6.fr, h6.X, h6.L, h6.foot, h6.sep, h6.imm, h6.keep, h6.le0, h6.fr0, h6.pin, h6.ext⟩
    have hsz1 : w1.heap.size = w.heap.size + 2 := by simp [w1]
    refine range_core (mk := fun y => fs ++ #[y] ++ cs) (R0 := R0) (ρ := ρ) hR (pin_le hs) rfl rfl rfl rfl rfl rfl (by omega) ?_ (by have := hs.keep.size; omega) (IH.none_ge hs.imm (by omega)) (by simp only [upd_same]) h5 ?_ h0 (hic w1 h5.imm) hnorm hjump
    · have := heap_alloc_new (w.alloc (.deferred (some []))) (.loop R0)
      rw [show (w.alloc (.deferred (some []))).heap.size = w.heap.size + 1 by simp] at this
      exact this
    · intro k e he hb
      have hb2 : e.foot ⟨upd ε.β n w.heap.size, upd ε.ν n undef, ε.γ⟩ k (w.heap.size + 1) := by
        rw [← Ent.foot_agree hag4 (h2.wfL k e he).1]
        exact hb
      have := (h2.foot k e he _ hb2).2.1
      simp at this
theorem WP.range2 {l0 kl0 : Nat} {rec0 : Loop} (hr : cx.r = some l0) (hkl0 : kl0 < cx.nB) (hpl : cx.pβ kl0 = l0) (hlk : look kl0 L = some (.ob (.loop rec0))) (hR : Rng cx n fr D ps assign body items m q Sg Kx) (hg : St.op ⟨n, fr, X, L, D, G⟩ g = some fv)
    (hit : ∀ M ε I a w, SatM cx M ε I ⟨n, fr, X, L, D, G⟩ a w → ∃ f fs cs, fv.den ε = .func (.func f) fs cs ∧ Enters' cx.P f ∧ ∀ w2, I.on w2 → ItC cx.P f (fun y => fs ++ #[y] ++ cs) I w2 items)
    (ρ : Nat → Nat) (h0 : LeR (n + 2) ⟨n + 2, fr, X, L, D, []⟩ (Sg 0) ρ) (hnorm : EX cx (Sg items.length) .normal Q) (hjump : ∀ c T, Kx c T → WP cx T c Q) :
    WP cx ⟨n, fr, X, L, D, G⟩ (.rangeFunc g ps.toArray assign body) Q := by
  intro ε I a w hs
  refine wpIn_rangeFunc fun fn _ => ?_
  obtain ⟨f, fs, cs, hfv, hen, hic⟩ := hit _ ε I a w hs
  let R0 : Loop := { state := .ready, pending := none, fn := fn, tmps := a.tmps, params := ps.toArray, assign := assign, body := body, defers := rec0.defers }
  let w1 : World := w.alloc (.loop R0)
  have hev := hs.eval hg
  rw [hfv] at hev
  have hl := hs.L kl0 _ hlk
  simp only [Ent.ok] at hl
  rw [(hs.pin kl0 hkl0).2.1, hpl] at hl
  refine ⟨w.heap.size, [], w1, { target := .fn (.func f) cs, args := fs ++ #[yv w.heap.size] }, w1, f, fs ++ #[yv w.heap.size] ++ cs, w1, ?_, ?_, leads_ok fun _ => trivial, ?_, fun h => (by cases h), ?_⟩
  · rw [show (fen cx.r).round = some l0 by rw [hr]; rfl]
    simp [Instr.enterLoop, Instr.getLoop, getObj, newObj, Sem.run, w1, R0, hl]
  · have hc : ∀ v, a.eval (.const v) = v := fun _ => rfl
    simp [resolve, rangeCall, hev, Deferred.ofValue, hc]
  · simp [invoke, hen _ _]
  · have h3 := SatM.more (.loop R0) hs
    have hagr : Env.agree (· < n) ε ⟨upd ε.β (n + 1) w.heap.size, ε.ν, ε.γ⟩ := fun k hk => ⟨by
      have hk : k < n := hk
      exact upd_other _ _ (by omega), rfl, rfl⟩
    have h4 := SatM.agree hagr h3
    have h5 : Sat cx ⟨upd ε.β (n + 1) w.heap.size, ε.ν, ε.γ⟩ I ⟨n + 2, fr, X, L, D, []⟩ a w1 := by
      have h6 := SatM.mono (M' := (· < n + 2)) (fun k hk => by
        have hk : k < n := hk
        show k < n + 2
        omega) h4
      exact ⟨h6.wfr, h6.wfX, h6.wfL, h6.wfD, fun _ _ h => (by cases h), fun _ _ h => (by cases h), h6.size, h6.defs, h6.fr, h6.X, h6.L, h6.foot, h6.sep, h6.imm, h6.keep, h6.le0, h6.fr0, h6.pin, h6.ext⟩
    have hsz1 : w1.heap.size = w.heap.size + 1 := by simp [w1]
    have ha : ({ a with defers := [] ++ a.defers } : Act) = a := rfl
    rw [ha]
    refine range_core (mk := fun y => fs ++ #[y] ++ cs) (R0 := R0) (ρ := ρ) hR (pin_le hs) rfl rfl rfl rfl rfl rfl (by omega) (heap_alloc_new w _) hs.keep.size (IH.none_ge hs.imm (by omega)) (by simp only [upd_same]) h5 ?_ h0 (hic w1 h5.imm) hnorm hjump
    intro k e he hb
    rw [Ent.foot_agree hagr (hs.wfL k e he).1] at hb
    have := (hs.foot k e he _ hb).2.1
    omega
end
end Go.Eng
namespace Go.Eng
open Go
section
variable {cx : Cx} {Q : Exit → Act → World → Prop} {ops : Array Oper} {nf : Nat} {r : Rec} {t : List (Oper × Rec)}
variable {n : Nat} {fr : List (Nat × SV)} {X : List (Nat × Pred)} {L : List (Nat × Ent)} {D : List Nat} {G : List (Nat × Bool)} {d : Tmp} {op : Op} {ty : TypeId} {pos : String} {af : Array Edge} {gd : Option (Nat × Bool)} {sv : SV}
theorem DRQ.nil' (h : EX cx ⟨nf, fr, X, L, D, G⟩ .normal Q) : DRQ cx ops nf [] ⟨n, fr, X, L, D, G⟩ Q := h
theorem DRQ.v (hd : Nat.blt d cx.N = true) (hg : GOK ops (dropL r.ds fr) gd true) (hN : r.N = []) (h : OpG cx (St.drop ⟨n, fr, X, L, D, G⟩ r.ds r.dk) ⟨some d, op, ty, pos, af, gd⟩ (.val sv)) (K : DRQ cx ops nf t ⟨n, (d, sv) :: fr, X, L, D, G⟩ Q) :
    DRQ cx ops nf ((⟨some d, op, ty, pos, af, gd⟩, r) :: t) ⟨n, fr, X, L, D, G⟩ Q :=
  ⟨.val sv, ROp.on hg h, ⟨hN.symm, fun _ _ h => (by cases h), fun _ _ h => (by cases h), rfl, fun i hi => by cases hi; rw [Nat.blt_eq] at hd; exact hd⟩, K⟩
theorem DRQ.off (hd : Nat.blt d cx.N = true) (hg : GOK ops (dropL r.ds fr) gd false) (hN : r.N = []) (K : DRQ cx ops nf t ⟨n, (d, .e (.a (.v undef))) :: fr, X, L, D, G⟩ Q) :
    DRQ cx ops nf ((⟨some d, op, ty, pos, af, gd⟩, r) :: t) ⟨n, fr, X, L, D, G⟩ Q :=
  ⟨.val (.e (.a (.v undef))), ROp.off hg, ⟨hN.symm, fun _ _ h => (by cases h), fun _ _ h => (by cases h), rfl, fun i hi => by cases hi; rw [Nat.blt_eq] at hd; exact hd⟩, K⟩
theorem DRQ.x (k : Nat) {R : Pred} (hd : Nat.blt d cx.N = true) (hg : GOK ops (dropL r.ds fr) gd true) (hN : r.N = [k]) (hk : r.ks = [k]) (h : OpG cx (St.drop ⟨n, fr, X, L, D, G⟩ r.ds r.dk) ⟨some d, op, ty, pos, af, gd⟩ ⟨sv, [k], [(k, R)], [], []⟩)
    (K : DRQ cx ops nf t ⟨n, (d, sv) :: fr, (k, R) :: X, L, D, G⟩ Q) : DRQ cx ops nf ((⟨some d, op, ty, pos, af, gd⟩, r) :: t) ⟨n, fr, X, L, D, G⟩ Q :=
  ⟨⟨sv, [k], [(k, R)], [], []⟩, ROp.on hg h, ⟨hN.symm, fun i _ h => (by obtain ⟨rfl, _⟩ := look_one h; rw [hk]; simp), fun _ _ h => (by cases h), rfl, fun i hi => by cases hi; rw [Nat.blt_eq] at hd; exact hd⟩, K⟩
theorem DRQ.l (k : Nat) {e : Ent} (hd : Nat.blt d cx.N = true) (hg : GOK ops (dropL r.ds fr) gd true) (hN : r.N = [k]) (hk : r.ks = [k]) (h : OpG cx (St.drop ⟨n, fr, X, L, D, G⟩ r.ds r.dk) ⟨some d, op, ty, pos, af, gd⟩ ⟨sv, [k], [], [(k, e)], []⟩)
    (K : DRQ cx ops nf t ⟨n, (d, sv) :: fr, X, (k, e) :: L, D, G⟩ Q) : DRQ cx ops nf ((⟨some d, op, ty, pos, af, gd⟩, r) :: t) ⟨n, fr, X, L, D, G⟩ Q :=
  ⟨⟨sv, [k], [], [(k, e)], []⟩, ROp.on hg h, ⟨hN.symm, fun _ _ h => (by cases h), fun i _ h => (by obtain ⟨rfl, _⟩ := look_one h; rw [hk]; simp), rfl, fun i hi => by cases hi; rw [Nat.blt_eq] at hd; exact hd⟩, K⟩
theorem DRQ.l2 (k k0 : Nat) {e e0 : Ent} (hd : Nat.blt d cx.N = true) (hg : GOK ops (dropL r.ds fr) gd true) (hN : r.N = [k]) (hk : r.ks = [k, k0]) (h : OpG cx (St.drop ⟨n, fr, X, L, D, G⟩ r.ds r.dk) ⟨some d, op, ty, pos, af, gd⟩ ⟨sv, [k], [], [(k, e), (k0, e0)], []⟩)
    (K : DRQ cx ops nf t ⟨n, (d, sv) :: fr, X, (k, e) :: (k0, e0) :: L, D, G⟩ Q) : DRQ cx ops nf ((⟨some d, op, ty, pos, af, gd⟩, r) :: t) ⟨n, fr, X, L, D, G⟩ Q :=
  ⟨⟨sv, [k], [], [(k, e), (k0, e0)], []⟩, ROp.on hg h, ⟨hN.symm, fun _ _ h => (by cases h), fun i _ h => (by rcases look_two h with ⟨rfl, _⟩ | ⟨_, rfl, _⟩ <;> (rw [hk]; simp)), rfl, fun i hi => by cases hi; rw [Nat.blt_eq] at hd; exact hd⟩, K⟩
theorem DRQ.s (k : Nat) {e : Ent} (hg : GOK ops (dropL r.ds fr) gd true) (hN : r.N = []) (hk : r.ks = [k]) (h : OpG cx (St.drop ⟨n, fr, X, L, D, G⟩ r.ds r.dk) ⟨none, op, ty, pos, af, gd⟩ ⟨sv, [], [], [(k, e)], []⟩)
    (K : DRQ cx ops nf t ⟨n, fr, X, (k, e) :: L, D, G⟩ Q) : DRQ cx ops nf ((⟨none, op, ty, pos, af, gd⟩, r) :: t) ⟨n, fr, X, L, D, G⟩ Q :=
  ⟨⟨sv, [], [], [(k, e)], []⟩, ROp.on hg h, ⟨hN.symm, fun _ _ h => (by cases h), fun i _ h => (by obtain ⟨rfl, _⟩ := look_one h; rw [hk]; simp), rfl, fun i hi => by cases hi⟩, K⟩
theorem DRQ.cs {X' : List (Nat × Pred)} (hd : Nat.blt d cx.N = true) (hg : GOK ops (dropL r.ds fr) gd true) (hN : r.N = keys X') (hk : r.ks = keys X') (h : OpG cx (St.drop ⟨n, fr, X, L, D, G⟩ r.ds r.dk) ⟨some d, op, ty, pos, af, gd⟩ ⟨sv, keys X', X', [], []⟩)
    (K : DRQ cx ops nf t ⟨n, (d, sv) :: fr, X' ++ X, L, D, G⟩ Q) : DRQ cx ops nf ((⟨some d, op, ty, pos, af, gd⟩, r) :: t) ⟨n, fr, X, L, D, G⟩ Q :=
  ⟨⟨sv, keys X', X', [], []⟩, ROp.on hg h, ⟨hN.symm, fun i _ h => by rw [hk]; exact look_keys h, fun _ _ h => (by cases h), rfl, fun i hi => by cases hi; rw [Nat.blt_eq] at hd; exact hd⟩, K⟩
end
inductive Fd (α : Type) : Type 1 where
  | i (f : α → Int)
  | s {β : Type} (E : EP β) (f : α → List β)
  | v (f : α → Value) (h : ∀ x, (f x).oneCell' = true)
def Fd.ok {α : Type} (I : IH) (v : Value) (x : α) : Fd α → Prop
  | .i f => v = .int .i64 (f x)
  | .s E f => (PL E (f x)).h I v
  | .v f _ => v = f x
def FdAll {α : Type} (I : IH) (x : α) : List Value → List (Fd α) → Prop
  | [], [] => True
  | v :: vs, f :: fs => f.ok I v x ∧ FdAll I x vs fs
  | _, _ => False
theorem FdAll.len {α : Type} {I : IH} {x : α} : ∀ {vs : List Value} {fs : List (Fd α)}, FdAll I x vs fs → vs.length = fs.length
  | [], [], _ => rfl
  | _ :: _, _ :: _, h => by simp [FdAll.len h.2]
theorem FdAll.mono {α : Type} {I I' : IH} {x : α} (hI : I.le I') : ∀ {vs : List Value} {fs : List (Fd α)}, FdAll I x vs fs → FdAll I' x vs fs
  | [], [], _ => trivial
  | v :: vs, f :: fs, h => ⟨by
      cases f with
      | i f => exact h.1
      | s E f => exact (PL E _).mono hI h.1
      | v f _ => exact h.1, FdAll.mono hI h.2⟩
theorem FdAll.get {α : Type} {I : IH} {x : α} : ∀ {vs : List Value} {fs : List (Fd α)} {o : Nat} {f : Fd α}, FdAll I x vs fs → fs[o]? = some f → ∃ v, vs[o]? = some v ∧ f.ok I v x
  | [], _ :: _, _, _, h, _ => h.elim
  | v :: vs, f :: fs, 0, g, h, ho => by simp at ho; subst ho; exact ⟨v, rfl, h.1⟩
  | v :: vs, f :: fs, o + 1, g, h, ho => by
    obtain ⟨u, h1, h2⟩ := FdAll.get h.2 (o := o) (by simpa using ho)
    exact ⟨u, by simpa using h1, h2⟩
def EP.str {α : Type} (fs : List (Fd α)) : EP α := ⟨fs.length, fun I cs x => FdAll I x cs fs, FdAll.len, fun hI h => FdAll.mono hI h⟩
theorem EP.str_one {α : Type} {fs : List (Fd α)} : (EP.str fs).one := by
  intro I cs x h y hy
  have : ∀ {vs : List Value} {gs : List (Fd α)}, FdAll I x vs gs → ∀ y ∈ vs, y.oneCell' = true := by
    intro vs
    induction vs with
    | nil => intro gs _ y hy; cases hy
    | cons v vs ih =>
      intro gs h y hy
      cases gs with
      | nil => exact h.elim
      | cons g gs =>
        rcases List.mem_cons.1 hy with rfl | hy
        · cases g with
          | i f => rw [show y = _ from h.1]; rfl
          | s E f => exact PL.one _ _ h.1
          | v f hf => rw [show y = _ from h.1]; exact hf x
        · exact ih h.2 y hy
  exact this h y hy
section
variable {α : Type} {fs : List (Fd α)} {x : α} {o : Nat}
theorem strI {f : α → Int} (ho : fs[o]? = some (.i f)) : ∀ I cs, (EP.str fs).h I cs x → cs[o]? = some (.int .i64 (f x)) := fun I cs h => by
  obtain ⟨v, h1, h2⟩ := FdAll.get h ho
  rw [h1, show v = _ from h2]
def allI : List (Fd α) → Option (List (α → Int))
  | [] => some []
  | .i f :: t => match allI t with
    | some l => some (f :: l)
    | none => none
  | _ => none
theorem allI_vals {I : IH} : ∀ {cs : List Value} {gs : List (Fd α)} {l : List (α → Int)}, FdAll I x cs gs → allI gs = some l → cs = l.map fun g => .int .i64 (g x)
  | [], [], l, _, h => by cases h; rfl
  | c :: cs, .i f :: gs, l, h, hl => by
    simp only [allI] at hl
    cases hg : allI gs with
    | none => rw [hg] at hl; cases hl
    | some l' =>
      rw [hg] at hl; cases hl
      rw [List.map_cons, ← allI_vals h.2 hg, show c = _ from h.1]
theorem FdAll.sub {I : IH} : ∀ {o m : Nat} {cs : List Value} {gs : List (Fd α)}, FdAll I x cs gs → FdAll I x ((cs.drop o).take m) ((gs.drop o).take m)
  | 0, 0, cs, gs, _ => by simp [FdAll]
  | 0, m + 1, [], [], _ => trivial
  | 0, m + 1, c :: cs, g :: gs, h => ⟨h.1, by simpa using FdAll.sub (o := 0) (m := m) h.2⟩
  | o + 1, m, [], [], _ => by simp [FdAll]
  | o + 1, m, c :: cs, g :: gs, h => by simpa using FdAll.sub (o := o) (m := m) h.2
theorem strG {m : Nat} {l : List (α → Int)} (ho : allI ((fs.drop o).take m) = some l) : ∀ I cs, (EP.str fs).h I cs x → (cs.drop o).take m = l.map fun g => .int .i64 (g x) := fun _ _ h => allI_vals (FdAll.sub h) ho
end
def FAs (S : St) {α : Type} (x : α) : List At → List (Fd α) → Prop
  | [], [] => True
  | c :: cs, .i f :: fs => c = ai (f x) ∧ FAs S x cs fs
  | c :: cs, .s E f :: fs => (∃ j, c = .q j ∧ Has S.X j (PL E (f x))) ∧ FAs S x cs fs
  | c :: cs, .v f _ :: fs => (c = .v (f x) ∨ ∃ j, c = .q j ∧ Has S.X j (Pred.is (f x))) ∧ FAs S x cs fs
  | _, _ => False
theorem FAs.ok {cx : Cx} {S : St} {α : Type} {x : α} {M : Nat → Prop} {ε : Env} {I : IH} {a : Act} {w : World} (hs : SatM cx M ε I S a w) : ∀ {cs : List At} {fs : List (Fd α)}, FAs S x cs fs → FdAll I x (cs.map (At.den ε)) fs
  | [], [], _ => trivial
  | c :: cs, .i f :: fs, h => ⟨by rw [h.1]; rfl, FAs.ok hs h.2⟩
  | c :: cs, .s E f :: fs, h => ⟨by obtain ⟨j, rfl, hj⟩ := h.1; exact hs.has hj, FAs.ok hs h.2⟩
  | c :: cs, .v f _ :: fs, h => ⟨by
      rcases h.1 with rfl | ⟨j, rfl, hj⟩
      · rfl
      · exact hs.has hj, FAs.ok hs h.2⟩
theorem eok_str {cx : Cx} {S : St} {α : Type} {fs : List (Fd α)} {x : α} {e : El} (h : FAs S x e.cells fs) : EOK cx S (EP.str fs) e x := fun _ _ _ _ _ hs => h.ok hs
theorem bok_str {cx : Cx} {S : St} {α : Type} {fs : List (Fd α)} {x : α} {cs : List At} (h : FAs S x cs fs) : ∀ M ε I a w, SatM cx M ε I S a w → (EP.str fs).h I (cs.map (At.den ε)) x := fun _ _ _ _ _ hs => h.ok hs
def Sig (P : Program) (f : FuncId) (svs : List SV) (X0 : List (Nat × Pred)) (sv : SV) (X : List (Nat × Pred)) : Prop :=
  ∀ (I : IH) (w : World) (ν : Nat → Value), I.on w → FactsOK ν I X0 → Ct P f (svs.map (den0 ν)).toArray I w Emp sv X
theorem Sig.intro {P : Program} {f : FuncId} {fn : Func} {c : Code} {svs : List SV} {X0 : List (Nat × Pred)} {sv : SV} {X : List (Nat × Pred)} (hf : P.funcs[f]? = some fn) (hb : fn.body = some c) (n : Nat) (fr : List (Nat × SV)) (hfr : fr = frOf 0 svs)
    (hwf : ∀ x ∈ svs, x.res (keys X0)) (hn : (keys X0).all (Nat.blt · n) = true) (hN : Nat.ble svs.length fn.ntmps = true)
    (h : ∀ I w, WP ⟨P, none, w, fn.ntmps, Emp, I, 0, fun _ => 0, fun _ => undef⟩ ⟨n, fr, X0, [], [], []⟩ c (Post P fn (CtR I w Emp sv X))) : Sig P f svs X0 sv X := fun I w ν hI hX =>
  Ct.intro hf hb hI ν svs X0 n fr hfr rfl hX hwf (fun k hk => by simpa [Nat.blt_eq] using List.all_eq_true.1 hn k hk) hN (h I w)
theorem At.ren_den {J : List Nat} {ρ : Nat → Nat} {ε : Env} : ∀ {x : At}, x.res J → (x.ren ρ).den ε = x.den ⟨fun _ => 0, fun j => ε.ν (ρ j), fun _ => true⟩
  | .v _, _ => rfl
  | .q _, _ => rfl
theorem SV.ren_den {J : List Nat} {ρ : Nat → Nat} {ε : Env} {x : SV} (h : x.res J) : (x.ren ρ).den ε = den0 (fun j => ε.ν (ρ j)) x := SV.den_ren h
theorem FactsOK.of {ν : Nat → Value} {I : IH} {ρ : Nat → Nat} {X : List (Nat × Pred)} (h : ∀ j R, Has X (ρ j) R → R.h I (ν (ρ j))) : ∀ {X0 : List (Nat × Pred)}, RenOK X ρ X0 → FactsOK (fun j => ν (ρ j)) I X0
  | [], _ => trivial
  | (j, R) :: t, hX => ⟨h j R hX.1, FactsOK.of h hX.2⟩
section ops
variable {cx : Cx} {S : St} {dst : Option Tmp} {ty : TypeId} {pos : String} {af : Array Edge} {gd : Option (Nat × Bool)}
theorem CtR.shift {I : IH} {w : World} {E : Nat → Prop} {sv : SV} {X : List (Nat × Pred)} {m : Nat} (hres : sv.res (keys X)) {e : Ending} {w' : World} (h : CtR I w E sv X e w') : CtR I w E (sv.ren (m + ·)) (sh m X) e w' := by
  obtain ⟨I', us, rfl, h1, h2, h3, h4, h5⟩ := h
  refine ⟨I', fun j => us (j - m), ?_, h1, h2, h3, h4, fun j R hj => ?_⟩
  · rw [SV.ren_den hres]
    have : (fun j => us (m + j - m)) = us := by funext j; congr 1; omega
    simp only [den0, this]
  · obtain ⟨i, rfl, hi⟩ := look_sh hj
    have : us (m + i - m) = us i := by congr 1; omega
    show R.h I' (us (m + i - m))
    rw [this]; exact h5 i R hi
theorem At.ren_res {J : List Nat} {m : Nat} : ∀ {x : At}, x.res J → (x.ren (m + ·)).res (J.map (m + ·))
  | .v _, _ => trivial
  | .q j, h => List.mem_map.2 ⟨j, h, rfl⟩
theorem El.ren_res {J : List Nat} {m : Nat} : ∀ {x : El}, x.res J → (x.ren (m + ·)).res (J.map (m + ·))
  | .a _, h => At.ren_res h
  | .g l, h => fun c hc => by obtain ⟨y, hy, rfl⟩ := List.mem_map.1 hc; exact At.ren_res (h y hy)
theorem SV.ren_res {J : List Nat} {m : Nat} : ∀ {x : SV}, x.res J → (x.ren (m + ·)).res (J.map (m + ·))
  | .e _, h => El.ren_res h
  | .t l, h => fun c hc => by obtain ⟨y, hy, rfl⟩ := List.mem_map.1 hc; exact El.ren_res (h y hy)
theorem keys_sh {α : Type} {m : Nat} {X : List (Nat × α)} : keys (sh m X) = (keys X).map (m + ·) := by simp [keys, sh]
theorem o_sig {P : Program} {f : FuncId} {l : List Operand} {ts : Array TypeId} {svs svs' : List SV} {X0 : List (Nat × Pred)} {sv : SV} {X : List (Nat × Pred)} (m : Nat) (ρ : Nat → Nat) (hs : Sig P f svs X0 sv X) (hf : Enters' P f) (hP : cx.P = P) (hl : S.ops l = some svs') (hren : svs' = svs.map (SV.ren ρ))
    (hwf : ∀ x ∈ svs, x.res (keys X0)) (hX : RenOK S.X ρ X0) (hres : sv.res (keys X)) :
    OpG cx S ⟨dst, .call { callee := .value (.func f), args := l.toArray, argTypes := ts }, ty, pos, af, gd⟩ ⟨sv.ren (m + ·), keys (sh m X), sh m X, [], []⟩ := by
  subst hP
  refine o_call hf hl (by rw [keys_sh]; exact SV.ren_res hres) fun M ε I a w h => ?_
  subst hren
  have := hs I w (fun j => ε.ν (ρ j)) h.imm (FactsOK.of (fun j R hj => h.has hj) hX)
  rw [List.map_map, show svs.map (SV.den ε ∘ SV.ren ρ) = svs.map (den0 fun j => ε.ν (ρ j)) from List.map_congr_left (fun x hx => SV.ren_den (hwf x hx))]
  exact CallsIn.mono this fun e w' h => CtR.shift hres h
end ops
end Go.Eng
namespace Go.Eng
open Go
def ren (l : List (Nat × Nat)) (k : Nat) : Nat := match look k l with | some i => i | none => k
def notin (x : Nat) : List Nat → Bool
  | [] => true
  | y :: t => !(Nat.beq x y) && notin x t
def nodupb : List Nat → Bool
  | [] => true
  | x :: t => notin x t && nodupb t
theorem notin_iff {x : Nat} : ∀ {l : List Nat}, notin x l = true → x ∉ l
  | [], _ => by simp
  | y :: t, h => by
    simp only [notin, Bool.and_eq_true, Bool.not_eq_true'] at h
    intro hm
    rcases List.mem_cons.1 hm with rfl | hm
    · have := h.1; rw [Nat.beq_refl] at this; cases this
    · exact notin_iff h.2 hm
theorem nodupb_inj {ρ : Nat → Nat} : ∀ {l : List Nat}, nodupb (l.map ρ) = true → ∀ k k', k ∈ l → k' ∈ l → ρ k = ρ k' → k = k'
  | [], _, k, _, h, _, _ => by cases h
  | x :: t, h, k, k', hk, hk', he => by
    simp only [List.map_cons, nodupb, Bool.and_eq_true] at h
    rcases List.mem_cons.1 hk with h1 | h1
    · rcases List.mem_cons.1 hk' with h2 | h2
      · rw [h1, h2]
      · exact absurd (by rw [← h1, he]; exact List.mem_map.2 ⟨k', h2, rfl⟩) (notin_iff h.1)
    · rcases List.mem_cons.1 hk' with h2 | h2
      · exact absurd (by rw [← h2, ← he]; exact List.mem_map.2 ⟨k, h1, rfl⟩) (notin_iff h.1)
      · exact nodupb_inj h.2 k k' h1 h2 he
def keyset : List Nat → List Nat
  | [] => []
  | x :: t => bif notin x t then x :: keyset t else keyset t
theorem mem_keyset {k : Nat} : ∀ {l : List Nat}, k ∈ l → k ∈ keyset l
  | x :: t, h => by
    simp only [keyset]
    cases hn : notin x t with
    | true =>
      rcases List.mem_cons.1 h with rfl | h
      · exact List.mem_cons_self
      · exact List.mem_cons_of_mem _ (mem_keyset h)
    | false =>
      rcases List.mem_cons.1 h with rfl | h
      · have : k ∈ t := by
          have key : ∀ l : List Nat, notin k l = false → k ∈ l := by
            intro l
            induction l with
            | nil => intro h; cases h
            | cons y t ih =>
              intro h
              simp only [notin, Bool.and_eq_false_iff, Bool.not_eq_false'] at h
              rcases h with h | h
              · rw [Nat.eq_of_beq_eq_true h]; exact List.mem_cons_self
              · exact List.mem_cons_of_mem _ (ih h)
          exact key t hn
        exact mem_keyset this
      · exact mem_keyset h
def pinb (nB n : Nat) (ρ : Nat → Nat) : Bool := (List.range nB).all fun k => Nat.beq (ρ k) k && Nat.blt k n
theorem pin_of {nB n : Nat} {ρ : Nat → Nat} (h : pinb nB n ρ = true) : ∀ k, k < nB → ρ k = k ∧ k < n := fun k hk => by
  have := List.all_eq_true.1 h k (List.mem_range.2 hk)
  simp only [Bool.and_eq_true, Nat.blt_eq] at this
  exact ⟨Nat.eq_of_beq_eq_true this.1, this.2⟩
theorem LeR.of {nB : Nat} {S S' : St} {ρ : Nat → Nat} (fr : LeFr S.fr ρ S'.fr) (X : LeX S.X ρ S'.X) (L : LeL S.L ρ S'.L) (hinj : nodupb ((keyset (keys S'.L)).map ρ) = true) (D : S.D = S'.D.map ρ) (G : S'.G = []) (kb : S'.kb = true) (hpin : pinb nB S'.n ρ = true) : LeR nB S S' ρ :=
  ⟨fr, X, L, fun k k' hk hk' h => nodupb_inj hinj k k' (mem_keyset hk) (mem_keyset hk') h, D, G, kb, pin_of hpin⟩
section
variable {cx : Cx} {Q : Exit → Act → World → Prop} {ops : Array Oper} {nf : Nat} {r : Rec} {t : List (Oper × Rec)}
variable {n : Nat} {fr : List (Nat × SV)} {X : List (Nat × Pred)} {L : List (Nat × Ent)} {D : List Nat} {G : List (Nat × Bool)} {d : Tmp} {op : Op} {ty : TypeId} {pos : String} {af : Array Edge} {sv : SV}
theorem Imp.bit (g m : Nat) (b : Bool) (hg : Nat.ble n g = true) (hm : Nat.blt g m = true) : Imp cx ⟨n, fr, X, L, D, G⟩ ⟨m, fr, X, L, D, (g, b) :: G⟩ :=
  fun _ _ _ _ hs => ⟨_, _, Sat.bit (by simpa using hg) (by rw [Nat.blt_eq] at hm; exact hm) hs⟩
theorem DRQ.gv (g : Nat) {gs : List Nat} {b : Bool} {x : El} {j dj : Nat} {want : Bool} (hd : Nat.blt d cx.N = true) (hj : (ops[j]?).bind (·.dst) = some dj) (hb : GB (St.drop ⟨n, fr, X, L, D, G⟩ r.ds r.dk) dj want g gs b) (hN : r.N = [])
    (h : b = true → OpG cx ((St.drop ⟨n, fr, X, L, D, G⟩ r.ds r.dk).und gs) ⟨some d, op, ty, pos, af, some (j, want)⟩ (.val (.e x))) (K : DRQ cx ops nf t ⟨n, (d, .c g x) :: fr, X, L, D, G⟩ Q) :
    DRQ cx ops nf ((⟨some d, op, ty, pos, af, some (j, want)⟩, r) :: t) ⟨n, fr, X, L, D, G⟩ Q :=
  ⟨U.cond (.val (.e x)) g b x, ROp.g rfl hj hb rfl rfl (fun _ _ h => by cases h) h, ⟨hN.symm, fun _ _ h => (by cases h), fun _ _ h => (by cases h), rfl, fun i hi => by cases hi; rw [Nat.blt_eq] at hd; exact hd⟩, K⟩
theorem DRQ.gx (g k : Nat) {gs : List Nat} {b : Bool} {x : El} {R : Pred} {j dj : Nat} {want : Bool} (hd : Nat.blt d cx.N = true) (hj : (ops[j]?).bind (·.dst) = some dj) (hb : GB (St.drop ⟨n, fr, X, L, D, G⟩ r.ds r.dk) dj want g gs b) (hN : r.N = [k]) (hk : r.ks = [k])
    (h : b = true → OpG cx ((St.drop ⟨n, fr, X, L, D, G⟩ r.ds r.dk).und gs) ⟨some d, op, ty, pos, af, some (j, want)⟩ ⟨.e x, [k], [(k, R)], [], []⟩) (K : DRQ cx ops nf t ⟨n, (d, .c g x) :: fr, (k, Pred.iff b R) :: X, L, D, G⟩ Q) :
    DRQ cx ops nf ((⟨some d, op, ty, pos, af, some (j, want)⟩, r) :: t) ⟨n, fr, X, L, D, G⟩ Q :=
  ⟨U.cond ⟨.e x, [k], [(k, R)], [], []⟩ g b x, ROp.g rfl hj hb rfl rfl (fun _ _ h => by obtain ⟨rfl, _⟩ := look_one h; simp) h, ⟨hN.symm, fun i _ h => (by obtain ⟨rfl, _⟩ := look_one h; rw [hk]; simp), fun _ _ h => (by cases h), rfl, fun i hi => by cases hi; rw [Nat.blt_eq] at hd; exact hd⟩, K⟩
end
section ops
variable {cx : Cx} {S : St} {dst : Option Tmp} {ty : TypeId} {pos : String} {af : Array Edge} {gd : Option (Nat × Bool)}
theorem run_eqb {P : Program} {t : TypeId} (hT : P.underlying t = some .bool) (a b : Bool) (w : World) : (Op.equal t (.bool a) (.bool b)).run P w = .ok (a == b) w := by
  show (Op.equalIn (Op.maxDepth - 1 + 1) t (.bool a) (.bool b)).run P w = _
  simp [Op.equalIn, run_underlying hT]
theorem o_neb {x y : Operand} {t t' : TypeId} {a b : Bool} (hT : cx.P.underlying t = some .bool) (hx : S.op x = some (.b a)) (hy : S.op y = some (.b b)) : OpG cx S ⟨dst, .binOp .neq t x y t', ty, pos, af, gd⟩ (.val (.b (a != b))) :=
  OpG.pure (fun _ => by simp) fun M ε I ac w hs => ⟨trivial, by
    have h1 := hs.eval hx; have h2 := hs.eval hy
    simp only [SV.den, El.den, At.den] at h1 h2
    have := run_eqb hT a b w
    simp [execOp, h1, h2, eqGuard, binOp, SV.den, El.den, At.den, this]
    cases a <;> cases b <;> rfl⟩
end ops
end Go.Eng
namespace Go.Eng
open Go
theorem intc {y : Int} : ∀ I cs, EP.int.h I cs y → cs[0]? = some (.int .i64 y) := fun _ _ h => by
  rw [show _ = _ from h]; rfl
def SzAll (P : Program) : List Field → List Nat → Prop
  | [], [] => True
  | f :: fs, n :: ns => (∀ w, (sizeOf f.type).run P w = .ok n w) ∧ SzAll P fs ns
  | _, _ => False
theorem SzAll.run {P : Program} {w : World} : ∀ {fs : List Field} {ns : List Nat}, SzAll P fs ns → (fs.mapM (fun f => do pure (f.offset, ← sizeOf f.type) : Field → Sem (Nat × Nat))).run P w = .ok ((fs.map (·.offset)).zip ns) w
  | [], [], _ => rfl
  | f :: fs, n :: ns, h => by
    rw [List.mapM_cons]
    simp only [Sem.run_bind, h.1, Result.andThen_ok, Sem.run_pure, SzAll.run h.2]
    rfl
theorem BldT.mk {P : Program} {T : TypeId} {fs : List Field} {ns : List Nat} {pl : List (Nat × Nat)} {z : Value} {zs : List Value} (hu : P.underlying T = some (.struct fs.toArray)) (hn : SzAll P fs ns) (hpl : pl = (fs.map (·.offset)).zip ns) (hz : ∀ w, (zeroValue T).run P w = .ok z w) (hzs : z.cells = zs.toArray) : BldT P T pl zs :=
  ⟨⟨_, hu, fun w => by
    rw [List.mapM_toArray]
    simp only [Sem.run_map, SzAll.run hn, hpl]
    rfl⟩, z, hz, hzs⟩
def Pred.and (R R' : Pred) : Pred := ⟨fun I v => R.h I v ∧ R'.h I v, fun hI h => ⟨R.mono hI h.1, R'.mono hI h.2⟩⟩
theorem lxl {X : List (Nat × Pred)} {j : Nat} {R R' : Pred} (h : look j X = some (R.and R')) : Has X j R := ⟨_, h, fun _ _ h => h.1⟩
theorem lxr {X : List (Nat × Pred)} {j : Nat} {R R' : Pred} (h : look j X = some (R.and R')) : Has X j R' := ⟨_, h, fun _ _ h => h.2⟩
def PN {α : Type} (E : EP α) : Pred := (PL E []).and (Pred.is (.slice none 0 0))
theorem pn_ok {α : Type} {E : EP α} : ∀ I, (PN E).h I (.slice none 0 0) := fun _ => ⟨⟨none, 0, rfl, Nat.le_refl _, fun i hi => absurd hi (by simp)⟩, rfl⟩
def SigF (P : Program) (f : FuncId) (svs : List SV) (X0 : List (Nat × Pred)) (sv : SV) (X : List (Nat × Pred)) : Prop :=
  ∀ (I : IH) (w : World) (ν : Nat → Value), I.on w → FactsOK ν I X0 → Ct P f (svs.map (den0 ν)).toArray I w Emp sv (X.map fun p => (p.1, Pred.from w.heap.size p.2))
theorem Sig.free {P : Program} {f : FuncId} {svs : List SV} {X0 : List (Nat × Pred)} {sv : SV} (h : Sig P f svs X0 sv []) : SigF P f svs X0 sv [] := h
theorem SigF.intro {P : Program} {f : FuncId} {fn : Func} {c : Code} {svs : List SV} {X0 : List (Nat × Pred)} {sv : SV} {X : List (Nat × Pred)} (hf : P.funcs[f]? = some fn) (hb : fn.body = some c) (n : Nat) (fr : List (Nat × SV)) (hfr : fr = frOf 0 svs)
    (hwf : ∀ x ∈ svs, x.res (keys X0)) (hn : (keys X0).all (Nat.blt · n) = true) (hN : Nat.ble svs.length fn.ntmps = true)
    (h : ∀ I w, WP ⟨P, none, w, fn.ntmps, Emp, I, 0, fun _ => 0, fun _ => undef⟩ ⟨n, fr, X0, [], [], []⟩ c (Post P fn (CtR I w Emp sv (X.map fun p => (p.1, Pred.from w.heap.size p.2))))) : SigF P f svs X0 sv X := fun I w ν hI hX =>
  Ct.intro hf hb hI ν svs X0 n fr hfr rfl hX hwf (fun k hk => by simpa [Nat.blt_eq] using List.all_eq_true.1 hn k hk) hN (h I w)
inductive LendF (S : St) (k : Nat) (R : Pred) : Prop
  | x (h : Has S.X k R)
  | own {α : Type} {E : EP α} {l : List α} {T : TypeId} (hk : look k S.L = some (.own T E.size l.length (RP E l))) (hR : R = PL E l)
  | ext {u : Value} (hX : Has S.X k (Pred.is u)) (hL : look k S.L = some (.ext (lentXP u R)))
def LendOK (S : St) (ρ : Nat → Nat) : List (Nat × Pred) → Prop
  | [] => True
  | (j, R) :: t => LendF S (ρ j) R ∧ LendOK S ρ t
theorem LendF.ok {cx : Cx} {M : Nat → Prop} {ε : Env} {I : IH} {S : St} {a : Act} {w : World} (hs : SatM cx M ε I S a w) {k : Nat} {R : Pred} (h : LendF S k R) : R.h (World.all w) (ε.ν k) := by
  cases h with
  | x h => exact hs.all h
  | own hk hR => subst hR; exact hs.lend hk
  | ext hX hL => exact hs.lent hX hL
theorem LendOK.ok {cx : Cx} {M : Nat → Prop} {ε : Env} {I : IH} {S : St} {a : Act} {w : World} (hs : SatM cx M ε I S a w) {ρ : Nat → Nat} : ∀ {X0 : List (Nat × Pred)}, LendOK S ρ X0 → FactsOK (fun j => ε.ν (ρ j)) (World.all w) X0
  | [], _ => trivial
  | _ :: _, h => ⟨h.1.ok hs, LendOK.ok hs h.2⟩
section ops
variable {cx : Cx} {S : St} {dst : Option Tmp} {ty : TypeId} {pos : String} {af : Array Edge} {gd : Option (Nat × Bool)}
theorem sh_map {α β : Type} (m : Nat) (f : α → β) (X : List (Nat × α)) : sh m (X.map fun p => (p.1, f p.2)) = (sh m X).map fun p => (p.1, f p.2) := by simp [sh]
end ops
section ops
variable {cx : Cx} {S : St} {pos : String} {af : Array Edge} {ty : TypeId}
theorem o_steE2 {α : Type} {E : EP α} {x y : Operand} {T e : TypeId} {j n sz : Nat} {l : List α} {i : Int} {z : α} {ev : El} (hT : ∀ w, (sizeOf T).run cx.P w = .ok sz w) (hx : S.op x = some (.e (.a (.e j (i.toNat * sz))))) (hj : look j S.L = some (.own e sz n (RP E l))) (hy : S.op y = some (.e ev)) (h1 : ev.one S) (hz : EOK cx S E ev z)
    (hm : ev.cells.length = sz) (hsz : sz = E.size) (hn : n = l.length) (h0 : 0 ≤ i) (hi : i < l.length) :
    OpG cx S ⟨none, .store T x y, ty, pos, af, none⟩ ⟨.e (.a (.v undef)), [], [], [(j, .own e sz (lset l i z).length (RP E (lset l i z)))], []⟩ := by
  have := o_steE (ty := ty) (pos := pos) (af := af) hT hx hj hy h1 hz hm hsz hn h0 hi
  rw [lset_len, ← hn]; exact this
end ops
section ops
variable {cx : Cx} {S : St} {dst : Option Tmp} {ty : TypeId} {pos : String} {af : Array Edge} {gd : Option (Nat × Bool)}
theorem o_field {x : Operand} {T : TypeId} {f : Nat} {fs : List Field} {fd : Field} {cs : List At} {y : At} (hu : cx.P.underlying T = some (.struct fs.toArray)) (hf : fs[f]? = some fd) (hT : TyS cx.P fd.type) (hx : S.op x = some (.e (.g cs))) (hy : cs[fd.offset]? = some y) :
    OpG cx S ⟨dst, .field T x f, ty, pos, af, gd⟩ (.val (.e (.a y))) :=
  OpG.pure (fun _ => by simp) fun M ε I a w hs => ⟨hs.on (sv := .e (.g cs)) hx y (List.mem_of_getElem? hy), by
    have h := hs.eval hx
    simp only [SV.den, El.den] at h
    have h2 : Option.map (At.den ε) cs[fd.offset]? = some (y.den ε) := by rw [hy]; rfl
    simp [execOp, h, Instr.field, run_underlying hu, hf, asAgg, part, hT.ag, hT.sz, h2, SV.den, El.den]⟩
end ops
section
variable {cx : Cx} {Q : Exit → Act → World → Prop} {ops : Array Oper} {nf : Nat} {r : Rec} {t : List (Oper × Rec)} {rest : List Oper}
variable {n : Nat} {fr : List (Nat × SV)} {X : List (Nat × Pred)} {L : List (Nat × Ent)} {D : List Nat} {G : List (Nat × Bool)} {d : Tmp} {op : Op} {ty : TypeId} {pos : String} {af : Array Edge}
end
end Go.Eng
namespace Go.Eng
open Go
def EP.box (R : Pred) : EP Unit := ⟨1, fun I cs _ => ∃ v, cs = [v] ∧ R.h I v, fun ⟨_, h, _⟩ => by rw [h]; rfl, fun hI ⟨v, h, k⟩ => ⟨v, h, R.mono hI k⟩⟩
theorem boxx {R : Pred} : ∀ I cs, (EP.box R).h I cs () → ∃ u, cs[0]? = some u ∧ R.h I u := fun _ _ ⟨v, h, k⟩ => ⟨v, by rw [h]; rfl, k⟩
theorem bok_box {cx : Cx} {S : St} {R : Pred} {j : Nat} (hj : Has S.X j R) : ∀ M ε I a w, SatM cx M ε I S a w → (EP.box R).h I (([.q j] : List At).map (At.den ε)) () := fun _ _ _ _ _ hs => ⟨_, rfl, hs.has hj⟩
theorem bok_int {cx : Cx} {S : St} {n : Int} : ∀ M ε I a w, SatM cx M ε I S a w → EP.int.h I (([ai n] : List At).map (At.den ε)) n := fun _ _ _ _ _ _ => rfl
def Pred.all {ι : Type} (R : ι → Pred) : Pred := ⟨fun I v => ∀ i, (R i).h I v, fun hI h i => (R i).mono hI (h i)⟩
theorem Has.of {X : List (Nat × Pred)} {j : Nat} {R R' : Pred} (h : Has X j R) (k : ∀ I v, R.h I v → R'.h I v) : Has X j R' := by
  obtain ⟨R0, h1, h2⟩ := h; exact ⟨R0, h1, fun I v h => k I v (h2 I v h)⟩
def SvsOK (S : St) : List SV → List SV → Prop
  | [], [] => True
  | y :: ys, x :: xs => (y = x ∨ ∃ j u, x = .e (.a (.q j)) ∧ (∀ ε, y.den ε = u) ∧ Has S.X j (Pred.is u)) ∧ SvsOK S ys xs
  | _, _ => False
theorem SvsOK.den {cx : Cx} {M : Nat → Prop} {ε : Env} {I : IH} {S : St} {a : Act} {w : World} (hs : SatM cx M ε I S a w) : ∀ {ys xs : List SV}, SvsOK S ys xs → ys.map (SV.den ε) = xs.map (SV.den ε)
  | [], [], _ => rfl
  | y :: ys, x :: xs, h => by
    rw [List.map_cons, List.map_cons, SvsOK.den hs h.2]
    rcases h.1 with h1 | ⟨j, u, rfl, h2, h3⟩
    · rw [h1]
    · rw [h2 ε, show SV.den ε (.e (.a (.q j))) = u from hs.has h3]
theorem SvsOK.rf {S : St} : ∀ {l : List SV}, SvsOK S l l
  | [] => trivial
  | _ :: _ => ⟨.inl rfl, SvsOK.rf⟩
theorem svs_ren {ε : Env} {ρ : Nat → Nat} {svs : List SV} {J : List Nat} (hwf : ∀ x ∈ svs, x.res J) : (svs.map (SV.ren ρ)).map (SV.den ε) = svs.map (den0 fun j => ε.ν (ρ j)) := by
  rw [List.map_map]; exact List.map_congr_left (fun x hx => SV.ren_den (hwf x hx))
section ops
variable {cx : Cx} {S : St} {dst : Option Tmp} {ty : TypeId} {pos : String} {af : Array Edge} {gd : Option (Nat × Bool)}
theorem o_sigc {P : Program} {f : FuncId} {l : List Operand} {ts : Array TypeId} {svs svs' : List SV} {X0 : List (Nat × Pred)} {sv : SV} {X : List (Nat × Pred)} (m : Nat) (ρ : Nat → Nat) (hs : Sig P f svs X0 sv X) (hf : Enters' P f) (hP : cx.P = P) (hl : S.ops l = some svs') (hren : SvsOK S svs' (svs.map (SV.ren ρ)))
    (hwf : ∀ x ∈ svs, x.res (keys X0)) (hX : RenOK S.X ρ X0) (hres : sv.res (keys X)) :
    OpG cx S ⟨dst, .call { callee := .value (.func f), args := l.toArray, argTypes := ts }, ty, pos, af, gd⟩ ⟨sv.ren (m + ·), keys (sh m X), sh m X, [], []⟩ := by
  subst hP
  refine o_call hf hl (by rw [keys_sh]; exact SV.ren_res hres) fun M ε I a w h => ?_
  have := hs I w (fun j => ε.ν (ρ j)) h.imm (FactsOK.of (fun j R hj => h.has hj) hX)
  rw [hren.den h, svs_ren hwf]
  exact CallsIn.mono this fun e w' h => CtR.shift hres h
theorem o_sigbc {P : Program} {f : FuncId} {l : List Operand} {ts : Array TypeId} {svs svs' : List SV} {X0 : List (Nat × Pred)} {sv : SV} {X : List (Nat × Pred)} (m : Nat) (ρ : Nat → Nat) (hs : SigF P f svs X0 sv X) (hf : Enters' P f) (hP : cx.P = P) (hl : S.ops l = some svs') (hren : SvsOK S svs' (svs.map (SV.ren ρ)))
    (hwf : ∀ x ∈ svs, x.res (keys X0)) (hX : LendOK S ρ X0) (hres : sv.res (keys X)) :
    OpG cx S ⟨dst, .call { callee := .value (.func f), args := l.toArray, argTypes := ts }, ty, pos, af, gd⟩ ⟨sv.ren (m + ·), keys (sh m X), sh m X, [], []⟩ := by
  subst hP
  refine o_callb hf hl (by rw [keys_sh]; exact SV.ren_res hres) fun M ε I a w h => ?_
  have := hs (World.all w) w (fun j => ε.ν (ρ j)) (World.all_on w) (LendOK.ok h hX)
  rw [hren.den h, svs_ren hwf, ← sh_map]
  exact CallsIn.mono this fun e w' h => CtR.shift (by
    have : keys (X.map fun p => (p.1, Pred.from w.heap.size p.2)) = keys X := by simp [keys]
    rw [this]; exact hres) h
end ops
def FvP (P : Program) (svs : List SV) (X0 : List (Nat × Pred)) (sv : SV) (X : List (Nat × Pred)) : Pred where
  h I v := (∃ fn fs cs, v = .func fn fs cs) ∧ ∀ (I' : IH) (w : World) (ν : Nat → Value), I.le I' → I'.on w → FactsOK ν I' X0 → ∃ f args', FnV P v (svs.map (den0 ν)) f args' ∧ Ct P f args' I' w Emp sv X
  mono hI h := ⟨h.1, fun I' w ν hle => h.2 I' w ν (hI.trans hle)⟩
def Pred.fn : Pred := ⟨fun _ v => ∃ fn fs cs, v = .func fn fs cs, fun _ h => h⟩
theorem FvP.fn {P : Program} {svs : List SV} {X0 : List (Nat × Pred)} {sv : SV} {X : List (Nat × Pred)} : ∀ I v, (FvP P svs X0 sv X).h I v → Pred.fn.h I v := fun _ _ h => h.1
theorem Pred.fn_one : ∀ I v, Pred.fn.h I v → v.oneCell' = true := by rintro I v ⟨_, _, _, rfl⟩; rfl
theorem FvP.one {P : Program} {svs : List SV} {X0 : List (Nat × Pred)} {sv : SV} {X : List (Nat × Pred)} : ∀ I v, (FvP P svs X0 sv X).h I v → v.oneCell' = true := fun I v h => Pred.fn_one I v (FvP.fn I v h)
theorem FvP.onea {P : Program} {ι : Type} [Inhabited ι] {svs : ι → List SV} {X0 : ι → List (Nat × Pred)} {sv : ι → SV} {X : ι → List (Nat × Pred)} : ∀ I v, (Pred.all fun i => FvP P (svs i) (X0 i) (sv i) (X i)).h I v → v.oneCell' = true := fun I v h => FvP.one I v (h default)
theorem FactsOK.app {ν : Nat → Value} {I : IH} : ∀ {X X' : List (Nat × Pred)}, FactsOK ν I X → FactsOK ν I X' → FactsOK ν I (X ++ X')
  | [], _, _, h => h
  | _ :: _, _, h, h' => ⟨h.1, FactsOK.app h.2 h'⟩
theorem FactsOK.mono {ν : Nat → Value} {I I' : IH} (hI : I.le I') : ∀ {X : List (Nat × Pred)}, FactsOK ν I X → FactsOK ν I' X
  | [], _ => trivial
  | p :: _, h => ⟨p.2.mono hI h.1, FactsOK.mono hI h.2⟩
theorem FactsOK.congr {ν ν' : Nat → Value} {I : IH} : ∀ {X : List (Nat × Pred)}, (∀ k ∈ keys X, ν' k = ν k) → FactsOK ν I X → FactsOK ν' I X
  | [], _, _ => trivial
  | (k, R) :: t, h, hf => ⟨by rw [h k (by simp [keys])]; exact hf.1, FactsOK.congr (fun j hj => h j (List.mem_cons_of_mem _ hj)) hf.2⟩
theorem den0_congr {ν ν' : Nat → Value} {J : List Nat} (h : ∀ k ∈ J, ν' k = ν k) {x : SV} (hx : x.res J) : den0 ν' x = den0 ν x := SV.den_res (ε := ⟨fun _ => 0, ν, fun _ => true⟩) (ε' := ⟨fun _ => 0, ν', fun _ => true⟩) h hx
def disj (a b : List Nat) : Bool := a.all fun k => notin k b
theorem FvP.mk {P : Program} {f : FuncId} {svs cs : List SV} {X0 Xc : List (Nat × Pred)} {sv : SV} {X : List (Nat × Pred)} (hs : Sig P f (svs ++ cs) (X0 ++ Xc) sv X) (hen : Enters' P f) (hd : disj (keys Xc) (keys X0) = true)
    (hwf : ∀ x ∈ svs, x.res (keys X0)) (hwc : ∀ x ∈ cs, x.res (keys Xc)) {I : IH} {ν : Nat → Value} (hc : FactsOK ν I Xc) : (FvP P svs X0 sv X).h I (.func (.func f) #[] (cs.map (den0 ν)).toArray) := by
  refine ⟨⟨_, _, _, rfl⟩, ?_⟩
  intro I' w ν' hle hon hX
  let ν2 : Nat → Value := fun k => if k ∈ keys X0 then ν' k else ν k
  have e1 : ∀ k ∈ keys X0, ν2 k = ν' k := fun k hk => by simp [ν2, hk]
  have e2 : ∀ k ∈ keys Xc, ν2 k = ν k := fun k hk => by
    have : k ∉ keys X0 := notin_iff (List.all_eq_true.1 hd k hk)
    simp [ν2, this]
  refine ⟨f, _, FnV.of hen, ?_⟩
  have := hs I' w ν2 hon (FactsOK.app (FactsOK.congr e1 hX) (FactsOK.congr e2 (FactsOK.mono hle hc)))
  have ha : (#[] ++ (svs.map (den0 ν')).toArray ++ (cs.map (den0 ν)).toArray : Array Value) = ((svs ++ cs).map (den0 ν2)).toArray := by
    rw [List.map_append, List.map_congr_left (fun x hx => (den0_congr e1 (hwf x hx)).symm), List.map_congr_left (fun x hx => (den0_congr e2 (hwc x hx)).symm)]
    simp
  rw [ha]; exact this
section ops
variable {cx : Cx} {S : St} {dst : Option Tmp} {ty : TypeId} {pos : String} {af : Array Edge} {gd : Option (Nat × Bool)}
theorem o_callfv {P : Program} {x : Operand} {l : List Operand} {ts : Array TypeId} {svs svs' : List SV} {X0 : List (Nat × Pred)} {sv : SV} {X : List (Nat × Pred)} {j : Nat} (m : Nat) (ρ : Nat → Nat) (hx : S.op x = some (.e (.a (.q j)))) (hj : Has S.X j (FvP P svs X0 sv X)) (hP : cx.P = P)
    (hl : S.ops l = some svs') (hren : SvsOK S svs' (svs.map (SV.ren ρ))) (hwf : ∀ x ∈ svs, x.res (keys X0)) (hX : RenOK S.X ρ X0) (hres : sv.res (keys X)) :
    OpG cx S ⟨dst, .call { callee := .value x, args := l.toArray, argTypes := ts }, ty, pos, af, gd⟩ ⟨sv.ren (m + ·), keys (sh m X), sh m X, [], []⟩ := by
  subst hP
  refine o_callv hx hl (by rw [keys_sh]; exact SV.ren_res hres) fun M ε I a w h => ?_
  obtain ⟨f, args', h1, h2⟩ := (h.has hj).2 I w (fun j => ε.ν (ρ j)) IH.le.rfl' h.imm (FactsOK.of (fun j R hj => h.has hj) hX)
  refine ⟨f, args', ?_, CallsIn.mono h2 fun e w' h => CtR.shift hres h⟩
  rw [hren.den h, svs_ren hwf]; exact h1
theorem o_mkfv {P : Program} {f : FuncId} {l' : List Operand} {svs cs svs' : List SV} {X0 Xc : List (Nat × Pred)} {sv : SV} {X : List (Nat × Pred)} (k : Nat) (ρ : Nat → Nat) (hs : Sig P f (svs ++ cs) (X0 ++ Xc) sv X) (hen : Enters' P f) (hd : disj (keys Xc) (keys X0) = true)
    (hl' : S.ops l' = some svs') (hren : SvsOK S svs' (cs.map (SV.ren ρ))) (hwf : ∀ x ∈ svs, x.res (keys X0)) (hwc : ∀ x ∈ cs, x.res (keys Xc)) (hX : RenOK S.X ρ Xc) :
    OpG cx S ⟨dst, .makeFunc (.func f) #[] l'.toArray, ty, pos, af, gd⟩ ⟨.e (.a (.q k)), [k], [(k, FvP P svs X0 sv X)], [], []⟩ :=
  o_mkfn (l := []) rfl hl' fun M ε I a w h => by
    have := FvP.mk hs hen hd hwf hwc (I := I) (ν := fun j => ε.ν (ρ j)) (FactsOK.of (fun j R hj => h.has hj) hX)
    rw [hren.den h, svs_ren hwc]; exact this
theorem o_mkfva {P : Program} {f : FuncId} {l' : List Operand} {cs svs' : List SV} {Xc : List (Nat × Pred)} {ι : Type} {svs : ι → List SV} {X0 : ι → List (Nat × Pred)} {sv : ι → SV} {X : ι → List (Nat × Pred)} (k : Nat) (ρ : Nat → Nat) (hs : ∀ i, Sig P f (svs i ++ cs) (X0 i ++ Xc) (sv i) (X i)) (hen : Enters' P f) (hd : ∀ i, disj (keys Xc) (keys (X0 i)) = true)
    (hl' : S.ops l' = some svs') (hren : SvsOK S svs' (cs.map (SV.ren ρ))) (hwf : ∀ i, ∀ x ∈ svs i, x.res (keys (X0 i))) (hwc : ∀ x ∈ cs, x.res (keys Xc)) (hX : RenOK S.X ρ Xc) :
    OpG cx S ⟨dst, .makeFunc (.func f) #[] l'.toArray, ty, pos, af, gd⟩ ⟨.e (.a (.q k)), [k], [(k, Pred.all fun i => FvP P (svs i) (X0 i) (sv i) (X i))], [], []⟩ :=
  o_mkfn (l := []) rfl hl' fun M ε I a w h => by
    intro i
    have := FvP.mk (hs i) hen (hd i) (hwf i) hwc (I := I) (ν := fun j => ε.ν (ρ j)) (FactsOK.of (fun j R hj => h.has hj) hX)
    rw [hren.den h, svs_ren hwc]; exact this
end ops
theorem FvP.name {P : Program} {f : FuncId} {svs : List SV} {X0 : List (Nat × Pred)} {sv : SV} {X : List (Nat × Pred)} (hs : Sig P f svs X0 sv X) (hen : Enters' P f) (hwf : ∀ x ∈ svs, x.res (keys X0)) (I : IH) : ((FvP P svs X0 sv X).and (Pred.is (.func (.func f) #[] #[]))).h I (.func (.func f) #[] #[]) :=
  ⟨FvP.mk (cs := []) (Xc := []) (by rw [List.append_nil, List.append_nil]; exact hs) hen rfl hwf (fun _ h => by cases h) (ν := fun _ => undef) trivial, rfl⟩
theorem FvP.namea {P : Program} {f : FuncId} {ι : Type} {svs : ι → List SV} {X0 : ι → List (Nat × Pred)} {sv : ι → SV} {X : ι → List (Nat × Pred)} (hs : ∀ i, Sig P f (svs i) (X0 i) (sv i) (X i)) (hen : Enters' P f) (hwf : ∀ i, ∀ x ∈ svs i, x.res (keys (X0 i))) (I : IH) :
    ((Pred.all fun i => FvP P (svs i) (X0 i) (sv i) (X i)).and (Pred.is (.func (.func f) #[] #[]))).h I (.func (.func f) #[] #[]) := ⟨fun i => (FvP.name (hs i) hen (hwf i) I).1, rfl⟩
def ItP (P : Program) (items : List Item) : Pred := ⟨fun I v => ∃ f cs, v = .func (.func f) #[] cs ∧ Enters' P f ∧ ∀ I' w, I.le I' → I'.on w → ItC P f (fun y => #[] ++ #[y] ++ cs) I' w items, fun hI ⟨f, cs, h1, h2, h3⟩ => ⟨f, cs, h1, h2, fun I' w hle => h3 I' w (hI.trans hle)⟩⟩
def SigI (P : Program) (f : FuncId) (cs : List SV) (Xc : List (Nat × Pred)) (items : List Item) : Prop := ∀ (I : IH) (w : World) (ν : Nat → Value), I.on w → FactsOK ν I Xc → ItC P f (fun y => #[] ++ #[y] ++ (cs.map (den0 ν)).toArray) I w items
theorem ItP.hit {cx : Cx} {S : St} {j : Nat} {items : List Item} (hj : Has S.X j (ItP cx.P items)) : ∀ M ε I a w, SatM cx M ε I S a w → ∃ f fs cs, (SV.e (.a (.q j))).den ε = .func (.func f) fs cs ∧ Enters' cx.P f ∧ ∀ w2, I.on w2 → ItC cx.P f (fun y => fs ++ #[y] ++ cs) I w2 items := fun M ε I a w hs => by
  obtain ⟨f, cs, h1, h2, h3⟩ := hs.has hj
  exact ⟨f, #[], cs, h1, h2, fun w2 h => h3 I w2 IH.le.rfl' h⟩
theorem ItP.name {P : Program} {f : FuncId} {items : List Item} (hs : SigI P f [] [] items) (hen : Enters' P f) (I : IH) : ((ItP P items).and (Pred.is (.func (.func f) #[] #[]))).h I (.func (.func f) #[] #[]) :=
  ⟨⟨f, #[], rfl, hen, fun I' w _ hon => hs I' w (fun _ => undef) hon trivial⟩, rfl⟩
theorem SigI.intro {P : Program} {f : FuncId} {fn : Func} {c : Code} {cs : List SV} {Xc : List (Nat × Pred)} {items : List Item} (hf : P.funcs[f]? = some fn) (hb : fn.body = some c) (n ky : Nat) (hwf : ∀ x ∈ cs, x.res (keys Xc)) (hn : (keys Xc).all (Nat.blt · n) = true) (hky : Nat.blt ky n = true) (hN : Nat.ble (cs.length + 1) fn.ntmps = true)
    (h : ∀ (I : IH) (w : World) (l : Nat) (Y : Nat → YI w.heap.size) (K : YI w.heap.size) (F0 : Nat → Prop),
      (∀ i it, items[i]? = some it → ∀ F I' w' us vs, (Y i).J F I' w' → I.le I' → I'.on w' → w.heap.size ≤ w'.heap.size → (∀ b, F0 b → F b) → it.ok F I' w' us vs → RoundR P l vs w.heap.size F I' w' (Y (i + 1)) K) →
      WP ⟨P, none, w, fn.ntmps, F0, I, 0, fun _ => 0, fun _ => undef⟩ ⟨n, frOf 0 (.e (.a (.v (yv l))) :: cs), Xc, [(ky, .ext ((Y 0).xp F0))], [], []⟩ c (PostI P fn (ItR I w F0 fun F' I' w' => (Y items.length).J F' I' w' ∨ K.J F' I' w'))) :
    SigI P f cs Xc items := fun I w ν hI hX l Y K F0 hY hround => by
  have hky' : ky < n := by rw [Nat.blt_eq] at hky; exact hky
  refine It.intro hf hb hI hY ν (.e (.a (.v (yv l))) :: cs) Xc n ky _ rfl ?_ hX ?_ (fun k hk => by simpa [Nat.blt_eq] using List.all_eq_true.1 hn k hk) hky' (by simpa using hN) (h I w l Y K F0 hround)
  · show _ = (yv l :: cs.map (den0 ν)).toArray
    simp
  · intro x hx
    rcases List.mem_cons.1 hx with rfl | hx
    · trivial
    · exact hwf x hx
theorem leavesM2 {cx : Cx} {fn : Func} {R : Ending → World → Prop} {rs : List ResultVar} {els : List El} {ε : Env} {I : IH} {M : Nat → Prop} (hr : fn.results = rs.toArray) :
    ∀ (D : List Nat) (S : St) (a : Act) (w : World), S.D = D → (∀ k ∈ D, look k S.L = some (.ob (.deferred (some [])))) → D.Nodup → SatM cx M ε I S a w → ResOf cx S rs els →
    (∀ S' a' w', SatM cx M ε I S' a' w' → (∀ i e, look i S.L = some e → (∀ o, e ≠ .ob o) → look i S'.L = some e) → R (.returned ((resSV els).den ε)) w') → LeavesInM (fen none) 0 cx.P fn a.tmps R a.defers .returning w
  | [], S, a, w, hD, _, _, hs, hres, hR => by
    have : a.defers = [] := by rw [hs.defs, hD]; rfl
    rw [this]
    exact ⟨_, results_run hs hres hr, hR S a w hs (fun _ _ h _ => h)⟩
  | k :: D, S, a, w, hD, hmk, hnd, hs, hres, hR => by
    have : a.defers = markOf ε.β k :: D.map (markOf ε.β) := by rw [hs.defs, hD]; rfl
    rw [this]
    have hob := hmk k List.mem_cons_self
    have hL := hs.L k _ hob
    simp only [Ent.ok] at hL
    have hlt := (Array.getElem?_eq_some_iff.1 hL).1
    have hft := hs.foot k _ hob _ rfl
    refine ⟨by simp, .inl ⟨_, _, rfl, run_take hL, ?_⟩⟩
    have hoth : ∀ b, b ≠ ε.β k → ({ w with heap := w.heap.setIfInBounds (ε.β k) (.deferred none) } : World).heap[b]? = w.heap[b]? := fun b hb => by
      simp [Array.getElem?_setIfInBounds_ne (Ne.symm hb)]
    have himm : I.on { w with heap := w.heap.setIfInBounds (ε.β k) (.deferred none) } := fun b o hb => by
      rw [hoth b (fun e => by rw [e, hft.2.2] at hb; cases hb)]; exact hs.imm b o hb
    have hlk : ∀ i e, look i ((k, Ent.dead) :: S.L) = some e → (i = k ∧ e = .dead) ∨ (i ≠ k ∧ look i S.L = some e) := by
      intro i e he
      rw [look_cons] at he
      by_cases hk : k = i
      · subst hk; simp at he; exact .inl ⟨rfl, he.symm⟩
      · simp [hk] at he; exact .inr ⟨fun e => hk e.symm, he⟩
    have := leavesM2 (R := R) hr D { S with L := (k, .dead) :: S.L, D := D } { a with defers := D.map (markOf ε.β) } { w with heap := w.heap.setIfInBounds (ε.β k) (.deferred none) } rfl
      (fun i hi => by
        have hne : k ≠ i := fun e => by subst e; exact (List.nodup_cons.1 hnd).1 hi
        simp only [look_cons, hne, if_false]; exact hmk i (List.mem_cons_of_mem _ hi)) (List.nodup_cons.1 hnd).2
      { wfr := hs.wfr, wfX := hs.wfX, wfG := hs.wfG, G := hs.G, size := hs.size, fr := hs.fr, X := hs.X, le0 := hs.le0, fr0 := hs.fr0
        wfL := fun i e he => by
          rcases hlk i e he with ⟨rfl, rfl⟩ | ⟨_, he⟩
          · exact ⟨(hs.wfL i _ hob).1, trivial⟩
          · exact hs.wfL i e he
        wfD := fun i hi => hs.wfD i (by rw [hD]; exact List.mem_cons_of_mem _ hi)
        defs := rfl
        L := fun i e he => by
          rcases hlk i e he with ⟨rfl, rfl⟩ | ⟨hne, he⟩
          · trivial
          · exact Ent.ok_kept (M := M) Env.agree.refl IH.le.rfl' (hs.wfL i e he).1 (hs.wfL i e he).2 (hs.L i e he) (fun b hb => hoth b (fun eb => hs.sep i k e _ b he hob hne hb (by rw [eb]; rfl))) (fun x hx => by
            subst hx
            obtain ⟨hx1, hx2⟩ := hs.ext i x he
            refine ⟨IH.le.rfl', himm, rfl, rfl, rfl, by simp, fun b hb hn => hoth b (fun eb => ?_), fun b o hb => .inl hb⟩
            have hnF : ¬ x.F b := fun hF => hs.sep i k _ _ b he hob hne hF eb
            rcases hn with hn | hn
            · rcases hft.1 with h1 | h1
              · rw [← eb] at h1
                have := (hx2 b hn).1
                omega
              · rw [← eb] at h1
                exact hnF ((hx2 b hn).2 h1)
            · exact hnF hn)
        foot := fun i e he b hb => by
          rcases hlk i e he with ⟨rfl, rfl⟩ | ⟨_, he⟩
          · cases hb
          · have := hs.foot i e he b hb
            exact ⟨this.1, by simpa using this.2.1, this.2.2⟩
        sep := fun i i' e e' b he he' hne hb => by
          rcases hlk i e he with ⟨rfl, rfl⟩ | ⟨_, he⟩
          · cases hb
          · rcases hlk i' e' he' with ⟨rfl, rfl⟩ | ⟨_, he'⟩
            · simp [Ent.foot]
            · exact hs.sep i i' e e' b he he' hne hb
        imm := himm
        pin := hs.pin
        ext := fun i x hx => by
          rcases hlk i _ hx with ⟨_, hx⟩ | ⟨_, hx⟩
          · cases hx
          · exact hs.ext i x hx
        keep := ⟨hs.keep.os, hs.keep.tape, hs.keep.output, by simpa using hs.keep.size, fun b hb hE => by
          rw [hoth b (fun e => by rw [e] at hb hE; rcases hft.1 with h | h; · omega
                                  · exact hE h)]
          exact hs.keep.block b hb hE⟩ } (ResOf.dead hob hres) (fun S' a' w' hs' hk' => hR S' a' w' hs' fun i e he hno => hk' i e (by
            have hne : k ≠ i := fun h => by subst h; rw [hob] at he; cases he; exact hno _ rfl
            simp only [look_cons, hne, if_false]; exact he) hno)
    exact this
def envU (us : Nat → Value) : Env := ⟨fun _ => 0, us, fun _ => true⟩
def Ent.isOwn : Ent → Bool
  | .own _ _ _ _ => true
  | _ => false
structure LOK (us : Nat → Value) (I' : IH) (w w' : World) (L : List (Nat × Ent)) : Prop where
  ok : ∀ k e, look k L = some e → e.ok (envU us) I' w' k
  foot : ∀ k e, look k L = some e → ∀ b, e.foot (envU us) k b → w.heap.size ≤ b ∧ b < w'.heap.size ∧ I' b = none
  sep : ∀ k k' e e' b, look k L = some e → look k' L = some e' → k ≠ k' → e.foot (envU us) k b → ¬ e'.foot (envU us) k' b
def CtRO (I : IH) (w : World) (sv : SV) (X : List (Nat × Pred)) (L : List (Nat × Ent)) : Ending → World → Prop := fun e w' =>
  ∃ I' us, e = .returned (sv.den (envU us)) ∧ Keep Emp w w' ∧ I.le I' ∧ I'.on w' ∧ (∀ b o, I' b = some o → I b = some o ∨ w.heap.size ≤ b) ∧ (∀ j R, look j X = some R → R.h I' (us j)) ∧ LOK us I' w w' L
def SigO (P : Program) (f : FuncId) (svs : List SV) (X0 : List (Nat × Pred)) (sv : SV) (X : List (Nat × Pred)) (L : List (Nat × Ent)) : Prop :=
  ∀ (I : IH) (w : World) (ν : Nat → Value), I.on w → FactsOK ν I X0 → CallsIn Fence.wide 0 P f (svs.map (den0 ν)).toArray w (CtRO I w sv X L)
theorem own_only {L : List (Nat × Ent)} (h : L.all (fun p => p.2.isOwn) = true) {k : Nat} {e : Ent} (he : look k L = some e) : ∃ T s n R, e = .own T s n R := by
  have := List.all_eq_true.1 h _ (look_mem he)
  cases e <;> simp [Ent.isOwn] at this ⊢
theorem SigO.intro {P : Program} {f : FuncId} {fn : Func} {c : Code} {svs : List SV} {X0 : List (Nat × Pred)} {sv : SV} {X : List (Nat × Pred)} {L : List (Nat × Ent)} (hf : P.funcs[f]? = some fn) (hb : fn.body = some c) (n : Nat) (fr : List (Nat × SV)) (hfr : fr = frOf 0 svs)
    (hwf : ∀ x ∈ svs, x.res (keys X0)) (hn : (keys X0).all (Nat.blt · n) = true) (hN : Nat.ble svs.length fn.ntmps = true)
    (h : ∀ I w, WP ⟨P, none, w, fn.ntmps, Emp, I, 0, fun _ => 0, fun _ => undef⟩ ⟨n, fr, X0, [], [], []⟩ c (Post P fn (CtRO I w sv X L))) : SigO P f svs X0 sv X L := fun I w ν hI hX => by
  refine callsIn_of_wp_marks hf hb trivial ?_
  refine h I w ⟨fun _ => 0, ν, fun _ => true⟩ I _ w ?_
  have hN' : svs.length ≤ fn.ntmps := by simpa using hN
  subst hfr
  refine ⟨?_, ?_, fun _ _ h => (by cases h), fun _ h => (by cases h), fun _ _ h => (by cases h), fun _ _ h => (by cases h), ?_, rfl, ?_, hX.get, fun _ _ h => (by cases h), fun _ _ h => (by cases h), fun _ _ _ _ _ h => (by cases h), hI, Keep.refl w, IH.le.rfl', fun _ _ h => .inl h, fun _ h => absurd h (Nat.not_lt_zero _), fun _ _ h => (by cases h)⟩
  · intro i x hx
    have := (look_frOf svs 0 i x hx).2
    exact SV.on_res (fun j hj => by simpa [Nat.blt_eq] using List.all_eq_true.1 hn j hj) (hwf x (List.mem_of_getElem? this))
  · intro j R hj
    simpa [Nat.blt_eq] using List.all_eq_true.1 hn j (look_keys hj)
  · simp; omega
  · intro i x hx
    have := (look_frOf svs 0 i x hx).2
    simp only [Nat.sub_zero] at this
    have hi : i < svs.length := (List.getElem?_eq_some_iff.1 this).1
    rw [Array.getElem?_append_left (by simpa using hi)]
    simp [this, den0]
def OwnOK (S : St) (ρ : Nat → Nat) : List (Nat × Ent) → Prop
  | [] => True
  | (k, e) :: t => look (ρ k) S.L = some e ∧ OwnOK S ρ t
theorem OwnOK.get {S : St} {ρ : Nat → Nat} : ∀ {L : List (Nat × Ent)}, OwnOK S ρ L → ∀ k e, look k L = some e → look (ρ k) S.L = some e
  | (j, e') :: t, h, k, e, hk => by
    rw [look_cons] at hk
    by_cases hj : j = k
    · subst hj; simp at hk; subst hk; exact h.1
    · simp [hj] at hk; exact OwnOK.get h.2 k e hk
theorem EX.finO {cx : Cx} {S : St} {fn : Func} {rs : List ResultVar} {els : List El} {sv : SV} {X : List (Nat × Pred)} {L : List (Nat × Ent)} {e : Exit} (ρ : Nat → Nat) (hE : cx.E = Emp) (he : e = .ret ∨ e = .normal) (hr : fn.results = rs.toArray) (hres : ResOf cx S rs els)
    (hsv : resSV els = sv.ren ρ) (hw : sv.res (keys X)) (hX : RenOK S.X ρ X) (hL : OwnOK S ρ L) (hown : L.all (fun p => p.2.isOwn) = true) (hinj : nodupb ((keyset (keys L)).map ρ) = true) (hmk : ∀ k ∈ S.D, look k S.L = some (.ob (.deferred (some [])))) (hnd : S.D.Nodup) :
    EX cx S e (Post cx.P fn (CtRO cx.I0 cx.w0 sv X L)) := by
  intro ε I a w hs
  have key : LeavesInM (fen none) 0 cx.P fn a.tmps (CtRO cx.I0 cx.w0 sv X L) a.defers .returning w :=
    leavesM2 hr S.D S a w rfl hmk hnd hs hres fun S' a' w' hs' hk' => by
      have hl : ∀ k e, look k L = some e → look (ρ k) S'.L = some e ∧ (∀ b, e.foot (envU fun j => ε.ν (ρ j)) k b ↔ e.foot ε (ρ k) b) ∧ (e.ok ε I w' (ρ k) → e.ok (envU fun j => ε.ν (ρ j)) I w' k) := fun k e h => by
        obtain ⟨T, s, n, R, rfl⟩ := own_only hown h
        exact ⟨hk' _ _ (hL.get k _ h) (fun o ho => by cases ho), fun b => Iff.rfl, fun h => h⟩
      refine ⟨I, fun j => ε.ν (ρ j), by rw [hsv]; exact congrArg _ (SV.den_ren hw), ?_, hs'.le0, hs'.imm, hs'.fr0, fun j R hj => ?_, ⟨fun k e h => (hl k e h).2.2 (hs'.L _ _ (hl k e h).1), fun k e h b hb => ?_, fun k k' e e' b h h' hne hb hb' => ?_⟩⟩
      · have := hs'.keep; rw [hE] at this; exact this
      · exact hs.has (hX.get j R hj)
      · obtain ⟨h1, h2, h3⟩ := hs'.foot _ _ (hl k e h).1 b (((hl k e h).2.1 b).1 hb)
        refine ⟨?_, h2, h3⟩
        rcases h1 with h1 | h1
        · exact h1
        · rw [hE] at h1; exact h1.elim
      · exact hs'.sep _ _ _ _ b (hl k e h).1 (hl k' e' h').1 (fun he => hne (nodupb_inj hinj k k' (mem_keyset (look_keys h)) (mem_keyset (look_keys h')) he)) (((hl k e h).2.1 b).1 hb) (((hl k' e' h').2.1 b).1 hb')
  rcases he with rfl | rfl <;> exact key
theorem o_sigo {cx : Cx} {S : St} {dst : Option Tmp} {ty : TypeId} {pos : String} {af : Array Edge} {gd : Option (Nat × Bool)} {P : Program} {f : FuncId} {l : List Operand} {ts : Array TypeId} {svs svs' : List SV} {X0 : List (Nat × Pred)} {sv : SV} {X : List (Nat × Pred)} {L : List (Nat × Ent)} (m : Nat) (ρ : Nat → Nat) (hs : SigO P f svs X0 sv X L) (hf : Enters' P f) (hP : cx.P = P)
    (hl : S.ops l = some svs') (hren : SvsOK S svs' (svs.map (SV.ren ρ))) (hwf : ∀ x ∈ svs, x.res (keys X0)) (hX : RenOK S.X ρ X0) (hres : sv.res (keys X)) (hown : L.all (fun p => p.2.isOwn) = true) (hLX : (keys L).all (fun k => memb k (keys X)) = true) :
    OpG cx S ⟨dst, .call { callee := .value (.func f), args := l.toArray, argTypes := ts }, ty, pos, af, gd⟩ ⟨sv.ren (m + ·), keys (sh m X), sh m X, sh m L, []⟩ := by
  subst hP
  intro M ε I a w next Q h hN K
  have h1 := hs I w (fun j => ε.ν (ρ j)) h.imm (FactsOK.of (fun j R hj => h.has hj) hX)
  refine ⟨fun _ _ => trivial, ?_⟩
  have hev := h.evals hl
  rw [hren.den h, svs_ren hwf] at hev
  have hex : (execOp a.eval ⟨dst, .call { callee := .value (.func f), args := l.toArray, argTypes := ts }, ty, pos, af, gd⟩).run cx.P w = .ok (.enter f (svs.map (den0 fun j => ε.ν (ρ j))).toArray) w := by
    simp [execOp, resolve, Act.eval, Deferred.ofValue, invoke, hev, hf _ _]
  rw [semAt_eq _ _ _ (fun _ => by simp), hex]
  refine ⟨fun h => (by cases h), CallsIn.mono (callsIn_fen h1) ?_⟩
  rintro e w' ⟨I', us, rfl, hk, hle, hon, hfr, hXs, hLo⟩
  let us' : Nat → Value := fun j => us (j - m)
  have hus : ∀ i, us' (m + i) = us i := fun i => by show us (m + i - m) = us i; congr 1; omega
  let ε' : Env := ⟨ε.β, fun j => if j ∈ keys (sh m X) then us' j else ε.ν j, ε.γ⟩
  have hν : ∀ i, i ∈ keys X → ε'.ν (m + i) = us i := fun i hi => by
    have : m + i ∈ keys (sh m X) := by rw [keys_sh]; exact List.mem_map.2 ⟨i, hi, rfl⟩
    show (if m + i ∈ keys (sh m X) then us' (m + i) else ε.ν (m + i)) = us i
    rw [if_pos this, hus]
  have hlk : ∀ k e, look k (sh m L) = some e → ∃ i, k = m + i ∧ look i L = some e ∧ ε'.ν k = us i ∧ k ∈ keys (sh m X) := fun k e he => by
    obtain ⟨i, rfl, hi⟩ := look_sh he
    have hiX : i ∈ keys X := memb_iff.1 (List.all_eq_true.1 hLX i (look_keys hi))
    exact ⟨i, rfl, hi, hν i hiX, by rw [keys_sh]; exact List.mem_map.2 ⟨i, hiX, rfl⟩⟩
  have hsv : sv.den (envU us) = (sv.ren (m + ·)).den ε' := by
    rw [SV.ren_den hres]
    exact SV.den_res (ε := ⟨fun _ => 0, fun j => ε'.ν (m + j), fun _ => true⟩) (ε' := envU us) (fun j hj => (hν j hj).symm) hres
  show next (a.put dst _) w'
  rw [hsv]
  refine K ε' I' w' ⟨fun i hi => ⟨rfl, by show (if i ∈ keys (sh m X) then us' i else ε.ν i) = _; rw [if_neg hi], rfl⟩, hle, hon, hk.os, hk.tape, hk.output, hk.size, fun b hb _ => hk.block b hb (fun h => h), fun b o hb => ?_⟩
    ⟨SV.on_res (J := keys (sh m X)) (fun j hj => .inr hj) (by rw [keys_sh]; exact SV.ren_res hres), fun j R hj => .inr (look_keys hj), fun _ _ h => (by cases h), fun k e he => ?_, fun j R hj => ?_, fun k e he => ?_, fun k e he b hb => ?_, fun k k' e e' b he he' hne hb hb' => ?_, fun k x he => ?_⟩
  · rcases hfr b o hb with h | h
    · exact .inl h
    · exact .inr (.inl h)
  · obtain ⟨i, rfl, hi, _, hkX⟩ := hlk k e he
    obtain ⟨T, s, n, R, rfl⟩ := own_only hown hi
    exact ⟨.inr hkX, trivial⟩
  · obtain ⟨i, rfl, hi⟩ := look_sh hj
    rw [hν i (look_keys hi)]; exact hXs i R hi
  · obtain ⟨i, rfl, hi, h2, _⟩ := hlk k e he
    obtain ⟨T, s, n, R, rfl⟩ := own_only hown hi
    have := hLo.ok i _ hi
    simp only [Ent.ok] at this ⊢
    rw [h2]; exact this
  · obtain ⟨i, rfl, hi, h2, _⟩ := hlk k e he
    obtain ⟨T, s, n, R, rfl⟩ := own_only hown hi
    have hb' : (us i).ownBlock = some b := by rw [← h2]; exact hb
    obtain ⟨h3, h4, h5⟩ := hLo.foot i _ hi b hb'
    exact ⟨.inl (Nat.le_trans h.keep.size h3), h4, h5, .inl h3⟩
  · obtain ⟨i, rfl, hi, h2, _⟩ := hlk k e he
    obtain ⟨i', rfl, hi', h2', _⟩ := hlk k' e' he'
    obtain ⟨T, s, n, R, rfl⟩ := own_only hown hi
    obtain ⟨T', s', n', R', rfl⟩ := own_only hown hi'
    have hb1 : (us i).ownBlock = some b := by rw [← h2]; exact hb
    have hb2 : (us i').ownBlock = some b := by rw [← h2']; exact hb'
    exact hLo.sep i i' _ _ b hi hi' (fun h => hne (by rw [h])) hb1 hb2
  · obtain ⟨i, rfl, hi, _, _⟩ := hlk k _ he
    obtain ⟨T, s, n, R, h⟩ := own_only hown hi
    cases h
def Pred.newer (n : Nat) : Pred := ⟨fun _ v => ∀ b, v.ownBlock = some b → n ≤ b, fun _ h => h⟩
theorem OpG.newer0 {cx : Cx} {S : St} {o : Oper} {sv : SV} {k : Nat} {T : TypeId} {s n : Nat} {R : LPred} (h : OpG cx S o ⟨sv, [k], [], [(k, .own T s n R)], []⟩) : OpG cx S o ⟨sv, [k], [(k, Pred.newer cx.w0.heap.size)], [(k, .own T s n R)], []⟩ := by
  intro M ε I a w next Q hs hN K
  refine h M ε I a w next Q hs hN fun ε' I' w' ht hn => K ε' I' w' ht
    ⟨hn.sv, fun j R hj => by obtain ⟨rfl, _⟩ := look_one hj; exact .inr (by simp), hn.wG, hn.wL, fun j R hj => ?_, hn.L, hn.foot, hn.sep, hn.ext⟩
  obtain ⟨rfl, rfl⟩ := look_one hj
  intro b hb
  rcases (hn.foot j (.own T s n R) (by simp [look_cons]) b hb).2.2.2 with h1 | ⟨k', e', h1, h2, _⟩
  · exact Nat.le_trans hs.keep.size h1
  · exfalso
    have hk' : k' = j := by
      cases hl : look k' [(j, Ent.own T s n R)] with
      | none => rw [hl] at h1; cases h1
      | some x => exact (look_one hl).1
    subst hk'
    exact hN k' (by simp) (hs.wfL k' _ h2).1
def CtRX (I : IH) (w : World) (Y : XP) (sv : SV) (X : List (Nat × Pred)) : Ending → World → Prop := fun e w' =>
  ∃ I' us, e = .returned (sv.den (envU us)) ∧ Keep Y.F w w' ∧ I.le I' ∧ I'.on w' ∧ (∀ b o, I' b = some o → I b = some o ∨ w.heap.size ≤ b) ∧ (∀ j R, look j X = some R → R.h I' (us j)) ∧ Y.J I' w'
def SigX (P : Program) (f : FuncId) (svs : List SV) (X0 : List (Nat × Pred)) (Y : XP) (sv : SV) (X : List (Nat × Pred)) : Prop :=
  ∀ (I : IH) (w : World) (ν : Nat → Value), I.on w → FactsOK ν I X0 → Y.J I w → (∀ c, Y.F c → c < w.heap.size ∧ I c = none) → CallsIn Fence.wide 0 P f (svs.map (den0 ν)).toArray w (CtRX I w Y sv X)
structure XP.plain (Y : XP) : Prop where
  n1 : Y.n1 = 0
  Rd : ∀ b, ¬ Y.Rd b
theorem SigX.intro {P : Program} {f : FuncId} {fn : Func} {c : Code} {svs : List SV} {X0 : List (Nat × Pred)} {Y : XP} {sv : SV} {X : List (Nat × Pred)} (hY : Y.plain) (hf : P.funcs[f]? = some fn) (hb : fn.body = some c) (n ky : Nat) (fr : List (Nat × SV)) (hfr : fr = frOf 0 svs)
    (hwf : ∀ x ∈ svs, x.res (keys X0)) (hn : (keys X0).all (Nat.blt · n) = true) (hky : Nat.blt ky n = true) (hN : Nat.ble svs.length fn.ntmps = true)
    (h : ∀ I w, WP ⟨P, none, w, fn.ntmps, Y.F, I, 0, fun _ => 0, fun _ => undef⟩ ⟨n, fr, X0, [(ky, .ext Y)], [], []⟩ c (Post P fn (CtRX I w Y sv X))) : SigX P f svs X0 Y sv X := fun I w ν hI hX hJ hF => by
  refine callsIn_of_wp_marks hf hb trivial ?_
  refine h I w ⟨fun _ => 0, ν, fun _ => true⟩ I _ w ?_
  have hN' : svs.length ≤ fn.ntmps := by simpa using hN
  subst hfr
  refine ⟨?_, ?_, fun k e he => ?_, fun _ h => (by cases h), fun _ _ h => (by cases h), fun _ _ h => (by cases h), ?_, rfl, ?_, hX.get, fun k e he => ?_, fun k e he b hb => ?_, fun k k' e e' b he he' hne => ?_, hI, Keep.refl w, IH.le.rfl', fun _ _ h => .inl h, fun _ h => absurd h (Nat.not_lt_zero _), fun k x he => ?_⟩
  · intro i x hx
    have := (look_frOf svs 0 i x hx).2
    exact SV.on_res (fun j hj => by simpa [Nat.blt_eq] using List.all_eq_true.1 hn j hj) (hwf x (List.mem_of_getElem? this))
  · intro j R hj
    simpa [Nat.blt_eq] using List.all_eq_true.1 hn j (look_keys hj)
  · obtain ⟨rfl, rfl⟩ := look_one he
    exact ⟨by simpa [Nat.blt_eq] using hky, trivial⟩
  · simp; omega
  · intro i x hx
    have := (look_frOf svs 0 i x hx).2
    simp only [Nat.sub_zero] at this
    have hi : i < svs.length := (List.getElem?_eq_some_iff.1 this).1
    rw [Array.getElem?_append_left (by simpa using hi)]
    simp [this, den0]
  · obtain ⟨rfl, rfl⟩ := look_one he; exact hJ
  · obtain ⟨rfl, rfl⟩ := look_one he
    exact ⟨.inr hb, hF b hb⟩
  · obtain ⟨rfl, _⟩ := look_one he
    obtain ⟨rfl, _⟩ := look_one he'
    exact absurd rfl hne
  · obtain ⟨_, h⟩ := look_one he
    cases h
    exact ⟨by rw [hY.n1]; exact Nat.zero_le _, fun b hb => absurd hb (hY.Rd b)⟩
end Go.Eng
namespace Go.Eng
open Go
def vl (ag : Bool) (l : List Int) : Value := bif ag then .agg (l.map (Value.int .i64)).toArray else .int .i64 (l.getD 0 0)
structure FlatT (P : Program) (T : TypeId) (n k : Nat) (ag : Bool) : Prop where
  len : ag = false → n = 1
  ia : ∀ w, (isAgg T).run P w = .ok ag w
  sz : ∀ w, (sizeOf T).run P w = .ok n w
  eq : ∀ (d : Nat) (w : World) (a b : List Int), a.length = n → b.length = n → (Op.equalIn (d + k) T (vl ag a) (vl ag b)).run P w = .ok (decide (a = b)) w
  chk : ∀ (d : Nat) (e : Bool) (w : World) (a : List Int), a.length = n → (Instr.checkKey e (d + k) T (vl ag a)).run P w = .ok () w
theorem FlatT.part {P : Program} {T : TypeId} {n k : Nat} {ag : Bool} (h : FlatT P T n k ag) {l : List Int} {off : Nat} (hl : off + n ≤ l.length) (w : World) : (part T (l.map (Value.int .i64)).toArray off).run P w = .ok (vl ag ((l.drop off).take n)) w := by
  cases ag with
  | false =>
    have hn := h.len rfl
    subst hn
    have hlt : off < l.length := by omega
    have e : ((l.drop off).take 1).getD 0 0 = l[off] := by
      simp [List.getD_eq_getElem?_getD, List.getElem?_take, List.getElem?_drop, hlt]
    simp [Go.part, h.ia, vl, e, hlt]
  | true =>
    simp only [Go.part, Sem.run_bind, h.ia, Result.andThen_ok, if_true, h.sz, Sem.run_pure, vl, cond_true]
    congr 2
    apply Array.ext'
    simp [List.extract, List.map_take, List.map_drop]
theorem FlatT.int {P : Program} {T : TypeId} {q : IntKind} (hT : P.underlying T = some (.int q)) (hs : TyS P T) : FlatT P T 1 1 false where
  len := fun _ => rfl
  ia := hs.ag
  sz := hs.sz
  eq := fun d w a b ha hb => by
    match a, ha, b, hb with
    | [x], _, [y], _ =>
      have := run_equalIn_int w d T .i64 q x y hT
      simp only [vl, cond_false, List.getD_cons_zero, List.cons.injEq, and_true]
      exact this
  chk := fun d e w a ha => by
    match a, ha with
    | [x], _ => simp [vl, Instr.checkKey, run_underlying hT]
def FlatFs (P : Program) (k : Nat) : List Field → Nat → Nat → Prop
  | [], off, n => off = n
  | f :: fs, off, n => f.name ≠ "_" ∧ f.offset = off ∧ ∃ m ag, FlatT P f.type m k ag ∧ FlatFs P k fs (off + m) n
theorem FlatFs.le {P : Program} {k : Nat} : ∀ {fs : List Field} {off n : Nat}, FlatFs P k fs off n → off ≤ n
  | [], _, _, h => Nat.le_of_eq h
  | _ :: _, _, _, ⟨_, _, m, _, _, h⟩ => by have := FlatFs.le h; omega
theorem drop_eq {a b : List Int} {off m : Nat} (ha : off + m ≤ a.length) (hb : off + m ≤ b.length) : a.drop off = b.drop off ↔ (a.drop off).take m = (b.drop off).take m ∧ a.drop (off + m) = b.drop (off + m) := by
  constructor
  · intro h; exact ⟨by rw [h], by rw [← List.drop_drop, ← List.drop_drop, h]⟩
  · rintro ⟨h1, h2⟩
    rw [← List.take_append_drop m (a.drop off), ← List.take_append_drop m (b.drop off), h1, List.drop_drop, List.drop_drop, h2]
theorem FlatFs.eq {P : Program} {k : Nat} (d : Nat) (w : World) {a b : List Int} {n : Nat} (ha : a.length = n) (hb : b.length = n) : ∀ {fs : List Field} {off : Nat}, FlatFs P k fs off n →
    (Op.eqFields (d + k) (a.map (Value.int .i64)).toArray (b.map (Value.int .i64)).toArray fs).run P w = .ok (decide (a.drop off = b.drop off)) w
  | [], off, h => by
    have h : off = n := h
    subst h
    rw [List.drop_of_length_le (Nat.le_of_eq ha), List.drop_of_length_le (Nat.le_of_eq hb)]
    simp [Op.eqFields]
  | f :: fs, off, ⟨h1, h2, m, ag, h3, h4⟩ => by
    have hle := h4.le
    have p1 := h3.part (l := a) (off := off) (by omega) w
    have p2 := h3.part (l := b) (off := off) (by omega) w
    have p3 := h3.eq d w ((a.drop off).take m) ((b.drop off).take m) (by simp; omega) (by simp; omega)
    subst h2
    simp only [Op.eqFields, h1, ne_eq, not_false_eq_true, if_true, Sem.run_bind, p1, p2, p3, Result.andThen_ok]
    have hd := drop_eq (a := a) (b := b) (off := f.offset) (m := m) (by omega) (by omega)
    by_cases hc : (a.drop f.offset).take m = (b.drop f.offset).take m
    · simp only [hc, decide_true, Bool.not_true, Bool.false_eq_true, if_false]
      rw [FlatFs.eq d w ha hb h4]
      simp [hd, hc]
    · simp [hc, hd]
theorem FlatFs.chk {P : Program} {k : Nat} (d : Nat) (e : Bool) (w : World) {a : List Int} {n : Nat} (ha : a.length = n) : ∀ {fs : List Field} {off : Nat}, FlatFs P k fs off n →
    (forIn (m := Sem) fs PUnit.unit fun f _ => if f.name ≠ "_" then do
        let p ← Go.part f.type (a.map (Value.int .i64)).toArray f.offset
        Instr.checkKey e (d + k) f.type p
        pure (ForInStep.yield PUnit.unit)
      else pure (ForInStep.yield PUnit.unit)).run P w = .ok PUnit.unit w
  | [], off, h => by simp
  | f :: fs, off, ⟨h1, h2, m, ag, h3, h4⟩ => by
    have hle := h4.le
    have p1 := h3.part (l := a) (off := off) (by omega) w
    have p3 := h3.chk d e w ((a.drop off).take m) (by simp; omega)
    subst h2
    have ih := FlatFs.chk d e w ha h4
    simp only [List.forIn_cons, h1, ne_eq, not_false_eq_true, if_true, Sem.run_bind, p1, p3, Result.andThen_ok, Sem.run_pure]
    exact ih
theorem FlatT.struct {P : Program} {T : TypeId} {fs : List Field} {n k : Nat} (hT : P.underlying T = some (.struct fs.toArray)) (hs : P.stoodInHeld T = false) (hg : TyG P T n) (hf : FlatFs P k fs 0 n) : FlatT P T n (k + 1) true where
  len := fun h => by cases h
  ia := hg.ag
  sz := hg.sz
  eq := fun d w a b ha hb => by
    have hfo : P.fieldsOf T = fs.toArray := by simp [Program.fieldsOf, hT]
    show (Op.equalIn ((d + k) + 1) T (.agg _) (.agg _)).run P w = _
    rw [run_equalIn_struct w (d + k) T _ _ (by rw [hfo]; exact hT) hs, hfo]
    have := FlatFs.eq d w ha hb hf
    simpa using this
  chk := fun d e w a ha => by
    have := FlatFs.chk d e w ha hf
    show (Instr.checkKey e ((d + k) + 1) T (.agg _)).run P w = _
    rw [Instr.checkKey]
    simp only [Sem.run_bind, run_underlying hT, Result.andThen_ok]
    rw [← Array.forIn_toList]
    simp only [this, Result.andThen_ok, Sem.run_pure]
theorem FlatT.up {P : Program} {T : TypeId} {n k : Nat} {ag : Bool} (h : FlatT P T n k ag) : FlatT P T n (k + 1) ag where
  len := h.len
  ia := h.ia
  sz := h.sz
  eq := fun d w a b ha hb => by have := h.eq (d + 1) w a b ha hb; rw [show d + 1 + k = d + (k + 1) by omega] at this; exact this
  chk := fun d e w a ha => by have := h.chk (d + 1) e w a ha; rw [show d + 1 + k = d + (k + 1) by omega] at this; exact this
theorem run_equalIn_array {P : Program} {t e : TypeId} {n c : Nat} (hT : P.underlying t = some (.array n e)) (hc : ∀ w, (sizeOf e).run P w = .ok c w) (d : Nat) (xs ys : Array Value) (w : World) : (Op.equalIn (d + 1) t (.agg xs) (.agg ys)).run P w = (Op.eqItems d e c xs ys (List.range n)).run P w := by
  simp only [Op.equalIn, Sem.run_bind, run_underlying hT, Result.andThen_ok, hc]
  simp only [Std.Legacy.Range.forIn_eq_forIn_range', Std.Legacy.Range.size, Nat.sub_zero, Nat.add_one_sub_one, Nat.div_one]
  rw [List.range_eq_range']
  generalize List.range' 0 n = is
  induction is generalizing w with
  | nil => simp [Op.eqItems]
  | cons i is ih =>
    simp only [List.forIn_cons, Op.eqItems, Sem.run_bind]
    generalize (Go.part e xs (i * c)).run P w = r1
    cases r1 with
    | ok a w1 =>
      simp only [Result.andThen_ok]
      generalize (Go.part e ys (i * c)).run P w1 = r2
      cases r2 with
      | ok b w2 =>
        simp only [Result.andThen_ok]
        generalize (Op.equalIn d e a b).run P w2 = r3
        cases r3 with
        | ok r w3 =>
          cases r
          · simp
          · simp only [Result.andThen_ok, Bool.not_true, Bool.false_eq_true, if_false, Sem.run_pure]
            exact ih w3
        | halt x w3 => simp [Result.andThen]
      | halt x w2 => simp [Result.andThen]
    | halt x w1 => simp [Result.andThen]
theorem FlatT.array {P : Program} {T e : TypeId} {n k : Nat} (hT : P.underlying T = some (.array n e)) (hg : TyG P T n) (he : FlatT P e 1 k false) : FlatT P T n (k + 1) true where
  len := fun h => by cases h
  ia := hg.ag
  sz := hg.sz
  eq := fun d w a b ha hb => by
    show (Op.equalIn ((d + k) + 1) T (.agg _) (.agg _)).run P w = _
    rw [run_equalIn_array hT he.sz]
    have key : ∀ (m off : Nat), off + m = n → (Op.eqItems (d + k) e 1 (a.map (Value.int .i64)).toArray (b.map (Value.int .i64)).toArray (List.range' off m)).run P w = .ok (decide (a.drop off = b.drop off)) w := by
      intro m
      induction m with
      | zero =>
        intro off h
        rw [List.drop_of_length_le (by omega), List.drop_of_length_le (by omega)]
        simp [Op.eqItems]
      | succ m ih =>
        intro off h
        have p1 := he.part (l := a) (off := off) (by omega) w
        have p2 := he.part (l := b) (off := off) (by omega) w
        have p3 := he.eq d w ((a.drop off).take 1) ((b.drop off).take 1) (by simp; omega) (by simp; omega)
        simp only [List.range'_succ, Op.eqItems, Nat.mul_one, Sem.run_bind, p1, p2, p3, Result.andThen_ok]
        have hd := drop_eq (a := a) (b := b) (off := off) (m := 1) (by omega) (by omega)
        by_cases hc : (a.drop off).take 1 = (b.drop off).take 1
        · simp only [hc, decide_true, Bool.not_true, Bool.false_eq_true, if_false]
          rw [ih (off + 1) (by omega)]
          simp [hd, hc]
        · simp [hc, hd]
    have := key n 0 (by omega)
    rw [List.range_eq_range']
    simpa using this
  chk := fun d e' w a ha => by
    show (Instr.checkKey e' ((d + k) + 1) T (.agg _)).run P w = _
    rw [Instr.checkKey]
    simp only [Sem.run_bind, run_underlying hT, Result.andThen_ok]
    simp only [Std.Legacy.Range.forIn_eq_forIn_range', Std.Legacy.Range.size, Nat.sub_zero, Nat.add_one_sub_one, Nat.div_one]
    have key : ∀ (m off : Nat), off + m ≤ n → (forIn (m := Sem) (List.range' off m) PUnit.unit fun i _ => do
        Instr.checkKey e' (d + k) e (← Go.part e (a.map (Value.int .i64)).toArray (i * (← sizeOf e)))
        pure (ForInStep.yield PUnit.unit)).run P w = .ok PUnit.unit w := by
      intro m
      induction m with
      | zero => intro off h; simp
      | succ m ih =>
        intro off h
        have p1 := he.part (l := a) (off := off) (by omega) w
        have p3 := he.chk d e' w ((a.drop off).take 1) (by simp; omega)
        simp only [List.range'_succ, List.forIn_cons, Sem.run_bind, he.sz, Result.andThen_ok, Nat.mul_one, p1, p3, Sem.run_pure]
        exact ih (off + 1) (by omega)
    have hk := key n 0 (by omega)
    simp only [hk, Result.andThen_ok, Sem.run_pure]
section ops
variable {cx : Cx} {S : St} {dst : Option Tmp} {ty : TypeId} {pos : String} {af : Array Edge} {gd : Option (Nat × Bool)}
theorem vl_den {ε : Env} (l : List Int) : (SV.e (.g (l.map ai))).den ε = vl true l := by
  simp only [SV.den, El.den, vl, cond_true, List.map_map]; rfl
theorem o_eqs {x y : Operand} {t t' : TypeId} {n k : Nat} {a b : List Int} (hT : FlatT cx.P t n k true) (hk : Nat.ble k 10000 = true) (hg : cx.P.eqGuardType cx.P.depth t = false) (hx : S.op x = some (.e (.g (a.map ai)))) (hy : S.op y = some (.e (.g (b.map ai)))) (ha : a.length = n) (hb : b.length = n) :
    OpG cx S ⟨dst, .binOp .eql t x y t', ty, pos, af, gd⟩ (.val (.b (decide (a = b)))) :=
  OpG.pure (fun _ => by simp) fun M ε I ac w hs => ⟨trivial, by
    have h1 := hs.eval hx; have h2 := hs.eval hy
    rw [vl_den] at h1 h2
    have h3 := hT.eq (10000 - k) w a b ha hb
    rw [show 10000 - k + k = 10000 from by have := Nat.le_of_ble_eq_true hk; omega] at h3
    simp only [vl, cond_true] at h1 h2 h3
    have hr : (do eqGuard .eql t x y (.agg (a.map (Value.int .i64)).toArray) (.agg (b.map (Value.int .i64)).toArray); binOp .eql t (.agg (a.map (Value.int .i64)).toArray) (.agg (b.map (Value.int .i64)).toArray) : Sem Value).run cx.P w = .ok (.bool (decide (a = b))) w := by
      rw [Sem.run_bind, run_eqGuard_agg w _ _ _ _ _ _ hg, Result.andThen_ok, run_eql_struct, h3]
      simp [Result.andThen]
    simp only [execOp, h1, h2]
    rw [Sem.run_bind, hr]
    rfl⟩
theorem o_nes {x y : Operand} {t t' : TypeId} {n k : Nat} {a b : List Int} (hT : FlatT cx.P t n k true) (hk : Nat.ble k 10000 = true) (hg : cx.P.eqGuardType cx.P.depth t = false) (hx : S.op x = some (.e (.g (a.map ai)))) (hy : S.op y = some (.e (.g (b.map ai)))) (ha : a.length = n) (hb : b.length = n) :
    OpG cx S ⟨dst, .binOp .neq t x y t', ty, pos, af, gd⟩ (.val (.b (decide (a ≠ b)))) :=
  OpG.pure (fun _ => by simp) fun M ε I ac w hs => ⟨trivial, by
    have h1 := hs.eval hx; have h2 := hs.eval hy
    rw [vl_den] at h1 h2
    have h3 := hT.eq (10000 - k) w a b ha hb
    rw [show 10000 - k + k = 10000 from by have := Nat.le_of_ble_eq_true hk; omega] at h3
    simp only [vl, cond_true] at h1 h2 h3
    have hr : (do eqGuard .neq t x y (.agg (a.map (Value.int .i64)).toArray) (.agg (b.map (Value.int .i64)).toArray); binOp .neq t (.agg (a.map (Value.int .i64)).toArray) (.agg (b.map (Value.int .i64)).toArray) : Sem Value).run cx.P w = .ok (.bool (decide (a ≠ b))) w := by
      rw [Sem.run_bind, run_eqGuard_agg w _ _ _ _ _ _ hg, Result.andThen_ok, run_neq_struct, h3]
      simp [Result.andThen]
    simp only [execOp, h1, h2]
    rw [Sem.run_bind, hr]
    rfl⟩
theorem run_eqfn {P : Program} {t : TypeId} {s : Array TypeId} {r : Array TypeId} {v : Bool} (hT : P.underlying t = some (.func s r v)) (fn : Fn) (fs cs : Array Value) (w : World) : (Op.equal t (.func fn fs cs) .nilFunc).run P w = .ok false w := by
  show (Op.equalIn (Op.maxDepth - 1 + 1) t (.func fn fs cs) .nilFunc).run P w = _
  simp [Op.equalIn, run_underlying hT]
theorem run_eqnil {P : Program} {t : TypeId} {s : Array TypeId} {r : Array TypeId} {v : Bool} (hT : P.underlying t = some (.func s r v)) (w : World) : (Op.equal t .nilFunc .nilFunc).run P w = .ok true w := by
  show (Op.equalIn (Op.maxDepth - 1 + 1) t .nilFunc .nilFunc).run P w = _
  simp [Op.equalIn, run_underlying hT]
theorem o_nefn {x : Operand} {t t' : TypeId} {s : Array TypeId} {r : Array TypeId} {v : Bool} {j : Nat} (hT : cx.P.underlying t = some (.func s r v)) (hx : S.op x = some (.e (.a (.q j)))) (hj : Has S.X j Pred.fn) : OpG cx S ⟨dst, .binOp .neq t x (.const .nilFunc) t', ty, pos, af, gd⟩ (.val (.b true)) :=
  OpG.pure (fun _ => by simp) fun M ε I ac w hs => ⟨trivial, by
    have h1 := hs.eval hx
    obtain ⟨fn, fs, cs, h2⟩ := hs.has hj
    simp only [SV.den, El.den, At.den, h2] at h1
    have h3 : ac.eval (.const .nilFunc) = .nilFunc := rfl
    have := run_eqfn hT fn fs cs w
    simp [execOp, h1, h3, eqGuard, binOp, SV.den, El.den, At.den, this]⟩
theorem o_nenil {x : Operand} {t t' : TypeId} {s : Array TypeId} {r : Array TypeId} {v : Bool} (hT : cx.P.underlying t = some (.func s r v)) (hx : S.op x = some (.e (.a (.v .nilFunc)))) : OpG cx S ⟨dst, .binOp .neq t x (.const .nilFunc) t', ty, pos, af, gd⟩ (.val (.b false)) :=
  OpG.pure (fun _ => by simp) fun M ε I ac w hs => ⟨trivial, by
    have h1 := hs.eval hx
    simp only [SV.den, El.den, At.den] at h1
    have h3 : ac.eval (.const .nilFunc) = .nilFunc := rfl
    have := run_eqnil hT w
    simp [execOp, h1, h3, eqGuard, binOp, SV.den, El.den, At.den, this]⟩
theorem o_pickT {c x y : Operand} {sv : SV} (hc : S.op c = some (.b true)) (hx : S.op x = some sv) : OpG cx S ⟨dst, .pick c x y, ty, pos, af, gd⟩ (.val sv) :=
  o_pick hc fun M ε I a w hs => ⟨hs.on hx, by simp [hs.eval hx]⟩
theorem o_pickF {c x y : Operand} {sv : SV} (hc : S.op c = some (.b false)) (hy : S.op y = some sv) : OpG cx S ⟨dst, .pick c x y, ty, pos, af, gd⟩ (.val sv) :=
  o_pick hc fun M ε I a w hs => ⟨hs.on hy, by simp [hs.eval hy]⟩
end ops
section
variable {cx : Cx} {n : Nat} {fr : List (Nat × SV)} {X : List (Nat × Pred)} {L : List (Nat × Ent)} {D : List Nat} {G : List (Nat × Bool)}
theorem Imp.bitF (d : Nat) {b b' : Bool} (hd : look d fr = some (.b b)) (hb : b = b') : Imp cx ⟨n, fr, X, L, D, G⟩ ⟨n, (d, .b b') :: fr, X, L, D, G⟩ := fun ε I a w hs => by
  subst hb
  refine ⟨ε, I, SatM.le (S := ⟨n, fr, X, L, D, G⟩) ⟨fun i x hx => ?_, fun _ _ h => h, fun _ _ h => h, rfl, fun _ _ h => h⟩ hs⟩
  have hx : look i ((d, SV.b b) :: fr) = some x := hx
  show look i fr = some x
  rw [look_cons] at hx
  by_cases hi : d = i
  · subst hi; simp at hx; subst hx; exact hd
  · simp [hi] at hx; exact hx
theorem Imp.ext (k : Nat) {x y : XP} (hk : look k L = some (.ext x)) (hF : x.F = y.F) (hn : y.n1 = 0) (hR : ∀ b, ¬ y.Rd b) (h : ∀ I w, x.J I w → y.J I w) : Imp cx ⟨n, fr, X, L, D, G⟩ ⟨n, fr, X, (k, .ext y) :: L, D, G⟩ := fun ε I a w hs => by
  have hlk : ∀ i e, look i ((k, Ent.ext y) :: L) = some e → (i = k ∧ e = .ext y) ∨ (i ≠ k ∧ look i L = some e) := by
    intro i e he
    rw [look_cons] at he
    by_cases hi : k = i
    · subst hi; simp at he; exact .inl ⟨rfl, he.symm⟩
    · simp [hi] at he; exact .inr ⟨fun h => hi h.symm, he⟩
  have hft : ∀ i e, look i ((k, Ent.ext y) :: L) = some e → ∃ e', look i L = some e' ∧ ∀ b, e.foot ε i b → e'.foot ε i b := fun i e he => by
    rcases hlk i e he with ⟨rfl, rfl⟩ | ⟨_, he⟩
    · exact ⟨_, hk, fun b h => by show x.F b; rw [hF]; exact h⟩
    · exact ⟨_, he, fun b h => h⟩
  refine ⟨ε, I, { hs with wfL := fun i e he => ?_, L := fun i e he => ?_, foot := fun i e he b hfb => ?_, sep := fun i i' e e' b he he' hne h1 h2 => ?_, ext := fun i z hz => ?_ }⟩
  · rcases hlk i e he with ⟨rfl, rfl⟩ | ⟨_, he⟩
    · exact ⟨(hs.wfL i _ hk).1, trivial⟩
    · exact hs.wfL i e he
  · rcases hlk i e he with ⟨rfl, rfl⟩ | ⟨_, he⟩
    · exact h I w (hs.L i _ hk)
    · exact hs.L i e he
  · obtain ⟨e', h1, h2⟩ := hft i e he; exact hs.foot i e' h1 b (h2 b hfb)
  · obtain ⟨e1, h3, h4⟩ := hft i e he
    obtain ⟨e2, h5, h6⟩ := hft i' e' he'
    exact hs.sep i i' e1 e2 b h3 h5 hne (h4 b h1) (h6 b h2)
  · rcases hlk i _ hz with ⟨_, h'⟩ | ⟨_, h'⟩
    · cases h'; exact ⟨by rw [hn]; exact Nat.zero_le _, fun b hb => absurd hb (hR b)⟩
    · exact hs.ext i z h'
end
abbrev MapL := List (List Int × Int)
def mget : MapL → List Int → Option Int
  | [], _ => none
  | (k, v) :: t, k' => if k = k' then some v else mget t k'
def mset : MapL → List Int → Int → MapL
  | [], k, v => [(k, v)]
  | (k, u) :: t, k', v => if k = k' then (k, v) :: t else (k, u) :: mset t k' v
theorem mget_mset (l : MapL) (k k' : List Int) (v : Int) : mget (mset l k v) k' = if k = k' then some v else mget l k' := by
  induction l with
  | nil => rfl
  | cons p t ih =>
    obtain ⟨i, u⟩ := p
    simp only [mset]
    by_cases h1 : i = k
    · subst h1
      simp only [if_true, mget]
      by_cases h2 : i = k' <;> simp [h2]
    · simp only [h1, if_false, mget, ih]
      by_cases h2 : i = k'
      · subst h2
        have : ¬ k = i := fun h => h1 h.symm
        simp [this]
      · simp [h2]
def MapHas (ag : Bool) (n : Nat) (es : List MapEntry) (l : MapL) : Prop := es.map (fun e => (e.key, e.val)) = l.map (fun p => (vl ag p.1, Value.int .i64 p.2)) ∧ ∀ p ∈ l, p.1.length = n
def mapXP (ag : Bool) (n b : Nat) (l : MapL) : XP := ⟨0, fun _ => False, fun c => c = b, fun _ w => ∃ es clk, w.heap[b]? = some (.map es clk) ∧ MapHas ag n es.toList l, fun h ⟨es, clk, h1, h2⟩ => by
  have hlt := (Array.getElem?_eq_some_iff.1 h1).1
  exact ⟨es, clk, by rw [h.block b hlt (.inr rfl)]; exact h1, h2⟩⟩
def memoXP (ag : Bool) (n b : Nat) (K : List Int → Int → Prop) : XP := ⟨0, fun _ => False, fun c => c = b, fun I w => ∃ l : MapL, (∀ p ∈ l, K p.1 p.2) ∧ (mapXP ag n b l).J I w, fun h ⟨l, h1, h2⟩ => ⟨l, h1, (mapXP ag n b l).st ⟨h.le, h.on, h.os, h.tape, h.output, h.size, fun c hc hn => h.block c hc (by
      rcases hn with hn | hn
      · exact hn.elim
      · exact .inr hn), fun c o hc => by
      rcases h.fresh c o hc with h3 | h3
      · exact .inl h3
      · exact .inr h3⟩ h2⟩⟩
theorem memoXP.plain {ag : Bool} {n b : Nat} {K : List Int → Int → Prop} : (memoXP ag n b K).plain := ⟨rfl, fun _ h => h⟩
theorem mapXP.plain {ag : Bool} {n b : Nat} {l : MapL} : (mapXP ag n b l).plain := ⟨rfl, fun _ h => h⟩
theorem mset_all {K : List Int → Int → Prop} {l : MapL} {k : List Int} {v : Int} (h : ∀ p ∈ l, K p.1 p.2) (hk : K k v) : ∀ p ∈ mset l k v, K p.1 p.2 := by
  induction l with
  | nil => intro p hp; simp [mset] at hp; subst hp; exact hk
  | cons q t ih =>
    obtain ⟨i, u⟩ := q
    intro p hp
    simp only [mset] at hp
    by_cases h1 : i = k
    · subst h1
      simp only [if_true] at hp
      rcases List.mem_cons.1 hp with rfl | hp
      · exact hk
      · exact h p (List.mem_cons_of_mem _ hp)
    · simp only [h1, if_false] at hp
      rcases List.mem_cons.1 hp with rfl | hp
      · exact h _ List.mem_cons_self
      · exact ih (fun p hp => h p (List.mem_cons_of_mem _ hp)) p hp
structure MapT (P : Program) (T : TypeId) (n k : Nat) (ag : Bool) : Prop where
  u : ∃ kt e, P.underlying T = some (.map kt e) ∧ FlatT P kt n k ag ∧ (∀ w, (zeroValue e).run P w = .ok (.int .i64 0) w) ∧
    ∀ (w : World) (a : List Int) (es : List MapEntry) (l : MapL), a.length = n → MapHas ag n es l → ∃ r, (Instr.findKey kt (vl ag a) es).run P w = .ok r w ∧ ((r = none ∧ mget l a = none) ∨ ∃ i e v, r = some (i, .int .i64 v) ∧ es[i]? = some e ∧ e.key = vl ag a ∧ mget l a = some v ∧ ∀ u : Value, ∀ x : Int, u = .int .i64 x → (es.modify i fun e => { e with key := vl ag a, val := u }).map (fun e => (e.key, e.val)) = (mset l a x).map (fun p => (vl ag p.1, Value.int .i64 p.2)))
  k : Nat.ble k 10000 = true
theorem find_asking {P : Program} {kt : TypeId} {n k : Nat} {ag : Bool} (hT : FlatT P kt n k ag) (hk : Nat.ble k 10000 = true) (w : World) {a : List Int} (ha : a.length = n) : ∀ (es : List MapEntry) (l : MapL) (j : Nat), MapHas ag n es l →
    ∃ r, (Instr.findAsking kt (vl ag a) es j).run P w = .ok r w ∧ ((r = none ∧ mget l a = none) ∨ ∃ i e v, r = some (j + i, .int .i64 v) ∧ es[i]? = some e ∧ e.key = vl ag a ∧ mget l a = some v ∧ ∀ u : Value, ∀ x : Int, u = .int .i64 x → (es.modify i fun e => { e with key := vl ag a, val := u }).map (fun e => (e.key, e.val)) = (mset l a x).map (fun p => (vl ag p.1, Value.int .i64 p.2)))
  | [], l, j, h => by
    have : l = [] := by
      have := congrArg List.length h.1
      simp at this
      exact List.length_eq_zero_iff.1 this.symm
    subst this
    exact ⟨none, by simp [Instr.findAsking], .inl ⟨rfl, rfl⟩⟩
  | e :: es, [], j, h => by have := congrArg List.length h.1; simp at this
  | e :: es, (i0, v0) :: l, j, h => by
    obtain ⟨h1, h2⟩ := h
    simp only [List.map_cons, List.cons.injEq, Prod.mk.injEq] at h1
    obtain ⟨⟨h3, h4⟩, h5⟩ := h1
    have hi0 : i0.length = n := h2 _ List.mem_cons_self
    have heq := hT.eq (10000 - k) w a i0 ha hi0
    rw [show 10000 - k + k = 10000 from by have := Nat.le_of_ble_eq_true hk; omega] at heq
    have heq' : (Op.equal kt (vl ag a) e.key).run P w = .ok (decide (a = i0)) w := by rw [h3]; exact heq
    by_cases hc : a = i0
    · subst hc
      refine ⟨some (j, e.val), by simp [Instr.findAsking, heq'], .inr ⟨0, e, v0, by rw [h4]; rfl, rfl, h3, by simp [mget], fun u x hu => ?_⟩⟩
      subst hu
      simp [mset, h5]
    · obtain ⟨r, hr, hr2⟩ := find_asking hT hk w ha es l (j + 1) ⟨h5, fun p hp => h2 p (List.mem_cons_of_mem _ hp)⟩
      have hne : ¬ i0 = a := fun h => hc h.symm
      refine ⟨r, by simp [Instr.findAsking, heq', hc, hr], ?_⟩
      rcases hr2 with ⟨h6, h7⟩ | ⟨i, e', v, h6, h7, h8, h9, h10⟩
      · exact .inl ⟨h6, by simp [mget, hne, h7]⟩
      · refine .inr ⟨i + 1, e', v, by rw [h6]; congr 2; omega, by simpa using h7, h8, by simp [mget, hne, h9], fun u x hu => ?_⟩
        have := h10 u x hu
        simp only [List.modify_succ_cons, List.map_cons, mset, hne, if_false]
        rw [this, h3, h4]
theorem MapT.struct {P : Program} {T kt e : TypeId} {n k : Nat} (hT : P.underlying T = some (.map kt e)) (hs : (match P.underlying kt with | some (.array _ _) | some (.struct _) => true | _ => false) = true) (hf : FlatT P kt n k true) (hk : Nat.ble k 10000 = true) (hz : ∀ w, (zeroValue e).run P w = .ok (.int .i64 0) w) : MapT P T n k true :=
  ⟨⟨kt, e, hT, hf, hz, fun w a es l ha h => by
    rw [run_findKey_eq w hs]
    obtain ⟨r, h1, h2⟩ := find_asking hf hk w ha es l 0 h
    refine ⟨r, h1, ?_⟩
    rcases h2 with h2 | ⟨i, e', v, h3, h4⟩
    · exact .inl h2
    · exact .inr ⟨i, e', v, by rw [h3]; simp, h4⟩⟩, hk⟩
theorem find_now {q : IntKind} {a : List Int} (ha : a.length = 1) : ∀ (es : List MapEntry) (l : MapL) (j : Nat), MapHas false 1 es l →
    ∃ r, Instr.findNow (.int q) (vl false a) es j = some r ∧ ((r = none ∧ mget l a = none) ∨ ∃ i e v, r = some (j + i, .int .i64 v) ∧ es[i]? = some e ∧ e.key = vl false a ∧ mget l a = some v ∧ ∀ u : Value, ∀ x : Int, u = .int .i64 x → (es.modify i fun e => { e with key := vl false a, val := u }).map (fun e => (e.key, e.val)) = (mset l a x).map (fun p => (vl false p.1, Value.int .i64 p.2)))
  | [], l, j, h => by
    have : l = [] := by
      have := congrArg List.length h.1
      simp at this
      exact List.length_eq_zero_iff.1 this.symm
    subst this
    exact ⟨none, by simp [Instr.findNow], .inl ⟨rfl, rfl⟩⟩
  | e :: es, [], j, h => by have := congrArg List.length h.1; simp at this
  | e :: es, (i0, v0) :: l, j, h => by
    obtain ⟨h1, h2⟩ := h
    simp only [List.map_cons, List.cons.injEq, Prod.mk.injEq] at h1
    obtain ⟨⟨h3, h4⟩, h5⟩ := h1
    have hi0 : i0.length = 1 := h2 _ List.mem_cons_self
    have hsn : Instr.sameNow (.int q) (vl false a) e.key = some (decide (a = i0)) := by
      rw [h3]
      match a, ha, i0, hi0 with
      | [x], _, [y], _ => simp [vl, Instr.sameNow]; rfl
    by_cases hc : a = i0
    · subst hc
      refine ⟨some (j, e.val), by simp [Instr.findNow, hsn], .inr ⟨0, e, v0, by rw [h4]; rfl, rfl, h3, by simp [mget], fun u x hu => ?_⟩⟩
      subst hu
      simp [mset, h5]
    · obtain ⟨r, hr, hr2⟩ := find_now (q := q) ha es l (j + 1) ⟨h5, fun p hp => h2 p (List.mem_cons_of_mem _ hp)⟩
      have hne : ¬ i0 = a := fun h => hc h.symm
      refine ⟨r, by simp [Instr.findNow, hsn, hc, hr], ?_⟩
      rcases hr2 with ⟨h6, h7⟩ | ⟨i, e', v, h6, h7, h8, h9, h10⟩
      · exact .inl ⟨h6, by simp [mget, hne, h7]⟩
      · refine .inr ⟨i + 1, e', v, by rw [h6]; congr 2; omega, by simpa using h7, h8, by simp [mget, hne, h9], fun u x hu => ?_⟩
        have := h10 u x hu
        simp only [List.modify_succ_cons, List.map_cons, mset, hne, if_false]
        rw [this, h3, h4]
theorem MapT.int {P : Program} {T kt e : TypeId} {q : IntKind} (hT : P.underlying T = some (.map kt e)) (hk : P.underlying kt = some (.int q)) (hs : TyS P kt) (hz : ∀ w, (zeroValue e).run P w = .ok (.int .i64 0) w) : MapT P T 1 1 false :=
  ⟨⟨kt, e, hT, FlatT.int hk hs, hz, fun w a es l ha h => by
    obtain ⟨r, h1, h2⟩ := find_now (q := q) ha es l 0 h
    refine ⟨r, MapKept.run_findKey hk h1, ?_⟩
    rcases h2 with h2 | ⟨i, e', v, h3, h4⟩
    · exact .inl h2
    · exact .inr ⟨i, e', v, by rw [h3]; simp, h4⟩⟩, rfl⟩
theorem sameBits_vl (ag : Bool) (a : List Int) : Instr.sameBits 10000 (vl ag a) (vl ag a) = true := by
  cases ag with
  | false => simp [vl, Instr.sameBits]
  | true =>
    have h : ∀ l : List Int, ((l.map (Value.int .i64)).zip (l.map (Value.int .i64))).all (fun (p : Value × Value) => Instr.sameBits 9999 p.1 p.2) = true := by
      intro l
      induction l with
      | nil => rfl
      | cons x t ih => simp [Instr.sameBits, ih]
    have := h a
    simp only [vl, cond_true, Instr.sameBits, BEq.rfl, Bool.true_and, List.toList_toArray]
    exact this
section ops
variable {cx : Cx} {S : St} {dst : Option Tmp} {ty : TypeId} {pos : String} {af : Array Edge} {gd : Option (Nat × Bool)}
def isKey (ag : Bool) (a : List Int) : SV → Prop := fun x => ∀ ε : Env, x.den ε = vl ag a
theorem isKey.g {a : List Int} : isKey true a (.e (.g (a.map ai))) := fun ε => vl_den a
theorem isKey.i {n : Int} : isKey false [n] (.i n) := fun ε => rfl
theorem run_lookup {P : Program} {T : TypeId} {n k : Nat} {ag : Bool} (hT : MapT P T n k ag) {w : World} {b : Nat} {es : Array MapEntry} {clk : Nat} {l : MapL} (hb : w.heap[b]? = some (.map es clk)) (hm : MapHas ag n es.toList l) {a : List Int} (ha : a.length = n) (c : Bool) :
    (Instr.lookup T (.map (some b)) (vl ag a) c).run P w = .ok (if c then .tuple #[.int .i64 ((mget l a).getD 0), .bool (mget l a).isSome] else .int .i64 ((mget l a).getD 0)) w := by
  obtain ⟨⟨kt, e, h1, h2, h3, h4⟩, h5⟩ := hT
  have hgo : (getObj b).run P w = .ok (.map es clk) w := by simp [getObj, Sem.run, hb]
  have hso : ∀ o, (setObj b o).run P w = .ok () { w with heap := w.heap.setIfInBounds b o } := fun o => by simp [setObj, Sem.run, hb]
  obtain ⟨r, h6, h7⟩ := h4 w a es.toList l ha hm
  have hc := h2.chk (10000 - k) es.isEmpty w a ha
  rw [show 10000 - k + k = 10000 from by have := Nat.le_of_ble_eq_true h5; omega] at hc
  rcases h7 with ⟨rfl, h8⟩ | ⟨i, e', v, rfl, _, _, h8, _⟩
  · cases c <;> simp [Instr.lookup, run_underlying h1, hgo, hc, h6, h3, h8]
  · cases c <;> simp [Instr.lookup, run_underlying h1, hgo, hc, h6, h8]
theorem o_look {m x : Operand} {T : TypeId} {n k b km : Nat} {ag : Bool} {l : MapL} {a : List Int} {sv : SV} (hT : MapT cx.P T n k ag) (hm : S.op m = some (.e (.a (.v (.map (some b)))))) (hx : S.op x = some sv) (hkey : isKey ag a sv) (hk : look km S.L = some (.ext (mapXP ag n b l))) (ha : a.length = n) :
    OpG cx S ⟨dst, .lookup T m x false, ty, pos, af, gd⟩ (.val (.i ((mget l a).getD 0))) :=
  OpG.pure (fun _ => by simp) fun M ε I ac w hs => ⟨trivial, by
    have h1 := hs.eval hm; have h2 := hs.eval hx
    rw [hkey ε] at h2
    simp only [SV.den, El.den, At.den] at h1
    obtain ⟨es, clk, h3, h4⟩ := hs.L km _ hk
    have := run_lookup hT h3 h4 ha false
    simp [execOp, h1, h2, this, SV.den, El.den, At.den]⟩
theorem run_update {P : Program} {T : TypeId} {n k : Nat} {ag : Bool} (hT : MapT P T n k ag) {w : World} {b : Nat} {es : Array MapEntry} {clk : Nat} {l : MapL} (hb : w.heap[b]? = some (.map es clk)) (hm : MapHas ag n es.toList l) {a : List Int} (ha : a.length = n) (x : Int) :
    ∃ es' clk', (Instr.mapUpdate T (.map (some b)) (vl ag a) (.int .i64 x)).run P w = .ok () { w with heap := w.heap.setIfInBounds b (.map es' clk') } ∧ MapHas ag n es'.toList (mset l a x) := by
  obtain ⟨⟨kt, e, h1, h2, h3, h4⟩, h5⟩ := hT
  have hgo : (getObj b).run P w = .ok (.map es clk) w := by simp [getObj, Sem.run, hb]
  have hso : ∀ o, (setObj b o).run P w = .ok () { w with heap := w.heap.setIfInBounds b o } := fun o => by simp [setObj, Sem.run, hb]
  obtain ⟨r, h6, h7⟩ := h4 w a es.toList l ha hm
  have hc := h2.chk (10000 - k) false w a ha
  rw [show 10000 - k + k = 10000 from by have := Nat.le_of_ble_eq_true h5; omega] at hc
  have hall : ∀ p ∈ mset l a x, p.1.length = n := mset_all (K := fun i _ => i.length = n) hm.2 ha
  rcases h7 with ⟨rfl, h8⟩ | ⟨i, e', v, rfl, h9, h10, h8, h11⟩
  · refine ⟨es.push { key := vl ag a, val := .int .i64 x, born := clk }, clk + 1, ?_, ?_, hall⟩
    · simp [Instr.mapUpdate, run_underlying h1, hgo, hc, h6, hso]
    · rw [Array.toList_push, List.map_append, hm.1]
      have : ∀ l : MapL, mget l a = none → mset l a x = l ++ [(a, x)] := by
        intro l
        induction l with
        | nil => intro _; rfl
        | cons p t ih =>
          obtain ⟨i, u⟩ := p
          intro h
          simp only [mget] at h
          by_cases hi : i = a
          · simp [hi] at h
          · simp only [hi, if_false] at h
            simp [mset, hi, ih h]
      rw [this l h8]; simp
  · have hstay : (Instr.keyThatStays ((Option.map (fun x => x.key) es[i]?).getD (vl ag a)) (vl ag a)).run P w = .ok (vl ag a) w := by
      have h12 : es[i]? = some e' := by rw [← Array.getElem?_toList]; exact h9
      rw [h12]
      simp only [Option.map_some, Option.getD_some, h10, Instr.keyThatStays, sameBits_vl, if_true, Sem.run_pure]
    refine ⟨es.modify i fun e => { e with key := vl ag a, val := .int .i64 x }, clk, ?_, ?_, hall⟩
    · simp [Instr.mapUpdate, run_underlying h1, hgo, hc, h6, hstay, hso]
    · rw [Array.toList_modify]; exact h11 _ x rfl
theorem o_mapup {m x y : Operand} {T : TypeId} {n k b km : Nat} {ag : Bool} {l : MapL} {a : List Int} {v : Int} {sv : SV} (hT : MapT cx.P T n k ag) (hm : S.op m = some (.e (.a (.v (.map (some b)))))) (hx : S.op x = some sv) (hkey : isKey ag a sv) (hy : S.op y = some (.i v)) (hk : look km S.L = some (.ext (mapXP ag n b l))) (ha : a.length = n) :
    OpG cx S ⟨none, .mapUpdate T m x y, ty, pos, af, gd⟩ ⟨.e (.a (.v undef)), [], [], [(km, .ext (mapXP ag n b (mset l a v)))], []⟩ := by
  intro M ε I ac w next Q hs hN K
  have h1 := hs.eval hm; have h2 := hs.eval hx; have h2' := hs.eval hy
  rw [hkey ε] at h2
  simp only [SV.den, El.den, At.den] at h1 h2'
  obtain ⟨es, clk, h3, h4⟩ := hs.L km _ hk
  obtain ⟨es', clk', h5, h6⟩ := run_update hT h3 h4 ha v
  have hft := hs.foot km _ hk b rfl
  have hfp : fpOf S ε ⟨.e (.a (.v undef)), [], [], [(km, .ext (mapXP ag n b (mset l a v)))], []⟩ b := ⟨km, _, by simp [look], hk, rfl⟩
  have hlt := (Array.getElem?_eq_some_iff.1 h3).1
  have hoth : ∀ c, c ≠ b → ({ w with heap := w.heap.setIfInBounds b (.map es' clk') } : World).heap[c]? = w.heap[c]? := fun c hc => by
    simp [Array.getElem?_setIfInBounds_ne (Ne.symm hc)]
  refine ⟨fun _ _ => trivial, ?_⟩
  have hrun : (execOp ac.eval ⟨none, .mapUpdate T m x y, ty, pos, af, gd⟩).run cx.P w = .ok .skip { w with heap := w.heap.setIfInBounds b (.map es' clk') } := by
    simp [execOp, h1, h2, h2', h5]
  rw [semAt_eq _ _ _ (fun _ => by simp), hrun]
  refine K ε I _ ⟨fun _ _ => ⟨rfl, rfl, rfl⟩, IH.le.rfl', fun c o hc => ?_, rfl, rfl, rfl, by simp, fun c _ hn => hoth c (fun e => hn (e ▸ hfp)), fun _ _ h => .inl h⟩
    ⟨trivial, fun _ _ h => (by cases h), fun _ _ h => (by cases h), fun i e he => by obtain ⟨rfl, rfl⟩ := look_one he; exact ⟨.inl (hs.wfL i _ hk).1, trivial⟩, fun _ _ h => (by cases h),
      fun i e he => by obtain ⟨rfl, rfl⟩ := look_one he; exact ⟨es', clk', by simp [hlt], h6⟩,
      fun i e he c hc => by
        obtain ⟨rfl, rfl⟩ := look_one he
        have hc : c = b := hc
        subst hc
        exact ⟨hft.1, by simpa using hft.2.1, hft.2.2, .inr hfp⟩,
      fun i i' e e' c he he' hne => by
        obtain ⟨rfl, _⟩ := look_one he
        obtain ⟨rfl, _⟩ := look_one he'
        exact absurd rfl hne, fun i x he => by
        obtain ⟨_, h⟩ := look_one he
        cases h
        exact ⟨Nat.zero_le _, fun _ h => h.elim⟩⟩
  rw [hoth c (fun e => by rw [e, hft.2.2] at hc; cases hc)]; exact hs.imm c o hc
end ops
section steps
variable {cx : Cx} {Q : Exit → Act → World → Prop} {ops : Array Oper} {rest : List Oper}
variable {n : Nat} {fr : List (Nat × SV)} {X : List (Nat × Pred)} {L : List (Nat × Ent)} {D : List Nat} {G : List (Nat × Bool)} {d : Tmp} {ty : TypeId} {pos : String} {af : Array Edge}
theorem WPl.mkmap (ag : Bool) (nk k m : Nat) {T : TypeId} (hk : Nat.ble n k = true) (hm : Nat.blt k m = true) (hd : Nat.blt d cx.N = true) (K : ∀ b, WPl cx ops ⟨m, (d, .e (.a (.v (.map (some b))))) :: fr, X, (k, .ext (mapXP ag nk b [])) :: L, D, G⟩ rest Q) :
    WPl cx ops ⟨n, fr, X, L, D, G⟩ (⟨some d, .makeMap T none, ty, pos, af, none⟩ :: rest) Q := by
  have hk' : n ≤ k := by simpa using hk
  rw [Nat.blt_eq] at hm hd
  intro ε I a w hs
  refine wpListIn_step fun K' hK => ?_
  simp only [Region.wanted, if_true]
  refine ⟨fun _ _ => trivial, ?_⟩
  have hrun : (execOp a.eval ⟨some d, .makeMap T none, ty, pos, af, none⟩).run cx.P w = .ok (.value (.map (some w.heap.size))) (w.alloc (.map #[] 0)) := by
    simp [execOp, Instr.makeMap, newObj, Sem.run]
  rw [semAt_eq _ _ _ (fun _ => by simp), hrun]
  refine hK _ _ (K w.heap.size ⟨Eng.upd ε.β k w.heap.size, Eng.upd ε.ν k undef, ε.γ⟩ I _ _ ?_)
  have := SatM.app (d := some d) (u := ⟨.e (.a (.v (.map (some w.heap.size)))), [k], [], [(k, .ext (mapXP ag nk w.heap.size []))], []⟩) m hs (St.le.refl _) (fun i hi hlt => by
      have hi : i ∈ [k] := hi
      rw [List.mem_singleton] at hi; subst hi
      have : i < n := hlt
      omega) (fun i hi => by cases hi; exact hd) (Tr.alloc hs.imm k (.map #[] 0) undef)
    ⟨trivial, fun _ _ h => (by cases h), fun _ _ h => (by cases h), fun i e he => by obtain ⟨rfl, rfl⟩ := look_one he; exact ⟨.inr (by simp), trivial⟩, fun _ _ h => (by cases h),
      fun i e he => by obtain ⟨rfl, rfl⟩ := look_one he; exact ⟨#[], 0, heap_alloc_new w _, rfl, fun p hp => by cases hp⟩,
      fun i e he c hc => by
        obtain ⟨rfl, rfl⟩ := look_one he
        have hc : c = w.heap.size := hc
        subst hc
        exact ⟨.inl hs.keep.size, by simp, IH.none_ge hs.imm (Nat.le_refl _), .inl (Nat.le_refl _)⟩,
      fun i i' e e' c he he' hne => by
        obtain ⟨rfl, _⟩ := look_one he
        obtain ⟨rfl, _⟩ := look_one he'
        exact absurd rfl hne, fun i x he => by
        obtain ⟨_, h⟩ := look_one he
        cases h
        exact ⟨Nat.zero_le _, fun _ h => h.elim⟩⟩
  refine SatM.mono (fun i hi => ?_) this
  rcases hi with hi | hi
  · have hi : i < n := hi
    show i < m
    omega
  · have hi : i ∈ [k] := hi
    rw [List.mem_singleton] at hi
    show i < m
    omega
end steps
inductive LtF (S : St) (k : Nat) (R : Pred) : Prop
  | own {α : Type} {E : EP α} {l : List α} {T : TypeId} (hk : look k S.L = some (.own T E.size l.length (RP E l))) (hR : R = PL E l) (hf : ∀ I I' cs x, E.h I cs x → E.h I' cs x)
def LtOK (S : St) (ρ : Nat → Nat) : List (Nat × Pred) → Prop
  | [] => True
  | (j, R) :: t => LtF S (ρ j) R ∧ LtOK S ρ t
theorem LtOK.get {S : St} {ρ : Nat → Nat} : ∀ {X : List (Nat × Pred)}, LtOK S ρ X → ∀ j R, look j X = some R → LtF S (ρ j) R
  | (k, R') :: t, h, j, R, hj => by
    rw [look_cons] at hj
    by_cases hk : k = j
    · subst hk; simp at hj; subst hj; exact h.1
    · simp [hk] at hj; exact LtOK.get h.2 j R hj
theorem yieldH {cx : Cx} {S : St} {l ky : Nat} {svs : List SV} {J : List Nat} {F : Nat → Prop} {it : Item} {Y Y' K' : YI cx.w0.heap.size} (ρ : Nat → Nat)
    (hround : ∀ F I' w' us vs, Y.J F I' w' → cx.I0.le I' → I'.on w' → cx.w0.heap.size ≤ w'.heap.size → (∀ b, cx.E b → F b) → it.ok F I' w' us vs → RoundR cx.P l vs cx.w0.heap.size F I' w' Y' K')
    (hk : look ky S.L = some (.ext (Y.xp F))) (hF : ∀ b, cx.E b → F b) (hsv : SvsOK S svs (it.svs.map (SV.ren ρ))) (hwf : ∀ x ∈ it.svs, x.res J) (hX : RenOK S.X ρ it.X) (hLt : LtOK S ρ it.Lt) :
    ∀ ε I a w, Sat cx ε I S a w → RoundR cx.P l (svs.map (SV.den ε)) cx.w0.heap.size F I w Y' K' := by
  intro ε I a w hs
  refine hround F I w (fun j => ε.ν (ρ j)) _ (hs.L ky _ hk) hs.le0 hs.imm hs.keep.size hF ⟨?_, fun j R hj => hs.has (hX.get j R hj), fun j R hj => ?_⟩
  · rw [hsv.den hs, svs_ren hwf]
  · cases hLt.get j R hj with
    | own hl hR hf =>
      subst hR
      obtain ⟨xs, h1, h2⟩ := hs.L _ _ hl
      refine ⟨own_pl h1 h2 (fun cs x h => hf _ _ cs x h) fun b hb => by simp only [rd, if_pos hb], fun b hb => ⟨(hs.foot _ _ hl b hb).2.1, fun hFb => ?_⟩⟩
      have hne : ρ j ≠ ky := fun e => by rw [e, hk] at hl; cases hl
      exact hs.sep _ ky _ _ b hl hk hne hb hFb
section ops
variable {cx : Cx} {S : St} {dst : Option Tmp} {ty : TypeId} {pos : String} {af : Array Edge} {gd : Option (Nat × Bool)}
theorem PL.sub {α : Type} {E : EP α} {l : List α} {I : IH} {a : Option Addr} {cap : Nat} {lo hi : Nat} (h : (PL E l).h I (.slice a l.length cap)) (h1 : lo ≤ hi) (h2 : hi ≤ l.length) : (PL E ((l.take hi).drop lo)).h I (.slice (if cap = lo then a else a.map (·.add (lo * E.size))) (hi - lo) (cap - lo)) := by
  obtain ⟨a', cap', hv, hc, h⟩ := h
  simp only [Value.slice.injEq, true_and] at hv
  obtain ⟨rfl, rfl⟩ := hv
  have hl : ((l.take hi).drop lo).length = hi - lo := by simp; omega
  refine ⟨_, _, by rw [hl], by rw [hl]; omega, fun i hi' => ?_⟩
  rw [hl] at hi'
  obtain ⟨cs, ad, h3, h4, h5, h6⟩ := h (lo + i) (by omega)
  have hne : ¬ cap = lo := by omega
  refine ⟨cs, ad.add (lo * E.size), ?_, by rw [if_neg hne, h4]; rfl, Addr.add_spot h5 _, fun j y hj => ?_⟩
  · have : ((l.take hi).drop lo)[i]'(by omega) = l[lo + i]'(by omega) := by simp
    rw [this]; exact h3
  · rw [Addr.add_add h5, show lo * E.size + (i * E.size + j) = (lo + i) * E.size + j by rw [Nat.add_mul]; omega]
    exact h6 j y hj
end ops
section
variable {cx : Cx} {Q : Exit → Act → World → Prop} {ops : Array Oper} {nf : Nat} {r : Rec} {t : List (Oper × Rec)} {rest : List Oper}
variable {n : Nat} {fr : List (Nat × SV)} {X : List (Nat × Pred)} {L : List (Nat × Ent)} {D : List Nat} {G : List (Nat × Bool)} {d : Tmp} {op : Op} {ty : TypeId} {pos : String} {af : Array Edge} {gd : Option (Nat × Bool)} {sv : SV}
theorem DRQ.cL {X' : List (Nat × Pred)} {L' : List (Nat × Ent)} (hd : Nat.blt d cx.N = true) (hg : GOK ops (dropL r.ds fr) gd true) (hN : r.N = keys X') (hk : r.ks = keys X' ++ keys L') (h : OpG cx (St.drop ⟨n, fr, X, L, D, G⟩ r.ds r.dk) ⟨some d, op, ty, pos, af, gd⟩ ⟨sv, keys X', X', L', []⟩)
    (K : DRQ cx ops nf t ⟨n, (d, sv) :: fr, X' ++ X, L' ++ L, D, G⟩ Q) : DRQ cx ops nf ((⟨some d, op, ty, pos, af, gd⟩, r) :: t) ⟨n, fr, X, L, D, G⟩ Q :=
  ⟨⟨sv, keys X', X', L', []⟩, ROp.on hg h, ⟨hN.symm, fun i _ h => by rw [hk]; exact List.mem_append_left _ (look_keys h), fun i _ h => by rw [hk]; exact List.mem_append_right _ (look_keys h), rfl, fun i hi => by cases hi; rw [Nat.blt_eq] at hd; exact hd⟩, K⟩
theorem WPl.cL (m : Nat) {X' : List (Nat × Pred)} {L' : List (Nat × Ent)} (hk : (keys X').all (Nat.ble n ·) = true) (hm : (keys X').all (Nat.blt · m) = true) (hn : Nat.ble n m = true) (hd : Nat.blt d cx.N = true) (hg : GOK ops fr gd true) (h : OpG cx ⟨n, fr, X, L, D, G⟩ ⟨some d, op, ty, pos, af, gd⟩ ⟨sv, keys X', X', L', []⟩)
    (K : WPl cx ops ⟨m, (d, sv) :: fr, X' ++ X, L' ++ L, D, G⟩ rest Q) : WPl cx ops ⟨n, fr, X, L, D, G⟩ (⟨some d, op, ty, pos, af, gd⟩ :: rest) Q :=
  WPl.upd m (ROp.on hg h) (St.le.refl _) (fun i hi => by cases hi; rw [Nat.blt_eq] at hd; exact hd)
    (fun j h => ⟨by simpa using List.all_eq_true.1 hk j h, by simpa [Nat.blt_eq] using List.all_eq_true.1 hm j h⟩) (by simpa using hn) K
end
end Go.Eng
namespace Go.Eng
open Go
theorem nofp {cx : Cx} {M : Nat → Prop} {ε : Env} {I : IH} {S : St} {a : Act} {w : World} (hs : SatM cx M ε I S a w) {u : U} (h : ∀ k e, look k u.L = some e → ¬ M k) : ∀ b, ¬ fpOf S ε u b := by
  rintro b ⟨k, e, h1, h2, _⟩
  cases hl : look k u.L with
  | none => rw [hl] at h1; cases h1
  | some x => exact h k x hl (hs.wfL k _ h2).1
theorem OpG.settle0 {cx : Cx} {S : St} {o : Oper} {sv : SV} {k : Nat} {T : TypeId} {α : Type} {E : EP α} {l : List α} (h : OpG cx S o ⟨sv, [k], [], [(k, .own T E.size l.length (RP E l))], []⟩) : OpG cx S o ⟨sv, [k], [(k, PL E l)], [], []⟩ := by
  intro M ε I a w next Q hs hN K
  refine h M ε I a w next Q hs hN fun ε' I' w' ht hn => ?_
  have hk : look k [(k, Ent.own T E.size l.length (RP E l))] = some (.own T E.size l.length (RP E l)) := by simp [look_cons]
  have hnofp := nofp hs (u := ⟨sv, [k], [], [(k, .own T E.size l.length (RP E l))], []⟩) (fun k' e he => by obtain ⟨rfl, _⟩ := look_one he; exact hN k' (by simp))
  obtain ⟨xs, h1, h2⟩ := hn.L k _ hk
  have hft : ∀ b, (ε'.ν k).ownBlock = some b → w.heap.size ≤ b ∧ b < w'.heap.size ∧ I' b = none := fun b hb => by
    obtain ⟨_, h4, h5, h6⟩ := hn.foot k (.own T E.size l.length (RP E l)) hk b hb
    rcases h6 with h6 | h6
    · exact ⟨h6, h4, h5⟩
    · exact absurd h6 (hnofp b)
  let I2 : IH := fun b => if (ε'.ν k).ownBlock = some b then w'.heap[b]? else I' b
  have hle : I'.le I2 := fun b o hb => by
    by_cases h : (ε'.ν k).ownBlock = some b
    · rw [(hft b h).2.2] at hb; cases hb
    · simp only [I2, if_neg h]; exact hb
  refine K ε' I2 w' ⟨ht.ag, ht.le.trans hle, fun b o hb => ?_, ht.os, ht.tape, ht.output, ht.size, fun b hb _ => ht.block b hb (hnofp b), fun b o hb => ?_⟩
    ⟨hn.sv, fun j R hj => by obtain ⟨rfl, _⟩ := look_one hj; exact .inr (by simp), hn.wG, fun _ _ h => (by cases h), fun j R hj => ?_, fun _ _ h => (by cases h), fun _ _ h => (by cases h), fun _ _ _ _ _ h => (by cases h), fun _ _ h => (by cases h)⟩
  · by_cases h : (ε'.ν k).ownBlock = some b
    · simp only [I2, if_pos h] at hb; exact hb
    · simp only [I2, if_neg h] at hb; exact ht.imm b o hb
  · by_cases h : (ε'.ν k).ownBlock = some b
    · exact .inr (.inl (hft b h).1)
    · simp only [I2, if_neg h] at hb
      rcases ht.fresh b o hb with h | h | h
      · exact .inl h
      · exact .inr (.inl h)
      · exact absurd h.1 (hnofp b)
  · obtain ⟨rfl, rfl⟩ := look_one hj
    exact own_pl h1 h2 (fun _ _ h => E.mono hle h) fun b hb => by simp only [I2, if_pos hb]
theorem OpG.settle1 {cx : Cx} {S : St} {o : Oper} {sv : SV} {k k0 : Nat} {T T0 : TypeId} {s0 n0 : Nat} {R0 : LPred} {α : Type} {E : EP α} {l : List α} (hE : cx.E = Emp ∨ Has S.X k0 (Pred.newer cx.w0.heap.size)) (hk0 : look k0 S.L = some (.own T0 s0 n0 R0)) (h : OpG cx S o ⟨sv, [k], [], [(k, .own T E.size l.length (RP E l)), (k0, .dead)], []⟩) : OpG cx S o ⟨sv, [k], [(k, PL E l)], [(k0, .dead)], []⟩ := by
  intro M ε I a w next Q hs hN K
  refine h M ε I a w next Q hs hN fun ε' I' w' ht hn => ?_
  have hk : look k [(k, Ent.own T E.size l.length (RP E l)), (k0, .dead)] = some (.own T E.size l.length (RP E l)) := by simp [look_cons]
  have hne0 : k ≠ k0 := fun e => hN k (by simp) (by rw [e]; exact (hs.wfL k0 _ hk0).1)
  have hk0M := (hs.wfL k0 _ hk0).1
  have hfpE : ∀ b, fpOf S ε ⟨sv, [k], [], [(k, .own T E.size l.length (RP E l)), (k0, .dead)], []⟩ b → (ε.ν k0).ownBlock = some b := by
    rintro b ⟨k', e', h1, h2, h3⟩
    have hk' : k' = k ∨ k' = k0 := by
      cases hl : look k' [(k, Ent.own T E.size l.length (RP E l)), (k0, .dead)] with
      | none => rw [hl] at h1; cases h1
      | some x =>
        rcases look_two hl with ⟨h, _⟩ | ⟨_, h, _⟩
        · exact .inl h
        · exact .inr h
    rcases hk' with rfl | rfl
    · exact absurd (hs.wfL k' _ h2).1 (hN k' (by simp))
    · rw [hk0] at h2; cases h2; exact h3
  have hfp : ∀ b, (ε.ν k0).ownBlock = some b → fpOf S ε ⟨sv, [k], [(k, PL E l)], [(k0, .dead)], []⟩ b := fun b hb => ⟨k0, _, by simp [look], hk0, hb⟩
  have hge : ∀ b, (ε.ν k0).ownBlock = some b → cx.w0.heap.size ≤ b := fun b hb => by
    rcases hE with hE | hE
    · rcases (hs.foot k0 _ hk0 b hb).1 with h | h
      · exact h
      · rw [hE] at h; exact h.elim
    · exact hs.has hE b hb
  obtain ⟨xs, h1, h2⟩ := hn.L k _ hk
  have hft : ∀ b, (ε'.ν k).ownBlock = some b → (w.heap.size ≤ b ∨ (ε.ν k0).ownBlock = some b) ∧ b < w'.heap.size ∧ I' b = none := fun b hb => by
    obtain ⟨_, h4, h5, h6⟩ := hn.foot k (.own T E.size l.length (RP E l)) hk b hb
    rcases h6 with h6 | h6
    · exact ⟨.inl h6, h4, h5⟩
    · exact ⟨.inr (hfpE b h6), h4, h5⟩
  let I2 : IH := fun b => if (ε'.ν k).ownBlock = some b then w'.heap[b]? else I' b
  have hle : I'.le I2 := fun b o hb => by
    by_cases h : (ε'.ν k).ownBlock = some b
    · rw [(hft b h).2.2] at hb; cases hb
    · simp only [I2, if_neg h]; exact hb
  refine K ε' I2 w' ⟨ht.ag, ht.le.trans hle, fun b o hb => ?_, ht.os, ht.tape, ht.output, ht.size, fun b hb hn' => ht.block b hb (fun h => hn' (hfp b (hfpE b h))), fun b o hb => ?_⟩
    ⟨hn.sv, fun j R hj => by obtain ⟨rfl, _⟩ := look_one hj; exact .inr (by simp), hn.wG, fun j e he => by obtain ⟨rfl, rfl⟩ := look_one he; exact ⟨.inl hk0M, trivial⟩, fun j R hj => ?_, fun j e he => by obtain ⟨rfl, rfl⟩ := look_one he; trivial, fun j e he b hb => by obtain ⟨rfl, rfl⟩ := look_one he; exact absurd hb (fun h => h),
      fun i i' e e' b he he' hne hb => by obtain ⟨rfl, rfl⟩ := look_one he; exact absurd hb (fun h => h), fun j x h => by obtain ⟨_, h⟩ := look_one h; cases h⟩
  · by_cases h : (ε'.ν k).ownBlock = some b
    · simp only [I2, if_pos h] at hb; exact hb
    · simp only [I2, if_neg h] at hb; exact ht.imm b o hb
  · by_cases h : (ε'.ν k).ownBlock = some b
    · rcases (hft b h).1 with h' | h'
      · exact .inr (.inl h')
      · exact .inr (.inr ⟨hfp b h', hge b h'⟩)
    · simp only [I2, if_neg h] at hb
      rcases ht.fresh b o hb with h | h | h
      · exact .inl h
      · exact .inr (.inl h)
      · exact .inr (.inr ⟨hfp b (hfpE b h.1), h.2⟩)
  · obtain ⟨rfl, rfl⟩ := look_one hj
    exact own_pl h1 h2 (fun _ _ h => E.mono hle h) fun b hb => by simp only [I2, if_pos hb]
theorem pl_nil {α : Type} {E : EP α} {I : IH} : (PL E []).h I (.slice none 0 0) := ⟨none, 0, rfl, Nat.le_refl _, fun i hi => absurd hi (by simp)⟩
section
variable {cx : Cx} {Q : Exit → Act → World → Prop} {ops : Array Oper} {rest : List Oper}
variable {n : Nat} {fr : List (Nat × SV)} {X : List (Nat × Pred)} {L : List (Nat × Ent)} {D : List Nat} {G : List (Nat × Bool)} {d : Tmp} {op : Op} {ty : TypeId} {pos : String} {af : Array Edge} {sv : SV}
theorem WPl.st (k m : Nat) {R : Pred} {L' : List (Nat × Ent)} (hk : Nat.ble n k = true) (hm : Nat.blt k m = true) (hd : Nat.blt d cx.N = true) (h : OpG cx ⟨n, fr, X, L, D, G⟩ ⟨some d, op, ty, pos, af, none⟩ ⟨sv, [k], [(k, R)], L', []⟩)
    (K : WPl cx ops ⟨m, (d, sv) :: fr, (k, R) :: X, L' ++ L, D, G⟩ rest Q) : WPl cx ops ⟨n, fr, X, L, D, G⟩ (⟨some d, op, ty, pos, af, none⟩ :: rest) Q := WPl.u1 hk hm hd h K
end
def iter {σ : Type} (f : Nat → σ → σ) (s : σ) : Nat → σ
  | 0 => s
  | n + 1 => f n (iter f s n)
end Go.Eng
namespace Go.Eng
open Go
theorem nodup_of : ∀ {l : List Nat}, nodupb l = true → l.Nodup
  | [], _ => List.nodup_nil
  | x :: t, h => by
    simp only [nodupb, Bool.and_eq_true] at h
    exact List.nodup_cons.2 ⟨notin_iff h.1, nodup_of h.2⟩
theorem ItemOK.of {q : Nat} {ps : List Nat} {it : Item} (h : (Nat.beq ps.length it.svs.length && it.svs.all (SV.kr q) && (keys it.X).all (Nat.blt · q) && (keys it.Lt).all (Nat.blt · q)) = true) : ItemOK q ps it := by
  simp only [Bool.and_eq_true] at h
  exact ⟨Nat.eq_of_beq_eq_true h.1.1.1, h.1.1.2, h.1.2, h.2⟩
def Ent.plainb : Ent → Bool
  | .ext _ => false
  | _ => true
theorem RSt.of {fr0 : List (Nat × SV)} {D0 : List Nat} {m kl : Nat} {T : St} (fr : T.fr = fr0) (D : T.D = D0) (n : T.n = m) (G : T.G = []) (kl' : look kl T.L = none) (h : T.L.all (fun p => p.2.plainb) = true) : RSt fr0 D0 m kl T :=
  ⟨fr, D, n, G, kl', fun k x hx => by
    have := List.all_eq_true.1 h _ (look_mem hx)
    cases this⟩
theorem RSt.of1 {fr0 : List (Nat × SV)} {D0 : List Nat} {m kl : Nat} {T : St} (kx : Nat) {Y : XP} (fr : T.fr = fr0) (D : T.D = D0) (n : T.n = m) (G : T.G = []) (kl' : look kl T.L = none) (hk : look kx T.L = some (.ext Y)) (hY : Y.plain) (h : T.L.all (fun p => p.2.plainb || Nat.beq p.1 kx) = true) : RSt fr0 D0 m kl T :=
  ⟨fr, D, n, G, kl', fun k x hx => by
    have h1 := List.all_eq_true.1 h _ (look_mem hx)
    simp only [Ent.plainb, Bool.false_or] at h1
    have := Nat.eq_of_beq_eq_true h1
    subst this
    rw [hk] at hx; cases hx
    exact ⟨hY.n1, hY.Rd⟩⟩
section
variable {cx : Cx} {n : Nat} {fr : List (Nat × SV)} {X : List (Nat × Pred)} {L : List (Nat × Ent)} {D : List Nat} {G : List (Nat × Bool)} {ps : List Nat} {assign body : Code} {items : List Item} {Q : Exit → Act → World → Prop} {g : Operand} {j : Nat}
theorem range_items {N : Nat} {gI : Nat → Item} {i : Nat} {it : Item} (h : ((List.range N).map gI)[i]? = some it) : i < N ∧ it = gI i := by
  rw [List.getElem?_map] at h
  cases hr : (List.range N)[i]? with
  | none => rw [hr] at h; cases h
  | some k =>
    rw [hr] at h
    obtain ⟨h1, h2⟩ := List.getElem?_eq_some_iff.1 hr
    simp at h1 h2 h
    subst h2
    exact ⟨h1, h.symm⟩
theorem Loop.ready_eta {R0 : Loop} (h : R0.state = .ready) : ∃ R1 : Loop, R0 = { R1 with state := .ready } := ⟨R0, by cases R0; simp at h; subst h; rfl⟩
theorem Rng.ofG {m q N : Nat} {gI : Nat → Item} {Sg : Nat → St} {Kx : Code → St → Prop} {D0 : List Nat} (hst : ∀ i, RSt fr D0 m (n + 1) (Sg i)) (hkx : ∀ c T, Kx c T → RSt fr D0 m (n + 1) T) (hfr : fr.all (fun p => p.2.kbp (n + 2)) = true) (hD : D0.all (Nat.blt · (n + 2)) = true) (hm : Nat.ble (n + 2) m = true)
    (hitem : ∀ i, i < N → ItemOK q ps (gI i)) (hnd : nodupb ps = true) (hps : ps.all (Nat.blt · cx.N) = true)
    (round : ∀ i, i < N → ∀ (w0 : World) (E : Nat → Prop) (I0 : IH) (R1 : Loop) (pβ : Nat → Nat) (pν us : Nat → Value), WP ⟨cx.P, some (pβ (n + 1)), w0, cx.N, E, I0, n + 2, pβ, pν⟩ (roundSt m q (n + 1) ps (gI i) (Sg i) { R1 with state := .ready } us) assign
      (AsgQ ⟨cx.P, some (pβ (n + 1)), w0, cx.N, E, I0, n + 2, pβ, pν⟩ (n + 1) { R1 with state := .ready } body (RndQ ⟨cx.P, some (pβ (n + 1)), w0, cx.N, E, I0, n + 2, pβ, pν⟩ (n + 1) { R1 with state := .busy } (Sg (i + 1)) Kx))) :
    Rng cx n fr D0 ps assign body ((List.range N).map gI) m q Sg Kx :=
  ⟨hst, hkx, hfr, hD, by simpa using hm, fun it hi => by
    obtain ⟨k, hk, rfl⟩ := List.mem_map.1 hi
    exact hitem k (by simpa using hk), nodup_of hnd, fun t ht => by simpa [Nat.blt_eq] using List.all_eq_true.1 hps t ht, fun i it hi w0 E I0 R0 pβ pν us hR => by
    obtain ⟨h1, rfl⟩ := range_items hi
    obtain ⟨R1, rfl⟩ := Loop.ready_eta hR
    exact round i h1 w0 E I0 R1 pβ pν us⟩
end
section
variable {cx : Cx} {Q : Exit → Act → World → Prop} {ops : Array Oper} {rest : List Oper}
variable {n : Nat} {fr : List (Nat × SV)} {X : List (Nat × Pred)} {L : List (Nat × Ent)} {D : List Nat} {G : List (Nat × Bool)} {d : Tmp} {ty : TypeId} {pos : String} {af : Array Edge}
theorem run_eqsl {P : Program} {t e : TypeId} (hT : P.underlying t = some (.slice e)) (a : Option Addr) (len cap : Nat) (w : World) : (Op.equal t (.slice a len cap) (.slice none 0 0)).run P w = .ok a.isNone w := by
  show (Op.equalIn (Op.maxDepth - 1 + 1) t (.slice a len cap) (.slice none 0 0)).run P w = _
  cases a <;> simp [Op.equalIn, run_underlying hT]
theorem WPl.eqnil {x : Operand} {t t' e : TypeId} {j : Nat} {α : Type} {E : EP α} {l : List α} (hT : cx.P.underlying t = some (.slice e)) (hd : Nat.blt d cx.N = true) (hx : St.op ⟨n, fr, X, L, D, G⟩ x = some (.e (.a (.q j)))) (hj : Has X j (PL E l))
    (K : ∀ c : Bool, (c = true → l = []) → WPl cx ops ⟨n, (d, .b c) :: fr, X, L, D, G⟩ rest Q) : WPl cx ops ⟨n, fr, X, L, D, G⟩ (⟨some d, .binOp .eql t x (.const (.slice none 0 0)) t', ty, pos, af, none⟩ :: rest) Q := by
  intro ε I a w hs
  obtain ⟨ad, cap, hv, hc, hl⟩ := hs.has hj
  have hx' := hs.eval hx
  simp only [SV.den, El.den, At.den, hv] at hx'
  refine wpListIn_step fun K' hK => ?_
  simp only [Region.wanted, if_true]
  refine ⟨fun _ _ => trivial, ?_⟩
  have h3 : a.eval (.const (.slice none 0 0)) = .slice none 0 0 := rfl
  have hrun : (execOp a.eval ⟨some d, .binOp .eql t x (.const (.slice none 0 0)) t', ty, pos, af, none⟩).run cx.P w = .ok (.value (.bool ad.isNone)) w := by
    simp [execOp, hx', h3, eqGuard, binOp, run_eqsl hT]
  rw [semAt_eq _ _ _ (fun _ => by simp), hrun]
  have hd' : d < cx.N := by rw [Nat.blt_eq] at hd; exact hd
  refine hK _ _ (K ad.isNone (fun h => ?_) ε I _ w ?_)
  · cases l with
    | nil => rfl
    | cons y t =>
      obtain ⟨cs, ad', _, h2, _⟩ := hl 0 (by simp)
      rw [h2] at h; cases h
  · have := SatM.app (d := some d) (u := .val (.b ad.isNone)) n hs (St.le.refl _) (fun k hk => by cases hk) (fun i hi => by cases hi; exact hd') (Tr.refl hs.imm) (New.val trivial)
    exact SatM.mono (fun k hk => by
      rcases hk with hk | hk
      · exact hk
      · cases hk) this
end
end Go.Eng
namespace Go.Eng
open Go
section ops
variable {cx : Cx} {S : St} {dst : Option Tmp} {ty : TypeId} {pos : String} {af : Array Edge} {gd : Option (Nat × Bool)}
theorem RP.cells {α : Type} [Inhabited α] {E : EP α} {I : IH} {l : List α} {xs : List Value} (h : (RP E l).h I xs) {i : Int} (h0 : 0 ≤ i) (h1 : i < l.length) : ∃ cs, E.h I cs (nth l i) ∧ cs.length = E.size ∧ (xs.drop (i.toNat * E.size)).take E.size = cs := by
  obtain ⟨cs, h2, h3⟩ := RP.at h h0 h1
  refine ⟨cs, h2, E.len h2, ?_⟩
  apply List.ext_getElem?
  intro j
  rw [List.getElem?_take, List.getElem?_drop]
  by_cases hj : j < E.size
  · have : j < cs.length := by rw [E.len h2]; exact hj
    rw [if_pos hj, h3 j cs[j] (by simp [this])]
    simp [this]
  · rw [if_neg hj, List.getElem?_eq_none (by rw [E.len h2]; omega)]
theorem o_ldoG {x : Operand} {T e : TypeId} {j n sz : Nat} {α : Type} [Inhabited α] {E : EP α} {l : List α} {i : Int} {zs : List Value} {asv : List At} (hT : TyG cx.P T sz) (hx : S.op x = some (.e (.a (.e j (i.toNat * sz))))) (hj : look j S.L = some (.own e sz n (RP E l))) (hsz : sz = E.size) (hn : n = l.length) (h0 : 0 ≤ i) (h1 : i < l.length)
    (hz : ∀ I cs, E.h I cs (nth l i) → (cs.drop 0).take sz = zs) (hm : zs.length = sz) (has : asv = zs.map .v) : OpG cx S ⟨dst, .load T x, ty, pos, af, gd⟩ (.val (.e (.g asv))) := by
  subst hsz
  refine o_ldog hT hx hj (by omega) (fun I xs h => ?_) hm has
  obtain ⟨cs, h2, h3, h4⟩ := RP.cells h h0 h1
  rw [h4, ← hz I cs h2, List.drop_zero, List.take_of_length_le (by omega)]
end ops
section
variable {cx : Cx} {n : Nat} {fr : List (Nat × SV)} {X : List (Nat × Pred)} {L : List (Nat × Ent)} {D : List Nat} {G : List (Nat × Bool)}
theorem Imp.topX (k : Nat) {T : TypeId} {s m : Nat} {R : LPred} (hk : look k L = some (.own T s m R)) : Imp cx ⟨n, fr, X, L, D, G⟩ ⟨n, fr, (k, Pred.top) :: X, L, D, G⟩ := fun ε I a w hs => by
  refine ⟨ε, I, { hs with wfX := fun j R hj => ?_, X := fun j R hj => ?_ }⟩
  · have hj : look j ((k, Pred.top) :: X) = some R := hj
    rw [look_cons] at hj
    by_cases h : k = j
    · subst h; exact (hs.wfL k _ hk).1
    · simp [h] at hj; exact hs.wfX j R hj
  · have hj : look j ((k, Pred.top) :: X) = some R := hj
    rw [look_cons] at hj
    by_cases h : k = j
    · subst h; simp at hj; subst hj; trivial
    · simp [h] at hj; exact hs.X j R hj
end
end Go.Eng
namespace Go.Eng
open Go
section
variable {cx : Cx} {Q : Exit → Act → World → Prop} {ops : Array Oper} {nf : Nat} {r : Rec} {t : List (Oper × Rec)}
variable {n : Nat} {fr : List (Nat × SV)} {X : List (Nat × Pred)} {L : List (Nat × Ent)} {D : List Nat} {G : List (Nat × Bool)} {d : Tmp} {op : Op} {ty : TypeId} {pos : String} {af : Array Edge} {gd : Option (Nat × Bool)} {sv : SV}
theorem DRQ.u1 (k : Nat) {R : Pred} {L' : List (Nat × Ent)} (hd : Nat.blt d cx.N = true) (hg : GOK ops (dropL r.ds fr) gd true) (hN : r.N = [k]) (h : OpG cx (St.drop ⟨n, fr, X, L, D, G⟩ r.ds r.dk) ⟨some d, op, ty, pos, af, gd⟩ ⟨sv, [k], [(k, R)], L', []⟩) (hk : r.ks = k :: keys L')
    (K : DRQ cx ops nf t ⟨n, (d, sv) :: fr, (k, R) :: X, L' ++ L, D, G⟩ Q) : DRQ cx ops nf ((⟨some d, op, ty, pos, af, gd⟩, r) :: t) ⟨n, fr, X, L, D, G⟩ Q :=
  ⟨⟨sv, [k], [(k, R)], L', []⟩, ROp.on hg h, ⟨hN.symm, fun i _ h => by obtain ⟨rfl, _⟩ := look_one h; rw [hk]; exact List.mem_cons_self, fun i _ h => by rw [hk]; exact List.mem_cons_of_mem _ (look_keys h), rfl, fun i hi => by cases hi; rw [Nat.blt_eq] at hd; exact hd⟩, K⟩
end
end Go.Eng
namespace Go.Eng
theorem has_eq {X : List (Nat × Pred)} {j : Nat} {α : Type} {F : α → Pred} {a b : α} (h : a = b) (hx : Has X j (F a)) : Has X j (F b) := h ▸ hx
end Go.Eng
namespace Go.Eng
open Go
def Pred.pure (p : Prop) : Pred := ⟨fun _ _ => p, fun _ h => h⟩
theorem WP.pure {cx : Cx} {S : St} {c : Code} {Q : Exit → Act → World → Prop} (k : Nat) {p : Prop} (hk : Has S.X k (Pred.pure p)) (h : p → WP cx S c Q) : WP cx S c Q := fun ε I a w hs => h (hs.has hk) ε I a w hs
theorem EX.pure {cx : Cx} {S : St} {e : Exit} {Q : Exit → Act → World → Prop} (k : Nat) {p : Prop} (hk : Has S.X k (Pred.pure p)) (h : p → EX cx S e Q) : EX cx S e Q := fun ε I a w hs => h (hs.has hk) ε I a w hs
def markb : Option Ent → Bool
  | some (.ob (.deferred (some []))) => true
  | _ => false
theorem marks {D : List Nat} {L : List (Nat × Ent)} (h : (D.all fun k => markb (look k L)) = true) : ∀ k ∈ D, look k L = some (.ob (.deferred (some []))) := fun k hk => by
  have := List.all_eq_true.1 h k hk
  revert this
  generalize look k L = x
  intro h
  match x, h with
  | some (.ob (.deferred (some []))), _ => rfl
section
variable {cx : Cx} {Q : Exit → Act → World → Prop} {ops : Array Oper} {rest : List Oper}
end
def CtRM (ag : Bool) (nk : Nat) (sv : SV) (X : Nat → List (Nat × Pred)) (I : IH) (w : World) : Ending → World → Prop := fun e w' =>
  ∃ I' us b, e = .returned (sv.den (envU us)) ∧ Keep Emp w w' ∧ I.le I' ∧ I'.on w' ∧ (∀ b o, I' b = some o → I b = some o ∨ w.heap.size ≤ b) ∧ (∀ j R, look j (X b) = some R → R.h I' (us j)) ∧ (mapXP ag nk b []).J I' w' ∧ w.heap.size ≤ b ∧ b < w'.heap.size ∧ I' b = none
def SigM (P : Program) (f : FuncId) (svs : List SV) (X0 : List (Nat × Pred)) (ag : Bool) (nk : Nat) (sv : SV) (X : Nat → List (Nat × Pred)) : Prop :=
  ∀ (I : IH) (w : World) (ν : Nat → Value), I.on w → FactsOK ν I X0 → CallsIn Fence.wide 0 P f (svs.map (den0 ν)).toArray w (CtRM ag nk sv X I w)
theorem introP {P : Program} {f : FuncId} {fn : Func} {c : Code} {svs : List SV} {X0 : List (Nat × Pred)} {R : IH → World → Ending → World → Prop} (hf : P.funcs[f]? = some fn) (hb : fn.body = some c) (n : Nat) (fr : List (Nat × SV)) (hfr : fr = frOf 0 svs)
    (hwf : ∀ x ∈ svs, x.res (keys X0)) (hn : (keys X0).all (Nat.blt · n) = true) (hN : Nat.ble svs.length fn.ntmps = true)
    (h : ∀ I w, WP ⟨P, none, w, fn.ntmps, Emp, I, 0, fun _ => 0, fun _ => undef⟩ ⟨n, fr, X0, [], [], []⟩ c (Post P fn (R I w))) (I : IH) (w : World) (ν : Nat → Value) (hI : I.on w) (hX : FactsOK ν I X0) : CallsIn Fence.wide 0 P f (svs.map (den0 ν)).toArray w (R I w) := by
  refine callsIn_of_wp_marks hf hb trivial ?_
  refine h I w ⟨fun _ => 0, ν, fun _ => true⟩ I _ w ?_
  have hN' : svs.length ≤ fn.ntmps := by simpa using hN
  subst hfr
  refine ⟨?_, ?_, fun _ _ h => (by cases h), fun _ h => (by cases h), fun _ _ h => (by cases h), fun _ _ h => (by cases h), ?_, rfl, ?_, hX.get, fun _ _ h => (by cases h), fun _ _ h => (by cases h), fun _ _ _ _ _ h => (by cases h), hI, Keep.refl w, IH.le.rfl', fun _ _ h => .inl h, fun _ h => absurd h (Nat.not_lt_zero _), fun _ _ h => (by cases h)⟩
  · intro i x hx
    have := (look_frOf svs 0 i x hx).2
    exact SV.on_res (fun j hj => by simpa [Nat.blt_eq] using List.all_eq_true.1 hn j hj) (hwf x (List.mem_of_getElem? this))
  · intro j R hj
    simpa [Nat.blt_eq] using List.all_eq_true.1 hn j (look_keys hj)
  · simp; omega
  · intro i x hx
    have := (look_frOf svs 0 i x hx).2
    simp only [Nat.sub_zero] at this
    have hi : i < svs.length := (List.getElem?_eq_some_iff.1 this).1
    rw [Array.getElem?_append_left (by simpa using hi)]
    simp [this, den0]
theorem SigM.intro {P : Program} {f : FuncId} {fn : Func} {c : Code} {svs : List SV} {X0 : List (Nat × Pred)} {ag : Bool} {nk : Nat} {sv : SV} {X : Nat → List (Nat × Pred)} (hf : P.funcs[f]? = some fn) (hb : fn.body = some c) (n : Nat) (fr : List (Nat × SV)) (hfr : fr = frOf 0 svs)
    (hwf : ∀ x ∈ svs, x.res (keys X0)) (hn : (keys X0).all (Nat.blt · n) = true) (hN : Nat.ble svs.length fn.ntmps = true)
    (h : ∀ I w, WP ⟨P, none, w, fn.ntmps, Emp, I, 0, fun _ => 0, fun _ => undef⟩ ⟨n, fr, X0, [], [], []⟩ c (Post P fn (CtRM ag nk sv X I w))) : SigM P f svs X0 ag nk sv X := introP hf hb n fr hfr hwf hn hN h
section
variable {cx : Cx} {S : St} {dst : Option Tmp} {ty : TypeId} {pos : String} {af : Array Edge} {gd : Option (Nat × Bool)}
end
section
variable {cx : Cx} {Q : Exit → Act → World → Prop} {ops : Array Oper} {rest : List Oper}
variable {n : Nat} {fr : List (Nat × SV)} {X : List (Nat × Pred)} {L : List (Nat × Ent)} {D : List Nat} {G : List (Nat × Bool)} {d : Tmp} {op : Op} {ty : TypeId} {pos : String} {af : Array Edge} {sv : SV}
end
end Go.Eng
namespace Go.Eng
open Go
theorem o_mkfn0 {cx : Cx} {S : St} {dst : Option Tmp} {ty : TypeId} {pos : String} {af : Array Edge} {gd : Option (Nat × Bool)} {f : FuncId} {l' : List Operand} {svs' : List SV} (k : Nat) (hl' : S.ops l' = some svs') :
    OpG cx S ⟨dst, .makeFunc (.func f) #[] l'.toArray, ty, pos, af, gd⟩ ⟨.e (.a (.q k)), [k], [(k, Pred.fn)], [], []⟩ := o_mkfn (l := []) rfl hl' fun _ _ _ _ _ _ => ⟨_, _, _, rfl⟩
end Go.Eng
namespace Go.Eng
open Go
end Go.Eng
namespace Go.Eng
open Go
section ops
variable {cx : Cx} {S : St} {dst : Option Tmp} {ty : TypeId} {pos : String} {af : Array Edge} {gd : Option (Nat × Bool)}
end ops
theorem SatM.pinv {cx : Cx} {M : Nat → Prop} {ε : Env} {I : IH} {n : Nat} {fr : List (Nat × SV)} {X : List (Nat × Pred)} {L : List (Nat × Ent)} {D : List Nat} {G : List (Nat × Bool)} {a : Act} {w : World} (k : Nat) (hk : M k) (hs : SatM cx M ε I ⟨n, fr, X, L, D, G⟩ a w) : SatM cx M ε I ⟨n, fr, (k, Pred.is (ε.ν k)) :: X, L, D, G⟩ a w :=
  { hs with
    wfX := fun j R hj => by
      rw [look_cons] at hj
      by_cases h : k = j
      · subst h; exact hk
      · simp only [h, if_false] at hj; exact hs.wfX j R hj
    X := fun j R hj => by
      rw [look_cons] at hj
      by_cases h : k = j
      · subst h; simp at hj; subst hj; exact rfl
      · simp only [h, if_false] at hj; exact hs.X j R hj }
theorem WP.pin {cx : Cx} {Q : Exit → Act → World → Prop} {c : Code} {n : Nat} {fr : List (Nat × SV)} {X : List (Nat × Pred)} {L : List (Nat × Ent)} {D : List Nat} {G : List (Nat × Bool)} (k : Nat) (hk : Nat.blt k n = true) (h : ∀ u, WP cx ⟨n, fr, (k, Pred.is u) :: X, L, D, G⟩ c Q) : WP cx ⟨n, fr, X, L, D, G⟩ c Q :=
  fun ε I a w hs => h (ε.ν k) ε I a w (SatM.pinv k (by rw [Nat.blt_eq] at hk; exact hk) hs)
section rows
variable {α : Type} {E : EP α} {I : IH} {l : List α} {xs : List Value}
end rows
section ops
variable {cx : Cx} {S : St} {dst : Option Tmp} {ty : TypeId} {pos : String} {af : Array Edge} {gd : Option (Nat × Bool)}
end ops
end Go.Eng
namespace Go.Eng
open Go
section
variable {cx : Cx} {n : Nat} {fr : List (Nat × SV)} {X : List (Nat × Pred)} {L : List (Nat × Ent)} {D : List Nat} {G : List (Nat × Bool)}
end
section ops
variable {cx : Cx} {S : St} {dst : Option Tmp} {ty : TypeId} {pos : String} {af : Array Edge} {gd : Option (Nat × Bool)}
end ops
end Go.Eng
namespace Go.Eng
open Go
section
variable {α : Type} {x : α}
end
section ops
variable {cx : Cx} {S : St} {ty : TypeId} {pos : String} {af : Array Edge}
end ops
end Go.Eng
namespace Go.Eng
open Go
section
variable {cx : Cx} {S : St} {dst : Option Tmp} {ty : TypeId} {pos : String} {af : Array Edge} {gd : Option (Nat × Bool)} {x y : Operand} {t t' : TypeId} {a b : Int}
theorem o_quo (hx : S.op x = some (.i a)) (hy : S.op y = some (.i b)) (hb : 0 < b) (h1 : -9223372036854775808 ≤ a.tdiv b) (h2 : a.tdiv b ≤ 9223372036854775807) : OpG cx S ⟨dst, .binOp .quo t x y t', ty, pos, af, gd⟩ (.val (.i (a.tdiv b))) := by
  have hb0 : b ≠ 0 := by omega
  have : OpG cx S ⟨dst, .binOp .quo t x y t', ty, pos, af, gd⟩ (.val (.i (IntKind.i64.wrap (a.tdiv b)))) := o_bin hx hy fun w => by simp [eqGuard, binOp, Op.intDiv, hb0]
  rwa [wrap_in h1 h2] at this
end
end Go.Eng
namespace Go.Eng
open Go Go.ChangeShapes Go.WideShapes
inductive Leaf : Type 1 where
  | i
  | s {β : Type} (E : EP β)
def LeafOK (I : IH) : List Value → List Leaf → Prop
  | [], [] => True
  | v :: vs, .i :: ls => (∃ n, v = .int .i64 n) ∧ LeafOK I vs ls
  | v :: vs, .s E :: ls => (∃ l, (PL E l).h I v) ∧ LeafOK I vs ls
  | _, _ => False
theorem LeafOK.len {I : IH} : ∀ {vs : List Value} {ls : List Leaf}, LeafOK I vs ls → vs.length = ls.length
  | [], [], _ => rfl
  | _ :: _, .i :: _, h => by simp [LeafOK.len h.2]
  | _ :: _, .s _ :: _, h => by simp [LeafOK.len h.2]
  | [], .i :: _, h => h.elim
  | [], .s _ :: _, h => h.elim
  | _ :: _, [], h => h.elim
theorem LeafOK.app {I : IH} {vs2 : List Value} {ls2 : List Leaf} (h2 : LeafOK I vs2 ls2) : ∀ {vs : List Value} {ls : List Leaf}, LeafOK I vs ls → LeafOK I (vs ++ vs2) (ls ++ ls2)
  | [], [], _ => h2
  | _ :: _, .i :: _, h => ⟨h.1, LeafOK.app h2 h.2⟩
  | _ :: _, .s _ :: _, h => ⟨h.1, LeafOK.app h2 h.2⟩
  | [], .i :: _, h => h.elim
  | [], .s _ :: _, h => h.elim
  | _ :: _, [], h => h.elim
structure Flat (P : Program) (t : TypeId) (ls : List Leaf) : Prop where
  cells : P.cellsOf t = ls.length
  ok : ∀ {H : Type} (enc : TypeId × Value → H) (w : World) (fuel : Nat) (cs : List Value) (x : DataW H × List MemPlace), DataW.trod enc P w 0 (fun _ => true) true fuel t cs = some x → LeafOK (World.all w) cs ls
structure ReadsE (P : Program) (t : TypeId) {α : Type} (E : EP α) : Prop where
  size : E.size = P.cellsOf t
  pos : 0 < E.size
  ok : ∀ {H : Type} (enc : TypeId × Value → H) (w : World) (fuel : Nat) (cs : List Value) (x : DataW H × List MemPlace), DataW.trod enc P w 0 (fun _ => true) true fuel t cs = some x → ∃ y, E.h (World.all w) cs y
theorem Flat.int {P : Program} {t : TypeId} (h : P.underlying t = some (.int .i64)) (hc : P.cellsOf t = 1) : Flat P t [.i] := ⟨hc, fun enc w fuel cs x hx => by
  obtain ⟨n, rfl, _⟩ := DataW.trod_int h hx
  exact ⟨⟨n, rfl⟩, trivial⟩⟩
theorem ReadsE.int {P : Program} {t : TypeId} (h : P.underlying t = some (.int .i64)) (hc : P.cellsOf t = 1) : ReadsE P t EP.int := ⟨hc.symm, by decide, fun enc w fuel cs x hx => by
  obtain ⟨n, rfl, _⟩ := DataW.trod_int h hx
  exact ⟨n, rfl⟩⟩
theorem all_cell {w : World} {a : Addr} {v : Value} (h : w.cell? a = some v) : (World.all w).cell a = some v := by
  unfold World.cell? at h
  unfold IH.cell World.all
  exact h
theorem rows_list {P : Program} {e : TypeId} {α : Type} {E : EP α} (hE : ReadsE P e E) {H : Type} {enc : TypeId × Value → H} {w : World} {n : Nat} {a : Addr} {elems : List (DataW H × List MemPlace)} :
    ∀ len : Nat, len ≤ elems.length → (∀ i, i < len → (w.cells? 0 (a.add (i * P.cellsOf e)) (P.cellsOf e)).bind (DataW.trod enc P w 0 (fun _ => true) true n e) = elems[i]?) →
    ∃ l : List α, l.length = len ∧ ∀ i (hi : i < l.length), ∃ cs, w.cells? 0 (a.add (i * P.cellsOf e)) (P.cellsOf e) = some cs ∧ E.h (World.all w) cs l[i]
  | 0, _, _ => ⟨[], rfl, fun i hi => absurd hi (by simp)⟩
  | len + 1, hl, h => by
    obtain ⟨l, h1, h2⟩ := rows_list hE len (by omega) (fun i hi => h i (by omega))
    have h3 := h len (by omega)
    rw [List.getElem?_eq_getElem (by omega)] at h3
    obtain ⟨cs, h4, h5⟩ := Option.bind_eq_some_iff.1 h3
    obtain ⟨y, hy⟩ := hE.ok enc w n cs _ h5
    refine ⟨l ++ [y], by simp [h1], fun i hi => ?_⟩
    by_cases hil : i < l.length
    · rw [List.getElem_append_left hil]; exact h2 i hil
    · have : i = l.length := by simp at hi; omega
      subst this
      rw [List.getElem_append_right (Nat.le_refl _)]
      simp only [Nat.sub_self, List.getElem_cons_zero]
      exact ⟨cs, by rw [h1]; exact h4, hy⟩
theorem slice_pl {P : Program} {t e : TypeId} {α : Type} {E : EP α} (h : P.underlying t = some (.slice e)) (hE : ReadsE P e E) {H : Type} (enc : TypeId × Value → H) (w : World) (fuel : Nat) (cs : List Value) (x : DataW H × List MemPlace)
    (hx : DataW.trod enc P w 0 (fun _ => true) true fuel t cs = some x) : ∃ v l, cs = [v] ∧ (PL E l).h (World.all w) v := by
  rcases DataW.trod_slice h hx with ⟨rfl, _⟩ | ⟨a, len, cap, elems, rest, n, _, rfl, _, _, hlc, _, hel, hall, _⟩
  · exact ⟨_, [], rfl, pl_nil⟩
  · obtain ⟨l, h1, h2⟩ := rows_list hE len (by omega) hall
    refine ⟨_, l, rfl, some a, cap, by rw [h1], by omega, fun i hi => ?_⟩
    obtain ⟨cs, h3, h4⟩ := h2 i hi
    obtain ⟨h5, h6, h7⟩ := World.cells?_some h3
    have hsp : a.spot = none := by
      obtain ⟨cs0, g3, g4⟩ := h2 0 (by omega)
      obtain ⟨_, _, g7⟩ := World.cells?_some g3
      have hp := hE.pos
      have hl := E.len g4
      have := g7 0 (by rw [← hE.size]; exact hp)
      rw [List.getElem?_eq_getElem (by omega)] at this
      have h8 := World.cell?_spot this
      simpa [Addr.add] using h8
    refine ⟨cs, a, h4, rfl, hsp, fun j y hj => all_cell ?_⟩
    have hjl : j < cs.length := (List.getElem?_eq_some_iff.1 hj).1
    have := h7 j (by rw [← hE.size, ← E.len h4]; exact hjl)
    rw [hE.size, ← Addr.add_add hsp, this, hj]
theorem Flat.slice {P : Program} {t e : TypeId} {α : Type} {E : EP α} (h : P.underlying t = some (.slice e)) (hc : P.cellsOf t = 1) (hE : ReadsE P e E) : Flat P t [.s E] := ⟨hc, fun enc w fuel cs x hx => by
  obtain ⟨v, l, rfl, hl⟩ := slice_pl h hE enc w fuel cs x hx
  exact ⟨⟨l, hl⟩, trivial⟩⟩
theorem ReadsE.slice {P : Program} {t e : TypeId} {α : Type} {E : EP α} (h : P.underlying t = some (.slice e)) (hc : P.cellsOf t = 1) (hE : ReadsE P e E) : ReadsE P t (EP.sl E) := ⟨hc.symm, by show 0 < 1; omega, fun enc w fuel cs x hx => by
  obtain ⟨v, l, rfl, hl⟩ := slice_pl h hE enc w fuel cs x hx
  exact ⟨l, v, rfl, hl⟩⟩
inductive LeafFs (P : Program) : Nat → List Field → List Leaf → Prop
  | nil {o : Nat} : LeafFs P o [] []
  | cons {o : Nat} {f : Field} {fs : List Field} {l1 l2 : List Leaf} (ho : f.offset = o) (h : Flat P f.type l1) (t : LeafFs P (o + l1.length) fs l2) : LeafFs P o (f :: fs) (l1 ++ l2)
theorem LeafFs.ok {P : Program} {H : Type} {enc : TypeId × Value → H} {w : World} {n : Nat} {cs : List Value} : ∀ {o : Nat} {fs : List Field} {ls : List Leaf}, LeafFs P o fs ls →
    (∀ f ∈ fs, ∃ x, DataW.trod enc P w 0 (fun _ => true) true n f.type ((cs.drop f.offset).take (P.cellsOf f.type)) = some x) → cs.length = o + ls.length → LeafOK (World.all w) (cs.drop o) ls
  | o, _, _, .nil, _, hl => by
    have : cs.drop o = [] := List.drop_eq_nil_of_le (by simp at hl; omega)
    rw [this]; trivial
  | o, _, _, .cons (f := f) (fs := fs) (l1 := l1) (l2 := l2) ho h t, hf, hl => by
    obtain ⟨x, hx⟩ := hf f List.mem_cons_self
    have h1 := h.ok enc w n _ x hx
    rw [h.cells, ho] at h1
    have h2 := LeafFs.ok t (fun g hg => hf g (List.mem_cons_of_mem _ hg)) (by rw [hl, List.length_append]; omega)
    have := LeafOK.app h2 h1
    rw [show cs.drop (o + l1.length) = (cs.drop o).drop l1.length by rw [List.drop_drop], List.take_append_drop] at this
    exact this
theorem Flat.struct {P : Program} {t : TypeId} {fs : Array Field} {ls : List Leaf} (h : P.underlying t = some (.struct fs)) (hf : LeafFs P 0 fs.toList ls) (hc : P.cellsOf t = ls.length) : Flat P t ls := ⟨hc, fun enc w fuel cs x hx => by
  obtain ⟨xs, n, _, _, hl, hxl, hall⟩ := DataW.trod_struct h hx
  have := LeafFs.ok (cs := cs) (enc := enc) (w := w) (n := n) hf (fun f hfm => by
    obtain ⟨i, hi, rfl⟩ := List.mem_iff_getElem.1 hfm
    have hi' : i < fs.size := by simpa using hi
    have h2 := hall i fs[i] (by simp [hi'])
    rw [List.getElem?_eq_getElem (by omega)] at h2
    exact ⟨_, by simpa using h2⟩) (by rw [hl, hc]; omega)
  simpa using this⟩
theorem keep_kept {w w' : World} (h : Keep Emp w w') : w.keptBut w' (fun _ => False) := by
  refine ⟨h.os, h.output, fun i hi => ?_⟩
  rw [h.block i hi (fun h => h)]
  cases hw : w.heap[i]? with
  | none => rfl
  | some o => cases o <;> first | rfl | exact ⟨rfl, rfl, rfl, fun _ _ => rfl⟩ | exact .inr ⟨rfl, rfl⟩
theorem keep_same {w w' : World} (h : Keep Emp w w') {p : MemPlace} (hp : p.block < w.heap.size) : w.sameAt w' p := by
  cases p with
  | cell b off =>
    show w'.cell? _ = w.cell? _
    unfold World.cell?
    rw [h.block b hp (fun h => h)]
  | map b => exact h.block b hp (fun h => h)
theorem trodAll_kept {P : Program} {H : Type} {enc : TypeId × Value → H} {w w' : World} (hl : laidOutB P = true) (hk : Keep Emp w w') : ∀ {ts : List TypeId} {vs : List Value} {ds : List (DataW H)} {ps : List MemPlace}, (∀ t ∈ ts, P.readableRec t = true ∧ t < P.types.size) →
    DataW.TrodAll enc P w 0 (fun _ => true) true ts vs ds ps → (∀ p ∈ ps, p.block < w.heap.size) → DataW.TrodAll enc P w' 0 (fun b => decide (b < w.heap.size)) true ts vs ds ps
  | [], _, _, _, _, h, _ => by
    obtain ⟨rfl, rfl, rfl⟩ := trodAll_nil h
    exact rfl
  | t :: ts, _, _, _, ht, h, hlt => by
    obtain ⟨v, vs, d, ds, p, q, rfl, rfl, rfl, h1, h2⟩ := trodAll_cons h
    have h3 := ht t List.mem_cons_self
    exact ⟨p, q, WideElems.Trod_stays hl h3.1 h3.2 h1 (fun x hx => keep_same hk (hlt x (List.mem_append_left _ hx))) (fun x hx => by simpa using hlt x (List.mem_append_left _ hx)),
      trodAll_kept hl hk (fun t hx => ht t (List.mem_cons_of_mem _ hx)) h2 (fun x hx => hlt x (List.mem_append_right _ hx)), rfl⟩
theorem law_post {P : Program} {H : Type} {enc : TypeId × Value → H} {fn : Func} {s : ChangeSpec} {apart fresh : Bool} {w w' : World} {args : Array Value} {ds gs : List (DataW H)} {before : List MemPlace} {tb : TypeId} (hl : laidOutB P = true) (hr : fn.resultTypes = #[tb]) (hb : P.underlying tb = some .bool)
    (hts : ∀ t ∈ fn.params.toList, P.readableRec t = true ∧ t < P.types.size) (hv : s.vars = []) (hW : DataW.Whole enc P fn.params.toList s.vars apart w args.toList ds gs before) (hs : s.fn H (ds ++ gs) = { results := [.lit (.bool true)], args := ds }) (hk : Keep Emp w w') :
    s.post enc P fn apart fresh false false w args (.bool true) w' := by
  have hlt := hW.lt
  obtain ⟨p, q, h1, h2, rfl, h3, h4⟩ := id hW
  refine ⟨ds, gs, p ++ q, [], p, [], hW, ?_, ?_, ?_, ?_, fun h => by cases h⟩
  · rw [hr, hs]
    exact trodAll_mk1 ⟨1, by simp [DataW.trod, hb, Value.cells]⟩
  · rw [hs]
    exact trodAll_kept hl hk hts h1 (fun x hx => hlt x (List.mem_append_left _ hx))
  · rw [hs, hv]
    exact rfl
  · obtain ⟨a, b, c⟩ := keep_kept hk
    refine ⟨a, b, fun i hi => ?_⟩
    have := c i hi
    revert this
    cases w.heap[i]? with
    | none => exact fun h => h
    | some o =>
      cases w'.heap[i]? with
      | none => intro h; cases o <;> exact h
      | some o' =>
        cases o <;> cases o' <;> intro h <;> first | exact h | exact ⟨h.1, h.2.1, h.2.2.1, fun j _ => h.2.2.2 j (fun x => x)⟩ | exact .inr (h.resolve_left (fun x => x))
end Go.Eng
namespace Go.Eng
open Go Go.ChangeShapes Go.WideShapes
def TrueKept (W : World) : Ending → World → Prop := fun e w' => e = .returned (.bool true) ∧ Keep Emp W w'
theorem Sig.kept {P : Program} {f : FuncId} {svs : List SV} {X0 : List (Nat × Pred)} (h : Sig P f svs X0 (.b true) []) {W : World} {ν : Nat → Value} (hX : FactsOK ν (World.all W) X0) : Calls P f (svs.map (den0 ν)).toArray W (TrueKept W) := by
  have := h (World.all W) W ν (World.all_on W) hX
  refine callsIn_wide.1 (CallsIn.mono this ?_)
  rintro e w' ⟨I', us, rfl, hk, _⟩
  exact ⟨rfl, hk⟩
theorem lawLifted {C : Checked} {os : Os} {f : FuncId} {fn : Func} {H : Type} {enc : TypeId × Value → H} {s : ChangeSpec} {conds : List PathCond} {fresh : Bool} {tb : TypeId}
    (own : ownKnob C.prog.godebug = none) (started : os.Started) (noInit : C.prog.inits.idxOf? f = none) (hfn : C.prog.funcs[f]? = some fn)
    (witness : ∃ (w : World) (tape : Tape) (i : Input), w.os = os ∧ (w.forCall tape i).Shaped C.prog ∧ i.vars = [] ∧ Input.okWide C.prog (w.forCall tape i) .any w.heap.size f i ∧
      s.pre6 enc C.prog fn conds false (w.forCall tape i).memory i.args ∧ ({} : Assume).holds C.prog (lone (Frame.enter C.prog f i.args .normal) [] (w.forCall tape i)))
    (hl : laidOutB C.prog = true) (hr : fn.resultTypes = #[tb]) (hb : C.prog.underlying tb = some .bool) (hts : ∀ t ∈ fn.params.toList, C.prog.readableRec t = true ∧ t < C.prog.types.size) (hv : s.vars = [])
    (hs : ∀ ds : List (DataW H), ds.length = fn.params.size → s.fn H ds = { results := [.lit (.bool true)], args := ds })
    (contract : ∀ (W : World) (base : Nat) (args : Array Value) (ds : List (DataW H)) (p : List MemPlace), (∀ (j : Nat) t v, fn.params[j]? = some t → args[j]? = some v → Value.okWide C.prog W .any base t v) →
      DataW.TrodAll enc C.prog W 0 (fun _ => true) true fn.params.toList args.toList ds p → Calls C.prog f args W (TrueKept W)) :
    ReturnsInHanded {} C os f .any (s.pre6 enc C.prog fn conds false) (s.post enc C.prog fn false fresh false false) := by
  refine returnsInHanded_of_change own started noInit hfn witness ?_
  intro W base args ds gs before hval hW _ _
  obtain ⟨p, q, h1, h2, h3, h4, h5⟩ := id hW
  rw [hv] at h2
  obtain ⟨rfl, rfl⟩ := trodVars_none h2
  have hlen : ds.length = fn.params.size := by
    have key : ∀ {ts : List TypeId} {vs : List Value} {ds : List (DataW H)} {ps : List MemPlace}, DataW.TrodAll enc C.prog W 0 (fun _ => true) true ts vs ds ps → ds.length = ts.length := by
      intro ts
      induction ts with
      | nil => intro vs ds ps h; obtain ⟨_, rfl, _⟩ := trodAll_nil h; rfl
      | cons t ts ih =>
        intro vs ds ps h
        obtain ⟨v, vs', d, ds', p, q, rfl, rfl, rfl, _, h2⟩ := trodAll_cons h
        simp [ih h2]
    simpa using key h1
  refine (contract W base args ds p hval h1).mono ?_
  rintro e w' ⟨rfl, hk⟩
  exact ⟨_, rfl, law_post hl hr hb hts hv hW (by rw [List.append_nil]; exact hs ds hlen) hk⟩
theorem LeafOK.un0 {I : IH} {l : List Value} (h : LeafOK I l []) : l = [] := by
  cases l with
  | nil => rfl
  | cons _ _ => exact h.elim
theorem LeafOK.uni {I : IH} {l : List Value} {ls : List Leaf} (h : LeafOK I l (.i :: ls)) : ∃ n t, l = .int .i64 n :: t ∧ LeafOK I t ls := by
  cases l with
  | nil => exact h.elim
  | cons v t =>
    obtain ⟨⟨n, rfl⟩, h2⟩ := h
    exact ⟨n, t, rfl, h2⟩
theorem LeafOK.uns {I : IH} {l : List Value} {ls : List Leaf} {α : Type} {E : EP α} (h : LeafOK I l (.s E :: ls)) : ∃ v x t, l = v :: t ∧ (PL E x).h I v ∧ LeafOK I t ls := by
  cases l with
  | nil => exact h.elim
  | cons v t =>
    obtain ⟨⟨x, hx⟩, h2⟩ := h
    exact ⟨v, x, t, rfl, hx, h2⟩
end Go.Eng
namespace Go.Flong
open Go Go.Eng
structure Pig where
  pounds : Int
  tin : Int
  ant : Int
  pence : Int
  many : Int
instance : Inhabited Pig := ⟨⟨0, 0, 0, 0, 0⟩⟩
structure Night where
  lo : Int
  hi : Int
  test : Int
instance : Inhabited Night := ⟨⟨0, 0, 0⟩⟩
structure Shop where
  pounds : Int
  tl : Int
  th : Int
  al : Int
  ah : Int
  room : Int
  tpl : Int
  tph : Int
  apl : Int
  aph : Int
  pigs : List Pig
structure Fnd where
  shop : Shop
  nights : List Night
abbrev EPig : EP Pig := .str [.i Pig.pounds, .i Pig.tin, .i Pig.ant, .i Pig.pence, .i Pig.many]
theorem all_of {α : Type} [Inhabited α] {l : List α} {p : α → Bool} (h : ∀ j : Nat, j < l.length → p (nth l j) = true) : l.all p = true := by
  rw [List.all_eq_true]
  intro x hx
  obtain ⟨j, hj, rfl⟩ := List.mem_iff_getElem.1 hx
  have := h j hj
  simpa [nth, List.getD_eq_getElem?_getD, List.getElem?_eq_getElem hj] using this
theorem not_all {α : Type} [Inhabited α] {l : List α} {p : α → Bool} {j : Nat} (hj : j < l.length) (h : p (nth l j) = false) : l.all p = false := by
  rw [List.all_eq_false]
  refine ⟨l[j], List.getElem_mem hj, ?_⟩
  simpa [nth, List.getD_eq_getElem?_getD, List.getElem?_eq_getElem hj] using h
theorem all_nth {α : Type} [Inhabited α] {l : List α} {p : α → Bool} (h : l.all p = true) {j : Nat} (hj : j < l.length) : p (nth l j) = true := by
  have := List.all_eq_true.1 h _ (List.getElem_mem hj)
  simpa [nth, List.getD_eq_getElem?_getD, List.getElem?_eq_getElem hj] using this
def within (n lo hi : Int) : Bool := decide (lo ≤ n) && decide (n ≤ hi)
def isSpan (lo hi most : Int) : Bool := within hi 0 most && within lo 0 hi
def isPot (p tl th al ah : Int) : Bool := within p 0 400 && isSpan tl th p && isSpan al ah p && decide (th + ah ≤ p)
def isPotP (p tl th al ah : Int) : Bool := within p 0 400 && isSpan tl th p && isSpan al ah (p - th)
theorem isPotP_eq (p tl th al ah : Int) : isPotP p tl th al ah = isPot p tl th al ah := by
  rw [Bool.eq_iff_iff]; simp [isPotP, isPot, isSpan, within]; omega
def Pig.chk (p : Pig) : Bool := within p.pounds 1 40 && within p.tin 0 p.pounds && within p.ant 0 (p.pounds - p.tin) && within p.pence 0 99 && within p.many 0 5
def Shop.head (s : Shop) : Bool := isPot s.pounds s.tl s.th s.al s.ah && within s.room s.pounds 999 && isSpan s.tpl s.tph 1000 && isSpan s.apl s.aph 1000 && decide ((s.pigs.length : Int) ≤ 4)
def Shop.chk (s : Shop) : Bool := s.head && s.pigs.all Pig.chk
def allTo {α : Type} [Inhabited α] (p : α → Bool) (l : List α) : Nat → Bool
  | 0 => true
  | i + 1 => allTo p l i && p (nth l i)
theorem allTo_iff {α : Type} [Inhabited α] {p : α → Bool} {l : List α} : ∀ {i : Nat}, allTo p l i = true ↔ ∀ j : Nat, j < i → p (nth l j) = true
  | 0 => by simp [allTo]
  | i + 1 => by
    simp only [allTo, Bool.and_eq_true, allTo_iff (i := i)]
    constructor
    · rintro ⟨h1, h2⟩ j hj
      rcases Nat.lt_succ_iff_lt_or_eq.1 hj with h | rfl
      · exact h1 j h
      · exact h2
    · intro h; exact ⟨fun j hj => h j (by omega), h i (by omega)⟩
theorem allTo_len {α : Type} [Inhabited α] (p : α → Bool) (l : List α) : allTo p l l.length = l.all p := by
  rw [Bool.eq_iff_iff, allTo_iff]
  exact ⟨all_of, fun h j hj => all_nth h hj⟩
def errM (b : Bool) : Int := if b then 0 else 10
def bnd (l : List Int) (m : Int) : Prop := ∀ j : Nat, j < l.length → 0 ≤ nth l j ∧ nth l j ≤ m
def plusTo (a b : List Int) : Nat → List Int
  | 0 => List.replicate a.length 0
  | i + 1 => lset (plusTo a b i) i (nth a i + nth b i)
def plus (a b : List Int) : List Int := plusTo a b a.length
theorem plusTo_len (a b : List Int) : ∀ i, (plusTo a b i).length = a.length
  | 0 => by simp [plusTo]
  | i + 1 => by rw [plusTo, lset_len, plusTo_len a b i]
theorem plus_len (a b : List Int) : (plus a b).length = a.length := plusTo_len a b _
theorem nth_lset {l : List Int} {i : Nat} {x : Int} (h : i < l.length) (j : Nat) : nth (lset l i x) j = if j = i then x else nth l j := by
  by_cases e : j = i
  · subst e; simp [nth, lset, List.getD_eq_getElem?_getD, h]
  · have : ¬ i = j := fun h => e h.symm
    simp [nth, lset, List.getD_eq_getElem?_getD, e, List.getElem?_set, this]
theorem nth_plusTo (a b : List Int) : ∀ (i j : Nat), i ≤ a.length → j < i → nth (plusTo a b i) j = nth a j + nth b j
  | i + 1, j, hi, hj => by
    rw [plusTo, nth_lset (by rw [plusTo_len]; omega)]
    by_cases e : j = i
    · subst e; simp
    · rw [if_neg e]; exact nth_plusTo a b i j (by omega) (by omega)
theorem nth_plus {a b : List Int} {j : Nat} (h : j < a.length) : nth (plus a b) j = nth a j + nth b j := nth_plusTo a b _ j (Nat.le_refl _) h
def sumTo (f : Pig → Int) (pigs : List Pig) (add : List Int) : Nat → Int
  | 0 => 0
  | i + 1 => sumTo f pigs add i + nth add i * f (nth pigs i)
def sumOf (f : Pig → Int) (pigs : List Pig) (add : List Int) : Int := sumTo f pigs add add.length
theorem mulb {a b A B : Int} (h0 : 0 ≤ a) (h1 : a ≤ A) (h2 : 0 ≤ b) (h3 : b ≤ B) : 0 ≤ a * b ∧ a * b ≤ A * B := by
  refine ⟨Int.mul_nonneg h0 h2, ?_⟩
  exact Int.le_trans (Int.mul_le_mul_of_nonneg_right h1 h2) (Int.mul_le_mul_of_nonneg_left h3 (Int.le_trans h0 h1))
theorem sumTo_bnd {f : Pig → Int} {pigs : List Pig} {add : List Int} (ha : bnd add 1000) (hf : ∀ j : Nat, j < add.length → 0 ≤ f (nth pigs j) ∧ f (nth pigs j) ≤ 99) : ∀ i : Nat, i ≤ add.length → 0 ≤ sumTo f pigs add i ∧ sumTo f pigs add i ≤ 99000 * i
  | 0, _ => by simp [sumTo]
  | i + 1, h => by
    have h1 := sumTo_bnd ha hf i (by omega)
    have h2 := ha i (by omega)
    have h3 := hf i (by omega)
    have h4 := mulb h2.1 h2.2 h3.1 h3.2
    simp only [sumTo]; omega
theorem Pig.bnds {p : Pig} (h : p.chk = true) : 1 ≤ p.pounds ∧ p.pounds ≤ 40 ∧ 0 ≤ p.tin ∧ p.tin ≤ p.pounds ∧ 0 ≤ p.ant ∧ p.ant ≤ p.pounds - p.tin ∧ 0 ≤ p.pence ∧ p.pence ≤ 99 ∧ 0 ≤ p.many ∧ p.many ≤ 5 := by
  simp [Pig.chk, within] at h; omega
def PigsOK (l : List Pig) : Prop := l.all Pig.chk = true ∧ l.length ≤ 4
theorem PigsOK.at {l : List Pig} (h : PigsOK l) {j : Nat} (hj : j < l.length) : (nth l j).chk = true := all_nth h.1 hj
theorem Shop.pigsOK {s : Shop} (h : s.chk = true) : PigsOK s.pigs := by
  simp only [Shop.chk, Shop.head, Bool.and_eq_true, decide_eq_true_eq] at h
  exact ⟨h.2, by omega⟩
def Night.chk (n : Night) : Bool := isSpan n.lo n.hi 9 && within n.test 0 1
def hiTo (l : List Night) : Nat → Int
  | 0 => 0
  | i + 1 => hiTo l i + (nth l i).hi
def Fnd.chk (f : Fnd) : Bool := f.shop.chk && decide ((f.nights.length : Int) ≤ 4) && f.nights.all Night.chk && decide (hiTo f.nights f.nights.length ≤ f.shop.tl)
theorem errM_eq {b : Bool} : errM b = 0 ↔ b = true := by cases b <;> simp [errM]
theorem errM_ne {b : Bool} : errM b ≠ 0 ↔ b = false := by cases b <;> simp [errM]
theorem Night.bnds {n : Night} (h : n.chk = true) : 0 ≤ n.lo ∧ n.lo ≤ n.hi ∧ 0 ≤ n.hi ∧ n.hi ≤ 9 ∧ 0 ≤ n.test ∧ n.test ≤ 1 := by
  simp [Night.chk, isSpan, within] at h; omega
theorem tl_bnd {s : Shop} (h : s.chk = true) : 0 ≤ s.pounds ∧ s.pounds ≤ 400 ∧ 0 ≤ s.tl ∧ s.tl ≤ s.th ∧ s.th ≤ s.pounds ∧ 0 ≤ s.al ∧ s.al ≤ s.ah ∧ s.ah ≤ s.pounds ∧ s.th + s.ah ≤ s.pounds ∧ s.pounds ≤ s.room ∧ s.room ≤ 999 ∧ 0 ≤ s.tpl ∧ s.tpl ≤ s.tph ∧ s.tph ≤ 1000 ∧ 0 ≤ s.apl ∧ s.apl ≤ s.aph ∧ s.aph ≤ 1000 := by
  simp [Shop.chk, Shop.head, isPot, isSpan, within] at h; omega
def allI (p : Nat → Bool) : Nat → Bool
  | 0 => true
  | i + 1 => allI p i && p i
theorem allI_iff {p : Nat → Bool} : ∀ {i : Nat}, allI p i = true ↔ ∀ j : Nat, j < i → p j = true
  | 0 => by simp [allI]
  | i + 1 => by
    simp only [allI, Bool.and_eq_true, allI_iff (i := i)]
    constructor
    · rintro ⟨h1, h2⟩ j hj
      rcases Nat.lt_succ_iff_lt_or_eq.1 hj with h | rfl
      · exact h1 j h
      · exact h2
    · intro h; exact ⟨fun j hj => h j (by omega), h i (by omega)⟩
theorem allI_false {p : Nat → Bool} {i n : Nat} (hi : i < n) (h : p i = false) : allI p n = false := by
  cases he : allI p n with
  | false => rfl
  | true => rw [allI_iff.1 he i hi] at h; cases h
def fitsMany (pigs : List Pig) (add : List Int) (j : Nat) : Bool := within (nth add j) 0 (nth pigs j).many
def isAdd (s : Shop) (add : List Int) : Bool := decide ((add.length : Int) = s.pigs.length) && allI (fitsMany s.pigs add) add.length && decide (s.pounds + sumOf Pig.pounds s.pigs add ≤ s.room)
theorem fits_bnd {pigs : List Pig} {add : List Int} (hp : PigsOK pigs) (hl : add.length = pigs.length) (h : allI (fitsMany pigs add) add.length = true) : bnd add 1000 := fun j hj => by
  have h1 := allI_iff.1 h j hj
  have h2 := Pig.bnds (hp.at (show j < pigs.length by omega))
  simp [fitsMany, within] at h1; omega
theorem sumOf_bnd {f : Pig → Int} {pigs : List Pig} {add : List Int} (hp : PigsOK pigs) (hl : add.length ≤ pigs.length) (ha : bnd add 1000) (hf : ∀ p : Pig, p.chk = true → 0 ≤ f p ∧ f p ≤ 99) : 0 ≤ sumOf f pigs add ∧ sumOf f pigs add ≤ 400000 := by
  have h1 := sumTo_bnd (f := f) (pigs := pigs) ha (fun j hj => hf _ (hp.at (by omega))) add.length (Nat.le_refl _)
  have h2 := hp.2
  simp only [sumOf]; omega
def keeps1 (s : Shop) (limit p t a : Int) : Bool :=
  if limit = 1 then decide (p * s.tpl ≤ 1000 * t) else if limit = 2 then decide (1000 * t ≤ p * s.tph) else if limit = 3 then decide (p * s.apl ≤ 1000 * a) else decide (1000 * a ≤ p * s.aph)
def sameAt (a b : List Int) (j : Nat) : Bool := decide (nth a j = nth b j)
def sameInts (a b : List Int) : Bool := decide ((a.length : Int) = b.length) && allI (sameAt a b) a.length
def keeps4 (s : Shop) (p t a : Int) : Bool := allI (fun j => keeps1 s ((j : Int) + 1) p t a) 4
def Fnd.keeps (f : Fnd) (t a d : Int) (add : List Int) : Bool :=
  keeps4 f.shop (f.shop.pounds + sumOf Pig.pounds f.shop.pigs add - d) (t + sumOf Pig.tin f.shop.pigs add - d) (a + sumOf Pig.ant f.shop.pigs add)
def upTo (n : Nat) (plan : List (List Int)) : Nat → List Int
  | 0 => List.replicate n 0
  | i + 1 => plus (upTo n plan i) (nth plan i)
theorem nth_rep {n j : Nat} : nth (List.replicate n (0 : Int)) j = 0 := by
  simp [nth, List.getD_eq_getElem?_getD, List.getElem?_replicate]
  split <;> rfl
def Fnd.less (f : Fnd) (d : Int) : Shop := { f.shop with pounds := f.shop.pounds - d, tl := f.shop.tl - d, th := f.shop.th - d }
def NightsOK (l : List Night) : Prop := l.all Night.chk = true ∧ l.length ≤ 4
theorem NightsOK.at {l : List Night} (h : NightsOK l) {j : Nat} (hj : j < l.length) : (nth l j).chk = true := all_nth h.1 hj
end Go.Flong
namespace Go.Flong
open Go Go.Eng
def Fnd.holds (f : Fnd) (plan : List (List Int)) (t a : Int) : Nat → Int → Bool
  | 0, _ => true
  | n + 1, d => f.keeps t a d (upTo f.shop.pigs.length plan (f.nights.length - n)) &&
    !allI (fun j => !Fnd.holds f plan t a n (d + (nth f.nights ((f.nights.length - (n + 1) : Nat) : Int)).lo + j)) ((nth f.nights ((f.nights.length - (n + 1) : Nat) : Int)).hi - (nth f.nights ((f.nights.length - (n + 1) : Nat) : Int)).lo + 1).toNat
end Go.Flong
namespace Go.Flong
open Go Go.Eng
def flatTo {α : Type} (g : Nat → List α) : Nat → List α
  | 0 => []
  | i + 1 => flatTo g i ++ g i
theorem flatTo_len {α : Type} {g : Nat → List α} {m : Nat} : ∀ {n : Nat}, (∀ i, i < n → (g i).length ≤ m) → (flatTo g n).length ≤ n * m
  | 0, _ => by simp [flatTo]
  | n + 1, h => by
    have h1 := flatTo_len (n := n) (fun i hi => h i (by omega))
    have h2 := h n (by omega)
    rw [flatTo, List.length_append, Nat.add_mul]; omega
theorem nth_mem {α : Type} [Inhabited α] {l : List α} {i : Int} (h0 : 0 ≤ i) (h : i < l.length) : nth l i ∈ l := by
  have hi : i.toNat < l.length := by omega
  simp only [nth, List.getD_eq_getElem?_getD, List.getElem?_eq_getElem hi, Option.getD_some]
  exact List.getElem_mem hi
def Fnd.addsR (f : Fnd) (before : List Int) (d : Int) : Nat → List Int → List (List Int)
  | 0, first => if isAdd (f.less d) (plus before first) then [first] else []
  | n + 1, first => flatTo (fun j => Fnd.addsR f before d n (first ++ [(j : Int)])) ((nth f.shop.pigs first.length).many - nth before first.length + 1).toNat
theorem bnd_mono {l : List Int} {a b : Int} (h : bnd l a) (hab : a ≤ b) : bnd l b := fun j hj => by have := h j hj; omega
def neverC : Int := 1073741824
structure Sp where
  tl : Int
  th : Int
  al : Int
  ah : Int
  dl : Int
  dh : Int
def worst3 (g : Int → Int → Int → Int) (s : Sp) : Int :=
  iter (fun i w => iter (fun j w => iter (fun k w => max w (g (s.tl + (i : Int)) (s.al + (j : Int)) (s.dl + (k : Int)))) w (s.dh - s.dl + 1).toNat) w (s.ah - s.al + 1).toNat) 0 (s.th - s.tl + 1).toNat
def SpOK (f : Fnd) (night : Nat) (s : Sp) : Prop := 0 ≤ s.tl ∧ s.tl ≤ 400 ∧ 0 ≤ s.th ∧ s.th ≤ 400 ∧ 0 ≤ s.al ∧ s.al ≤ 400 ∧ 0 ≤ s.ah ∧ s.ah ≤ 400 ∧ 0 ≤ s.dl ∧ s.dl ≤ hiTo f.nights night ∧ 0 ≤ s.dh ∧ s.dh ≤ hiTo f.nights night
theorem SpOK.next {f : Fnd} (hn : NightsOK f.nights) {night : Nat} {s : Sp} (h : SpOK f night s) (hl : night < f.nights.length) : SpOK f (night + 1) { s with dl := s.dl + (nth f.nights night).lo, dh := s.dh + (nth f.nights night).hi } := by
  have := Night.bnds (hn.at hl)
  unfold SpOK at *
  simp only [hiTo]; omega
end Go.Flong
namespace Go.Flong
open Go Go.Eng
theorem bnd_snoc {l : List Int} {m x : Int} (h : bnd l m) (h0 : 0 ≤ x) (h1 : x ≤ m) : bnd (l ++ [x]) m := fun j hj => by
  simp at hj
  by_cases e : j < l.length
  · have := h j e
    simp only [nth] at this ⊢
    simpa [List.getD_eq_getElem?_getD, List.getElem?_append_left e] using this
  · have : j = l.length := by omega
    subst this
    simp [nth, List.getD_eq_getElem?_getD]; omega
end Go.Flong
namespace Go.Flong
open Go Go.Eng
end Go.Flong
namespace Go.Flong
open Go Go.Eng
end Go.Flong
namespace Go.Flong
open Go Go.Eng
end Go.Flong
namespace Go.Flong
open Go Go.Eng
end Go.Flong
namespace Go.Flong
open Go Go.Eng
structure Pt where
  pounds : Int
  tl : Int
  th : Int
  al : Int
  ah : Int
  dl : Int
  dh : Int
def PtB (p : Pt) (m : Int) : Prop := -m ≤ p.pounds ∧ p.pounds ≤ m ∧ -m ≤ p.tl ∧ p.tl ≤ m ∧ -m ≤ p.th ∧ p.th ≤ m ∧ -m ≤ p.al ∧ p.al ≤ m ∧ -m ≤ p.ah ∧ p.ah ≤ m ∧ 0 ≤ p.dl ∧ p.dl ≤ m ∧ 0 ≤ p.dh ∧ p.dh ≤ m
def Pt.addTo (p : Pt) (pigs : List Pig) (l : List Int) (i : Nat) : Pt := ⟨p.pounds + sumTo Pig.pounds pigs l i, p.tl + sumTo Pig.tin pigs l i, p.th + sumTo Pig.tin pigs l i, p.al + sumTo Pig.ant pigs l i, p.ah + sumTo Pig.ant pigs l i, p.dl, p.dh⟩
def Pt.addL (p : Pt) (pigs : List Pig) (l : List Int) : Pt := p.addTo pigs l l.length
def Pt.lose (p : Pt) (n : Night) : Pt := { p with dl := p.dl + n.lo, dh := p.dh + n.hi }
theorem addTo_bnd {p : Pt} {m : Int} (h : PtB p m) {pigs : List Pig} {l : List Int} (hp : PigsOK pigs) (hl : l.length ≤ pigs.length) (hb : bnd l 1000) {i : Nat} (hi : i ≤ l.length) : PtB (p.addTo pigs l i) (m + 400000) := by
  have h1 := sumTo_bnd (f := Pig.pounds) (pigs := pigs) hb (fun j hj => by have := Pig.bnds (hp.at (show j < pigs.length by omega)); omega) i hi
  have h2 := sumTo_bnd (f := Pig.tin) (pigs := pigs) hb (fun j hj => by have := Pig.bnds (hp.at (show j < pigs.length by omega)); omega) i hi
  have h3 := sumTo_bnd (f := Pig.ant) (pigs := pigs) hb (fun j hj => by have := Pig.bnds (hp.at (show j < pigs.length by omega)); omega) i hi
  have h4 := hp.2
  unfold PtB at *
  simp only [Pt.addTo]; omega
def Fnd.pt0 (f : Fnd) : Pt := ⟨f.shop.pounds, f.shop.tl, f.shop.th, f.shop.al, f.shop.ah, 0, 0⟩
def Fnd.pre (f : Fnd) (plan : List (List Int)) : Nat → Pt
  | 0 => f.pt0
  | i + 1 => ((Fnd.pre f plan i).addL f.shop.pigs (nth plan i)).lose (nth f.nights i)
def Fnd.at (f : Fnd) (plan : List (List Int)) (i : Nat) : Pt := (f.pre plan i).addL f.shop.pigs (nth plan i)
theorem PtB.mono {p : Pt} {a b : Int} (h : PtB p a) (hab : a ≤ b) : PtB p b := by unfold PtB at *; omega
theorem lose_bnd {p : Pt} {m : Int} (h : PtB p m) {n : Night} (hn : n.chk = true) : PtB (p.lose n) (m + 9) := by
  have := Night.bnds hn
  unfold PtB at *; simp only [Pt.lose]; omega
theorem range_at {α : Type} {N : Nat} {g : Nat → α} {i : Nat} (h : i < N) : ((List.range N).map g)[i]? = some (g i) := by simp [h]
def Fnd.sureP (f : Fnd) (p : Pt) : Bool :=
  decide ((p.pounds - p.dh) * f.shop.tpl ≤ 1000 * (p.tl - p.dh)) && decide (1000 * (p.th - p.dl) ≤ (p.pounds - p.dl) * f.shop.tph) && decide ((p.pounds - p.dl) * f.shop.apl ≤ 1000 * p.al) && decide (1000 * p.ah ≤ (p.pounds - p.dh) * f.shop.aph)
def Fnd.fitsP (f : Fnd) (p : Pt) : Bool := decide (p.pounds - p.dl ≤ f.shop.room)
def takeTo (left row : List Int) : Nat → List Int
  | 0 => left
  | j + 1 => lset (takeTo left row j) j (nth (takeTo left row j) j - nth row j)
def takeL (left row : List Int) : List Int := takeTo left row row.length
theorem takeTo_len (left row : List Int) : ∀ i, (takeTo left row i).length = left.length
  | 0 => rfl
  | i + 1 => by rw [takeTo, lset_len, takeTo_len left row i]
end Go.Flong
namespace Go.Flong
open Go Go.Eng
theorem not_allI {p : Nat → Bool} {i n : Nat} (hi : i < n) (h : p i = false) : allI p n = false := Bool.eq_false_iff.2 fun h2 => by
  have := allI_iff.1 h2 i hi
  rw [h] at this; cases this
def Pt.drop (p : Pt) (n : Int) : Pt := { p with pounds := p.pounds - n, tl := p.tl + -n, th := p.th + -n }
end Go.Flong
namespace Go.Flong
open Go Go.Eng
def boxS : List Int → List (List Int)
  | [] => [[]]
  | b :: t => (List.range (b + 1).toNat).flatMap fun (n : Nat) => (boxS t).map fun x => (n : Int) :: x
def odoS : List Int → List Int → Option (List Int)
  | b :: t, x :: xs => match odoS t xs with
    | some ys => some (x :: ys)
    | none => if x = b then none else some ((x + 1) :: List.replicate xs.length 0)
  | _, _ => none
def hdO {α : Type} : List α → Option α → Option α
  | [], e => e
  | y :: _, _ => some y
def OdoOK (left : List Int) : List (List Int) → Option (List Int) → Prop
  | [], _ => True
  | x :: t, e => odoS left x = hdO t e ∧ OdoOK left t e
theorem OdoOK.app {left : List Int} {e : Option (List Int)} {l2 : List (List Int)} (h2 : OdoOK left l2 e) : ∀ {l1 : List (List Int)}, OdoOK left l1 (hdO l2 e) → OdoOK left (l1 ++ l2) e
  | [], _ => h2
  | [x], h => by
    obtain ⟨h1, _⟩ := h
    exact ⟨by simpa [hdO] using h1, h2⟩
  | x :: y :: t, h => ⟨h.1, OdoOK.app h2 h.2⟩
theorem OdoOK.map {b n : Int} {t : List Int} : ∀ {l : List (List Int)}, (∀ x ∈ l, x.length = t.length) → OdoOK t l none → OdoOK (b :: t) (l.map (n :: ·)) (if n = b then none else some ((n + 1) :: List.replicate t.length 0))
  | [], _, _ => trivial
  | [x], hl, h => by
    have h1 : odoS t x = none := h.1
    have hx := hl x (by simp)
    refine ⟨?_, trivial⟩
    simp only [odoS, h1, hdO, List.map_nil, hx]
  | x :: y :: r, hl, h => by
    have h1 : odoS t x = some y := h.1
    refine ⟨?_, OdoOK.map (l := y :: r) (fun z hz => hl z (List.mem_cons_of_mem _ hz)) h.2⟩
    simp only [odoS, h1, hdO, List.map_cons]
theorem boxS_len : ∀ {left : List Int}, ∀ x ∈ boxS left, x.length = left.length
  | [], x, h => by simp [boxS] at h; subst h; rfl
  | b :: t, x, h => by
    simp only [boxS, List.mem_flatMap, List.mem_map] at h
    obtain ⟨n, _, y, hy, rfl⟩ := h
    simp [boxS_len y hy]
theorem boxS_hd : ∀ {left : List Int}, (∀ x ∈ left, 0 ≤ x) → ∃ r, boxS left = List.replicate left.length 0 :: r
  | [], _ => ⟨[], rfl⟩
  | b :: t, h => by
    obtain ⟨r, hr⟩ := boxS_hd (left := t) (fun x hx => h x (List.mem_cons_of_mem _ hx))
    have hb := h b List.mem_cons_self
    obtain ⟨m, hm⟩ : ∃ m, (b + 1).toNat = m + 1 := ⟨b.toNat, by omega⟩
    rw [boxS, hm, List.range_succ_eq_map, List.flatMap_cons, hr]
    simp only [List.map_cons, List.cons_append, List.length_cons, List.replicate_succ]
    exact ⟨_, rfl⟩
theorem boxS_ok : ∀ {left : List Int}, (∀ x ∈ left, 0 ≤ x) → OdoOK left (boxS left) none
  | [], _ => ⟨rfl, trivial⟩
  | b :: t, h => by
    have ht := fun x hx => h x (List.mem_cons_of_mem _ hx)
    have hb := h b List.mem_cons_self
    have ih := boxS_ok (left := t) ht
    obtain ⟨r, hr⟩ := boxS_hd ht
    have key : ∀ m k : Nat, (k : Int) + m = b + 1 → OdoOK (b :: t) ((List.range' k m).flatMap fun (n : Nat) => (boxS t).map fun x => (n : Int) :: x) none := by
      intro m
      induction m with
      | zero => intro k _; trivial
      | succ m ihm =>
        intro k hk
        rw [List.range'_succ, List.flatMap_cons]
        refine OdoOK.app (ihm (k + 1) (by omega)) ?_
        have := OdoOK.map (b := b) (n := (k : Int)) (fun x hx => boxS_len x hx) ih
        cases m with
        | zero => rw [if_pos (by omega)] at this; exact this
        | succ m =>
          rw [if_neg (by omega)] at this
          rw [List.range'_succ, List.flatMap_cons, hr]
          simp only [List.map_cons, List.cons_append, hdO]
          rw [hr] at this
          simpa using this
    have := key (b + 1).toNat 0 (by omega)
    rw [boxS, List.range_eq_range']; exact this
theorem OdoOK.at {left : List Int} : ∀ {l : List (List Int)} {e : Option (List Int)}, OdoOK left l e → ∀ i (hi : i < l.length), odoS left l[i] = if h : i + 1 < l.length then some l[i + 1] else e
  | [], _, _, i, hi => absurd hi (by simp)
  | [x], e, h, 0, _ => by simpa [hdO] using h.1
  | x :: y :: t, e, h, 0, _ => by simpa [hdO] using h.1
  | x :: t, e, h, i + 1, hi => by
    have := OdoOK.at h.2 i (by simpa using hi)
    simp only [List.getElem_cons_succ, List.length_cons]
    rw [this]
    by_cases h1 : i + 1 < t.length
    · rw [dif_pos h1, dif_pos (by omega)]
    · rw [dif_neg h1, dif_neg (by omega)]
theorem odo_none : ∀ {left : List Int}, odoS left left = none
  | [] => rfl
  | b :: t => by simp only [odoS, odo_none (left := t), if_true]
theorem odo_some : ∀ {left x : List Int} {i : Nat}, x.length = left.length → (hi : i < x.length) → (h0 : i < left.length) → x[i] ≠ left[i] → x.drop (i + 1) = left.drop (i + 1) → odoS left x = some (x.take i ++ (x[i] + 1) :: List.replicate (x.length - (i + 1)) 0)
  | b :: t, y :: ys, 0, hl, _, _, hne, hd => by
    simp only [Nat.zero_add, List.drop_succ_cons, List.drop_zero] at hd
    subst hd
    simp only [List.getElem_cons_zero] at hne
    simp only [odoS, odo_none, if_neg hne]
    simp
  | b :: t, y :: ys, i + 1, hl, hi, h0, hne, hd => by
    have := odo_some (left := t) (x := ys) (i := i) (by simpa using hl) (by simpa using hi) (by simpa using h0) (by simpa using hne) (by simpa using hd)
    simp only [odoS, this]
    simp
def zr (x : List Int) (m : Nat) : List Int := x.take (x.length - m) ++ List.replicate m 0
theorem zr_len {x : List Int} {m : Nat} (h : m ≤ x.length) : (zr x m).length = x.length := by simp [zr]; omega
theorem zr_nth {x : List Int} {m : Nat} (h : m < x.length) : nth (zr x m) ((x.length : Int) - 1 - m) = nth x ((x.length : Int) - 1 - m) := by
  have e : ((x.length : Int) - 1 - m).toNat = x.length - 1 - m := by omega
  simp only [nth, e, zr, List.getD_eq_getElem?_getD]
  rw [List.getElem?_append_left (by simp; omega), List.getElem?_take, if_pos (by omega)]
theorem zr_step {x : List Int} {m : Nat} (h : m < x.length) : lset (zr x m) ((x.length : Int) - 1 - m) 0 = zr x (m + 1) := by
  have e : ((x.length : Int) - 1 - m).toNat = x.length - 1 - m := by omega
  simp only [lset, e, zr]
  have e2 : x.length - m = x.length - 1 - m + 1 := by omega
  rw [List.set_append_left _ _ (by simp; omega), e2, List.take_succ_eq_append_getElem (by omega), List.set_append_right _ _ (by simp only [List.length_take]; omega)]
  simp only [List.length_take, show min (x.length - 1 - m) x.length = x.length - 1 - m by omega, Nat.sub_self, List.set_cons_zero, List.append_assoc, List.cons_append, List.nil_append, show x.length - (m + 1) = x.length - 1 - m by omega, List.replicate_succ]
theorem odo_zr {left x : List Int} {m : Nat} (hl : x.length = left.length) (h : m < x.length) (heq : ∀ j : Nat, x.length - m ≤ j → j < x.length → nth x j = nth left j) (hne : nth x ((x.length : Int) - 1 - m) ≠ nth left ((x.length : Int) - 1 - m)) :
    odoS left x = some (lset (zr x m) ((x.length : Int) - 1 - m) (nth (zr x m) ((x.length : Int) - 1 - m) + 1)) := by
  have e : ((x.length : Int) - 1 - m).toNat = x.length - 1 - m := by omega
  have g1 : ∀ (l : List Int) (j : Nat) (hj : j < l.length), nth l (j : Int) = l[j] := fun l j hj => by simp [nth, List.getD_eq_getElem?_getD, hj]
  have hx : nth x ((x.length : Int) - 1 - m) = x[x.length - 1 - m]'(by omega) := by rw [← g1]; congr 1; omega
  have hy : nth left ((x.length : Int) - 1 - m) = left[x.length - 1 - m]'(by omega) := by rw [← g1]; congr 1; omega
  have hd : x.drop (x.length - 1 - m + 1) = left.drop (x.length - 1 - m + 1) := by
    apply List.ext_getElem?
    intro j
    rw [List.getElem?_drop, List.getElem?_drop]
    by_cases c : x.length - 1 - m + 1 + j < x.length
    · have := heq (x.length - 1 - m + 1 + j) (by omega) c
      rw [g1 _ _ c, g1 _ _ (by omega)] at this
      rw [List.getElem?_eq_getElem c, List.getElem?_eq_getElem (by omega), this]
    · rw [List.getElem?_eq_none (by omega), List.getElem?_eq_none (by omega)]
  rw [zr_nth h, hx]
  rw [hx, hy] at hne
  rw [odo_some hl (by omega) (by omega) hne hd]
  congr 1
  simp only [lset, e, zr]
  have e2 : x.length - m = x.length - 1 - m + 1 := by omega
  rw [List.set_append_left _ _ (by simp; omega), e2, List.take_succ_eq_append_getElem (by omega), List.set_append_right _ _ (by simp only [List.length_take]; omega)]
  simp only [List.length_take, show min (x.length - 1 - m) x.length = x.length - 1 - m by omega, Nat.sub_self, List.set_cons_zero, List.append_assoc, List.cons_append, List.nil_append]
  congr 3; omega
theorem odo_last {left x : List Int} (hl : x.length = left.length) (heq : ∀ j : Nat, j < x.length → nth x j = nth left j) : odoS left x = none := by
  have : x = left := List.ext_getElem hl fun j h1 h2 => by
    have := heq j h1
    simpa [nth, List.getD_eq_getElem?_getD, h1, h2] using this
  rw [this]; exact odo_none
def Fnd.chBox (f : Fnd) (left : List Int) : List (List Int) := boxS (left.take f.shop.pigs.length)
def Fnd.chOK (f : Fnd) (p : Pt) (row : List Int) : Bool := f.fitsP (p.addL f.shop.pigs row) && f.sureP (p.addL f.shop.pigs row)
def Fnd.chL (f : Fnd) (p : Pt) (left : List Int) : List (List Int) := (f.chBox left).filter (f.chOK p)
theorem nthN {α : Type} [Inhabited α] {l : List α} {j : Nat} (hj : j < l.length) : nth l (j : Int) = l[j] := by simp [nth, List.getD_eq_getElem?_getD, hj]
theorem filter_at {α : Type} {q : α → Bool} : ∀ {l : List α} {i : Nat} (hi : i < l.length), q l[i] = true → (l.filter q)[((l.take i).filter q).length]? = some l[i]
  | x :: t, 0, _, h => by
    have h : q x = true := h
    simp [List.filter_cons, h]
  | x :: t, i + 1, hi, h => by
    have := filter_at (l := t) (i := i) (by simpa using hi) h
    simp only [List.take_succ_cons, List.filter_cons, List.getElem_cons_succ]
    by_cases hx : q x = true
    · simp only [hx, if_true, List.length_cons, List.getElem?_cons_succ]; exact this
    · simp only [hx, Bool.false_eq_true, if_false]; exact this
theorem boxS_bnd : ∀ {left : List Int} {x : List Int}, x ∈ boxS left → ∀ j : Nat, j < left.length → 0 ≤ nth x j ∧ nth x j ≤ nth left j
  | [], _, _, j, hj => absurd hj (by simp)
  | b :: t, x, h, j, hj => by
    simp only [boxS, List.mem_flatMap, List.mem_map, List.mem_range] at h
    obtain ⟨n, hn, y, hy, rfl⟩ := h
    cases j with
    | zero => simp only [nth, Int.natCast_zero, Int.toNat_zero, List.getD_cons_zero]; omega
    | succ j =>
      have := boxS_bnd hy j (by simpa using hj)
      have e : ((j + 1 : Nat) : Int).toNat = j + 1 := by omega
      have e2 : ((j : Nat) : Int).toNat = j := by omega
      simp only [nth, e, e2, List.getD_cons_succ] at this ⊢
      exact this
section ch
variable {f : Fnd} {left : List Int}
end ch
end Go.Flong
namespace Go.Eng
open Go
def PZ {α : Type} (E : EP α) (l : List α) : Pred := ⟨fun I v => (PL E l).h I v ∧ (l = [] → v = .slice none 0 0), fun hI h => ⟨(PL E l).mono hI h.1, h.2⟩⟩
theorem lxz {X : List (Nat × Pred)} {j : Nat} {α : Type} {E : EP α} {l : List α} (h : look j X = some (PZ E l)) : Has X j (PL E l) := ⟨_, h, fun _ _ h => h.1⟩
theorem lxzn {X : List (Nat × Pred)} {j : Nat} {α : Type} {E : EP α} (h : look j X = some (PZ E [])) : Has X j (Pred.is (.slice none 0 0)) := ⟨_, h, fun _ _ h => h.2 rfl⟩
theorem pz_ok {α : Type} {E : EP α} : ∀ I, (PZ E []).h I (.slice none 0 0) := fun _ => ⟨pl_nil, fun _ => rfl⟩
theorem PZ.of {α : Type} {E : EP α} {l : List α} (hl : l ≠ []) : ∀ I v, (PL E l).h I v → (PZ E l).h I v := fun _ _ h => ⟨h, fun e => absurd e hl⟩
theorem o_eqz {cx : Cx} {S : St} {dst : Option Tmp} {ty : TypeId} {pos : String} {af : Array Edge} {gd : Option (Nat × Bool)} {x : Operand} {t t' e : TypeId} {j : Nat} {α : Type} {E : EP α} {l : List α} (hT : cx.P.underlying t = some (.slice e)) (hx : S.op x = some (.e (.a (.q j)))) (hj : Has S.X j (PZ E l)) :
    OpG cx S ⟨dst, .binOp .eql t x (.const (.slice none 0 0)) t', ty, pos, af, gd⟩ (.val (.b (decide ((l.length : Int) = 0)))) :=
  OpG.pure (fun _ => by simp) fun M ε I ac w hs => ⟨trivial, by
    have h1 := hs.eval hx
    obtain ⟨⟨ad, cap, hv, hc, hl⟩, hz⟩ := hs.has hj
    simp only [SV.den, El.den, At.den, hv] at h1
    have h3 : ac.eval (.const (.slice none 0 0)) = .slice none 0 0 := rfl
    have h4 : ad.isNone = decide ((l.length : Int) = 0) := by
      cases l with
      | nil =>
        have h5 := hz rfl
        rw [hv] at h5
        simp at h5
        rw [h5.1]; rfl
      | cons y t =>
        obtain ⟨cs, ad', _, h2, _⟩ := hl 0 (by simp)
        rw [h2]
        simp only [Option.isNone, List.length_cons]
        exact (decide_eq_false (by omega)).symm
    simp [execOp, h1, h3, eqGuard, binOp, run_eqsl hT, SV.den, El.den, At.den, h4]⟩
def ItQ (P : Program) (items : List Item) : Pred := ⟨fun I v => ∃ f fs cs, v = .func (.func f) fs cs ∧ Enters' P f ∧ ∀ I' w, I.le I' → I'.on w → ItC P f (fun y => fs ++ #[y] ++ cs) I' w items, fun hI ⟨f, fs, cs, h1, h2, h3⟩ => ⟨f, fs, cs, h1, h2, fun I' w hle => h3 I' w (hI.trans hle)⟩⟩
def SigJ (P : Program) (f : FuncId) (bs : List SV) (Xc : List (Nat × Pred)) (items : List Item) : Prop := ∀ (I : IH) (w : World) (ν : Nat → Value), I.on w → FactsOK ν I Xc → ItC P f (fun y => (bs.map (den0 ν)).toArray ++ #[y] ++ #[]) I w items
theorem ItQ.hit {cx : Cx} {S : St} {j : Nat} {items : List Item} (hj : Has S.X j (ItQ cx.P items)) : ∀ M ε I a w, SatM cx M ε I S a w → ∃ f fs cs, (SV.e (.a (.q j))).den ε = .func (.func f) fs cs ∧ Enters' cx.P f ∧ ∀ w2, I.on w2 → ItC cx.P f (fun y => fs ++ #[y] ++ cs) I w2 items := fun M ε I a w hs => by
  obtain ⟨f, fs, cs, h1, h2, h3⟩ := hs.has hj
  exact ⟨f, fs, cs, h1, h2, fun w2 h => h3 I w2 IH.le.rfl' h⟩
theorem SigI.hit {cx : Cx} {S : St} {f : FuncId} {items : List Item} (hs : SigI cx.P f [] [] items) (hen : Enters' cx.P f) : ∀ M ε I a w, SatM cx M ε I S a w → ∃ f' fs cs, (SV.e (.a (.f f []))).den ε = .func (.func f') fs cs ∧ Enters' cx.P f' ∧ ∀ w2, I.on w2 → ItC cx.P f' (fun y => fs ++ #[y] ++ cs) I w2 items := fun M ε I a w _ =>
  ⟨f, #[], #[], rfl, hen, fun w2 h => hs I w2 (fun _ => undef) h trivial⟩
theorem o_mkbit {cx : Cx} {S : St} {dst : Option Tmp} {ty : TypeId} {pos : String} {af : Array Edge} {gd : Option (Nat × Bool)} {P : Program} {f : FuncId} {l : List Operand} {bs svs : List SV} {Xc : List (Nat × Pred)} {items : List Item} (k : Nat) (ρ : Nat → Nat) (hs : SigJ P f bs Xc items) (hen : Enters' P f)
    (hl : S.ops l = some svs) (hren : SvsOK S svs (bs.map (SV.ren ρ))) (hwc : ∀ x ∈ bs, x.res (keys Xc)) (hX : RenOK S.X ρ Xc) :
    OpG cx S ⟨dst, .makeFunc (.func f) l.toArray #[], ty, pos, af, gd⟩ ⟨.e (.a (.q k)), [k], [(k, ItQ P items)], [], []⟩ :=
  o_mkfn (l' := []) hl rfl fun M ε I a w h => by
    rw [hren.den h, svs_ren hwc]
    exact ⟨f, _, _, rfl, hen, fun I' w' hle hon => hs I' w' _ hon (FactsOK.mono hle (FactsOK.of (fun j R hj => h.has hj) hX))⟩
theorem SigJ.intro {P : Program} {f : FuncId} {fn : Func} {c : Code} {bs : List SV} {Xc : List (Nat × Pred)} {items : List Item} (hf : P.funcs[f]? = some fn) (hb : fn.body = some c) (n ky : Nat) (hwf : ∀ x ∈ bs, x.res (keys Xc)) (hn : (keys Xc).all (Nat.blt · n) = true) (hky : Nat.blt ky n = true) (hN : Nat.ble (bs.length + 1) fn.ntmps = true)
    (h : ∀ (I : IH) (w : World) (l : Nat) (Y : Nat → YI w.heap.size) (K : YI w.heap.size) (F0 : Nat → Prop),
      (∀ i it, items[i]? = some it → ∀ F I' w' us vs, (Y i).J F I' w' → I.le I' → I'.on w' → w.heap.size ≤ w'.heap.size → (∀ b, F0 b → F b) → it.ok F I' w' us vs → RoundR P l vs w.heap.size F I' w' (Y (i + 1)) K) →
      WP ⟨P, none, w, fn.ntmps, F0, I, 0, fun _ => 0, fun _ => undef⟩ ⟨n, frOf 0 (bs ++ [SV.e (.a (.v (yv l)))]), Xc, [(ky, .ext ((Y 0).xp F0))], [], []⟩ c (PostI P fn (ItR I w F0 fun F' I' w' => (Y items.length).J F' I' w' ∨ K.J F' I' w'))) :
    SigJ P f bs Xc items := fun I w ν hI hX l Y K F0 hY hround => by
  have hky' : ky < n := by rw [Nat.blt_eq] at hky; exact hky
  refine It.intro hf hb hI hY ν (bs ++ [SV.e (.a (.v (yv l)))]) Xc n ky _ rfl ?_ hX ?_ (fun k hk => by simpa [Nat.blt_eq] using List.all_eq_true.1 hn k hk) hky' (by simpa using hN) (h I w l Y K F0 hround)
  · show _ = ((bs ++ [SV.e (.a (.v (yv l)))]).map (den0 ν)).toArray
    rw [List.map_append]
    simp [den0, SV.den, El.den, At.den]
  · intro x hx
    rcases List.mem_append.1 hx with hx | hx
    · exact hwf x hx
    · rw [List.mem_singleton] at hx; subst hx; trivial
section
variable {cx : Cx} {Q : Exit → Act → World → Prop} {g : Operand} {ps : List Tmp} {assign body : Code} {j : Nat} {items : List Item} {fid : FuncId}
variable {n : Nat} {fr : List (Nat × SV)} {X : List (Nat × Pred)} {L : List (Nat × Ent)} {D : List Nat} {G : List (Nat × Bool)}
theorem WP.rangeV {fv : SV} (m q N : Nat) (gI : Nat → Item) (Sg : Nat → St) (Kx : Code → St → Prop) (hr : cx.r = none) (hg : St.op ⟨n, fr, X, L, D, G⟩ g = some fv)
    (hv : ∀ M ε I a w, SatM cx M ε I ⟨n, fr, X, L, D, G⟩ a w → ∃ f fs cs, fv.den ε = .func (.func f) fs cs ∧ Enters' cx.P f ∧ ∀ w2, I.on w2 → ItC cx.P f (fun y => fs ++ #[y] ++ cs) I w2 items) (hit : items = (List.range N).map gI)
    (hst : ∀ i, RSt fr (n :: D) m (n + 1) (Sg i)) (hkx : ∀ c T, Kx c T → RSt fr (n :: D) m (n + 1) T) (hfr : fr.all (fun p => p.2.kbp (n + 2)) = true) (hD : (n :: D).all (Nat.blt · (n + 2)) = true) (hm : Nat.ble (n + 2) m = true)
    (hitem : ∀ i, i < N → ItemOK q ps (gI i)) (hnd : nodupb ps = true) (hps : ps.all (Nat.blt · cx.N) = true)
    (ρ : Nat → Nat) (h0 : LeR (n + 2) ⟨n + 2, fr, X, (n, .ob (.deferred (some []))) :: L, n :: D, []⟩ (Sg 0) ρ)
    (round : ∀ i, i < N → ∀ (w0 : World) (E : Nat → Prop) (I0 : IH) (R1 : Loop) (pβ : Nat → Nat) (pν us : Nat → Value), WP ⟨cx.P, some (pβ (n + 1)), w0, cx.N, E, I0, n + 2, pβ, pν⟩ (roundSt m q (n + 1) ps (gI i) (Sg i) { R1 with state := .ready } us) assign
      (AsgQ ⟨cx.P, some (pβ (n + 1)), w0, cx.N, E, I0, n + 2, pβ, pν⟩ (n + 1) { R1 with state := .ready } body (RndQ ⟨cx.P, some (pβ (n + 1)), w0, cx.N, E, I0, n + 2, pβ, pν⟩ (n + 1) { R1 with state := .busy } (Sg (i + 1)) Kx)))
    (hjump : ∀ c T, Kx c T → WP cx T c Q) (hnorm : EX cx (Sg N) .normal Q) : WP cx ⟨n, fr, X, L, D, G⟩ (.rangeFunc g ps.toArray assign body) Q := by
  subst hit
  exact WP.range hr (Rng.ofG hst hkx hfr hD hm hitem hnd hps round) hg hv ρ h0 (by simpa using hnorm) hjump
theorem WP.rangeV2 {fv : SV} {l0 : Nat} {rec0 : Loop} (kl0 : Nat) (m q N : Nat) (gI : Nat → Item) (Sg : Nat → St) (Kx : Code → St → Prop) (hr : cx.r = some l0) (hkl0 : Nat.blt kl0 cx.nB = true) (hpl : cx.pβ kl0 = l0) (hlk : look kl0 L = some (.ob (.loop rec0))) (hg : St.op ⟨n, fr, X, L, D, G⟩ g = some fv)
    (hv : ∀ M ε I a w, SatM cx M ε I ⟨n, fr, X, L, D, G⟩ a w → ∃ f fs cs, fv.den ε = .func (.func f) fs cs ∧ Enters' cx.P f ∧ ∀ w2, I.on w2 → ItC cx.P f (fun y => fs ++ #[y] ++ cs) I w2 items) (hit : items = (List.range N).map gI)
    (hst : ∀ i, RSt fr D m (n + 1) (Sg i)) (hkx : ∀ c T, Kx c T → RSt fr D m (n + 1) T) (hfr : fr.all (fun p => p.2.kbp (n + 2)) = true) (hD : D.all (Nat.blt · (n + 2)) = true) (hm : Nat.ble (n + 2) m = true)
    (hitem : ∀ i, i < N → ItemOK q ps (gI i)) (hnd : nodupb ps = true) (hps : ps.all (Nat.blt · cx.N) = true)
    (ρ : Nat → Nat) (h0 : LeR (n + 2) ⟨n + 2, fr, X, L, D, []⟩ (Sg 0) ρ)
    (round : ∀ i, i < N → ∀ (w0 : World) (E : Nat → Prop) (I0 : IH) (R1 : Loop) (pβ : Nat → Nat) (pν us : Nat → Value), WP ⟨cx.P, some (pβ (n + 1)), w0, cx.N, E, I0, n + 2, pβ, pν⟩ (roundSt m q (n + 1) ps (gI i) (Sg i) { R1 with state := .ready } us) assign
      (AsgQ ⟨cx.P, some (pβ (n + 1)), w0, cx.N, E, I0, n + 2, pβ, pν⟩ (n + 1) { R1 with state := .ready } body (RndQ ⟨cx.P, some (pβ (n + 1)), w0, cx.N, E, I0, n + 2, pβ, pν⟩ (n + 1) { R1 with state := .busy } (Sg (i + 1)) Kx)))
    (hjump : ∀ c T, Kx c T → WP cx T c Q) (hnorm : EX cx (Sg N) .normal Q) : WP cx ⟨n, fr, X, L, D, G⟩ (.rangeFunc g ps.toArray assign body) Q := by
  subst hit
  exact WP.range2 hr (by rw [Nat.blt_eq] at hkl0; exact hkl0) hpl hlk (Rng.ofG hst hkx hfr hD hm hitem hnd hps round) hg hv ρ h0 (by simpa using hnorm) hjump
end
section
variable {cx : Cx} {n : Nat} {fr : List (Nat × SV)} {X : List (Nat × Pred)} {L : List (Nat × Ent)} {D : List Nat} {G : List (Nat × Bool)}
theorem Imp.fact (k : Nat) {R R' : Pred} (hk : Has X k R) (h : ∀ I v, R.h I v → R'.h I v) : Imp cx ⟨n, fr, X, L, D, G⟩ ⟨n, fr, (k, R') :: X, L, D, G⟩ := fun ε I a w hs => by
  have h0 := hs.has hk
  obtain ⟨R0, h1, h2⟩ := hk
  refine ⟨ε, I, { hs with wfX := fun j R hj => ?_, X := fun j R hj => ?_ }⟩
  · have hj : look j ((k, R') :: X) = some R := hj
    rw [look_cons] at hj
    by_cases h : k = j
    · subst h; exact hs.wfX k _ h1
    · simp [h] at hj; exact hs.wfX j R hj
  · have hj : look j ((k, R') :: X) = some R := hj
    rw [look_cons] at hj
    by_cases h3 : k = j
    · subst h3; simp at hj; subst hj; exact h _ _ h0
    · simp [h3] at hj; exact hs.X j R hj
end
end Go.Eng
namespace Go.Flong
open Go Go.Eng
structure Po where
  pounds : Int
  tl : Int
  th : Int
  al : Int
  ah : Int
def PoB (p : Po) : Prop := 0 ≤ p.pounds ∧ p.pounds ≤ 1000000 ∧ -1000000 ≤ p.tl ∧ p.tl ≤ 1000000 ∧ -1000000 ≤ p.th ∧ p.th ≤ 1000000 ∧ -1000000 ≤ p.al ∧ p.al ≤ 1000000 ∧ -1000000 ≤ p.ah ∧ p.ah ≤ 1000000
def Shop.aft (s : Shop) (add : List Int) : Po := ⟨s.pounds + sumOf Pig.pounds s.pigs add, s.tl + sumOf Pig.tin s.pigs add, s.th + sumOf Pig.tin s.pigs add, s.al + sumOf Pig.ant s.pigs add, s.ah + sumOf Pig.ant s.pigs add⟩
def Shop.failsP (s : Shop) (p : Po) (limit : Int) : Bool := if limit = 1 then decide (1000 * p.tl < p.pounds * s.tpl) else if limit = 2 then decide (p.pounds * s.tph < 1000 * p.th) else if limit = 3 then decide (1000 * p.al < p.pounds * s.apl) else decide (p.pounds * s.aph < 1000 * p.ah)
def Shop.safeP (s : Shop) (p : Po) : Bool := allI (fun j => !s.failsP p ((j : Int) + 1)) 4
def limItem (i : Nat) : Eng.Item := ⟨[.i ((i : Int) + 1)], [], []⟩
def limItems : List Eng.Item := (List.range 4).map limItem
theorem isAddB {s : Shop} (hs : PigsOK s.pigs) {l : List Int} (h : isAdd s l = true) : l.length = s.pigs.length ∧ bnd l 5 ∧ bnd l 1000 := by
  simp only [isAdd, Bool.and_eq_true, decide_eq_true_eq] at h
  have h0 : bnd l 5 := fun j hj => by
    have h1 := allI_iff.1 h.1.2 j hj
    have h2 := Pig.bnds (hs.at (show j < s.pigs.length by omega))
    simp [fitsMany, within] at h1; omega
  exact ⟨by omega, h0, fun j hj => by have := h0 j hj; omega⟩
theorem aft_bnd {s : Shop} (hs : s.chk = true) {l : List Int} (hl : l.length ≤ s.pigs.length) (hb : bnd l 1000) : PoB (s.aft l) := by
  have ht := tl_bnd hs
  have hp := Shop.pigsOK hs
  have h1 := sumOf_bnd (f := Pig.pounds) hp hl hb (fun p h => by have := Pig.bnds h; omega)
  have h2 := sumOf_bnd (f := Pig.tin) hp hl hb (fun p h => by have := Pig.bnds h; omega)
  have h3 := sumOf_bnd (f := Pig.ant) hp hl hb (fun p h => by have := Pig.bnds h; omega)
  unfold PoB Shop.aft
  simp only []
  omega
def Shop.manyL (s : Shop) : List Int := s.pigs.map Pig.many
def Shop.adBox (s : Shop) : List (List Int) := boxS s.manyL
def Shop.adL (s : Shop) : List (List Int) := s.adBox.filter (isAdd s)
def Shop.adIdx (s : Shop) (i : Nat) : Nat := ((s.adBox.take i).filter (isAdd s)).length
def adItem (row : List Int) : Eng.Item := ⟨[.e (.a (.q 0))], [(0, PL EP.int row)], []⟩
def Shop.adItems (s : Shop) : List Eng.Item := (List.range s.adL.length).map fun (i : Nat) => adItem (nth s.adL (i : Int))
theorem manyL_len (s : Shop) : s.manyL.length = s.pigs.length := by simp [Shop.manyL]
theorem manyL_nth {s : Shop} {j : Nat} (hj : j < s.pigs.length) : nth s.manyL j = (nth s.pigs j).many := by
  rw [nthN (by rw [manyL_len]; exact hj), nthN hj]; simp [Shop.manyL]
theorem manyL_pos {s : Shop} (hs : PigsOK s.pigs) : ∀ x ∈ s.manyL, 0 ≤ x := fun x hx => by
  obtain ⟨j, hj, rfl⟩ := List.mem_iff_getElem.1 hx
  rw [manyL_len] at hj
  rw [← nthN, manyL_nth hj]
  have := Pig.bnds (hs.at hj)
  omega
section
variable {s : Shop}
theorem adIdx_succ {i : Nat} (hi : i < s.adBox.length) : s.adIdx (i + 1) = s.adIdx i + if isAdd s (nth s.adBox i) then 1 else 0 := by
  rw [nthN hi]
  simp only [Shop.adIdx]
  rw [List.take_succ_eq_append_getElem hi, List.filter_append, List.length_append]
  congr 1
  by_cases h : isAdd s s.adBox[i] <;> simp [h]
theorem adIdx_at {i : Nat} (hi : i < s.adBox.length) (h : isAdd s (nth s.adBox i) = true) : s.adItems[s.adIdx i]? = some (adItem (nth s.adBox i)) := by
  rw [nthN hi] at h ⊢
  have h1 := filter_at hi h
  have h2 := (List.getElem?_eq_some_iff.1 h1).1
  rw [Shop.adItems, range_at (show s.adIdx i < s.adL.length from h2)]
  congr 2
  exact (nthN (show s.adIdx i < s.adL.length from h2)).trans (List.getElem?_eq_some_iff.1 h1).2
theorem adIdx_end : s.adIdx s.adBox.length = s.adItems.length := by
  simp [Shop.adIdx, Shop.adItems, Shop.adL]
theorem adBox_pos (hs : PigsOK s.pigs) : s.adBox[0]? = some (List.replicate s.pigs.length 0) := by
  obtain ⟨r, hr⟩ := boxS_hd (manyL_pos hs)
  rw [Shop.adBox, hr, manyL_len]; rfl
theorem adBox_row (hs : PigsOK s.pigs) {i : Nat} (hi : i < s.adBox.length) : (nth s.adBox (i : Int)).length = s.pigs.length ∧ bnd (nth s.adBox (i : Int)) 5 ∧ nth s.adBox (i : Int) ∈ s.adBox := by
  have hm : nth s.adBox (i : Int) ∈ s.adBox := by rw [nthN hi]; exact List.getElem_mem hi
  have h1 := boxS_len _ hm
  rw [manyL_len] at h1
  refine ⟨h1, fun j hj => ?_, hm⟩
  have h2 := boxS_bnd hm j (by rw [manyL_len]; omega)
  rw [manyL_nth (by omega)] at h2
  have := Pig.bnds (hs.at (show j < s.pigs.length by omega))
  omega
theorem ad_next (hs : PigsOK s.pigs) {i m : Nat} (hi : i < s.adBox.length) (heq : ∀ j : Nat, s.pigs.length - m ≤ j → j < s.pigs.length → nth (nth s.adBox (i : Int)) j = (nth s.pigs j).many) :
    (s.pigs.length ≤ m → i + 1 = s.adBox.length) ∧
    (m < s.pigs.length → nth (nth s.adBox (i : Int)) ((s.pigs.length : Int) - 1 - m) ≠ (nth s.pigs ((s.pigs.length : Int) - 1 - m)).many → i + 1 < s.adBox.length ∧
      lset (zr (nth s.adBox (i : Int)) m) ((s.pigs.length : Int) - 1 - m) (nth (zr (nth s.adBox (i : Int)) m) ((s.pigs.length : Int) - 1 - m) + 1) = nth s.adBox ((i + 1 : Nat) : Int)) := by
  obtain ⟨h1, _, h3⟩ := adBox_row hs hi
  have hok := OdoOK.at (boxS_ok (manyL_pos hs)) i hi
  have hr : (boxS s.manyL)[i]'hi = nth s.adBox (i : Int) := (nthN hi).symm
  rw [hr] at hok
  have hl := manyL_len s
  constructor
  · intro hm
    have h5 := odo_last (left := s.manyL) (x := nth s.adBox (i : Int)) (by rw [h1, hl]) (fun j hj => by
      rw [manyL_nth (by omega)]; exact heq j (by omega) (by omega))
    rw [h5] at hok
    by_cases h6 : i + 1 < (boxS s.manyL).length
    · rw [dif_pos h6] at hok; cases hok
    · have : s.adBox.length = (boxS s.manyL).length := rfl
      omega
  · intro hm hne
    have h5 := odo_zr (left := s.manyL) (x := nth s.adBox (i : Int)) (m := m) (by rw [h1, hl]) (by omega) (fun j hj hj2 => by
      rw [manyL_nth (by omega)]; exact heq j (by omega) (by omega)) (by
      rw [h1]
      have e : (s.pigs.length : Int) - 1 - m = ((s.pigs.length - 1 - m : Nat) : Int) := by omega
      rw [e] at hne ⊢
      rw [manyL_nth (by omega)]; exact hne)
    rw [h1] at h5
    rw [h5] at hok
    by_cases h6 : i + 1 < (boxS s.manyL).length
    · rw [dif_pos h6] at hok
      refine ⟨h6, ?_⟩
      rw [nthN (show i + 1 < s.adBox.length from h6)]
      exact Option.some.inj hok
    · rw [dif_neg h6] at hok; cases hok
theorem adL_at {i : Nat} (hi : i < s.adL.length) : isAdd s (nth s.adL (i : Int)) = true := by
  have : nth s.adL (i : Int) ∈ s.adL := by rw [nthN hi]; exact List.getElem_mem hi
  exact (List.mem_filter.1 this).2
end
def cmpI (a b : Int) : Int := if a < b then -1 else if b < a then 1 else 0
def cmpL : List Int → List Int → Int
  | [], [] => 0
  | [], _ :: _ => -1
  | _ :: _, [] => 1
  | x :: a, y :: b => if cmpI x y = 0 then cmpL a b else cmpI x y
theorem cmpI_eq {a b : Int} : cmpI a b = 0 ↔ a = b := by unfold cmpI; split; omega; split <;> omega
theorem nthSc {α : Type} [Inhabited α] {b : α} {t : List α} {j : Nat} : nth (b :: t) ((j + 1 : Nat) : Int) = nth t (j : Int) := by
  have e : ((j + 1 : Nat) : Int).toNat = j + 1 := by omega
  have e2 : ((j : Nat) : Int).toNat = j := by omega
  simp only [nth, e, e2, List.getD_cons_succ]
theorem cmpL_drop : ∀ {i : Nat} {a b : List Int}, allI (sameAt a b) i = true → i ≤ a.length → i ≤ b.length → cmpL a b = cmpL (a.drop i) (b.drop i)
  | 0, _, _, _, _, _ => by simp
  | i + 1, [], _, _, h, _ => by simp at h
  | i + 1, _ :: _, [], _, _, h => by simp at h
  | i + 1, x :: a, y :: b, h, h1, h2 => by
    have h0 := allI_iff.1 h 0 (by omega)
    have e : x = y := by simpa [sameAt, nth] using h0
    have := cmpL_drop (i := i) (a := a) (b := b) (allI_iff.2 fun j hj => by
      have := allI_iff.1 h (j + 1) (by omega)
      simpa only [sameAt, nthSc] using this) (by simpa using h1) (by simpa using h2)
    simp only [cmpL, if_pos (cmpI_eq.2 e), List.drop_succ_cons, this]
theorem drop_at {l : List Int} {i : Nat} (h : i < l.length) : l.drop i = nth l i :: l.drop (i + 1) := by
  rw [nthN h]; exact List.drop_eq_getElem_cons h
theorem cmpL_at {i : Nat} {a b : List Int} (h : allI (sameAt a b) i = true) (h1 : i < a.length) (h2 : i < b.length) (hne : cmpI (nth a i) (nth b i) ≠ 0) : cmpL a b = cmpI (nth a i) (nth b i) := by
  rw [cmpL_drop h (by omega) (by omega), drop_at h1, drop_at h2]
  simp only [cmpL, if_neg hne]
theorem cmpL_long {i : Nat} {a b : List Int} (h : allI (sameAt a b) i = true) (h1 : i < a.length) (h2 : i = b.length) : cmpL a b = 1 := by
  rw [cmpL_drop h (by omega) (by omega), drop_at h1, List.drop_of_length_le (show b.length ≤ i by omega)]; rfl
theorem cmpL_short {i : Nat} {a b : List Int} (h : allI (sameAt a b) i = true) (h1 : i = a.length) (h2 : i < b.length) : cmpL a b = -1 := by
  rw [cmpL_drop h (by omega) (by omega), drop_at h2, List.drop_of_length_le (show a.length ≤ i by omega)]; rfl
theorem cmpL_same {i : Nat} {a b : List Int} (h : allI (sameAt a b) i = true) (h1 : i = a.length) (h2 : i = b.length) : cmpL a b = 0 := by
  rw [cmpL_drop h (by omega) (by omega), List.drop_of_length_le (show b.length ≤ i by omega), List.drop_of_length_le (show a.length ≤ i by omega)]; rfl
def Shop.bestM (s : Shop) (g : List Int → List Int) : Nat → List Int × List Int
  | 0 => ([], [])
  | i + 1 => if s.safeP (s.aft (nth s.adL (i : Int))) && (decide (((Shop.bestM s g i).2.length : Int) = 0) || decide (cmpL (g (nth s.adL (i : Int))) (Shop.bestM s g i).2 < 0)) then (nth s.adL (i : Int), g (nth s.adL (i : Int))) else Shop.bestM s g i
def Shop.mBest (s : Shop) (g : List Int → List Int) : List Int × List Int := s.bestM g s.adL.length
def Shop.mE (s : Shop) (g : List Int → List Int) : Int := if s.chk then (if ((s.mBest g).2.length : Int) = 0 then 3 else 0) else 10
def Shop.mAdd (s : Shop) (g : List Int → List Int) : List Int := if s.mE g = 0 then (s.mBest g).1 else []
def Shop.mNum (s : Shop) (g : List Int → List Int) : List Int := if s.mE g = 0 then (s.mBest g).2 else []
def priceG (s : Shop) (add : List Int) : List Int := [sumOf Pig.pence s.pigs add, sumOf Pig.pounds s.pigs add]
def tinG (s : Shop) (add : List Int) : List Int := [sumOf Pig.tin s.pigs add]
def GOK (s : Shop) (g : List Int → List Int) : Prop := ∀ l, g l ≠ [] ∧ (g l).length ≤ 40
theorem price_ok (s : Shop) : GOK s (priceG s) := fun l => ⟨by simp [priceG], by simp [priceG]⟩
theorem tin_ok (s : Shop) : GOK s (tinG s) := fun l => ⟨by simp [tinG], by simp [tinG]⟩
theorem bestM_len {s : Shop} {g : List Int → List Int} (hg : GOK s g) : ∀ i : Nat, (s.bestM g i).2.length ≤ 40
  | 0 => by simp [Shop.bestM]
  | i + 1 => by
    simp only [Shop.bestM]
    split
    · exact (hg _).2
    · exact bestM_len hg i
abbrev AdL (s : Shop) := { l : List Int // l.length = s.pigs.length ∧ bnd l 1000 }
instance (s : Shop) : Inhabited (AdL s) := ⟨⟨List.replicate s.pigs.length 0, by simp, fun j _ => by rw [nth_rep]; omega⟩⟩
def opE (s : Shop) (v : Bool) : Int := if s.chk then (if v then 0 else 1) else 10
def justL (part all : Int) : Int := (all * part + 1000 - 1).tdiv 1000
def justH (part all : Int) : Int := (all * part).tdiv 1000
def Shop.canM (s : Shop) (p : Po) : Bool := decide (max p.tl (justL s.tpl p.pounds) ≤ min p.th (justH s.tph p.pounds)) && decide (max p.al (justL s.apl p.pounds) ≤ min p.ah (justH s.aph p.pounds))
def Shop.mSafe (s : Shop) (add : List Int) : Int := if opE s (isAdd s add) = 0 then (if s.safeP (s.aft add) then 1 else if s.canM (s.aft add) then 3 else 2) else 0
end Go.Flong
namespace Go.Flong
open Go Go.Eng
def opV (v : Bool) : Int := bif v then 0 else 1
theorem opE_t {s : Shop} (h : s.chk = true) (v : Bool) : opE s v = opV v := by unfold opE opV; rw [h]; cases v <;> rfl
theorem opE_f {s : Shop} (h : s.chk = false) (v : Bool) : opE s v = 10 := by unfold opE; rw [h]; rfl
def po0 : Po := ⟨0, 0, 0, 0, 0⟩
def Shop.mAft (s : Shop) (add : List Int) : Po := if opE s (isAdd s add) = 0 then s.aft add else po0
theorem opV_ne {v : Bool} : opV v ≠ 0 ↔ v = false := by cases v <;> simp [opV]
theorem opV_eq {v : Bool} : opV v = 0 ↔ v = true := by cases v <;> simp [opV]
def Shop.mCheap (s : Shop) : Int := if s.mE (priceG s) = 0 then nth (s.mNum (priceG s)) 0 else 0
def Shop.mTin (s : Shop) : Int := if s.mE (tinG s) = 0 then nth (s.mNum (tinG s)) 0 else 0
theorem mE_eq {s : Shop} {g : List Int → List Int} (h : s.mE g = 0) : s.chk = true ∧ 0 < (s.mNum g).length := by
  have h0 := h
  unfold Shop.mE at h
  cases hc : s.chk with
  | false => rw [hc] at h; simp at h
  | true =>
    rw [hc] at h
    simp only [if_true] at h
    refine ⟨rfl, ?_⟩
    unfold Shop.mNum
    rw [if_pos h0]
    by_cases e : ((s.mBest g).2.length : Int) = 0
    · rw [if_pos e] at h; omega
    · omega
end Go.Flong
namespace Go.Flong
open Go Go.Eng
instance : Inhabited Po := ⟨po0⟩
abbrev EPo : EP Po := .str [.i Po.pounds, .i Po.tl, .i Po.th, .i Po.al, .i Po.ah]
def Shop.mFailsTo (s : Shop) (add : List Int) : Nat → List Int
  | 0 => []
  | n + 1 => if s.failsP (s.aft add) ((n : Int) + 1) then Shop.mFailsTo s add n ++ [(n : Int) + 1] else Shop.mFailsTo s add n
def Shop.mFails (s : Shop) (add : List Int) : List Int := if opE s (isAdd s add) = 0 then s.mFailsTo add 4 else []
theorem mFailsTo_len (s : Shop) (add : List Int) : ∀ n, (s.mFailsTo add n).length ≤ n
  | 0 => by simp [Shop.mFailsTo]
  | n + 1 => by
    have := mFailsTo_len s add n
    simp only [Shop.mFailsTo]; split
    · simp; omega
    · omega
def Shop.mixP (s : Shop) (p : Po) : Po := ⟨s.pounds + p.pounds, s.tl + p.tl, s.th + p.th, s.al + p.al, s.ah + p.ah⟩
def isMix (s : Shop) (p : Po) : Bool := isPot p.pounds p.tl p.th p.al p.ah && decide (s.pounds + p.pounds ≤ s.room)
def Shop.mMix (s : Shop) (p : Po) : Po := if opE s (isMix s p) = 0 then s.mixP p else po0
theorem isMixB {s : Shop} {p : Po} (h : isMix s p = true) : 0 ≤ p.pounds ∧ p.pounds ≤ 400 ∧ 0 ≤ p.tl ∧ p.tl ≤ 400 ∧ 0 ≤ p.th ∧ p.th ≤ 400 ∧ 0 ≤ p.al ∧ p.al ≤ 400 ∧ 0 ≤ p.ah ∧ p.ah ≤ 400 := by
  simp only [isMix, isPot, isSpan, within, Bool.and_eq_true, decide_eq_true_eq] at h; omega
theorem potB {p tl th al ah : Int} (h : isPot p tl th al ah = true) : 0 ≤ p ∧ p ≤ 400 ∧ 0 ≤ tl ∧ tl ≤ 400 ∧ 0 ≤ th ∧ th ≤ 400 ∧ 0 ≤ al ∧ al ≤ 400 ∧ 0 ≤ ah ∧ ah ≤ 400 := by
  simp only [isPot, isSpan, within, Bool.and_eq_true, decide_eq_true_eq] at h; omega
theorem isAdd_room {s : Shop} {add : List Int} (h : isAdd s add = true) : (s.aft add).pounds ≤ s.room := by
  simp only [isAdd, Bool.and_eq_true, decide_eq_true_eq] at h; exact h.2
def Po.lead (p : Po) (n : Int) : Po := { p with pounds := p.pounds + n }
def Shop.leadTo (s : Shop) (p : Po) : Nat → Int × Int
  | 0 => (-1, 0)
  | n + 1 => if s.safeP (p.lead (n : Int)) then (if (Shop.leadTo s p n).1 < 0 then (n : Int) else (Shop.leadTo s p n).1, (n : Int)) else Shop.leadTo s p n
def Shop.leadN (s : Shop) (p : Po) : Nat := (s.room - p.pounds + 1).toNat
def Shop.leadE (s : Shop) (add : List Int) : Int := if opE s (isAdd s add) = 0 then (if (s.leadTo (s.aft add) (s.leadN (s.aft add))).1 < 0 then 3 else 0) else opE s (isAdd s add)
def Shop.mLead (s : Shop) (add : List Int) : Int × Int := if s.leadE add = 0 then s.leadTo (s.aft add) (s.leadN (s.aft add)) else (0, 0)
theorem leadTo_bnd (s : Shop) (p : Po) : ∀ n : Nat, -1 ≤ (s.leadTo p n).1 ∧ (s.leadTo p n).1 ≤ n ∧ 0 ≤ (s.leadTo p n).2 ∧ (s.leadTo p n).2 ≤ n
  | 0 => by simp [Shop.leadTo]
  | n + 1 => by
    have := leadTo_bnd s p n
    simp only [Shop.leadTo]
    split
    · split <;> simp only [] <;> omega
    · omega
end Go.Flong
namespace Go.Flong
open Go Go.Eng
structure Offer where
  pence : Int
  tl : Int
  th : Int
  al : Int
  ah : Int
instance : Inhabited Offer := ⟨⟨0, 0, 0, 0, 0⟩⟩
abbrev EOf : EP Offer := .str [.i Offer.pence, .i Offer.tl, .i Offer.th, .i Offer.al, .i Offer.ah]
def encOf (o : Offer) : List Value := [.int .i64 o.pence, .int .i64 o.tl, .int .i64 o.th, .int .i64 o.al, .int .i64 o.ah]
theorem encOf_iff (I : IH) (cs : List Value) (o : Offer) : EOf.h I cs o ↔ cs = encOf o := by
  show FdAll I o cs _ ↔ _
  constructor
  · intro h
    match cs, h with
    | [a, b, c, d, e], h => simpa [FdAll, Fd.ok, encOf] using h
  · rintro rfl
    simp [FdAll, Fd.ok, encOf]
def Shop.offer (s : Shop) (add : List Int) : Offer :=
  ⟨sumOf Pig.pence s.pigs add, justL s.tpl (s.pounds + sumOf Pig.pounds s.pigs add) - sumOf Pig.tin s.pigs add, justH s.tph (s.pounds + sumOf Pig.pounds s.pigs add) - sumOf Pig.tin s.pigs add,
   justL s.apl (s.pounds + sumOf Pig.pounds s.pigs add) - sumOf Pig.ant s.pigs add, justH s.aph (s.pounds + sumOf Pig.pounds s.pigs add) - sumOf Pig.ant s.pigs add⟩
def Offer.hit (o : Offer) (t a : Int) : Bool := within t o.tl o.th && within a o.al o.ah
theorem boxS_size : ∀ {l : List Int}, (∀ x ∈ l, x ≤ 5) → (boxS l).length ≤ 6 ^ l.length
  | [], _ => by simp [boxS]
  | b :: t, h => by
    have h1 := boxS_size (l := t) fun x hx => h x (List.mem_cons_of_mem _ hx)
    have h2 := h b List.mem_cons_self
    have e : (boxS (b :: t)).length = (b + 1).toNat * (boxS t).length := by
      simp only [boxS, List.length_flatMap, List.length_map, List.map_const', List.length_range, List.sum_replicate_nat]
    rw [e, List.length_cons, Nat.pow_succ, Nat.mul_comm (6 ^ _)]
    exact Nat.mul_le_mul (by omega) h1
theorem adL_len {s : Shop} (hs : PigsOK s.pigs) : s.adL.length ≤ 1296 := by
  have h1 : s.adL.length ≤ s.adBox.length := List.length_filter_le _ _
  have h2 := boxS_size (l := s.manyL) fun x hx => by
    obtain ⟨j, hj, rfl⟩ := List.mem_iff_getElem.1 hx
    rw [manyL_len] at hj
    rw [← nthN, manyL_nth hj]
    have := Pig.bnds (hs.at hj)
    omega
  rw [manyL_len] at h2
  have h3 : 6 ^ s.pigs.length ≤ 6 ^ 4 := Nat.pow_le_pow_right (by omega) hs.2
  have h4 : s.adBox.length = (boxS s.manyL).length := rfl
  omega
def Shop.offTo (s : Shop) : Nat → List Offer
  | 0 => []
  | i + 1 => Shop.offTo s i ++ [s.offer (nth s.adL (i : Int))]
theorem offTo_len (s : Shop) : ∀ i, (s.offTo i).length = i
  | 0 => rfl
  | i + 1 => by simp [Shop.offTo, offTo_len s i]
theorem offTo_eq (s : Shop) : ∀ i, i ≤ s.adL.length → s.offTo i = (s.adL.take i).map s.offer
  | 0, _ => by simp [Shop.offTo]
  | i + 1, h => by rw [Shop.offTo, offTo_eq s i (by omega), List.take_succ_eq_append_getElem (by omega), List.map_append, nthN (by omega)]; rfl
theorem justB {a n : Int} (h1 : 0 ≤ a ∧ a ≤ 1000) (h2 : 0 ≤ n ∧ n ≤ 1000000) : 0 ≤ justL a n ∧ justL a n ≤ 1000000 ∧ 0 ≤ justH a n ∧ justH a n ≤ 1000000 := by
  have m := mulb (a := n) (A := 1000000) (b := a) (B := 1000) (by omega) (by omega) (by omega) (by omega)
  unfold justL justH
  rw [Int.tdiv_eq_ediv_of_nonneg (by omega), Int.tdiv_eq_ediv_of_nonneg (by omega)]
  omega
def idxF (h : Offer → Bool) (l : List Offer) : Int := (l.findIdx? h).elim (-1) fun i => (i : Int)
def missF (h : Offer → Bool) (l : List Offer) (j : Nat) : Bool := !h (nth l (j : Int))
theorem idxF_at {h : Offer → Bool} {l : List Offer} {i : Nat} (hi : i < l.length) (ha : allI (missF h l) i = true) (hh : h (nth l (i : Int)) = true) : idxF h l = i := by
  have e : l.findIdx? h = some i := List.findIdx?_eq_some_iff_getElem.2 ⟨hi, by rw [← nthN hi]; exact hh, fun j hj => by
    have := allI_iff.1 ha j hj
    rw [missF, nthN (by omega)] at this
    simpa using this⟩
  rw [idxF, e]; rfl
theorem idxF_none {h : Offer → Bool} {l : List Offer} (ha : allI (missF h l) l.length = true) : idxF h l = -1 := by
  have e : l.findIdx? h = none := List.findIdx?_eq_none_iff.2 fun x hx => by
    obtain ⟨j, hj, rfl⟩ := List.mem_iff_getElem.1 hx
    have := allI_iff.1 ha j hj
    rw [missF, nthN hj] at this
    simpa using this
  rw [idxF, e]; rfl
theorem idxF_bnd (h : Offer → Bool) (l : List Offer) : -1 ≤ idxF h l ∧ idxF h l < l.length := by
  unfold idxF
  cases e : l.findIdx? h with
  | none => simp; omega
  | some i =>
    have := (List.findIdx?_eq_some_iff_getElem.1 e).1
    simp only [Option.elim]; omega
def Shop.nT (s : Shop) : Nat := (s.th - s.tl + 1).toNat
def Shop.nA (s : Shop) : Nat := (s.ah - s.al + 1).toNat
end Go.Flong
namespace Go.Eng
open Go
def SigR {α : Type} (P : Program) (f : FuncId) (fv : Value) (E : EP α) (T : TypeId) (l l' : List α) : Prop :=
  ∀ (I : IH) (w : World) (v : Value) (xs : List Value), I.on w → w.ownsRow 0 T E.size v l.length xs → (RP E l).h I xs →
    CallsIn Fence.wide 0 P f #[v, fv] w fun e w' => e = .returned (.tuple #[]) ∧ Keep (fun b => v.ownBlock = some b) w w' ∧ ∃ xs', w'.ownsRow 0 T E.size v l'.length xs' ∧ (RP E l').h I xs'
section
variable {cx : Cx} {S : St} {dst : Option Tmp} {ty : TypeId} {pos : String} {af : Array Edge} {gd : Option (Nat × Bool)}
theorem o_sigr {α : Type} {E : EP α} {P : Program} {f g : FuncId} {T : TypeId} {k : Nat} {l l' : List α} {l0 : List Operand} {ts : Array TypeId} (hs : SigR P f (.func (.func g) #[] #[]) E T l l') (hf : Enters' P f) (hP : cx.P = P)
    (hl : S.ops l0 = some [.e (.a (.q k)), .e (.a (.f g []))]) (hk : look k S.L = some (.own T E.size l.length (RP E l))) :
    OpG cx S ⟨dst, .call { callee := .value (.func f), args := l0.toArray, argTypes := ts }, ty, pos, af, gd⟩ ⟨.t [], [], [], [(k, .own T E.size l'.length (RP E l'))], []⟩ := by
  subst hP
  intro M ε I a w next Q h hN K
  obtain ⟨xs, h2, h3⟩ := h.L k _ hk
  have hft := h.foot k _ hk
  have h1 := hs I w (ε.ν k) xs h.imm h2 h3
  have hev := h.evals hl
  simp only [List.map_cons, List.map_nil, SV.den, El.den, At.den] at hev
  refine ⟨fun _ _ => trivial, ?_⟩
  have hex : (execOp a.eval ⟨dst, .call { callee := .value (.func f), args := l0.toArray, argTypes := ts }, ty, pos, af, gd⟩).run cx.P w = .ok (.enter f #[ε.ν k, .func (.func g) #[] #[]]) w := by
    simp [execOp, resolve, Act.eval, Deferred.ofValue, invoke, hev, hf _ _]
  rw [semAt_eq _ _ _ (fun _ => by simp), hex]
  refine ⟨fun h => (by cases h), CallsIn.mono (callsIn_fen h1) ?_⟩
  rintro e w' ⟨rfl, hkp, xs', h5, h6⟩
  have hfp : ∀ b, (ε.ν k).ownBlock = some b → fpOf S ε ⟨.t [], [], [], [(k, .own T E.size l'.length (RP E l'))], []⟩ b := fun b hb => ⟨k, _, by simp [look], hk, hb⟩
  show next (a.put dst _) w'
  refine K ε I w' ⟨fun _ _ => ⟨rfl, rfl, rfl⟩, IH.le.rfl', ?_, hkp.os, hkp.tape, hkp.output, hkp.size, fun b hb hn => hkp.block b hb (fun e => hn (hfp b e)), fun _ _ h => .inl h⟩
    ⟨fun _ h => (by cases h), fun _ _ h => (by cases h), fun _ _ h => (by cases h), ?_, fun _ _ h => (by cases h), ?_, ?_, ?_, fun k x h => by obtain ⟨_, h⟩ := look_one h; cases h⟩
  · intro b o hb
    rw [hkp.block b (IH.on_lt h.imm hb) (fun e => by rw [(hft b e).2.2] at hb; cases hb)]
    exact h.imm b o hb
  · intro i e' he
    obtain ⟨rfl, rfl⟩ := look_one he
    exact ⟨.inl (h.wfL i _ hk).1, trivial⟩
  · intro i e' he
    obtain ⟨rfl, rfl⟩ := look_one he
    exact ⟨_, h5, h6⟩
  · intro i e' he b hb
    obtain ⟨rfl, rfl⟩ := look_one he
    have hb : (ε.ν i).ownBlock = some b := hb
    exact ⟨(hft b hb).1, Nat.lt_of_lt_of_le (hft b hb).2.1 hkp.size, (hft b hb).2.2, .inr (hfp b hb)⟩
  · intro i i' e' e'' b he he' hne
    obtain ⟨rfl, _⟩ := look_one he
    obtain ⟨rfl, _⟩ := look_one he'
    exact absurd rfl hne
end
end Go.Eng
namespace Go.Eng
open Go Go.Sort Go.Proofs
section
theorem flat_len {α : Type} {enc : α → List Value} {k : Nat} (hk : ∀ x, (enc x).length = k) : ∀ l : List α, (l.flatMap enc).length = l.length * k
  | [] => by simp
  | x :: t => by simp [hk, flat_len hk t, Nat.add_mul]; omega
theorem flatK_eq {α : Type} [Inhabited α] {enc : α → List Value} {k : Nat} (hk : ∀ x, (enc x).length = k) (l : List α) : (flatK enc k l.toArray).toList = l.flatMap enc := by
  apply List.ext_getElem?
  intro t
  by_cases ht : t < l.length * k
  · have k0 : 0 < k := by rcases Nat.eq_zero_or_pos k with h | h; · subst h; simp at ht
                          · exact h
    have hi : t / k < l.length := (Nat.div_lt_iff_lt_mul k0).2 ht
    have hj : t % k < (enc l[t / k]).length := by rw [hk]; exact Nat.mod_lt _ k0
    have h1 := flatten_get (size := k) (c := l.map enc) (i := t / k) (j := t % k) (y := (enc l[t / k])[t % k]) (fun z hz => by obtain ⟨x, _, rfl⟩ := List.mem_map.1 hz; exact hk x) (by simpa using hi) (by rw [List.getElem_map]; exact List.getElem?_eq_getElem hj)
    rw [Nat.mul_comm, Nat.div_add_mod] at h1
    rw [List.flatMap_def, h1]
    have hs : t < (flatK enc k l.toArray).size := by simpa using ht
    have h2 := get_flatK enc k l.toArray t (by simpa using ht)
    have h3 : l.toArray[t / k]! = l[t / k] := by rw [getElem!_pos l.toArray (t / k) (by simpa using hi)]; simp
    rw [getElem!_pos (flatK enc k l.toArray) t hs, h3, getElem!_pos (enc l[t / k]) (t % k) hj] at h2
    rw [Array.getElem?_toList, Array.getElem?_eq_getElem hs, h2]
  · rw [List.getElem?_eq_none (by simp; omega), List.getElem?_eq_none (by rw [flat_len hk]; omega)]
theorem RP.encs {α : Type} {enc : α → List Value} {E : EP α} (hE : ∀ I cs x, E.h I cs x ↔ cs = enc x) {I : IH} : ∀ {l : List α} {xs : List Value}, (RP E l).h I xs ↔ xs = l.flatMap enc := fun {l xs} => by
  constructor
  · rintro ⟨css, rfl, h2, h3⟩
    rw [List.flatMap_def]
    congr 1
    refine List.ext_getElem (by simpa using h2) fun i hi hi2 => ?_
    rw [List.getElem_map]
    exact (hE _ _ _).1 (h3 i hi (by simpa using hi2))
  · rintro rfl
    refine ⟨l.map enc, by rw [List.flatMap_def], by simp, fun i hi hl => ?_⟩
    rw [List.getElem_map]
    exact (hE _ _ _).2 rfl
theorem own_holdsK {α : Type} [Inhabited α] {enc : α → List Value} {k : Nat} (hk : ∀ x, (enc x).length = k) {w : World} {g : Nat} {cur : Array Value} {T : TypeId} {l : List α} (hg : w.heap[g]? = some (.cells cur T (0, 0))) (ht : cur.toList.take (l.length * k) = l.flatMap enc) : HoldsK enc k w g 0 l.toArray := by
  intro j hj
  have hj' : j < l.length * k := by simpa using hj
  have h1 : (l.flatMap enc)[j]? = some (flatK enc k l.toArray)[j]! := by
    rw [← flatK_eq hk, Array.getElem?_toList, getElem!_pos (flatK enc k l.toArray) j hj, Array.getElem?_eq_getElem hj]
  rw [← ht, List.getElem?_take, if_pos hj'] at h1
  refine ⟨?_, ?_⟩
  · simp only [World.cell?, hg, Nat.zero_add]
    simpa using h1
  · simp [World.frozen?, hg]
theorem own_sorted {α : Type} [Inhabited α] {enc : α → List Value} {k : Nat} (hk : ∀ x, (enc x).length = k) {w : World} {g n cap : Nat} {cur : Array Value} {T : TypeId} {os : Array Obj} {d : Array α} {m : Nat} (hg : w.heap[g]? = some (.cells cur T (0, 0))) (hc : m ≤ cap) (hm : cap ≤ maxLen) (hs : cur.size = cap * k) (hd : d.size = m) :
    (sortWorldK enc k w g 0 n d os).ownsRow 0 T k (.slice (some ⟨g, 0, none⟩) m cap) m (d.toList.flatMap enc) ∧ Keep (fun b => (Value.slice (some ⟨g, 0, none⟩) m cap).ownBlock = some b) w (sortWorldK enc k w g 0 n d os) := by
  have hgl : g < w.heap.size := (Array.getElem?_eq_some_iff.1 hg).1
  have hle : m * k ≤ cur.size := by rw [hs]; exact Nat.mul_le_mul_right k hc
  have hF : (flatK enc k d).size = m * k := by rw [size_flatK, hd]
  have hh : (sortWorldK enc k w g 0 n d os).heap = (w.heap.modify g (onCells (putCells id 0 (flatK enc k d)))) ++ os := rfl
  refine ⟨⟨by rw [flat_len hk]; simp [hd], .inr ⟨g, cap, putCells id 0 (flatK enc k d) cur, rfl, Nat.zero_le _, ?_, hc, hm, by simp [putCells, hs], ?_⟩⟩, ⟨rfl, rfl, rfl, by rw [hh]; simp, fun b hb hn => ?_⟩⟩
  · rw [hh, Array.getElem?_append_left (by simpa using hgl), Array.getElem?_modify, if_pos rfl, hg]; rfl
  · rw [show d = d.toList.toArray by simp] at hF ⊢
    rw [show d.toList.toArray.toList = d.toList by simp, ← flatK_eq hk]
    apply List.ext_getElem?
    intro t
    rw [List.getElem?_take]
    by_cases ht : t < m * k
    · rw [if_pos ht, Array.getElem?_toList, Array.getElem?_toList, putCells, Array.getElem?_mapIdx, Array.getElem?_eq_getElem (show t < cur.size by omega), Array.getElem?_eq_getElem (show t < (flatK enc k d.toList.toArray).size by omega)]
      simp only [Option.map_some, id, Nat.zero_le, true_and, Nat.zero_add, Nat.sub_zero]
      rw [if_pos (by omega), getElem!_pos (flatK enc k d.toList.toArray) t (by omega)]
    · rw [if_neg ht, List.getElem?_eq_none (by simp only [Array.length_toList]; omega)]
  · have hne : g ≠ b := fun e => hn (by rw [e]; rfl)
    rw [hh, Array.getElem?_append_left (by simpa using hb), Array.getElem?_modify, if_neg hne]
end
end Go.Eng
namespace Go.Eng
open Go Go.Sort Go.Proofs Go.Shelf Go.Lib
section
variable {α : Type} [Inhabited α]
def sortL (cf : α → α → Int) (l : List α) : List α := (pdq (ltOf cf) l.toArray 0 l.toArray.size (Lib.bitLen l.toArray.size) true true).toList
theorem sortL_ok {cf : α → α → Int} (hO : SWO (ltOf cf)) (l : List α) : PermIn 0 l.toArray.size l.toArray (pdq (ltOf cf) l.toArray 0 l.toArray.size (Lib.bitLen l.toArray.size) true true) ∧ SortedIn (ltOf cf) 0 l.toArray.size (pdq (ltOf cf) l.toArray 0 l.toArray.size (Lib.bitLen l.toArray.size) true true) :=
  pdq_sorts (ltOf cf) hO l.toArray 0 l.toArray.size (Lib.bitLen l.toArray.size) true true (Nat.zero_le _) (Nat.le_refl _) (Or.inl rfl)
theorem sortL_len {cf : α → α → Int} (hO : SWO (ltOf cf)) (l : List α) : (sortL cf l).length = l.length := by
  have := (sortL_ok hO l).1.1
  simpa [sortL] using this
theorem PermIn.all {d d' : Array α} (h : PermIn 0 d.size d d') : d'.toList.Perm d.toList := by
  have h1 := h.1
  have h2 := h.2.2
  have e1 : d'.extract 0 d.size = d' := by rw [← h1]; exact Array.extract_size
  have e2 : d.extract 0 d.size = d := Array.extract_size
  rw [e1, e2] at h2
  exact h2
theorem sortL_perm {cf : α → α → Int} (hO : SWO (ltOf cf)) (l : List α) : (sortL cf l).Perm l := by
  have := PermIn.all (sortL_ok hO l).1
  simpa [sortL] using this
theorem sortL_sorted {cf : α → α → Int} (hO : SWO (ltOf cf)) (l : List α) {i j : Nat} (hij : i < j) (hj : j < (sortL cf l).length) : ¬ cf (sortL cf l)[j] ((sortL cf l)[i]'(by omega)) < 0 := by
  have hl := sortL_len hO l
  have h := (sortL_ok hO l).2 i j (Nat.zero_le _) hij (by simpa using (show j < l.length by omega))
  have hs := (sortL_ok hO l).1.1
  rw [getElem!_pos (pdq (ltOf cf) l.toArray 0 l.toArray.size (Lib.bitLen l.toArray.size) true true) j (by rw [hs]; simp; omega), getElem!_pos (pdq (ltOf cf) l.toArray 0 l.toArray.size (Lib.bitLen l.toArray.size) true true) i (by rw [hs]; simp; omega)] at h
  simpa [ltOf, sortL] using h
theorem sortSig {P : Program} {ρ : Ren} (L : SlLaysF0.n6 P ρ) {k : Nat} (aE : ∀ w, (isAgg (ρ.t 24)).run P w = .ok true w) (zE : ∀ w, (Go.sizeOf (ρ.t 24)).run P w = .ok k w) {enc : α → List Value} (hk : ∀ x, (enc x).length = k) (h1 : ∀ x, ∀ v ∈ enc x, v.oneCell' = true) {cf : α → α → Int} (hO : SWO (ltOf cf)) {g : Nat}
    (eg : ∀ args w, (callFunc g args).run P w = .ok (.enter g args) w) (hcmp : ∀ blk off size w, CmpLays P g #[] enc k cf blk off size w) {E : EP α} (hE : ∀ I cs x, E.h I cs x ↔ cs = enc x) (hs : E.size = k) {T : TypeId} {l : List α} (hl : l.length < 4611686018427387904) :
    SigR P (ρ.f 6) (.func (.func g) #[] #[]) E T l (sortL cf l) := by
  intro I w v xs hI hw hR
  rw [RP.encs hE] at hR
  subst hR
  have hlen := sortL_len hO l
  obtain ⟨hxl, hw⟩ := hw
  rcases hw with ⟨rfl, hn⟩ | ⟨gb, cap, cur, rfl, _, hg, hn, hm, hsz, htk⟩
  · have he : l = [] := List.eq_nil_of_length_eq_zero hn
    subst he
    refine callsIn_wide.2 ((AnyF.slices_SortFunc_none (P := P) (ρ := ρ) { L with } none 0 _ w).mono ?_)
    rintro e w' ⟨rfl, rfl⟩
    have h0 : sortL cf ([] : List α) = [] := List.eq_nil_of_length_eq_zero (by rw [hlen]; rfl)
    exact ⟨rfl, Keep.refl _, [], ⟨by simp [h0], .inl ⟨rfl, by simp [h0]⟩⟩, by rw [h0]; exact RP.nil⟩
  · rw [hs] at hsz htk
    have hgl : gb < w.heap.size := (Array.getElem?_eq_some_iff.1 hg).1
    have hH : HoldsK enc k w gb 0 l.toArray := own_holdsK hk hg htk
    have hc := AnyQ.slices_SortFunc_eq L k aE zE enc hk h1 cf hO g #[] gb 0 cap l.toArray w eg (hcmp gb 0 l.toArray.size w) hH hgl (by simpa using hl)
    rw [show l.toArray.size = l.length by simp] at hc
    refine callsIn_wide.2 (hc.mono ?_)
    rintro e w' ⟨rfl, n, os, rfl⟩
    have hd := (sortL_ok hO l).1.1
    have h2 := own_sorted (enc := enc) (n := n) (os := os) (d := pdq (ltOf cf) l.toArray 0 l.toArray.size (Lib.bitLen l.toArray.size) true true) hk hg hn hm hsz (by rw [hd]; simp)
    rw [hs, hlen]
    refine ⟨rfl, ?_, _, ?_, (RP.encs hE).2 rfl⟩
    · simpa using h2.2
    · simpa [sortL] using h2.1
end
end Go.Eng
namespace Go.Flong
open Go Go.Eng Go.Sort Go.Shelf Go.Proofs
def offCf (a b : Offer) : Int := Lib.compareInt a.pence b.pence
theorem offLt (x y : Offer) : ltOf offCf x y = decide (x.pence < y.pence) := by
  unfold ltOf offCf Lib.compareInt
  by_cases h1 : x.pence < y.pence
  · simp [h1]
  · by_cases h2 : y.pence < x.pence <;> simp [h1, h2]
theorem offSwo : SWO (ltOf offCf) where
  irrefl x := by rw [offLt]; simp
  trans x y z h1 h2 := by rw [offLt] at *; simp at *; omega
  ntrans x y z h1 h2 := by rw [offLt] at *; simp at *; omega
def Shop.offS (s : Shop) : List Offer := sortL offCf (s.offTo s.adL.length)
def Shop.idxAt (s : Shop) (i j : Nat) : Int := idxF (fun o => o.hit (s.tl + (i : Int)) (s.al + (j : Int))) s.offS
def Shop.hitAt (s : Shop) (i j : Nat) : Bool := decide (0 ≤ s.idxAt i j)
def Shop.penAt (s : Shop) (i j : Nat) : Int := (nth s.offS (s.idxAt i j)).pence
def stepK (p : Int × Int) (n : Int) : Int × Int := if p.1 < 0 then (n, n) else (min p.1 n, max p.2 n)
def Shop.knIn (s : Shop) (i : Nat) (p : Int × Int) : Nat → Int × Int
  | 0 => p
  | j + 1 => stepK (Shop.knIn s i p j) (s.penAt i j)
def Shop.knOut (s : Shop) : Nat → Int × Int
  | 0 => (-1, 0)
  | i + 1 => s.knIn i (Shop.knOut s i) s.nA
def Shop.knRow (s : Shop) (i : Nat) : Bool := allI (s.hitAt i) s.nA
def Shop.kE (s : Shop) : Int := if s.chk then (if allI s.knRow s.nT then 0 else 3) else 10
def Shop.mKnown (s : Shop) : Int × Int := if s.kE = 0 then s.knOut s.nT else (0, 0)
def Shop.wE (s : Shop) : Int := if s.mE (priceG s) = 0 then s.kE else s.mE (priceG s)
def Shop.mWorth (s : Shop) : Int := if s.wE = 0 then s.mCheap - s.mKnown.2 else 0
theorem offS_len (s : Shop) : s.offS.length = s.adL.length := by rw [Shop.offS, sortL_len offSwo, offTo_len]
theorem offS_mem {s : Shop} {o : Offer} (h : o ∈ s.offS) : ∃ l ∈ s.adL, s.offer l = o := by
  have h1 := (sortL_perm offSwo (s.offTo s.adL.length)).mem_iff.1 h
  rw [offTo_eq s _ (Nat.le_refl _), List.take_length] at h1
  obtain ⟨l, h2, h3⟩ := List.mem_map.1 h1
  exact ⟨l, h2, h3⟩
theorem paid_bnd {s : Shop} (hs : s.chk = true) {l : List Int} (h : isAdd s l = true) : 0 ≤ sumOf Pig.pence s.pigs l ∧ sumOf Pig.pence s.pigs l ≤ 1000000 := by
  have hp := Shop.pigsOK hs
  have hx := isAddB hp h
  have h4 := hp.2
  have := sumOf_bnd (f := Pig.pence) hp (by omega) hx.2.2 (fun p h => by have := Pig.bnds h; omega)
  omega
theorem offS_bnd {s : Shop} (hs : s.chk = true) {i : Int} (h0 : 0 ≤ i) (h1 : i < s.offS.length) : 0 ≤ (nth s.offS i).pence ∧ (nth s.offS i).pence ≤ 1000000 := by
  have e : i = ((i.toNat : Nat) : Int) := by omega
  rw [e, nthN (by omega)]
  obtain ⟨l, h2, h3⟩ := offS_mem (List.getElem_mem (show i.toNat < s.offS.length by omega))
  rw [← h3]
  exact paid_bnd hs (List.mem_filter.1 h2).2
theorem penAt_bnd {s : Shop} (hs : s.chk = true) {i j : Nat} (h : s.hitAt i j = true) : 0 ≤ s.penAt i j ∧ s.penAt i j ≤ 1000000 :=
  offS_bnd hs (by simpa [Shop.hitAt] using h) (idxF_bnd _ _).2
theorem stepK_bnd {p : Int × Int} {n : Int} (h : -1 ≤ p.1 ∧ p.1 ≤ 1000000 ∧ 0 ≤ p.2 ∧ p.2 ≤ 1000000) (hn : 0 ≤ n ∧ n ≤ 1000000) : -1 ≤ (stepK p n).1 ∧ (stepK p n).1 ≤ 1000000 ∧ 0 ≤ (stepK p n).2 ∧ (stepK p n).2 ≤ 1000000 := by
  unfold stepK; split <;> simp only [] <;> omega
theorem knIn_bnd {s : Shop} (hs : s.chk = true) {i : Nat} {p : Int × Int} (h : -1 ≤ p.1 ∧ p.1 ≤ 1000000 ∧ 0 ≤ p.2 ∧ p.2 ≤ 1000000) : ∀ {j : Nat}, allI (s.hitAt i) j = true → -1 ≤ (s.knIn i p j).1 ∧ (s.knIn i p j).1 ≤ 1000000 ∧ 0 ≤ (s.knIn i p j).2 ∧ (s.knIn i p j).2 ≤ 1000000
  | 0, _ => h
  | j + 1, ha => by
    simp only [allI, Bool.and_eq_true] at ha
    exact stepK_bnd (knIn_bnd hs h ha.1) (penAt_bnd hs ha.2)
theorem knOut_bnd {s : Shop} (hs : s.chk = true) : ∀ {i : Nat}, allI s.knRow i = true → -1 ≤ (s.knOut i).1 ∧ (s.knOut i).1 ≤ 1000000 ∧ 0 ≤ (s.knOut i).2 ∧ (s.knOut i).2 ≤ 1000000
  | 0, _ => by simp [Shop.knOut]
  | i + 1, ha => by
    simp only [allI, Bool.and_eq_true] at ha
    exact knIn_bnd hs (knOut_bnd hs ha.1) ha.2
theorem mKnown_bnd (s : Shop) : 0 ≤ s.mKnown.2 ∧ s.mKnown.2 ≤ 1000000 := by
  unfold Shop.mKnown
  split
  next h =>
    unfold Shop.kE at h
    cases hs : s.chk with
    | false => rw [hs] at h; simp at h
    | true =>
      rw [hs] at h
      simp only [if_true] at h
      have h2 : allI s.knRow s.nT = true := by
        by_cases g : allI s.knRow s.nT = true
        · exact g
        · rw [if_neg g] at h; omega
      have := knOut_bnd hs h2
      omega
  next h => simp
theorem bestM_price {s : Shop} : ∀ i, i ≤ s.adL.length → (s.bestM (priceG s) i).2 = [] ∨ ∃ l, isAdd s l = true ∧ (s.bestM (priceG s) i).2 = priceG s l
  | 0, _ => .inl rfl
  | i + 1, h => by
    simp only [Shop.bestM]
    split
    · exact .inr ⟨_, adL_at (show i < s.adL.length by omega), rfl⟩
    · exact bestM_price i (by omega)
theorem mCheap_bnd (s : Shop) : 0 ≤ s.mCheap ∧ s.mCheap ≤ 1000000 := by
  unfold Shop.mCheap
  by_cases h : s.mE (priceG s) = 0
  · rw [if_pos h]
    obtain ⟨hs, hl⟩ := mE_eq h
    unfold Shop.mNum at hl ⊢
    rw [if_pos h] at hl ⊢
    rcases bestM_price s.adL.length (Nat.le_refl _) with h1 | ⟨l, h1, h2⟩
    · rw [Shop.mBest, h1] at hl; simp at hl
    · rw [Shop.mBest, h2]; exact paid_bnd hs h1
  · rw [if_neg h]; omega
end Go.Flong
namespace Go.Flong
open Go Go.Eng
def Shop.keptIn (s : Shop) (add : List Int) (m : MapL) : Nat → MapL
  | 0 => m
  | n + 1 => if !s.failsP (s.aft add) ((n : Int) + 1) then mset (Shop.keptIn s add m n) [(n : Int) + 1] ((mget (Shop.keptIn s add m n) [(n : Int) + 1]).getD 0 + 1) else Shop.keptIn s add m n
def Shop.keptTo (s : Shop) : Nat → MapL
  | 0 => []
  | i + 1 => s.keptIn (nth s.adL (i : Int)) (Shop.keptTo s i) 4
def Shop.keptC (s : Shop) (c : Int) : Nat → Int
  | 0 => 0
  | i + 1 => Shop.keptC s c i + if s.failsP (s.aft (nth s.adL (i : Int))) c then 0 else 1
def Shop.keptAt (s : Shop) (c : Int) : Int := (mget (s.keptTo s.adL.length) [c]).getD 0
def Shop.shortTo (s : Shop) : Nat → List Int
  | 0 => []
  | n + 1 => if s.keptAt ((n : Int) + 1) = 0 then Shop.shortTo s n ++ [(n : Int) + 1] else Shop.shortTo s n
def Shop.mShort (s : Shop) : List Int := if s.chk then s.shortTo 4 else []
theorem keptIn_get (s : Shop) (add : List Int) (m : MapL) (c : Int) (h1 : 1 ≤ c) : ∀ n : Nat, (mget (s.keptIn add m n) [c]).getD 0 = (mget m [c]).getD 0 + if c ≤ n then (if s.failsP (s.aft add) c then 0 else 1) else 0
  | 0 => by simp only [Shop.keptIn]; rw [if_neg (by omega)]; omega
  | n + 1 => by
    have ih := keptIn_get s add m c h1 n
    simp only [Shop.keptIn]
    by_cases e : c = (n : Int) + 1
    · subst e
      rw [if_neg (show ¬ (n : Int) + 1 ≤ n by omega)] at ih
      rw [if_pos (show (n : Int) + 1 ≤ ((n + 1 : Nat) : Int) by omega)]
      cases hf : s.failsP (s.aft add) ((n : Int) + 1) with
      | true => simp only [Bool.not_true, Bool.false_eq_true, if_false, if_true]; rw [ih]
      | false =>
        simp only [Bool.not_false, if_true, Bool.false_eq_true, if_false]
        rw [mget_mset, if_pos rfl, Option.getD_some, ih]; omega
    · have h2 : (mget (if (!s.failsP (s.aft add) ((n : Int) + 1)) = true then mset (s.keptIn add m n) [(n : Int) + 1] ((mget (s.keptIn add m n) [(n : Int) + 1]).getD 0 + 1) else s.keptIn add m n) [c]).getD 0 = (mget (s.keptIn add m n) [c]).getD 0 := by
        split
        · rw [mget_mset, if_neg (by intro g; simp at g; omega)]
        · rfl
      rw [h2, ih]
      congr 1
      by_cases g : c ≤ (n : Int)
      · rw [if_pos g, if_pos (show c ≤ ((n + 1 : Nat) : Int) by omega)]
      · rw [if_neg g, if_neg (show ¬ c ≤ ((n + 1 : Nat) : Int) by omega)]
theorem keptTo_get (s : Shop) {c : Int} (h1 : 1 ≤ c) (h4 : c ≤ 4) : ∀ i : Nat, (mget (s.keptTo i) [c]).getD 0 = s.keptC c i
  | 0 => by simp [Shop.keptTo, Shop.keptC, mget]
  | i + 1 => by rw [Shop.keptTo, keptIn_get s _ _ c h1, keptTo_get s h1 h4 i, if_pos (by omega), Shop.keptC]
theorem keptC_bnd (s : Shop) (c : Int) : ∀ i : Nat, 0 ≤ s.keptC c i ∧ s.keptC c i ≤ i
  | 0 => by simp [Shop.keptC]
  | i + 1 => by
    have := keptC_bnd s c i
    simp only [Shop.keptC]; split <;> omega
theorem keptIn_bnd (s : Shop) (i n : Nat) {c : Int} (h1 : 1 ≤ c) (h4 : c ≤ 4) : 0 ≤ (mget (s.keptIn (nth s.adL (i : Int)) (s.keptTo i) n) [c]).getD 0 ∧ (mget (s.keptIn (nth s.adL (i : Int)) (s.keptTo i) n) [c]).getD 0 ≤ (i : Int) + 1 := by
  have h := keptC_bnd s c i
  rw [keptIn_get s _ _ c h1, keptTo_get s h1 h4]
  split
  · split <;> omega
  · omega
theorem shortTo_len (s : Shop) : ∀ n, (s.shortTo n).length ≤ n
  | 0 => by simp [Shop.shortTo]
  | n + 1 => by
    have := shortTo_len s n
    simp only [Shop.shortTo]; split
    · simp; omega
    · omega
end Go.Flong
namespace Go.Flong
open Go Go.Eng
def exM : Shop := ⟨200, 6, 8, 28, 30, 300, 40, 60, 120, 160, [⟨10, 5, 0, 30, 3⟩, ⟨20, 1, 6, 25, 2⟩, ⟨25, 0, 0, 5, 2⟩]⟩
def exL : Shop := { exM with pigs := [⟨10, 5, 0, 30, 0⟩, ⟨20, 1, 6, 25, 2⟩, ⟨25, 0, 0, 5, 2⟩] }
theorem exM_s : exM.mSafe [1, 1, 1] = 1 := by decide +kernel
theorem exM_sE : opE exM (isAdd exM [1, 1, 1]) = 0 := by decide +kernel
theorem exM_f : exM.mFails [0, 1, 0] = [1, 4] := by decide +kernel
theorem exM_fE : opE exM (isAdd exM [0, 1, 0]) = 0 := by decide +kernel
theorem exM_l : exM.mLead [1, 1, 0] = (4, 53) := by decide +kernel
theorem exM_lE : exM.leadE [1, 1, 0] = 0 := by decide +kernel
theorem exM_c : exM.mCheap = 60 := by decide +kernel
theorem exM_cE : exM.mE (priceG exM) = 0 := by decide +kernel
theorem exM_t : exM.mTin = 6 := by decide +kernel
theorem exM_tE : exM.mE (tinG exM) = 0 := by decide +kernel
end Go.Flong
namespace Go.Flong
open Go Go.Eng
theorem exM_w : exM.mWorth = 30 := by decide +kernel
theorem exM_wE : exM.wE = 0 := by decide +kernel
end Go.Flong
namespace Go.Proofs.Ytgdaeapahfjobaa
open Go Go.Eng Go.Flong Go.ChangeShapes Go.WideShapes
theorem own : ownKnob Try.prog.godebug = none := by kernel_rfl
theorem laidOut : laidOutB Try.prog = true := by kernel_rfl
theorem Y3 : Flat Try.prog 3 [.i] := Flat.int Try.underlying3 (by kernel_rfl)
theorem Y23 : Flat Try.prog 23 [.i, .i] := Flat.struct (ls := [Leaf.i] ++ ([Leaf.i] ++ [])) Try.underlying23 (.cons rfl Y3 (.cons rfl Y3 .nil)) (by kernel_rfl)
theorem Y25 : Flat Try.prog 25 [.i, .i, .i, .i, .i] := Flat.struct (ls := [Leaf.i] ++ ([Leaf.i, Leaf.i] ++ ([Leaf.i, Leaf.i] ++ []))) Try.underlying25 (.cons rfl Y3 (.cons rfl Y23 (.cons rfl Y23 .nil))) (by kernel_rfl)
theorem Y49 : Flat Try.prog 49 [.i, .i, .i, .i, .i] := Flat.struct (ls := [Leaf.i] ++ ([Leaf.i] ++ ([Leaf.i] ++ ([Leaf.i] ++ ([Leaf.i] ++ []))))) Try.underlying49 (.cons rfl Y3 (.cons rfl Y3 (.cons rfl Y3 (.cons rfl Y3 (.cons rfl Y3 .nil))))) (by kernel_rfl)
theorem X49 : ReadsE Try.prog 49 EPig := ⟨by rw [Y49.cells]; rfl, by decide, fun enc w fuel cs x hx => by
  have h := Y49.ok enc w fuel cs x hx
  match cs, h with
  | [_, _, _, _, _], ⟨⟨a, rfl⟩, ⟨b, rfl⟩, ⟨c, rfl⟩, ⟨d, rfl⟩, ⟨e, rfl⟩, _⟩ => exact ⟨⟨a, b, c, d, e⟩, rfl, rfl, rfl, rfl, rfl, trivial⟩⟩
theorem Y26 : Flat Try.prog 26 [.s EPig] := Flat.slice Try.underlying26 (by kernel_rfl) X49
theorem Y28 : Flat Try.prog 28 [.i, .i, .i, .i, .i, .i, .i, .i, .i, .i, .s EPig] := Flat.struct (ls := [Leaf.i, Leaf.i, Leaf.i, Leaf.i, Leaf.i] ++ ([Leaf.i] ++ ([Leaf.i, Leaf.i] ++ ([Leaf.i, Leaf.i] ++ ([Leaf.s EPig] ++ []))))) Try.underlying28 (.cons rfl Y25 (.cons rfl Y3 (.cons rfl Y23 (.cons rfl Y23 (.cons rfl Y26 .nil))))) (by kernel_rfl)
theorem shop_leaf {I : IH} {v : Value} {cs : Array Value} (hv : v = .agg cs) (h : LeafOK I (Value.agg cs).cells.toList [.i, .i, .i, .i, .i, .i, .i, .i, .i, .i, .s EPig]) : ∃ (s : Shop) (pv : Value), v = .agg #[.int .i64 s.pounds, .int .i64 s.tl, .int .i64 s.th, .int .i64 s.al, .int .i64 s.ah, .int .i64 s.room, .int .i64 s.tpl, .int .i64 s.tph, .int .i64 s.apl, .int .i64 s.aph, pv] ∧ (PL EPig s.pigs).h I pv := by
  obtain ⟨l⟩ := cs
  have g0 : LeafOK I l _ := h
  obtain ⟨a, l1, e1, g1⟩ := g0.uni
  obtain ⟨b, l2, e2, g2⟩ := g1.uni
  obtain ⟨c, l3, e3, g3⟩ := g2.uni
  obtain ⟨d, l4, e4, g4⟩ := g3.uni
  obtain ⟨e, l5, e5, g5⟩ := g4.uni
  obtain ⟨g, l6, e6, g6⟩ := g5.uni
  obtain ⟨i, l7, e7, g7⟩ := g6.uni
  obtain ⟨j, l8, e8, g8⟩ := g7.uni
  obtain ⟨k, l9, e9, g9⟩ := g8.uni
  obtain ⟨m, l10, e10, g10⟩ := g9.uni
  obtain ⟨pv, pl, l11, e11, hp, g11⟩ := g10.uns
  have e12 := g11.un0
  subst e12 e11 e10 e9 e8 e7 e6 e5 e4 e3 e2 e1
  exact ⟨⟨a, b, c, d, e, g, i, j, k, m, pl⟩, pv, hv, hp⟩
theorem pot_leaf {I : IH} {v : Value} {cs : Array Value} (hv : v = .agg cs) (h : LeafOK I (Value.agg cs).cells.toList [.i, .i, .i, .i, .i]) : ∃ p : Po, v = .agg #[.int .i64 p.pounds, .int .i64 p.tl, .int .i64 p.th, .int .i64 p.al, .int .i64 p.ah] := by
  obtain ⟨l⟩ := cs
  have g0 : LeafOK I l _ := h
  obtain ⟨a, l1, e1, g1⟩ := g0.uni
  obtain ⟨b, l2, e2, g2⟩ := g1.uni
  obtain ⟨c, l3, e3, g3⟩ := g2.uni
  obtain ⟨d, l4, e4, g4⟩ := g3.uni
  obtain ⟨e, l5, e5, g5⟩ := g4.uni
  have e6 := g5.un0
  subst e6 e5 e4 e3 e2 e1
  exact ⟨⟨a, b, c, d, e⟩, hv⟩
section
variable {H : Type} {enc : TypeId × Value → H} {W : World} {base : Nat} {v : Value} {d : DataW H} {p : List MemPlace}
set_option maxRecDepth 100000 in
theorem argShop (h : Value.okWide Try.prog W .any base 28 v) (ht : DataW.Trod enc Try.prog W 0 (fun _ => true) true 28 v d p) : ∃ (s : Shop) (pv : Value), v = .agg #[.int .i64 s.pounds, .int .i64 s.tl, .int .i64 s.th, .int .i64 s.al, .int .i64 s.ah, .int .i64 s.room, .int .i64 s.tpl, .int .i64 s.tph, .int .i64 s.apl, .int .i64 s.aph, pv] ∧ (PL EPig s.pigs).h (World.all W) pv := by
  obtain ⟨cs, hv, _⟩ := okWide_struct Try.underlying28 h
  obtain ⟨fuel, hf⟩ := ht
  have h1 := Y28.ok enc W fuel _ _ hf
  rw [hv] at h1
  exact shop_leaf hv h1
set_option maxRecDepth 100000 in
theorem argPot (h : Value.okWide Try.prog W .any base 25 v) (ht : DataW.Trod enc Try.prog W 0 (fun _ => true) true 25 v d p) : ∃ p : Po, v = .agg #[.int .i64 p.pounds, .int .i64 p.tl, .int .i64 p.th, .int .i64 p.al, .int .i64 p.ah] := by
  obtain ⟨cs, hv, _⟩ := okWide_struct Try.underlying25 h
  obtain ⟨fuel, hf⟩ := ht
  have h1 := Y25.ok enc W fuel _ _ hf
  rw [hv] at h1
  exact pot_leaf hv h1
set_option maxRecDepth 100000 in
theorem argInts (h : Value.okWide Try.prog W .any base 29 v) (ht : DataW.Trod enc Try.prog W 0 (fun _ => true) true 29 v d p) : ∃ l : List Int, (PL EP.int l).h (World.all W) v := by
  obtain ⟨a, len, cap, rfl⟩ := okWide_slice Try.underlying29 h
  obtain ⟨fuel, hf⟩ := ht
  obtain ⟨u, l, hu, hl⟩ := slice_pl Try.underlying29 (ReadsE.int Try.underlying3 (by kernel_rfl)) enc W fuel _ _ hf
  have : (Value.slice a len cap) = u := by simpa [Value.cells] using hu
  rw [this]; exact ⟨l, hl⟩
end
def nuL (l : List Value) (n : Nat) : Value := l.getD n undef
end Go.Proofs.Ytgdaeapahfjobaa
