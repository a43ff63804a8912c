/- The engine, part N: a round out of its walk; the statement 'for .. := range f'. -/
import Derived.Test.YtglbnodjcngefaaEngM
set_option linter.unusedSimpArgs false
set_option linter.unusedVariables false
namespace Go.Eng
open Go

theorem roundSt_sat {cx : Cx} {a : Act} {l nB m q kl : Nat} {ε0 ε : Env} {rec : Loop} {T : St} {F : Nat → Prop} {I : IH} {w : World} {fr0 : List (Nat × SV)} {D0 : List Nat} {ps : List Nat} {it : Item} {us : Nat → Value} {vs : List Value} {tmps : Array Value}
    (hJ : OutJ cx a l nB ε0 rec T F I w ε) (hT : RSt fr0 D0 m kl T) (hnB : nB ≤ m) (hkl : ε0.β kl = l) (hklB : kl < nB) (hcx : cx.nB ≤ nB) (hit : ItemOK q ps it) (hnd : ps.Nodup) (hps : ∀ t ∈ ps, t < cx.N) (hok : it.ok F I w us vs)
    (htm : tmps = (ps.zip vs).foldl (fun tmps (p : Nat × Value) => tmps.setIfInBounds p.1 p.2) a.tmps) :
    Sat ⟨cx.P, some l, w, cx.N, F, I, nB, ε0.β, ε0.ν⟩ ⟨ε.β, fun k => if k < m then ε.ν k else us (k - m), ε.γ⟩ I (roundSt m q kl ps it T rec us) { tmps := tmps, defers := [] } w := by
  subst htm
  have hvl : vs.length = it.svs.length := by rw [hok.vs]; simp
  have hMT : T.n = m := hT.n
  obtain ⟨hz1, hz2, hz3⟩ := tmps_fold ps vs a.tmps hnd (fun t ht => by rw [hJ.sat.size]; exact hps t ht) (by rw [hvl]; exact hit.len)
  have hag : Env.agree (· < m) ε ⟨ε.β, fun k => if k < m then ε.ν k else us (k - m), ε.γ⟩ := fun k hk => ⟨rfl, by have hk : k < m := hk; simp [hk], rfl⟩
  have hus : ∀ j, j < q → (fun k => if k < m then ε.ν k else us (k - m)) (m + j) = us j := fun j _ => by
    have : ¬ m + j < m := by omega
    simp [this]
  have hM : ∀ k, k < m → k < m + q := fun k hk => by omega
  have hX : ∀ j R, look j (roundSt m q kl ps it T rec us).X = some R → (∃ i, j = m + i ∧ look i it.X = some R) ∨ (∃ i R', j = m + i ∧ look i it.Lt = some R' ∧ R = Pred.is (us i)) ∨ look j T.X = some R := by
    intro j R hj
    simp only [roundSt, look_append] at hj
    cases h1 : look j (sh m it.X) with
    | some R1 =>
      rw [h1] at hj; simp at hj; subst hj
      obtain ⟨i, rfl, h2⟩ := look_sh h1
      exact .inl ⟨i, rfl, h2⟩
    | none =>
      rw [h1] at hj
      cases h2 : look j (sh m (it.Lt.map fun p => (p.1, Pred.is (us p.1)))) with
      | some R1 =>
        rw [h2] at hj; simp at hj; subst hj
        obtain ⟨i, rfl, h3⟩ := look_sh h2
        obtain ⟨p, hp, he⟩ := List.mem_map.1 (look_mem h3)
        simp only [Prod.mk.injEq] at he
        obtain ⟨rfl, rfl⟩ := he
        have : ∃ R', look p.1 it.Lt = some R' := by
          have hmem : ∀ l : List (Nat × Pred), p ∈ l → ∃ R', look p.1 l = some R' := by
            intro l
            induction l with
            | nil => intro h; cases h
            | cons y t ih =>
              intro h
              obtain ⟨k, z⟩ := y
              rw [look_cons]
              by_cases hk : k = p.1
              · simp [hk]
              · simp only [hk, if_false]
                rcases List.mem_cons.1 h with h | h
                · exact absurd (by rw [h]) hk
                · exact ih h
          exact hmem _ hp
        obtain ⟨R', hR'⟩ := this
        exact .inr (.inl ⟨p.1, R', rfl, hR', rfl⟩)
      | none => rw [h2] at hj; simp at hj; exact .inr (.inr hj)
  have hL : ∀ k e, look k (roundSt m q kl ps it T rec us).L = some e → (∃ i R, k = m + i ∧ look i it.Lt = some R ∧ e = .ext (lentXP (us i) R)) ∨ (k = kl ∧ e = .ob (.loop rec)) ∨ (k ≠ kl ∧ look k T.L = some e) := by
    intro k e he
    simp only [roundSt, look_append] at he
    cases h1 : look k (sh m (it.Lt.map fun p => (p.1, Ent.ext (lentXP (us p.1) p.2)))) with
    | some R1 =>
      rw [h1] at he; simp at he; subst he
      obtain ⟨i, rfl, h3⟩ := look_sh h1
      have key : ∀ (l : List (Nat × Pred)) e, look i (l.map fun p => (p.1, Ent.ext (lentXP (us p.1) p.2))) = some e → ∃ R, look i l = some R ∧ e = .ext (lentXP (us i) R) := by
        intro l
        induction l with
        | nil => intro e h; cases h
        | cons y t ih =>
          intro e h
          obtain ⟨k, z⟩ := y
          rw [List.map_cons, look_cons] at h
          rw [look_cons]
          by_cases hk : k = i
          · subst hk; simp at h; exact ⟨z, by simp, h.symm⟩
          · simp only [hk, if_false] at h ⊢; exact ih e h
      obtain ⟨R, h4, h5⟩ := key _ _ h3
      exact .inl ⟨i, R, rfl, h4, h5⟩
    | none =>
      rw [h1] at he
      simp only [Option.none_or, look_cons] at he
      by_cases hk : kl = k
      · subst hk; simp at he; exact .inr (.inl ⟨rfl, he.symm⟩)
      · simp [hk] at he; exact .inr (.inr ⟨fun h => hk h.symm, he⟩)
  have hkm : ∀ i R, look i it.X = some R → i < q := fun i R h => by
    simpa [Nat.blt_eq] using List.all_eq_true.1 hit.X i (look_keys h)
  have hkm' : ∀ i R, look i it.Lt = some R → i < q := fun i R h => by
    simpa [Nat.blt_eq] using List.all_eq_true.1 hit.Lt i (look_keys h)
  have hTm : ∀ k, k < T.n → k < m := fun k hk => by omega
  have hklf := hJ.F l hJ.Fl
  refine ⟨?_, ?_, ?_, fun _ h => (by cases h), fun _ _ h => (by cases h), fun _ _ h => (by cases h), ?_, rfl, ?_, ?_, ?_, ?_, ?_, hJ.sat.imm, Keep.refl w, IH.le.rfl', fun _ _ h => .inl h, ?_, ?_⟩
  · intro i x hx
    simp only [roundSt, look_append] at hx
    cases h1 : look i (ps.zip (it.svs.map (SV.ren (m + ·)))) with
    | some y =>
      rw [h1] at hx; simp at hx; subst hx
      obtain ⟨j, h2, h3⟩ := look_zip h1
      rw [List.getElem?_map] at h3
      cases h4 : it.svs[j]? with
      | none => rw [h4] at h3; cases h3
      | some z =>
        rw [h4] at h3; simp at h3; subst h3
        exact SV.kr_ren (List.all_eq_true.1 hit.kr z (List.mem_of_getElem? h4))
    | none =>
      rw [h1] at hx; simp at hx
      refine SV.on_mono (fun k hk => ?_) (hJ.sat.wfr i x hx)
      have := hTm k hk
      show k < m + q
      omega
  · intro j R hj
    show j < m + q
    rcases hX j R hj with ⟨i, rfl, h⟩ | ⟨i, R', rfl, h, _⟩ | h
    · have := hkm i R h; omega
    · have := hkm' i R' h; omega
    · have := hTm j (hJ.sat.wfX j R h); omega
  · intro k e he
    rcases hL k e he with ⟨i, R, rfl, h, rfl⟩ | ⟨rfl, rfl⟩ | ⟨_, h⟩
    · exact ⟨by have := hkm' i R h; show m + i < m + q; omega, trivial⟩
    · exact ⟨by show k < m + q; omega, trivial⟩
    · refine ⟨by have := hTm k (hJ.sat.wfL k e h).1; show k < m + q; omega, ?_⟩
      have := (hJ.sat.wfL k e h).2
      cases e <;> first | exact trivial | exact fun c hc => At.on_mono (fun k hk => by have := hTm k hk; show k < m + q; omega) (this c hc)
  · rw [hz1]; exact hJ.sat.size
  · intro i x hx
    simp only [roundSt, look_append] at hx
    cases h1 : look i (ps.zip (it.svs.map (SV.ren (m + ·)))) with
    | some y =>
      rw [h1] at hx; simp at hx; subst hx
      obtain ⟨j, h2, h3⟩ := look_zip h1
      rw [List.getElem?_map] at h3
      cases h4 : it.svs[j]? with
      | none => rw [h4] at h3; cases h3
      | some z =>
        rw [h4] at h3; simp at h3; subst h3
        rw [SV.kr_den hus (List.all_eq_true.1 hit.kr z (List.mem_of_getElem? h4))]
        refine hz3 j i _ h2 ?_
        rw [hok.vs, List.getElem?_map, h4]; rfl
    | none =>
      rw [h1] at hx; simp at hx
      have hni := look_zip_none (by simp [hit.len]) h1
      show (((ps.zip vs).foldl (fun tmps (p : Nat × Value) => tmps.setIfInBounds p.1 p.2) a.tmps))[i]? = _
      rw [hz2 i hni, hJ.sat.fr i x hx, SV.den_agree (M := (· < m)) hag (SV.on_mono (fun k hk => hTm k hk) (hJ.sat.wfr i x hx))]
  · intro j R hj
    rcases hX j R hj with ⟨i, rfl, h⟩ | ⟨i, R', rfl, h, rfl⟩ | h
    · rw [show (⟨ε.β, fun k => if k < m then ε.ν k else us (k - m), ε.γ⟩ : Env).ν (m + i) = us i from hus i (hkm i R h)]
      exact hok.X i R h
    · exact hus i (hkm' i R' h)
    · have := hTm j (hJ.sat.wfX j R h)
      rw [show (⟨ε.β, fun k => if k < m then ε.ν k else us (k - m), ε.γ⟩ : Env).ν j = ε.ν j by simp [this]]
      exact hJ.sat.X j R h
  · intro k e he
    rcases hL k e he with ⟨i, R, rfl, h, rfl⟩ | ⟨rfl, rfl⟩ | ⟨_, h⟩
    · exact (hok.Lt i R h).1
    · show w.heap[ε.β k]? = _
      rw [(hJ.ag k hklB).1, hkl]; exact hJ.lrec
    · exact Ent.ok_kept (M := (· < m)) hag IH.le.rfl' (hTm k (hJ.sat.wfL k e h).1) (by
        have := (hJ.sat.wfL k e h).2
        cases e <;> first | exact trivial | exact fun c hc => At.on_mono (fun k hk => hTm k hk) (this c hc)) (hJ.sat.L k e h) (fun _ _ => rfl) (fun x _ => ⟨IH.le.rfl', hJ.sat.imm, rfl, rfl, rfl, Nat.le_refl _, fun _ _ _ => rfl, fun _ _ h => .inl h⟩)
  · intro k e he b hb
    rcases hL k e he with ⟨i, R, rfl, h, rfl⟩ | ⟨rfl, rfl⟩ | ⟨_, h⟩
    · exact absurd hb (fun h => h)
    · have hb : b = l := by rw [← hkl, ← (hJ.ag k hklB).1]; exact hb
      subst hb
      exact ⟨.inr hJ.Fl, hklf.1, hklf.2.1⟩
    · rw [Ent.foot_agree hag (hTm k (hJ.sat.wfL k e h).1)] at hb
      have hF := (hJ.foot k e b h hb).1
      obtain ⟨h1, h2, _⟩ := hJ.F b hF
      exact ⟨.inr hF, h1, h2⟩
  · have hkl' : ∀ k e b, look k T.L = some e → e.foot ⟨ε.β, fun k => if k < m then ε.ν k else us (k - m), ε.γ⟩ k b → b ≠ ε.β kl := fun k e b he hb => by
      rw [Ent.foot_agree hag (hTm k (hJ.sat.wfL k e he).1)] at hb
      rw [(hJ.ag kl hklB).1, hkl]
      exact (hJ.foot k e b he hb).2
    intro k k' e e' b he he' hne hb hb'
    rcases hL k e he with ⟨i, R, rfl, h, rfl⟩ | ⟨rfl, rfl⟩ | ⟨_, h⟩
    · exact hb
    · rcases hL k' e' he' with ⟨i, R, rfl, h', rfl⟩ | ⟨rfl, rfl⟩ | ⟨_, h'⟩
      · exact hb'
      · exact hne rfl
      · exact hkl' k' e' b h' hb' hb
    · rcases hL k' e' he' with ⟨i, R, rfl, h', rfl⟩ | ⟨rfl, rfl⟩ | ⟨_, h'⟩
      · exact hb'
      · exact hkl' k e b h hb hb'
      · rw [Ent.foot_agree hag (hTm k (hJ.sat.wfL k e h).1)] at hb
        rw [Ent.foot_agree hag (hTm k' (hJ.sat.wfL k' e' h').1)] at hb'
        exact hJ.sat.sep k k' e e' b h h' hne hb hb'
  · intro k hk
    have hk : k < nB := hk
    obtain ⟨h1, h2⟩ := hJ.ag k hk
    have hkm : k < m := by omega
    exact ⟨by show k < m + q; omega, h1, by simpa [hkm] using h2⟩
  · intro k x hx
    rcases hL k _ hx with ⟨i, R, rfl, h, he⟩ | ⟨_, h⟩ | ⟨_, h⟩
    · cases he
      exact ⟨Nat.zero_le _, fun b hb => ⟨((hok.Lt i R h).2 b hb).1, fun hF => absurd hF ((hok.Lt i R h).2 b hb).2⟩⟩
    · cases h
    · obtain ⟨h1, h2⟩ := hT.ext k x h
      exact ⟨by omega, fun b hb => absurd hb (h2 b)⟩

/-- One round, out of the walks of its assignment and its body. -/
theorem range_round {cx : Cx} {a : Act} {l nB m q kl n1 : Nat} {ε0 ε : Env} {R0 : Loop} {T T' : St} {F : Nat → Prop} {I : IH} {w : World} {fr0 : List (Nat × SV)} {D0 : List Nat} {ps : List Nat} {it : Item} {us : Nat → Value} {vs : List Value} {Kx : Code → St → Prop} (hn1 : cx.w0.heap.size ≤ n1)
    (hrs : R0.state = .ready) (hrp : R0.pending = none) (hrt : R0.tmps = a.tmps) (hrps : R0.params = ps.toArray)
    (hJ : OutJ cx a l nB ε0 R0 T F I w ε) (hT : RSt fr0 D0 m kl T) (hT' : RSt fr0 D0 m kl T') (hKx : ∀ c T, Kx c T → RSt fr0 D0 m kl T) (hfr0 : fr0.all (fun p => p.2.kbp nB) = true) (hD0 : D0.all (Nat.blt · nB) = true)
    (hnB : nB ≤ m) (hkl : ε0.β kl = l) (hklB : kl < nB) (hcx : cx.nB ≤ nB) (hit : ItemOK q ps it) (hnd : ps.Nodup) (hps : ∀ t ∈ ps, t < cx.N) (hok : it.ok F I w us vs)
    (hround : WP ⟨cx.P, some l, w, cx.N, F, I, nB, ε0.β, ε0.ν⟩ (roundSt m q kl ps it T R0 us) R0.assign
      (AsgQ ⟨cx.P, some l, w, cx.N, F, I, nB, ε0.β, ε0.ν⟩ kl R0 R0.body (RndQ ⟨cx.P, some l, w, cx.N, F, I, nB, ε0.β, ε0.ν⟩ kl { R0 with state := .busy } T' Kx))) :
    RoundR cx.P l vs n1 F I w (OutY cx a l nB ε0 hn1 fun rec T => rec = R0 ∧ T = T') (OutY cx a l nB ε0 hn1 fun rec T => ∃ c, rec = { R0 with state := .done, pending := some c } ∧ Kx c T) := by
  have hvl : vs.length = it.svs.length := by rw [hok.vs]; simp
  refine ⟨R0.fn, (ps.zip vs).foldl (fun tmps (p : Nat × Value) => tmps.setIfInBounds p.1 p.2) a.tmps, R0.assign, R0.body, ?_, ?_⟩
  · have hsz : vs.length = ps.length := by rw [hvl, hit.len]
    have hz : ∀ (x y : List Nat) , True := fun _ _ => trivial
    simp [Instr.yield, Instr.getLoop, getObj, Sem.run, hJ.lrec, hrps, hsz, hrt]
  · refine roundIn_of_wpIn trivial ?_
    have hs0 := roundSt_sat hJ hT hnB hkl hklB hcx hit hnd hps hok rfl
    refine wpIn_mono (hround _ _ _ _ hs0) ?_
    intro e a1 w1 hq
    cases e with
    | normal =>
      obtain ⟨S, hk, hWP, ε1, I1, hs1⟩ := hq
      have hb1 := hs1.L kl _ hk
      simp only [Ent.ok] at hb1
      have hpin1 := (hs1.pin kl hklB).2.1
      have hpl : ε1.β kl = l := hpin1.trans hkl
      rw [hpl] at hb1
      have hlt1 := (Array.getElem?_eq_some_iff.1 hb1).1
      refine ⟨{ w1 with heap := w1.heap.setIfInBounds l (.loop { R0 with state := .busy }) }, ?_, ?_⟩
      · simp [Instr.beginRound, Instr.getLoop, getObj, setObj, Sem.run, hb1]
      · have hft := hs1.foot kl _ hk l (by show l = ε1.β kl; exact hpl.symm)
        have hoth : ∀ b, b ≠ l → ({ w1 with heap := w1.heap.setIfInBounds l (.loop { R0 with state := .busy }) } : World).heap[b]? = w1.heap[b]? := fun b hb => by
          simp [Array.getElem?_setIfInBounds_ne (Ne.symm hb)]
        have hfp : fpOf S ε1 ⟨.e (.a (.v undef)), [], [], [(kl, .ob (.loop { R0 with state := .busy }))], []⟩ l := ⟨kl, _, by simp [look_cons], hk, hpl.symm⟩
        have hs2 := SatM.app (d := none) (u := ⟨.e (.a (.v undef)), [], [], [(kl, .ob (.loop { R0 with state := .busy }))], []⟩) S.n hs1 (St.le.refl _) (fun k hk => by cases hk) (fun i hi => by cases hi)
          (ε' := ε1) (I' := I1) (w' := { w1 with heap := w1.heap.setIfInBounds l (.loop { R0 with state := .busy }) })
          ⟨fun _ _ => ⟨rfl, rfl, rfl⟩, IH.le.rfl', fun b o hb => by rw [hoth b (fun e => by rw [e, hft.2.2] at hb; cases hb)]; exact hs1.imm b o hb, rfl, rfl, rfl, by simp, fun b _ hn => hoth b (fun e => hn (by rw [e]; exact hfp)), fun _ _ h => .inl h⟩
          ⟨trivial, fun _ _ h => (by cases h), fun _ _ h => (by cases h), fun i e he => by obtain ⟨rfl, rfl⟩ := look_one he; exact ⟨.inl (hs1.wfL i _ hk).1, trivial⟩, fun _ _ h => (by cases h),
            fun i e he => by
              obtain ⟨rfl, rfl⟩ := look_one he
              show _ = _
              rw [hpl]; simp [hlt1],
            fun i e he b hb => by
              obtain ⟨rfl, rfl⟩ := look_one he
              have hb : b = l := by rw [← hpl]; exact hb
              subst hb
              exact ⟨hft.1, by simpa using hft.2.1, hft.2.2, .inr hfp⟩,
            fun i i' e e' b he he' hne => by
              obtain ⟨rfl, _⟩ := look_one he
              obtain ⟨rfl, _⟩ := look_one he'
              exact absurd rfl hne,
            fun k x h => by obtain ⟨_, h⟩ := look_one h; cases h⟩
        have hs3 : Sat ⟨cx.P, some l, w, cx.N, F, I, nB, ε0.β, ε0.ν⟩ ε1 I1 { S with L := (kl, .ob (.loop { R0 with state := .busy })) :: S.L } a1 { w1 with heap := w1.heap.setIfInBounds l (.loop { R0 with state := .busy }) } :=
          SatM.mono (fun k hk => by
            rcases hk with hk | hk
            · exact hk
            · cases hk) hs2
        refine wpIn_mono (hWP ε1 I1 a1 _ hs3) ?_
        intro e a2 w3 hq2
        have hend : ∀ (T2 : St) (ε2 : Env) (I2 : IH) (jump : Option Code), Sat ⟨cx.P, some l, w, cx.N, F, I, nB, ε0.β, ε0.ν⟩ ε2 I2 (T2.bare kl { R0 with state := .busy }) a2 w3 →
            (Instr.endRound l jump).run cx.P w3 = .ok (.bool jump.isNone) { w3 with heap := w3.heap.setIfInBounds l (.loop { R0 with state := if jump.isNone then .ready else .done, pending := jump }) } := by
          intro T2 ε2 I2 jump hs
          have h1 := hs.L kl (.ob (.loop { R0 with state := .busy })) (by simp [St.bare, look_cons])
          simp only [Ent.ok] at h1
          rw [(hs.pin kl hklB).2.1] at h1
          have h1 : w3.heap[ε0.β kl]? = _ := h1
          rw [hkl] at h1
          cases jump <;> simp [Instr.endRound, Instr.getLoop, getObj, setObj, Sem.run, h1]
        have hjump : ∀ (c : Code) (T2 : St), Kx c T2 → (∃ ε I', Sat ⟨cx.P, some l, w, cx.N, F, I, nB, ε0.β, ε0.ν⟩ ε I' (T2.bare kl { R0 with state := .busy }) a2 w3) → ∃ v w', (Instr.endRound l (some c)).run cx.P w3 = .ok v w' ∧
            ∃ b F' I', Ending.returned v = .returned (.bool b) ∧ Keep F w w' ∧ I.le I' ∧ I'.on w' ∧ (∀ c o, I' c = some o → I c = some o ∨ w.heap.size ≤ c) ∧ (∀ c, F c → F' c) ∧ (∀ c, F' c → F c ∨ w.heap.size ≤ c) ∧
              (bif b then (OutY cx a l nB ε0 hn1 fun rec T => rec = R0 ∧ T = T') else (OutY cx a l nB ε0 hn1 fun rec T => ∃ c, rec = { R0 with state := .done, pending := some c } ∧ Kx c T)).J F' I' w' := by
          rintro c T2 hK ⟨ε2, I2, hs⟩
          obtain ⟨h1, h2, h3, h4, F', h5, h6, h7⟩ := OutJ.back hJ hT (hKx c T2 hK) hfr0 hD0 hnB hkl hklB hcx rfl hs rfl
          exact ⟨_, _, hend T2 ε2 I2 (some c) hs, false, F', I2, rfl, h1, h2, h3, h4, h5, h6, _, T2, ε2, ⟨c, rfl, hK⟩, h7⟩
        cases e with
        | normal =>
          obtain ⟨ε2, I2, hs⟩ := hq2
          obtain ⟨h1, h2, h3, h4, F', h5, h6, h7⟩ := OutJ.back (rec3 := R0) hJ hT hT' hfr0 hD0 hnB hkl hklB hcx rfl hs rfl
          refine ⟨_, _, hend T' ε2 I2 none hs, true, F', I2, rfl, ?_⟩
          have : ({ R0 with state := if (none : Option Code).isNone then .ready else .done, pending := none } : Loop) = R0 := by
            cases R0; simp at hrs hrp ⊢; exact ⟨hrs.symm, hrp.symm⟩
          rw [this]
          exact ⟨h1, h2, h3, h4, h5, h6, R0, T', ε2, ⟨rfl, rfl⟩, h7⟩
        | exit id => obtain ⟨T2, hK, h⟩ := hq2; exact hjump _ T2 hK h
        | ret => obtain ⟨T2, hK, h⟩ := hq2; exact hjump _ T2 hK h
        | goto t => exact hq2.elim
        | panic c => exact hq2.elim
        | outgrown => exact hq2.elim
    | exit id => exact hq.elim
    | ret => exact hq.elim
    | goto t => exact hq.elim
    | panic c => exact hq.elim
    | outgrown => exact hq.elim
end Go.Eng
