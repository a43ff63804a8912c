/- Part 2 of the texts behind the claim: EngO EngP EngQ EngR EngS EngT EngU EngV EngW EngX EngY EngZ Base Base2 Base3 Base4 Base5 Base6 Base8 Base9 Base10 EngZe TB1 EngTa EngTb Cmp TB2 EngTc EngTd EngTe EngTm EngTn EngTq EngTp EngTr SV1. -/
import Derived.Test.YtjnjiemaoinblaaZS1
set_option linter.unusedSimpArgs false
set_option linter.unusedVariables false
namespace Go.Eng
open Go
theorem SatM.agree {cx : Cx} {M : Nat → Prop} {ε ε' : Env} {I : IH} {S : St} {a : Act} {w : World} (hag : Env.agree M ε ε') (hs : SatM cx M ε I S a w) : SatM cx M ε' I S a w :=
  { hs with
    wfr := fun i x hx => SV.on_agree hag (hs.wfr i x hx)
    G := fun g b hg => by rw [(hag g (hs.wfG g b hg)).2.2]; exact hs.G g b hg
    defs := by rw [hs.defs]; exact List.map_congr_left fun k hk => by simp only [markOf]; rw [(hag k (hs.wfD k hk)).1]
    fr := fun i x hx => by rw [hs.fr i x hx,SV.den_agree hag (hs.wfr i x hx)]
    X := fun j R hj => by rw [(hag j (hs.wfX j R hj)).2.1]; exact hs.X j R hj
    L := fun k e he => Ent.ok_kept hag IH.le.rfl' (hs.wfL k e he).1 (hs.wfL k e he).2 (hs.L k e he) (fun _ _ => rfl) (fun x _ => ⟨IH.le.rfl',hs.imm,rfl,rfl,Out.rf,Nat.le_refl _,fun _ _ _ => rfl,fun _ _ h => .inl h⟩)
    foot := fun k e he b hb => by rw [Ent.foot_agree hag (hs.wfL k e he).1] at hb; exact hs.foot k e he b hb
    sep := fun k k' e e' b he he' hne hb => by
      rw [Ent.foot_agree hag (hs.wfL k e he).1] at hb
      rw [Ent.foot_agree hag (hs.wfL k' e' he').1]
      exact hs.sep k k' e e' b he he' hne hb
    pin := fun k hk => by
      obtain ⟨h1,h2,h3⟩ := hs.pin k hk
      obtain ⟨h4,h5,_⟩ := hag k h1
      exact ⟨h1,h4.trans h2,h5.trans h3⟩ }
theorem SatM.more {cx : Cx} {M : Nat → Prop} {ε : Env} {I : IH} {S : St} {a : Act} {w : World} (o : Obj) (hs : SatM cx M ε I S a w) : SatM cx M ε I S a (w.alloc o) :=
  SatM.move hs IH.le.rfl' (IH.on_alloc hs.imm o) rfl rfl Out.rf (by simp) (fun b hb _ => heap_alloc_old w o hb) (fun _ _ h => .inl h)
structure Rng (cx : Cx) (n : Nat) (fr : List (Nat × SV)) (D0 : List Nat) (ps : List Nat) (assign body : Code) (items : List Item) (m q : Nat) (Sg : Nat → St) (Kx : Code → St → Prop) : Prop where
  st : ∀ i,RSt fr D0 m (n + 1) (Sg i)
  kx : ∀ c T,Kx c T → RSt fr D0 m (n + 1) T
  fr0 : fr.all (fun p => p.2.kbp (n + 2)) = true
  D0 : D0.all (Nat.blt · (n + 2)) = true
  hm : n + 2 ≤ m
  hit : ∀ it ∈ items,ItemOK q ps it
  nd : ps.Nodup
  hps : ∀ t ∈ ps,t < cx.N
  round : ∀ i it,items[i]? = some it → ∀ (w0 : World) (E : Nat → Prop) (I0 : IH) (R0 : Loop) (pβ : Nat → Nat) (pν us : Nat → Value),R0.state = .ready →
    WP ⟨cx.P,some (pβ (n + 1)),w0,cx.N,E,I0,n + 2,pβ,pν⟩ (roundSt m q (n + 1) ps it (Sg i) R0 us) assign
      (AsgQ ⟨cx.P,some (pβ (n + 1)),w0,cx.N,E,I0,n + 2,pβ,pν⟩ (n + 1) R0 body (RndQ ⟨cx.P,some (pβ (n + 1)),w0,cx.N,E,I0,n + 2,pβ,pν⟩ (n + 1) { R0 with state := .busy } (Sg (i + 1)) Kx))
theorem range_core {cx : Cx} {n : Nat} {fr : List (Nat × SV)} {D0 : List Nat} {ps : List Nat} {assign body : Code} {items : List Item} {m q : Nat} {Sg : Nat → St} {Kx : Code → St → Prop} {Q : Exit → Act → World → Prop} (hR : Rng cx n fr D0 ps assign body items m q Sg Kx)
    (hcx : cx.nB ≤ n) {a : Act} {l : Nat} {ε0 : Env} {R0 : Loop} {I : IH} {w1 : World} {f : FuncId} {mk : Value → Array Value} {ρ : Nat → Nat} {S1 : St}
    (hrs : R0.state = .ready) (hrp : R0.pending = none) (hrt : R0.tmps = a.tmps) (hrps : R0.params = ps.toArray) (hra : R0.assign = assign) (hrb : R0.body = body) (hl : l < w1.heap.size) (hrec : w1.heap[l]? = some (.loop R0)) (hl0 : cx.w0.heap.size ≤ l) (hlI : I l = none)
    (hkl : ε0.β (n + 1) = l) (hs1 : Sat cx ε0 I S1 a w1) (hfl : ∀ k e,look k S1.L = some e → ¬ e.foot ε0 k l) (h0 : LeR (n + 2) S1 (Sg 0) ρ) (hit : ItC cx.P f mk I w1 items)
    (hnorm : EX cx (Sg items.length) .normal Q) (hjump : ∀ c T,Kx c T → WP cx T c Q) :
    CallsIn (fen cx.r) (0 - 1) cx.P f (mk (yv l)) w1 (rangePost (fen cx.r) 0 cx.P l Q a) := by
  have hw1 : cx.w0.heap.size ≤ w1.heap.size := hs1.keep.size
  have hs0 : Sat cx (ε0.ren ρ) I (Sg 0) a w1 := Sat.leR ⟨h0.fr,h0.X,h0.L,h0.inj,h0.D,h0.G,h0.kb,fun k hk => h0.pin k (by omega)⟩ hs1
  have hfoot0 : ∀ k e b,look k (Sg 0).L = some e → e.foot (ε0.ren ρ) k b → b ≠ l := fun k e b he hb heq => by
    subst heq
    refine hfl (ρ k) (e.renk ρ) (h0.L.get k e he) ?_
    cases e <;> exact hb
  have hJ0 : OutJ cx a l (n + 2) ε0 R0 (Sg 0) (fun b => b = l ∨ ∃ k e,look k (Sg 0).L = some e ∧ e.foot (ε0.ren ρ) k b) I w1 (ε0.ren ρ) :=
    { ag := fun k hk => by
        obtain ⟨h1,_⟩ := h0.pin k hk
        simp [Env.ren,h1]
      sat := hs0
      lrec := hrec
      foot := fun k e b he hb => ⟨.inr ⟨k,e,he,hb⟩,hfoot0 k e b he hb⟩
      Fl := .inl rfl
      F := fun b hb => by
        rcases hb with rfl | ⟨k,e,he,hb⟩
        · exact ⟨hl,hlI,.inl hl0⟩
        · obtain ⟨h1,h2,h3⟩ := hs0.foot k e he b hb
          exact ⟨h2,h3,h1⟩
      l0 := hl0 }
  have hcall := hit l (fun i => OutY cx a l (n + 2) ε0 hw1 fun rec T => rec = R0 ∧ T = Sg i) (OutY cx a l (n + 2) ε0 hw1 fun rec T => ∃ c,rec = { R0 with state := .done,pending := some c } ∧ Kx c T) _ ⟨R0,Sg 0,_,⟨rfl,rfl⟩,hJ0⟩ (by
    rintro i it hi F I' w' us vs ⟨_,_,ε,⟨hr1,hr2⟩,hJ⟩ _ hon _ _ hok
    rw [hr1,hr2] at hJ
    have := hR.round i it hi w' F I' R0 ε0.β ε0.ν us hrs
    rw [hkl] at this
    subst hra
    subst hrb
    exact range_round hw1 hrs hrp hrt hrps hJ (hR.st i) (hR.st (i + 1)) hR.kx hR.fr0 hR.D0 hR.hm hkl (by omega) (by omega) (hR.hit it (List.mem_of_getElem? hi)) hR.nd hR.hps hok this)
  refine CallsIn.mono (callsIn_fen hcall) ?_
  rintro e w3 ⟨v,F',I3,rfl,hk,hle,hon,hfr,hJ⟩
  have hset : ∀ (T : St) (ε : Env) (rec rec' : Loop),OutJ cx a l (n + 2) ε0 rec T F' I3 w3 ε → Sat cx ε I3 T a { w3 with heap := w3.heap.setIfInBounds l (.loop rec') } := fun T ε rec rec' hJ => by
    have hb4 : ∀ b,b ≠ l → ({ w3 with heap := w3.heap.setIfInBounds l (.loop rec') } : World).heap[b]? = w3.heap[b]? := fun b hb => by
      simp [Array.getElem?_setIfInBounds_ne (Ne.symm hb)]
    refine SatM.move hJ.sat IH.le.rfl' (fun b o hb => ?_) rfl rfl Out.rf (by simp) (fun b _ hk => hb4 b ?_) (fun _ _ h => .inl h)
    · rw [hb4 b (fun e => by rw [e,(hJ.F l hJ.Fl).2.1] at hb; cases hb)]; exact hJ.sat.imm b o hb
    · rcases hk with hk | ⟨k,e,he,hf⟩
      · have := hJ.l0; omega
      · exact (hJ.foot k e b he hf).2
  rcases hJ with ⟨_,_,ε,⟨hr1,hr2⟩,hJ⟩ | ⟨_,T,ε,⟨c,rfl,hK⟩,hJ⟩
  · rw [hr1,hr2] at hJ
    refine ⟨none,_,?_,hnorm ε I3 a _ (hset _ _ _ { R0 with state := .exhausted } hJ)⟩
    simp [Instr.endLoop,Instr.getLoop,getObj,setObj,Sem.run,hJ.lrec,hrs,hrp]
  · refine ⟨some c,_,?_,hjump c T hK ε I3 a _ (hset _ _ _ { R0 with state := .exhausted,pending := some c } hJ)⟩
    simp [Instr.endLoop,Instr.getLoop,getObj,setObj,Sem.run,hJ.lrec]
section
variable {cx : Cx} {n : Nat} {fr : List (Nat × SV)} {X : List (Nat × Pred)} {L : List (Nat × Ent)} {D : List Nat} {G : List (Nat × Bool)} {ps : List Nat} {assign body : Code} {items : List Item} {m q : Nat} {Sg : Nat → St} {Kx : Code → St → Prop} {Q : Exit → Act → World → Prop} {g : Operand} {fv : SV}
theorem pin_le {ε : Env} {I : IH} {a : Act} {w : World} (hs : Sat cx ε I ⟨n,fr,X,L,D,G⟩ a w) : cx.nB ≤ n := by
  rcases Nat.lt_or_ge n cx.nB with h | h
  · have : n < n := (hs.pin n h).1
    omega
  · exact h
theorem leads_ok {F : Fence} (hF : ∀ f,F.fn f) {P : Program} {w : World} {t : Target} {args : Array Value} : ∀ f',Target.leads P w t args = some f' → F.fn f' := fun f' _ => hF f'
theorem WP.range (hr : cx.r = none) (hR : Rng cx n fr (n :: D) ps assign body items m q Sg Kx) (hg : St.op ⟨n,fr,X,L,D,G⟩ g = some fv)
    (hit : ∀ M ε I a w,SatM cx M ε I ⟨n,fr,X,L,D,G⟩ a w → ∃ f fs cs,fv.den ε = .func (.func f) fs cs ∧ Enters' cx.P f ∧ ∀ w2,I.on w2 → ItC cx.P f (fun y => fs ++ #[y] ++ cs) I w2 items)
    (ρ : Nat → Nat) (h0 : LeR (n + 2) ⟨n + 2,fr,X,(n,.ob (.deferred (some []))) :: L,n :: D,[]⟩ (Sg 0) ρ) (hnorm : EX cx (Sg items.length) .normal Q) (hjump : ∀ c T,Kx c T → WP cx T c Q) :
    WP cx ⟨n,fr,X,L,D,G⟩ (.rangeFunc g ps.toArray assign body) Q := by
  intro ε I a w hs
  refine wpIn_rangeFunc fun fn _ => ?_
  obtain ⟨f,fs,cs,hfv,hen,hic⟩ := hit _ ε I a w hs
  let R0 : Loop := { state := .ready,pending := none,fn := fn,tmps := a.tmps,params := ps.toArray,assign := assign,body := body,defers := w.heap.size }
  let w1 : World := (w.alloc (.deferred (some []))).alloc (.loop R0)
  let mark : List Deferred := [{ target := .collected w.heap.size,args := #[] }]
  let a' : Act := { a with defers := mark ++ a.defers }
  have hev := hs.eval hg
  rw [hfv] at hev
  refine ⟨w.heap.size + 1,mark,w1,{ target := .fn (.func f) cs,args := fs ++ #[yv (w.heap.size + 1)] },w1,f,fs ++ #[yv (w.heap.size + 1)] ++ cs,w1,?_,?_,leads_ok fun _ => trivial,?_,fun h => (by cases h),?_⟩
  · rw [show (fen cx.r).round = none by rw [hr]; rfl]
    simp [Instr.enterLoop,newObj,Sem.run,w1,mark,R0]
  · have hc : ∀ v,a.eval (.const v) = v := fun _ => rfl
    simp [resolve,rangeCall,hev,Deferred.ofValue,hc]
  · simp [invoke,hen _ _]
  · have hn0 : ∀ k ∈ [n],¬ k < n := fun k hk => by rw [List.mem_singleton] at hk; omega
    have h1 := SatM.app (d := none) (u := ⟨.e (.a (.v undef)),[n],[],[(n,.ob (.deferred (some [])))],[]⟩) (n + 1) hs (St.le.refl _) hn0 (fun i hi => by cases hi) (Tr.alloc hs.imm n (.deferred (some [])) undef)
      ⟨trivial,fun _ _ h => (by cases h),fun _ _ h => (by cases h),fun i e he => by obtain ⟨rfl,rfl⟩ := look_one he; exact ⟨.inr (by simp),trivial⟩,fun _ _ h => (by cases h),
        fun i e he => by
          obtain ⟨rfl,rfl⟩ := look_one he
          show _ = _
          simp only [upd_same]; exact heap_alloc_new w _,
        fun i e he b hb => by
          obtain ⟨rfl,rfl⟩ := look_one he
          have hb : b = upd ε.β i w.heap.size i := hb
          rw [upd_same] at hb
          subst hb
          exact ⟨.inl hs.keep.size,by simp,IH.none_ge hs.imm (Nat.le_refl _),.inl (Nat.le_refl _)⟩,
        fun i i' e e' b he he' hne => by
          obtain ⟨rfl,_⟩ := look_one he
          obtain ⟨rfl,_⟩ := look_one he'
          exact absurd rfl hne,
        fun k x h => by obtain ⟨_,h⟩ := look_one h; cases h⟩
    have h2 : SatM cx (· < n + 1) ⟨upd ε.β n w.heap.size,upd ε.ν n undef,ε.γ⟩ I ⟨n + 1,fr,X,(n,.ob (.deferred (some []))) :: L,n :: D,[]⟩ a' (w.alloc (.deferred (some []))) := by
      have h1' := SatM.mono (M' := (· < n + 1)) (fun k hk => by
        rcases hk with hk | hk
        · have hk : k < n := hk
          show k < n + 1
          omega
        · have hk : k ∈ [n] := hk
          rw [List.mem_singleton] at hk
          show k < n + 1
          omega) h1
      refine { h1' with wfD := fun k hk => ?_,defs := ?_,wfG := fun _ _ h => (by cases h),G := fun _ _ h => (by cases h) }
      · rcases List.mem_cons.1 hk with rfl | hk
        · show k < k + 1
          omega
        · exact h1'.wfD k hk
      · have := h1'.defs
        have h3 : a.defers = D.map (markOf (upd ε.β n w.heap.size)) := this
        show mark ++ a.defers = _
        rw [h3]
        simp [mark,markOf,upd_same]
    have h3 := SatM.more (.loop R0) h2
    have hag4 : Env.agree (· < n + 1) ⟨upd ε.β n w.heap.size,upd ε.ν n undef,ε.γ⟩ ⟨upd (upd ε.β n w.heap.size) (n + 1) (w.heap.size + 1),upd ε.ν n undef,ε.γ⟩ := fun k hk => ⟨by
      have hk : k < n + 1 := hk
      exact upd_other _ _ (by omega),rfl,rfl⟩
    have h4 := SatM.agree hag4 h3
    have h5 : Sat cx ⟨upd (upd ε.β n w.heap.size) (n + 1) (w.heap.size + 1),upd ε.ν n undef,ε.γ⟩ I ⟨n + 2,fr,X,(n,.ob (.deferred (some []))) :: L,n :: D,[]⟩ a' w1 := by
      have h6 := SatM.mono (M' := (· < n + 2)) (fun k hk => by
        have hk : k < n + 1 := hk
        show k < n + 2
        omega) h4
      exact ⟨h6.wfr,h6.wfX,h6.wfL,h6.wfD,h6.wfG,h6.G,h6.size,h6.defs,h6.fr,h6.X,h6.L,h6.foot,h6.sep,h6.imm,h6.keep,h6.le0,h6.fr0,h6.pin,h6.ext⟩
    have hsz1 : w1.heap.size = w.heap.size + 2 := by simp [w1]
    refine range_core (mk := fun y => fs ++ #[y] ++ cs) (R0 := R0) (ρ := ρ) hR (pin_le hs) rfl rfl rfl rfl rfl rfl (by omega) ?_ (by have := hs.keep.size; omega) (IH.none_ge hs.imm (by omega)) (by simp only [upd_same]) h5 ?_ h0 (hic w1 h5.imm) hnorm hjump
    · have := heap_alloc_new (w.alloc (.deferred (some []))) (.loop R0)
      rw [show (w.alloc (.deferred (some []))).heap.size = w.heap.size + 1 by simp] at this
      exact this
    · intro k e he hb
      have hb2 : e.foot ⟨upd ε.β n w.heap.size,upd ε.ν n undef,ε.γ⟩ k (w.heap.size + 1) := by
        rw [← Ent.foot_agree hag4 (h2.wfL k e he).1]
        exact hb
      have := (h2.foot k e he _ hb2).2.1
      simp at this
theorem WP.range2 {l0 kl0 : Nat} {rec0 : Loop} (hr : cx.r = some l0) (hkl0 : kl0 < cx.nB) (hpl : cx.pβ kl0 = l0) (hlk : look kl0 L = some (.ob (.loop rec0))) (hR : Rng cx n fr D ps assign body items m q Sg Kx) (hg : St.op ⟨n,fr,X,L,D,G⟩ g = some fv)
    (hit : ∀ M ε I a w,SatM cx M ε I ⟨n,fr,X,L,D,G⟩ a w → ∃ f fs cs,fv.den ε = .func (.func f) fs cs ∧ Enters' cx.P f ∧ ∀ w2,I.on w2 → ItC cx.P f (fun y => fs ++ #[y] ++ cs) I w2 items)
    (ρ : Nat → Nat) (h0 : LeR (n + 2) ⟨n + 2,fr,X,L,D,[]⟩ (Sg 0) ρ) (hnorm : EX cx (Sg items.length) .normal Q) (hjump : ∀ c T,Kx c T → WP cx T c Q) :
    WP cx ⟨n,fr,X,L,D,G⟩ (.rangeFunc g ps.toArray assign body) Q := by
  intro ε I a w hs
  refine wpIn_rangeFunc fun fn _ => ?_
  obtain ⟨f,fs,cs,hfv,hen,hic⟩ := hit _ ε I a w hs
  let R0 : Loop := { state := .ready,pending := none,fn := fn,tmps := a.tmps,params := ps.toArray,assign := assign,body := body,defers := rec0.defers }
  let w1 : World := w.alloc (.loop R0)
  have hev := hs.eval hg
  rw [hfv] at hev
  have hl := hs.L kl0 _ hlk
  simp only [Ent.ok] at hl
  rw [(hs.pin kl0 hkl0).2.1,hpl] at hl
  refine ⟨w.heap.size,[],w1,{ target := .fn (.func f) cs,args := fs ++ #[yv w.heap.size] },w1,f,fs ++ #[yv w.heap.size] ++ cs,w1,?_,?_,leads_ok fun _ => trivial,?_,fun h => (by cases h),?_⟩
  · rw [show (fen cx.r).round = some l0 by rw [hr]; rfl]
    simp [Instr.enterLoop,Instr.getLoop,getObj,newObj,Sem.run,w1,R0,hl]
  · have hc : ∀ v,a.eval (.const v) = v := fun _ => rfl
    simp [resolve,rangeCall,hev,Deferred.ofValue,hc]
  · simp [invoke,hen _ _]
  · have h3 := SatM.more (.loop R0) hs
    have hagr : Env.agree (· < n) ε ⟨upd ε.β (n + 1) w.heap.size,ε.ν,ε.γ⟩ := fun k hk => ⟨by
      have hk : k < n := hk
      exact upd_other _ _ (by omega),rfl,rfl⟩
    have h4 := SatM.agree hagr h3
    have h5 : Sat cx ⟨upd ε.β (n + 1) w.heap.size,ε.ν,ε.γ⟩ I ⟨n + 2,fr,X,L,D,[]⟩ a w1 := by
      have h6 := SatM.mono (M' := (· < n + 2)) (fun k hk => by
        have hk : k < n := hk
        show k < n + 2
        omega) h4
      exact ⟨h6.wfr,h6.wfX,h6.wfL,h6.wfD,fun _ _ h => (by cases h),fun _ _ h => (by cases h),h6.size,h6.defs,h6.fr,h6.X,h6.L,h6.foot,h6.sep,h6.imm,h6.keep,h6.le0,h6.fr0,h6.pin,h6.ext⟩
    have hsz1 : w1.heap.size = w.heap.size + 1 := by simp [w1]
    have ha : ({ a with defers := [] ++ a.defers } : Act) = a := rfl
    rw [ha]
    refine range_core (mk := fun y => fs ++ #[y] ++ cs) (R0 := R0) (ρ := ρ) hR (pin_le hs) rfl rfl rfl rfl rfl rfl (by omega) (heap_alloc_new w _) hs.keep.size (IH.none_ge hs.imm (by omega)) (by simp only [upd_same]) h5 ?_ h0 (hic w1 h5.imm) hnorm hjump
    intro k e he hb
    rw [Ent.foot_agree hagr (hs.wfL k e he).1] at hb
    have := (hs.foot k e he _ hb).2.1
    omega
end
end Go.Eng
namespace Go.Eng
open Go
section
variable {cx : Cx} {Q : Exit → Act → World → Prop} {ops : Array Oper} {nf : Nat} {r : Rec} {t : List (Oper × Rec)}
variable {n : Nat} {fr : List (Nat × SV)} {X : List (Nat × Pred)} {L : List (Nat × Ent)} {D : List Nat} {G : List (Nat × Bool)} {d : Tmp} {op : Op} {ty : TypeId} {pos : String} {af : Array Edge} {gd : Option (Nat × Bool)} {sv : SV}
theorem DRQ.nil' (h : EX cx ⟨nf,fr,X,L,D,G⟩ .normal Q) : DRQ cx ops nf [] ⟨n,fr,X,L,D,G⟩ Q := h
theorem DRQ.v (hd : Nat.blt d cx.N = true) (hg : GOK ops (dropL r.ds fr) gd true) (hN : r.N = []) (h : OpG cx (St.drop ⟨n,fr,X,L,D,G⟩ r.ds r.dk) ⟨some d,op,ty,pos,af,gd⟩ (.val sv)) (K : DRQ cx ops nf t ⟨n,(d,sv) :: fr,X,L,D,G⟩ Q) :
    DRQ cx ops nf ((⟨some d,op,ty,pos,af,gd⟩,r) :: t) ⟨n,fr,X,L,D,G⟩ Q :=
  ⟨.val sv,ROp.on hg h,⟨hN.symm,fun _ _ h => (by cases h),fun _ _ h => (by cases h),rfl,fun i hi => by cases hi; rw [Nat.blt_eq] at hd; exact hd⟩,K⟩
theorem DRQ.x (k : Nat) {R : Pred} (hd : Nat.blt d cx.N = true) (hg : GOK ops (dropL r.ds fr) gd true) (hN : r.N = [k]) (hk : r.ks = [k]) (h : OpG cx (St.drop ⟨n,fr,X,L,D,G⟩ r.ds r.dk) ⟨some d,op,ty,pos,af,gd⟩ ⟨sv,[k],[(k,R)],[],[]⟩)
    (K : DRQ cx ops nf t ⟨n,(d,sv) :: fr,(k,R) :: X,L,D,G⟩ Q) : DRQ cx ops nf ((⟨some d,op,ty,pos,af,gd⟩,r) :: t) ⟨n,fr,X,L,D,G⟩ Q :=
  ⟨⟨sv,[k],[(k,R)],[],[]⟩,ROp.on hg h,⟨hN.symm,fun i _ h => (by obtain ⟨rfl,_⟩ := look_one h; rw [hk]; simp),fun _ _ h => (by cases h),rfl,fun i hi => by cases hi; rw [Nat.blt_eq] at hd; exact hd⟩,K⟩
theorem DRQ.l (k : Nat) {e : Ent} (hd : Nat.blt d cx.N = true) (hg : GOK ops (dropL r.ds fr) gd true) (hN : r.N = [k]) (hk : r.ks = [k]) (h : OpG cx (St.drop ⟨n,fr,X,L,D,G⟩ r.ds r.dk) ⟨some d,op,ty,pos,af,gd⟩ ⟨sv,[k],[],[(k,e)],[]⟩)
    (K : DRQ cx ops nf t ⟨n,(d,sv) :: fr,X,(k,e) :: L,D,G⟩ Q) : DRQ cx ops nf ((⟨some d,op,ty,pos,af,gd⟩,r) :: t) ⟨n,fr,X,L,D,G⟩ Q :=
  ⟨⟨sv,[k],[],[(k,e)],[]⟩,ROp.on hg h,⟨hN.symm,fun _ _ h => (by cases h),fun i _ h => (by obtain ⟨rfl,_⟩ := look_one h; rw [hk]; simp),rfl,fun i hi => by cases hi; rw [Nat.blt_eq] at hd; exact hd⟩,K⟩
theorem DRQ.l2 (k k0 : Nat) {e e0 : Ent} (hd : Nat.blt d cx.N = true) (hg : GOK ops (dropL r.ds fr) gd true) (hN : r.N = [k]) (hk : r.ks = [k,k0]) (h : OpG cx (St.drop ⟨n,fr,X,L,D,G⟩ r.ds r.dk) ⟨some d,op,ty,pos,af,gd⟩ ⟨sv,[k],[],[(k,e),(k0,e0)],[]⟩)
    (K : DRQ cx ops nf t ⟨n,(d,sv) :: fr,X,(k,e) :: (k0,e0) :: L,D,G⟩ Q) : DRQ cx ops nf ((⟨some d,op,ty,pos,af,gd⟩,r) :: t) ⟨n,fr,X,L,D,G⟩ Q :=
  ⟨⟨sv,[k],[],[(k,e),(k0,e0)],[]⟩,ROp.on hg h,⟨hN.symm,fun _ _ h => (by cases h),fun i _ h => (by rcases look_two h with ⟨rfl,_⟩ | ⟨_,rfl,_⟩ <;> (rw [hk]; simp)),rfl,fun i hi => by cases hi; rw [Nat.blt_eq] at hd; exact hd⟩,K⟩
theorem DRQ.s (k : Nat) {e : Ent} (hg : GOK ops (dropL r.ds fr) gd true) (hN : r.N = []) (hk : r.ks = [k]) (h : OpG cx (St.drop ⟨n,fr,X,L,D,G⟩ r.ds r.dk) ⟨none,op,ty,pos,af,gd⟩ ⟨sv,[],[],[(k,e)],[]⟩)
    (K : DRQ cx ops nf t ⟨n,fr,X,(k,e) :: L,D,G⟩ Q) : DRQ cx ops nf ((⟨none,op,ty,pos,af,gd⟩,r) :: t) ⟨n,fr,X,L,D,G⟩ Q :=
  ⟨⟨sv,[],[],[(k,e)],[]⟩,ROp.on hg h,⟨hN.symm,fun _ _ h => (by cases h),fun i _ h => (by obtain ⟨rfl,_⟩ := look_one h; rw [hk]; simp),rfl,fun i hi => by cases hi⟩,K⟩
theorem DRQ.cs {X' : List (Nat × Pred)} (hd : Nat.blt d cx.N = true) (hg : GOK ops (dropL r.ds fr) gd true) (hN : r.N = keys X') (hk : r.ks = keys X') (h : OpG cx (St.drop ⟨n,fr,X,L,D,G⟩ r.ds r.dk) ⟨some d,op,ty,pos,af,gd⟩ ⟨sv,keys X',X',[],[]⟩)
    (K : DRQ cx ops nf t ⟨n,(d,sv) :: fr,X' ++ X,L,D,G⟩ Q) : DRQ cx ops nf ((⟨some d,op,ty,pos,af,gd⟩,r) :: t) ⟨n,fr,X,L,D,G⟩ Q :=
  ⟨⟨sv,keys X',X',[],[]⟩,ROp.on hg h,⟨hN.symm,fun i _ h => by rw [hk]; exact look_keys h,fun _ _ h => (by cases h),rfl,fun i hi => by cases hi; rw [Nat.blt_eq] at hd; exact hd⟩,K⟩
end
inductive Fd (α : Type) : Type 1 where
  | i (f : α → Int)
  | s {β : Type} (E : EP β) (f : α → List β)
  | v (f : α → Value) (h : ∀ x,(f x).oneCell' = true)
def Fd.ok {α : Type} (I : IH) (v : Value) (x : α) : Fd α → Prop
  | .i f => v = .int .i64 (f x)
  | .s E f => (PL E (f x)).h I v
  | .v f _ => v = f x
def FdAll {α : Type} (I : IH) (x : α) : List Value → List (Fd α) → Prop
  | [],[] => True
  | v :: vs,f :: fs => f.ok I v x ∧ FdAll I x vs fs
  | _,_ => False
theorem FdAll.len {α : Type} {I : IH} {x : α} : ∀ {vs : List Value} {fs : List (Fd α)},FdAll I x vs fs → vs.length = fs.length
  | [],[],_ => rfl
  | _ :: _,_ :: _,h => by simp [FdAll.len h.2]
theorem FdAll.mono {α : Type} {I I' : IH} {x : α} (hI : I.le I') : ∀ {vs : List Value} {fs : List (Fd α)},FdAll I x vs fs → FdAll I' x vs fs
  | [],[],_ => trivial
  | v :: vs,f :: fs,h => ⟨by
      cases f with
      | i f => exact h.1
      | s E f => exact (PL E _).mono hI h.1
      | v f _ => exact h.1,FdAll.mono hI h.2⟩
theorem FdAll.get {α : Type} {I : IH} {x : α} : ∀ {vs : List Value} {fs : List (Fd α)} {o : Nat} {f : Fd α},FdAll I x vs fs → fs[o]? = some f → ∃ v,vs[o]? = some v ∧ f.ok I v x
  | [],_ :: _,_,_,h,_ => h.elim
  | v :: vs,f :: fs,0,g,h,ho => by simp at ho; subst ho; exact ⟨v,rfl,h.1⟩
  | v :: vs,f :: fs,o + 1,g,h,ho => by
    obtain ⟨u,h1,h2⟩ := FdAll.get h.2 (o := o) (by simpa using ho)
    exact ⟨u,by simpa using h1,h2⟩
def EP.str {α : Type} (fs : List (Fd α)) : EP α := ⟨fs.length,fun I cs x => FdAll I x cs fs,FdAll.len,fun hI h => FdAll.mono hI h⟩
theorem EP.str_one {α : Type} {fs : List (Fd α)} : (EP.str fs).one := by
  intro I cs x h y hy
  have : ∀ {vs : List Value} {gs : List (Fd α)},FdAll I x vs gs → ∀ y ∈ vs,y.oneCell' = true := by
    intro vs
    induction vs with
    | nil => intro gs _ y hy; cases hy
    | cons v vs ih =>
      intro gs h y hy
      cases gs with
      | nil => exact h.elim
      | cons g gs =>
        rcases List.mem_cons.1 hy with rfl | hy
        · cases g with
          | i f => rw [show y = _ from h.1]; rfl
          | s E f => exact PL.one _ _ h.1
          | v f hf => rw [show y = _ from h.1]; exact hf x
        · exact ih h.2 y hy
  exact this h y hy
section
variable {α : Type} {fs : List (Fd α)} {x : α} {o : Nat}
theorem strI {f : α → Int} (ho : fs[o]? = some (.i f)) : ∀ I cs,(EP.str fs).h I cs x → cs[o]? = some (.int .i64 (f x)) := fun I cs h => by
  obtain ⟨v,h1,h2⟩ := FdAll.get h ho
  rw [h1,show v = _ from h2]
theorem strS {β : Type} {E : EP β} {f : α → List β} (ho : fs[o]? = some (.s E f)) : ∀ I cs,(EP.str fs).h I cs x → ∃ u,cs[o]? = some u ∧ (PL E (f x)).h I u := fun I cs h => FdAll.get h ho
def allI : List (Fd α) → Option (List (α → Int))
  | [] => some []
  | .i f :: t => match allI t with
    | some l => some (f :: l)
    | none => none
  | _ => none
theorem allI_vals {I : IH} : ∀ {cs : List Value} {gs : List (Fd α)} {l : List (α → Int)},FdAll I x cs gs → allI gs = some l → cs = l.map fun g => .int .i64 (g x)
  | [],[],l,_,h => by cases h; rfl
  | c :: cs,.i f :: gs,l,h,hl => by
    simp only [allI] at hl
    cases hg : allI gs with
    | none => rw [hg] at hl; cases hl
    | some l' =>
      rw [hg] at hl; cases hl
      rw [List.map_cons,← allI_vals h.2 hg,show c = _ from h.1]
theorem FdAll.sub {I : IH} : ∀ {o m : Nat} {cs : List Value} {gs : List (Fd α)},FdAll I x cs gs → FdAll I x ((cs.drop o).take m) ((gs.drop o).take m)
  | 0,0,cs,gs,_ => by simp [FdAll]
  | 0,m + 1,[],[],_ => trivial
  | 0,m + 1,c :: cs,g :: gs,h => ⟨h.1,by simpa using FdAll.sub (o := 0) (m := m) h.2⟩
  | o + 1,m,[],[],_ => by simp [FdAll]
  | o + 1,m,c :: cs,g :: gs,h => by simpa using FdAll.sub (o := o) (m := m) h.2
theorem strG {m : Nat} {l : List (α → Int)} (ho : allI ((fs.drop o).take m) = some l) : ∀ I cs,(EP.str fs).h I cs x → (cs.drop o).take m = l.map fun g => .int .i64 (g x) := fun _ _ h => allI_vals (FdAll.sub h) ho
theorem str_free {l : List (α → Int)} (ho : allI fs = some l) : ∀ I I' cs x,(EP.str fs).h I cs x → (EP.str fs).h I' cs x := by
  intro I I' cs x h
  have : ∀ {cs : List Value} {gs : List (Fd α)} {l : List (α → Int)},FdAll I x cs gs → allI gs = some l → FdAll I' x cs gs := by
    intro cs
    induction cs with
    | nil => intro gs l h _; cases gs <;> first | trivial | exact h.elim
    | cons c cs ih =>
      intro gs l h hl
      cases gs with
      | nil => exact h.elim
      | cons g gs =>
        cases g with
        | i f =>
          simp only [allI] at hl
          cases hg : allI gs with
          | none => rw [hg] at hl; cases hl
          | some l' => exact ⟨h.1,ih h.2 hg⟩
        | s E f => cases hl
        | v f hf => cases hl
  exact this h ho
end
def FAs (S : St) {α : Type} (x : α) : List At → List (Fd α) → Prop
  | [],[] => True
  | c :: cs,.i f :: fs => c = ai (f x) ∧ FAs S x cs fs
  | c :: cs,.s E f :: fs => (∃ j,c = .q j ∧ Has S.X j (PL E (f x))) ∧ FAs S x cs fs
  | c :: cs,.v f _ :: fs => (c = .v (f x) ∨ ∃ j,c = .q j ∧ Has S.X j (Pred.is (f x))) ∧ FAs S x cs fs
  | _,_ => False
theorem FAs.ok {cx : Cx} {S : St} {α : Type} {x : α} {M : Nat → Prop} {ε : Env} {I : IH} {a : Act} {w : World} (hs : SatM cx M ε I S a w) : ∀ {cs : List At} {fs : List (Fd α)},FAs S x cs fs → FdAll I x (cs.map (At.den ε)) fs
  | [],[],_ => trivial
  | c :: cs,.i f :: fs,h => ⟨by rw [h.1]; rfl,FAs.ok hs h.2⟩
  | c :: cs,.s E f :: fs,h => ⟨by obtain ⟨j,rfl,hj⟩ := h.1; exact hs.has hj,FAs.ok hs h.2⟩
  | c :: cs,.v f _ :: fs,h => ⟨by
      rcases h.1 with rfl | ⟨j,rfl,hj⟩
      · rfl
      · exact hs.has hj,FAs.ok hs h.2⟩
theorem eok_str {cx : Cx} {S : St} {α : Type} {fs : List (Fd α)} {x : α} {e : El} (h : FAs S x e.cells fs) : EOK cx S (EP.str fs) e x := fun _ _ _ _ _ hs => h.ok hs
theorem bok_str {cx : Cx} {S : St} {α : Type} {fs : List (Fd α)} {x : α} {cs : List At} (h : FAs S x cs fs) : ∀ M ε I a w,SatM cx M ε I S a w → (EP.str fs).h I (cs.map (At.den ε)) x := fun _ _ _ _ _ hs => h.ok hs
def Sig (P : Program) (f : FuncId) (svs : List SV) (X0 : List (Nat × Pred)) (sv : SV) (X : List (Nat × Pred)) : Prop :=
  ∀ (I : IH) (w : World) (ν : Nat → Value),I.on w → FactsOK ν I X0 → Ct P f (svs.map (den0 ν)).toArray I w Emp sv X
theorem Sig.intro {P : Program} {f : FuncId} {fn : Func} {c : Code} {svs : List SV} {X0 : List (Nat × Pred)} {sv : SV} {X : List (Nat × Pred)} (hf : P.funcs[f]? = some fn) (hb : fn.body = some c) (n : Nat) (fr : List (Nat × SV)) (hfr : fr = frOf 0 svs)
    (hwf : ∀ x ∈ svs,x.res (keys X0)) (hn : (keys X0).all (Nat.blt · n) = true) (hN : Nat.ble svs.length fn.ntmps = true)
    (h : ∀ I w,WP ⟨P,none,w,fn.ntmps,Emp,I,0,fun _ => 0,fun _ => undef⟩ ⟨n,fr,X0,[],[],[]⟩ c (Post P fn (CtR I w Emp sv X))) : Sig P f svs X0 sv X := fun I w ν hI hX =>
  Ct.intro hf hb hI ν svs X0 n fr hfr rfl hX hwf (fun k hk => by simpa [Nat.blt_eq] using List.all_eq_true.1 hn k hk) hN (h I w)
theorem SV.ren_den {J : List Nat} {ρ : Nat → Nat} {ε : Env} {x : SV} (h : x.res J) : (x.ren ρ).den ε = den0 (fun j => ε.ν (ρ j)) x := SV.den_ren h
theorem FactsOK.of {ν : Nat → Value} {I : IH} {ρ : Nat → Nat} {X : List (Nat × Pred)} (h : ∀ j R,Has X (ρ j) R → R.h I (ν (ρ j))) : ∀ {X0 : List (Nat × Pred)},RenOK X ρ X0 → FactsOK (fun j => ν (ρ j)) I X0
  | [],_ => trivial
  | (j,R) :: t,hX => ⟨h j R hX.1,FactsOK.of h hX.2⟩
section ops
variable {cx : Cx} {S : St} {dst : Option Tmp} {ty : TypeId} {pos : String} {af : Array Edge} {gd : Option (Nat × Bool)}
theorem CtR.shift {I : IH} {w : World} {E : Nat → Prop} {sv : SV} {X : List (Nat × Pred)} {m : Nat} (hres : sv.res (keys X)) {e : Ending} {w' : World} (h : CtR I w E sv X e w') : CtR I w E (sv.ren (m + ·)) (sh m X) e w' := by
  obtain ⟨I',us,rfl,h1,h2,h3,h4,h5⟩ := h
  refine ⟨I',fun j => us (j - m),?_,h1,h2,h3,h4,fun j R hj => ?_⟩
  · rw [SV.ren_den hres]
    have : (fun j => us (m + j - m)) = us := by funext j; congr 1; omega
    simp only [den0,this]
  · obtain ⟨i,rfl,hi⟩ := look_sh hj
    have : us (m + i - m) = us i := by congr 1; omega
    show R.h I' (us (m + i - m))
    rw [this]; exact h5 i R hi
theorem At.ren_res {J : List Nat} {m : Nat} : ∀ {x : At},x.res J → (x.ren (m + ·)).res (J.map (m + ·))
  | .v _,_ => trivial
  | .q j,h => List.mem_map.2 ⟨j,h,rfl⟩
theorem El.ren_res {J : List Nat} {m : Nat} : ∀ {x : El},x.res J → (x.ren (m + ·)).res (J.map (m + ·))
  | .a _,h => At.ren_res h
  | .g l,h => fun c hc => by obtain ⟨y,hy,rfl⟩ := List.mem_map.1 hc; exact At.ren_res (h y hy)
theorem SV.ren_res {J : List Nat} {m : Nat} : ∀ {x : SV},x.res J → (x.ren (m + ·)).res (J.map (m + ·))
  | .e _,h => El.ren_res h
  | .t l,h => fun c hc => by obtain ⟨y,hy,rfl⟩ := List.mem_map.1 hc; exact El.ren_res (h y hy)
theorem keys_sh {α : Type} {m : Nat} {X : List (Nat × α)} : keys (sh m X) = (keys X).map (m + ·) := by simp [keys,sh]
theorem o_sig {P : Program} {f : FuncId} {l : List Operand} {ts : Array TypeId} {svs svs' : List SV} {X0 : List (Nat × Pred)} {sv : SV} {X : List (Nat × Pred)} (m : Nat) (ρ : Nat → Nat) (hs : Sig P f svs X0 sv X) (hf : Enters' P f) (hP : cx.P = P) (hl : S.ops l = some svs') (hren : svs' = svs.map (SV.ren ρ))
    (hwf : ∀ x ∈ svs,x.res (keys X0)) (hX : RenOK S.X ρ X0) (hres : sv.res (keys X)) :
    OpG cx S ⟨dst,.call { callee := .value (.func f),args := l.toArray,argTypes := ts },ty,pos,af,gd⟩ ⟨sv.ren (m + ·),keys (sh m X),sh m X,[],[]⟩ := by
  subst hP
  refine o_call hf hl (by rw [keys_sh]; exact SV.ren_res hres) fun M ε I a w h => ?_
  subst hren
  have := hs I w (fun j => ε.ν (ρ j)) h.imm (FactsOK.of (fun j R hj => h.has hj) hX)
  rw [List.map_map,show svs.map (SV.den ε ∘ SV.ren ρ) = svs.map (den0 fun j => ε.ν (ρ j)) from List.map_congr_left (fun x hx => SV.ren_den (hwf x hx))]
  exact CallsIn.mono this fun e w' h => CtR.shift hres h
end ops
end Go.Eng
namespace Go.Eng
open Go
def ren (l : List (Nat × Nat)) (k : Nat) : Nat := match look k l with | some i => i | none => k
def notin (x : Nat) : List Nat → Bool
  | [] => true
  | y :: t => !(Nat.beq x y) && notin x t
def nodupb : List Nat → Bool
  | [] => true
  | x :: t => notin x t && nodupb t
theorem notin_iff {x : Nat} : ∀ {l : List Nat},notin x l = true → x ∉ l
  | [],_ => by simp
  | y :: t,h => by
    simp only [notin,Bool.and_eq_true,Bool.not_eq_true'] at h
    intro hm
    rcases List.mem_cons.1 hm with rfl | hm
    · have := h.1; rw [Nat.beq_refl] at this; cases this
    · exact notin_iff h.2 hm
theorem nodupb_inj {ρ : Nat → Nat} : ∀ {l : List Nat},nodupb (l.map ρ) = true → ∀ k k',k ∈ l → k' ∈ l → ρ k = ρ k' → k = k'
  | [],_,k,_,h,_,_ => by cases h
  | x :: t,h,k,k',hk,hk',he => by
    simp only [List.map_cons,nodupb,Bool.and_eq_true] at h
    rcases List.mem_cons.1 hk with h1 | h1
    · rcases List.mem_cons.1 hk' with h2 | h2
      · rw [h1,h2]
      · exact absurd (by rw [← h1,he]; exact List.mem_map.2 ⟨k',h2,rfl⟩) (notin_iff h.1)
    · rcases List.mem_cons.1 hk' with h2 | h2
      · exact absurd (by rw [← h2,← he]; exact List.mem_map.2 ⟨k,h1,rfl⟩) (notin_iff h.1)
      · exact nodupb_inj h.2 k k' h1 h2 he
def keyset : List Nat → List Nat
  | [] => []
  | x :: t => bif notin x t then x :: keyset t else keyset t
theorem mem_keyset {k : Nat} : ∀ {l : List Nat},k ∈ l → k ∈ keyset l
  | x :: t,h => by
    simp only [keyset]
    cases hn : notin x t with
    | true =>
      rcases List.mem_cons.1 h with rfl | h
      · exact List.mem_cons_self
      · exact List.mem_cons_of_mem _ (mem_keyset h)
    | false =>
      rcases List.mem_cons.1 h with rfl | h
      · have : k ∈ t := by
          have key : ∀ l : List Nat,notin k l = false → k ∈ l := by
            intro l
            induction l with
            | nil => intro h; cases h
            | cons y t ih =>
              intro h
              simp only [notin,Bool.and_eq_false_iff,Bool.not_eq_false'] at h
              rcases h with h | h
              · rw [Nat.eq_of_beq_eq_true h]; exact List.mem_cons_self
              · exact List.mem_cons_of_mem _ (ih h)
          exact key t hn
        exact mem_keyset this
      · exact mem_keyset h
def pinb (nB n : Nat) (ρ : Nat → Nat) : Bool := (List.range nB).all fun k => Nat.beq (ρ k) k && Nat.blt k n
theorem pin_of {nB n : Nat} {ρ : Nat → Nat} (h : pinb nB n ρ = true) : ∀ k,k < nB → ρ k = k ∧ k < n := fun k hk => by
  have := List.all_eq_true.1 h k (List.mem_range.2 hk)
  simp only [Bool.and_eq_true,Nat.blt_eq] at this
  exact ⟨Nat.eq_of_beq_eq_true this.1,this.2⟩
theorem LeR.of {nB : Nat} {S S' : St} {ρ : Nat → Nat} (fr : LeFr S.fr ρ S'.fr) (X : LeX S.X ρ S'.X) (L : LeL S.L ρ S'.L) (hinj : nodupb ((keyset (keys S'.L)).map ρ) = true) (D : S.D = S'.D.map ρ) (G : S'.G = []) (kb : S'.kb = true) (hpin : pinb nB S'.n ρ = true) : LeR nB S S' ρ :=
  ⟨fr,X,L,fun k k' hk hk' h => nodupb_inj hinj k k' (mem_keyset hk) (mem_keyset hk') h,D,G,kb,pin_of hpin⟩
section
variable {cx : Cx} {Q : Exit → Act → World → Prop} {ops : Array Oper} {nf : Nat} {r : Rec} {t : List (Oper × Rec)}
variable {n : Nat} {fr : List (Nat × SV)} {X : List (Nat × Pred)} {L : List (Nat × Ent)} {D : List Nat} {G : List (Nat × Bool)} {d : Tmp} {op : Op} {ty : TypeId} {pos : String} {af : Array Edge} {sv : SV}
theorem Imp.bit (g m : Nat) (b : Bool) (hg : Nat.ble n g = true) (hm : Nat.blt g m = true) : Imp cx ⟨n,fr,X,L,D,G⟩ ⟨m,fr,X,L,D,(g,b) :: G⟩ :=
  fun _ _ _ _ hs => ⟨_,_,Sat.bit (by simpa using hg) (by rw [Nat.blt_eq] at hm; exact hm) hs⟩
theorem DRQ.gv (g : Nat) {gs : List Nat} {b : Bool} {x : El} {j dj : Nat} {want : Bool} (hd : Nat.blt d cx.N = true) (hj : (ops[j]?).bind (·.dst) = some dj) (hb : GB (St.drop ⟨n,fr,X,L,D,G⟩ r.ds r.dk) dj want g gs b) (hN : r.N = [])
    (h : b = true → OpG cx ((St.drop ⟨n,fr,X,L,D,G⟩ r.ds r.dk).und gs) ⟨some d,op,ty,pos,af,some (j,want)⟩ (.val (.e x))) (K : DRQ cx ops nf t ⟨n,(d,.c g x) :: fr,X,L,D,G⟩ Q) :
    DRQ cx ops nf ((⟨some d,op,ty,pos,af,some (j,want)⟩,r) :: t) ⟨n,fr,X,L,D,G⟩ Q :=
  ⟨U.cond (.val (.e x)) g b x,ROp.g rfl hj hb rfl rfl (fun _ _ h => by cases h) h,⟨hN.symm,fun _ _ h => (by cases h),fun _ _ h => (by cases h),rfl,fun i hi => by cases hi; rw [Nat.blt_eq] at hd; exact hd⟩,K⟩
theorem DRQ.gx (g k : Nat) {gs : List Nat} {b : Bool} {x : El} {R : Pred} {j dj : Nat} {want : Bool} (hd : Nat.blt d cx.N = true) (hj : (ops[j]?).bind (·.dst) = some dj) (hb : GB (St.drop ⟨n,fr,X,L,D,G⟩ r.ds r.dk) dj want g gs b) (hN : r.N = [k]) (hk : r.ks = [k])
    (h : b = true → OpG cx ((St.drop ⟨n,fr,X,L,D,G⟩ r.ds r.dk).und gs) ⟨some d,op,ty,pos,af,some (j,want)⟩ ⟨.e x,[k],[(k,R)],[],[]⟩) (K : DRQ cx ops nf t ⟨n,(d,.c g x) :: fr,(k,Pred.iff b R) :: X,L,D,G⟩ Q) :
    DRQ cx ops nf ((⟨some d,op,ty,pos,af,some (j,want)⟩,r) :: t) ⟨n,fr,X,L,D,G⟩ Q :=
  ⟨U.cond ⟨.e x,[k],[(k,R)],[],[]⟩ g b x,ROp.g rfl hj hb rfl rfl (fun _ _ h => by obtain ⟨rfl,_⟩ := look_one h; simp) h,⟨hN.symm,fun i _ h => (by obtain ⟨rfl,_⟩ := look_one h; rw [hk]; simp),fun _ _ h => (by cases h),rfl,fun i hi => by cases hi; rw [Nat.blt_eq] at hd; exact hd⟩,K⟩
end
def arrA (n : Nat) (l : List Int) : List At := (List.range n).map fun (j : Nat) => ai (nth l (j : Int))
theorem arrA_get {n : Nat} {l : List Int} {i : Int} (h0 : 0 ≤ i) (h1 : i < n) : (arrA n l)[i.toNat]? = some (ai (nth l i)) := by
  have h : i.toNat < n := by omega
  have e : ((i.toNat : Nat) : Int) = i := by omega
  simp [arrA,h,e]
theorem arrA_set {n : Nat} {l : List Int} {i : Int} {v : Int} (hl : l.length = n) (h0 : 0 ≤ i) (h1 : i < n) : splice (arrA n l) i.toNat [ai v] = arrA n (lset l i v) := by
  have h : i.toNat < n := by omega
  apply List.ext_getElem?
  intro j
  simp only [splice,arrA,List.getElem?_append,List.length_append,List.length_take,List.length_map,List.length_range,List.length_cons,List.length_nil,List.getElem?_take,List.getElem?_drop,List.getElem?_map]
  have e1 : min i.toNat n = i.toNat := by omega
  simp only [e1]
  by_cases c1 : j < i.toNat
  · have c2 : j < i.toNat + 1 := by omega
    have c3 : j < n := by omega
    have c4 : ¬ i.toNat = j := by omega
    simp [c1,c2,c3,nth,lset,List.getD_eq_getElem?_getD,List.getElem?_set,c4]
  · by_cases c2 : j = i.toNat
    · subst c2
      simp [h,nth,lset,List.getD_eq_getElem?_getD,List.getElem?_set,hl]
    · have c3 : ¬ j < i.toNat + 1 := by omega
      have c5 : i.toNat + 1 + (j - (i.toNat + 1)) = j := by omega
      have c4 : ¬ i.toNat = j := by omega
      by_cases c6 : j < n
      · simp [c3,c5,c6,nth,lset,List.getD_eq_getElem?_getD,List.getElem?_set,c4]
      · simp [c3,c5,c6]
section ops
variable {cx : Cx} {S : St} {dst : Option Tmp} {ty : TypeId} {pos : String} {af : Array Edge} {gd : Option (Nat × Bool)}
theorem o_ldpn {x : Operand} {T T' : TypeId} {k n : Nat} {cs : List At} {l : List Int} {i : Int} (hT : TyS cx.P T) (hx : S.op x = some (.e (.a (.p k i.toNat)))) (hk : look k S.L = some (.blk cs T')) (hcs : cs = arrA n l) (h0 : 0 ≤ i) (h1 : i < n) :
    OpG cx S ⟨dst,.load T x,ty,pos,af,gd⟩ (.val (.i (nth l i))) := by
  subst hcs
  exact o_ldp hT hx hk (arrA_get h0 h1)
theorem o_stpn {x y : Operand} {T T' : TypeId} {k n : Nat} {cs cs' : List At} {l : List Int} {i v : Int} (hT : TyS cx.P T) (hx : S.op x = some (.e (.a (.p k i.toNat)))) (hk : look k S.L = some (.blk cs T')) (hy : S.op y = some (.i v)) (hcs : cs = arrA n l) (hcs' : cs' = arrA n (lset l i v)) (hl : l.length = n) (h0 : 0 ≤ i) (h1 : i < n) :
    OpG cx S ⟨none,.store T x y,ty,pos,af,none⟩ ⟨.e (.a (.v undef)),[],[],[(k,.blk cs' T')],[]⟩ := by
  subst hcs
  subst hcs'
  rw [← arrA_set hl h0 h1]
  refine o_sta hT hx hk hy rfl ?_
  have : (arrA n l).length = n := by simp [arrA]
  rw [this]
  simp; omega
def EArr (n : Nat) : EP (List Int) := .fix n (fun l => (List.range n).map fun (j : Nat) => .int .i64 (nth l (j : Int))) (fun _ => by simp)
theorem run_eqb {P : Program} {t : TypeId} (hT : P.underlying t = some .bool) (a b : Bool) (w : World) : (Op.equal t (.bool a) (.bool b)).run P w = .ok (a == b) w := by
  show (Op.equalIn (Op.maxDepth - 1 + 1) t (.bool a) (.bool b)).run P w = _
  simp [Op.equalIn,run_underlying hT]
theorem o_neb {x y : Operand} {t t' : TypeId} {a b : Bool} (hT : cx.P.underlying t = some .bool) (hx : S.op x = some (.b a)) (hy : S.op y = some (.b b)) : OpG cx S ⟨dst,.binOp .neq t x y t',ty,pos,af,gd⟩ (.val (.b (a != b))) :=
  OpG.pure (fun _ => by simp) fun M ε I ac w hs => ⟨trivial,by
    have h1 := hs.eval hx; have h2 := hs.eval hy
    simp only [SV.den,El.den,At.den] at h1 h2
    have := run_eqb hT a b w
    simp [execOp,h1,h2,eqGuard,binOp,SV.den,El.den,At.den,this]
    cases a <;> cases b <;> rfl⟩
end ops
end Go.Eng
namespace Go.Eng
open Go
theorem intc {y : Int} : ∀ I cs,EP.int.h I cs y → cs[0]? = some (.int .i64 y) := fun _ _ h => by
  rw [show _ = _ from h]; rfl
def SzAll (P : Program) : List Field → List Nat → Prop
  | [],[] => True
  | f :: fs,n :: ns => (∀ w,(sizeOf f.type).run P w = .ok n w) ∧ SzAll P fs ns
  | _,_ => False
theorem SzAll.run {P : Program} {w : World} : ∀ {fs : List Field} {ns : List Nat},SzAll P fs ns → (fs.mapM (fun f => do pure (f.offset,← sizeOf f.type) : Field → Sem (Nat × Nat))).run P w = .ok ((fs.map (·.offset)).zip ns) w
  | [],[],_ => rfl
  | f :: fs,n :: ns,h => by
    rw [List.mapM_cons]
    simp only [Sem.run_bind,h.1,Result.andThen_ok,Sem.run_pure,SzAll.run h.2]
    rfl
theorem BldT.mk {P : Program} {T : TypeId} {fs : List Field} {ns : List Nat} {pl : List (Nat × Nat)} {z : Value} {zs : List Value} (hu : P.underlying T = some (.struct fs.toArray)) (hn : SzAll P fs ns) (hpl : pl = (fs.map (·.offset)).zip ns) (hz : ∀ w,(zeroValue T).run P w = .ok z w) (hzs : z.cells = zs.toArray) : BldT P T pl zs :=
  ⟨⟨_,hu,fun w => by
    rw [List.mapM_toArray]
    simp only [Sem.run_map,SzAll.run hn,hpl]
    rfl⟩,z,hz,hzs⟩
def Pred.and (R R' : Pred) : Pred := ⟨fun I v => R.h I v ∧ R'.h I v,fun hI h => ⟨R.mono hI h.1,R'.mono hI h.2⟩⟩
theorem lxl {X : List (Nat × Pred)} {j : Nat} {R R' : Pred} (h : look j X = some (R.and R')) : Has X j R := ⟨_,h,fun _ _ h => h.1⟩
theorem lxr {X : List (Nat × Pred)} {j : Nat} {R R' : Pred} (h : look j X = some (R.and R')) : Has X j R' := ⟨_,h,fun _ _ h => h.2⟩
def PN {α : Type} (E : EP α) : Pred := (PL E []).and (Pred.is (.slice none 0 0))
theorem pn_ok {α : Type} {E : EP α} : ∀ I,(PN E).h I (.slice none 0 0) := fun _ => ⟨⟨none,0,rfl,Nat.le_refl _,fun i hi => absurd hi (by simp)⟩,rfl⟩
def SigF (P : Program) (f : FuncId) (svs : List SV) (X0 : List (Nat × Pred)) (sv : SV) (X : List (Nat × Pred)) : Prop :=
  ∀ (I : IH) (w : World) (ν : Nat → Value),I.on w → FactsOK ν I X0 → Ct P f (svs.map (den0 ν)).toArray I w Emp sv (X.map fun p => (p.1,Pred.from w.heap.size p.2))
theorem Sig.free {P : Program} {f : FuncId} {svs : List SV} {X0 : List (Nat × Pred)} {sv : SV} (h : Sig P f svs X0 sv []) : SigF P f svs X0 sv [] := h
theorem SigF.intro {P : Program} {f : FuncId} {fn : Func} {c : Code} {svs : List SV} {X0 : List (Nat × Pred)} {sv : SV} {X : List (Nat × Pred)} (hf : P.funcs[f]? = some fn) (hb : fn.body = some c) (n : Nat) (fr : List (Nat × SV)) (hfr : fr = frOf 0 svs)
    (hwf : ∀ x ∈ svs,x.res (keys X0)) (hn : (keys X0).all (Nat.blt · n) = true) (hN : Nat.ble svs.length fn.ntmps = true)
    (h : ∀ I w,WP ⟨P,none,w,fn.ntmps,Emp,I,0,fun _ => 0,fun _ => undef⟩ ⟨n,fr,X0,[],[],[]⟩ c (Post P fn (CtR I w Emp sv (X.map fun p => (p.1,Pred.from w.heap.size p.2))))) : SigF P f svs X0 sv X := fun I w ν hI hX =>
  Ct.intro hf hb hI ν svs X0 n fr hfr rfl hX hwf (fun k hk => by simpa [Nat.blt_eq] using List.all_eq_true.1 hn k hk) hN (h I w)
inductive LendF (S : St) (k : Nat) (R : Pred) : Prop
  | x (h : Has S.X k R)
  | own {α : Type} {E : EP α} {l : List α} {T : TypeId} (hk : look k S.L = some (.own T E.size l.length (RP E l))) (hR : R = PL E l)
  | ext {u e : Value} (hX : Has S.X k (Pred.is u)) (hL : look k S.L = some (.ext (lentXP u e R)))
  | mem {u : Value} {x : XP} {kp : Nat} (hX : Has S.X k (Pred.is u)) (hL : look kp S.L = some (.ext x)) (hR : ∀ I w,x.J I w → R.h (World.all w) u)
def LendOK (S : St) (ρ : Nat → Nat) : List (Nat × Pred) → Prop
  | [] => True
  | (j,R) :: t => LendF S (ρ j) R ∧ LendOK S ρ t
theorem LendF.ok {cx : Cx} {M : Nat → Prop} {ε : Env} {I : IH} {S : St} {a : Act} {w : World} (hs : SatM cx M ε I S a w) {k : Nat} {R : Pred} (h : LendF S k R) : R.h (World.all w) (ε.ν k) := by
  cases h with
  | x h => exact hs.all h
  | own hk hR => subst hR; exact hs.lend hk
  | ext hX hL => exact hs.lent hX hL
  | mem hX hL hR => rw [show ε.ν k = _ from hs.has hX]; exact hR I w (hs.L _ _ hL)
theorem LendOK.ok {cx : Cx} {M : Nat → Prop} {ε : Env} {I : IH} {S : St} {a : Act} {w : World} (hs : SatM cx M ε I S a w) {ρ : Nat → Nat} : ∀ {X0 : List (Nat × Pred)},LendOK S ρ X0 → FactsOK (fun j => ε.ν (ρ j)) (World.all w) X0
  | [],_ => trivial
  | _ :: _,h => ⟨h.1.ok hs,LendOK.ok hs h.2⟩
section ops
variable {cx : Cx} {S : St} {dst : Option Tmp} {ty : TypeId} {pos : String} {af : Array Edge} {gd : Option (Nat × Bool)}
theorem sh_map {α β : Type} (m : Nat) (f : α → β) (X : List (Nat × α)) : sh m (X.map fun p => (p.1,f p.2)) = (sh m X).map fun p => (p.1,f p.2) := by simp [sh]
end ops
section ops
variable {cx : Cx} {S : St} {pos : String} {af : Array Edge} {ty : TypeId}
theorem o_steE2 {α : Type} {E : EP α} {x y : Operand} {T e : TypeId} {j n sz : Nat} {l : List α} {i : Int} {z : α} {ev : El} (hT : ∀ w,(sizeOf T).run cx.P w = .ok sz w) (hx : S.op x = some (.e (.a (.e j (i.toNat * sz))))) (hj : look j S.L = some (.own e sz n (RP E l))) (hy : S.op y = some (.e ev)) (h1 : ev.one S) (hz : EOK cx S E ev z)
    (hm : ev.cells.length = sz) (hsz : sz = E.size) (hn : n = l.length) (h0 : 0 ≤ i) (hi : i < l.length) :
    OpG cx S ⟨none,.store T x y,ty,pos,af,none⟩ ⟨.e (.a (.v undef)),[],[],[(j,.own e sz (lset l i z).length (RP E (lset l i z)))],[]⟩ := by
  have := o_steE (ty := ty) (pos := pos) (af := af) hT hx hj hy h1 hz hm hsz hn h0 hi
  rw [lset_len,← hn]; exact this
end ops
section ops
variable {cx : Cx} {S : St} {dst : Option Tmp} {ty : TypeId} {pos : String} {af : Array Edge} {gd : Option (Nat × Bool)}
end ops
section
variable {cx : Cx} {Q : Exit → Act → World → Prop} {ops : Array Oper} {nf : Nat} {r : Rec} {t : List (Oper × Rec)} {rest : List Oper}
variable {n : Nat} {fr : List (Nat × SV)} {X : List (Nat × Pred)} {L : List (Nat × Ent)} {D : List Nat} {G : List (Nat × Bool)} {d : Tmp} {op : Op} {ty : TypeId} {pos : String} {af : Array Edge}
end
end Go.Eng
namespace Go.Eng
open Go
def EP.box (R : Pred) : EP Unit := ⟨1,fun I cs _ => ∃ v,cs = [v] ∧ R.h I v,fun ⟨_,h,_⟩ => by rw [h]; rfl,fun hI ⟨v,h,k⟩ => ⟨v,h,R.mono hI k⟩⟩
theorem boxx {R : Pred} : ∀ I cs,(EP.box R).h I cs () → ∃ u,cs[0]? = some u ∧ R.h I u := fun _ _ ⟨v,h,k⟩ => ⟨v,by rw [h]; rfl,k⟩
theorem bok_box {cx : Cx} {S : St} {R : Pred} {j : Nat} (hj : Has S.X j R) : ∀ M ε I a w,SatM cx M ε I S a w → (EP.box R).h I (([.q j] : List At).map (At.den ε)) () := fun _ _ _ _ _ hs => ⟨_,rfl,hs.has hj⟩
theorem bok_int {cx : Cx} {S : St} {n : Int} : ∀ M ε I a w,SatM cx M ε I S a w → EP.int.h I (([ai n] : List At).map (At.den ε)) n := fun _ _ _ _ _ _ => rfl
theorem bok_con {cx : Cx} {S : St} {u : Value} : ∀ M ε I a w,SatM cx M ε I S a w → (EP.box (Pred.is u)).h I (([.v u] : List At).map (At.den ε)) () := fun _ _ _ _ _ _ => ⟨_,rfl,rfl⟩
theorem Has.of {X : List (Nat × Pred)} {j : Nat} {R R' : Pred} (h : Has X j R) (k : ∀ I v,R.h I v → R'.h I v) : Has X j R' := by
  obtain ⟨R0,h1,h2⟩ := h; exact ⟨R0,h1,fun I v h => k I v (h2 I v h)⟩
def SvsOK (S : St) : List SV → List SV → Prop
  | [],[] => True
  | y :: ys,x :: xs => (y = x ∨ ∃ j u,x = .e (.a (.q j)) ∧ (∀ ε,y.den ε = u) ∧ Has S.X j (Pred.is u)) ∧ SvsOK S ys xs
  | _,_ => False
theorem SvsOK.den {cx : Cx} {M : Nat → Prop} {ε : Env} {I : IH} {S : St} {a : Act} {w : World} (hs : SatM cx M ε I S a w) : ∀ {ys xs : List SV},SvsOK S ys xs → ys.map (SV.den ε) = xs.map (SV.den ε)
  | [],[],_ => rfl
  | y :: ys,x :: xs,h => by
    rw [List.map_cons,List.map_cons,SvsOK.den hs h.2]
    rcases h.1 with h1 | ⟨j,u,rfl,h2,h3⟩
    · rw [h1]
    · rw [h2 ε,show SV.den ε (.e (.a (.q j))) = u from hs.has h3]
theorem SvsOK.rf {S : St} : ∀ {l : List SV},SvsOK S l l
  | [] => trivial
  | _ :: _ => ⟨.inl rfl,SvsOK.rf⟩
theorem svs_ren {ε : Env} {ρ : Nat → Nat} {svs : List SV} {J : List Nat} (hwf : ∀ x ∈ svs,x.res J) : (svs.map (SV.ren ρ)).map (SV.den ε) = svs.map (den0 fun j => ε.ν (ρ j)) := by
  rw [List.map_map]; exact List.map_congr_left (fun x hx => SV.ren_den (hwf x hx))
section ops
variable {cx : Cx} {S : St} {dst : Option Tmp} {ty : TypeId} {pos : String} {af : Array Edge} {gd : Option (Nat × Bool)}
theorem o_sigc {P : Program} {f : FuncId} {l : List Operand} {ts : Array TypeId} {svs svs' : List SV} {X0 : List (Nat × Pred)} {sv : SV} {X : List (Nat × Pred)} (m : Nat) (ρ : Nat → Nat) (hs : Sig P f svs X0 sv X) (hf : Enters' P f) (hP : cx.P = P) (hl : S.ops l = some svs') (hren : SvsOK S svs' (svs.map (SV.ren ρ)))
    (hwf : ∀ x ∈ svs,x.res (keys X0)) (hX : RenOK S.X ρ X0) (hres : sv.res (keys X)) :
    OpG cx S ⟨dst,.call { callee := .value (.func f),args := l.toArray,argTypes := ts },ty,pos,af,gd⟩ ⟨sv.ren (m + ·),keys (sh m X),sh m X,[],[]⟩ := by
  subst hP
  refine o_call hf hl (by rw [keys_sh]; exact SV.ren_res hres) fun M ε I a w h => ?_
  have := hs I w (fun j => ε.ν (ρ j)) h.imm (FactsOK.of (fun j R hj => h.has hj) hX)
  rw [hren.den h,svs_ren hwf]
  exact CallsIn.mono this fun e w' h => CtR.shift hres h
theorem o_sigbc {P : Program} {f : FuncId} {l : List Operand} {ts : Array TypeId} {svs svs' : List SV} {X0 : List (Nat × Pred)} {sv : SV} {X : List (Nat × Pred)} (m : Nat) (ρ : Nat → Nat) (hs : SigF P f svs X0 sv X) (hf : Enters' P f) (hP : cx.P = P) (hl : S.ops l = some svs') (hren : SvsOK S svs' (svs.map (SV.ren ρ)))
    (hwf : ∀ x ∈ svs,x.res (keys X0)) (hX : LendOK S ρ X0) (hres : sv.res (keys X)) :
    OpG cx S ⟨dst,.call { callee := .value (.func f),args := l.toArray,argTypes := ts },ty,pos,af,gd⟩ ⟨sv.ren (m + ·),keys (sh m X),sh m X,[],[]⟩ := by
  subst hP
  refine o_callb hf hl (by rw [keys_sh]; exact SV.ren_res hres) fun M ε I a w h => ?_
  have := hs (World.all w) w (fun j => ε.ν (ρ j)) (World.all_on w) (LendOK.ok h hX)
  rw [hren.den h,svs_ren hwf,← sh_map]
  exact CallsIn.mono this fun e w' h => CtR.shift (by
    have : keys (X.map fun p => (p.1,Pred.from w.heap.size p.2)) = keys X := by simp [keys]
    rw [this]; exact hres) h
end ops
def FvP (P : Program) (svs : List SV) (X0 : List (Nat × Pred)) (sv : SV) (X : List (Nat × Pred)) : Pred where
  h I v := (∃ fn fs cs,v = .func fn fs cs) ∧ ∀ (I' : IH) (w : World) (ν : Nat → Value),I.le I' → I'.on w → FactsOK ν I' X0 → ∃ f args',FnV P v (svs.map (den0 ν)) f args' ∧ Ct P f args' I' w Emp sv X
  mono hI h := ⟨h.1,fun I' w ν hle => h.2 I' w ν (hI.trans hle)⟩
def Pred.fn : Pred := ⟨fun _ v => ∃ fn fs cs,v = .func fn fs cs,fun _ h => h⟩
theorem FactsOK.app {ν : Nat → Value} {I : IH} : ∀ {X X' : List (Nat × Pred)},FactsOK ν I X → FactsOK ν I X' → FactsOK ν I (X ++ X')
  | [],_,_,h => h
  | _ :: _,_,h,h' => ⟨h.1,FactsOK.app h.2 h'⟩
theorem FactsOK.mono {ν : Nat → Value} {I I' : IH} (hI : I.le I') : ∀ {X : List (Nat × Pred)},FactsOK ν I X → FactsOK ν I' X
  | [],_ => trivial
  | p :: _,h => ⟨p.2.mono hI h.1,FactsOK.mono hI h.2⟩
theorem FactsOK.congr {ν ν' : Nat → Value} {I : IH} : ∀ {X : List (Nat × Pred)},(∀ k ∈ keys X,ν' k = ν k) → FactsOK ν I X → FactsOK ν' I X
  | [],_,_ => trivial
  | (k,R) :: t,h,hf => ⟨by rw [h k (by simp [keys])]; exact hf.1,FactsOK.congr (fun j hj => h j (List.mem_cons_of_mem _ hj)) hf.2⟩
theorem den0_congr {ν ν' : Nat → Value} {J : List Nat} (h : ∀ k ∈ J,ν' k = ν k) {x : SV} (hx : x.res J) : den0 ν' x = den0 ν x := SV.den_res (ε := ⟨fun _ => 0,ν,fun _ => true⟩) (ε' := ⟨fun _ => 0,ν',fun _ => true⟩) h hx
def disj (a b : List Nat) : Bool := a.all fun k => notin k b
theorem FvP.mk {P : Program} {f : FuncId} {svs cs : List SV} {X0 Xc : List (Nat × Pred)} {sv : SV} {X : List (Nat × Pred)} (hs : Sig P f (svs ++ cs) (X0 ++ Xc) sv X) (hen : Enters' P f) (hd : disj (keys Xc) (keys X0) = true)
    (hwf : ∀ x ∈ svs,x.res (keys X0)) (hwc : ∀ x ∈ cs,x.res (keys Xc)) {I : IH} {ν : Nat → Value} (hc : FactsOK ν I Xc) : (FvP P svs X0 sv X).h I (.func (.func f) #[] (cs.map (den0 ν)).toArray) := by
  refine ⟨⟨_,_,_,rfl⟩,?_⟩
  intro I' w ν' hle hon hX
  let ν2 : Nat → Value := fun k => if k ∈ keys X0 then ν' k else ν k
  have e1 : ∀ k ∈ keys X0,ν2 k = ν' k := fun k hk => by simp [ν2,hk]
  have e2 : ∀ k ∈ keys Xc,ν2 k = ν k := fun k hk => by
    have : k ∉ keys X0 := notin_iff (List.all_eq_true.1 hd k hk)
    simp [ν2,this]
  refine ⟨f,_,FnV.of hen,?_⟩
  have := hs I' w ν2 hon (FactsOK.app (FactsOK.congr e1 hX) (FactsOK.congr e2 (FactsOK.mono hle hc)))
  have ha : (#[] ++ (svs.map (den0 ν')).toArray ++ (cs.map (den0 ν)).toArray : Array Value) = ((svs ++ cs).map (den0 ν2)).toArray := by
    rw [List.map_append,List.map_congr_left (fun x hx => (den0_congr e1 (hwf x hx)).symm),List.map_congr_left (fun x hx => (den0_congr e2 (hwc x hx)).symm)]
    simp
  rw [ha]; exact this
section ops
variable {cx : Cx} {S : St} {dst : Option Tmp} {ty : TypeId} {pos : String} {af : Array Edge} {gd : Option (Nat × Bool)}
theorem o_callfv {P : Program} {x : Operand} {l : List Operand} {ts : Array TypeId} {svs svs' : List SV} {X0 : List (Nat × Pred)} {sv : SV} {X : List (Nat × Pred)} {j : Nat} (m : Nat) (ρ : Nat → Nat) (hx : S.op x = some (.e (.a (.q j)))) (hj : Has S.X j (FvP P svs X0 sv X)) (hP : cx.P = P)
    (hl : S.ops l = some svs') (hren : SvsOK S svs' (svs.map (SV.ren ρ))) (hwf : ∀ x ∈ svs,x.res (keys X0)) (hX : RenOK S.X ρ X0) (hres : sv.res (keys X)) :
    OpG cx S ⟨dst,.call { callee := .value x,args := l.toArray,argTypes := ts },ty,pos,af,gd⟩ ⟨sv.ren (m + ·),keys (sh m X),sh m X,[],[]⟩ := by
  subst hP
  refine o_callv hx hl (by rw [keys_sh]; exact SV.ren_res hres) fun M ε I a w h => ?_
  obtain ⟨f,args',h1,h2⟩ := (h.has hj).2 I w (fun j => ε.ν (ρ j)) IH.le.rfl' h.imm (FactsOK.of (fun j R hj => h.has hj) hX)
  refine ⟨f,args',?_,CallsIn.mono h2 fun e w' h => CtR.shift hres h⟩
  rw [hren.den h,svs_ren hwf]; exact h1
end ops
theorem FvP.name {P : Program} {f : FuncId} {svs : List SV} {X0 : List (Nat × Pred)} {sv : SV} {X : List (Nat × Pred)} (hs : Sig P f svs X0 sv X) (hen : Enters' P f) (hwf : ∀ x ∈ svs,x.res (keys X0)) (I : IH) : ((FvP P svs X0 sv X).and (Pred.is (.func (.func f) #[] #[]))).h I (.func (.func f) #[] #[]) :=
  ⟨FvP.mk (cs := []) (Xc := []) (by rw [List.append_nil,List.append_nil]; exact hs) hen rfl hwf (fun _ h => by cases h) (ν := fun _ => undef) trivial,rfl⟩
def ItP (P : Program) (items : List Item) : Pred := ⟨fun I v => ∃ f cs,v = .func (.func f) #[] cs ∧ Enters' P f ∧ ∀ I' w,I.le I' → I'.on w → ItC P f (fun y => #[] ++ #[y] ++ cs) I' w items,fun hI ⟨f,cs,h1,h2,h3⟩ => ⟨f,cs,h1,h2,fun I' w hle => h3 I' w (hI.trans hle)⟩⟩
def SigI (P : Program) (f : FuncId) (cs : List SV) (Xc : List (Nat × Pred)) (items : List Item) : Prop := ∀ (I : IH) (w : World) (ν : Nat → Value),I.on w → FactsOK ν I Xc → ItC P f (fun y => #[] ++ #[y] ++ (cs.map (den0 ν)).toArray) I w items
theorem ItP.hit {cx : Cx} {S : St} {j : Nat} {items : List Item} (hj : Has S.X j (ItP cx.P items)) : ∀ M ε I a w,SatM cx M ε I S a w → ∃ f fs cs,(SV.e (.a (.q j))).den ε = .func (.func f) fs cs ∧ Enters' cx.P f ∧ ∀ w2,I.on w2 → ItC cx.P f (fun y => fs ++ #[y] ++ cs) I w2 items := fun M ε I a w hs => by
  obtain ⟨f,cs,h1,h2,h3⟩ := hs.has hj
  exact ⟨f,#[],cs,h1,h2,fun w2 h => h3 I w2 IH.le.rfl' h⟩
theorem o_mkit {cx : Cx} {S : St} {dst : Option Tmp} {ty : TypeId} {pos : String} {af : Array Edge} {gd : Option (Nat × Bool)} {P : Program} {f : FuncId} {l' : List Operand} {cs svs' : List SV} {Xc : List (Nat × Pred)} {items : List Item} (k : Nat) (ρ : Nat → Nat) (hs : SigI P f cs Xc items) (hen : Enters' P f)
    (hl' : S.ops l' = some svs') (hren : SvsOK S svs' (cs.map (SV.ren ρ))) (hwc : ∀ x ∈ cs,x.res (keys Xc)) (hX : RenOK S.X ρ Xc) :
    OpG cx S ⟨dst,.makeFunc (.func f) #[] l'.toArray,ty,pos,af,gd⟩ ⟨.e (.a (.q k)),[k],[(k,ItP P items)],[],[]⟩ :=
  o_mkfn (l := []) rfl hl' fun M ε I a w h => by
    rw [hren.den h,svs_ren hwc]
    exact ⟨f,_,rfl,hen,fun I' w' hle hon => hs I' w' _ hon (FactsOK.mono hle (FactsOK.of (fun j R hj => h.has hj) hX))⟩
theorem SigI.intro {P : Program} {f : FuncId} {fn : Func} {c : Code} {cs : List SV} {Xc : List (Nat × Pred)} {items : List Item} (hf : P.funcs[f]? = some fn) (hb : fn.body = some c) (n ky : Nat) (hwf : ∀ x ∈ cs,x.res (keys Xc)) (hn : (keys Xc).all (Nat.blt · n) = true) (hky : Nat.blt ky n = true) (hN : Nat.ble (cs.length + 1) fn.ntmps = true)
    (h : ∀ (I : IH) (w : World) (l : Nat) (Y : Nat → YI w.heap.size) (K : YI w.heap.size) (F0 : Nat → Prop),
      (∀ i it,items[i]? = some it → ∀ F I' w' us vs,(Y i).J F I' w' → I.le I' → I'.on w' → w.heap.size ≤ w'.heap.size → (∀ b,F0 b → F b) → it.ok F I' w' us vs → RoundR P l vs w.heap.size F I' w' (Y (i + 1)) K) →
      WP ⟨P,none,w,fn.ntmps,F0,I,0,fun _ => 0,fun _ => undef⟩ ⟨n,frOf 0 (.e (.a (.v (yv l))) :: cs),Xc,[(ky,.ext ((Y 0).xp F0))],[],[]⟩ c (PostI P fn (ItR I w F0 fun F' I' w' => (Y items.length).J F' I' w' ∨ K.J F' I' w'))) :
    SigI P f cs Xc items := fun I w ν hI hX l Y K F0 hY hround => by
  have hky' : ky < n := by rw [Nat.blt_eq] at hky; exact hky
  refine It.intro hf hb hI hY ν (.e (.a (.v (yv l))) :: cs) Xc n ky _ rfl ?_ hX ?_ (fun k hk => by simpa [Nat.blt_eq] using List.all_eq_true.1 hn k hk) hky' (by simpa using hN) (h I w l Y K F0 hround)
  · show _ = (yv l :: cs.map (den0 ν)).toArray
    simp
  · intro x hx
    rcases List.mem_cons.1 hx with rfl | hx
    · trivial
    · exact hwf x hx
theorem leavesM2 {cx : Cx} {fn : Func} {R : Ending → World → Prop} {rs : List ResultVar} {els : List El} {ε : Env} {I : IH} {M : Nat → Prop} (hr : fn.results = rs.toArray) :
    ∀ (D : List Nat) (S : St) (a : Act) (w : World),S.D = D → (∀ k ∈ D,look k S.L = some (.ob (.deferred (some [])))) → D.Nodup → SatM cx M ε I S a w → ResOf cx S rs els →
    (∀ S' a' w',SatM cx M ε I S' a' w' → (∀ i e,look i S.L = some e → (∀ o,e ≠ .ob o) → look i S'.L = some e) → R (.returned ((resSV els).den ε)) w') → LeavesInM (fen none) 0 cx.P fn a.tmps R a.defers .returning w
  | [],S,a,w,hD,_,_,hs,hres,hR => by
    have : a.defers = [] := by rw [hs.defs,hD]; rfl
    rw [this]
    exact ⟨_,results_run hs hres hr,hR S a w hs (fun _ _ h _ => h)⟩
  | k :: D,S,a,w,hD,hmk,hnd,hs,hres,hR => by
    have : a.defers = markOf ε.β k :: D.map (markOf ε.β) := by rw [hs.defs,hD]; rfl
    rw [this]
    have hob := hmk k List.mem_cons_self
    have hL := hs.L k _ hob
    simp only [Ent.ok] at hL
    have hlt := (Array.getElem?_eq_some_iff.1 hL).1
    have hft := hs.foot k _ hob _ rfl
    refine ⟨by simp,.inl ⟨_,_,rfl,run_take hL,?_⟩⟩
    have hoth : ∀ b,b ≠ ε.β k → ({ w with heap := w.heap.setIfInBounds (ε.β k) (.deferred none) } : World).heap[b]? = w.heap[b]? := fun b hb => by
      simp [Array.getElem?_setIfInBounds_ne (Ne.symm hb)]
    have himm : I.on { w with heap := w.heap.setIfInBounds (ε.β k) (.deferred none) } := fun b o hb => by
      rw [hoth b (fun e => by rw [e,hft.2.2] at hb; cases hb)]; exact hs.imm b o hb
    have hlk : ∀ i e,look i ((k,Ent.dead) :: S.L) = some e → (i = k ∧ e = .dead) ∨ (i ≠ k ∧ look i S.L = some e) := by
      intro i e he
      rw [look_cons] at he
      by_cases hk : k = i
      · subst hk; simp at he; exact .inl ⟨rfl,he.symm⟩
      · simp [hk] at he; exact .inr ⟨fun e => hk e.symm,he⟩
    have := leavesM2 (R := R) hr D { S with L := (k,.dead) :: S.L,D := D } { a with defers := D.map (markOf ε.β) } { w with heap := w.heap.setIfInBounds (ε.β k) (.deferred none) } rfl
      (fun i hi => by
        have hne : k ≠ i := fun e => by subst e; exact (List.nodup_cons.1 hnd).1 hi
        simp only [look_cons,hne,if_false]; exact hmk i (List.mem_cons_of_mem _ hi)) (List.nodup_cons.1 hnd).2
      { wfr := hs.wfr,wfX := hs.wfX,wfG := hs.wfG,G := hs.G,size := hs.size,fr := hs.fr,X := hs.X,le0 := hs.le0,fr0 := hs.fr0
        wfL := fun i e he => by
          rcases hlk i e he with ⟨rfl,rfl⟩ | ⟨_,he⟩
          · exact ⟨(hs.wfL i _ hob).1,trivial⟩
          · exact hs.wfL i e he
        wfD := fun i hi => hs.wfD i (by rw [hD]; exact List.mem_cons_of_mem _ hi)
        defs := rfl
        L := fun i e he => by
          rcases hlk i e he with ⟨rfl,rfl⟩ | ⟨hne,he⟩
          · trivial
          · exact Ent.ok_kept (M := M) Env.agree.refl IH.le.rfl' (hs.wfL i e he).1 (hs.wfL i e he).2 (hs.L i e he) (fun b hb => hoth b (fun eb => hs.sep i k e _ b he hob hne hb (by rw [eb]; rfl))) (fun x hx => by
            subst hx
            obtain ⟨hx1,hx2⟩ := hs.ext i x he
            refine ⟨IH.le.rfl',himm,rfl,rfl,Out.rf,by simp,fun b hb hn => hoth b (fun eb => ?_),fun b o hb => .inl hb⟩
            have hnF : ¬ x.F b := fun hF => hs.sep i k _ _ b he hob hne hF eb
            rcases hn with hn | hn
            · rcases hft.1 with h1 | h1
              · rw [← eb] at h1
                have := (hx2 b hn).1
                omega
              · rw [← eb] at h1
                exact hnF ((hx2 b hn).2 h1)
            · exact hnF hn)
        foot := fun i e he b hb => by
          rcases hlk i e he with ⟨rfl,rfl⟩ | ⟨_,he⟩
          · cases hb
          · have := hs.foot i e he b hb
            exact ⟨this.1,by simpa using this.2.1,this.2.2⟩
        sep := fun i i' e e' b he he' hne hb => by
          rcases hlk i e he with ⟨rfl,rfl⟩ | ⟨_,he⟩
          · cases hb
          · rcases hlk i' e' he' with ⟨rfl,rfl⟩ | ⟨_,he'⟩
            · simp [Ent.foot]
            · exact hs.sep i i' e e' b he he' hne hb
        imm := himm
        pin := hs.pin
        ext := fun i x hx => by
          rcases hlk i _ hx with ⟨_,hx⟩ | ⟨_,hx⟩
          · cases hx
          · exact hs.ext i x hx
        keep := ⟨hs.keep.os,hs.keep.tape,hs.keep.output,by simpa using hs.keep.size,fun b hb hE => by
          rw [hoth b (fun e => by rw [e] at hb hE; rcases hft.1 with h | h; · omega
                                  · exact hE h)]
          exact hs.keep.block b hb hE⟩ } (ResOf.dead hob hres) (fun S' a' w' hs' hk' => hR S' a' w' hs' fun i e he hno => hk' i e (by
            have hne : k ≠ i := fun h => by subst h; rw [hob] at he; cases he; exact hno _ rfl
            simp only [look_cons,hne,if_false]; exact he) hno)
    exact this
def envU (us : Nat → Value) : Env := ⟨fun _ => 0,us,fun _ => true⟩
def Ent.isOwn : Ent → Bool
  | .own _ _ _ _ => true
  | _ => false
structure LOK (us : Nat → Value) (I' : IH) (w w' : World) (L : List (Nat × Ent)) : Prop where
  ok : ∀ k e,look k L = some e → e.ok (envU us) I' w' k
  foot : ∀ k e,look k L = some e → ∀ b,e.foot (envU us) k b → w.heap.size ≤ b ∧ b < w'.heap.size ∧ I' b = none
  sep : ∀ k k' e e' b,look k L = some e → look k' L = some e' → k ≠ k' → e.foot (envU us) k b → ¬ e'.foot (envU us) k' b
def CtRO (I : IH) (w : World) (sv : SV) (X : List (Nat × Pred)) (L : List (Nat × Ent)) : Ending → World → Prop := fun e w' =>
  ∃ I' us,e = .returned (sv.den (envU us)) ∧ Keep Emp w w' ∧ I.le I' ∧ I'.on w' ∧ (∀ b o,I' b = some o → I b = some o ∨ w.heap.size ≤ b) ∧ (∀ j R,look j X = some R → R.h I' (us j)) ∧ LOK us I' w w' L
def SigO (P : Program) (f : FuncId) (svs : List SV) (X0 : List (Nat × Pred)) (sv : SV) (X : List (Nat × Pred)) (L : List (Nat × Ent)) : Prop :=
  ∀ (I : IH) (w : World) (ν : Nat → Value),I.on w → FactsOK ν I X0 → CallsIn Fence.wide 0 P f (svs.map (den0 ν)).toArray w (CtRO I w sv X L)
theorem own_only {L : List (Nat × Ent)} (h : L.all (fun p => p.2.isOwn) = true) {k : Nat} {e : Ent} (he : look k L = some e) : ∃ T s n R,e = .own T s n R := by
  have := List.all_eq_true.1 h _ (look_mem he)
  cases e <;> simp [Ent.isOwn] at this ⊢
theorem SigO.intro {P : Program} {f : FuncId} {fn : Func} {c : Code} {svs : List SV} {X0 : List (Nat × Pred)} {sv : SV} {X : List (Nat × Pred)} {L : List (Nat × Ent)} (hf : P.funcs[f]? = some fn) (hb : fn.body = some c) (n : Nat) (fr : List (Nat × SV)) (hfr : fr = frOf 0 svs)
    (hwf : ∀ x ∈ svs,x.res (keys X0)) (hn : (keys X0).all (Nat.blt · n) = true) (hN : Nat.ble svs.length fn.ntmps = true)
    (h : ∀ I w,WP ⟨P,none,w,fn.ntmps,Emp,I,0,fun _ => 0,fun _ => undef⟩ ⟨n,fr,X0,[],[],[]⟩ c (Post P fn (CtRO I w sv X L))) : SigO P f svs X0 sv X L := fun I w ν hI hX => by
  refine callsIn_of_wp_marks hf hb trivial ?_
  refine h I w ⟨fun _ => 0,ν,fun _ => true⟩ I _ w ?_
  have hN' : svs.length ≤ fn.ntmps := by simpa using hN
  subst hfr
  refine ⟨?_,?_,fun _ _ h => (by cases h),fun _ h => (by cases h),fun _ _ h => (by cases h),fun _ _ h => (by cases h),?_,rfl,?_,hX.get,fun _ _ h => (by cases h),fun _ _ h => (by cases h),fun _ _ _ _ _ h => (by cases h),hI,Keep.refl w,IH.le.rfl',fun _ _ h => .inl h,fun _ h => absurd h (Nat.not_lt_zero _),fun _ _ h => (by cases h)⟩
  · intro i x hx
    have := (look_frOf svs 0 i x hx).2
    exact SV.on_res (fun j hj => by simpa [Nat.blt_eq] using List.all_eq_true.1 hn j hj) (hwf x (List.mem_of_getElem? this))
  · intro j R hj
    simpa [Nat.blt_eq] using List.all_eq_true.1 hn j (look_keys hj)
  · simp; omega
  · intro i x hx
    have := (look_frOf svs 0 i x hx).2
    simp only [Nat.sub_zero] at this
    have hi : i < svs.length := (List.getElem?_eq_some_iff.1 this).1
    rw [Array.getElem?_append_left (by simpa using hi)]
    simp [this,den0]
def OwnOK (S : St) (ρ : Nat → Nat) : List (Nat × Ent) → Prop
  | [] => True
  | (k,e) :: t => look (ρ k) S.L = some e ∧ OwnOK S ρ t
theorem OwnOK.get {S : St} {ρ : Nat → Nat} : ∀ {L : List (Nat × Ent)},OwnOK S ρ L → ∀ k e,look k L = some e → look (ρ k) S.L = some e
  | (j,e') :: t,h,k,e,hk => by
    rw [look_cons] at hk
    by_cases hj : j = k
    · subst hj; simp at hk; subst hk; exact h.1
    · simp [hj] at hk; exact OwnOK.get h.2 k e hk
theorem EX.finO {cx : Cx} {S : St} {fn : Func} {rs : List ResultVar} {els : List El} {sv : SV} {X : List (Nat × Pred)} {L : List (Nat × Ent)} {e : Exit} (ρ : Nat → Nat) (hE : cx.E = Emp) (he : e = .ret ∨ e = .normal) (hr : fn.results = rs.toArray) (hres : ResOf cx S rs els)
    (hsv : resSV els = sv.ren ρ) (hw : sv.res (keys X)) (hX : RenOK S.X ρ X) (hL : OwnOK S ρ L) (hown : L.all (fun p => p.2.isOwn) = true) (hinj : nodupb ((keyset (keys L)).map ρ) = true) (hmk : ∀ k ∈ S.D,look k S.L = some (.ob (.deferred (some [])))) (hnd : S.D.Nodup) :
    EX cx S e (Post cx.P fn (CtRO cx.I0 cx.w0 sv X L)) := by
  intro ε I a w hs
  have key : LeavesInM (fen none) 0 cx.P fn a.tmps (CtRO cx.I0 cx.w0 sv X L) a.defers .returning w :=
    leavesM2 hr S.D S a w rfl hmk hnd hs hres fun S' a' w' hs' hk' => by
      have hl : ∀ k e,look k L = some e → look (ρ k) S'.L = some e ∧ (∀ b,e.foot (envU fun j => ε.ν (ρ j)) k b ↔ e.foot ε (ρ k) b) ∧ (e.ok ε I w' (ρ k) → e.ok (envU fun j => ε.ν (ρ j)) I w' k) := fun k e h => by
        obtain ⟨T,s,n,R,rfl⟩ := own_only hown h
        exact ⟨hk' _ _ (hL.get k _ h) (fun o ho => by cases ho),fun b => Iff.rfl,fun h => h⟩
      refine ⟨I,fun j => ε.ν (ρ j),by rw [hsv]; exact congrArg _ (SV.den_ren hw),?_,hs'.le0,hs'.imm,hs'.fr0,fun j R hj => ?_,⟨fun k e h => (hl k e h).2.2 (hs'.L _ _ (hl k e h).1),fun k e h b hb => ?_,fun k k' e e' b h h' hne hb hb' => ?_⟩⟩
      · have := hs'.keep; rw [hE] at this; exact this
      · exact hs.has (hX.get j R hj)
      · obtain ⟨h1,h2,h3⟩ := hs'.foot _ _ (hl k e h).1 b (((hl k e h).2.1 b).1 hb)
        refine ⟨?_,h2,h3⟩
        rcases h1 with h1 | h1
        · exact h1
        · rw [hE] at h1; exact h1.elim
      · exact hs'.sep _ _ _ _ b (hl k e h).1 (hl k' e' h').1 (fun he => hne (nodupb_inj hinj k k' (mem_keyset (look_keys h)) (mem_keyset (look_keys h')) he)) (((hl k e h).2.1 b).1 hb) (((hl k' e' h').2.1 b).1 hb')
  rcases he with rfl | rfl <;> exact key
theorem o_sigo {cx : Cx} {S : St} {dst : Option Tmp} {ty : TypeId} {pos : String} {af : Array Edge} {gd : Option (Nat × Bool)} {P : Program} {f : FuncId} {l : List Operand} {ts : Array TypeId} {svs svs' : List SV} {X0 : List (Nat × Pred)} {sv : SV} {X : List (Nat × Pred)} {L : List (Nat × Ent)} (m : Nat) (ρ : Nat → Nat) (hs : SigO P f svs X0 sv X L) (hf : Enters' P f) (hP : cx.P = P)
    (hl : S.ops l = some svs') (hren : SvsOK S svs' (svs.map (SV.ren ρ))) (hwf : ∀ x ∈ svs,x.res (keys X0)) (hX : RenOK S.X ρ X0) (hres : sv.res (keys X)) (hown : L.all (fun p => p.2.isOwn) = true) (hLX : (keys L).all (fun k => memb k (keys X)) = true) :
    OpG cx S ⟨dst,.call { callee := .value (.func f),args := l.toArray,argTypes := ts },ty,pos,af,gd⟩ ⟨sv.ren (m + ·),keys (sh m X),sh m X,sh m L,[]⟩ := by
  subst hP
  intro M ε I a w next Q h hN K
  have h1 := hs I w (fun j => ε.ν (ρ j)) h.imm (FactsOK.of (fun j R hj => h.has hj) hX)
  refine ⟨fun _ _ => trivial,?_⟩
  have hev := h.evals hl
  rw [hren.den h,svs_ren hwf] at hev
  have hex : (execOp a.eval ⟨dst,.call { callee := .value (.func f),args := l.toArray,argTypes := ts },ty,pos,af,gd⟩).run cx.P w = .ok (.enter f (svs.map (den0 fun j => ε.ν (ρ j))).toArray) w := by
    simp [execOp,resolve,Act.eval,Deferred.ofValue,invoke,hev,hf _ _]
  rw [semAt_eq _ _ _ (fun _ => by simp),hex]
  refine ⟨fun h => (by cases h),CallsIn.mono (callsIn_fen h1) ?_⟩
  rintro e w' ⟨I',us,rfl,hk,hle,hon,hfr,hXs,hLo⟩
  let us' : Nat → Value := fun j => us (j - m)
  have hus : ∀ i,us' (m + i) = us i := fun i => by show us (m + i - m) = us i; congr 1; omega
  let ε' : Env := ⟨ε.β,fun j => if j ∈ keys (sh m X) then us' j else ε.ν j,ε.γ⟩
  have hν : ∀ i,i ∈ keys X → ε'.ν (m + i) = us i := fun i hi => by
    have : m + i ∈ keys (sh m X) := by rw [keys_sh]; exact List.mem_map.2 ⟨i,hi,rfl⟩
    show (if m + i ∈ keys (sh m X) then us' (m + i) else ε.ν (m + i)) = us i
    rw [if_pos this,hus]
  have hlk : ∀ k e,look k (sh m L) = some e → ∃ i,k = m + i ∧ look i L = some e ∧ ε'.ν k = us i ∧ k ∈ keys (sh m X) := fun k e he => by
    obtain ⟨i,rfl,hi⟩ := look_sh he
    have hiX : i ∈ keys X := memb_iff.1 (List.all_eq_true.1 hLX i (look_keys hi))
    exact ⟨i,rfl,hi,hν i hiX,by rw [keys_sh]; exact List.mem_map.2 ⟨i,hiX,rfl⟩⟩
  have hsv : sv.den (envU us) = (sv.ren (m + ·)).den ε' := by
    rw [SV.ren_den hres]
    exact SV.den_res (ε := ⟨fun _ => 0,fun j => ε'.ν (m + j),fun _ => true⟩) (ε' := envU us) (fun j hj => (hν j hj).symm) hres
  show next (a.put dst _) w'
  rw [hsv]
  refine K ε' I' w' ⟨fun i hi => ⟨rfl,by show (if i ∈ keys (sh m X) then us' i else ε.ν i) = _; rw [if_neg hi],rfl⟩,hle,hon,hk.os,hk.tape,hk.output,hk.size,fun b hb _ => hk.block b hb (fun h => h),fun b o hb => ?_⟩
    ⟨SV.on_res (J := keys (sh m X)) (fun j hj => .inr hj) (by rw [keys_sh]; exact SV.ren_res hres),fun j R hj => .inr (look_keys hj),fun _ _ h => (by cases h),fun k e he => ?_,fun j R hj => ?_,fun k e he => ?_,fun k e he b hb => ?_,fun k k' e e' b he he' hne hb hb' => ?_,fun k x he => ?_⟩
  · rcases hfr b o hb with h | h
    · exact .inl h
    · exact .inr (.inl h)
  · obtain ⟨i,rfl,hi,_,hkX⟩ := hlk k e he
    obtain ⟨T,s,n,R,rfl⟩ := own_only hown hi
    exact ⟨.inr hkX,trivial⟩
  · obtain ⟨i,rfl,hi⟩ := look_sh hj
    rw [hν i (look_keys hi)]; exact hXs i R hi
  · obtain ⟨i,rfl,hi,h2,_⟩ := hlk k e he
    obtain ⟨T,s,n,R,rfl⟩ := own_only hown hi
    have := hLo.ok i _ hi
    simp only [Ent.ok] at this ⊢
    rw [h2]; exact this
  · obtain ⟨i,rfl,hi,h2,_⟩ := hlk k e he
    obtain ⟨T,s,n,R,rfl⟩ := own_only hown hi
    have hb' : (us i).ownBlock = some b := by rw [← h2]; exact hb
    obtain ⟨h3,h4,h5⟩ := hLo.foot i _ hi b hb'
    exact ⟨.inl (Nat.le_trans h.keep.size h3),h4,h5,.inl h3⟩
  · obtain ⟨i,rfl,hi,h2,_⟩ := hlk k e he
    obtain ⟨i',rfl,hi',h2',_⟩ := hlk k' e' he'
    obtain ⟨T,s,n,R,rfl⟩ := own_only hown hi
    obtain ⟨T',s',n',R',rfl⟩ := own_only hown hi'
    have hb1 : (us i).ownBlock = some b := by rw [← h2]; exact hb
    have hb2 : (us i').ownBlock = some b := by rw [← h2']; exact hb'
    exact hLo.sep i i' _ _ b hi hi' (fun h => hne (by rw [h])) hb1 hb2
  · obtain ⟨i,rfl,hi,_,_⟩ := hlk k _ he
    obtain ⟨T,s,n,R,h⟩ := own_only hown hi
    cases h
def Pred.newer (n : Nat) : Pred := ⟨fun _ v => ∀ b,v.ownBlock = some b → n ≤ b,fun _ h => h⟩
theorem OpG.newer0 {cx : Cx} {S : St} {o : Oper} {sv : SV} {k : Nat} {T : TypeId} {s n : Nat} {R : LPred} (h : OpG cx S o ⟨sv,[k],[],[(k,.own T s n R)],[]⟩) : OpG cx S o ⟨sv,[k],[(k,Pred.newer cx.w0.heap.size)],[(k,.own T s n R)],[]⟩ := by
  intro M ε I a w next Q hs hN K
  refine h M ε I a w next Q hs hN fun ε' I' w' ht hn => K ε' I' w' ht
    ⟨hn.sv,fun j R hj => by obtain ⟨rfl,_⟩ := look_one hj; exact .inr (by simp),hn.wG,hn.wL,fun j R hj => ?_,hn.L,hn.foot,hn.sep,hn.ext⟩
  obtain ⟨rfl,rfl⟩ := look_one hj
  intro b hb
  rcases (hn.foot j (.own T s n R) (by simp [look_cons]) b hb).2.2.2 with h1 | ⟨k',e',h1,h2,_⟩
  · exact Nat.le_trans hs.keep.size h1
  · exfalso
    have hk' : k' = j := by
      cases hl : look k' [(j,Ent.own T s n R)] with
      | none => rw [hl] at h1; cases h1
      | some x => exact (look_one hl).1
    subst hk'
    exact hN k' (by simp) (hs.wfL k' _ h2).1
end Go.Eng
namespace Go.Eng
open Go
def vl (ag : Bool) (l : List Int) : Value := bif ag then .agg (l.map (Value.int .i64)).toArray else .int .i64 (l.getD 0 0)
structure FlatT (P : Program) (T : TypeId) (n k : Nat) (ag : Bool) : Prop where
  len : ag = false → n = 1
  ia : ∀ w,(isAgg T).run P w = .ok ag w
  sz : ∀ w,(sizeOf T).run P w = .ok n w
  eq : ∀ (d : Nat) (w : World) (a b : List Int),a.length = n → b.length = n → (Op.equalIn (d + k) T (vl ag a) (vl ag b)).run P w = .ok (decide (a = b)) w
  chk : ∀ (d : Nat) (e : Bool) (w : World) (a : List Int),a.length = n → (Instr.checkKey e (d + k) T (vl ag a)).run P w = .ok () w
theorem FlatT.part {P : Program} {T : TypeId} {n k : Nat} {ag : Bool} (h : FlatT P T n k ag) {l : List Int} {off : Nat} (hl : off + n ≤ l.length) (w : World) : (part T (l.map (Value.int .i64)).toArray off).run P w = .ok (vl ag ((l.drop off).take n)) w := by
  cases ag with
  | false =>
    have hn := h.len rfl
    subst hn
    have hlt : off < l.length := by omega
    have e : ((l.drop off).take 1).getD 0 0 = l[off] := by
      simp [List.getD_eq_getElem?_getD,List.getElem?_take,List.getElem?_drop,hlt]
    simp [Go.part,h.ia,vl,e,hlt]
  | true =>
    simp only [Go.part,Sem.run_bind,h.ia,Result.andThen_ok,if_true,h.sz,Sem.run_pure,vl,cond_true]
    congr 2
    apply Array.ext'
    simp [List.extract,List.map_take,List.map_drop]
theorem FlatT.int {P : Program} {T : TypeId} {q : IntKind} (hT : P.underlying T = some (.int q)) (hs : TyS P T) : FlatT P T 1 1 false where
  len := fun _ => rfl
  ia := hs.ag
  sz := hs.sz
  eq := fun d w a b ha hb => by
    match a,ha,b,hb with
    | [x],_,[y],_ =>
      have := run_equalIn_int w d T .i64 q x y hT
      simp only [vl,cond_false,List.getD_cons_zero,List.cons.injEq,and_true]
      exact this
  chk := fun d e w a ha => by
    match a,ha with
    | [x],_ => simp [vl,Instr.checkKey,run_underlying hT]
theorem drop_eq {a b : List Int} {off m : Nat} (ha : off + m ≤ a.length) (hb : off + m ≤ b.length) : a.drop off = b.drop off ↔ (a.drop off).take m = (b.drop off).take m ∧ a.drop (off + m) = b.drop (off + m) := by
  constructor
  · intro h; exact ⟨by rw [h],by rw [← List.drop_drop,← List.drop_drop,h]⟩
  · rintro ⟨h1,h2⟩
    rw [← List.take_append_drop m (a.drop off),← List.take_append_drop m (b.drop off),h1,List.drop_drop,List.drop_drop,h2]
theorem run_equalIn_array {P : Program} {t e : TypeId} {n c : Nat} (hT : P.underlying t = some (.array n e)) (hc : ∀ w,(sizeOf e).run P w = .ok c w) (d : Nat) (xs ys : Array Value) (w : World) : (Op.equalIn (d + 1) t (.agg xs) (.agg ys)).run P w = (Op.eqItems d e c xs ys (List.range n)).run P w := by
  simp only [Op.equalIn,Sem.run_bind,run_underlying hT,Result.andThen_ok,hc]
  simp only [Std.Legacy.Range.forIn_eq_forIn_range',Std.Legacy.Range.size,Nat.sub_zero,Nat.add_one_sub_one,Nat.div_one]
  rw [List.range_eq_range']
  generalize List.range' 0 n = is
  induction is generalizing w with
  | nil => simp [Op.eqItems]
  | cons i is ih =>
    simp only [List.forIn_cons,Op.eqItems,Sem.run_bind]
    generalize (Go.part e xs (i * c)).run P w = r1
    cases r1 with
    | ok a w1 =>
      simp only [Result.andThen_ok]
      generalize (Go.part e ys (i * c)).run P w1 = r2
      cases r2 with
      | ok b w2 =>
        simp only [Result.andThen_ok]
        generalize (Op.equalIn d e a b).run P w2 = r3
        cases r3 with
        | ok r w3 =>
          cases r
          · simp
          · simp only [Result.andThen_ok,Bool.not_true,Bool.false_eq_true,if_false,Sem.run_pure]
            exact ih w3
        | halt x w3 => simp [Result.andThen]
      | halt x w2 => simp [Result.andThen]
    | halt x w1 => simp [Result.andThen]
theorem FlatT.array {P : Program} {T e : TypeId} {n k : Nat} (hT : P.underlying T = some (.array n e)) (hg : TyG P T n) (he : FlatT P e 1 k false) : FlatT P T n (k + 1) true where
  len := fun h => by cases h
  ia := hg.ag
  sz := hg.sz
  eq := fun d w a b ha hb => by
    show (Op.equalIn ((d + k) + 1) T (.agg _) (.agg _)).run P w = _
    rw [run_equalIn_array hT he.sz]
    have key : ∀ (m off : Nat),off + m = n → (Op.eqItems (d + k) e 1 (a.map (Value.int .i64)).toArray (b.map (Value.int .i64)).toArray (List.range' off m)).run P w = .ok (decide (a.drop off = b.drop off)) w := by
      intro m
      induction m with
      | zero =>
        intro off h
        rw [List.drop_of_length_le (by omega),List.drop_of_length_le (by omega)]
        simp [Op.eqItems]
      | succ m ih =>
        intro off h
        have p1 := he.part (l := a) (off := off) (by omega) w
        have p2 := he.part (l := b) (off := off) (by omega) w
        have p3 := he.eq d w ((a.drop off).take 1) ((b.drop off).take 1) (by simp; omega) (by simp; omega)
        simp only [List.range'_succ,Op.eqItems,Nat.mul_one,Sem.run_bind,p1,p2,p3,Result.andThen_ok]
        have hd := drop_eq (a := a) (b := b) (off := off) (m := 1) (by omega) (by omega)
        by_cases hc : (a.drop off).take 1 = (b.drop off).take 1
        · simp only [hc,decide_true,Bool.not_true,Bool.false_eq_true,if_false]
          rw [ih (off + 1) (by omega)]
          simp [hd,hc]
        · simp [hc,hd]
    have := key n 0 (by omega)
    rw [List.range_eq_range']
    simpa using this
  chk := fun d e' w a ha => by
    show (Instr.checkKey e' ((d + k) + 1) T (.agg _)).run P w = _
    rw [Instr.checkKey]
    simp only [Sem.run_bind,run_underlying hT,Result.andThen_ok]
    simp only [Std.Legacy.Range.forIn_eq_forIn_range',Std.Legacy.Range.size,Nat.sub_zero,Nat.add_one_sub_one,Nat.div_one]
    have key : ∀ (m off : Nat),off + m ≤ n → (forIn (m := Sem) (List.range' off m) PUnit.unit fun i _ => do
        Instr.checkKey e' (d + k) e (← Go.part e (a.map (Value.int .i64)).toArray (i * (← sizeOf e)))
        pure (ForInStep.yield PUnit.unit)).run P w = .ok PUnit.unit w := by
      intro m
      induction m with
      | zero => intro off h; simp
      | succ m ih =>
        intro off h
        have p1 := he.part (l := a) (off := off) (by omega) w
        have p3 := he.chk d e' w ((a.drop off).take 1) (by simp; omega)
        simp only [List.range'_succ,List.forIn_cons,Sem.run_bind,he.sz,Result.andThen_ok,Nat.mul_one,p1,p3,Sem.run_pure]
        exact ih (off + 1) (by omega)
    have hk := key n 0 (by omega)
    simp only [hk,Result.andThen_ok,Sem.run_pure]
section ops
variable {cx : Cx} {S : St} {dst : Option Tmp} {ty : TypeId} {pos : String} {af : Array Edge} {gd : Option (Nat × Bool)}
theorem vl_den {ε : Env} (l : List Int) : (SV.e (.g (l.map ai))).den ε = vl true l := by
  simp only [SV.den,El.den,vl,cond_true,List.map_map]; rfl
theorem o_eqs {x y : Operand} {t t' : TypeId} {n k : Nat} {a b : List Int} (hT : FlatT cx.P t n k true) (hk : Nat.ble k 10000 = true) (hg : cx.P.eqGuardType cx.P.depth t = false) (hx : S.op x = some (.e (.g (a.map ai)))) (hy : S.op y = some (.e (.g (b.map ai)))) (ha : a.length = n) (hb : b.length = n) :
    OpG cx S ⟨dst,.binOp .eql t x y t',ty,pos,af,gd⟩ (.val (.b (decide (a = b)))) :=
  OpG.pure (fun _ => by simp) fun M ε I ac w hs => ⟨trivial,by
    have h1 := hs.eval hx; have h2 := hs.eval hy
    rw [vl_den] at h1 h2
    have h3 := hT.eq (10000 - k) w a b ha hb
    rw [show 10000 - k + k = 10000 from by have := Nat.le_of_ble_eq_true hk; omega] at h3
    simp only [vl,cond_true] at h1 h2 h3
    have hr : (do eqGuard .eql t x y (.agg (a.map (Value.int .i64)).toArray) (.agg (b.map (Value.int .i64)).toArray); binOp .eql t (.agg (a.map (Value.int .i64)).toArray) (.agg (b.map (Value.int .i64)).toArray) : Sem Value).run cx.P w = .ok (.bool (decide (a = b))) w := by
      rw [Sem.run_bind,run_eqGuard_agg w _ _ _ _ _ _ hg,Result.andThen_ok,run_eql_struct,h3]
      simp [Result.andThen]
    simp only [execOp,h1,h2]
    rw [Sem.run_bind,hr]
    rfl⟩
theorem o_pickT {c x y : Operand} {sv : SV} (hc : S.op c = some (.b true)) (hx : S.op x = some sv) : OpG cx S ⟨dst,.pick c x y,ty,pos,af,gd⟩ (.val sv) :=
  o_pick hc fun M ε I a w hs => ⟨hs.on hx,by simp [hs.eval hx]⟩
theorem o_pickF {c x y : Operand} {sv : SV} (hc : S.op c = some (.b false)) (hy : S.op y = some sv) : OpG cx S ⟨dst,.pick c x y,ty,pos,af,gd⟩ (.val sv) :=
  o_pick hc fun M ε I a w hs => ⟨hs.on hy,by simp [hs.eval hy]⟩
end ops
section
variable {cx : Cx} {n : Nat} {fr : List (Nat × SV)} {X : List (Nat × Pred)} {L : List (Nat × Ent)} {D : List Nat} {G : List (Nat × Bool)}
theorem Imp.bitF (d : Nat) {b b' : Bool} (hd : look d fr = some (.b b)) (hb : b = b') : Imp cx ⟨n,fr,X,L,D,G⟩ ⟨n,(d,.b b') :: fr,X,L,D,G⟩ := fun ε I a w hs => by
  subst hb
  refine ⟨ε,I,SatM.le (S := ⟨n,fr,X,L,D,G⟩) ⟨fun i x hx => ?_,fun _ _ h => h,fun _ _ h => h,rfl,fun _ _ h => h⟩ hs⟩
  have hx : look i ((d,SV.b b) :: fr) = some x := hx
  show look i fr = some x
  rw [look_cons] at hx
  by_cases hi : d = i
  · subst hi; simp at hx; subst hx; exact hd
  · simp [hi] at hx; exact hx
end
abbrev MapL := List (List Int × Int)
def mget : MapL → List Int → Option Int
  | [],_ => none
  | (k,v) :: t,k' => if k = k' then some v else mget t k'
def mset : MapL → List Int → Int → MapL
  | [],k,v => [(k,v)]
  | (k,u) :: t,k',v => if k = k' then (k,v) :: t else (k,u) :: mset t k' v
theorem mget_mset (l : MapL) (k k' : List Int) (v : Int) : mget (mset l k v) k' = if k = k' then some v else mget l k' := by
  induction l with
  | nil => rfl
  | cons p t ih =>
    obtain ⟨i,u⟩ := p
    simp only [mset]
    by_cases h1 : i = k
    · subst h1
      simp only [if_true,mget]
      by_cases h2 : i = k' <;> simp [h2]
    · simp only [h1,if_false,mget,ih]
      by_cases h2 : i = k'
      · subst h2
        have : ¬ k = i := fun h => h1 h.symm
        simp [this]
      · simp [h2]
def MapHas (ag : Bool) (n : Nat) (es : List MapEntry) (l : MapL) : Prop := es.map (fun e => (e.key,e.val)) = l.map (fun p => (vl ag p.1,Value.int .i64 p.2)) ∧ ∀ p ∈ l,p.1.length = n
theorem mset_all {K : List Int → Int → Prop} {l : MapL} {k : List Int} {v : Int} (h : ∀ p ∈ l,K p.1 p.2) (hk : K k v) : ∀ p ∈ mset l k v,K p.1 p.2 := by
  induction l with
  | nil => intro p hp; simp [mset] at hp; subst hp; exact hk
  | cons q t ih =>
    obtain ⟨i,u⟩ := q
    intro p hp
    simp only [mset] at hp
    by_cases h1 : i = k
    · subst h1
      simp only [if_true] at hp
      rcases List.mem_cons.1 hp with rfl | hp
      · exact hk
      · exact h p (List.mem_cons_of_mem _ hp)
    · simp only [h1,if_false] at hp
      rcases List.mem_cons.1 hp with rfl | hp
      · exact h _ List.mem_cons_self
      · exact ih (fun p hp => h p (List.mem_cons_of_mem _ hp)) p hp
structure MapT (P : Program) (T : TypeId) (n k : Nat) (ag : Bool) : Prop where
  u : ∃ kt e,P.underlying T = some (.map kt e) ∧ FlatT P kt n k ag ∧ (∀ w,(zeroValue e).run P w = .ok (.int .i64 0) w) ∧
    ∀ (w : World) (a : List Int) (es : List MapEntry) (l : MapL),a.length = n → MapHas ag n es l → ∃ r,(Instr.findKey kt (vl ag a) es).run P w = .ok r w ∧ ((r = none ∧ mget l a = none) ∨ ∃ i e v,r = some (i,.int .i64 v) ∧ es[i]? = some e ∧ e.key = vl ag a ∧ mget l a = some v ∧ ∀ u : Value,∀ x : Int,u = .int .i64 x → (es.modify i fun e => { e with key := vl ag a,val := u }).map (fun e => (e.key,e.val)) = (mset l a x).map (fun p => (vl ag p.1,Value.int .i64 p.2)))
  k : Nat.ble k 10000 = true
theorem find_asking {P : Program} {kt : TypeId} {n k : Nat} {ag : Bool} (hT : FlatT P kt n k ag) (hk : Nat.ble k 10000 = true) (w : World) {a : List Int} (ha : a.length = n) : ∀ (es : List MapEntry) (l : MapL) (j : Nat),MapHas ag n es l →
    ∃ r,(Instr.findAsking kt (vl ag a) es j).run P w = .ok r w ∧ ((r = none ∧ mget l a = none) ∨ ∃ i e v,r = some (j + i,.int .i64 v) ∧ es[i]? = some e ∧ e.key = vl ag a ∧ mget l a = some v ∧ ∀ u : Value,∀ x : Int,u = .int .i64 x → (es.modify i fun e => { e with key := vl ag a,val := u }).map (fun e => (e.key,e.val)) = (mset l a x).map (fun p => (vl ag p.1,Value.int .i64 p.2)))
  | [],l,j,h => by
    have : l = [] := by
      have := congrArg List.length h.1
      simp at this
      exact List.length_eq_zero_iff.1 this.symm
    subst this
    exact ⟨none,by simp [Instr.findAsking],.inl ⟨rfl,rfl⟩⟩
  | e :: es,[],j,h => by have := congrArg List.length h.1; simp at this
  | e :: es,(i0,v0) :: l,j,h => by
    obtain ⟨h1,h2⟩ := h
    simp only [List.map_cons,List.cons.injEq,Prod.mk.injEq] at h1
    obtain ⟨⟨h3,h4⟩,h5⟩ := h1
    have hi0 : i0.length = n := h2 _ List.mem_cons_self
    have heq := hT.eq (10000 - k) w a i0 ha hi0
    rw [show 10000 - k + k = 10000 from by have := Nat.le_of_ble_eq_true hk; omega] at heq
    have heq' : (Op.equal kt (vl ag a) e.key).run P w = .ok (decide (a = i0)) w := by rw [h3]; exact heq
    by_cases hc : a = i0
    · subst hc
      refine ⟨some (j,e.val),by simp [Instr.findAsking,heq'],.inr ⟨0,e,v0,by rw [h4]; rfl,rfl,h3,by simp [mget],fun u x hu => ?_⟩⟩
      subst hu
      simp [mset,h5]
    · obtain ⟨r,hr,hr2⟩ := find_asking hT hk w ha es l (j + 1) ⟨h5,fun p hp => h2 p (List.mem_cons_of_mem _ hp)⟩
      have hne : ¬ i0 = a := fun h => hc h.symm
      refine ⟨r,by simp [Instr.findAsking,heq',hc,hr],?_⟩
      rcases hr2 with ⟨h6,h7⟩ | ⟨i,e',v,h6,h7,h8,h9,h10⟩
      · exact .inl ⟨h6,by simp [mget,hne,h7]⟩
      · refine .inr ⟨i + 1,e',v,by rw [h6]; congr 2; omega,by simpa using h7,h8,by simp [mget,hne,h9],fun u x hu => ?_⟩
        have := h10 u x hu
        simp only [List.modify_succ_cons,List.map_cons,mset,hne,if_false]
        rw [this,h3,h4]
theorem MapT.struct {P : Program} {T kt e : TypeId} {n k : Nat} (hT : P.underlying T = some (.map kt e)) (hs : (match P.underlying kt with | some (.array _ _) | some (.struct _) => true | _ => false) = true) (hf : FlatT P kt n k true) (hk : Nat.ble k 10000 = true) (hz : ∀ w,(zeroValue e).run P w = .ok (.int .i64 0) w) : MapT P T n k true :=
  ⟨⟨kt,e,hT,hf,hz,fun w a es l ha h => by
    rw [run_findKey_eq w hs]
    obtain ⟨r,h1,h2⟩ := find_asking hf hk w ha es l 0 h
    refine ⟨r,h1,?_⟩
    rcases h2 with h2 | ⟨i,e',v,h3,h4⟩
    · exact .inl h2
    · exact .inr ⟨i,e',v,by rw [h3]; simp,h4⟩⟩,hk⟩
theorem sameBits_vl (ag : Bool) (a : List Int) : Instr.sameBits 10000 (vl ag a) (vl ag a) = true := by
  cases ag with
  | false => simp [vl,Instr.sameBits]
  | true =>
    have h : ∀ l : List Int,((l.map (Value.int .i64)).zip (l.map (Value.int .i64))).all (fun (p : Value × Value) => Instr.sameBits 9999 p.1 p.2) = true := by
      intro l
      induction l with
      | nil => rfl
      | cons x t ih => simp [Instr.sameBits,ih]
    have := h a
    simp only [vl,cond_true,Instr.sameBits,BEq.rfl,Bool.true_and,List.toList_toArray]
    exact this
section ops
variable {cx : Cx} {S : St} {dst : Option Tmp} {ty : TypeId} {pos : String} {af : Array Edge} {gd : Option (Nat × Bool)}
def isKey (ag : Bool) (a : List Int) : SV → Prop := fun x => ∀ ε : Env,x.den ε = vl ag a
theorem isKey.g {a : List Int} : isKey true a (.e (.g (a.map ai))) := fun ε => vl_den a
theorem run_lookup {P : Program} {T : TypeId} {n k : Nat} {ag : Bool} (hT : MapT P T n k ag) {w : World} {b : Nat} {es : Array MapEntry} {clk : Nat} {l : MapL} (hb : w.heap[b]? = some (.map es clk)) (hm : MapHas ag n es.toList l) {a : List Int} (ha : a.length = n) (c : Bool) :
    (Instr.lookup T (.map (some b)) (vl ag a) c).run P w = .ok (if c then .tuple #[.int .i64 ((mget l a).getD 0),.bool (mget l a).isSome] else .int .i64 ((mget l a).getD 0)) w := by
  obtain ⟨⟨kt,e,h1,h2,h3,h4⟩,h5⟩ := hT
  have hgo : (getObj b).run P w = .ok (.map es clk) w := by simp [getObj,Sem.run,hb]
  have hso : ∀ o,(setObj b o).run P w = .ok () { w with heap := w.heap.setIfInBounds b o } := fun o => by simp [setObj,Sem.run,hb]
  obtain ⟨r,h6,h7⟩ := h4 w a es.toList l ha hm
  have hc := h2.chk (10000 - k) es.isEmpty w a ha
  rw [show 10000 - k + k = 10000 from by have := Nat.le_of_ble_eq_true h5; omega] at hc
  rcases h7 with ⟨rfl,h8⟩ | ⟨i,e',v,rfl,_,_,h8,_⟩
  · cases c <;> simp [Instr.lookup,run_underlying h1,hgo,hc,h6,h3,h8]
  · cases c <;> simp [Instr.lookup,run_underlying h1,hgo,hc,h6,h8]
end ops
section steps
variable {cx : Cx} {Q : Exit → Act → World → Prop} {ops : Array Oper} {rest : List Oper}
variable {n : Nat} {fr : List (Nat × SV)} {X : List (Nat × Pred)} {L : List (Nat × Ent)} {D : List Nat} {G : List (Nat × Bool)} {d : Tmp} {ty : TypeId} {pos : String} {af : Array Edge}
end steps
inductive LtF (S : St) (ky k : Nat) (R : Pred) (e : Value) : Prop
  | own {α : Type} {E : EP α} {l : List α} {T : TypeId} (hk : look k S.L = some (.own T E.size l.length (RP E l))) (hR : R = PL E l) (hf : ∀ I I' cs x,E.h I cs x → E.h I' cs x) (he : e = undef)
  | mem {u : Value} {x : XP} {kp : Nat} (hX : Has S.X k (Pred.is u)) (hL : look kp S.L = some (.ext x)) (hne : kp ≠ ky) (hR : ∀ I w,x.J I w → R.h (rd w u e) u ∧ ∀ b,lblk u e b → x.F b)
def LtOK (S : St) (ky : Nat) (ρ : Nat → Nat) (es : Nat → Value) : List (Nat × Pred) → Prop
  | [] => True
  | (j,R) :: t => LtF S ky (ρ j) R (es j) ∧ LtOK S ky ρ es t
theorem LtOK.get {S : St} {ky : Nat} {ρ : Nat → Nat} {es : Nat → Value} : ∀ {X : List (Nat × Pred)},LtOK S ky ρ es X → ∀ j R,look j X = some R → LtF S ky (ρ j) R (es j)
  | (k,R') :: t,h,j,R,hj => by
    rw [look_cons] at hj
    by_cases hk : k = j
    · subst hk; simp at hj; subst hj; exact h.1
    · simp [hk] at hj; exact LtOK.get h.2 j R hj
def usE (us es : Nat → Value) (j : Nat) : Value := if j < 1000 then us j else es (j - 1000)
theorem usE_lt {us es : Nat → Value} {j : Nat} (h : j < 1000) : usE us es j = us j := if_pos h
theorem usE_ge {us es : Nat → Value} {j : Nat} : usE us es (1000 + j) = es j := by unfold usE; rw [if_neg (by omega),Nat.add_sub_cancel_left]
theorem usE_den {us es : Nat → Value} {J : List Nat} (hJ : J.all (Nat.blt · 1000) = true) {svs : List SV} (h : ∀ x ∈ svs,x.res J) : svs.map (den0 (usE us es)) = svs.map (den0 us) :=
  List.map_congr_left fun x hx => den0_congr (J := J) (fun k hk => usE_lt (by simpa [Nat.blt_eq] using List.all_eq_true.1 hJ k hk)) (h x hx)
theorem yieldH {cx : Cx} {S : St} {l ky : Nat} {svs : List SV} {J : List Nat} {F : Nat → Prop} {it : Item} {Y Y' K' : YI cx.w0.heap.size} (ρ : Nat → Nat)
    (hround : ∀ F I' w' us vs,Y.J F I' w' → cx.I0.le I' → I'.on w' → cx.w0.heap.size ≤ w'.heap.size → (∀ b,cx.E b → F b) → it.ok F I' w' us vs → RoundR cx.P l vs cx.w0.heap.size F I' w' Y' K')
    (hk : look ky S.L = some (.ext (Y.xp F))) (hF : ∀ b,cx.E b → F b) (hsv : SvsOK S svs (it.svs.map (SV.ren ρ))) (hwf : ∀ x ∈ it.svs,x.res J) (hX : RenOK S.X ρ it.X) (es : Nat → Value) (hq : J.all (Nat.blt · 1000) = true ∧ (keys it.X).all (Nat.blt · 1000) = true ∧ (keys it.Lt).all (Nat.blt · 1000) = true) (hLt : LtOK S ky ρ es it.Lt) :
    ∀ ε I a w,Sat cx ε I S a w → RoundR cx.P l (svs.map (SV.den ε)) cx.w0.heap.size F I w Y' K' := by
  intro ε I a w hs
  refine hround F I w (usE (fun j => ε.ν (ρ j)) es) _ (hs.L ky _ hk) hs.le0 hs.imm hs.keep.size hF ⟨?_,fun j R hj => ?_,fun j R hj => ?_⟩
  · rw [hsv.den hs,svs_ren hwf,usE_den hq.1 hwf]
  · rw [usE_lt (by simpa [Nat.blt_eq] using List.all_eq_true.1 hq.2.1 j (look_keys hj))]; exact hs.has (hX.get j R hj)
  · have hjl : j < 1000 := by simpa [Nat.blt_eq] using List.all_eq_true.1 hq.2.2 j (look_keys hj)
    cases hLt.get j R hj with
    | own hl hR hf he =>
      subst hR
      obtain ⟨xs,h1,h2⟩ := hs.L _ _ hl
      rw [usE_lt hjl,usE_ge,he]
      refine ⟨own_pl h1 h2 (fun cs x h => hf _ _ cs x h) fun b hb => by simp only [rd,if_pos (show lblk _ _ b from .inl hb)],fun b hb => ?_⟩
      have hb := lblk_undef hb
      refine ⟨(hs.foot _ _ hl b hb).2.1,fun hFb => ?_⟩
      have hne : ρ j ≠ ky := fun e => by rw [e,hk] at hl; cases hl
      exact hs.sep _ ky _ _ b hl hk hne hb hFb
    | mem hX hl hne hR =>
      rw [usE_lt hjl,usE_ge,show ε.ν (ρ j) = _ from hs.has hX]
      obtain ⟨g1,g2⟩ := hR I w (hs.L _ _ hl)
      exact ⟨g1,fun b hb => ⟨(hs.foot _ _ hl b (g2 b hb)).2.1,fun hFb => hs.sep _ ky _ _ b hl hk hne (g2 b hb) hFb⟩⟩
section ops
variable {cx : Cx} {S : St} {dst : Option Tmp} {ty : TypeId} {pos : String} {af : Array Edge} {gd : Option (Nat × Bool)}
theorem PL.sub {α : Type} {E : EP α} {l : List α} {I : IH} {a : Option Addr} {cap : Nat} {lo hi : Nat} (h : (PL E l).h I (.slice a l.length cap)) (h1 : lo ≤ hi) (h2 : hi ≤ l.length) : (PL E ((l.take hi).drop lo)).h I (.slice (if cap = lo then a else a.map (·.add (lo * E.size))) (hi - lo) (cap - lo)) := by
  obtain ⟨a',cap',hv,hc,h⟩ := h
  simp only [Value.slice.injEq,true_and] at hv
  obtain ⟨rfl,rfl⟩ := hv
  have hl : ((l.take hi).drop lo).length = hi - lo := by simp; omega
  refine ⟨_,_,by rw [hl],by rw [hl]; omega,fun i hi' => ?_⟩
  rw [hl] at hi'
  obtain ⟨cs,ad,h3,h4,h5,h6⟩ := h (lo + i) (by omega)
  have hne : ¬ cap = lo := by omega
  refine ⟨cs,ad.add (lo * E.size),?_,by rw [if_neg hne,h4]; rfl,Addr.add_spot h5 _,fun j y hj => ?_⟩
  · have : ((l.take hi).drop lo)[i]'(by omega) = l[lo + i]'(by omega) := by simp
    rw [this]; exact h3
  · rw [Addr.add_add h5,show lo * E.size + (i * E.size + j) = (lo + i) * E.size + j by rw [Nat.add_mul]; omega]
    exact h6 j y hj
theorem o_slice {x : Operand} {lo hi : Option Operand} {T e : TypeId} {j k : Nat} {α : Type} {E : EP α} {l : List α} {a b : Int} (hT : IsSl cx.P T e E.size) (hx : S.op x = some (.e (.a (.q j)))) (hj : Has S.X j (PL E l))
    (hlo : match lo with | some y => S.op y = some (.i a) | none => a = 0) (hhi : match hi with | some y => S.op y = some (.i b) | none => b = l.length) (h0 : 0 ≤ a) (h1 : a ≤ b) (h2 : b ≤ l.length) :
    OpG cx S ⟨dst,.slice T x lo hi none,ty,pos,af,gd⟩ ⟨.e (.a (.q k)),[k],[(k,PL E ((l.take b.toNat).drop a.toNat))],[],[]⟩ :=
  OpG.newq (fun _ => by simp) fun M ε I ac w hs => by
    have h := hs.eval hx
    have hp := hs.has hj
    obtain ⟨ad,cap,hv,hc,_⟩ := hp
    have hp' := hs.has hj
    rw [hv] at hp'
    simp only [SV.den,El.den,At.den,hv] at h
    refine ⟨_,PL.sub hp' (lo := a.toNat) (hi := b.toNat) (by omega) (by omega),?_⟩
    obtain ⟨hu,hsz⟩ := hT
    have hb1 : b ≤ cap := by omega
    have hbn : ((b.toNat : Nat) : Int) = b := by omega
    cases lo with
    | none =>
      cases hi with
      | none =>
        subst hlo; subst hhi
        simp [execOp,h,Instr.sliceAt,Instr.slice,run_underlying hu,Instr.sliceBounds,hsz]
      | some yh =>
        subst hlo
        have h4 := hs.eval hhi
        simp only [SV.den,El.den,At.den] at h4
        simp [execOp,h,h4,Instr.sliceAt,Instr.slice,run_underlying hu,Instr.sliceBounds,hsz,Instr.sliceBound,asIntOf,show 0 ≤ b by omega,hb1]
    | some yl =>
      have h3 := hs.eval hlo
      simp only [SV.den,El.den,At.den] at h3
      cases hi with
      | none =>
        subst hhi
        simp [execOp,h,h3,Instr.sliceAt,Instr.slice,run_underlying hu,Instr.sliceBounds,hsz,Instr.sliceBound,asIntOf,h0,h1]
      | some yh =>
        have h4 := hs.eval hhi
        simp only [SV.den,El.den,At.den] at h4
        simp [execOp,h,h3,h4,Instr.sliceAt,Instr.slice,run_underlying hu,Instr.sliceBounds,hsz,Instr.sliceBound,asIntOf,h0,h1,show 0 ≤ b by omega,hb1,hbn]
end ops
section
variable {cx : Cx} {Q : Exit → Act → World → Prop} {ops : Array Oper} {nf : Nat} {r : Rec} {t : List (Oper × Rec)} {rest : List Oper}
variable {n : Nat} {fr : List (Nat × SV)} {X : List (Nat × Pred)} {L : List (Nat × Ent)} {D : List Nat} {G : List (Nat × Bool)} {d : Tmp} {op : Op} {ty : TypeId} {pos : String} {af : Array Edge} {gd : Option (Nat × Bool)} {sv : SV}
theorem WPl.cL (m : Nat) {X' : List (Nat × Pred)} {L' : List (Nat × Ent)} (hk : (keys X').all (Nat.ble n ·) = true) (hm : (keys X').all (Nat.blt · m) = true) (hn : Nat.ble n m = true) (hd : Nat.blt d cx.N = true) (hg : GOK ops fr gd true) (h : OpG cx ⟨n,fr,X,L,D,G⟩ ⟨some d,op,ty,pos,af,gd⟩ ⟨sv,keys X',X',L',[]⟩)
    (K : WPl cx ops ⟨m,(d,sv) :: fr,X' ++ X,L' ++ L,D,G⟩ rest Q) : WPl cx ops ⟨n,fr,X,L,D,G⟩ (⟨some d,op,ty,pos,af,gd⟩ :: rest) Q :=
  WPl.upd m (ROp.on hg h) (St.le.refl _) (fun i hi => by cases hi; rw [Nat.blt_eq] at hd; exact hd)
    (fun j h => ⟨by simpa using List.all_eq_true.1 hk j h,by simpa [Nat.blt_eq] using List.all_eq_true.1 hm j h⟩) (by simpa using hn) K
end
end Go.Eng
namespace Go.Eng
open Go
theorem nofp {cx : Cx} {M : Nat → Prop} {ε : Env} {I : IH} {S : St} {a : Act} {w : World} (hs : SatM cx M ε I S a w) {u : U} (h : ∀ k e,look k u.L = some e → ¬ M k) : ∀ b,¬ fpOf S ε u b := by
  rintro b ⟨k,e,h1,h2,_⟩
  cases hl : look k u.L with
  | none => rw [hl] at h1; cases h1
  | some x => exact h k x hl (hs.wfL k _ h2).1
theorem OpG.settle0 {cx : Cx} {S : St} {o : Oper} {sv : SV} {k : Nat} {T : TypeId} {α : Type} {E : EP α} {l : List α} (h : OpG cx S o ⟨sv,[k],[],[(k,.own T E.size l.length (RP E l))],[]⟩) : OpG cx S o ⟨sv,[k],[(k,PL E l)],[],[]⟩ := by
  intro M ε I a w next Q hs hN K
  refine h M ε I a w next Q hs hN fun ε' I' w' ht hn => ?_
  have hk : look k [(k,Ent.own T E.size l.length (RP E l))] = some (.own T E.size l.length (RP E l)) := by simp [look_cons]
  have hnofp := nofp hs (u := ⟨sv,[k],[],[(k,.own T E.size l.length (RP E l))],[]⟩) (fun k' e he => by obtain ⟨rfl,_⟩ := look_one he; exact hN k' (by simp))
  obtain ⟨xs,h1,h2⟩ := hn.L k _ hk
  have hft : ∀ b,(ε'.ν k).ownBlock = some b → w.heap.size ≤ b ∧ b < w'.heap.size ∧ I' b = none := fun b hb => by
    obtain ⟨_,h4,h5,h6⟩ := hn.foot k (.own T E.size l.length (RP E l)) hk b hb
    rcases h6 with h6 | h6
    · exact ⟨h6,h4,h5⟩
    · exact absurd h6 (hnofp b)
  let I2 : IH := fun b => if (ε'.ν k).ownBlock = some b then w'.heap[b]? else I' b
  have hle : I'.le I2 := fun b o hb => by
    by_cases h : (ε'.ν k).ownBlock = some b
    · rw [(hft b h).2.2] at hb; cases hb
    · simp only [I2,if_neg h]; exact hb
  refine K ε' I2 w' ⟨ht.ag,ht.le.trans hle,fun b o hb => ?_,ht.os,ht.tape,ht.output,ht.size,fun b hb _ => ht.block b hb (hnofp b),fun b o hb => ?_⟩
    ⟨hn.sv,fun j R hj => by obtain ⟨rfl,_⟩ := look_one hj; exact .inr (by simp),hn.wG,fun _ _ h => (by cases h),fun j R hj => ?_,fun _ _ h => (by cases h),fun _ _ h => (by cases h),fun _ _ _ _ _ h => (by cases h),fun _ _ h => (by cases h)⟩
  · by_cases h : (ε'.ν k).ownBlock = some b
    · simp only [I2,if_pos h] at hb; exact hb
    · simp only [I2,if_neg h] at hb; exact ht.imm b o hb
  · by_cases h : (ε'.ν k).ownBlock = some b
    · exact .inr (.inl (hft b h).1)
    · simp only [I2,if_neg h] at hb
      rcases ht.fresh b o hb with h | h | h
      · exact .inl h
      · exact .inr (.inl h)
      · exact absurd h.1 (hnofp b)
  · obtain ⟨rfl,rfl⟩ := look_one hj
    exact own_pl h1 h2 (fun _ _ h => E.mono hle h) fun b hb => by simp only [I2,if_pos hb]
theorem OpG.settle1 {cx : Cx} {S : St} {o : Oper} {sv : SV} {k k0 : Nat} {T T0 : TypeId} {s0 n0 : Nat} {R0 : LPred} {α : Type} {E : EP α} {l : List α} (hE : cx.E = Emp ∨ Has S.X k0 (Pred.newer cx.w0.heap.size)) (hk0 : look k0 S.L = some (.own T0 s0 n0 R0)) (h : OpG cx S o ⟨sv,[k],[],[(k,.own T E.size l.length (RP E l)),(k0,.dead)],[]⟩) : OpG cx S o ⟨sv,[k],[(k,PL E l)],[(k0,.dead)],[]⟩ := by
  intro M ε I a w next Q hs hN K
  refine h M ε I a w next Q hs hN fun ε' I' w' ht hn => ?_
  have hk : look k [(k,Ent.own T E.size l.length (RP E l)),(k0,.dead)] = some (.own T E.size l.length (RP E l)) := by simp [look_cons]
  have hne0 : k ≠ k0 := fun e => hN k (by simp) (by rw [e]; exact (hs.wfL k0 _ hk0).1)
  have hk0M := (hs.wfL k0 _ hk0).1
  have hfpE : ∀ b,fpOf S ε ⟨sv,[k],[],[(k,.own T E.size l.length (RP E l)),(k0,.dead)],[]⟩ b → (ε.ν k0).ownBlock = some b := by
    rintro b ⟨k',e',h1,h2,h3⟩
    have hk' : k' = k ∨ k' = k0 := by
      cases hl : look k' [(k,Ent.own T E.size l.length (RP E l)),(k0,.dead)] with
      | none => rw [hl] at h1; cases h1
      | some x =>
        rcases look_two hl with ⟨h,_⟩ | ⟨_,h,_⟩
        · exact .inl h
        · exact .inr h
    rcases hk' with rfl | rfl
    · exact absurd (hs.wfL k' _ h2).1 (hN k' (by simp))
    · rw [hk0] at h2; cases h2; exact h3
  have hfp : ∀ b,(ε.ν k0).ownBlock = some b → fpOf S ε ⟨sv,[k],[(k,PL E l)],[(k0,.dead)],[]⟩ b := fun b hb => ⟨k0,_,by simp [look],hk0,hb⟩
  have hge : ∀ b,(ε.ν k0).ownBlock = some b → cx.w0.heap.size ≤ b := fun b hb => by
    rcases hE with hE | hE
    · rcases (hs.foot k0 _ hk0 b hb).1 with h | h
      · exact h
      · rw [hE] at h; exact h.elim
    · exact hs.has hE b hb
  obtain ⟨xs,h1,h2⟩ := hn.L k _ hk
  have hft : ∀ b,(ε'.ν k).ownBlock = some b → (w.heap.size ≤ b ∨ (ε.ν k0).ownBlock = some b) ∧ b < w'.heap.size ∧ I' b = none := fun b hb => by
    obtain ⟨_,h4,h5,h6⟩ := hn.foot k (.own T E.size l.length (RP E l)) hk b hb
    rcases h6 with h6 | h6
    · exact ⟨.inl h6,h4,h5⟩
    · exact ⟨.inr (hfpE b h6),h4,h5⟩
  let I2 : IH := fun b => if (ε'.ν k).ownBlock = some b then w'.heap[b]? else I' b
  have hle : I'.le I2 := fun b o hb => by
    by_cases h : (ε'.ν k).ownBlock = some b
    · rw [(hft b h).2.2] at hb; cases hb
    · simp only [I2,if_neg h]; exact hb
  refine K ε' I2 w' ⟨ht.ag,ht.le.trans hle,fun b o hb => ?_,ht.os,ht.tape,ht.output,ht.size,fun b hb hn' => ht.block b hb (fun h => hn' (hfp b (hfpE b h))),fun b o hb => ?_⟩
    ⟨hn.sv,fun j R hj => by obtain ⟨rfl,_⟩ := look_one hj; exact .inr (by simp),hn.wG,fun j e he => by obtain ⟨rfl,rfl⟩ := look_one he; exact ⟨.inl hk0M,trivial⟩,fun j R hj => ?_,fun j e he => by obtain ⟨rfl,rfl⟩ := look_one he; trivial,fun j e he b hb => by obtain ⟨rfl,rfl⟩ := look_one he; exact absurd hb (fun h => h),
      fun i i' e e' b he he' hne hb => by obtain ⟨rfl,rfl⟩ := look_one he; exact absurd hb (fun h => h),fun j x h => by obtain ⟨_,h⟩ := look_one h; cases h⟩
  · by_cases h : (ε'.ν k).ownBlock = some b
    · simp only [I2,if_pos h] at hb; exact hb
    · simp only [I2,if_neg h] at hb; exact ht.imm b o hb
  · by_cases h : (ε'.ν k).ownBlock = some b
    · rcases (hft b h).1 with h' | h'
      · exact .inr (.inl h')
      · exact .inr (.inr ⟨hfp b h',hge b h'⟩)
    · simp only [I2,if_neg h] at hb
      rcases ht.fresh b o hb with h | h | h
      · exact .inl h
      · exact .inr (.inl h)
      · exact .inr (.inr ⟨hfp b (hfpE b h.1),h.2⟩)
  · obtain ⟨rfl,rfl⟩ := look_one hj
    exact own_pl h1 h2 (fun _ _ h => E.mono hle h) fun b hb => by simp only [I2,if_pos hb]
theorem pl_nil {α : Type} {E : EP α} {I : IH} : (PL E []).h I (.slice none 0 0) := ⟨none,0,rfl,Nat.le_refl _,fun i hi => absurd hi (by simp)⟩
section
variable {cx : Cx} {Q : Exit → Act → World → Prop} {ops : Array Oper} {rest : List Oper}
variable {n : Nat} {fr : List (Nat × SV)} {X : List (Nat × Pred)} {L : List (Nat × Ent)} {D : List Nat} {G : List (Nat × Bool)} {d : Tmp} {op : Op} {ty : TypeId} {pos : String} {af : Array Edge} {sv : SV}
end
end Go.Eng
namespace Go.Eng
open Go
theorem nodup_of : ∀ {l : List Nat},nodupb l = true → l.Nodup
  | [],_ => List.nodup_nil
  | x :: t,h => by
    simp only [nodupb,Bool.and_eq_true] at h
    exact List.nodup_cons.2 ⟨notin_iff h.1,nodup_of h.2⟩
theorem ItemOK.of {q : Nat} {ps : List Nat} {it : Item} (h : (Nat.beq ps.length it.svs.length && it.svs.all (SV.kr q) && (keys it.X).all (Nat.blt · q) && (keys it.Lt).all (Nat.blt · q)) = true) : ItemOK q ps it := by
  simp only [Bool.and_eq_true] at h
  exact ⟨Nat.eq_of_beq_eq_true h.1.1.1,h.1.1.2,h.1.2,h.2⟩
def Ent.plainb : Ent → Bool
  | .ext _ => false
  | _ => true
theorem RSt.of {fr0 : List (Nat × SV)} {D0 : List Nat} {m kl : Nat} {T : St} (fr : T.fr = fr0) (D : T.D = D0) (n : T.n = m) (G : T.G = []) (kl' : look kl T.L = none) (h : T.L.all (fun p => p.2.plainb) = true) : RSt fr0 D0 m kl T :=
  ⟨fr,D,n,G,kl',fun k x hx => by
    have := List.all_eq_true.1 h _ (look_mem hx)
    cases this⟩
section
variable {cx : Cx} {n : Nat} {fr : List (Nat × SV)} {X : List (Nat × Pred)} {L : List (Nat × Ent)} {D : List Nat} {G : List (Nat × Bool)} {ps : List Nat} {assign body : Code} {items : List Item} {Q : Exit → Act → World → Prop} {g : Operand} {j : Nat}
theorem range_items {N : Nat} {gI : Nat → Item} {i : Nat} {it : Item} (h : ((List.range N).map gI)[i]? = some it) : i < N ∧ it = gI i := by
  rw [List.getElem?_map] at h
  cases hr : (List.range N)[i]? with
  | none => rw [hr] at h; cases h
  | some k =>
    rw [hr] at h
    obtain ⟨h1,h2⟩ := List.getElem?_eq_some_iff.1 hr
    simp at h1 h2 h
    subst h2
    exact ⟨h1,h.symm⟩
theorem Loop.ready_eta {R0 : Loop} (h : R0.state = .ready) : ∃ R1 : Loop,R0 = { R1 with state := .ready } := ⟨R0,by cases R0; simp at h; subst h; rfl⟩
theorem Rng.ofG {m q N : Nat} {gI : Nat → Item} {Sg : Nat → St} {Kx : Code → St → Prop} {D0 : List Nat} (hst : ∀ i,RSt fr D0 m (n + 1) (Sg i)) (hkx : ∀ c T,Kx c T → RSt fr D0 m (n + 1) T) (hfr : fr.all (fun p => p.2.kbp (n + 2)) = true) (hD : D0.all (Nat.blt · (n + 2)) = true) (hm : Nat.ble (n + 2) m = true)
    (hitem : ∀ i,i < N → ItemOK q ps (gI i)) (hnd : nodupb ps = true) (hps : ps.all (Nat.blt · cx.N) = true)
    (round : ∀ i,i < N → ∀ (w0 : World) (E : Nat → Prop) (I0 : IH) (R1 : Loop) (pβ : Nat → Nat) (pν us : Nat → Value),WP ⟨cx.P,some (pβ (n + 1)),w0,cx.N,E,I0,n + 2,pβ,pν⟩ (roundSt m q (n + 1) ps (gI i) (Sg i) { R1 with state := .ready } us) assign
      (AsgQ ⟨cx.P,some (pβ (n + 1)),w0,cx.N,E,I0,n + 2,pβ,pν⟩ (n + 1) { R1 with state := .ready } body (RndQ ⟨cx.P,some (pβ (n + 1)),w0,cx.N,E,I0,n + 2,pβ,pν⟩ (n + 1) { R1 with state := .busy } (Sg (i + 1)) Kx))) :
    Rng cx n fr D0 ps assign body ((List.range N).map gI) m q Sg Kx :=
  ⟨hst,hkx,hfr,hD,by simpa using hm,fun it hi => by
    obtain ⟨k,hk,rfl⟩ := List.mem_map.1 hi
    exact hitem k (by simpa using hk),nodup_of hnd,fun t ht => by simpa [Nat.blt_eq] using List.all_eq_true.1 hps t ht,fun i it hi w0 E I0 R0 pβ pν us hR => by
    obtain ⟨h1,rfl⟩ := range_items hi
    obtain ⟨R1,rfl⟩ := Loop.ready_eta hR
    exact round i h1 w0 E I0 R1 pβ pν us⟩
theorem WP.rangeG (m q N : Nat) (gI : Nat → Item) (Sg : Nat → St) (Kx : Code → St → Prop) (hr : cx.r = none) (hg : St.op ⟨n,fr,X,L,D,G⟩ g = some (.e (.a (.q j)))) (hj : Has X j (ItP cx.P items)) (hit : items = (List.range N).map gI)
    (hst : ∀ i,RSt fr (n :: D) m (n + 1) (Sg i)) (hkx : ∀ c T,Kx c T → RSt fr (n :: D) m (n + 1) T) (hfr : fr.all (fun p => p.2.kbp (n + 2)) = true) (hD : (n :: D).all (Nat.blt · (n + 2)) = true) (hm : Nat.ble (n + 2) m = true)
    (hitem : ∀ i,i < N → ItemOK q ps (gI i)) (hnd : nodupb ps = true) (hps : ps.all (Nat.blt · cx.N) = true)
    (ρ : Nat → Nat) (h0 : LeR (n + 2) ⟨n + 2,fr,X,(n,.ob (.deferred (some []))) :: L,n :: D,[]⟩ (Sg 0) ρ)
    (round : ∀ i,i < N → ∀ (w0 : World) (E : Nat → Prop) (I0 : IH) (R1 : Loop) (pβ : Nat → Nat) (pν us : Nat → Value),WP ⟨cx.P,some (pβ (n + 1)),w0,cx.N,E,I0,n + 2,pβ,pν⟩ (roundSt m q (n + 1) ps (gI i) (Sg i) { R1 with state := .ready } us) assign
      (AsgQ ⟨cx.P,some (pβ (n + 1)),w0,cx.N,E,I0,n + 2,pβ,pν⟩ (n + 1) { R1 with state := .ready } body (RndQ ⟨cx.P,some (pβ (n + 1)),w0,cx.N,E,I0,n + 2,pβ,pν⟩ (n + 1) { R1 with state := .busy } (Sg (i + 1)) Kx)))
    (hjump : ∀ c T,Kx c T → WP cx T c Q) (hnorm : EX cx (Sg N) .normal Q) : WP cx ⟨n,fr,X,L,D,G⟩ (.rangeFunc g ps.toArray assign body) Q := by
  subst hit
  exact WP.range hr (Rng.ofG hst hkx hfr hD hm hitem hnd hps round) hg (ItP.hit hj) ρ h0 (by simpa using hnorm) hjump
theorem WP.rangeG2 {l0 : Nat} {rec0 : Loop} (kl0 : Nat) (m q N : Nat) (gI : Nat → Item) (Sg : Nat → St) (Kx : Code → St → Prop) (hr : cx.r = some l0) (hkl0 : Nat.blt kl0 cx.nB = true) (hpl : cx.pβ kl0 = l0) (hlk : look kl0 L = some (.ob (.loop rec0))) (hg : St.op ⟨n,fr,X,L,D,G⟩ g = some (.e (.a (.q j)))) (hj : Has X j (ItP cx.P items)) (hit : items = (List.range N).map gI)
    (hst : ∀ i,RSt fr D m (n + 1) (Sg i)) (hkx : ∀ c T,Kx c T → RSt fr D m (n + 1) T) (hfr : fr.all (fun p => p.2.kbp (n + 2)) = true) (hD : D.all (Nat.blt · (n + 2)) = true) (hm : Nat.ble (n + 2) m = true)
    (hitem : ∀ i,i < N → ItemOK q ps (gI i)) (hnd : nodupb ps = true) (hps : ps.all (Nat.blt · cx.N) = true)
    (ρ : Nat → Nat) (h0 : LeR (n + 2) ⟨n + 2,fr,X,L,D,[]⟩ (Sg 0) ρ)
    (round : ∀ i,i < N → ∀ (w0 : World) (E : Nat → Prop) (I0 : IH) (R1 : Loop) (pβ : Nat → Nat) (pν us : Nat → Value),WP ⟨cx.P,some (pβ (n + 1)),w0,cx.N,E,I0,n + 2,pβ,pν⟩ (roundSt m q (n + 1) ps (gI i) (Sg i) { R1 with state := .ready } us) assign
      (AsgQ ⟨cx.P,some (pβ (n + 1)),w0,cx.N,E,I0,n + 2,pβ,pν⟩ (n + 1) { R1 with state := .ready } body (RndQ ⟨cx.P,some (pβ (n + 1)),w0,cx.N,E,I0,n + 2,pβ,pν⟩ (n + 1) { R1 with state := .busy } (Sg (i + 1)) Kx)))
    (hjump : ∀ c T,Kx c T → WP cx T c Q) (hnorm : EX cx (Sg N) .normal Q) : WP cx ⟨n,fr,X,L,D,G⟩ (.rangeFunc g ps.toArray assign body) Q := by
  subst hit
  exact WP.range2 hr (by rw [Nat.blt_eq] at hkl0; exact hkl0) hpl hlk (Rng.ofG hst hkx hfr hD hm hitem hnd hps round) hg (ItP.hit hj) ρ h0 (by simpa using hnorm) hjump
end
section
variable {cx : Cx} {Q : Exit → Act → World → Prop} {ops : Array Oper} {rest : List Oper}
variable {n : Nat} {fr : List (Nat × SV)} {X : List (Nat × Pred)} {L : List (Nat × Ent)} {D : List Nat} {G : List (Nat × Bool)} {d : Tmp} {ty : TypeId} {pos : String} {af : Array Edge}
theorem run_eqsl {P : Program} {t e : TypeId} (hT : P.underlying t = some (.slice e)) (a : Option Addr) (len cap : Nat) (w : World) : (Op.equal t (.slice a len cap) (.slice none 0 0)).run P w = .ok a.isNone w := by
  show (Op.equalIn (Op.maxDepth - 1 + 1) t (.slice a len cap) (.slice none 0 0)).run P w = _
  cases a <;> simp [Op.equalIn,run_underlying hT]
theorem WPl.eqnil {x : Operand} {t t' e : TypeId} {j : Nat} {α : Type} {E : EP α} {l : List α} (hT : cx.P.underlying t = some (.slice e)) (hd : Nat.blt d cx.N = true) (hx : St.op ⟨n,fr,X,L,D,G⟩ x = some (.e (.a (.q j)))) (hj : Has X j (PL E l))
    (K : ∀ c : Bool,(c = true → l = []) → WPl cx ops ⟨n,(d,.b c) :: fr,X,L,D,G⟩ rest Q) : WPl cx ops ⟨n,fr,X,L,D,G⟩ (⟨some d,.binOp .eql t x (.const (.slice none 0 0)) t',ty,pos,af,none⟩ :: rest) Q := by
  intro ε I a w hs
  obtain ⟨ad,cap,hv,hc,hl⟩ := hs.has hj
  have hx' := hs.eval hx
  simp only [SV.den,El.den,At.den,hv] at hx'
  refine wpListIn_step fun K' hK => ?_
  simp only [Region.wanted,if_true]
  refine ⟨fun _ _ => trivial,?_⟩
  have h3 : a.eval (.const (.slice none 0 0)) = .slice none 0 0 := rfl
  have hrun : (execOp a.eval ⟨some d,.binOp .eql t x (.const (.slice none 0 0)) t',ty,pos,af,none⟩).run cx.P w = .ok (.value (.bool ad.isNone)) w := by
    simp [execOp,hx',h3,eqGuard,binOp,run_eqsl hT]
  rw [semAt_eq _ _ _ (fun _ => by simp),hrun]
  have hd' : d < cx.N := by rw [Nat.blt_eq] at hd; exact hd
  refine hK _ _ (K ad.isNone (fun h => ?_) ε I _ w ?_)
  · cases l with
    | nil => rfl
    | cons y t =>
      obtain ⟨cs,ad',_,h2,_⟩ := hl 0 (by simp)
      rw [h2] at h; cases h
  · have := SatM.app (d := some d) (u := .val (.b ad.isNone)) n hs (St.le.refl _) (fun k hk => by cases hk) (fun i hi => by cases hi; exact hd') (Tr.refl hs.imm) (New.val trivial)
    exact SatM.mono (fun k hk => by
      rcases hk with hk | hk
      · exact hk
      · cases hk) this
end
end Go.Eng
namespace Go.Eng
open Go
section ops
variable {cx : Cx} {S : St} {dst : Option Tmp} {ty : TypeId} {pos : String} {af : Array Edge} {gd : Option (Nat × Bool)}
end ops
section
variable {cx : Cx} {n : Nat} {fr : List (Nat × SV)} {X : List (Nat × Pred)} {L : List (Nat × Ent)} {D : List Nat} {G : List (Nat × Bool)}
theorem Imp.topX (k : Nat) {T : TypeId} {s m : Nat} {R : LPred} (hk : look k L = some (.own T s m R)) : Imp cx ⟨n,fr,X,L,D,G⟩ ⟨n,fr,(k,Pred.top) :: X,L,D,G⟩ := fun ε I a w hs => by
  refine ⟨ε,I,{ hs with wfX := fun j R hj => ?_,X := fun j R hj => ?_ }⟩
  · have hj : look j ((k,Pred.top) :: X) = some R := hj
    rw [look_cons] at hj
    by_cases h : k = j
    · subst h; exact (hs.wfL k _ hk).1
    · simp [h] at hj; exact hs.wfX j R hj
  · have hj : look j ((k,Pred.top) :: X) = some R := hj
    rw [look_cons] at hj
    by_cases h : k = j
    · subst h; simp at hj; subst hj; trivial
    · simp [h] at hj; exact hs.X j R hj
end
end Go.Eng
namespace Go.Eng
open Go
section
variable {cx : Cx} {Q : Exit → Act → World → Prop} {ops : Array Oper} {nf : Nat} {r : Rec} {t : List (Oper × Rec)}
variable {n : Nat} {fr : List (Nat × SV)} {X : List (Nat × Pred)} {L : List (Nat × Ent)} {D : List Nat} {G : List (Nat × Bool)} {d : Tmp} {op : Op} {ty : TypeId} {pos : String} {af : Array Edge} {gd : Option (Nat × Bool)} {sv : SV}
theorem DRQ.u1 (k : Nat) {R : Pred} {L' : List (Nat × Ent)} (hd : Nat.blt d cx.N = true) (hg : GOK ops (dropL r.ds fr) gd true) (hN : r.N = [k]) (h : OpG cx (St.drop ⟨n,fr,X,L,D,G⟩ r.ds r.dk) ⟨some d,op,ty,pos,af,gd⟩ ⟨sv,[k],[(k,R)],L',[]⟩) (hk : r.ks = k :: keys L')
    (K : DRQ cx ops nf t ⟨n,(d,sv) :: fr,(k,R) :: X,L' ++ L,D,G⟩ Q) : DRQ cx ops nf ((⟨some d,op,ty,pos,af,gd⟩,r) :: t) ⟨n,fr,X,L,D,G⟩ Q :=
  ⟨⟨sv,[k],[(k,R)],L',[]⟩,ROp.on hg h,⟨hN.symm,fun i _ h => by obtain ⟨rfl,_⟩ := look_one h; rw [hk]; exact List.mem_cons_self,fun i _ h => by rw [hk]; exact List.mem_cons_of_mem _ (look_keys h),rfl,fun i hi => by cases hi; rw [Nat.blt_eq] at hd; exact hd⟩,K⟩
end
end Go.Eng
namespace Go.Eng
end Go.Eng
namespace Go.Eng
open Go
def Pred.pure (p : Prop) : Pred := ⟨fun _ _ => p,fun _ h => h⟩
theorem WP.pure {cx : Cx} {S : St} {c : Code} {Q : Exit → Act → World → Prop} (k : Nat) {p : Prop} (hk : Has S.X k (Pred.pure p)) (h : p → WP cx S c Q) : WP cx S c Q := fun ε I a w hs => h (hs.has hk) ε I a w hs
theorem EX.pure {cx : Cx} {S : St} {e : Exit} {Q : Exit → Act → World → Prop} (k : Nat) {p : Prop} (hk : Has S.X k (Pred.pure p)) (h : p → EX cx S e Q) : EX cx S e Q := fun ε I a w hs => h (hs.has hk) ε I a w hs
def markb : Option Ent → Bool
  | some (.ob (.deferred (some []))) => true
  | _ => false
theorem marks {D : List Nat} {L : List (Nat × Ent)} (h : (D.all fun k => markb (look k L)) = true) : ∀ k ∈ D,look k L = some (.ob (.deferred (some []))) := fun k hk => by
  have := List.all_eq_true.1 h k hk
  revert this
  generalize look k L = x
  intro h
  match x,h with
  | some (.ob (.deferred (some []))),_ => rfl
section
variable {cx : Cx} {Q : Exit → Act → World → Prop} {ops : Array Oper} {rest : List Oper}
end
section
variable {cx : Cx} {S : St} {dst : Option Tmp} {ty : TypeId} {pos : String} {af : Array Edge} {gd : Option (Nat × Bool)}
end
section
variable {cx : Cx} {Q : Exit → Act → World → Prop} {ops : Array Oper} {rest : List Oper}
variable {n : Nat} {fr : List (Nat × SV)} {X : List (Nat × Pred)} {L : List (Nat × Ent)} {D : List Nat} {G : List (Nat × Bool)} {d : Tmp} {op : Op} {ty : TypeId} {pos : String} {af : Array Edge} {sv : SV}
end
end Go.Eng
namespace Go.Eng
open Go
end Go.Eng
namespace Go.Eng
open Go
end Go.Eng
namespace Go.Eng
open Go
section ops
variable {cx : Cx} {S : St} {dst : Option Tmp} {ty : TypeId} {pos : String} {af : Array Edge} {gd : Option (Nat × Bool)}
theorem o_binv {op : BinOp} {x y : Operand} {t t' : TypeId} {a b r : Value} (hx : S.op x = some (.e (.a (.v a)))) (hy : S.op y = some (.e (.a (.v b))))
    (hr : ∀ w,(do eqGuard op t x y a b; binOp op t a b : Sem Value).run cx.P w = .ok r w) :
    OpG cx S ⟨dst,.binOp op t x y t',ty,pos,af,gd⟩ (.val (.e (.a (.v r)))) :=
  OpG.pure (fun _ => by simp) fun M ε I ac w hs => ⟨trivial,by
    have h1 := hs.eval hx; have h2 := hs.eval hy
    simp only [SV.den,El.den,At.den] at h1 h2
    simp only [execOp,h1,h2]
    rw [Sem.run_bind,hr]
    rfl⟩
theorem o_convv {x : Operand} {t t' : TypeId} {k k' : IntKind} {n r : Int} (h1 : cx.P.underlying t = some (.int k)) (h2 : cx.P.underlying t' = some (.int k')) (hx : S.op x = some (.e (.a (.v (.int k n))))) (hr : k'.wrap n = r) :
    OpG cx S ⟨dst,.convert t t' x,ty,pos,af,gd⟩ (.val (.e (.a (.v (.int k' r))))) :=
  OpG.pure (fun _ => by simp) fun M ε I ac w hs => ⟨trivial,by
    have h3 := hs.eval hx
    simp only [SV.den,El.den,At.den] at h3
    simp [execOp,h3,convert,run_underlying h1,run_underlying h2,Conv.intToInt,hr,SV.den,El.den,At.den]⟩
end ops
theorem SatM.pinv {cx : Cx} {M : Nat → Prop} {ε : Env} {I : IH} {n : Nat} {fr : List (Nat × SV)} {X : List (Nat × Pred)} {L : List (Nat × Ent)} {D : List Nat} {G : List (Nat × Bool)} {a : Act} {w : World} (k : Nat) (hk : M k) (hs : SatM cx M ε I ⟨n,fr,X,L,D,G⟩ a w) : SatM cx M ε I ⟨n,fr,(k,Pred.is (ε.ν k)) :: X,L,D,G⟩ a w :=
  { hs with
    wfX := fun j R hj => by
      rw [look_cons] at hj
      by_cases h : k = j
      · subst h; exact hk
      · simp only [h,if_false] at hj; exact hs.wfX j R hj
    X := fun j R hj => by
      rw [look_cons] at hj
      by_cases h : k = j
      · subst h; simp at hj; subst hj; exact rfl
      · simp only [h,if_false] at hj; exact hs.X j R hj }
section rows
variable {α : Type} {E : EP α} {I : IH} {l : List α} {xs : List Value}
end rows
section ops
variable {cx : Cx} {S : St} {dst : Option Tmp} {ty : TypeId} {pos : String} {af : Array Edge} {gd : Option (Nat × Bool)}
end ops
end Go.Eng
namespace Go.Eng
open Go
section
variable {cx : Cx} {n : Nat} {fr : List (Nat × SV)} {X : List (Nat × Pred)} {L : List (Nat × Ent)} {D : List Nat} {G : List (Nat × Bool)}
end
section ops
variable {cx : Cx} {S : St} {dst : Option Tmp} {ty : TypeId} {pos : String} {af : Array Edge} {gd : Option (Nat × Bool)}
end ops
end Go.Eng
namespace Go.Eng
open Go
section
variable {α : Type} {x : α}
end
section ops
variable {cx : Cx} {S : St} {ty : TypeId} {pos : String} {af : Array Edge}
end ops
end Go.Eng
namespace Go.Eng
open Go
section
variable {cx : Cx} {S : St} {dst : Option Tmp} {ty : TypeId} {pos : String} {af : Array Edge} {gd : Option (Nat × Bool)} {x y : Operand} {t t' : TypeId} {a b : Int}
theorem o_quo (hx : S.op x = some (.i a)) (hy : S.op y = some (.i b)) (hb : 0 < b) (h1 : -9223372036854775808 ≤ a.tdiv b) (h2 : a.tdiv b ≤ 9223372036854775807) : OpG cx S ⟨dst,.binOp .quo t x y t',ty,pos,af,gd⟩ (.val (.i (a.tdiv b))) := by
  have hb0 : b ≠ 0 := by omega
  have : OpG cx S ⟨dst,.binOp .quo t x y t',ty,pos,af,gd⟩ (.val (.i (IntKind.i64.wrap (a.tdiv b)))) := o_bin hx hy fun w => by simp [eqGuard,binOp,Op.intDiv,hb0]
  rwa [wrap_in h1 h2] at this
end
end Go.Eng
namespace Go.Eng
open Go Go.ChangeShapes Go.WideShapes
inductive Leaf : Type 1 where
  | i
  | s {β : Type} (E : EP β)
def LeafOK (I : IH) : List Value → List Leaf → Prop
  | [],[] => True
  | v :: vs,.i :: ls => (∃ n,v = .int .i64 n) ∧ LeafOK I vs ls
  | v :: vs,.s E :: ls => (∃ l,(PL E l).h I v) ∧ LeafOK I vs ls
  | _,_ => False
theorem LeafOK.app {I : IH} {vs2 : List Value} {ls2 : List Leaf} (h2 : LeafOK I vs2 ls2) : ∀ {vs : List Value} {ls : List Leaf},LeafOK I vs ls → LeafOK I (vs ++ vs2) (ls ++ ls2)
  | [],[],_ => h2
  | _ :: _,.i :: _,h => ⟨h.1,LeafOK.app h2 h.2⟩
  | _ :: _,.s _ :: _,h => ⟨h.1,LeafOK.app h2 h.2⟩
  | [],.i :: _,h => h.elim
  | [],.s _ :: _,h => h.elim
  | _ :: _,[],h => h.elim
structure Flat (P : Program) (t : TypeId) (ls : List Leaf) : Prop where
  cells : P.cellsOf t = ls.length
  ok : ∀ {H : Type} (enc : TypeId × Value → H) (w : World) (fuel : Nat) (cs : List Value) (x : DataW H × List MemPlace),DataW.trod enc P w 0 (fun _ => true) true fuel t cs = some x → LeafOK (World.all w) cs ls
structure ReadsE (P : Program) (t : TypeId) {α : Type} (E : EP α) : Prop where
  size : E.size = P.cellsOf t
  pos : 0 < E.size
  ok : ∀ {H : Type} (enc : TypeId × Value → H) (w : World) (fuel : Nat) (cs : List Value) (x : DataW H × List MemPlace),DataW.trod enc P w 0 (fun _ => true) true fuel t cs = some x → ∃ y,E.h (World.all w) cs y
theorem Flat.int {P : Program} {t : TypeId} (h : P.underlying t = some (.int .i64)) (hc : P.cellsOf t = 1) : Flat P t [.i] := ⟨hc,fun enc w fuel cs x hx => by
  obtain ⟨n,rfl,_⟩ := DataW.trod_int h hx
  exact ⟨⟨n,rfl⟩,trivial⟩⟩
theorem ReadsE.int {P : Program} {t : TypeId} (h : P.underlying t = some (.int .i64)) (hc : P.cellsOf t = 1) : ReadsE P t EP.int := ⟨hc.symm,by decide,fun enc w fuel cs x hx => by
  obtain ⟨n,rfl,_⟩ := DataW.trod_int h hx
  exact ⟨n,rfl⟩⟩
theorem all_cell {w : World} {a : Addr} {v : Value} (h : w.cell? a = some v) : (World.all w).cell a = some v := by
  unfold World.cell? at h
  unfold IH.cell World.all
  exact h
theorem rows_list {P : Program} {e : TypeId} {α : Type} {E : EP α} (hE : ReadsE P e E) {H : Type} {enc : TypeId × Value → H} {w : World} {n : Nat} {a : Addr} {elems : List (DataW H × List MemPlace)} :
    ∀ len : Nat,len ≤ elems.length → (∀ i,i < len → (w.cells? 0 (a.add (i * P.cellsOf e)) (P.cellsOf e)).bind (DataW.trod enc P w 0 (fun _ => true) true n e) = elems[i]?) →
    ∃ l : List α,l.length = len ∧ ∀ i (hi : i < l.length),∃ cs,w.cells? 0 (a.add (i * P.cellsOf e)) (P.cellsOf e) = some cs ∧ E.h (World.all w) cs l[i]
  | 0,_,_ => ⟨[],rfl,fun i hi => absurd hi (by simp)⟩
  | len + 1,hl,h => by
    obtain ⟨l,h1,h2⟩ := rows_list hE len (by omega) (fun i hi => h i (by omega))
    have h3 := h len (by omega)
    rw [List.getElem?_eq_getElem (by omega)] at h3
    obtain ⟨cs,h4,h5⟩ := Option.bind_eq_some_iff.1 h3
    obtain ⟨y,hy⟩ := hE.ok enc w n cs _ h5
    refine ⟨l ++ [y],by simp [h1],fun i hi => ?_⟩
    by_cases hil : i < l.length
    · rw [List.getElem_append_left hil]; exact h2 i hil
    · have : i = l.length := by simp at hi; omega
      subst this
      rw [List.getElem_append_right (Nat.le_refl _)]
      simp only [Nat.sub_self,List.getElem_cons_zero]
      exact ⟨cs,by rw [h1]; exact h4,hy⟩
theorem slice_pl {P : Program} {t e : TypeId} {α : Type} {E : EP α} (h : P.underlying t = some (.slice e)) (hE : ReadsE P e E) {H : Type} (enc : TypeId × Value → H) (w : World) (fuel : Nat) (cs : List Value) (x : DataW H × List MemPlace)
    (hx : DataW.trod enc P w 0 (fun _ => true) true fuel t cs = some x) : ∃ v l,cs = [v] ∧ (PL E l).h (World.all w) v := by
  rcases DataW.trod_slice h hx with ⟨rfl,_⟩ | ⟨a,len,cap,elems,rest,n,_,rfl,_,_,hlc,_,hel,hall,_⟩
  · exact ⟨_,[],rfl,pl_nil⟩
  · obtain ⟨l,h1,h2⟩ := rows_list hE len (by omega) hall
    refine ⟨_,l,rfl,some a,cap,by rw [h1],by omega,fun i hi => ?_⟩
    obtain ⟨cs,h3,h4⟩ := h2 i hi
    obtain ⟨h5,h6,h7⟩ := World.cells?_some h3
    have hsp : a.spot = none := by
      obtain ⟨cs0,g3,g4⟩ := h2 0 (by omega)
      obtain ⟨_,_,g7⟩ := World.cells?_some g3
      have hp := hE.pos
      have hl := E.len g4
      have := g7 0 (by rw [← hE.size]; exact hp)
      rw [List.getElem?_eq_getElem (by omega)] at this
      have h8 := World.cell?_spot this
      simpa [Addr.add] using h8
    refine ⟨cs,a,h4,rfl,hsp,fun j y hj => all_cell ?_⟩
    have hjl : j < cs.length := (List.getElem?_eq_some_iff.1 hj).1
    have := h7 j (by rw [← hE.size,← E.len h4]; exact hjl)
    rw [hE.size,← Addr.add_add hsp,this,hj]
theorem Flat.slice {P : Program} {t e : TypeId} {α : Type} {E : EP α} (h : P.underlying t = some (.slice e)) (hc : P.cellsOf t = 1) (hE : ReadsE P e E) : Flat P t [.s E] := ⟨hc,fun enc w fuel cs x hx => by
  obtain ⟨v,l,rfl,hl⟩ := slice_pl h hE enc w fuel cs x hx
  exact ⟨⟨l,hl⟩,trivial⟩⟩
theorem ReadsE.slice {P : Program} {t e : TypeId} {α : Type} {E : EP α} (h : P.underlying t = some (.slice e)) (hc : P.cellsOf t = 1) (hE : ReadsE P e E) : ReadsE P t (EP.sl E) := ⟨hc.symm,by show 0 < 1; omega,fun enc w fuel cs x hx => by
  obtain ⟨v,l,rfl,hl⟩ := slice_pl h hE enc w fuel cs x hx
  exact ⟨l,v,rfl,hl⟩⟩
inductive LeafFs (P : Program) : Nat → List Field → List Leaf → Prop
  | nil {o : Nat} : LeafFs P o [] []
  | cons {o : Nat} {f : Field} {fs : List Field} {l1 l2 : List Leaf} (ho : f.offset = o) (h : Flat P f.type l1) (t : LeafFs P (o + l1.length) fs l2) : LeafFs P o (f :: fs) (l1 ++ l2)
theorem LeafFs.ok {P : Program} {H : Type} {enc : TypeId × Value → H} {w : World} {n : Nat} {cs : List Value} : ∀ {o : Nat} {fs : List Field} {ls : List Leaf},LeafFs P o fs ls →
    (∀ f ∈ fs,∃ x,DataW.trod enc P w 0 (fun _ => true) true n f.type ((cs.drop f.offset).take (P.cellsOf f.type)) = some x) → cs.length = o + ls.length → LeafOK (World.all w) (cs.drop o) ls
  | o,_,_,.nil,_,hl => by
    have : cs.drop o = [] := List.drop_eq_nil_of_le (by simp at hl; omega)
    rw [this]; trivial
  | o,_,_,.cons (f := f) (fs := fs) (l1 := l1) (l2 := l2) ho h t,hf,hl => by
    obtain ⟨x,hx⟩ := hf f List.mem_cons_self
    have h1 := h.ok enc w n _ x hx
    rw [h.cells,ho] at h1
    have h2 := LeafFs.ok t (fun g hg => hf g (List.mem_cons_of_mem _ hg)) (by rw [hl,List.length_append]; omega)
    have := LeafOK.app h2 h1
    rw [show cs.drop (o + l1.length) = (cs.drop o).drop l1.length by rw [List.drop_drop],List.take_append_drop] at this
    exact this
theorem Flat.struct {P : Program} {t : TypeId} {fs : Array Field} {ls : List Leaf} (h : P.underlying t = some (.struct fs)) (hf : LeafFs P 0 fs.toList ls) (hc : P.cellsOf t = ls.length) : Flat P t ls := ⟨hc,fun enc w fuel cs x hx => by
  obtain ⟨xs,n,_,_,hl,hxl,hall⟩ := DataW.trod_struct h hx
  have := LeafFs.ok (cs := cs) (enc := enc) (w := w) (n := n) hf (fun f hfm => by
    obtain ⟨i,hi,rfl⟩ := List.mem_iff_getElem.1 hfm
    have hi' : i < fs.size := by simpa using hi
    have h2 := hall i fs[i] (by simp [hi'])
    rw [List.getElem?_eq_getElem (by omega)] at h2
    exact ⟨_,by simpa using h2⟩) (by rw [hl,hc]; omega)
  simpa using this⟩
theorem keep_kept {w w' : World} (h : Keep Emp w w') : w.keptBut w' (fun _ => False) := by
  refine ⟨h.os,h.output.1,fun i hi => ?_⟩
  rw [h.block i hi (fun h => h)]
  cases hw : w.heap[i]? with
  | none => rfl
  | some o => cases o <;> first | rfl | exact ⟨rfl,rfl,rfl,fun _ _ => rfl⟩ | exact .inr ⟨rfl,rfl⟩
theorem keep_same {w w' : World} (h : Keep Emp w w') {p : MemPlace} (hp : p.block < w.heap.size) : w.sameAt w' p := by
  cases p with
  | cell b off =>
    show w'.cell? _ = w.cell? _
    unfold World.cell?
    rw [h.block b hp (fun h => h)]
  | map b => exact h.block b hp (fun h => h)
theorem trodAll_kept {P : Program} {H : Type} {enc : TypeId × Value → H} {w w' : World} (hl : laidOutB P = true) (hk : Keep Emp w w') : ∀ {ts : List TypeId} {vs : List Value} {ds : List (DataW H)} {ps : List MemPlace},(∀ t ∈ ts,P.readableRec t = true ∧ t < P.types.size) →
    DataW.TrodAll enc P w 0 (fun _ => true) true ts vs ds ps → (∀ p ∈ ps,p.block < w.heap.size) → DataW.TrodAll enc P w' 0 (fun b => decide (b < w.heap.size)) true ts vs ds ps
  | [],_,_,_,_,h,_ => by
    obtain ⟨rfl,rfl,rfl⟩ := trodAll_nil h
    exact rfl
  | t :: ts,_,_,_,ht,h,hlt => by
    obtain ⟨v,vs,d,ds,p,q,rfl,rfl,rfl,h1,h2⟩ := trodAll_cons h
    have h3 := ht t List.mem_cons_self
    exact ⟨p,q,WideElems.Trod_stays hl h3.1 h3.2 h1 (fun x hx => keep_same hk (hlt x (List.mem_append_left _ hx))) (fun x hx => by simpa using hlt x (List.mem_append_left _ hx)),
      trodAll_kept hl hk (fun t hx => ht t (List.mem_cons_of_mem _ hx)) h2 (fun x hx => hlt x (List.mem_append_right _ hx)),rfl⟩
theorem law_post {P : Program} {H : Type} {enc : TypeId × Value → H} {fn : Func} {s : ChangeSpec} {apart fresh : Bool} {w w' : World} {args : Array Value} {ds gs : List (DataW H)} {before : List MemPlace} {tb : TypeId} (hl : laidOutB P = true) (hr : fn.resultTypes = #[tb]) (hb : P.underlying tb = some .bool)
    (hts : ∀ t ∈ fn.params.toList,P.readableRec t = true ∧ t < P.types.size) (hv : s.vars = []) (hW : DataW.Whole enc P fn.params.toList s.vars apart w args.toList ds gs before) (hs : s.fn H (ds ++ gs) = { results := [.lit (.bool true)],args := ds }) (hk : Keep Emp w w') :
    s.post enc P fn apart fresh false false w args (.bool true) w' := by
  have hlt := hW.lt
  obtain ⟨p,q,h1,h2,rfl,h3,h4⟩ := id hW
  refine ⟨ds,gs,p ++ q,[],p,[],hW,?_,?_,?_,?_,fun h => by cases h⟩
  · rw [hr,hs]
    exact trodAll_mk1 ⟨1,by simp [DataW.trod,hb,Value.cells]⟩
  · rw [hs]
    exact trodAll_kept hl hk hts h1 (fun x hx => hlt x (List.mem_append_left _ hx))
  · rw [hs,hv]
    exact rfl
  · obtain ⟨a,b,c⟩ := keep_kept hk
    refine ⟨a,b,fun i hi => ?_⟩
    have := c i hi
    revert this
    cases w.heap[i]? with
    | none => exact fun h => h
    | some o =>
      cases w'.heap[i]? with
      | none => intro h; cases o <;> exact h
      | some o' =>
        cases o <;> cases o' <;> intro h <;> first | exact h | exact ⟨h.1,h.2.1,h.2.2.1,fun j _ => h.2.2.2 j (fun x => x)⟩ | exact .inr (h.resolve_left (fun x => x))
end Go.Eng
namespace Go.Eng
open Go Go.ChangeShapes Go.WideShapes
def TrueKept (W : World) : Ending → World → Prop := fun e w' => e = .returned (.bool true) ∧ Keep Emp W w'
theorem Sig.kept {P : Program} {f : FuncId} {svs : List SV} {X0 : List (Nat × Pred)} (h : Sig P f svs X0 (.b true) []) {W : World} {ν : Nat → Value} (hX : FactsOK ν (World.all W) X0) : Calls P f (svs.map (den0 ν)).toArray W (TrueKept W) := by
  have := h (World.all W) W ν (World.all_on W) hX
  refine callsIn_wide.1 (CallsIn.mono this ?_)
  rintro e w' ⟨I',us,rfl,hk,_⟩
  exact ⟨rfl,hk⟩
theorem lawLifted {C : Checked} {os : Os} {f : FuncId} {fn : Func} {H : Type} {enc : TypeId × Value → H} {s : ChangeSpec} {conds : List PathCond} {fresh : Bool} {tb : TypeId}
    (own : ownKnob C.prog.godebug = none) (started : os.Started) (noInit : C.prog.inits.idxOf? f = none) (hfn : C.prog.funcs[f]? = some fn)
    (witness : ∃ (w : World) (tape : Tape) (i : Input),w.os = os ∧ (w.forCall tape i).Shaped C.prog ∧ i.vars = [] ∧ Input.okWide C.prog (w.forCall tape i) .any w.heap.size f i ∧
      s.pre6 enc C.prog fn conds false (w.forCall tape i).memory i.args ∧ ({} : Assume).holds C.prog (lone (Frame.enter C.prog f i.args .normal) [] (w.forCall tape i)))
    (hl : laidOutB C.prog = true) (hr : fn.resultTypes = #[tb]) (hb : C.prog.underlying tb = some .bool) (hts : ∀ t ∈ fn.params.toList,C.prog.readableRec t = true ∧ t < C.prog.types.size) (hv : s.vars = [])
    (hs : ∀ ds : List (DataW H),ds.length = fn.params.size → s.fn H ds = { results := [.lit (.bool true)],args := ds })
    (contract : ∀ (W : World) (base : Nat) (args : Array Value) (ds : List (DataW H)) (p : List MemPlace),(∀ (j : Nat) t v,fn.params[j]? = some t → args[j]? = some v → Value.okWide C.prog W .any base t v) →
      DataW.TrodAll enc C.prog W 0 (fun _ => true) true fn.params.toList args.toList ds p → Calls C.prog f args W (TrueKept W)) :
    ReturnsInHanded {} C os f .any (s.pre6 enc C.prog fn conds false) (s.post enc C.prog fn false fresh false false) := by
  refine returnsInHanded_of_change own started noInit hfn witness ?_
  intro W base args ds gs before hval hW _ _
  obtain ⟨p,q,h1,h2,h3,h4,h5⟩ := id hW
  rw [hv] at h2
  obtain ⟨rfl,rfl⟩ := trodVars_none h2
  have hlen : ds.length = fn.params.size := by
    have key : ∀ {ts : List TypeId} {vs : List Value} {ds : List (DataW H)} {ps : List MemPlace},DataW.TrodAll enc C.prog W 0 (fun _ => true) true ts vs ds ps → ds.length = ts.length := by
      intro ts
      induction ts with
      | nil => intro vs ds ps h; obtain ⟨_,rfl,_⟩ := trodAll_nil h; rfl
      | cons t ts ih =>
        intro vs ds ps h
        obtain ⟨v,vs',d,ds',p,q,rfl,rfl,rfl,_,h2⟩ := trodAll_cons h
        simp [ih h2]
    simpa using key h1
  refine (contract W base args ds p hval h1).mono ?_
  rintro e w' ⟨rfl,hk⟩
  exact ⟨_,rfl,law_post hl hr hb hts hv hW (by rw [List.append_nil]; exact hs ds hlen) hk⟩
theorem LeafOK.un0 {I : IH} {l : List Value} (h : LeafOK I l []) : l = [] := by
  cases l with
  | nil => rfl
  | cons _ _ => exact h.elim
theorem LeafOK.uni {I : IH} {l : List Value} {ls : List Leaf} (h : LeafOK I l (.i :: ls)) : ∃ n t,l = .int .i64 n :: t ∧ LeafOK I t ls := by
  cases l with
  | nil => exact h.elim
  | cons v t =>
    obtain ⟨⟨n,rfl⟩,h2⟩ := h
    exact ⟨n,t,rfl,h2⟩
theorem LeafOK.uns {I : IH} {l : List Value} {ls : List Leaf} {α : Type} {E : EP α} (h : LeafOK I l (.s E :: ls)) : ∃ v x t,l = v :: t ∧ (PL E x).h I v ∧ LeafOK I t ls := by
  cases l with
  | nil => exact h.elim
  | cons v t =>
    obtain ⟨⟨x,hx⟩,h2⟩ := h
    exact ⟨v,x,t,rfl,hx,h2⟩
end Go.Eng
namespace Go.Flong
open Go Go.Eng
structure Pig where
  pounds : Int
  tin : Int
  ant : Int
  pence : Int
  many : Int
instance : Inhabited Pig := ⟨⟨0,0,0,0,0⟩⟩
structure Night where
  lo : Int
  hi : Int
  test : Int
instance : Inhabited Night := ⟨⟨0,0,0⟩⟩
structure Shop where
  pounds : Int
  tl : Int
  th : Int
  al : Int
  ah : Int
  room : Int
  tpl : Int
  tph : Int
  apl : Int
  aph : Int
  pigs : List Pig
structure Fnd where
  shop : Shop
  nights : List Night
def within (n lo hi : Int) : Bool := decide (lo ≤ n) && decide (n ≤ hi)
def allI (p : Nat → Bool) : Nat → Bool
  | 0 => true
  | i + 1 => allI p i && p i
theorem allI_iff {p : Nat → Bool} : ∀ {i : Nat},allI p i = true ↔ ∀ j : Nat,j < i → p j = true
  | 0 => by simp [allI]
  | i + 1 => by
    simp only [allI,Bool.and_eq_true,allI_iff (i := i)]
    constructor
    · rintro ⟨h1,h2⟩ j hj
      rcases Nat.lt_succ_iff_lt_or_eq.1 hj with h | rfl
      · exact h1 j h
      · exact h2
    · intro h; exact ⟨fun j hj => h j (by omega),h i (by omega)⟩
def sameAt (a b : List Int) (j : Nat) : Bool := decide (nth a j = nth b j)
end Go.Flong
namespace Go.Flong
open Go Go.Eng
end Go.Flong
namespace Go.Flong
open Go Go.Eng
theorem nth_mem {α : Type} [Inhabited α] {l : List α} {i : Int} (h0 : 0 ≤ i) (h : i < l.length) : nth l i ∈ l := by
  have hi : i.toNat < l.length := by omega
  simp only [nth,List.getD_eq_getElem?_getD,List.getElem?_eq_getElem hi,Option.getD_some]
  exact List.getElem_mem hi
end Go.Flong
namespace Go.Flong
open Go Go.Eng
end Go.Flong
namespace Go.Flong
open Go Go.Eng
end Go.Flong
namespace Go.Flong
open Go Go.Eng
end Go.Flong
namespace Go.Flong
open Go Go.Eng
end Go.Flong
namespace Go.Flong
open Go Go.Eng
end Go.Flong
namespace Go.Flong
open Go Go.Eng
structure Pt where
  pounds : Int
  tl : Int
  th : Int
  al : Int
  ah : Int
  dl : Int
  dh : Int
end Go.Flong
namespace Go.Flong
open Go Go.Eng
theorem not_allI {p : Nat → Bool} {i n : Nat} (hi : i < n) (h : p i = false) : allI p n = false := Bool.eq_false_iff.2 fun h2 => by
  have := allI_iff.1 h2 i hi
  rw [h] at this; cases this
end Go.Flong
namespace Go.Flong
open Go Go.Eng
theorem nthN {α : Type} [Inhabited α] {l : List α} {j : Nat} (hj : j < l.length) : nth l (j : Int) = l[j] := by simp [nth,List.getD_eq_getElem?_getD,hj]
section ch
variable {f : Fnd} {left : List Int}
end ch
end Go.Flong
namespace Go.Flong
open Go Go.Eng
section
variable {f : Fnd} {p : Pt} {left : List Int}
end
abbrev BL := { l : List Int // l.length ≤ 40 }
instance : Inhabited BL := ⟨⟨[],by simp⟩⟩
end Go.Flong
namespace Go.Flong
open Go Go.Eng
def longP (l : List (List Int)) : Bool := decide (40 < (l.length : Int)) || !(allI (fun i => !decide (40 < ((nth l i).length : Int))) l.length)
end Go.Flong
namespace Go.Flong
open Go Go.Eng
end Go.Flong
namespace Go.Flong
open Go Go.Eng
theorem longP_len {l : List (List Int)} (h : longP l = false) : l.length ≤ 40 ∧ ∀ i : Nat,i < l.length → (nth l i).length ≤ 40 := by
  simp only [longP,Bool.or_eq_false_iff,decide_eq_false_iff_not,Bool.not_eq_false'] at h
  refine ⟨by omega,fun i hi => ?_⟩
  have := allI_iff.1 h.2 i hi
  simp only [Bool.not_eq_true',decide_eq_false_iff_not] at this; omega
end Go.Flong
namespace Go.Flong
open Go Go.Eng
def inL (l : List Int) (n : Int) : Bool := !allI (fun j => !decide (nth l j = n)) l.length
def risingAt (l : List Int) (lo hi : Int) (i : Nat) : Bool := within (nth l i) lo hi && !(decide (0 < (i : Int)) && decide (nth l i ≤ nth l ((i : Int) - 1)))
def rising (l : List Int) (lo hi : Int) : Bool := allI (risingAt l lo hi) l.length
end Go.Flong
namespace Go.Eng
open Go
section
variable {cx : Cx} {Q : Exit → Act → World → Prop} {ops : Array Oper} {n : Nat} {fr : List (Nat × SV)} {X : List (Nat × Pred)} {L : List (Nat × Ent)} {D : List Nat} {G : List (Nat × Bool)} {rest : List Oper} {dst : Option Tmp} {op : Op} {ty : TypeId} {pos : String} {af : Array Edge} {gd : Option (Nat × Bool)}
theorem WPl.ung (hg : GOK ops fr gd true) (K : WPl cx ops ⟨n,fr,X,L,D,G⟩ (⟨dst,op,ty,pos,af,none⟩ :: rest) Q) : WPl cx ops ⟨n,fr,X,L,D,G⟩ (⟨dst,op,ty,pos,af,gd⟩ :: rest) Q := by
  intro ε I a w hs
  have h := K ε I a w hs
  have h1 : Region.wanted (⟨dst,op,ty,pos,af,none⟩ : Oper) (yielded ops a.tmps) = true := rfl
  have h2 : Region.wanted (⟨dst,op,ty,pos,af,gd⟩ : Oper) (yielded ops a.tmps) = true := GOK.wanted (o := ⟨dst,op,ty,pos,af,gd⟩) hs hg
  simp only [wpListIn] at h ⊢
  rw [if_pos h1] at h
  rw [if_pos h2]
  exact h
end
end Go.Eng
namespace Go.Flong
open Go Go.Eng
structure TM where
  ready : Int
  pace : Int
  stops : Int
structure TBd where
  train : Int
  hundreds : Int
  edition : Int
structure Plate where
  page : Int
  bore : Int
  many : Int
structure Tal where
  boy : Int
  page : Int
  mach : Int
  min : Int
instance : Inhabited TM := ⟨⟨0,0,0⟩⟩
instance : Inhabited TBd := ⟨⟨0,0,0⟩⟩
instance : Inhabited Plate := ⟨⟨0,0,0⟩⟩
instance : Inhabited Tal := ⟨⟨0,0,0,0⟩⟩
structure Hall where
  machs : List TM
  buns : List TBd
  trains : List Int
  change : Int
  bores : List Int
  eds : List (List Int)
instance : Inhabited Hall := ⟨⟨[],[],[],0,[],[]⟩⟩
structure Book where
  hall : Hall
  set : List Plate
  walk : List Int
  boys : Int
  tals : List Tal
instance : Inhabited Book := ⟨⟨default,[],[],0,[]⟩⟩
abbrev ETm : EP TM := .str [.i TM.ready,.i TM.pace,.i TM.stops]
abbrev EBd : EP TBd := .str [.i TBd.train,.i TBd.hundreds,.i TBd.edition]
abbrev EPl : EP Plate := .str [.i Plate.page,.i Plate.bore,.i Plate.many]
abbrev EHo : EP Hall := .str [.s ETm Hall.machs,.s EBd Hall.buns,.s EP.int Hall.trains,.i Hall.change]
abbrev EHa : EP Hall := .str [.s ETm Hall.machs,.s EBd Hall.buns,.s EP.int Hall.trains,.i Hall.change,.s EP.int Hall.bores,.s (EP.sl EP.int) Hall.eds]
def TM.chk (m : TM) : Bool := within m.ready 0 99 && within m.pace 1 9 && within m.stops 0 1
def TBd.chk (n : Int) (b : TBd) : Bool := within b.train 0 (n - 1) && within b.hundreds 1 9 && within b.edition 0 3
def Hall.houseHd (h : Hall) : Bool := within h.machs.length 1 3 && decide ((h.trains.length : Int) ≤ 4) && decide ((h.buns.length : Int) ≤ 5) && within h.change 0 9
def Hall.minOK (h : Hall) (i : Nat) : Bool := within (nth h.trains (i : Int)) 0 99
def Hall.macOK (h : Hall) (i : Nat) : Bool := (nth h.machs (i : Int)).chk
def Hall.bunOK (h : Hall) (i : Nat) : Bool := (nth h.buns (i : Int)).chk h.trains.length
def Hall.house (h : Hall) : Bool := h.houseHd && allI h.macOK h.machs.length && allI h.minOK h.trains.length && allI h.bunOK h.buns.length
def Hall.hallHd (h : Hall) : Bool := h.house && decide ((h.bores.length : Int) = h.machs.length) && decide ((h.eds.length : Int) ≤ 4)
def Hall.borOK (h : Hall) (i : Nat) : Bool := within (nth h.bores (i : Int)) 0 2
def Hall.edOK (h : Hall) (i : Nat) : Bool := rising (nth h.eds (i : Int)) 0 3
def Hall.beOK (h : Hall) (i : Nat) : Bool := decide ((nth h.buns (i : Int)).edition < h.eds.length)
def Hall.chk (h : Hall) : Bool := h.hallHd && allI h.borOK h.bores.length && allI h.edOK h.eds.length && allI h.beOK h.buns.length
def errH (b : Bool) : Int := if b then 0 else 40
def errL (b : Bool) : Int := if b then 0 else 90
theorem errH_eq {b : Bool} : errH b = 0 ↔ b = true := by cases b <;> simp [errH]
theorem errL_eq {b : Bool} : errL b = 0 ↔ b = true := by cases b <;> simp [errL]
theorem errH_ne {b : Bool} : errH b ≠ 0 ↔ b = false := by cases b <;> simp [errH]
def plc (page bore : Int) : Int := page * 3 + bore
def Plate.chk (p : Plate) : Bool := within p.page 0 3 && within p.bore 0 2 && within p.many 1 9
def setAt (l : List Plate) (i : Nat) : Bool := (nth l (i : Int)).chk && !(decide (0 < (i : Int)) && decide (plc (nth l (i : Int)).page (nth l (i : Int)).bore ≤ plc (nth l ((i : Int) - 1)).page (nth l ((i : Int) - 1)).bore))
def isSet (l : List Plate) : Bool := allI (setAt l) l.length
structure Hall.Small (h : Hall) : Prop where
  m : h.machs.length ≤ 40
  b : h.buns.length ≤ 40
  t : h.trains.length ≤ 40
  o : h.bores.length ≤ 40
  e : h.eds.length ≤ 40
  p : ∀ i : Nat,i < h.eds.length → (nth h.eds (i : Int)).length ≤ 40
structure Dom where
  p : Int → Prop
abbrev Dom.T (d : Dom) := { x : Int // d.p x }
def Dom.all : Dom := ⟨fun _ => True⟩
def idxG {α : Type} (h : α → Bool) (l : List α) : Int := (l.findIdx? h).elim (-1) fun i => (i : Int)
def missG {α : Type} [Inhabited α] (h : α → Bool) (l : List α) (j : Nat) : Bool := !h (nth l (j : Int))
def anyG {α : Type} [Inhabited α] (h : α → Bool) (l : List α) : Bool := !allI (missG h l) l.length
theorem nthG {α : Type} [Inhabited α] {l : List α} {j : Nat} (hj : j < l.length) : nth l (j : Int) = l[j] := by simp [nth,List.getD_eq_getElem?_getD,hj]
theorem idxG_at {α : Type} [Inhabited α] {h : α → Bool} {l : List α} {i : Nat} (hi : i < l.length) (ha : allI (missG h l) i = true) (hh : h (nth l (i : Int)) = true) : idxG h l = i := by
  have e : l.findIdx? h = some i := List.findIdx?_eq_some_iff_getElem.2 ⟨hi,by rw [← nthG hi]; exact hh,fun j hj => by
    have := allI_iff.1 ha j hj
    rw [missG,nthG (by omega)] at this
    simpa using this⟩
  rw [idxG,e]; rfl
theorem idxG_none {α : Type} [Inhabited α] {h : α → Bool} {l : List α} (ha : allI (missG h l) l.length = true) : idxG h l = -1 := by
  have e : l.findIdx? h = none := List.findIdx?_eq_none_iff.2 fun x hx => by
    obtain ⟨j,hj,rfl⟩ := List.mem_iff_getElem.1 hx
    have := allI_iff.1 ha j hj
    rw [missG,nthG hj] at this
    simpa using this
  rw [idxG,e]; rfl
theorem idxG_any {α : Type} [Inhabited α] (h : α → Bool) (l : List α) : decide (0 ≤ idxG h l) = anyG h l := by
  unfold anyG
  cases ha : allI (missG h l) l.length with
  | true => rw [idxG_none ha]; rfl
  | false =>
    have : ∃ i : Nat,i < l.length ∧ missG h l i = false := by
      apply Classical.byContradiction
      intro hn
      have : allI (missG h l) l.length = true := allI_iff.2 fun j hj => by
        cases e : missG h l j with
        | true => rfl
        | false => exact absurd ⟨j,hj,e⟩ hn
      rw [ha] at this; cases this
    obtain ⟨i,hi,he⟩ := this
    have hne : idxG h l ≠ -1 := by
      intro hz
      have : l.findIdx? h = none := by
        unfold idxG at hz
        cases e : l.findIdx? h with
        | none => rfl
        | some k => rw [e] at hz; simp at hz
      have h2 := List.findIdx?_eq_none_iff.1 this _ (List.getElem_mem hi)
      rw [missG,nthG hi,h2] at he; simp at he
    have hge : 0 ≤ idxG h l := by
      unfold idxG at hne ⊢
      cases e : l.findIdx? h with
      | none => rw [e] at hne; simp at hne
      | some k => simp
    simp [hge]
theorem anyG_not {α : Type} [Inhabited α] (p : α → Bool) (l : List α) : anyG (fun x => !p x) l = !allI (fun j => p (nth l (j : Int))) l.length := by
  unfold anyG
  congr 2
  funext j
  simp [missG]
theorem Plate.bnds {p : Plate} (h : p.chk = true) : 0 ≤ p.page ∧ p.page ≤ 3 ∧ 0 ≤ p.bore ∧ p.bore ≤ 2 ∧ 1 ≤ p.many ∧ p.many ≤ 9 := by
  simp only [Plate.chk,within,Bool.and_eq_true,decide_eq_true_eq] at h; omega
theorem setAt_chk {l : List Plate} {i j : Nat} (h : allI (setAt l) i = true) (hj : j < i) : (nth l (j : Int)).chk = true := by
  have := allI_iff.1 h j hj
  unfold setAt at this
  rw [Bool.and_eq_true] at this
  exact this.1
theorem hallHd_false {h : Hall} (hc : (¬ errH h.house = 0 ∨ ¬ (h.bores.length : Int) = h.machs.length) ∨ 4 < (h.eds.length : Int)) : h.hallHd = false := by
  unfold Hall.hallHd
  rcases hc with (hc | hc) | hc
  · rw [errH_ne.1 hc]; rfl
  · rw [decide_eq_false hc]; simp
  · rw [decide_eq_false (show ¬ (h.eds.length : Int) ≤ 4 by omega)]; simp
end Go.Flong
namespace Go.Eng
open Go
def Pred.fall {ι : Type} (R : ι → Pred) : Pred := ⟨fun I v => Pred.fn.h I v ∧ ∀ i,(R i).h I v,fun hI h => ⟨Pred.fn.mono hI h.1,fun i => (R i).mono hI (h.2 i)⟩⟩
theorem Pred.fall_at {ι : Type} {R : ι → Pred} {I : IH} {v : Value} (h : (Pred.fall R).h I v) (i : ι) : (R i).h I v := h.2 i
section ops
variable {cx : Cx} {S : St} {dst : Option Tmp} {ty : TypeId} {pos : String} {af : Array Edge} {gd : Option (Nat × Bool)}
theorem o_mkfve {P : Program} {f : FuncId} {l' : List Operand} {cs svs' : List SV} {Xc : List (Nat × Pred)} {ι : Type} {svs : ι → List SV} {X0 : ι → List (Nat × Pred)} {sv : ι → SV} {X : ι → List (Nat × Pred)} (k : Nat) (ρ : Nat → Nat) (hs : ∀ i,Sig P f (svs i ++ cs) (X0 i ++ Xc) (sv i) (X i)) (hen : Enters' P f) (hd : ∀ i,disj (keys Xc) (keys (X0 i)) = true)
    (hl' : S.ops l' = some svs') (hren : SvsOK S svs' (cs.map (SV.ren ρ))) (hwf : ∀ i,∀ x ∈ svs i,x.res (keys (X0 i))) (hwc : ∀ x ∈ cs,x.res (keys Xc)) (hX : RenOK S.X ρ Xc) :
    OpG cx S ⟨dst,.makeFunc (.func f) #[] l'.toArray,ty,pos,af,gd⟩ ⟨.e (.a (.q k)),[k],[(k,Pred.fall fun i => FvP P (svs i) (X0 i) (sv i) (X i))],[],[]⟩ :=
  o_mkfn (l := []) rfl hl' fun M ε I a w h => by
    refine ⟨⟨_,_,_,rfl⟩,fun i => ?_⟩
    have := FvP.mk (hs i) hen (hd i) (hwf i) hwc (I := I) (ν := fun j => ε.ν (ρ j)) (FactsOK.of (fun j R hj => h.has hj) hX)
    rw [hren.den h,svs_ren hwc]; exact this
end ops
theorem FvP.namee {P : Program} {f : FuncId} {ι : Type} {svs : ι → List SV} {X0 : ι → List (Nat × Pred)} {sv : ι → SV} {X : ι → List (Nat × Pred)} (hs : ∀ i,Sig P f (svs i) (X0 i) (sv i) (X i)) (hen : Enters' P f) (hwf : ∀ i,∀ x ∈ svs i,x.res (keys (X0 i))) (I : IH) :
    ((Pred.fall fun i => FvP P (svs i) (X0 i) (sv i) (X i)).and (Pred.is (.func (.func f) #[] #[]))).h I (.func (.func f) #[] #[]) := ⟨⟨⟨_,_,_,rfl⟩,fun i => (FvP.name (hs i) hen (hwf i) I).1⟩,rfl⟩
def ui (op : BinOp) (a b : Int) : Int := match op with
  | .add => IntKind.u64.wrap (a + b)
  | .sub => IntKind.u64.wrap (a - b)
  | .mul => IntKind.u64.wrap (a * b)
  | .and => IntKind.u64.wrap (BitVec.ofInt 64 a &&& BitVec.ofInt 64 b).toNat
  | .or => IntKind.u64.wrap (BitVec.ofInt 64 a ||| BitVec.ofInt 64 b).toNat
  | .xor => IntKind.u64.wrap (BitVec.ofInt 64 a ^^^ BitVec.ofInt 64 b).toNat
  | .andNot => IntKind.u64.wrap (BitVec.ofInt 64 a &&& ~~~BitVec.ofInt 64 b).toNat
  | .shl => IntKind.u64.wrap (a * 2 ^ (min b.toNat 64))
  | .shr => a.fdiv (2 ^ (min b.toNat 64))
  | _ => 0
section ops
variable {cx : Cx} {S : St} {dst : Option Tmp} {ty : TypeId} {pos : String} {af : Array Edge} {gd : Option (Nat × Bool)}
theorem o_ua {op : BinOp} {x y : Operand} {t t' : TypeId} {a b : Int} (hx : S.op x = some (.e (.a (.v (.int .u64 a))))) (hy : S.op y = some (.e (.a (.v (.int .u64 b))))) (ho : op = .add ∨ op = .sub ∨ op = .mul ∨ op = .and ∨ op = .or ∨ op = .xor ∨ op = .andNot) :
    OpG cx S ⟨dst,.binOp op t x y t',ty,pos,af,gd⟩ (.val (.e (.a (.v (.int .u64 (ui op a b)))))) :=
  o_binv hx hy fun w => by rcases ho with rfl | rfl | rfl | rfl | rfl | rfl | rfl <;> rfl
theorem o_ush {op : BinOp} {x y : Operand} {t t' : TypeId} {k : IntKind} {a b : Int} (hx : S.op x = some (.e (.a (.v (.int .u64 a))))) (hy : S.op y = some (.e (.a (.v (.int k b))))) (hb : 0 ≤ b) (ho : op = .shl ∨ op = .shr) :
    OpG cx S ⟨dst,.binOp op t x y t',ty,pos,af,gd⟩ (.val (.e (.a (.v (.int .u64 (ui op a b)))))) :=
  o_binv hx hy fun w => by
    have h : ¬ b < 0 := by omega
    rcases ho with rfl | rfl
    · show (do eqGuard BinOp.shl t x y _ _; Op.shift .shl .u64 a k b : Sem Value).run cx.P w = _
      unfold Op.shift
      rw [if_neg h]; rfl
    · show (do eqGuard BinOp.shr t x y _ _; Op.shift .shr .u64 a k b : Sem Value).run cx.P w = _
      unfold Op.shift
      rw [if_neg h]; rfl
theorem o_ueq {x y : Operand} {t t' : TypeId} {a b : Int} (hx : S.op x = some (.e (.a (.v (.int .u64 a))))) (hy : S.op y = some (.e (.a (.v (.int .u64 b))))) :
    OpG cx S ⟨dst,.binOp .eql t x y t',ty,pos,af,gd⟩ (.val (.e (.a (.v (.bool (decide (a = b))))))) :=
  o_binv hx hy fun w => rfl
end ops
end Go.Eng
namespace Go.Eng
open Go
section
variable {cx : Cx} {S : St} {dst : Option Tmp} {ty : TypeId} {pos : String} {af : Array Edge} {gd : Option (Nat × Bool)}
end
end Go.Eng
namespace Go.Eng
open Go
section
variable {cx : Cx} {n : Nat} {fr : List (Nat × SV)} {X : List (Nat × Pred)} {L : List (Nat × Ent)} {D : List Nat} {G : List (Nat × Bool)}
theorem Imp.cells (kb : Nat) {cs cs' : List At} {T : TypeId} (hb : look kb L = some (.blk cs T)) (hden : ∀ ε : Env,cs.map (At.den ε) = cs'.map (At.den ε)) (hon : ∀ M : Nat → Prop,(∀ c ∈ cs,c.on M) → ∀ c ∈ cs',c.on M) : Imp cx ⟨n,fr,X,L,D,G⟩ ⟨n,fr,X,(kb,.blk cs' T) :: L,D,G⟩ := fun ε I a w hs => by
  have hlk : ∀ i e,look i ((kb,Ent.blk cs' T) :: L) = some e → (i = kb ∧ e = .blk cs' T) ∨ look i L = some e := by
    intro i e he
    rw [look_cons] at he
    by_cases hi : kb = i
    · subst hi; simp at he; exact .inl ⟨rfl,he.symm⟩
    · simp [hi] at he; exact .inr he
  have hft : ∀ i e,look i ((kb,Ent.blk cs' T) :: L) = some e → ∃ e',look i L = some e' ∧ ∀ b,e.foot ε i b → e'.foot ε i b := fun i e he => by
    rcases hlk i e he with ⟨rfl,rfl⟩ | he
    · exact ⟨_,hb,fun b h => h⟩
    · exact ⟨_,he,fun b h => h⟩
  refine ⟨ε,I,{ hs with wfL := fun i e he => ?_,L := fun i e he => ?_,foot := fun i e he b hfb => ?_,sep := fun i i' e e' b he he' hne h1 h2 => ?_,ext := fun i x hx => ?_ }⟩
  · rcases hlk i e he with ⟨rfl,rfl⟩ | he
    · exact ⟨(hs.wfL i _ hb).1,hon _ (hs.wfL i _ hb).2⟩
    · exact hs.wfL i e he
  · rcases hlk i e he with ⟨rfl,rfl⟩ | he
    · have := hs.L i _ hb
      simp only [Ent.ok] at this ⊢
      rw [this,hden]
    · exact hs.L i e he
  · obtain ⟨e',h1,h2⟩ := hft i e he; exact hs.foot i e' h1 b (h2 b hfb)
  · obtain ⟨e1,h3,h4⟩ := hft i e he
    obtain ⟨e2,h5,h6⟩ := hft i' e' he'
    exact hs.sep i i' e1 e2 b h3 h5 hne (h4 b h1) (h6 b h2)
  · rcases hlk i _ hx with ⟨_,h⟩ | h
    · cases h
    · exact hs.ext i x h
theorem Imp.cellf (kb : Nat) {f : FuncId} {T : TypeId} (hb : look kb L = some (.blk [.f f []] T)) : Imp cx ⟨n,fr,X,L,D,G⟩ ⟨n,fr,X,(kb,.blk [.v (.func (.func f) #[] #[])] T) :: L,D,G⟩ :=
  Imp.cells kb hb (fun _ => rfl) fun _ _ c hc => by rw [List.mem_singleton] at hc; subst hc; trivial
end
end Go.Eng
namespace Go.Eng
open Go
theorem OpG.newqs {cx : Cx} {S : St} {o : Oper} {X' : List (Nat × Pred)} {sv : SV} (hnd : ∀ c,o.op ≠ .defer c) (hres : sv.res (keys X'))
    (h : ∀ M ε I a w,SatM cx M ε I S a w → ∃ us : Nat → Value,(∀ j R,look j X' = some R → R.h I (us j)) ∧ (execOp a.eval o).run cx.P w = .ok (.value (sv.den (envU us))) w) : OpG cx S o ⟨sv,keys X',X',[],[]⟩ := by
  intro M ε I a w next Q hs hN K
  obtain ⟨us,h1,h2⟩ := h M ε I a w hs
  refine ⟨fun _ _ => trivial,?_⟩
  rw [semAt_eq _ _ _ hnd,h2]
  let ε' : Env := ⟨ε.β,fun j => if j ∈ keys X' then us j else ε.ν j,ε.γ⟩
  have hν : ∀ i,i ∈ keys X' → ε'.ν i = us i := fun i hi => if_pos hi
  have hsv : sv.den (envU us) = sv.den ε' := SV.den_res (ε := ε') (ε' := envU us) (fun j hj => (hν j hj).symm) hres
  show next (a.put o.dst _) w
  rw [hsv]
  exact K ε' I w ⟨fun i hi => ⟨rfl,by show (if i ∈ keys X' then us i else ε.ν i) = _; rw [if_neg hi],rfl⟩,IH.le.rfl',hs.imm,rfl,rfl,Out.rf,Nat.le_refl _,fun _ _ _ => rfl,fun _ _ h => .inl h⟩
    ⟨SV.on_res (J := keys X') (fun j hj => .inr hj) hres,fun j R hj => .inr (look_keys hj),fun _ _ h => (by cases h),fun _ _ h => (by cases h),fun j R hj => by rw [hν j (look_keys hj)]; exact h1 j R hj,fun _ _ h => (by cases h),fun _ _ h => (by cases h),fun _ _ _ _ _ h => (by cases h),fun _ _ h => (by cases h)⟩
def outC {α : Type} (x : α) : List (Fd α) → Nat → List At
  | [],_ => []
  | .i f :: fs,k => ai (f x) :: outC x fs k
  | .s _ _ :: fs,k => .q k :: outC x fs (k + 1)
  | .v f _ :: fs,k => .v (f x) :: outC x fs k
def outX {α : Type} (x : α) : List (Fd α) → Nat → List (Nat × Pred)
  | [],_ => []
  | .i _ :: fs,k => outX x fs k
  | .s E f :: fs,k => (k,PL E (f x)) :: outX x fs (k + 1)
  | .v _ _ :: fs,k => outX x fs k
theorem out_ok {α : Type} {I : IH} {x : α} : ∀ {fs : List (Fd α)} {cs : List Value} (k : Nat),FdAll I x cs fs → ∃ us : Nat → Value,(∀ j R,look j (outX x fs k) = some R → R.h I (us j)) ∧ (outC x fs k).map (At.den (envU us)) = cs
  | [],[],k,_ => ⟨fun _ => undef,fun _ _ h => (by cases h),rfl⟩
  | .i f :: fs,c :: cs,k,h => by
    obtain ⟨us,h1,h2⟩ := out_ok k h.2
    exact ⟨us,h1,by simp only [outC,List.map_cons,h2]; rw [show c = _ from h.1]; rfl⟩
  | .v f hv :: fs,c :: cs,k,h => by
    obtain ⟨us,h1,h2⟩ := out_ok k h.2
    exact ⟨us,h1,by simp only [outC,List.map_cons,h2]; rw [show c = _ from h.1]; rfl⟩
  | .s E f :: fs,c :: cs,k,h => by
    obtain ⟨us,h1,h2⟩ := out_ok (k + 1) h.2
    refine ⟨fun j => if j = k then c else us j,fun j R hj => ?_,?_⟩
    · simp only [outX] at hj
      rw [look_cons] at hj
      by_cases e : k = j
      · subst e
        simp at hj
        subst hj
        simp only [if_true]
        exact h.1
      · rw [if_neg e] at hj
        simp only [if_neg (fun e' => e (Eq.symm e'))]
        exact h1 j R hj
    · simp only [outC,List.map_cons]
      congr 1
      · simp [At.den,envU]
      · rw [← h2]
        refine List.map_congr_left fun c' hc' => ?_
        have : ∀ {fs : List (Fd α)} {k' : Nat} {c' : At},k < k' → c' ∈ outC x fs k' → c'.den (envU fun j => if j = k then c else us j) = c'.den (envU us) := by
          intro fs
          induction fs with
          | nil => intro k' c' _ h; cases h
          | cons f fs ih =>
            intro k' c' hk h
            cases f with
            | i g =>
              simp only [outC,List.mem_cons] at h
              rcases h with rfl | h
              · rfl
              · exact ih hk h
            | v g _ =>
              simp only [outC,List.mem_cons] at h
              rcases h with rfl | h
              · rfl
              · exact ih hk h
            | s E g =>
              simp only [outC,List.mem_cons] at h
              rcases h with rfl | h
              · have : k' ≠ k := by omega
                simp [At.den,envU,this]
              · exact ih (Nat.lt_succ_of_lt hk) h
        exact this (Nat.lt_succ_self k) hc'
theorem outC_res {α : Type} {x : α} : ∀ {fs : List (Fd α)} {k : Nat} {c : At},c ∈ outC x fs k → c.res (keys (outX x fs k))
  | .i f :: fs,k,c,h => by
    simp only [outC,List.mem_cons] at h
    rcases h with rfl | h
    · trivial
    · exact outC_res (fs := fs) h
  | .v f _ :: fs,k,c,h => by
    simp only [outC,List.mem_cons] at h
    rcases h with rfl | h
    · trivial
    · exact outC_res (fs := fs) h
  | .s E f :: fs,k,c,h => by
    simp only [outC,List.mem_cons] at h
    simp only [outX,keys,List.map_cons]
    rcases h with rfl | h
    · exact List.mem_cons_self
    · have := outC_res (fs := fs) h
      cases c with
      | v _ => trivial
      | q j => exact List.mem_cons_of_mem _ this
      | _ => exact this.elim
section
variable {cx : Cx} {S : St} {dst : Option Tmp} {ty : TypeId} {pos : String} {af : Array Edge} {gd : Option (Nat × Bool)}
theorem o_ldem {x : Operand} {T : TypeId} {j o m : Nat} {α : Type} {fs : List (Fd α)} {y : α} {cs0 : List At} {X' : List (Nat × Pred)} (k : Nat) (hT : TyG cx.P T m) (hx : S.op x = some (.e (.a (.e j o)))) (hj : Has S.X j (PP (EP.str fs) y)) (hm : ((fs.drop o).take m).length = m) (has : cs0 = outC y ((fs.drop o).take m) k) (hX : X' = outX y ((fs.drop o).take m) k) :
    OpG cx S ⟨dst,.load T x,ty,pos,af,gd⟩ ⟨.e (.g cs0),keys X',X',[],[]⟩ := by
  subst has hX
  refine OpG.newqs (fun _ => by simp) (fun c hc => outC_res hc) fun M ε I a w hs => ?_
  have h := hs.eval hx
  obtain ⟨ad,cs,h1,h2,h3,h4⟩ := PP.cell (hs.has hj) hs.imm
  simp only [SV.den,El.den,At.den,h1,padd] at h
  have h5 := FdAll.sub (o := o) (m := m) h3
  obtain ⟨us,h6,h7⟩ := out_ok k h5
  refine ⟨us,h6,?_⟩
  have hl : ((cs.drop o).take m).length = m := by rw [FdAll.len h5]; exact hm
  have := run_loadg hT (w := w) (a := ad.add o) (cs := (cs.drop o).take m) hl (fun i v hi => by
    rw [Addr.add_add h2]
    refine h4 _ v ?_
    rw [List.getElem?_take] at hi
    split at hi
    · rw [List.getElem?_drop] at hi; exact hi
    · cases hi)
  simp [execOp,h,this,SV.den,El.den,h7]
theorem o_ldqm {x : Operand} {T : TypeId} {j m : Nat} {α : Type} {fs : List (Fd α)} {y : α} {cs0 : List At} {X' : List (Nat × Pred)} (k : Nat) (hT : TyG cx.P T m) (hx : S.op x = some (.e (.a (.q j)))) (hj : Has S.X j (PP (EP.str fs) y)) (hm : (fs.take m).length = m) (has : cs0 = outC y (fs.take m) k) (hX : X' = outX y (fs.take m) k) :
    OpG cx S ⟨dst,.load T x,ty,pos,af,gd⟩ ⟨.e (.g cs0),keys X',X',[],[]⟩ := by
  subst has hX
  refine OpG.newqs (fun _ => by simp) (fun c hc => outC_res hc) fun M ε I a w hs => ?_
  have h := hs.eval hx
  obtain ⟨ad,cs,h1,h2,h3,h4⟩ := PP.cell (hs.has hj) hs.imm
  simp only [SV.den,El.den,At.den,h1] at h
  have h5 : FdAll I y (cs.take m) (fs.take m) := by have := FdAll.sub (o := 0) (m := m) h3; simpa only [List.drop_zero] using this
  obtain ⟨us,h6,h7⟩ := out_ok k h5
  refine ⟨us,h6,?_⟩
  have hl : (cs.take m).length = m := by rw [FdAll.len h5]; exact hm
  have := run_loadg hT (w := w) (a := ad) (cs := cs.take m) hl (fun i v hi => by
    refine h4 _ v ?_
    rw [List.getElem?_take] at hi
    split at hi
    · exact hi
    · cases hi)
  simp [execOp,h,this,SV.den,El.den,h7]
end
end Go.Eng
namespace Go.Eng
open Go
def IsArrG (P : Program) (T e : TypeId) (n sz : Nat) : Prop := P.underlying T = some (.array n e) ∧ (∀ w,(sizeOf e).run P w = .ok sz w)
section
variable {cx : Cx} {S : St} {dst : Option Tmp} {ty : TypeId} {pos : String} {af : Array Edge} {gd : Option (Nat × Bool)}
theorem o_idxpr {x y : Operand} {T e : TypeId} {k n sz : Nat} {i : Int} (hT : IsArrG cx.P T e n sz) (hx : S.op x = some (.e (.a (.p k 0)))) (hi : S.op y = some (.i i)) (h0 : 0 ≤ i) (h1 : i < n) :
    OpG cx S ⟨dst,.indexAddr T x y,ty,pos,af,gd⟩ (.val (.e (.a (.p k (i.toNat * sz))))) :=
  OpG.pure (fun _ => by simp) fun M ε I a w hs => ⟨hs.on (sv := .e (.a (.p k 0))) hx,by
    have h := hs.eval hx
    have h' := hs.eval hi
    obtain ⟨h2,h3⟩ := hT
    simp only [SV.den,El.den,At.den] at h h'
    simp [execOp,h,h',Instr.indexAt,asIntOf,run_underlying h2,h0,h1,h3,Instr.sureAddr,Addr.add_plain,SV.den,El.den,At.den]⟩
theorem o_idxpc {x y : Operand} {T e : TypeId} {k n o : Nat} {i : Int} (r : Int) (hT : IsArr cx.P T e n) (hx : S.op x = some (.e (.a (.p k o)))) (hi : S.op y = some (.i i)) (h0 : 0 ≤ i) (h1 : i < n) (ho : o + i.toNat = r.toNat) :
    OpG cx S ⟨dst,.indexAddr T x y,ty,pos,af,gd⟩ (.val (.e (.a (.p k r.toNat)))) :=
  OpG.pure (fun _ => by simp) fun M ε I a w hs => ⟨hs.on (sv := .e (.a (.p k o))) hx,by
    have h := hs.eval hx
    have h' := hs.eval hi
    obtain ⟨h2,h3⟩ := hT
    simp only [SV.den,El.den,At.den] at h h'
    rw [← ho]
    simp [execOp,h,h',Instr.indexAt,asIntOf,run_underlying h2,h0,h1,h3,Instr.sureAddr,Addr.add_plain,SV.den,El.den,At.den]⟩
theorem o_idxqr {x y : Operand} {T e : TypeId} {j n sz : Nat} {i : Int} {α : Type} {E : EP α} {z : α} (hT : IsArrG cx.P T e n sz) (hx : S.op x = some (.e (.a (.q j)))) (hj : Has S.X j (PP E z)) (hi : S.op y = some (.i i)) (h0 : 0 ≤ i) (h1 : i < n) :
    OpG cx S ⟨dst,.indexAddr T x y,ty,pos,af,gd⟩ (.val (.e (.a (.e j (i.toNat * sz))))) :=
  OpG.pure (fun _ => by simp) fun M ε I a w hs => ⟨hs.on (sv := .e (.a (.q j))) hx,by
    have h := hs.eval hx
    have h' := hs.eval hi
    obtain ⟨ad,h4,h5⟩ := PP.base (hs.has hj)
    obtain ⟨h2,h3⟩ := hT
    simp only [SV.den,El.den,At.den,h4] at h
    simp only [SV.den,El.den,At.den] at h'
    simp [execOp,h,h',Instr.indexAt,asIntOf,run_underlying h2,h0,h1,h3,Instr.sureAddr,SV.den,El.den,At.den,h4,padd]⟩
end
end Go.Eng
namespace Go.Flong
open Go Go.Eng
def cmpI (a b : Int) : Int := if a < b then -1 else if b < a then 1 else 0
def cmpL : List Int → List Int → Int
  | [],[] => 0
  | [],_ :: _ => -1
  | _ :: _,[] => 1
  | x :: a,y :: b => if cmpI x y = 0 then cmpL a b else cmpI x y
theorem cmpI_eq {a b : Int} : cmpI a b = 0 ↔ a = b := by unfold cmpI; split; omega; split <;> omega
theorem nthSc {α : Type} [Inhabited α] {b : α} {t : List α} {j : Nat} : nth (b :: t) ((j + 1 : Nat) : Int) = nth t (j : Int) := by
  have e : ((j + 1 : Nat) : Int).toNat = j + 1 := by omega
  have e2 : ((j : Nat) : Int).toNat = j := by omega
  simp only [nth,e,e2,List.getD_cons_succ]
theorem cmpL_drop : ∀ {i : Nat} {a b : List Int},allI (sameAt a b) i = true → i ≤ a.length → i ≤ b.length → cmpL a b = cmpL (a.drop i) (b.drop i)
  | 0,_,_,_,_,_ => by simp
  | i + 1,[],_,_,h,_ => by simp at h
  | i + 1,_ :: _,[],_,_,h => by simp at h
  | i + 1,x :: a,y :: b,h,h1,h2 => by
    have h0 := allI_iff.1 h 0 (by omega)
    have e : x = y := by simpa [sameAt,nth] using h0
    have := cmpL_drop (i := i) (a := a) (b := b) (allI_iff.2 fun j hj => by
      have := allI_iff.1 h (j + 1) (by omega)
      simpa only [sameAt,nthSc] using this) (by simpa using h1) (by simpa using h2)
    simp only [cmpL,if_pos (cmpI_eq.2 e),List.drop_succ_cons,this]
theorem drop_at {l : List Int} {i : Nat} (h : i < l.length) : l.drop i = nth l i :: l.drop (i + 1) := by
  rw [nthN h]; exact List.drop_eq_getElem_cons h
theorem cmpL_at {i : Nat} {a b : List Int} (h : allI (sameAt a b) i = true) (h1 : i < a.length) (h2 : i < b.length) (hne : cmpI (nth a i) (nth b i) ≠ 0) : cmpL a b = cmpI (nth a i) (nth b i) := by
  rw [cmpL_drop h (by omega) (by omega),drop_at h1,drop_at h2]
  simp only [cmpL,if_neg hne]
theorem cmpL_long {i : Nat} {a b : List Int} (h : allI (sameAt a b) i = true) (h1 : i < a.length) (h2 : i = b.length) : cmpL a b = 1 := by
  rw [cmpL_drop h (by omega) (by omega),drop_at h1,List.drop_of_length_le (show b.length ≤ i by omega)]; rfl
theorem cmpL_short {i : Nat} {a b : List Int} (h : allI (sameAt a b) i = true) (h1 : i = a.length) (h2 : i < b.length) : cmpL a b = -1 := by
  rw [cmpL_drop h (by omega) (by omega),drop_at h2,List.drop_of_length_le (show a.length ≤ i by omega)]; rfl
theorem cmpL_same {i : Nat} {a b : List Int} (h : allI (sameAt a b) i = true) (h1 : i = a.length) (h2 : i = b.length) : cmpL a b = 0 := by
  rw [cmpL_drop h (by omega) (by omega),List.drop_of_length_le (show b.length ≤ i by omega),List.drop_of_length_le (show a.length ≤ i by omega)]; rfl
theorem cmpI_refl (a : Int) : cmpI a a = 0 := cmpI_eq.2 rfl
theorem cmpI_lt {a b : Int} : cmpI a b < 0 ↔ a < b := by unfold cmpI; split; omega; split <;> omega
theorem cmpL_refl : ∀ a : List Int,cmpL a a = 0
  | [] => rfl
  | x :: a => by rw [cmpL,if_pos (cmpI_refl x),cmpL_refl a]
theorem cmpL_trans : ∀ {a b c : List Int},cmpL a b < 0 → cmpL b c ≤ 0 → cmpL a c < 0
  | [],[],_,h,_ => by simp [cmpL] at h
  | [],_ :: _,[],_,h => by simp [cmpL] at h
  | [],_ :: _,_ :: _,_,_ => by simp [cmpL]
  | _ :: _,[],_,h,_ => by simp [cmpL] at h
  | _ :: _,_ :: _,[],_,h => by simp [cmpL] at h
  | x :: a,y :: b,z :: c,h1,h2 => by
    simp only [cmpL] at h1 h2 ⊢
    by_cases e1 : cmpI x y = 0
    · rw [if_pos e1] at h1
      have e := cmpI_eq.1 e1
      subst e
      by_cases e2 : cmpI x z = 0
      · rw [if_pos e2] at h2 ⊢; exact cmpL_trans h1 h2
      · rw [if_neg e2] at h2 ⊢; omega
    · rw [if_neg e1] at h1
      have l1 := cmpI_lt.1 h1
      by_cases e2 : cmpI y z = 0
      · have e := cmpI_eq.1 e2
        subst e
        rw [if_neg e1]; exact h1
      · rw [if_neg e2] at h2
        have l2 := cmpI_lt.1 (show cmpI y z < 0 by omega)
        have l3 := cmpI_lt.2 (show x < z by omega)
        rw [if_neg (by omega)]; exact l3
theorem cmpL_flip : ∀ {a b : List Int},¬ cmpL a b < 0 → cmpL b a ≤ 0
  | [],[],_ => by simp [cmpL]
  | [],_ :: _,h => by simp [cmpL] at h
  | _ :: _,[],_ => by simp [cmpL]
  | x :: a,y :: b,h => by
    simp only [cmpL] at h ⊢
    by_cases e1 : cmpI x y = 0
    · rw [if_pos e1] at h
      have e := cmpI_eq.1 e1
      subst e
      rw [if_pos (cmpI_refl x)]; exact cmpL_flip h
    · rw [if_neg e1] at h
      have : ¬ x < y := fun g => h (cmpI_lt.2 g)
      have hne : x ≠ y := fun g => e1 (cmpI_eq.2 g)
      have l := cmpI_lt.2 (show y < x by omega)
      rw [if_neg (by omega)]; omega
end Go.Flong
namespace Go.Flong
open Go Go.Eng
def orL : List Int → Int
  | [] => 0
  | x :: t => if x ≠ 0 then x else orL t
theorem orL_at : ∀ {l : List Int} {i : Nat},i < l.length → allI (fun j => decide (nth l (j : Int) = 0)) i = true → nth l (i : Int) ≠ 0 → orL l = nth l (i : Int)
  | x :: t,0,_,_,h => by
    have h : x ≠ 0 := h
    show (if x ≠ 0 then x else orL t) = x
    rw [if_pos h]
  | x :: t,i + 1,hi,ha,h => by
    have h0 := allI_iff.1 ha 0 (by omega)
    have e : x = 0 := by simpa [nth] using h0
    rw [nthSc] at h ⊢
    rw [orL,if_neg (by simp [e])]
    exact orL_at (by simpa using hi) (allI_iff.2 fun j hj => by have := allI_iff.1 ha (j + 1) (by omega); rwa [nthSc] at this) h
theorem orL_none : ∀ {l : List Int},allI (fun j => decide (nth l (j : Int) = 0)) l.length = true → orL l = 0
  | [],_ => rfl
  | x :: t,ha => by
    have h0 := allI_iff.1 ha 0 (by simp)
    have e : x = 0 := by simpa [nth] using h0
    rw [orL,if_neg (by simp [e])]
    exact orL_none (allI_iff.2 fun j hj => by have := allI_iff.1 ha (j + 1) (by simpa using hj); rwa [nthSc] at this)
theorem set_or {l : List Plate} {i : Nat} (h : allI (setAt l) i = true) (hp : (nth l (i : Int)).chk = true) (h0 : 0 < (i : Int)) :
    0 ≤ orL [cmpI (nth l ((i : Int) - 1)).page (nth l (i : Int)).page,cmpI (nth l ((i : Int) - 1)).bore (nth l (i : Int)).bore] ↔ plc (nth l (i : Int)).page (nth l (i : Int)).bore ≤ plc (nth l ((i : Int) - 1)).page (nth l ((i : Int) - 1)).bore := by
  have h1 := setAt_chk h (show i - 1 < i by omega)
  rw [show ((i - 1 : Nat) : Int) = (i : Int) - 1 by omega] at h1
  have b1 := Plate.bnds h1
  have b2 := Plate.bnds hp
  unfold orL orL orL cmpI plc
  split <;> split <;> (try split) <;> (try split) <;> omega
theorem anyT (h : Hall) : anyG (fun n => !within n 0 99) h.trains = !allI h.minOK h.trains.length := anyG_not _ _
theorem anyM (h : Hall) : anyG (fun m => !m.chk) h.machs = !allI h.macOK h.machs.length := anyG_not TM.chk _
theorem anyB (h : Hall) : anyG (fun b => !b.chk h.trains.length) h.buns = !allI h.bunOK h.buns.length := anyG_not (TBd.chk h.trains.length) _
theorem anyO (h : Hall) : anyG (fun n => !within n 0 2) h.bores = !allI h.borOK h.bores.length := anyG_not _ _
theorem anyE (h : Hall) : anyG (fun b => decide ((h.eds.length : Int) ≤ b.edition)) h.buns = !allI h.beOK h.buns.length := by
  rw [show (fun b : TBd => decide ((h.eds.length : Int) ≤ b.edition)) = fun (b : TBd) => !decide (b.edition < (h.eds.length : Int)) from funext fun (b : TBd) => by
    by_cases g : b.edition < h.eds.length
    · rw [decide_eq_true g,decide_eq_false (by omega)]; rfl
    · rw [decide_eq_false g,decide_eq_true (by omega)]; rfl]
  exact anyG_not (fun b : TBd => decide (b.edition < (h.eds.length : Int))) _
theorem house_false {h : Hall} (hc : (((within h.machs.length 1 3 = false ∨ 5 < (h.buns.length : Int)) ∨ 4 < (h.trains.length : Int)) ∨ within h.change 0 9 = false) ∨ anyG (fun n => !within n 0 99) h.trains = true) : h.house = false := by
  unfold Hall.house
  rcases hc with hc | hc
  · rw [show h.houseHd = false from by simp [Hall.houseHd,within] at hc ⊢; omega]; rfl
  · rw [anyT,Bool.not_eq_true'] at hc
    rw [hc]; simp
theorem house_false2 {h : Hall} (hc : anyG (fun m => !m.chk) h.machs = true ∨ anyG (fun b => !b.chk h.trains.length) h.buns = true) : h.house = false := by
  unfold Hall.house
  rcases hc with hc | hc
  · rw [anyM,Bool.not_eq_true'] at hc; rw [hc]; simp
  · rw [anyB,Bool.not_eq_true'] at hc; rw [hc]; simp
theorem house_true {h : Hall} (hc : (((within h.machs.length 1 3 = true ∧ ¬ 5 < (h.buns.length : Int)) ∧ ¬ 4 < (h.trains.length : Int)) ∧ within h.change 0 9 = true) ∧ anyG (fun n => !within n 0 99) h.trains = false) (hd : anyG (fun m => !m.chk) h.machs = false ∧ anyG (fun b => !b.chk h.trains.length) h.buns = false) : h.house = true := by
  have a1 := hc.2
  rw [anyT,Bool.not_eq_false'] at a1
  have a2 := hd.1
  rw [anyM,Bool.not_eq_false'] at a2
  have a3 := hd.2
  rw [anyB,Bool.not_eq_false'] at a3
  unfold Hall.house
  rw [a1,a2,a3,show h.houseHd = true from by simp [Hall.houseHd,within] at hc ⊢; omega]; rfl
theorem hallHd_true {h : Hall} (hc : (errH h.house = 0 ∧ (h.bores.length : Int) = h.machs.length) ∧ ¬ 4 < (h.eds.length : Int)) : h.hallHd = true := by
  unfold Hall.hallHd
  rw [errH_eq.1 hc.1.1,decide_eq_true hc.1.2,decide_eq_true (show (h.eds.length : Int) ≤ 4 by omega)]; rfl
theorem Hall.machs3 {h : Hall} (hh : h.house = true) : 1 ≤ h.machs.length ∧ h.machs.length ≤ 3 ∧ h.buns.length ≤ 5 ∧ h.trains.length ≤ 4 := by
  simp only [Hall.house,Hall.houseHd,within,Bool.and_eq_true,decide_eq_true_eq] at hh; omega
structure HallB (h : Hall) : Prop where
  m : 1 ≤ h.machs.length ∧ h.machs.length ≤ 3
  o : h.bores.length = h.machs.length
  e : h.eds.length ≤ 4
  b : ∀ i : Nat,i < h.bores.length → 0 ≤ nth h.bores (i : Int) ∧ nth h.bores (i : Int) ≤ 2
  p : ∀ i : Nat,i < h.eds.length → (∀ j : Nat,j < (nth h.eds (i : Int)).length → 0 ≤ nth (nth h.eds (i : Int)) (j : Int) ∧ nth (nth h.eds (i : Int)) (j : Int) < 4)
theorem hallB {h : Hall} (hc : h.chk = true) : HallB h := by
  simp only [Hall.chk,Bool.and_eq_true] at hc
  obtain ⟨⟨⟨h1,h2⟩,h3⟩,h4⟩ := hc
  have h5 := h1
  simp only [Hall.hallHd,Bool.and_eq_true,decide_eq_true_eq] at h5
  have h6 := Hall.machs3 h5.1.1
  refine ⟨by omega,by omega,by omega,fun i hi => ?_,fun i hi j hj => ?_⟩
  · have := allI_iff.1 h2 i hi
    simp only [Hall.borOK,within,Bool.and_eq_true,decide_eq_true_eq] at this; omega
  · have := allI_iff.1 h3 i hi
    unfold Hall.edOK rising at this
    have := allI_iff.1 this j hj
    simp only [risingAt,within,Bool.and_eq_true,decide_eq_true_eq] at this; omega
def shelfTo (l : List Plate) : Nat → List Int
  | 0 => [0,0,0,0,0,0,0,0,0,0,0,0]
  | i + 1 => lset (shelfTo l i) ((nth l (i : Int)).page * 3 + (nth l (i : Int)).bore) (nth l (i : Int)).many
def shelf (l : List Plate) : List Int := shelfTo l l.length
theorem shelfTo_len (l : List Plate) : ∀ i,(shelfTo l i).length = 12
  | 0 => rfl
  | i + 1 => by rw [shelfTo,lset_len,shelfTo_len l i]
theorem isSetB {l : List Plate} (h : isSet l = true) {i : Nat} (hi : i < l.length) : 0 ≤ (nth l (i : Int)).page ∧ (nth l (i : Int)).page ≤ 3 ∧ 0 ≤ (nth l (i : Int)).bore ∧ (nth l (i : Int)).bore ≤ 2 ∧ 1 ≤ (nth l (i : Int)).many ∧ (nth l (i : Int)).many ≤ 9 := Plate.bnds (setAt_chk h hi)
end Go.Flong
namespace Go.Eng
open Go
section
variable {cx : Cx} {S : St} {dst : Option Tmp} {ty : TypeId} {pos : String} {af : Array Edge} {gd : Option (Nat × Bool)}
theorem o_iand {x y : Operand} {t t' : TypeId} {a b r : Int} (hx : S.op x = some (.i a)) (hy : S.op y = some (.i b)) (hr : IntKind.i64.wrap (BitVec.ofInt 64 a &&& BitVec.ofInt 64 b).toNat = r) :
    OpG cx S ⟨dst,.binOp .and t x y t',ty,pos,af,gd⟩ (.val (.i r)) :=
  o_binv (a := .int .i64 a) (b := .int .i64 b) hx hy fun w => by rw [← hr]; rfl
end
end Go.Eng
namespace Go.Eng
open Go
def midx : MapL → List Int → Nat
  | [],_ => 0
  | (k,_) :: t,k' => if k = k' then 0 else midx t k' + 1
theorem mset_same : ∀ {l : MapL} {k : List Int} {v : Int},mget l k = some v → mset l k v = l
  | (k,u) :: t,k',v,h => by
    simp only [mget,mset] at *
    by_cases e : k = k'
    · simp [e] at h ⊢; exact h.symm
    · simp [e] at h ⊢; exact mset_same h
theorem mset_new : ∀ {l : MapL} {k : List Int} {v : Int},mget l k = none → mset l k v = l ++ [(k,v)]
  | [],_,_,_ => rfl
  | (k,u) :: t,k',v,h => by
    simp only [mget,mset] at *
    by_cases e : k = k'
    · simp [e] at h
    · simp [e] at h ⊢; exact mset_new h
theorem midx_new : ∀ {l : MapL} {k : List Int},mget l k = none → midx l k = l.length
  | [],_,_ => rfl
  | (k,u) :: t,k',h => by
    simp only [mget,midx] at *
    by_cases e : k = k'
    · simp [e] at h
    · simp [e] at h ⊢; exact midx_new h
theorem midx_at : ∀ {l : MapL} {k : List Int} {v : Int},mget l k = some v → l[midx l k]? = some (k,v)
  | (k,u) :: t,k',v,h => by
    simp only [mget,midx] at *
    by_cases e : k = k'
    · simp [e] at h ⊢; exact h
    · simp [e] at h ⊢; exact midx_at h
theorem mset_at (l : MapL) (k : List Int) (v : Int) : (mset l k v)[midx l k]? = some (k,v) := by
  induction l with
  | nil => simp [mset,midx]
  | cons p t ih =>
    obtain ⟨i,u⟩ := p
    simp only [mset,midx]
    by_cases e : i = k
    · simp [e]
    · simp [e,ih]
theorem mset_modify (l : MapL) (k : List Int) (y x : Int) : (mset l k y).modify (midx l k) (fun p => (p.1,x)) = mset l k x := by
  induction l with
  | nil => simp [mset,midx]
  | cons p t ih =>
    obtain ⟨i,u⟩ := p
    simp only [mset,midx]
    by_cases e : i = k
    · simp [e]
    · simp [e,ih]
theorem kv_modify (u : Value) : ∀ (es : List MapEntry) (m : Nat),(es.modify m fun e => { e with val := u }).map (fun e => (e.key,e.val)) = (es.map (fun e => (e.key,e.val))).modify m (fun p => (p.1,u))
  | [],m => by simp
  | e :: t,0 => by simp
  | e :: t,m + 1 => by simp [kv_modify u t m]
theorem vl_modify (ag : Bool) (x : Int) : ∀ (l : MapL) (m : Nat),(l.map (fun p => (vl ag p.1,Value.int .i64 p.2))).modify m (fun p => (p.1,.int .i64 x)) = (l.modify m (fun p => (p.1,x))).map (fun p => (vl ag p.1,Value.int .i64 p.2))
  | [],m => by simp
  | e :: t,0 => by simp
  | e :: t,m + 1 => by simp [vl_modify ag x t m]
theorem modify_mem {x : Int} : ∀ {l : MapL} {m : Nat} {p : List Int × Int},p ∈ l.modify m (fun p => (p.1,x)) → ∃ q ∈ l,q.1 = p.1
  | [],m,p,h => by simp at h
  | e :: t,0,p,h => by
    simp at h
    rcases h with rfl | h
    · exact ⟨e,by simp,rfl⟩
    · exact ⟨p,by simp [h],rfl⟩
  | e :: t,m + 1,p,h => by
    simp at h
    rcases h with rfl | h
    · exact ⟨p,by simp,rfl⟩
    · obtain ⟨q,h1,h2⟩ := modify_mem h
      exact ⟨q,by simp [h1],h2⟩
theorem modify_id {f : MapEntry → MapEntry} : ∀ {es : List MapEntry} {m : Nat},(∀ e,es[m]? = some e → f e = e) → es.modify m f = es
  | [],m,_ => by simp
  | e :: t,0,h => by simp [h e (by simp)]
  | e :: t,m + 1,h => by simp [modify_id (es := t) (m := m) fun e' he => h e' (by simpa using he)]
def Born (es : List MapEntry) : Prop := ∀ (i : Nat) (e : MapEntry),es[i]? = some e → e.born = i
theorem Born.find {es : List MapEntry} (h : Born es) {m : Nat} (hm : m < es.length) : es.findIdx? (fun e => (e.born : Int) == (m : Int)) = some m := by
  rw [List.findIdx?_eq_some_iff_getElem]
  refine ⟨hm,?_,fun j hj => ?_⟩
  · have := h m es[m] (by rw [List.getElem?_eq_getElem hm])
    simp [this]
  · have := h j (es[j]'(by omega)) (by rw [List.getElem?_eq_getElem (by omega)])
    simp [this]; omega
theorem Born.modify {es : List MapEntry} (h : Born es) {m : Nat} {f : MapEntry → MapEntry} (hf : ∀ e,(f e).born = e.born) : Born (es.modify m f) := fun i e he => by
  rw [List.getElem?_modify] at he
  cases hi : es[i]? with
  | none => rw [hi] at he; simp at he
  | some e' =>
    rw [hi] at he
    have := h i e' hi
    by_cases hm : m = i
    · simp [hm] at he; rw [← he,hf,this]
    · simp [hm] at he; rw [← he,this]
theorem Born.push {es : List MapEntry} (h : Born es) {e : MapEntry} (he : e.born = es.length) : Born (es ++ [e]) := fun i e' hi => by
  rw [List.getElem?_append] at hi
  split at hi
  · exact h i e' hi
  · rename_i hn
    have : i - es.length = 0 := by
      by_cases h0 : i - es.length = 0
      · exact h0
      · rw [List.getElem?_eq_none (by simp; omega)] at hi; cases hi
    rw [this] at hi
    simp at hi
    subst hi
    omega
def mapSP (ag : Bool) (n b : Nat) (l : MapL) : XP := ⟨0,fun _ => False,fun c => c = b,fun _ w => ∃ es,w.heap[b]? = some (.map es es.size) ∧ MapHas ag n es.toList l ∧ Born es.toList,fun h ⟨es,h1,h2⟩ => by
  have hlt := (Array.getElem?_eq_some_iff.1 h1).1
  exact ⟨es,by rw [h.block b hlt (.inr rfl)]; exact h1,h2⟩⟩
section ops
variable {cx : Cx} {S : St} {dst : Option Tmp} {ty : TypeId} {pos : String} {af : Array Edge} {gd : Option (Nat × Bool)}
theorem o_lookS {m x : Operand} {T : TypeId} {n k b km : Nat} {ag : Bool} {l : MapL} {a : List Int} {sv : SV} (hT : MapT cx.P T n k ag) (hm : S.op m = some (.e (.a (.v (.map (some b)))))) (hx : S.op x = some sv) (hkey : isKey ag a sv) (hk : look km S.L = some (.ext (mapSP ag n b l))) (ha : a.length = n) :
    OpG cx S ⟨dst,.lookup T m x false,ty,pos,af,gd⟩ (.val (.i ((mget l a).getD 0))) :=
  OpG.pure (fun _ => by simp) fun M ε I ac w hs => ⟨trivial,by
    have h1 := hs.eval hm; have h2 := hs.eval hx
    rw [hkey ε] at h2
    simp only [SV.den,El.den,At.den] at h1
    obtain ⟨es,h3,h4,_⟩ := hs.L km _ hk
    have := run_lookup hT h3 h4 ha false
    simp [execOp,h1,h2,this,SV.den,El.den,At.den]⟩
theorem run_entry {P : Program} {T : TypeId} {n k : Nat} {ag : Bool} (hT : MapT P T n k ag) {w : World} {b : Nat} {es : Array MapEntry} {l : MapL} (hb : w.heap[b]? = some (.map es es.size)) (hm : MapHas ag n es.toList l) (hB : Born es.toList) {a : List Int} (ha : a.length = n) :
    ∃ es' : Array MapEntry,(Instr.mapEntry T (.map (some b)) (vl ag a)).run P w = .ok (.tuple #[.int .i64 ((mget l a).getD 0),.int .i64 (midx l a)]) { w with heap := w.heap.setIfInBounds b (.map es' es'.size) } ∧ MapHas ag n es'.toList (mset l a ((mget l a).getD 0)) ∧ Born es'.toList := by
  obtain ⟨⟨kt,e,h1,h2,h3,h4⟩,h5⟩ := hT
  have hgo : (getObj b).run P w = .ok (.map es es.size) w := by simp [getObj,Sem.run,hb]
  have hso : ∀ o,(setObj b o).run P w = .ok () { w with heap := w.heap.setIfInBounds b o } := fun o => by simp [setObj,Sem.run,hb]
  obtain ⟨r,h6,h7⟩ := h4 w a es.toList l ha hm
  have hc := h2.chk (10000 - k) false w a ha
  rw [show 10000 - k + k = 10000 from by have := Nat.le_of_ble_eq_true h5; omega] at hc
  have hall : ∀ x,∀ p ∈ mset l a x,p.1.length = n := fun x => mset_all (K := fun i _ => i.length = n) hm.2 ha
  have hlen : es.toList.length = l.length := by have := congrArg List.length hm.1; simpa using this
  rcases h7 with ⟨rfl,h8⟩ | ⟨i,e',v,rfl,h9,h10,h8,h11⟩
  · refine ⟨es.push { key := vl ag a,val := .int .i64 0,born := es.size },?_,⟨?_,hall _⟩,?_⟩
    · have hi : midx l a = es.size := by rw [midx_new h8,← hlen]; simp
      simp [Instr.mapEntry,run_underlying h1,hgo,hc,h6,h3,hso,h8,hi,goInt]
    · rw [Array.toList_push,List.map_append,hm.1,h8,mset_new h8]; simp
    · rw [Array.toList_push]; exact hB.push (by simp)
  · have h12 : es[i]? = some e' := by rw [← Array.getElem?_toList]; exact h9
    have hmi : i = midx l a := by
      apply Classical.byContradiction
      intro hne
      have h13 := congrArg (fun t => t[midx l a]?) (h11 (.int .i64 (v + 1)) (v + 1) rfl)
      simp only [List.getElem?_map,mset_at,List.getElem?_modify,if_neg hne] at h13
      have h14 := congrArg (fun t => t[midx l a]?) hm.1
      simp only [List.getElem?_map,midx_at h8] at h14
      cases hz : es.toList[midx l a]? with
      | none => rw [hz] at h14; simp at h14
      | some z =>
        rw [hz] at h13 h14
        simp at h13 h14
        rw [h14.2] at h13
        simp at h13
        omega
    have hstay : (Instr.keyThatStays (vl ag a) (vl ag a)).run P w = .ok (vl ag a) w := by
      simp only [Instr.keyThatStays,sameBits_vl,if_true,Sem.run_pure]
    have hmod : (es.modify i fun e => { e with key := vl ag a }) = es := by
      apply Array.toList_inj.1
      rw [Array.toList_modify]
      exact modify_id fun e he => by rw [h9] at he; cases he; rw [← h10]
    have hbn := hB i e' h9
    subst hmi
    refine ⟨es,?_,⟨?_,hall _⟩,hB⟩
    · simp [Instr.mapEntry,run_underlying h1,hgo,hc,h6,hstay,hso,h8,hmod,h12,h10,hbn,goInt]
    · rw [h8,Option.getD_some,mset_same h8]; exact hm.1
theorem mapS_turn {cx : Cx} {S : St} {M : Nat → Prop} {ε : Env} {I : IH} {ac : Act} {w : World} {dst : Option Tmp} {sv : SV} {next : Act → World → Prop} {km b n : Nat} {ag : Bool} {l l' : MapL} {es' : Array MapEntry} (hs : SatM cx M ε I S ac w) (hk : look km S.L = some (.ext (mapSP ag n b l))) (hsv : ∀ ε γ M,SV.on γ M sv ∧ sv.den ε = den0 (fun _ => undef) sv)
    (h6 : MapHas ag n es'.toList l') (hB : Born es'.toList) (K : ∀ ε' I' w',Tr cx.w0.heap.size ε ε' I I' w w' [] (fpOf S ε ⟨sv,[],[],[(km,.ext (mapSP ag n b l'))],[]⟩) → New cx M S ε ε' I' w w' ⟨sv,[],[],[(km,.ext (mapSP ag n b l'))],[]⟩ → next (ac.put dst (sv.den ε')) w') :
    next (ac.put dst (den0 (fun _ => undef) sv)) { w with heap := w.heap.setIfInBounds b (.map es' es'.size) } := by
  obtain ⟨es,h3,h4,_⟩ := hs.L km _ hk
  have hft := hs.foot km _ hk b rfl
  have hfp : fpOf S ε ⟨sv,[],[],[(km,.ext (mapSP ag n b l'))],[]⟩ b := ⟨km,_,by simp [look],hk,rfl⟩
  have hlt := (Array.getElem?_eq_some_iff.1 h3).1
  have hoth : ∀ c,c ≠ b → ({ w with heap := w.heap.setIfInBounds b (.map es' es'.size) } : World).heap[c]? = w.heap[c]? := fun c hc => by
    simp [Array.getElem?_setIfInBounds_ne (Ne.symm hc)]
  rw [← (hsv ε (fun _ => true) M).2]
  refine K ε I _ ⟨fun _ _ => ⟨rfl,rfl,rfl⟩,IH.le.rfl',fun c o hc => ?_,rfl,rfl,Out.rf,by simp,fun c _ hn => hoth c (fun e => hn (e ▸ hfp)),fun _ _ h => .inl h⟩
    ⟨(hsv ε _ _).1,fun _ _ h => (by cases h),fun _ _ h => (by cases h),fun i e he => by obtain ⟨rfl,rfl⟩ := look_one he; exact ⟨.inl (hs.wfL i _ hk).1,trivial⟩,fun _ _ h => (by cases h),
      fun i e he => by obtain ⟨rfl,rfl⟩ := look_one he; exact ⟨es',by simp [hlt],h6,hB⟩,
      fun i e he c hc => by
        obtain ⟨rfl,rfl⟩ := look_one he
        have hc : c = b := hc
        subst hc
        exact ⟨hft.1,by simpa using hft.2.1,hft.2.2,.inr hfp⟩,
      fun i i' e e' c he he' hne => by
        obtain ⟨rfl,_⟩ := look_one he
        obtain ⟨rfl,_⟩ := look_one he'
        exact absurd rfl hne,fun i x he => by
        obtain ⟨_,h⟩ := look_one he
        cases h
        exact ⟨Nat.zero_le _,fun _ h => h.elim⟩⟩
  rw [hoth c (fun e => by rw [e,hft.2.2] at hc; cases hc)]; exact hs.imm c o hc
theorem o_entry {m x : Operand} {T : TypeId} {n k b km : Nat} {ag : Bool} {l : MapL} {a : List Int} {sv : SV} (hT : MapT cx.P T n k ag) (hm : S.op m = some (.e (.a (.v (.map (some b)))))) (hx : S.op x = some sv) (hkey : isKey ag a sv) (hk : look km S.L = some (.ext (mapSP ag n b l))) (ha : a.length = n) :
    OpG cx S ⟨dst,.mapEntry T m x,ty,pos,af,gd⟩ ⟨.t [.a (ai ((mget l a).getD 0)),.a (ai (midx l a))],[],[],[(km,.ext (mapSP ag n b (mset l a ((mget l a).getD 0))))],[]⟩ := by
  intro M ε I ac w next Q hs hN K
  have h1 := hs.eval hm; have h2 := hs.eval hx
  rw [hkey ε] at h2
  simp only [SV.den,El.den,At.den] at h1
  obtain ⟨es,h3,h4,h4'⟩ := hs.L km _ hk
  obtain ⟨es',h5,h6,h7⟩ := run_entry hT h3 h4 h4' ha
  refine ⟨fun _ _ => trivial,?_⟩
  have hrun : (execOp ac.eval ⟨dst,.mapEntry T m x,ty,pos,af,gd⟩).run cx.P w = .ok (.value (den0 (fun _ => undef) (.t [.a (ai ((mget l a).getD 0)),.a (ai (midx l a))]))) { w with heap := w.heap.setIfInBounds b (.map es' es'.size) } := by
    simp [execOp,h1,h2,h5,den0,SV.den,El.den,At.den]
  rw [semAt_eq _ _ _ (fun _ => by simp),hrun]
  exact mapS_turn hs hk (fun ε γ M => ⟨by
    intro x hx
    simp only [List.mem_cons,List.mem_nil_iff,or_false] at hx
    rcases hx with rfl | rfl <;> trivial,rfl⟩) h6 h7 K
theorem o_estore {m x y : Operand} {T : TypeId} {n b km : Nat} {ag : Bool} {l : MapL} {a : List Int} {u v : Int} (hm : S.op m = some (.e (.a (.v (.map (some b)))))) (hx : S.op x = some (.i (midx l a))) (hy : S.op y = some (.i v)) (hk : look km S.L = some (.ext (mapSP ag n b (mset l a u)))) :
    OpG cx S ⟨none,.entryStore T m x y,ty,pos,af,gd⟩ ⟨.e (.a (.v undef)),[],[],[(km,.ext (mapSP ag n b (mset l a v)))],[]⟩ := by
  intro M ε I ac w next Q hs hN K
  have h1 := hs.eval hm; have h2 := hs.eval hx; have h2' := hs.eval hy
  simp only [SV.den,El.den,At.den] at h1 h2 h2'
  obtain ⟨es,h3,h4,h4'⟩ := hs.L km _ hk
  have hlen : es.toList.length = (mset l a u).length := by have := congrArg List.length h4.1; simpa using this
  have hlt : midx l a < es.toList.length := by
    rw [hlen]
    have := mset_at l a u
    exact (List.getElem?_eq_some_iff.1 this).1
  have hgo : (getObj b).run cx.P w = .ok (.map es es.size) w := by simp [getObj,Sem.run,h3]
  have hso : ∀ o,(setObj b o).run cx.P w = .ok () { w with heap := w.heap.setIfInBounds b o } := fun o => by simp [setObj,Sem.run,h3]
  have hf : es.findIdx? (fun e => (e.born : Int) == (midx l a : Int)) = some (midx l a) := by
    have := h4'.find hlt
    revert this
    rcases es with ⟨es⟩
    intro this
    simpa using this
  refine ⟨fun _ _ => trivial,?_⟩
  have hrun : (execOp ac.eval ⟨none,.entryStore T m x y,ty,pos,af,gd⟩).run cx.P w = .ok .skip { w with heap := w.heap.setIfInBounds b (.map (es.modify (midx l a) fun e => { e with val := .int .i64 v }) (es.modify (midx l a) fun e => { e with val := .int .i64 v }).size) } := by
    have hai : (asInt (.int .i64 (midx l a : Int))).run cx.P w = .ok (midx l a : Int) w := by simp [asInt,asIntOf]
    simp [execOp,h1,h2,h2',Instr.entryStore,hgo,hai,hf,hso]
  rw [semAt_eq _ _ _ (fun _ => by simp),hrun]
  refine mapS_turn (dst := none) (sv := .e (.a (.v undef))) hs hk (fun _ _ _ => ⟨trivial,rfl⟩) ⟨?_,fun p hp => ?_⟩ ?_ K
  · rw [Array.toList_modify,kv_modify,h4.1,vl_modify,mset_modify]
  · rw [← mset_modify l a u v] at hp
    obtain ⟨q,hq,he⟩ := modify_mem hp
    rw [← he]; exact h4.2 q hq
  · rw [Array.toList_modify]; exact h4'.modify fun _ => rfl
end ops
section steps
variable {cx : Cx} {Q : Exit → Act → World → Prop} {ops : Array Oper} {rest : List Oper}
variable {n : Nat} {fr : List (Nat × SV)} {X : List (Nat × Pred)} {L : List (Nat × Ent)} {D : List Nat} {G : List (Nat × Bool)} {d : Tmp} {ty : TypeId} {pos : String} {af : Array Edge}
theorem WPl.mkmapS (ag : Bool) (nk k m : Nat) {T : TypeId} (hk : Nat.ble n k = true) (hm : Nat.blt k m = true) (hd : Nat.blt d cx.N = true) (K : ∀ b,WPl cx ops ⟨m,(d,.e (.a (.v (.map (some b))))) :: fr,X,(k,.ext (mapSP ag nk b [])) :: L,D,G⟩ rest Q) :
    WPl cx ops ⟨n,fr,X,L,D,G⟩ (⟨some d,.makeMap T none,ty,pos,af,none⟩ :: rest) Q := by
  have hk' : n ≤ k := by simpa using hk
  rw [Nat.blt_eq] at hm hd
  intro ε I a w hs
  refine wpListIn_step fun K' hK => ?_
  simp only [Region.wanted,if_true]
  refine ⟨fun _ _ => trivial,?_⟩
  have hrun : (execOp a.eval ⟨some d,.makeMap T none,ty,pos,af,none⟩).run cx.P w = .ok (.value (.map (some w.heap.size))) (w.alloc (.map #[] 0)) := by
    simp [execOp,Instr.makeMap,newObj,Sem.run]
  rw [semAt_eq _ _ _ (fun _ => by simp),hrun]
  refine hK _ _ (K w.heap.size ⟨Eng.upd ε.β k w.heap.size,Eng.upd ε.ν k undef,ε.γ⟩ I _ _ ?_)
  have := SatM.app (d := some d) (u := ⟨.e (.a (.v (.map (some w.heap.size)))),[k],[],[(k,.ext (mapSP ag nk w.heap.size []))],[]⟩) m hs (St.le.refl _) (fun i hi hlt => by
      have hi : i ∈ [k] := hi
      rw [List.mem_singleton] at hi; subst hi
      have : i < n := hlt
      omega) (fun i hi => by cases hi; exact hd) (Tr.alloc hs.imm k (.map #[] 0) undef)
    ⟨trivial,fun _ _ h => (by cases h),fun _ _ h => (by cases h),fun i e he => by obtain ⟨rfl,rfl⟩ := look_one he; exact ⟨.inr (by simp),trivial⟩,fun _ _ h => (by cases h),
      fun i e he => by obtain ⟨rfl,rfl⟩ := look_one he; exact ⟨#[],heap_alloc_new w _,⟨rfl,fun p hp => by cases hp⟩,fun i e he => by simp at he⟩,
      fun i e he c hc => by
        obtain ⟨rfl,rfl⟩ := look_one he
        have hc : c = w.heap.size := hc
        subst hc
        exact ⟨.inl hs.keep.size,by simp,IH.none_ge hs.imm (Nat.le_refl _),.inl (Nat.le_refl _)⟩,
      fun i i' e e' c he he' hne => by
        obtain ⟨rfl,_⟩ := look_one he
        obtain ⟨rfl,_⟩ := look_one he'
        exact absurd rfl hne,fun i x he => by
        obtain ⟨_,h⟩ := look_one he
        cases h
        exact ⟨Nat.zero_le _,fun _ h => h.elim⟩⟩
  refine SatM.mono (fun i hi => ?_) this
  rcases hi with hi | hi
  · have hi : i < n := hi
    show i < m
    omega
  · have hi : i ∈ [k] := hi
    rw [List.mem_singleton] at hi
    show i < m
    omega
end steps
section draws
variable {cx : Cx} {Q : Exit → Act → World → Prop} {ops : Array Oper} {nf : Nat} {r : Rec} {t : List (Oper × Rec)}
variable {n : Nat} {fr : List (Nat × SV)} {X : List (Nat × Pred)} {L : List (Nat × Ent)} {D : List Nat} {G : List (Nat × Bool)} {d : Tmp} {op : Op} {ty : TypeId} {pos : String} {af : Array Edge} {gd : Option (Nat × Bool)} {sv : SV}
end draws
section lend
variable {J : List Nat} {ρ : Nat → Nat} {ε : Env} {i0 k : Nat}
end lend
section ops
variable {cx : Cx} {S : St} {dst : Option Tmp} {ty : TypeId} {pos : String} {af : Array Edge} {gd : Option (Nat × Bool)}
end ops
end Go.Eng
namespace Go.Eng
open Go
def AnyS (cx : Cx) (ops : Array Oper) (Q : Exit → Act → World → Prop) (fuel : Nat) (listed : Array Bool) (S : St) : Prop := ∀ ε I a w,Sat cx ε I S a w → wpAnyIn (fen cx.r) 0 cx.P .any ops Q fuel listed a w
def StepS (cx : Cx) (ops : Array Oper) (Q : Exit → Act → World → Prop) (fuel : Nat) (listed : Array Bool) (S : St) (i : Nat) : Prop := ∀ ε I a w,Sat cx ε I S a w → wpOpIn (fen cx.r) 0 cx.P ops Q i (wpAnyIn (fen cx.r) 0 cx.P .any ops Q fuel (listed.setIfInBounds i true)) a w
def StepsS (cx : Cx) (ops : Array Oper) (Q : Exit → Act → World → Prop) (fuel : Nat) (listed : Array Bool) (S : St) : List Nat → Prop
  | [] => True
  | i :: t => StepS cx ops Q fuel listed S i ∧ StepsS cx ops Q fuel listed S t
section
variable {cx : Cx} {ops : Array Oper} {Q : Exit → Act → World → Prop} {fuel : Nat} {listed : Array Bool}
theorem StepsS.at {S : St} : ∀ {l : List Nat},StepsS cx ops Q fuel listed S l → ∀ i ∈ l,StepS cx ops Q fuel listed S i
  | _ :: _,h,i,hi => by
    rcases List.mem_cons.1 hi with rfl | hi
    · exact h.1
    · exact StepsS.at h.2 i hi
theorem AnyS.step {S : St} (x : Nat) (rs : List Nat) (hr : Region.ready .any ops listed = x :: rs) (h : StepsS cx ops Q fuel listed S (x :: rs)) : AnyS cx ops Q (fuel + 1) listed S := fun ε I a w hs =>
  ⟨fun e => (by rw [hr] at e; cases e),fun i hi => (by rw [hr] at hi; exact h.at i hi ε I a w hs)⟩
theorem AnyS.done {S : St} (hr : Region.ready .any ops listed = []) (h : EX cx S .normal Q) : AnyS cx ops Q fuel listed S := fun ε I a w hs => by
  cases fuel with
  | zero => exact ⟨hr,h ε I a w hs⟩
  | succ n => exact ⟨fun _ => h ε I a w hs,fun i hi => (by rw [hr] at hi; cases hi)⟩
theorem WP.tree {S S' : St} {id : Nat} {l : List Oper} (hm : cx.P.follows .mixedOrders = true) (h : ∀ Q : Exit → Act → World → Prop,EX cx S' .normal Q → AnyS cx l.toArray Q l.length (Array.replicate l.length false) S) (K : EX cx S' .normal Q) : WP cx S (.region id l.toArray true) Q := fun ε I a w hs =>
  wpIn_region_any hm (by simpa using h Q K ε I a _ (Sat.drew hs))
theorem StepS.upd {S : St} {i : Nat} {o : Oper} {u : U} (m : Nat) (hi : ops[i]? = some o) (h : ROp cx ops S o u) (hd : ∀ i,o.dst = some i → i < cx.N) (hN : ∀ k ∈ u.N,S.n ≤ k ∧ k < m) (hm : S.n ≤ m)
    (K : AnyS cx ops Q fuel (listed.setIfInBounds i true) (S.app m o.dst u)) : StepS cx ops Q fuel listed S i := by
  intro ε I a w hs
  unfold wpOpIn
  simp only [hi]
  refine h (· < S.n) ε I a w _ Q hs (fun k hk hlt => by have := (hN k hk).1; omega) fun ε' I' w' ht hn => K ε' I' _ w' ?_
  have hN' : ∀ k ∈ u.N,¬ k < S.n := fun k hk hlt => by have := (hN k hk).1; omega
  refine SatM.mono ?_ (SatM.app m hs (St.le.refl _) hN' hd ht hn)
  rintro k (hk | hk)
  · exact Nat.lt_of_lt_of_le hk hm
  · exact (hN k hk).2
variable {n : Nat} {fr : List (Nat × SV)} {X : List (Nat × Pred)} {L : List (Nat × Ent)} {D : List Nat} {G : List (Nat × Bool)} {d : Tmp} {op : Op} {ty : TypeId} {pos : String} {af : Array Edge} {sv : SV} {i : Nat}
theorem StepS.v (hi : ops[i]? = some ⟨some d,op,ty,pos,af,none⟩) (hd : Nat.blt d cx.N = true) (h : OpG cx ⟨n,fr,X,L,D,G⟩ ⟨some d,op,ty,pos,af,none⟩ (.val sv)) (K : AnyS cx ops Q fuel (listed.setIfInBounds i true) ⟨n,(d,sv) :: fr,X,L,D,G⟩) : StepS cx ops Q fuel listed ⟨n,fr,X,L,D,G⟩ i :=
  have hd' : d < cx.N := by rw [Nat.blt_eq] at hd; exact hd
  StepS.upd n hi (ROp.plain rfl h) (fun i hi => by cases hi; exact hd') (fun k hk => by cases hk) (Nat.le_refl _) K
theorem StepS.vl {k : Nat} {e : Ent} (hi : ops[i]? = some ⟨some d,op,ty,pos,af,none⟩) (hd : Nat.blt d cx.N = true) (h : OpG cx ⟨n,fr,X,L,D,G⟩ ⟨some d,op,ty,pos,af,none⟩ ⟨sv,[],[],[(k,e)],[]⟩) (K : AnyS cx ops Q fuel (listed.setIfInBounds i true) ⟨n,(d,sv) :: fr,X,(k,e) :: L,D,G⟩) : StepS cx ops Q fuel listed ⟨n,fr,X,L,D,G⟩ i :=
  have hd' : d < cx.N := by rw [Nat.blt_eq] at hd; exact hd
  StepS.upd n hi (ROp.plain rfl h) (fun i hi => by cases hi; exact hd') (fun k hk => by cases hk) (Nat.le_refl _) K
theorem StepS.s {k : Nat} {e : Ent} (hi : ops[i]? = some ⟨none,op,ty,pos,af,none⟩) (h : OpG cx ⟨n,fr,X,L,D,G⟩ ⟨none,op,ty,pos,af,none⟩ ⟨sv,[],[],[(k,e)],[]⟩) (K : AnyS cx ops Q fuel (listed.setIfInBounds i true) ⟨n,fr,X,(k,e) :: L,D,G⟩) : StepS cx ops Q fuel listed ⟨n,fr,X,L,D,G⟩ i :=
  StepS.upd n hi (ROp.plain rfl h) (fun i hi => by cases hi) (fun k hk => by cases hk) (Nat.le_refl _) K
end
def AllLk {α : Type} (s : List (Nat × α)) : List (Nat × α) → Prop
  | [] => True
  | (k,x) :: t => look k s = some x ∧ AllLk s t
theorem AllLk.ok {α : Type} {s : List (Nat × α)} {i : Nat} {x : α} : ∀ {t : List (Nat × α)},AllLk s t → look i t = some x → look i s = some x
  | (k,y) :: t,h,hi => by
    rw [look_cons] at hi
    by_cases e : k = i
    · subst e; simp at hi; subst hi; exact h.1
    · simp [e] at hi; exact AllLk.ok h.2 hi
theorem AllLk.n {α : Type} {s : List (Nat × α)} : AllLk s [] := trivial
theorem AllLk.c {α : Type} {s t : List (Nat × α)} {k : Nat} {x : α} (h : look k s = some x) (ht : AllLk s t) : AllLk s ((k,x) :: t) := ⟨h,ht⟩
theorem EX.sub {cx : Cx} {S S' : St} {e : Exit} {Q : Exit → Act → World → Prop} (h : EX cx S' e Q) (fr : AllLk S.fr S'.fr) (X : AllLk S.X S'.X) (L : AllLk S.L S'.L) (hn : S'.n = S.n) (D : S'.D = S.D) (G : AllLk S.G S'.G) : EX cx S e Q := fun ε I a w hs =>
  h ε I a w (by unfold Sat; rw [hn]; exact SatM.le ⟨fun i x hx => fr.ok hx,fun i x hx => X.ok hx,fun i x hx => L.ok hx,D,fun i x hx => G.ok hx⟩ hs)
theorem AnyS.sub {cx : Cx} {ops : Array Oper} {Q : Exit → Act → World → Prop} {fuel fuel' : Nat} {listed listed' : Array Bool} {S S' : St} (h : AnyS cx ops Q fuel' listed' S') (hf : fuel = fuel') (hl : listed = listed') (fr : AllLk S.fr S'.fr) (X : AllLk S.X S'.X) (L : AllLk S.L S'.L) (hn : S'.n = S.n) (D : S'.D = S.D) (G : AllLk S.G S'.G) : AnyS cx ops Q fuel listed S := fun ε I a w hs => by
  subst hf hl
  exact h ε I a w (by unfold Sat; rw [hn]; exact SatM.le ⟨fun i x hx => fr.ok hx,fun i x hx => X.ok hx,fun i x hx => L.ok hx,D,fun i x hx => G.ok hx⟩ hs)
theorem AnyS.cut {cx : Cx} {ops : Array Oper} {Q : Exit → Act → World → Prop} {fuel : Nat} {listed : Array Bool} {S : St} (fuel' : Nat) (listed' : Array Bool) (S' : St) (h : AnyS cx ops Q fuel' listed' S') (K : AnyS cx ops Q fuel' listed' S' → AnyS cx ops Q fuel listed S) : AnyS cx ops Q fuel listed S := K h
section
variable {cx : Cx} {S : St} {dst : Option Tmp} {ty : TypeId} {pos : String} {af : Array Edge} {gd : Option (Nat × Bool)}
theorem o_lookSv {m x : Operand} {T : TypeId} {n k b km : Nat} {ag : Bool} {l : MapL} {a : List Int} {sv : SV} {v : Int} (hT : MapT cx.P T n k ag) (hm : S.op m = some (.e (.a (.v (.map (some b)))))) (hx : S.op x = some sv) (hkey : isKey ag a sv) (hk : look km S.L = some (.ext (mapSP ag n b l))) (ha : a.length = n) (hv : (mget l a).getD 0 = v) :
    OpG cx S ⟨dst,.lookup T m x false,ty,pos,af,gd⟩ (.val (.i v)) := by
  subst hv; exact o_lookS hT hm hx hkey hk ha
end
theorem mget_self (l : MapL) (a : List Int) (u : Int) : (mget (mset l a u) a).getD 0 = u := by rw [mget_mset,if_pos rfl]; rfl
end Go.Eng
namespace Go.Eng
open Go
structure DInvP (ops : Array Oper) (recs : List Rec) (nf m : Nat) (listed : Array Bool) (todo : List (Nat × Oper × Rec)) (M : Nat → Prop) : Prop where
  ch : chkPairs todo = true
  size : listed.size = ops.size
  at' : ∀ p ∈ todo,ops[p.1]? = some p.2.1 ∧ recs[p.1]? = some p.2.2
  lt : ∀ p ∈ todo,p.1 < m
  un : ∀ j,j < ops.size → (listed.getD j true = false ↔ (∃ p ∈ todo,p.1 = j) ∨ m ≤ j)
  nd : todo.Pairwise (fun p q => p.1 ≠ q.1)
  cl : ∀ j o,ops[j]? = some o → listed.getD j true = true → ∀ c ∈ dirs ops j,listed.getD c false = true
  pre : ∀ j r,recs[j]? = some r → j < ops.size → (∀ c ∈ dirs ops j,c < j) ∧ ∀ i ∈ r.pre,i ∈ dirs ops j ∨ ∃ c ∈ dirs ops j,∃ r',recs[c]? = some r' ∧ i ∈ r'.pre
  rest : ∀ j,m ≤ j → j < ops.size → ∃ r,recs[j]? = some r ∧ ∀ i,i < m → i ∈ r.pre
  N : ∀ p ∈ todo,∀ k ∈ p.2.2.N,¬ M k ∧ k < nf
  M : ∀ k,M k → k < nf
theorem DInvP.some_ready {ops : Array Oper} {recs : List Rec} {nf m : Nat} {listed : Array Bool} {todo : List (Nat × Oper × Rec)} {M : Nat → Prop} (h : DInvP ops recs nf m listed todo M) :
    ∀ (n : Nat) (p : Nat × Oper × Rec),p.1 < n → p ∈ todo → Region.ready .any ops listed ≠ [] := by
  intro n
  induction n with
  | zero => intro p hp; omega
  | succ n ih =>
    intro p hp hpt
    obtain ⟨h1,h2⟩ := h.at' p hpt
    have hlt : p.1 < ops.size := (Array.getElem?_eq_some_iff.1 h1).1
    by_cases hall : ∀ c ∈ dirs ops p.1,listed.getD c false = true
    · intro he
      have : p.1 ∈ Region.ready .any ops listed := mem_ready.2 ⟨(h.un _ hlt).2 (.inl ⟨p,hpt,rfl⟩),p.2.1,h1,fun e he hb => hall _ ((mem_dirs h1).2 ⟨e,he,hb,rfl⟩)⟩
      rw [he] at this; cases this
    · simp only [Classical.not_forall] at hall
      obtain ⟨c,hc,hl⟩ := hall
      have hcl := (h.pre _ _ h2 hlt).1 c hc
      have hcs : c < ops.size := by omega
      have : listed.getD c true = false := by
        rw [getD_tf (by rw [h.size]; exact hcs) true false]; simpa using hl
      rcases (h.un c hcs).1 this with ⟨q,hq,hqc⟩ | hm
      · exact ih q (by omega) hq
      · have := h.lt p hpt; omega
def restQ (cx : Cx) (ops : Array Oper) (c : Nat) (LA : Array Bool) (Q : Exit → Act → World → Prop) : Exit → Act → World → Prop := fun _ a w => wpAnyIn (fen cx.r) 0 cx.P .any ops Q c LA a w
theorem DRQ.anyP {cx : Cx} {ops : Array Oper} {nf m c : Nat} {Q : Exit → Act → World → Prop} {recs : List Rec} {LA : Array Bool} (hLA : LA.size = ops.size ∧ ∀ j,j < ops.size → LA.getD j true = decide (j < m)) : ∀ (fuel : Nat) {listed : Array Bool} {todo : List (Nat × Oper × Rec)} {M : Nat → Prop} {S : St} {ε : Env} {I : IH} {a : Act} {w : World},
    DInvP ops recs nf m listed todo M → fuel = todo.length + c → SatM cx M ε I S a w → DRQ cx ops nf (todo.map Prod.snd) S (restQ cx ops c LA Q) → wpAnyIn (fen cx.r) 0 cx.P .any ops Q fuel listed a w := by
  have hdone : ∀ {listed : Array Bool} {M : Nat → Prop} {S : St} {ε : Env} {I : IH} {a : Act} {w : World},
      DInvP ops recs nf m listed [] M → SatM cx M ε I S a w → DRQ cx ops nf [] S (restQ cx ops c LA Q) → wpAnyIn (fen cx.r) 0 cx.P .any ops Q c listed a w := by
    intro listed M S ε I a w hi hs hd
    have hM : ∀ k,M k → k < nf := hi.M
    have := hd ε I a w (SatM.mono (M' := (· < nf)) hM ⟨hs.wfr,hs.wfX,hs.wfL,hs.wfD,hs.wfG,hs.G,hs.size,hs.defs,hs.fr,hs.X,hs.L,hs.foot,hs.sep,hs.imm,hs.keep,hs.le0,hs.fr0,hs.pin,hs.ext⟩)
    have e : listed = LA := by
      refine Array.ext (by rw [hi.size,hLA.1]) fun j h1 h2 => ?_
      have hj : j < ops.size := by rw [← hi.size]; exact h1
      have g1 := hLA.2 j hj
      have g2 := hi.un j hj
      have e1 : listed.getD j true = listed[j] := by simp [Array.getD,h1]
      have e2 : LA.getD j true = LA[j] := by simp [Array.getD,h2]
      rw [e1] at g2; rw [e2] at g1
      rw [g1]
      by_cases hjm : j < m
      · rw [decide_eq_true hjm]
        cases hl : listed[j] with
        | true => rfl
        | false =>
          rcases g2.1 hl with ⟨p,hp,_⟩ | h
          · cases hp
          · omega
      · rw [decide_eq_false hjm]; exact g2.2 (.inr (by omega))
    rw [e]; exact this
  intro fuel
  induction fuel with
  | zero =>
    intro listed todo M S ε I a w hi hf hs hd
    have h1 : todo = [] := List.length_eq_zero_iff.1 (by omega)
    subst h1
    have h2 : c = 0 := by simp at hf; omega
    subst h2; exact hdone hi hs hd
  | succ fuel ih =>
    intro listed todo M S ε I a w hi hf hs hd
    cases htd : todo with
    | nil =>
      subst htd
      have h2 : c = fuel + 1 := by simp at hf; omega
      subst h2; exact hdone hi hs hd
    | cons p0 t0 =>
    have hp0 : p0 ∈ todo := by rw [htd]; exact List.mem_cons_self
    clear htd
    refine ⟨fun he => absurd he (hi.some_ready (p0.1 + 1) p0 (Nat.lt_succ_self _) hp0),fun i hir => ?_⟩
    obtain ⟨h0,o,ho,hafter⟩ := mem_ready.1 hir
    have his : i < ops.size := (Array.getElem?_eq_some_iff.1 ho).1
    have hdl0 : ∀ c ∈ dirs ops i,listed.getD c false = true := fun c hc => by
      obtain ⟨e,he,hb,rfl⟩ := (mem_dirs ho).1 hc
      exact hafter e he hb
    have him : ∃ p ∈ todo,p.1 = i := by
      rcases (hi.un i his).1 h0 with h | h
      · exact h
      · exfalso
        obtain ⟨r,hr,hall⟩ := hi.rest i h his
        have h1 := ready_pre hi.cl hi.pre (i + 1) i r (Nat.lt_succ_self _) hr his hdl0 p0.1 (hall _ (hi.lt p0 hp0))
        have h2 := (hi.at' p0 hp0).1
        have h3 : p0.1 < ops.size := (Array.getElem?_eq_some_iff.1 h2).1
        have h4 := (hi.un p0.1 h3).2 (.inl ⟨p0,hp0,rfl⟩)
        rw [getD_tf (by rw [hi.size]; exact h3) true false,h1] at h4; cases h4
    obtain ⟨p,hp,hpi⟩ := him
    obtain ⟨pi,po,r⟩ := p
    simp only at hpi; subst hpi
    obtain ⟨ho',hr⟩ := hi.at' _ hp
    simp only at ho' hr
    rw [ho] at ho'; cases ho'
    obtain ⟨A,B,hAB⟩ := List.append_of_mem hp
    subst hAB
    obtain ⟨hA,hB⟩ := pairs_ind hi.ch rfl
    have hpl := ready_pre hi.cl hi.pre (pi + 1) pi r (Nat.lt_succ_self _) hr his hdl0
    have hind : ∀ q ∈ A,Ind q.2.1 q.2.2 o r := fun q hq => by
      rcases (hA q hq).1 with h | h
      · exfalso
        have h1 := hpl q.1 h
        obtain ⟨h2,_⟩ := hi.at' q (List.mem_append_left _ hq)
        have hqs : q.1 < ops.size := (Array.getElem?_eq_some_iff.1 h2).1
        have h3 := (hi.un q.1 hqs).2 (.inl ⟨q,List.mem_append_left _ hq,rfl⟩)
        rw [getD_tf (by rw [hi.size]; exact hqs) true false,h1] at h3
        cases h3
      · exact h
    rw [List.map_append,List.map_cons] at hd
    obtain ⟨u,h1,h2,h3⟩ := DRQ.front hd (fun q hq => by
      obtain ⟨q',hq',rfl⟩ := List.mem_map.1 hq
      exact hind q' hq')
    unfold wpOpIn
    simp only [ho]
    have hsub : (A ++ B).map Prod.snd = A.map Prod.snd ++ B.map Prod.snd := List.map_append
    have hdrop : S.le (S.drop r.ds r.dk) := ⟨fun i x hx => by
      rw [St.drop,look_dropL] at hx; split at hx; exact absurd hx (by simp); exact hx,fun i x hx => by
      rw [St.drop,look_dropL] at hx; split at hx; exact absurd hx (by simp); exact hx,fun i x hx => by
      rw [St.drop,look_dropL] at hx; split at hx; exact absurd hx (by simp); exact hx,rfl,fun i x hx => hx⟩
    have hNM : ∀ k ∈ u.N,¬ M k := fun k hk => (hi.N _ hp k (by rw [h2.N] at hk; exact hk)).1
    refine h1 M ε I a w _ Q (SatM.le hdrop hs) hNM fun ε' I' w' ht hn => ?_
    refine ih (listed := listed.setIfInBounds pi true) (todo := A ++ B) (M := fun k => M k ∨ k ∈ u.N) (S := S.app S.n o.dst u) (ε := ε') (I := I') ?_ ?_ (SatM.app S.n hs hdrop hNM h2.d ht hn) (by rw [hsub]; exact h3)
    · have hmem : ∀ q ∈ A ++ B,q ∈ A ++ (pi,o,r) :: B := fun q hq => by
        rcases List.mem_append.1 hq with h | h
        · exact List.mem_append_left _ h
        · exact List.mem_append_right _ (List.mem_cons_of_mem _ h)
      have hnd := hi.nd
      have hne : ∀ q ∈ A ++ B,q.1 ≠ pi := fun q hq => by
        rw [List.pairwise_append] at hnd
        rcases List.mem_append.1 hq with h | h
        · exact hnd.2.2 q h _ List.mem_cons_self
        · exact fun e => (List.pairwise_cons.1 hnd.2.1).1 q h e.symm
      have hpm := hi.lt _ hp
      simp only at hpm
      refine { ch := chkPairs_sub hi.ch,size := by simp [hi.size],at' := fun q hq => hi.at' q (hmem q hq),lt := fun q hq => hi.lt q (hmem q hq),un := fun j hj => ?_,nd := ?_,cl := fun j oj hoj hl c hc => ?_,pre := hi.pre,rest := hi.rest,N := fun q hq k hk => ⟨?_,(hi.N q (hmem q hq) k hk).2⟩,M := fun k hk => ?_ }
      · by_cases hj' : pi = j
        · subst hj'
          rw [show (listed.setIfInBounds pi true).getD pi true = true from by simp [hi.size]]
          simp only [Bool.true_eq_false,false_iff,not_or,not_exists,not_and]
          exact ⟨fun q hq => hne q hq,by omega⟩
        · rw [getD_set_ne true hj',hi.un j hj]
          constructor
          · rintro (⟨q,hq,rfl⟩ | h)
            · rcases List.mem_append.1 hq with h | h
              · exact .inl ⟨q,List.mem_append_left _ h,rfl⟩
              · rcases List.mem_cons.1 h with rfl | h
                · exact absurd rfl hj'
                · exact .inl ⟨q,List.mem_append_right _ h,rfl⟩
            · exact .inr h
          · rintro (⟨q,hq,rfl⟩ | h)
            · exact .inl ⟨q,hmem q hq,rfl⟩
            · exact .inr h
      · exact List.Pairwise.sublist (List.Sublist.append_left (List.sublist_cons_self _ _) A) hnd
      · refine getD_set_true ?_
        by_cases hj' : pi = j
        · subst hj'; exact hdl0 c hc
        · rw [getD_set_ne true hj'] at hl
          exact hi.cl j oj hoj hl c hc
      · rintro (h | h)
        · exact (hi.N q (hmem q hq) k hk).1 h
        · rw [h2.N] at h
          rcases List.mem_append.1 hq with hqA | hqB
          · exact (hA q hqA).2 k hk h
          · exact hB q hqB k h hk
      · rcases hk with hk | hk
        · exact hi.M k hk
        · exact (hi.N _ hp k (by rw [h2.N] at hk; exact hk)).2
    · simp only [List.length_append,List.length_cons] at hf ⊢; omega
def chkR2 (ops : List Oper) (recs : List Rec) (m n0 nf : Nat) : Bool :=
  Nat.beq recs.length ops.length && Nat.ble n0 nf && Nat.ble m ops.length && chkPairs ((zipI 0 ops recs).take m) &&
  (zipI 0 ops recs).all (fun p => (dirs ops.toArray p.1).all (Nat.blt · p.1) && p.2.2.N.all (fun k => Nat.ble n0 k && Nat.blt k nf) &&
    p.2.2.pre.all (fun i => memb i (dirs ops.toArray p.1) || (dirs ops.toArray p.1).any (fun c => match recs[c]? with | some r => memb i r.pre | none => false))) &&
  (recs.drop m).all (fun r => (List.range m).all (memb · r.pre))
theorem zipI_take {α β : Type} : ∀ {m i : Nat} {s : List α} {t : List β},∀ p ∈ (zipI i s t).take m,p.1 < i + m
  | 0,_,_,_,p,h => by simp at h
  | m + 1,i,a :: s,b :: t,p,h => by
    rw [zipI,List.take_succ_cons] at h
    rcases List.mem_cons.1 h with rfl | h
    · show i < i + (m + 1); omega
    · have := zipI_take p h; omega
  | m + 1,_,[],_,p,h => by simp [zipI] at h
  | m + 1,_,_ :: _,[],p,h => by simp [zipI] at h
theorem zipI_take_mem {α β : Type} : ∀ {m i j : Nat} {s : List α} {t : List β},s.length = t.length → j < s.length → j < m → ∃ p ∈ (zipI i s t).take m,p.1 = i + j
  | 0,_,_,_,_,_,_,h => by omega
  | m + 1,i,0,a :: s,b :: t,_,_,_ => ⟨(i,a,b),by simp [zipI],rfl⟩
  | m + 1,i,j + 1,a :: s,b :: t,hl,hj,hm => by
    obtain ⟨p,hp,he⟩ := zipI_take_mem (m := m) (i := i + 1) (j := j) (s := s) (t := t) (by simpa using hl) (by simpa using hj) (by omega)
    exact ⟨p,by rw [zipI,List.take_succ_cons]; exact List.mem_cons_of_mem _ hp,by omega⟩
  | _,_,_,[],_,_,hj,_ => by simp at hj
  | _,_,_,_ :: _,[],hl,_,_ => by simp at hl
theorem zipI_len {α β : Type} : ∀ {i : Nat} {s : List α} {t : List β},s.length = t.length → (zipI i s t).length = s.length
  | _,[],[],_ => rfl
  | i,_ :: s,_ :: t,h => by simp only [zipI,List.length_cons]; rw [zipI_len (by simpa using h)]
  | _,[],_ :: _,h => by simp at h
  | _,_ :: _,[],h => by simp at h
theorem WP.draw2 {cx : Cx} {S : St} {Q : Exit → Act → World → Prop} {id nf : Nat} {ops : List Oper} (m : Nat) (recs : List Rec) (LA : Array Bool) (hm : cx.P.follows .mixedOrders = true) (hc : chkR2 ops recs m S.n nf = true)
    (hLA : Nat.beq LA.size ops.length = true ∧ (List.range ops.length).all (fun j => LA.getD j true == Nat.blt j m) = true)
    (h : DRQ cx ops.toArray nf ((ops.zip recs).take m) S (restQ cx ops.toArray (ops.length - m) LA Q)) : WP cx S (.region id ops.toArray true) Q := by
  intro ε I a w hs
  simp only [chkR2,Bool.and_eq_true,List.all_eq_true,Nat.beq_eq,Nat.ble_eq,Nat.blt_eq,Bool.or_eq_true,memb_iff,List.any_eq_true] at hc
  obtain ⟨⟨⟨⟨⟨h1,h2⟩,hml⟩,h3⟩,h4⟩,h5⟩ := hc
  have hA : LA.size = ops.toArray.size ∧ ∀ j,j < ops.toArray.size → LA.getD j true = decide (j < m) := by
    refine ⟨by simpa using hLA.1,fun j hj => ?_⟩
    have := List.all_eq_true.1 hLA.2 j (by simpa using hj)
    rw [beq_iff_eq] at this
    rw [this,Bool.eq_iff_iff,Nat.blt_eq,decide_eq_true_eq]
  refine wpIn_region_any hm (DRQ.anyP (recs := recs) (m := m) (c := ops.length - m) (todo := (zipI 0 ops recs).take m) (M := (· < S.n)) hA _ ?_ ?_ (Sat.drew hs) (by rw [List.map_take,zipI_map]; exact h))
  · refine { ch := h3,size := by simp,at' := fun p hp => ?_,lt := fun p hp => by have := zipI_take p hp; omega,un := fun j hj => ?_,nd := zipI_nd.sublist (List.take_sublist _ _),cl := fun j o ho hl => ?_,pre := fun j r hr hj => ?_,rest := fun j hj hjs => ?_,N := fun p hp k hk => ?_,M := fun k hk => Nat.lt_of_lt_of_le hk h2 }
    · obtain ⟨_,h5,h6⟩ := mem_zipI (List.mem_of_mem_take hp)
      exact ⟨by simpa using h5,by simpa using h6⟩
    · have hj' : j < ops.length := by simpa using hj
      constructor
      · intro _
        by_cases hjm : j < m
        · obtain ⟨p,hp,he⟩ := zipI_take_mem (m := m) (i := 0) h1.symm hj' hjm
          exact .inl ⟨p,hp,by omega⟩
        · exact .inr (by omega)
      · intro _; simp [Array.getD,hj']
    · exfalso
      have hj' : j < ops.length := by
        have := (Array.getElem?_eq_some_iff.1 ho).1; simpa using this
      simp [Array.getD,hj'] at hl
    · have hj' : j < ops.length := by simpa using hj
      obtain ⟨p,hp,he⟩ := zipI_mem (i := 0) h1.symm hj'
      simp only [Nat.zero_add] at he; subst he
      obtain ⟨⟨h5,_⟩,h6⟩ := h4 p hp
      have hr' : recs[p.1]? = some p.2.2 := by simpa using (mem_zipI hp).2.2
      rw [hr] at hr'; cases hr'
      refine ⟨h5,fun i hi => ?_⟩
      rcases h6 i hi with h | ⟨c,hc,h⟩
      · exact .inl h
      · refine .inr ⟨c,hc,?_⟩
        cases hrc : recs[c]? with
        | none => rw [hrc] at h; cases h
        | some r' => rw [hrc] at h; exact ⟨r',rfl,memb_iff.1 h⟩
    · have hj' : j < recs.length := by rw [h1]; simpa using hjs
      refine ⟨recs[j],by simp [hj'],fun i hi => ?_⟩
      have := h5 recs[j] (List.mem_drop_iff_getElem.2 ⟨j - m,by omega,by congr 1; omega⟩) i (List.mem_range.2 hi)
      exact this
    · obtain ⟨⟨_,h5⟩,_⟩ := h4 p (List.mem_of_mem_take hp)
      have := h5 k hk
      exact ⟨by show ¬ k < S.n; omega,this.2⟩
  · have : (zipI 0 ops recs).length = ops.length := zipI_len h1.symm
    simp only [List.length_take,this,List.size_toArray]; omega
theorem EX.rest {cx : Cx} {ops : Array Oper} {c : Nat} {LA : Array Bool} {Q : Exit → Act → World → Prop} {S : St} (h : AnyS cx ops Q c LA S) : EX cx S .normal (restQ cx ops c LA Q) := fun ε I a w hs => h ε I a w hs
def RcR {n1 : Nat} (F : Nat → Prop) (I : IH) (w : World) (Y K : YI n1) : Ending → World → Prop := fun e w' =>
  ∃ b F' I',e = .returned (.bool b) ∧ Keep F w w' ∧ I.le I' ∧ I'.on w' ∧ (∀ c o,I' c = some o → I c = some o ∨ w.heap.size ≤ c) ∧ (∀ c,F c → F' c) ∧ (∀ c,F' c → F c ∨ w.heap.size ≤ c) ∧ (bif b then Y else K).J F' I' w'
def CallR (P : Program) (f : FuncId) (args : Array Value) {n1 : Nat} (F : Nat → Prop) (I : IH) (w : World) (Y K : YI n1) : Prop := CallsIn Fence.wide 0 P f args w (RcR F I w Y K)
def SigG (P : Program) (f : FuncId) (svs : List SV) (X0 : List (Nat × Pred)) {n1 : Nat} (I0 : IH) (F0 : Nat → Prop) (Y Y' K : YI n1) : Prop :=
  ∀ (I : IH) (w : World) (F : Nat → Prop) (ν : Nat → Value),I0.le I → I.on w → n1 ≤ w.heap.size → (∀ b,F0 b → F b) → FactsOK ν I X0 → Y.J F I w → CallR P f (svs.map (den0 ν)).toArray F I w Y' K
theorem SigG.introF {P : Program} {f : FuncId} {fn : Func} {c : Code} {svs : List SV} {X0 : List (Nat × Pred)} {n1 : Nat} {I0 : IH} {F0 : Nat → Prop} {Y Y' K : YI n1} (hf : P.funcs[f]? = some fn) (hb : fn.body = some c) (n ky : Nat) (fr : List (Nat × SV)) (hfr : fr = frOf 0 svs)
    (hwf : ∀ x ∈ svs,x.res (keys X0)) (hn : (keys X0).all (Nat.blt · n) = true) (hky : Nat.blt ky n = true) (hN : Nat.ble svs.length fn.ntmps = true)
    (h : ∀ I w F,I0.le I → n1 ≤ w.heap.size → (∀ b,F0 b → F b) → (∀ b,F b → b < w.heap.size ∧ I b = none) → WP ⟨P,none,w,fn.ntmps,F,I,0,fun _ => 0,fun _ => undef⟩ ⟨n,fr,X0,[(ky,.ext (Y.xp F))],[],[]⟩ c (Post P fn (RcR F I w Y' K))) : SigG P f svs X0 I0 F0 Y Y' K := fun I w F ν hI0 hI hn1 hF0 hX hJ => by
  refine callsIn_of_wp_marks hf hb trivial ?_
  refine h I w F hI0 hn1 hF0 (Y.ft hJ) ⟨fun _ => 0,ν,fun _ => true⟩ I _ w ?_
  have hN' : svs.length ≤ fn.ntmps := by simpa using hN
  subst hfr
  refine ⟨?_,?_,fun k e he => ?_,fun _ h => (by cases h),fun _ _ h => (by cases h),fun _ _ h => (by cases h),?_,rfl,?_,hX.get,fun k e he => ?_,fun k e he b hb => ?_,fun k k' e e' b he he' hne => ?_,hI,Keep.refl w,IH.le.rfl',fun _ _ h => .inl h,fun _ h => absurd h (Nat.not_lt_zero _),fun k x he => ?_⟩
  · intro i x hx
    have := (look_frOf svs 0 i x hx).2
    exact SV.on_res (fun j hj => by simpa [Nat.blt_eq] using List.all_eq_true.1 hn j hj) (hwf x (List.mem_of_getElem? this))
  · intro j R hj
    simpa [Nat.blt_eq] using List.all_eq_true.1 hn j (look_keys hj)
  · obtain ⟨rfl,rfl⟩ := look_one he
    exact ⟨by simpa [Nat.blt_eq] using hky,trivial⟩
  · simp; omega
  · intro i x hx
    have := (look_frOf svs 0 i x hx).2
    simp only [Nat.sub_zero] at this
    have hi : i < svs.length := (List.getElem?_eq_some_iff.1 this).1
    rw [Array.getElem?_append_left (by simpa using hi)]
    simp [this,den0]
  · obtain ⟨rfl,rfl⟩ := look_one he; exact hJ
  · obtain ⟨rfl,rfl⟩ := look_one he
    obtain ⟨h1,h2⟩ := Y.ft hJ b hb
    exact ⟨.inr hb,h1,h2⟩
  · obtain ⟨rfl,_⟩ := look_one he
    obtain ⟨rfl,_⟩ := look_one he'
    exact absurd rfl hne
  · obtain ⟨_,h⟩ := look_one he
    cases h
    exact ⟨hn1,fun b hb => ⟨Nat.lt_of_lt_of_le hb hn1,fun h => h⟩⟩
theorem EX.finG {cx : Cx} {S : St} {fn : Func} {rs : List ResultVar} {els : List El} {n1 : Nat} {Y K : YI n1} {F : Nat → Prop} {e : Exit} (b : Bool) (ky : Nat) (he : e = .ret ∨ e = .normal) (hr : fn.results = rs.toArray) (hres : ResOf cx S rs els)
    (hsv : resSV els = .b b) (hF : ∀ c,cx.E c → F c) (hL : look ky S.L = some (.ext ((bif b then Y else K).xp F))) (hmk : ∀ k ∈ S.D,look k S.L = some (.ob (.deferred (some [])))) (hnd : S.D.Nodup) :
    EX cx S e (Post cx.P fn (RcR cx.E cx.I0 cx.w0 Y K)) := by
  intro ε I a w hs
  have key : LeavesInM (fen none) 0 cx.P fn a.tmps (RcR cx.E cx.I0 cx.w0 Y K) a.defers .returning w :=
    leavesM2 hr S.D S a w rfl hmk hnd hs hres fun S' a' w' hs' hk' => by
      have hL' := hk' ky _ hL (fun o h => by cases h)
      refine ⟨b,F,I,by rw [hsv]; rfl,hs'.keep,hs'.le0,hs'.imm,hs'.fr0,hF,fun c hc => ?_,hs'.L ky _ hL'⟩
      rcases (hs'.foot ky _ hL' c hc).1 with h | h
      · exact .inr h
      · exact .inl h
  rcases he with rfl | rfl <;> exact key
theorem yieldG {cx : Cx} {S : St} {l ky : Nat} {svs : List SV} {J : List Nat} {F : Nat → Prop} {it : Item} {n1 : Nat} {Y Y' K' : YI n1} {I0 : IH} {F0 : Nat → Prop} (ρ : Nat → Nat)
    (hround : ∀ F I' w' us vs,Y.J F I' w' → I0.le I' → I'.on w' → n1 ≤ w'.heap.size → (∀ b,F0 b → F b) → it.ok F I' w' us vs → RoundR cx.P l vs n1 F I' w' Y' K') (hI0 : I0.le cx.I0) (hn1 : n1 ≤ cx.w0.heap.size)
    (hk : look ky S.L = some (.ext (Y.xp F))) (hF : ∀ b,F0 b → F b) (hsv : SvsOK S svs (it.svs.map (SV.ren ρ))) (hwf : ∀ x ∈ it.svs,x.res J) (hX : RenOK S.X ρ it.X) (es : Nat → Value) (hq : J.all (Nat.blt · 1000) = true ∧ (keys it.X).all (Nat.blt · 1000) = true ∧ (keys it.Lt).all (Nat.blt · 1000) = true) (hLt : LtOK S ky ρ es it.Lt) :
    ∀ ε I a w,Sat cx ε I S a w → RoundR cx.P l (svs.map (SV.den ε)) n1 F I w Y' K' := by
  intro ε I a w hs
  refine hround F I w (usE (fun j => ε.ν (ρ j)) es) _ (hs.L ky _ hk) (hI0.trans hs.le0) hs.imm (Nat.le_trans hn1 hs.keep.size) hF ⟨?_,fun j R hj => ?_,fun j R hj => ?_⟩
  · rw [hsv.den hs,svs_ren hwf,usE_den hq.1 hwf]
  · rw [usE_lt (by simpa [Nat.blt_eq] using List.all_eq_true.1 hq.2.1 j (look_keys hj))]; exact hs.has (hX.get j R hj)
  · have hjl : j < 1000 := by simpa [Nat.blt_eq] using List.all_eq_true.1 hq.2.2 j (look_keys hj)
    cases hLt.get j R hj with
    | own hl hR hf he =>
      subst hR
      obtain ⟨xs,h1,h2⟩ := hs.L _ _ hl
      rw [usE_lt hjl,usE_ge,he]
      refine ⟨own_pl h1 h2 (fun cs x h => hf _ _ cs x h) fun b hb => by simp only [rd,if_pos (show lblk _ _ b from .inl hb)],fun b hb => ?_⟩
      have hb := lblk_undef hb
      refine ⟨(hs.foot _ _ hl b hb).2.1,fun hFb => ?_⟩
      have hne : ρ j ≠ ky := fun e => by rw [e,hk] at hl; cases hl
      exact hs.sep _ ky _ _ b hl hk hne hb hFb
    | mem hX hl hne hR =>
      rw [usE_lt hjl,usE_ge,show ε.ν (ρ j) = _ from hs.has hX]
      obtain ⟨g1,g2⟩ := hR I w (hs.L _ _ hl)
      exact ⟨g1,fun b hb => ⟨(hs.foot _ _ hl b (g2 b hb)).2.1,fun hFb => hs.sep _ ky _ _ b hl hk hne (g2 b hb) hFb⟩⟩
def GoP (P : Program) {n1 : Nat} (I0 : IH) (F0 : Nat → Prop) {ι : Type} (Yi Yo Ko : ι → YI n1) (ok : ι → Prop) (svs : ι → List SV) (X0 : ι → List (Nat × Pred)) : Pred where
  h I v := (∃ fn fs cs,v = .func fn fs cs) ∧ ∀ i,ok i → ∀ (I' : IH) (w : World) (F : Nat → Prop) (ν : Nat → Value),I.le I' → I0.le I' → I'.on w → n1 ≤ w.heap.size → (∀ c,F0 c → F c) → FactsOK ν I' (X0 i) → (Yi i).J F I' w → ∃ f args',FnV P v ((svs i).map (den0 ν)) f args' ∧ CallR P f args' F I' w (Yo i) (Ko i)
  mono hI h := ⟨h.1,fun i hi I' w F ν hle => h.2 i hi I' w F ν (hI.trans hle)⟩
theorem goH {cx : Cx} {S : St} {j ky : Nat} {svs' : List SV} {n1 : Nat} {I0 : IH} {F F0 : Nat → Prop} {ι : Type} {Yi Yo Ko : ι → YI n1} {ok : ι → Prop} {svs : ι → List SV} {X0 : ι → List (Nat × Pred)} (ρ : Nat → Nat) (i : ι) (hj : Has S.X j (GoP cx.P I0 F0 Yi Yo Ko ok svs X0)) (hi : ok i)
    (hI0 : I0.le cx.I0) (hn1 : n1 ≤ cx.w0.heap.size) (hk : look ky S.L = some (.ext ((Yi i).xp F))) (hF : ∀ c,F0 c → F c) (hren : SvsOK S svs' ((svs i).map (SV.ren ρ))) (hwf : ∀ x ∈ svs i,x.res (keys (X0 i))) (hX : RenOK S.X ρ (X0 i)) :
    ∀ ε I ac w,Sat cx ε I S ac w → ∃ f args',FnV cx.P ((SV.e (.a (.q j))).den ε) (svs'.map (SV.den ε)) f args' ∧ CallR cx.P f args' F I w (Yo i) (Ko i) := by
  intro ε I ac w hs
  obtain ⟨f,args',h1,h2⟩ := (hs.has hj).2 i hi I w F (fun j => ε.ν (ρ j)) IH.le.rfl' (hI0.trans hs.le0) hs.imm (Nat.le_trans hn1 hs.keep.size) hF (FactsOK.of (fun j R hj => hs.has hj) hX) (hs.L ky _ hk)
  exact ⟨f,args',by rw [hren.den hs,svs_ren hwf]; exact h1,h2⟩
theorem GoP.of {P : Program} {n1 : Nat} {I0 : IH} {F0 : Nat → Prop} {ι : Type} {Yi Yo Ko : ι → YI n1} {ok : ι → Prop} {svs : ι → List SV} {cs : List SV} {X0 : ι → List (Nat × Pred)} {Xc : ι → List (Nat × Pred)} {f : FuncId} (hen : Enters' P f)
    (hs : ∀ i,ok i → SigG P f (svs i ++ cs) (X0 i ++ Xc i) I0 F0 (Yi i) (Yo i) (Ko i)) (hd : ∀ i,disj (keys (Xc i)) (keys (X0 i)) = true) (hwf : ∀ i,∀ x ∈ svs i,x.res (keys (X0 i))) (hwc : ∀ i,∀ x ∈ cs,x.res (keys (Xc i)))
    {I : IH} {ν : Nat → Value} (hc : ∀ i,ok i → FactsOK ν I (Xc i)) : (GoP P I0 F0 Yi Yo Ko ok svs X0).h I (.func (.func f) #[] (cs.map (den0 ν)).toArray) := by
  refine ⟨⟨_,_,_,rfl⟩,?_⟩
  intro i hi I' w F ν' hle hI0 hon hn1 hF hX hJ
  let ν2 : Nat → Value := fun k => if k ∈ keys (X0 i) then ν' k else ν k
  have e1 : ∀ k ∈ keys (X0 i),ν2 k = ν' k := fun k hk => by simp [ν2,hk]
  have e2 : ∀ k ∈ keys (Xc i),ν2 k = ν k := fun k hk => by
    have : k ∉ keys (X0 i) := notin_iff (List.all_eq_true.1 (hd i) k hk)
    simp [ν2,this]
  refine ⟨f,_,FnV.of hen,?_⟩
  have := hs i hi I' w F ν2 hI0 hon hn1 hF (FactsOK.app (FactsOK.congr e1 hX) (FactsOK.congr e2 (FactsOK.mono hle (hc i hi)))) hJ
  have ha : (#[] ++ ((svs i).map (den0 ν')).toArray ++ (cs.map (den0 ν)).toArray : Array Value) = ((svs i ++ cs).map (den0 ν2)).toArray := by
    rw [List.map_append,List.map_congr_left (fun x hx => (den0_congr e1 (hwf i x hx)).symm),List.map_congr_left (fun x hx => (den0_congr e2 (hwc i x hx)).symm)]
    simp
  rw [ha]; exact this
section
variable {cx : Cx} {Q : Exit → Act → World → Prop} {ops : Array Oper} {rest : List Oper}
variable {n : Nat} {fr : List (Nat × SV)} {X : List (Nat × Pred)} {L : List (Nat × Ent)} {D : List Nat} {G : List (Nat × Bool)} {d : Tmp} {ty : TypeId} {pos : String} {af : Array Edge} {gd : Option (Nat × Bool)}
theorem callG_core {x : Operand} {xs : List Operand} {ts : Array TypeId} {sv : SV} {svs : List SV} {n1 : Nat} {Y Y' K' : YI n1} {F : Nat → Prop} {o : Oper} {next : Act → World → Prop} (ky : Nat) (ho : o = ⟨some d,.call { callee := .value x,args := xs.toArray,argTypes := ts },ty,pos,af,gd⟩) (hd : Nat.blt d cx.N = true)
    (hx : St.op ⟨n,fr,X,L,D,G⟩ x = some sv) (hl : St.ops ⟨n,fr,X,L,D,G⟩ xs = some svs) (hk : look ky L = some (.ext (Y.xp F))) {ε : Env} {I : IH} {a : Act} {w : World} (hs : Sat cx ε I ⟨n,fr,X,L,D,G⟩ a w)
    (h : ∃ f args',FnV cx.P (sv.den ε) (svs.map (SV.den ε)) f args' ∧ CallR cx.P f args' F I w Y' K')
    (K : ∀ b F',(∀ c,F c → F' c) → ∀ ε' I' w',Sat cx ε' I' ⟨n,(d,.b b) :: fr,X,(ky,.ext ((bif b then Y' else K').xp F')) :: L,D,G⟩ (a.put (some d) (.bool b)) w' → next (a.put (some d) (.bool b)) w') : o.wpIn (fen cx.r) 0 cx.P a w next Q := by
  subst ho
  obtain ⟨f,args',h1,h2⟩ := h
  have hx' := hs.eval hx
  have hl' := hs.evals hl
  have hop : (execOp a.eval ⟨some d,.call { callee := .value x,args := xs.toArray,argTypes := ts },ty,pos,af,gd⟩).run cx.P w = .ok (.enter f args') w := by
    have := h1 w
    simpa [execOp,resolve,hx',hl'] using this
  refine ⟨fun _ _ => trivial,?_⟩
  rw [semAt_eq _ _ _ (fun _ => by simp),hop]
  refine ⟨fun h => (by cases h),CallsIn.mono (callsIn_fen h2) ?_⟩
  rintro e w' ⟨b,F',I',rfl,hkp,hle,hon,hfr,hF1,hF2,hJ⟩
  obtain ⟨hx1,hx2⟩ := hs.ext ky _ hk
  have hft := fun b hb => hs.foot ky _ hk b hb
  have hfp : ∀ c,F c → fpOf ⟨n,fr,X,L,D,G⟩ ε ⟨.b b,[],[],[(ky,.ext ((bif b then Y' else K').xp F'))],[]⟩ c := fun c hc => ⟨ky,_,by simp [look],hk,hc⟩
  have hF := (bif b then Y' else K').ft hJ
  have := SatM.app (d := some d) (u := ⟨.b b,[],[],[(ky,.ext ((bif b then Y' else K').xp F'))],[]⟩) n hs (St.le.refl _) (fun k hk => by cases hk) (fun i hi => by cases hi; rw [Nat.blt_eq] at hd; exact hd)
    (ε' := ε) (I' := I') (w' := w') ⟨fun _ _ => ⟨rfl,rfl,rfl⟩,hle,hon,hkp.os,hkp.tape,hkp.output,hkp.size,fun c hc hn => hkp.block c hc (fun h => hn (hfp c h)),fun c o hc => by
      rcases hfr c o hc with h | h
      · exact .inl h
      · exact .inr (.inl h)⟩
    ⟨trivial,fun _ _ h => (by cases h),fun _ _ h => (by cases h),fun i e he => by obtain ⟨rfl,rfl⟩ := look_one he; exact ⟨.inl (hs.wfL i _ hk).1,trivial⟩,fun _ _ h => (by cases h),
      fun i e he => by obtain ⟨rfl,rfl⟩ := look_one he; exact hJ,
      fun i e he c hc => by
        obtain ⟨rfl,rfl⟩ := look_one he
        have hc : F' c := hc
        refine ⟨?_,(hF c hc).1,(hF c hc).2,?_⟩
        · rcases hF2 c hc with h | h
          · exact (hft c h).1
          · exact .inl (Nat.le_trans hs.keep.size h)
        · rcases hF2 c hc with h | h
          · exact .inr (hfp c h)
          · exact .inl h,
      fun i i' e e' c he he' hne => by
        obtain ⟨rfl,_⟩ := look_one he
        obtain ⟨rfl,_⟩ := look_one he'
        exact absurd rfl hne,
      fun i x hx => by
        obtain ⟨_,h⟩ := look_one hx
        cases h
        exact ⟨hx1,fun c hc => ⟨(hx2 c hc).1,fun hE => hF1 c ((hx2 c hc).2 hE)⟩⟩⟩
  refine K b F' hF1 ε I' w' (SatM.mono (fun k hk => ?_) this)
  rcases hk with hk | hk
  · exact hk
  · cases hk
theorem WPl.callG {x : Operand} {xs : List Operand} {ts : Array TypeId} {sv : SV} {svs : List SV} {n1 : Nat} {Y Y' K' : YI n1} {F : Nat → Prop} (ky : Nat) (hd : Nat.blt d cx.N = true) (hg : GOK ops fr gd true)
    (hx : St.op ⟨n,fr,X,L,D,G⟩ x = some sv) (hl : St.ops ⟨n,fr,X,L,D,G⟩ xs = some svs) (hk : look ky L = some (.ext (Y.xp F)))
    (h : ∀ ε I a w,Sat cx ε I ⟨n,fr,X,L,D,G⟩ a w → ∃ f args',FnV cx.P (sv.den ε) (svs.map (SV.den ε)) f args' ∧ CallR cx.P f args' F I w Y' K')
    (K : ∀ b F',(∀ c,F c → F' c) → WPl cx ops ⟨n,(d,.b b) :: fr,X,(ky,.ext ((bif b then Y' else K').xp F')) :: L,D,G⟩ rest Q) :
    WPl cx ops ⟨n,fr,X,L,D,G⟩ (⟨some d,.call { callee := .value x,args := xs.toArray,argTypes := ts },ty,pos,af,gd⟩ :: rest) Q := by
  intro ε I a w hs
  refine wpListIn_step fun K0 hK => ?_
  rw [if_pos (GOK.wanted hs hg)]
  exact callG_core ky rfl hd hx hl hk hs (h ε I a w hs) fun b F' hF ε' I' w' hs' => hK _ _ (K b F' hF ε' I' _ w' hs')
variable {fuel : Nat} {listed : Array Bool} {i : Nat}
end
end Go.Eng
namespace Go.Eng
open Go
theorem wpl_val {cx : Cx} {Q : Exit → Act → World → Prop} {ops : Array Oper} {rest : List Oper} {o : Oper} {a : Act} {w w' : World} {v : Value} (hg : o.guard = none) (hnd : ∀ c,o.op ≠ .defer c) (hrun : (execOp a.eval o).run cx.P w = .ok (.value v) w')
    (K : wpListIn (fen cx.r) 0 cx.P ops Q rest (a.put o.dst v) w') : wpListIn (fen cx.r) 0 cx.P ops Q (o :: rest) a w := by
  refine wpListIn_plain hg fun K0 hK => ⟨fun _ _ => trivial,?_⟩
  rw [semAt_eq _ _ _ hnd,hrun]; exact hK _ _ K
theorem wpl_skip {cx : Cx} {Q : Exit → Act → World → Prop} {ops : Array Oper} {rest : List Oper} {op : Op} {ty : TypeId} {pos : String} {af : Array Edge} {a : Act} {w w' : World} (hnd : ∀ c,op ≠ .defer c) (hrun : (execOp a.eval ⟨none,op,ty,pos,af,none⟩).run cx.P w = .ok .skip w')
    (K : wpListIn (fen cx.r) 0 cx.P ops Q rest a w') : wpListIn (fen cx.r) 0 cx.P ops Q (⟨none,op,ty,pos,af,none⟩ :: rest) a w := by
  refine wpListIn_plain rfl fun K0 hK => ⟨fun _ _ => trivial,?_⟩
  rw [semAt_eq _ _ _ hnd,hrun]; exact hK _ _ K
def setI (I : IH) (g : Nat) (o : Obj) : IH := fun b => if b = g then some o else I b
theorem setI_le {I : IH} {w : World} {o : Obj} (hI : I.on w) : I.le (setI I w.heap.size o) := fun b o' hb => by
  have : b ≠ w.heap.size := fun e => by
    subst e; have := hI _ _ hb; simp at this
  simp [setI,this,hb]
theorem tr_set {n0 k : Nat} {ε : Env} {I : IH} {w w' : World} {N : List Nat} {fp : Nat → Prop} {o : Obj} {u : Value} (hN : N = [k]) (hI : I.on w) (h0 : w'.heap[w.heap.size]? = some o) (h1 : ∀ b,b < w.heap.size → w'.heap[b]? = w.heap[b]?) (hos : w'.os = w.os) (htp : w'.tape = w.tape) (hout : Out w' w) (hsz : w.heap.size ≤ w'.heap.size) :
    Tr n0 ε ⟨ε.β,upd ε.ν k u,ε.γ⟩ I (setI I w.heap.size o) w w' N fp := by
  subst hN
  refine ⟨fun i hi => ?_,setI_le hI,fun b o' hb => ?_,hos,htp,hout,hsz,fun b hb _ => h1 b hb,fun b o' hb => ?_⟩
  · have : i ≠ k := fun e => hi (by simp [e])
    exact ⟨rfl,upd_other _ _ this,rfl⟩
  · by_cases e : b = w.heap.size
    · subst e; simp only [setI,if_true] at hb; rw [h0]; exact hb
    · simp only [setI,if_neg e] at hb
      have hlt : b < w.heap.size := (Array.getElem?_eq_some_iff.1 (hI _ _ hb)).1
      rw [h1 b hlt]; exact hI _ _ hb
  · by_cases e : b = w.heap.size
    · subst e; exact .inr (.inl (Nat.le_refl _))
    · simp only [setI,if_neg e] at hb; exact .inl hb
theorem new_q {cx : Cx} {M : Nat → Prop} {S : St} {ε : Env} {I' : IH} {w w' : World} {k : Nat} {R : Pred} {u : Value} (h : R.h I' u) : New cx M S ε ⟨ε.β,upd ε.ν k u,ε.γ⟩ I' w w' ⟨.e (.a (.q k)),[k],[(k,R)],[],[]⟩ :=
  ⟨.inr (by simp),fun j R' hj => by obtain ⟨rfl,_⟩ := look_one hj; exact .inr (by simp),fun _ _ h => (by cases h),fun _ _ h => (by cases h),
    fun j R' hj => by obtain ⟨rfl,rfl⟩ := look_one hj; simpa only [upd_same] using h,fun _ _ h => (by cases h),fun _ _ h => (by cases h),fun _ _ _ _ _ h => (by cases h),fun _ _ h => (by cases h)⟩
theorem cell_setI {I : IH} {g j : Nat} {l : List Value} {T : TypeId} {z : Value} (h : l[j]? = some z) : (setI I g (.cells l.toArray T (0,0))).cell ((⟨g,0,none⟩ : Addr).add j) = some z := by
  rw [Addr.add_plain,Nat.zero_add]
  simp only [IH.cell,setI,if_true]
  simpa using h
section ops
variable {cx : Cx} {S : St} {dst : Option Tmp} {ty : TypeId} {pos : String} {af : Array Edge} {gd : Option (Nat × Bool)}
theorem o_boxq {x : Operand} {T : TypeId} {k : Nat} {z : El} {cs : List At} {α : Type} {E : EP α} {y : α} (hx : S.op x = some (.e z)) (hc : ∀ M ε I a w,SatM cx M ε I S a w → (z.den ε).cells = (cs.map (At.den ε)).toArray) (hz : ∀ M ε I a w,SatM cx M ε I S a w → E.h I (cs.map (At.den ε)) y) :
    OpG cx S ⟨dst,.box T x,ty,pos,af,gd⟩ ⟨.e (.a (.q k)),[k],[(k,PP E y)],[],[]⟩ := by
  intro M ε I a w next Q hs hN K
  have h := hs.eval hx
  have hrun : (execOp a.eval ⟨dst,.box T x,ty,pos,af,gd⟩).run cx.P w = .ok (.value (.pointer (some ⟨w.heap.size,0,none⟩))) (w.alloc (.cells (cs.map (At.den ε)).toArray T)) := by
    simp [execOp,h,SV.den,Instr.box,newVar,newRow,newObj,Sem.run,hc M ε I a w hs]
  refine ⟨fun _ _ => trivial,?_⟩
  rw [semAt_eq _ _ _ (fun _ => by simp),hrun]
  have := K _ _ (w.alloc (.cells (cs.map (At.den ε)).toArray T)) (tr_set (k := k) (u := .pointer (some ⟨w.heap.size,0,none⟩)) rfl hs.imm (heap_alloc_new w _) (fun b hb => heap_alloc_old w _ hb) rfl rfl Out.rf (by simp)) (new_q (R := PP E y) ⟨_,_,rfl,rfl,E.mono (setI_le hs.imm) (hz M ε I a w hs),fun j z hj => cell_setI hj⟩)
  simp only [SV.den,El.den,At.den,upd_same] at this
  exact this
theorem o_ldqis {x : Operand} {T : TypeId} {j : Nat} {u : Value} (hT : TyS cx.P T) (hx : S.op x = some (.e (.a (.q j)))) (hj : Has S.X j (PP (EP.box (Pred.is u)) ())) : OpG cx S ⟨dst,.load T x,ty,pos,af,gd⟩ (.val (.e (.a (.v u)))) :=
  OpG.pure (fun _ => by simp) fun M ε I a w hs => ⟨trivial,by
    have h := hs.eval hx
    obtain ⟨ad,cs,h1,h2,⟨v,h3,h5⟩,h4⟩ := hs.has hj
    simp only [SV.den,El.den,At.den,h1] at h
    have h7 := IH.cell_on hs.imm (h4 0 v (by rw [h3]; rfl))
    rw [Addr.add_zero'] at h7
    have h5 : v = u := h5
    subst h5
    simp [execOp,h,run_load1 hT h7,SV.den,El.den,At.den]⟩
end ops
section
variable {cx : Cx} {Q : Exit → Act → World → Prop} {ops : Array Oper} {rest : List Oper}
variable {n : Nat} {fr : List (Nat × SV)} {X : List (Nat × Pred)} {L : List (Nat × Ent)} {D : List Nat} {G : List (Nat × Bool)}
end
end Go.Eng
namespace Go.Eng
open Go
section
variable {cx : Cx} {S : St} {dst : Option Tmp} {ty : TypeId} {pos : String} {af : Array Edge} {gd : Option (Nat × Bool)} {x y : Operand} {t t' : TypeId}
theorem o_idxv {T e : TypeId} {n sz : Nat} {i : Int} {cs cs' : List At} (hT : cx.P.underlying T = some (.array n e)) (hG : TyG cx.P e sz) (hx : S.op x = some (.e (.g cs))) (hi : S.op y = some (.i i)) (h0 : 0 ≤ i) (h1 : i < n) (hc : (cs.drop (i.toNat * sz)).take sz = cs') :
    OpG cx S ⟨dst,.index T x y,ty,pos,af,gd⟩ (.val (.e (.g cs'))) :=
  OpG.pure (fun _ => by simp) fun M ε I a w hs => ⟨fun z hz => hs.on (sv := .e (.g cs)) hx z (by subst hc; exact List.mem_of_mem_drop (List.mem_of_mem_take hz)),by
    have h := hs.eval hx
    have h' := hs.eval hi
    simp only [SV.den,El.den,At.den] at h h'
    have h2 : ((cs.map (At.den ε)).toArray.extract (i.toNat * sz) (i.toNat * sz + sz)) = (cs'.map (At.den ε)).toArray := by
      subst hc
      rw [List.extract_toArray,List.extract_eq_take_drop,Nat.add_sub_cancel_left,List.map_take,List.map_drop]
    simp [execOp,h,h',Instr.index,asIntOf,run_underlying hT,h0,h1,hG.sz,part,hG.ag,h2,SV.den,El.den]
    rw [← hc,List.map_take,List.map_drop]⟩
theorem o_idxv1 {T e : TypeId} {n : Nat} {i : Int} {cs : List At} {z : At} (hT : cx.P.underlying T = some (.array n e)) (hS : TyS cx.P e) (hx : S.op x = some (.e (.g cs))) (hi : S.op y = some (.i i)) (h0 : 0 ≤ i) (h1 : i < n) (hc : cs[i.toNat]? = some z) :
    OpG cx S ⟨dst,.index T x y,ty,pos,af,gd⟩ (.val (.e (.a z))) :=
  OpG.pure (fun _ => by simp) fun M ε I a w hs => ⟨hs.on (sv := .e (.g cs)) hx z (List.mem_of_getElem? hc),by
    have h := hs.eval hx
    have h' := hs.eval hi
    simp only [SV.den,El.den,At.den] at h h'
    have h2 : Option.map (At.den ε) cs[i.toNat]? = some (z.den ε) := by rw [hc]; rfl
    simp [execOp,h,h',Instr.index,asIntOf,run_underlying hT,h0,h1,hS.sz,part,hS.ag,h2,SV.den,El.den]⟩
theorem o_ishr {a b r : Int} (hx : S.op x = some (.i a)) (hy : S.op y = some (.i b)) (hb : 0 ≤ b) (hr : a.fdiv (2 ^ min b.toNat 64) = r) : OpG cx S ⟨dst,.binOp .shr t x y t',ty,pos,af,gd⟩ (.val (.i r)) :=
  o_binv (a := .int .i64 a) (b := .int .i64 b) hx hy fun w => by
    have h : ¬ b < 0 := by omega
    rw [← hr]
    show (do eqGuard BinOp.shr t x y _ _; Op.shift .shr .i64 a .i64 b : Sem Value).run cx.P w = _
    unfold Op.shift
    rw [if_neg h]; rfl
theorem o_ishl {a b r : Int} (hx : S.op x = some (.i a)) (hy : S.op y = some (.i b)) (hb : 0 ≤ b) (hr : IntKind.i64.wrap (a * 2 ^ min b.toNat 64) = r) : OpG cx S ⟨dst,.binOp .shl t x y t',ty,pos,af,gd⟩ (.val (.i r)) :=
  o_binv (a := .int .i64 a) (b := .int .i64 b) hx hy fun w => by
    have h : ¬ b < 0 := by omega
    rw [← hr]
    show (do eqGuard BinOp.shl t x y _ _; Op.shift .shl .i64 a .i64 b : Sem Value).run cx.P w = _
    unfold Op.shift
    rw [if_neg h]; rfl
theorem o_ior {a b r : Int} (hx : S.op x = some (.i a)) (hy : S.op y = some (.i b)) (hr : IntKind.i64.wrap (BitVec.ofInt 64 a ||| BitVec.ofInt 64 b).toNat = r) :
    OpG cx S ⟨dst,.binOp .or t x y t',ty,pos,af,gd⟩ (.val (.i r)) :=
  o_binv (a := .int .i64 a) (b := .int .i64 b) hx hy fun w => by rw [← hr]; rfl
end
section
variable {cx : Cx} {S : St} {dst : Option Tmp} {ty : TypeId} {pos : String} {af : Array Edge} {gd : Option (Nat × Bool)} {x y : Operand} {t t' : TypeId} {a b : Int}
theorem o_rem (hx : S.op x = some (.i a)) (hy : S.op y = some (.i b)) (h1 : 0 ≤ a) (hb : 0 < b ∧ b ≤ 1000000) : OpG cx S ⟨dst,.binOp .rem t x y t',ty,pos,af,gd⟩ (.val (.i (a % b))) := by
  have hb0 : b ≠ 0 := by omega
  have : OpG cx S ⟨dst,.binOp .rem t x y t',ty,pos,af,gd⟩ (.val (.i (a.tmod b))) := o_bin hx hy fun w => by simp [eqGuard,binOp,Op.intDiv,hb0]
  rw [Int.tmod_eq_emod_of_nonneg h1] at this
  exact this
end
end Go.Eng
namespace Go.Eng
open Go
def Rounds (P : Program) (l n1 : Nat) (I0 : IH) (F0 : Nat → Prop) (Y : Nat → YI n1) (K : YI n1) (items : List Item) : Prop :=
  ∀ i it,items[i]? = some it → ∀ F I' w' us vs,(Y i).J F I' w' → I0.le I' → I'.on w' → n1 ≤ w'.heap.size → (∀ b,F0 b → F b) → it.ok F I' w' us vs → RoundR P l vs n1 F I' w' (Y (i + 1)) K
theorem GoP.knot {P : Program} {n1 : Nat} {I0 : IH} {F0 : Nat → Prop} {ι : Type} {Yi Ko : ι → YI n1} {Yo : Nat → ι → YI n1} {ok : Nat → ι → Prop} {svs : ι → List SV} {cs : List SV} {X0 : ι → List (Nat × Pred)} {Xc : Nat → List (Nat × Pred)} {f : FuncId} (hen : Enters' P f)
    (h0 : ∀ i,¬ ok 0 i) (hs : ∀ m i,ok (m + 1) i → SigG P f (svs i ++ cs) (X0 i ++ Xc m) I0 F0 (Yi i) (Yo (m + 1) i) (Ko i)) (hd : ∀ m i,disj (keys (Xc m)) (keys (X0 i)) = true) (hwf : ∀ i,∀ x ∈ svs i,x.res (keys (X0 i))) (hwc : ∀ m,∀ x ∈ cs,x.res (keys (Xc m)))
    {I' : IH} {ν : Nat → Value} {u : Value} (hu : u = .func (.func f) #[] (cs.map (den0 ν)).toArray) (hc : ∀ m,(GoP P I0 F0 Yi (Yo m) Ko (ok m) svs X0).h I' u → FactsOK ν I' (Xc m)) : ∀ m,(GoP P I0 F0 Yi (Yo m) Ko (ok m) svs X0).h I' u
  | 0 => by subst hu; exact ⟨⟨_,_,_,rfl⟩,fun i hi => absurd hi (h0 i)⟩
  | m + 1 => by
    have ih := GoP.knot hen h0 hs hd hwf hwc hu hc m
    have h := hc m ih
    subst hu
    exact GoP.of (Xc := fun _ => Xc m) hen (hs m) (hd m) hwf (fun _ => hwc m) (fun _ _ => h)
theorem pp_cell {I : IH} {g : Nat} {u : Value} {R : Pred} (h : I.cell ⟨g,0,none⟩ = some u) (hR : R.h I u) : (PP (EP.box R) ()).h I (.pointer (some ⟨g,0,none⟩)) :=
  ⟨_,[u],rfl,rfl,⟨u,rfl,hR⟩,fun j z hj => by
    cases j with
    | zero => simp only [List.getElem?_cons_zero,Option.some.injEq] at hj; subst hj; rw [Addr.add_zero']; exact h
    | succ j => simp at hj⟩
section
variable {cx : Cx} {Q : Exit → Act → World → Prop} {ops : Array Oper} {fuel : Nat} {listed : Array Bool}
theorem StepsS.one {S : St} {i : Nat} (h : StepS cx ops Q fuel listed S i) : StepsS cx ops Q fuel listed S [i] := ⟨h,trivial⟩
end
section
variable {cx : Cx} {Q : Exit → Act → World → Prop} {rest : List Oper}
variable {n : Nat} {fr : List (Nat × SV)} {X : List (Nat × Pred)} {L : List (Nat × Ent)} {D : List Nat} {G : List (Nat × Bool)}
theorem WP.knot {d4 d5 : Tmp} {id1 id2 : Nat} {c : Code} {T : TypeId} {ty4 ty5 ty6 : TypeId} {p4 p5 p6 : String} {a4 a5 a6 : Array Edge} {f : FuncId} {l' : List Operand} {svs' : List SV} {R : Pred} (hz : Zero cx.P T [.v .nilFunc]) (hT : TyS cx.P T) (hd4 : Nat.blt d4 cx.N = true) (hd5 : Nat.blt d5 cx.N = true) (hne : Nat.beq d4 d5 = false)
    (hl' : St.ops ⟨n + 1,(d4,.e (.a (.p n 0))) :: fr,X,(n,.blk [.v .nilFunc] T) :: L,D,G⟩ l' = some svs')
    (hR : ∀ ε I a w,Sat cx ε I ⟨n + 1,(d4,.e (.a (.p n 0))) :: fr,X,(n,.blk [.v .nilFunc] T) :: L,D,G⟩ a w → ∀ I',I.le I' → I'.cell ⟨ε.β n,0,none⟩ = some (.func (.func f) #[] (svs'.map (SV.den ε)).toArray) → R.h I' (.func (.func f) #[] (svs'.map (SV.den ε)).toArray))
    (K : WPl cx (⟨some d5,.makeFunc (.func f) #[] l'.toArray,ty5,p5,a5,none⟩ :: ⟨none,.store T (.tmp d4) (.tmp d5),ty6,p6,a6,none⟩ :: rest).toArray ⟨n + 2,(d5,.e (.a (.q (n + 1)))) :: (d4,.e (.a (.q n))) :: fr,(n + 1,R) :: (n,PP (EP.box R) ()) :: X,L,D,G⟩ rest (Exit.then (c.wpIn (fen cx.r) 0 cx.P Q) Q)) :
    WP cx ⟨n,fr,X,L,D,G⟩ (.seq (.region id1 [⟨some d4,.alloc T,ty4,p4,a4,none⟩].toArray false) (.seq (.region id2 (⟨some d5,.makeFunc (.func f) #[] l'.toArray,ty5,p5,a5,none⟩ :: ⟨none,.store T (.tmp d4) (.tmp d5),ty6,p6,a6,none⟩ :: rest).toArray false) c)) Q := by
  intro ε I a w hs
  refine wpIn_seq (wpIn_region_lit ?_)
  rw [Nat.blt_eq] at hd4 hd5
  have hne' : d4 ≠ d5 := fun e => by rw [e] at hne; simp at hne
  obtain ⟨z,hz1,hz2,hz3⟩ := hz
  have hz2' := hz2 ε
  have hr1 : (execOp a.eval ⟨some d4,.alloc T,ty4,p4,a4,none⟩).run cx.P w = .ok (.value (.pointer (some ⟨w.heap.size,0,none⟩))) (w.alloc (.cells [Value.nilFunc].toArray T)) := by
    simp [execOp,Instr.alloc,hz1,newVar,newRow,newObj,Sem.run,hz2',At.den]
  refine wpl_val rfl (fun _ => by simp) hr1 ?_
  show (Code.seq _ _).wpIn (fen cx.r) 0 cx.P Q _ _
  refine wpIn_seq (wpIn_region_lit ?_)
  have hs1 := SatM.app (d := some d4) (u := ⟨.e (.a (.p n 0)),[n],[],[(n,.blk [.v .nilFunc] T)],[]⟩) (n + 1) hs (St.le.refl _) (fun k hk hlt => by
      rw [List.mem_singleton] at hk; subst hk; exact Nat.lt_irrefl _ hlt) (fun i hi => by cases hi; exact hd4) (Tr.alloc hs.imm n (.cells (([.v .nilFunc] : List At).map (At.den ε)).toArray T) undef) (newblk hs (Nat.lt_irrefl n) (cs := [.v .nilFunc]) (fun c hc => by rw [List.mem_singleton] at hc; subst hc; trivial) T undef)
  have hs1' := SatM.mono (M' := (· < n + 1)) (fun k hk => by
    rcases hk with hk | hk
    · exact Nat.lt_succ_of_lt hk
    · rw [List.mem_singleton] at hk; subst hk; exact Nat.lt_succ_self _) hs1
  simp only [SV.den,El.den,At.den,upd_same,St.app,List.nil_append,List.cons_append] at hs1'
  have hev := hs1'.evals hl'
  generalize hv : Value.func (.func f) #[] (svs'.map (SV.den ⟨Eng.upd ε.β n w.heap.size,Eng.upd ε.ν n undef,ε.γ⟩)).toArray = v
  have hRv := hR _ _ _ _ hs1'
  rw [hv] at hRv
  simp only [upd_same] at hRv
  have hr2 : (execOp (a.put (some d4) (.pointer (some ⟨w.heap.size,0,none⟩))).eval ⟨some d5,.makeFunc (.func f) #[] l'.toArray,ty5,p5,a5,none⟩).run cx.P (w.alloc (.cells [Value.nilFunc].toArray T)) = .ok (.value v) (w.alloc (.cells [Value.nilFunc].toArray T)) := by
    simp [execOp,Instr.makeFunc,hev,← hv]
  refine wpl_val rfl (fun _ => by simp) hr2 ?_
  have hg : (w.alloc (.cells [Value.nilFunc].toArray T)).heap[w.heap.size]? = some (.cells [Value.nilFunc].toArray T (0,0)) := heap_alloc_new w _
  obtain ⟨w',h3,h4,h5,h6,h7,h8,h9⟩ := run_storeCells_blk cx.P w.heap.size T [v] 0 0 [Value.nilFunc] _ hg (by simp) (fun y hy => by rw [List.mem_singleton] at hy; subst hy; rw [← hv]; rfl)
  simp only [List.take_zero,List.nil_append,Nat.zero_add,Nat.add_zero,List.length_singleton,List.drop_succ_cons,List.drop_nil,List.append_nil] at h4
  have hsz : a.tmps.size = cx.N := hs.size
  have e4 : ((a.put (some d4) (.pointer (some ⟨w.heap.size,0,none⟩))).put (some d5) v).eval (.tmp d4) = .pointer (some ⟨w.heap.size,0,none⟩) := by
    simp [Act.eval,Act.put,Array.getElem?_setIfInBounds_ne (Ne.symm hne'),Array.getElem_setIfInBounds,Ne.symm hne',hsz,hd4]
  have e5 : ((a.put (some d4) (.pointer (some ⟨w.heap.size,0,none⟩))).put (some d5) v).eval (.tmp d5) = v := by
    simp [Act.eval,Act.put,hsz,hd5]
  have hvc : v.cells = #[v] := by rw [← hv]; rfl
  have hr3 : (execOp ((a.put (some d4) (.pointer (some ⟨w.heap.size,0,none⟩))).put (some d5) v).eval ⟨none,.store T (.tmp d4) (.tmp d5),ty6,p6,a6,none⟩).run cx.P (w.alloc (.cells [Value.nilFunc].toArray T)) = .ok .skip w' := by
    simp [execOp,e4,e5,Instr.storeAt,Instr.sureAddr,storeVar,hT.sz,hvc,h3]
  refine wpl_skip (fun _ => by simp) hr3 ?_
  have hold : ∀ b,b < w.heap.size → w'.heap[b]? = w.heap[b]? := fun b hb => by
    rw [h9 b (Nat.ne_of_lt hb)]; exact heap_alloc_old w _ hb
  have hI' := setI_le (o := .cells [v].toArray T (0,0)) hs.imm
  have hcell : (setI I w.heap.size (.cells [v].toArray T (0,0))).cell ⟨w.heap.size,0,none⟩ = some v := by
    have := cell_setI (I := I) (g := w.heap.size) (j := 0) (l := [v]) (T := T) (z := v) rfl
    rw [Addr.add_zero'] at this; exact this
  have hRf := hRv _ hI' hcell
  have t1 := SatM.app (d := some d4) (u := ⟨.e (.a (.q n)),[n],[(n,PP (EP.box R) ())],[],[]⟩) (n + 1) hs (St.le.refl _) (fun k hk hlt => by
      rw [List.mem_singleton] at hk; subst hk; exact Nat.lt_irrefl _ hlt) (fun i hi => by cases hi; exact hd4)
    (tr_set (k := n) (u := .pointer (some ⟨w.heap.size,0,none⟩)) rfl hs.imm h4 hold h5 h6 h7 (by rw [h8]; simp))
    (new_q (R := PP (EP.box R) ()) ⟨_,[v],rfl,rfl,⟨v,rfl,hRf⟩,fun j y hj => cell_setI hj⟩)
  have t1' := SatM.mono (M' := (· < n + 1)) (fun k hk => by
    rcases hk with hk | hk
    · exact Nat.lt_succ_of_lt hk
    · rw [List.mem_singleton] at hk; subst hk; exact Nat.lt_succ_self _) t1
  have t2 := SatM.app (d := some d5) (u := ⟨.e (.a (.q (n + 1))),[n + 1],[(n + 1,R)],[],[]⟩) (n + 2) t1' (St.le.refl _) (fun k hk hlt => by
      rw [List.mem_singleton] at hk; subst hk; exact Nat.lt_irrefl _ hlt) (fun i hi => by cases hi; exact hd5)
    (ε' := ⟨ε.β,Eng.upd (Eng.upd ε.ν n (.pointer (some ⟨w.heap.size,0,none⟩))) (n + 1) v,ε.γ⟩) (I' := setI I w.heap.size (.cells [v].toArray T (0,0))) (w' := w')
    ⟨fun i hi => by
      have : i ≠ n + 1 := fun e => hi (by simp [e])
      exact ⟨rfl,upd_other _ _ this,rfl⟩,IH.le.rfl',t1'.imm,rfl,rfl,Out.rf,Nat.le_refl _,fun _ _ _ => rfl,fun _ _ h => .inl h⟩
    (new_q (R := R) hRf)
  have t2' := SatM.mono (M' := (· < n + 2)) (fun k hk => by
    rcases hk with hk | hk
    · exact Nat.lt_succ_of_lt hk
    · rw [List.mem_singleton] at hk; subst hk; exact Nat.lt_succ_self _) t2
  simp only [SV.den,El.den,At.den,upd_same,St.app,List.nil_append,List.cons_append] at t2'
  exact K _ _ _ _ t2'
end
end Go.Eng
namespace Go.Eng
open Go
theorem EArr_one {n : Nat} : (EArr n).one := fun I cs x h y hy => by
  rw [show cs = _ from h] at hy
  obtain ⟨j,_,rfl⟩ := List.mem_map.1 hy
  rfl
section
variable {cx : Cx} {S : St} {dst : Option Tmp} {ty : TypeId} {pos : String} {af : Array Edge} {gd : Option (Nat × Bool)}
end
end Go.Eng
namespace Go.Flong
open Go Go.Eng
def bitsL (s : Nat) : List Int := ((List.range 8).filter fun i => s.testBit i).map fun (i : Nat) => (i : Int)
def o1 (a : Int) : Int := ui .add (ui .and (ui .shr a 1) 6148914691236517205) (ui .and a 6148914691236517205)
def o2 (a : Int) : Int := ui .add (ui .and (ui .shr a 2) 3689348814741910323) (ui .and a 3689348814741910323)
def o3 (a : Int) : Int := ui .and (ui .add (ui .shr a 4) a) 1085102592571150095
def o4 (a : Int) : Int := ui .add a (ui .shr a 8)
def o5 (a : Int) : Int := ui .add a (ui .shr a 16)
def o6 (a : Int) : Int := ui .add a (ui .shr a 32)
def popc (s : Nat) : Nat := (bitsL s).length
theorem fin256 {p : Nat → Bool} (h : (List.range 256).all p = true) {s : Nat} (hs : s < 256) : p s = true := List.all_eq_true.1 h s (List.mem_range.2 hs)
theorem oc_all : (List.range 256).all (fun s => decide (o6 (o5 (o4 (o3 (o2 (o1 (s : Int)))))) = (popc s : Int)) && decide (popc s ≤ 8)) = true := by decide +kernel
theorem oc_ok {s : Nat} (hs : s < 256) : o6 (o5 (o4 (o3 (o2 (o1 (s : Int)))))) = (popc s : Int) ∧ popc s ≤ 8 := by
  have := fin256 oc_all hs
  simpa using this
theorem popc_and {n : Nat} (h : n ≤ 8) : IntKind.i64.wrap (BitVec.ofInt 64 (n : Int) &&& BitVec.ofInt 64 127).toNat = (n : Int) ∧ IntKind.i64.wrap (n : Int) = n := by
  have : n = 0 ∨ n = 1 ∨ n = 2 ∨ n = 3 ∨ n = 4 ∨ n = 5 ∨ n = 6 ∨ n = 7 ∨ n = 8 := by omega
  rcases this with rfl | rfl | rfl | rfl | rfl | rfl | rfl | rfl | rfl <;> decide
theorem take_snoc {α : Type} [Inhabited α] {l : List α} {i : Nat} (h : i < l.length) : l.take i ++ [nth l (i : Int)] = l.take (i + 1) := by
  rw [nthG h]; exact (List.take_succ_eq_append_getElem h).symm
def cntTo (l : List Plate) : Nat → List Int
  | 0 => List.replicate 12 0
  | i + 1 => lset (cntTo l i) (plc (nth l (i : Int)).page (nth l (i : Int)).bore) (nth (cntTo l i) (plc (nth l (i : Int)).page (nth l (i : Int)).bore) + (nth l (i : Int)).many)
def countsR (l : List Plate) : List Int := cntTo l l.length
structure PlsOK (l : List Plate) : Prop where
  n : l.length ≤ 1000
  p : ∀ i : Nat,i < l.length → 0 ≤ (nth l (i : Int)).page ∧ (nth l (i : Int)).page ≤ 3 ∧ 0 ≤ (nth l (i : Int)).bore ∧ (nth l (i : Int)).bore ≤ 2 ∧ 0 ≤ (nth l (i : Int)).many ∧ (nth l (i : Int)).many ≤ 1000
theorem cntTo_len (l : List Plate) : ∀ i,(cntTo l i).length = 12
  | 0 => by simp [cntTo]
  | i + 1 => by rw [cntTo,lset_len,cntTo_len l i]
theorem nth_ls {l : List Int} {k x : Int} (h0 : 0 ≤ k) (h : k < l.length) (j : Int) (hj : 0 ≤ j) : nth (lset l k x) j = if j = k then x else nth l j := by
  by_cases e : j = k
  · subst e
    have : j.toNat < l.length := by omega
    simp [nth,lset,List.getD_eq_getElem?_getD,this]
  · have e2 : ¬ k.toNat = j.toNat := by omega
    simp [nth,lset,List.getD_eq_getElem?_getD,e,List.getElem?_set,e2]
def manyTo (l : List Plate) (k : Int) : Nat → Int
  | 0 => 0
  | i + 1 => if plc (nth l (i : Int)).page (nth l (i : Int)).bore = k then manyTo l k i + (nth l (i : Int)).many else manyTo l k i
theorem manyTo_bnd {l : List Plate} (h : PlsOK l) (k : Int) : ∀ i : Nat,i ≤ l.length → 0 ≤ manyTo l k i ∧ manyTo l k i ≤ 1000 * i
  | 0,_ => by simp [manyTo]
  | i + 1,hi => by
    have h1 := manyTo_bnd h k i (by omega)
    have h2 := h.p i (by omega)
    unfold manyTo; split <;> omega
theorem plc_in {x y : Int} (h : 0 ≤ x ∧ x ≤ 3 ∧ 0 ≤ y ∧ y ≤ 2) : 0 ≤ plc x y ∧ plc x y < 12 := by unfold plc; omega
theorem nth_zero12 {j : Int} : nth (List.replicate 12 (0 : Int)) j = 0 := by
  unfold nth
  rw [List.getD_eq_getElem?_getD,List.getElem?_replicate]
  split <;> rfl
theorem cntTo_nth {l : List Plate} (h : PlsOK l) : ∀ (i : Nat),i ≤ l.length → ∀ j : Int,0 ≤ j → j < 12 → nth (cntTo l i) j = manyTo l j i
  | 0,_,j,_,_ => by rw [cntTo,nth_zero12]; rfl
  | i + 1,hi,j,h0,h1 => by
    have h2 := h.p i (by omega)
    have h3 := plc_in (x := (nth l (i : Int)).page) (y := (nth l (i : Int)).bore) (by omega)
    rw [cntTo,nth_ls h3.1 (by rw [cntTo_len]; omega) j h0,manyTo]
    by_cases e : plc (nth l (i : Int)).page (nth l (i : Int)).bore = j
    · rw [if_pos e.symm,if_pos e,e,cntTo_nth h i (by omega) j h0 h1]
    · rw [if_neg (fun g => e g.symm),if_neg e,cntTo_nth h i (by omega) j h0 h1]
theorem cntTo_bnd {l : List Plate} (h : PlsOK l) {i : Nat} (hi : i ≤ l.length) {j : Int} (h0 : 0 ≤ j) (h1 : j < 12) : 0 ≤ nth (cntTo l i) j ∧ nth (cntTo l i) j ≤ 1000000 := by
  rw [cntTo_nth h i hi j h0 h1]
  have := manyTo_bnd h j i hi
  have := h.n
  omega
theorem inL_iff {l : List Int} {n : Int} : inL l n = true ↔ n ∈ l := by
  unfold inL
  rw [Bool.not_eq_true']
  constructor
  · intro h
    apply Classical.byContradiction
    intro g
    have : allI (fun j => !decide (nth l (j : Int) = n)) l.length = true := allI_iff.2 fun j hj => by
      rw [Bool.not_eq_true',decide_eq_false_iff_not]
      intro e
      exact g (by rw [← e,nthG hj]; exact List.getElem_mem hj)
    rw [h] at this; cases this
  · intro h
    obtain ⟨j,hj,e⟩ := List.mem_iff_getElem.1 h
    exact not_allI hj (by rw [nthG hj,e]; simp)
def setTo (c : List Int) : Nat → List Plate
  | 0 => []
  | i + 1 => if 0 < nth c (i : Int) then setTo c i ++ [⟨(i : Int).tdiv 3,(i : Int) % 3,nth c (i : Int)⟩] else setTo c i
def setOf (c : List Int) : List Plate := setTo c c.length
theorem setTo_len (c : List Int) : ∀ i,(setTo c i).length ≤ i
  | 0 => by simp [setTo]
  | i + 1 => by have := setTo_len c i; unfold setTo; split <;> simp <;> omega
def hugeHo (h : Hall) : Bool := (decide (40 < (h.machs.length : Int)) || decide (40 < (h.buns.length : Int))) || decide (40 < (h.trains.length : Int))
def hugeH (h : Hall) : Bool := (hugeHo h || decide (40 < (h.bores.length : Int))) || longP h.eds
def exK : Hall := ⟨[⟨0,2,1⟩,⟨0,2,1⟩],[⟨0,2,0⟩,⟨1,3,1⟩],[5,12],2,[0,1],[[0,1],[0,2]]⟩
def exL : Hall := { exK with bores := [0,0] }
theorem exK_small : exK.Small := ⟨by decide,by decide,by decide,by decide,by decide,fun i hi => by
  have : i = 0 ∨ i = 1 := by simp [exK] at hi; omega
  rcases this with rfl | rfl <;> decide⟩
theorem mem_nth {α : Type} [Inhabited α] {l : List α} {x : α} : x ∈ l ↔ ∃ i : Nat,i < l.length ∧ nth l (i : Int) = x := by
  constructor
  · intro h
    obtain ⟨i,hi,e⟩ := List.mem_iff_getElem.1 h
    exact ⟨i,hi,by rw [nthG hi,e]⟩
  · rintro ⟨i,hi,e⟩
    rw [← e,nthG hi]; exact List.getElem_mem hi
abbrev Plan := List (List Int)
def sTo (p : Plan) : Nat → List Int
  | 0 => []
  | i + 1 => sTo p i ++ nth p (i : Int)
def okAt (h : Hall) (p : Plan) (i j : Nat) : Bool := within (nth (nth p (i : Int)) (j : Int)) 0 ((h.buns.length : Int) - 1) && !inL (sTo p i ++ (nth p (i : Int)).take j) (nth (nth p (i : Int)) (j : Int))
def okRow (h : Hall) (p : Plan) (i : Nat) : Bool := allI (okAt h p i) (nth p (i : Int)).length
def isPlanR (h : Hall) (p : Plan) : Bool := decide ((p.length : Int) = h.machs.length) && allI (okRow h p) p.length
structure RowsP (p : Plan) : Prop where
  n : p.length ≤ 40
  r : ∀ i : Nat,i < p.length → (nth p (i : Int)).length ≤ 40
theorem sTo_len {p : Plan} (h : RowsP p) : ∀ i : Nat,i ≤ p.length → (sTo p i).length ≤ 40 * i
  | 0,_ => by simp [sTo]
  | i + 1,hi => by
    have h1 := sTo_len h i (by omega)
    have h2 := h.r i (by omega)
    rw [sTo,List.length_append]; omega
theorem seen_len {p : Plan} (h : RowsP p) {i j : Nat} (hi : i ≤ p.length) : (sTo p i ++ (nth p (i : Int)).take j).length ≤ 1600 + j := by
  have h1 := sTo_len h i hi
  have h2 := h.n
  rw [List.length_append,List.length_take]; omega
structure PlanQ (h : Hall) (p : Plan) : Prop where
  n : p.length = h.machs.length
  k : ∀ i : Nat,i < p.length → ∀ j : Nat,j < (nth p (i : Int)).length → okAt h p i j = true
  b : ∀ i : Nat,i < p.length → ∀ j : Nat,j < (nth p (i : Int)).length → 0 ≤ nth (nth p (i : Int)) (j : Int) ∧ nth (nth p (i : Int)) (j : Int) < h.buns.length
theorem planQ {h : Hall} {p : Plan} (hp : isPlanR h p = true) : PlanQ h p := by
  unfold isPlanR at hp
  rw [Bool.and_eq_true,decide_eq_true_eq,allI_iff] at hp
  have hk : ∀ i : Nat,i < p.length → ∀ j : Nat,j < (nth p (i : Int)).length → okAt h p i j = true := fun i hi j hj => allI_iff.1 (hp.2 i hi) j hj
  refine ⟨by omega,hk,fun i hi j hj => ?_⟩
  have := hk i hi j hj
  unfold okAt within at this
  simp only [Bool.and_eq_true,decide_eq_true_eq] at this
  omega
def msk (l : List Int) : Nat := l.foldl (fun s x => s ||| 2 ^ x.toNat) 0
theorem msk_snoc (l : List Int) (x : Int) : msk (l ++ [x]) = msk l ||| 2 ^ x.toNat := by
  unfold msk; rw [List.foldl_append]; rfl
theorem msk_all : (List.range 32).all (fun s => (List.range 5).all fun x => decide ((s : Int).fdiv (2 ^ min x 64) = ((s >>> x : Nat) : Int)) && decide (IntKind.i64.wrap (BitVec.ofInt 64 ((s >>> x : Nat) : Int) &&& BitVec.ofInt 64 1).toNat = (((s >>> x) % 2 : Nat) : Int)) && decide (IntKind.i64.wrap (1 * 2 ^ min x 64) = ((2 ^ x : Nat) : Int)) && decide (IntKind.i64.wrap (BitVec.ofInt 64 (s : Int) ||| BitVec.ofInt 64 ((2 ^ x : Nat) : Int)).toNat = ((s ||| 2 ^ x : Nat) : Int)) && decide (s ||| 2 ^ x < 32) && (List.range 5).all fun y => decide (((s ||| 2 ^ x) >>> y) % 2 = 1) == (decide ((s >>> y) % 2 = 1) || decide (y = x))) = true := by decide +kernel
structure MskOK (s x : Nat) : Prop where
  r : (s : Int).fdiv (2 ^ min x 64) = ((s >>> x : Nat) : Int)
  a : IntKind.i64.wrap (BitVec.ofInt 64 ((s >>> x : Nat) : Int) &&& BitVec.ofInt 64 1).toNat = (((s >>> x) % 2 : Nat) : Int)
  l : IntKind.i64.wrap (1 * 2 ^ min x 64) = ((2 ^ x : Nat) : Int)
  o : IntKind.i64.wrap (BitVec.ofInt 64 (s : Int) ||| BitVec.ofInt 64 ((2 ^ x : Nat) : Int)).toNat = ((s ||| 2 ^ x : Nat) : Int)
  b : s ||| 2 ^ x < 32
  y : ∀ y : Nat,y < 5 → (((s ||| 2 ^ x) >>> y) % 2 = 1 ↔ ((s >>> y) % 2 = 1 ∨ y = x))
theorem msk_ok {s x : Nat} (hs : s < 32) (hx : x < 5) : MskOK s x := by
  have := List.all_eq_true.1 (List.all_eq_true.1 msk_all s (List.mem_range.2 hs)) x (List.mem_range.2 hx)
  simp only [Bool.and_eq_true,decide_eq_true_eq,List.all_eq_true,List.mem_range,beq_iff_eq] at this
  obtain ⟨⟨⟨⟨⟨h1,h2⟩,h3⟩,h4⟩,h5⟩,h6⟩ := this
  refine ⟨h1,h2,h3,h4,h5,fun y hy => ?_⟩
  have := h6 y hy
  rw [Bool.eq_iff_iff,Bool.or_eq_true,decide_eq_true_eq,decide_eq_true_eq,decide_eq_true_eq] at this
  exact this
theorem msk_mem : ∀ {l : List Int},(∀ x ∈ l,0 ≤ x ∧ x < 5) → msk l < 32 ∧ ∀ y : Nat,y < 5 → ((msk l >>> y) % 2 = 1 ↔ (y : Int) ∈ l) := by
  intro l
  have : ∀ n : Nat,∀ l : List Int,l.length = n → (∀ x ∈ l,0 ≤ x ∧ x < 5) → msk l < 32 ∧ ∀ y : Nat,y < 5 → ((msk l >>> y) % 2 = 1 ↔ (y : Int) ∈ l) := by
    intro n
    induction n with
    | zero =>
      intro l hl _
      have : l = [] := List.length_eq_zero_iff.1 hl
      subst this
      refine ⟨by decide,fun y hy => ?_⟩
      have : msk [] >>> y = 0 := by simp [msk]
      rw [this]; simp
    | succ n ih =>
      intro l hl h
      have hne : l ≠ [] := fun e => by rw [e] at hl; simp at hl
      obtain ⟨m,x,rfl⟩ : ∃ m x,l = m ++ [x] := ⟨l.dropLast,l.getLast hne,(List.dropLast_concat_getLast hne).symm⟩
      obtain ⟨h1,h2⟩ := ih m (by simpa using hl) fun y hy => h y (by simp [hy])
      have hx := h x (by simp)
      have ho := msk_ok h1 (show x.toNat < 5 by omega)
      rw [msk_snoc]
      refine ⟨ho.b,fun y hy => ?_⟩
      rw [ho.y y hy,h2 y hy,List.mem_append,List.mem_singleton]
      constructor
      · rintro (g | g)
        · exact .inl g
        · exact .inr (by omega)
      · rintro (g | g)
        · exact .inl g
        · exact .inr (by omega)
  exact this l.length l rfl
theorem seen_in {h : Hall} {p : Plan} (hp : PlanQ h p) (h5 : h.buns.length ≤ 5) : ∀ i : Nat,i ≤ p.length → ∀ x ∈ sTo p i,0 ≤ x ∧ x < 5
  | 0,_,x,hx => by simp [sTo] at hx
  | i + 1,hi,x,hx => by
    rw [sTo,List.mem_append] at hx
    rcases hx with hx | hx
    · exact seen_in hp h5 i (by omega) x hx
    · obtain ⟨j,hj,e⟩ := mem_nth.1 hx
      have := hp.b i (by omega) j hj
      omega
structure SeenOK (h : Hall) (p : Plan) (i j : Nat) : Prop where
  x : 0 ≤ nth (nth p (i : Int)) (j : Int) ∧ nth (nth p (i : Int)) (j : Int) < h.buns.length
  m : MskOK (msk (sTo p i ++ (nth p (i : Int)).take j)) (nth (nth p (i : Int)) (j : Int)).toNat
  n : ¬ (msk (sTo p i ++ (nth p (i : Int)).take j) >>> (nth (nth p (i : Int)) (j : Int)).toNat) % 2 = 1
theorem seen_ok {h : Hall} {p : Plan} (hp : PlanQ h p) (h5 : h.buns.length ≤ 5) {i j : Nat} (hi : i < p.length) (hj : j < (nth p (i : Int)).length) : SeenOK h p i j := by
  have hx := hp.b i hi j hj
  have hk := hp.k i hi j hj
  unfold okAt at hk
  rw [Bool.and_eq_true,Bool.not_eq_true'] at hk
  have hin : ∀ x ∈ sTo p i ++ (nth p (i : Int)).take j,0 ≤ x ∧ x < 5 := fun x hx2 => by
    rw [List.mem_append] at hx2
    rcases hx2 with g | g
    · exact seen_in hp h5 i (by omega) x g
    · obtain ⟨k,hk2,e⟩ := mem_nth.1 (List.mem_of_mem_take g)
      have := hp.b i hi k hk2
      omega
  obtain ⟨h1,h2⟩ := msk_mem hin
  refine ⟨hx,msk_ok h1 (by omega),fun g => ?_⟩
  have := (h2 _ (by omega)).1 g
  rw [show (((nth (nth p (i : Int)) (j : Int)).toNat : Nat) : Int) = nth (nth p (i : Int)) (j : Int) by omega] at this
  have h3 := inL_iff.2 this
  rw [hk.2] at h3; cases h3
def zer12 : List Int := [0,0,0,0,0,0,0,0,0,0,0,0]
abbrev edOf (h : Hall) (x : Int) : List Int := nth h.eds (nth h.buns x).edition
def setPg (l ed : List Int) (bore : Int) : Nat → List Int
  | 0 => l
  | k + 1 => lset (setPg l ed bore k) (nth ed (k : Int) * 3 + bore) 1
def rowTo (h : Hall) (p : Plan) (m : Nat) : Nat → List Int
  | 0 => zer12
  | j + 1 => setPg (rowTo h p m j) (edOf h (nth (nth p (m : Int)) (j : Int))) (nth h.bores (m : Int)) (edOf h (nth (nth p (m : Int)) (j : Int))).length
def eachN (a b : List Int) : Nat → List Int
  | 0 => zer12
  | n + 1 => lset (eachN a b n) (n : Int) (nth a (n : Int) + nth b (n : Int))
def needTo (h : Hall) (p : Plan) : Nat → List Int
  | 0 => zer12
  | m + 1 => eachN (needTo h p m) (rowTo h p m (nth p (m : Int)).length) 12
def needL (h : Hall) (p : Plan) : List Int := needTo h p p.length
theorem setPg_len (l ed : List Int) (bore : Int) : ∀ k,(setPg l ed bore k).length = l.length
  | 0 => rfl
  | k + 1 => by rw [setPg,lset_len,setPg_len l ed bore k]
theorem rowTo_len (h : Hall) (p : Plan) (m : Nat) : ∀ j,(rowTo h p m j).length = 12
  | 0 => rfl
  | j + 1 => by rw [rowTo,setPg_len,rowTo_len h p m j]
theorem eachN_len (a b : List Int) : ∀ n,(eachN a b n).length = 12
  | 0 => rfl
  | n + 1 => by rw [eachN,lset_len,eachN_len a b n]
theorem needTo_len (h : Hall) (p : Plan) (m : Nat) : (needTo h p m).length = 12 := by
  cases m with
  | zero => rfl
  | succ m => exact eachN_len _ _ _
theorem each_step {a b : List Int} {n : Nat} {x : Int} (h : ((n : Nat) : Int) = x) : eachN a b (n + 1) = lset (eachN a b n) x (nth a x + nth b x) := by subst h; rfl
theorem eachN_nth (a b : List Int) : ∀ (n : Nat),n ≤ 12 → ∀ k : Nat,k < n → nth (eachN a b n) (k : Int) = nth a (k : Int) + nth b (k : Int)
  | n + 1,hn,k,hk => by
    rw [eachN,nth_ls (by omega) (by rw [eachN_len]; omega) (k : Int) (by omega)]
    by_cases e : k = n
    · subst e; rw [if_pos rfl]
    · rw [if_neg (by omega)]; exact eachN_nth a b n (by omega) k (by omega)
theorem zer_nth {k : Nat} (h : k < 12) : nth zer12 (k : Int) = 0 := by
  have : (List.range 12).all (fun k => decide (nth zer12 (k : Int) = 0)) = true := by decide
  exact of_decide_eq_true (List.all_eq_true.1 this k (List.mem_range.2 h))
def needsR (h : Hall) (row : List Int) (pg : Int) : Bool := !allI (fun j => !inL (edOf h (nth row (j : Int))) pg) row.length
theorem needsR_iff {h : Hall} {row : List Int} {pg : Int} : needsR h row pg = true ↔ ∃ j : Nat,j < row.length ∧ pg ∈ edOf h (nth row (j : Int)) := by
  unfold needsR
  rw [Bool.not_eq_true',← Bool.not_eq_true,allI_iff]
  constructor
  · intro g
    apply Classical.byContradiction
    intro g2
    refine g fun j hj => ?_
    rw [Bool.not_eq_true',← Bool.not_eq_true,inL_iff]
    exact fun g3 => g2 ⟨j,hj,g3⟩
  · rintro ⟨j,hj,g⟩ g2
    have := g2 j hj
    rw [Bool.not_eq_true',← Bool.not_eq_true,inL_iff] at this
    exact this g
theorem setPg_nth {l ed : List Int} {bore : Int} (hl : l.length = 12) (hb : 0 ≤ bore ∧ bore ≤ 2) (he : ∀ j : Nat,j < ed.length → 0 ≤ nth ed (j : Int) ∧ nth ed (j : Int) < 4) : ∀ n : Nat,n ≤ ed.length → ∀ k : Nat,k < 12 → nth (setPg l ed bore n) (k : Int) = if ∃ j : Nat,j < n ∧ nth ed (j : Int) * 3 + bore = (k : Int) then 1 else nth l (k : Int)
  | 0,_,k,_ => by rw [setPg,if_neg]; rintro ⟨j,hj,_⟩; omega
  | n + 1,hn,k,hk => by
    have h1 := he n (by omega)
    rw [setPg,nth_ls (by omega) (by rw [setPg_len]; omega) (k : Int) (by omega),setPg_nth hl hb he n (by omega) k hk]
    by_cases e : (k : Int) = nth ed (n : Int) * 3 + bore
    · rw [if_pos e,if_pos ⟨n,by omega,e.symm⟩]
    · rw [if_neg e]
      by_cases g : ∃ j : Nat,j < n ∧ nth ed (j : Int) * 3 + bore = (k : Int)
      · obtain ⟨j,hj,g2⟩ := g
        rw [if_pos ⟨j,hj,g2⟩,if_pos ⟨j,by omega,g2⟩]
      · rw [if_neg g,if_neg]
        rintro ⟨j,hj,g2⟩
        by_cases e2 : j = n
        · subst e2; exact e g2.symm
        · exact g ⟨j,by omega,g2⟩
structure HallC (h : Hall) : Prop extends HallB h where
  n5 : h.buns.length ≤ 5
  ed : ∀ x : Int,0 ≤ x → x < h.buns.length → 0 ≤ (nth h.buns x).edition ∧ (nth h.buns x).edition < h.eds.length
theorem hallC {h : Hall} (hc : h.chk = true) : HallC h := by
  have hb := hallB hc
  have hc2 := hc
  simp only [Hall.chk,Bool.and_eq_true] at hc2
  have hbe := hc2.2
  have hhd := hc2.1.1.1
  simp only [Hall.hallHd,Bool.and_eq_true,decide_eq_true_eq] at hhd
  have hho := hhd.1.1
  have h3 := Hall.machs3 hho
  simp only [Hall.house,Bool.and_eq_true] at hho
  refine ⟨hb,by omega,fun x h0 h1 => ?_⟩
  have h4 := allI_iff.1 hho.2 x.toNat (by omega)
  have h5 := allI_iff.1 hbe x.toNat (by omega)
  unfold Hall.bunOK TBd.chk within at h4
  unfold Hall.beOK at h5
  simp only [Bool.and_eq_true,decide_eq_true_eq] at h4 h5
  rw [show ((x.toNat : Nat) : Int) = x by omega] at h4 h5
  omega
theorem edOf_in {h : Hall} (hc : HallC h) {x : Int} (h0 : 0 ≤ x) (h1 : x < h.buns.length) : ∀ j : Nat,j < (edOf h x).length → 0 ≤ nth (edOf h x) (j : Int) ∧ nth (edOf h x) (j : Int) < 4 := by
  have h2 := hc.ed x h0 h1
  intro j hj
  have := hc.p (nth h.buns x).edition.toNat (by omega) j (by
    rw [show (((nth h.buns x).edition.toNat : Nat) : Int) = (nth h.buns x).edition by omega]; exact hj)
  rw [show (((nth h.buns x).edition.toNat : Nat) : Int) = (nth h.buns x).edition by omega] at this
  exact this
theorem rowTo_nth {h : Hall} {p : Plan} (hc : HallC h) (hp : PlanQ h p) {m : Nat} (hm : m < p.length) : ∀ n : Nat,n ≤ (nth p (m : Int)).length → ∀ k : Nat,k < 12 → nth (rowTo h p m n) (k : Int) = if (∃ j : Nat,j < n ∧ ((k : Int) / 3) ∈ edOf h (nth (nth p (m : Int)) (j : Int))) ∧ nth h.bores (m : Int) = (k : Int) % 3 then 1 else 0
  | 0,_,k,hk => by rw [rowTo,zer_nth hk,if_neg]; rintro ⟨⟨j,hj,_⟩,_⟩; omega
  | n + 1,hn,k,hk => by
    have hb := hc.b m (by have := hp.n; have := hc.o; omega)
    have hx := hp.b m hm n (by omega)
    have he := edOf_in hc hx.1 hx.2
    rw [rowTo,setPg_nth (rowTo_len h p m n) hb he _ (Nat.le_refl _) k hk,rowTo_nth hc hp hm n (by omega) k hk]
    by_cases e : ∃ j : Nat,j < (edOf h (nth (nth p (m : Int)) (n : Int))).length ∧ nth (edOf h (nth (nth p (m : Int)) (n : Int))) (j : Int) * 3 + nth h.bores (m : Int) = (k : Int)
    · rw [if_pos e]
      obtain ⟨j,hj,e2⟩ := e
      have h1 := he j hj
      rw [if_pos]
      refine ⟨⟨n,by omega,mem_nth.2 ⟨j,hj,by omega⟩⟩,by omega⟩
    · rw [if_neg e]
      by_cases g : (∃ j : Nat,j < n ∧ ((k : Int) / 3) ∈ edOf h (nth (nth p (m : Int)) (j : Int))) ∧ nth h.bores (m : Int) = (k : Int) % 3
      · obtain ⟨⟨j,hj,g2⟩,g3⟩ := g
        rw [if_pos ⟨⟨j,hj,g2⟩,g3⟩,if_pos ⟨⟨j,by omega,g2⟩,g3⟩]
      · rw [if_neg g,if_neg]
        rintro ⟨⟨j,hj,g2⟩,g3⟩
        by_cases e2 : j = n
        · subst e2
          obtain ⟨q,hq,g4⟩ := mem_nth.1 g2
          exact e ⟨q,hq,by omega⟩
        · exact g ⟨⟨j,by omega,g2⟩,g3⟩
theorem row_needs {h : Hall} {p : Plan} (hc : HallC h) (hp : PlanQ h p) {m : Nat} (hm : m < p.length) {k : Nat} (hk : k < 12) : nth (rowTo h p m (nth p (m : Int)).length) (k : Int) = if needsR h (nth p (m : Int)) ((k : Int) / 3) = true ∧ nth h.bores (m : Int) = (k : Int) % 3 then 1 else 0 := by
  rw [rowTo_nth hc hp hm _ (Nat.le_refl _) k hk]
  simp only [needsR_iff]
theorem needTo_nth {h : Hall} {p : Plan} (hc : HallC h) (hp : PlanQ h p) : ∀ m : Nat,m ≤ p.length → ∀ k : Nat,k < 12 → 0 ≤ nth (needTo h p m) (k : Int) ∧ nth (needTo h p m) (k : Int) ≤ m
  | 0,_,k,hk => by rw [needTo,zer_nth hk]; omega
  | m + 1,hm,k,hk => by
    have h1 := needTo_nth hc hp m (by omega) k hk
    rw [needTo,eachN_nth _ _ 12 (Nat.le_refl _) k hk,row_needs hc hp (by omega) hk]
    split <;> omega
abbrev AddD := { z : Int × Int // (0 ≤ z.1 ∧ z.1 ≤ 1000) ∧ (0 ≤ z.2 ∧ z.2 ≤ 1000) }
theorem row12 {L : List Int} : ∀ {i : Nat},i < 4 → (([ai (nth L 0),ai (nth L 1),ai (nth L 2),ai (nth L 3),ai (nth L 4),ai (nth L 5),ai (nth L 6),ai (nth L 7),ai (nth L 8),ai (nth L 9),ai (nth L 10),ai (nth L 11)] : List At).drop (((i : Int)).toNat * 3)).take 3 = [ai (nth L ((i : Int) * 3 + 0)),ai (nth L ((i : Int) * 3 + 1)),ai (nth L ((i : Int) * 3 + 2))]
  | 0,_ => rfl
  | 1,_ => rfl
  | 2,_ => rfl
  | 3,_ => rfl
theorem col3 {L : List Int} {i : Nat} : ∀ {j : Nat},j < 3 → ([ai (nth L ((i : Int) * 3 + 0)),ai (nth L ((i : Int) * 3 + 1)),ai (nth L ((i : Int) * 3 + 2))] : List At)[((j : Int)).toNat]? = some (ai (nth L ((i : Int) * 3 + (j : Int))))
  | 0,_ => rfl
  | 1,_ => rfl
  | 2,_ => rfl
theorem setTo_at {L : List Int} {i j : Nat} (hi : i < 4) (hj : j < 3) : (⟨(i : Int),(j : Int),nth L ((i : Int) * 3 + (j : Int))⟩ : Plate) = ⟨(((3 * i + j : Nat) : Int)).tdiv 3,((3 * i + j : Nat) : Int) % 3,nth L ((3 * i + j : Nat) : Int)⟩ := by
  rw [Int.tdiv_eq_ediv_of_nonneg (by omega)]
  congr 1
  · omega
  · omega
  · congr 1; omega
theorem set_step1 {L : List Int} {i j : Nat} (hi : i < 4) (hj : j < 3) (h : 0 < nth L ((i : Int) * 3 + (j : Int))) : setTo L (3 * i + j) ++ [(⟨(i : Int),(j : Int),nth L ((i : Int) * 3 + (j : Int))⟩ : Plate)] = setTo L (3 * i + (j + 1)) := by
  have e : (((3 * i + j : Nat)) : Int) = (i : Int) * 3 + (j : Int) := by omega
  rw [show 3 * i + (j + 1) = (3 * i + j) + 1 from rfl,setTo,if_pos (by rw [e]; exact h),setTo_at hi hj]
theorem set_step2 {L : List Int} {i j : Nat} (hi : i < 4) (hj : j < 3) (h : ¬ 0 < nth L ((i : Int) * 3 + (j : Int))) : setTo L (3 * i + j) = setTo L (3 * i + (j + 1)) := by
  have e : (((3 * i + j : Nat)) : Int) = (i : Int) * 3 + (j : Int) := by omega
  rw [show 3 * i + (j + 1) = (3 * i + j) + 1 from rfl,setTo,if_neg (by rw [e]; exact h)]
end Go.Flong
