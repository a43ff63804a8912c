/- The engine, part K: steps that no operation makes: constants get a name, own memory is settled; memory lent to a call; function values. -/
import Derived.Test.YtglbnodjcngefaaEngJ
set_option linter.unusedSimpArgs false
set_option linter.unusedVariables false
namespace Go.Eng
open Go

/-! ### Steps without an operation -/
def Imp (cx : Cx) (S S' : St) : Prop := ∀ ε I a w, Sat cx ε I S a w → ∃ ε' I', Sat cx ε' I' S' a w
section
variable {cx : Cx} {S S' : St} {Q : Exit → Act → World → Prop}
theorem WP.imp {c : Code} (hi : Imp cx S S') (h : WP cx S' c Q) : WP cx S c Q := fun ε I a w hs => by
  obtain ⟨ε', I', hs'⟩ := hi ε I a w hs; exact h _ _ _ _ hs'
theorem WPl.imp {ops : Array Oper} {l : List Oper} (hi : Imp cx S S') (h : WPl cx ops S' l Q) : WPl cx ops S l Q := fun ε I a w hs => by
  obtain ⟨ε', I', hs'⟩ := hi ε I a w hs; exact h _ _ _ _ hs'
theorem EX.imp {e : Exit} (hi : Imp cx S S') (h : EX cx S' e Q) : EX cx S e Q := fun ε I a w hs => by
  obtain ⟨ε', I', hs'⟩ := hi ε I a w hs; exact h _ _ _ _ hs'
theorem Imp.trans {S'' : St} (h : Imp cx S S') (k : Imp cx S' S'') : Imp cx S S'' := fun ε I a w hs => by
  obtain ⟨ε', I', hs'⟩ := h ε I a w hs; exact k _ _ _ _ hs'
def Gh (cx : Cx) (S : St) (u : U) : Prop := ∀ M ε I a w, SatM cx M ε I S a w → (∀ k ∈ u.N, ¬ M k) → ∃ ε' I', Tr cx.w0.heap.size ε ε' I I' w w u.N (fpOf S ε u) ∧ New cx M S ε ε' I' w w u
theorem Imp.app {u : U} (m : Nat) (h : Gh cx S u) (hN : ∀ k ∈ u.N, S.n ≤ k ∧ k < m) (hm : S.n ≤ m) : Imp cx S (S.app m none u) := fun ε I a w hs => by
  have hN' : ∀ k ∈ u.N, ¬ k < S.n := fun k hk hlt => by have := (hN k hk).1; omega
  obtain ⟨ε', I', ht, hn⟩ := h _ ε I a w hs hN'
  refine ⟨ε', I', SatM.mono ?_ (SatM.app m hs (St.le.refl _) hN' (fun i hi => by cases hi) ht hn)⟩
  rintro k (hk | hk)
  · exact Nat.lt_of_lt_of_le hk hm
  · exact (hN k hk).2
end

section
variable {cx : Cx} {n : Nat} {fr : List (Nat × SV)} {X : List (Nat × Pred)} {L : List (Nat × Ent)} {D : List Nat} {G : List (Nat × Bool)}
/-- A constant gets a name. -/
theorem Imp.nam (k m : Nat) (v : Value) {R : Pred} (hR : ∀ I, R.h I v) (hk : Nat.ble n k = true) (hm : Nat.blt k m = true) : Imp cx ⟨n, fr, X, L, D, G⟩ ⟨m, fr, (k, R) :: X, L, D, G⟩ := by
  have hk' : n ≤ k := by simpa using hk
  rw [Nat.blt_eq] at hm
  refine Imp.app (u := ⟨.e (.a (.v undef)), [k], [(k, R)], [], []⟩) m ?_ (fun i hi => by
    have hi : i ∈ [k] := hi
    rw [List.mem_singleton] at hi; subst hi; exact ⟨hk', hm⟩) (by show n ≤ m; omega)
  intro M ε I a w hs hN
  refine ⟨⟨ε.β, upd ε.ν k v, ε.γ⟩, I, ⟨fun i hi => ?_, IH.le.rfl', hs.imm, rfl, rfl, rfl, Nat.le_refl _, fun _ _ _ => rfl, fun _ _ h => .inl h⟩,
    ⟨trivial, fun j R' hj => by obtain ⟨rfl, _⟩ := look_one hj; exact .inr (by simp), fun _ _ h => (by cases h), fun _ _ h => (by cases h),
      fun j R' hj => by obtain ⟨rfl, rfl⟩ := look_one hj; simpa only [upd_same] using hR I, fun _ _ h => (by cases h), fun _ _ h => (by cases h), fun _ _ _ _ _ h => (by cases h), fun _ _ h => (by cases h)⟩⟩
  have : i ≠ k := fun e => hi (by simp [e])
  exact ⟨rfl, upd_other _ _ this, rfl⟩
/-- The nil slice, as a row of the call's own. -/
theorem Imp.namo {α : Type} (E : EP α) (k m : Nat) (T : TypeId) (hk : Nat.ble n k = true) (hm : Nat.blt k m = true) : Imp cx ⟨n, fr, X, L, D, G⟩ ⟨m, fr, (k, Pred.is (.slice none 0 0)) :: X, (k, .own T E.size ([] : List α).length (RP E [])) :: L, D, G⟩ := by
  have hk' : n ≤ k := by simpa using hk
  rw [Nat.blt_eq] at hm
  refine Imp.app (u := ⟨.e (.a (.v undef)), [k], [(k, Pred.is (.slice none 0 0))], [(k, .own T E.size ([] : List α).length (RP E []))], []⟩) m ?_ (fun i hi => by
    have hi : i ∈ [k] := hi
    rw [List.mem_singleton] at hi; subst hi; exact ⟨hk', hm⟩) (by show n ≤ m; omega)
  intro M ε I a w hs hN
  refine ⟨⟨ε.β, upd ε.ν k (.slice none 0 0), ε.γ⟩, I, ⟨fun i hi => ?_, IH.le.rfl', hs.imm, rfl, rfl, rfl, Nat.le_refl _, fun _ _ _ => rfl, fun _ _ h => .inl h⟩,
    ⟨trivial, fun j R' hj => by obtain ⟨rfl, _⟩ := look_one hj; exact .inr (by simp), fun _ _ h => (by cases h), fun i e he => by obtain ⟨rfl, rfl⟩ := look_one he; exact ⟨.inr (by simp), trivial⟩,
      fun j R' hj => by obtain ⟨rfl, rfl⟩ := look_one hj; simp only [upd_same]; rfl, fun i e he => by
        obtain ⟨rfl, rfl⟩ := look_one he
        exact ⟨[], by simp only [upd_same]; exact World.ownsRow_nil w 0 T E.size, RP.nil⟩, fun i e he b hb => by
        obtain ⟨rfl, rfl⟩ := look_one he
        simp [Ent.foot, upd_same, Value.ownBlock] at hb, fun i i' e e' b he he' hne => by
        obtain ⟨rfl, _⟩ := look_one he
        obtain ⟨rfl, _⟩ := look_one he'
        exact absurd rfl hne, fun k x h => by obtain ⟨_, h⟩ := look_one h; cases h⟩⟩
  have : i ≠ k := fun e => hi (by simp [e])
  exact ⟨rfl, upd_other _ _ this, rfl⟩
/-- A slot's constant is called by its name. -/
theorem Imp.swF (d k : Nat) {u : Value} (hd : look d fr = some (.e (.a (.v u)))) (hk : Has X k (Pred.is u)) : Imp cx ⟨n, fr, X, L, D, G⟩ ⟨n, (d, .e (.a (.q k))) :: fr, X, L, D, G⟩ := fun ε I a w hs => by
  have hv : ε.ν k = u := hs.has hk
  obtain ⟨R, hR, _⟩ := hk
  have hkn : k < n := hs.wfX k R hR
  refine ⟨ε, I, { hs with wfr := fun i x hx => ?_, fr := fun i x hx => ?_ }⟩
  · rw [look_cons] at hx
    by_cases hi : d = i
    · subst hi; simp at hx; subst hx; exact hkn
    · simp [hi] at hx; exact hs.wfr i x hx
  · rw [look_cons] at hx
    by_cases hi : d = i
    · subst hi; simp at hx; subst hx
      rw [hs.fr d _ hd]
      simp [SV.den, El.den, At.den, hv]
    · simp [hi] at hx; exact hs.fr i x hx
/-- A cell's constant is called by its name. -/
theorem Imp.swL (kb o k : Nat) {u : Value} {cs : List At} {T : TypeId} (hb : look kb L = some (.blk cs T)) (ho : cs[o]? = some (.v u)) (hk : Has X k (Pred.is u)) : Imp cx ⟨n, fr, X, L, D, G⟩ ⟨n, fr, X, (kb, .blk (cs.set o (.q k)) T) :: L, D, G⟩ := fun ε I a w hs => by
  have hv : ε.ν k = u := hs.has hk
  obtain ⟨R, hR, _⟩ := hk
  have hkn : k < n := hs.wfX k R hR
  have hlt := (List.getElem?_eq_some_iff.1 ho).1
  have hlk : ∀ i e, look i ((kb, Ent.blk (cs.set o (.q k)) T) :: L) = some e → (i = kb ∧ e = .blk (cs.set o (.q k)) T) ∨ look i L = some e := by
    intro i e he
    rw [look_cons] at he
    by_cases hi : kb = i
    · subst hi; simp at he; exact .inl ⟨rfl, he.symm⟩
    · simp [hi] at he; exact .inr he
  have hft : ∀ i e, look i ((kb, Ent.blk (cs.set o (.q k)) T) :: L) = some e → ∃ e', look i L = some e' ∧ ∀ b, e.foot ε i b → e'.foot ε i b := fun i e he => by
    rcases hlk i e he with ⟨rfl, rfl⟩ | he
    · exact ⟨_, hb, fun b h => h⟩
    · exact ⟨_, he, fun b h => h⟩
  refine ⟨ε, I, { hs with wfL := fun i e he => ?_, L := fun i e he => ?_, foot := fun i e he b hfb => ?_, sep := fun i i' e e' b he he' hne h1 h2 => ?_, ext := fun i x hx => ?_ }⟩
  · rcases hlk i e he with ⟨rfl, rfl⟩ | he
    · refine ⟨(hs.wfL i _ hb).1, fun c hc => ?_⟩
      rcases List.mem_or_eq_of_mem_set hc with hc | rfl
      · exact (hs.wfL i _ hb).2 c hc
      · exact hkn
    · exact hs.wfL i e he
  · rcases hlk i e he with ⟨rfl, rfl⟩ | he
    · have := hs.L i _ hb
      simp only [Ent.ok] at this ⊢
      rw [this, List.map_set]
      congr 3
      rw [show At.den ε (.q k) = At.den ε (.v u) from hv]
      have h1 : (cs.map (At.den ε))[o]? = some (At.den ε (.v u)) := by rw [List.getElem?_map, ho]; rfl
      obtain ⟨h2, h3⟩ := List.getElem?_eq_some_iff.1 h1
      rw [← h3, List.set_getElem_self]
    · exact hs.L i e he
  · obtain ⟨e', h1, h2⟩ := hft i e he; exact hs.foot i e' h1 b (h2 b hfb)
  · obtain ⟨e1, h3, h4⟩ := hft i e he
    obtain ⟨e2, h5, h6⟩ := hft i' e' he'
    exact hs.sep i i' e1 e2 b h3 h5 hne (h4 b h1) (h6 b h2)
  · rcases hlk i _ hx with ⟨_, h⟩ | h
    · cases h
    · exact hs.ext i x h

/-! ### Settling -/
/-- What leans on new memory alone. -/
def IH.from (n : Nat) (I : IH) : IH := fun b => if n ≤ b then I b else none
theorem IH.from_le {n : Nat} {I : IH} : (I.from n).le I := fun b o h => by
  unfold IH.from at h; split at h; exact h; cases h
def Pred.from (n : Nat) (R : Pred) : Pred := ⟨fun I v => R.h (I.from n) v, fun hI h => R.mono (fun b o hb => by
  unfold IH.from at hb ⊢; split at hb
  · rename_i hn; rw [if_pos hn]; exact hI b o hb
  · cases hb) h⟩
theorem Pred.of_from {n : Nat} {R : Pred} {I : IH} {v : Value} (h : (Pred.from n R).h I v) : R.h I v := R.mono IH.from_le h
theorem lxf {X : List (Nat × Pred)} {j n : Nat} {R : Pred} (h : look j X = some (Pred.from n R)) : Has X j R := ⟨_, h, fun _ _ h => Pred.of_from h⟩

theorem own_pl {α : Type} {E : EP α} {w : World} {T : TypeId} {I I' : IH} {v : Value} {l : List α} {xs : List Value} (hown : w.ownsRow 0 T E.size v l.length xs) (hR : (RP E l).h I xs) (hI : ∀ cs x, E.h I cs x → E.h I' cs x) (hb : ∀ b, v.ownBlock = some b → I' b = w.heap[b]?) : (PL E l).h I' v := by
  obtain ⟨hl, h2⟩ := hown
  rcases h2 with ⟨rfl, hn⟩ | ⟨g, cap, cur, rfl, _, hg, hn, _, _, htk⟩
  · exact ⟨none, 0, by rw [hn], by omega, fun i hi => by omega⟩
  · refine ⟨_, cap, rfl, hn, fun i hi => ?_⟩
    obtain ⟨c, rfl, h3, h4⟩ := hR
    have hic : i < c.length := by omega
    refine ⟨c[i], _, hI _ _ (h4 i hic hi), rfl, rfl, fun j y hj => ?_⟩
    have hbg := hb g rfl
    rw [hg] at hbg
    rw [Addr.add_plain, Nat.zero_add]
    have h5 := flatten_get (size := E.size) (fun z hz => by
      obtain ⟨m, hm, rfl⟩ := List.mem_iff_getElem.1 hz
      exact E.len (h4 m hm (by omega))) hic hj
    rw [← htk, List.getElem?_take] at h5
    split at h5
    · simp only [IH.cell, hbg]
      simpa using h5
    · cases h5
/-- A row of the call's own is settled. -/
theorem Gh.frz {α : Type} {E : EP α} {S : St} {k : Nat} {T : TypeId} {l : List α} (R' : Pred) (hE : cx.E = Emp) (hk : look k S.L = some (.own T E.size l.length (RP E l)))
    (hR : ∀ I I' v xs (w : World), w.ownsRow 0 T E.size v l.length xs → (RP E l).h I xs → I.le I' → (∀ b, v.ownBlock = some b → cx.w0.heap.size ≤ b ∧ I' b = w.heap[b]?) → R'.h I' v) :
    Gh cx S ⟨.e (.a (.v undef)), [], [(k, R')], [(k, .dead)], []⟩ := by
  intro M ε I a w hs hN
  obtain ⟨xs, h1, h2⟩ := hs.L k _ hk
  have hft := hs.foot k _ hk
  have hfp : ∀ b, (ε.ν k).ownBlock = some b → fpOf S ε ⟨.e (.a (.v undef)), [], [(k, R')], [(k, .dead)], []⟩ b := fun b hb => ⟨k, _, by simp [look], hk, hb⟩
  let I' : IH := fun b => if (ε.ν k).ownBlock = some b then w.heap[b]? else I b
  have hle : I.le I' := fun b o hb => by
    by_cases h : (ε.ν k).ownBlock = some b
    · rw [(hft b h).2.2] at hb; cases hb
    · simp only [I', if_neg h]; exact hb
  refine ⟨ε, I', ⟨fun _ _ => ⟨rfl, rfl, rfl⟩, hle, fun b o hb => ?_, rfl, rfl, rfl, Nat.le_refl _, fun _ _ _ => rfl, fun b o hb => ?_⟩,
    ⟨trivial, fun j R h => by obtain ⟨rfl, _⟩ := look_one h; exact .inl (hs.wfL j _ hk).1, fun _ _ h => (by cases h), fun i e he => by obtain ⟨rfl, rfl⟩ := look_one he; exact ⟨.inl (hs.wfL i _ hk).1, trivial⟩,
      fun j R h => ?_, fun i e he => by obtain ⟨rfl, rfl⟩ := look_one he; trivial, fun i e he b hb => by obtain ⟨rfl, rfl⟩ := look_one he; exact absurd hb (fun h => h),
      fun i i' e e' b he he' hne hb => by obtain ⟨rfl, rfl⟩ := look_one he; exact absurd hb (fun h => h), fun k x h => by obtain ⟨_, h⟩ := look_one h; cases h⟩⟩
  · by_cases h : (ε.ν k).ownBlock = some b
    · simp only [I', if_pos h] at hb; exact hb
    · simp only [I', if_neg h] at hb; exact hs.imm b o hb
  · by_cases h : (ε.ν k).ownBlock = some b
    · right; right
      refine ⟨hfp b h, ?_⟩
      rcases (hft b h).1 with h1 | h1
      · exact h1
      · rw [hE] at h1; exact h1.elim
    · simp only [I', if_neg h] at hb; exact .inl hb
  · obtain ⟨rfl, rfl⟩ := look_one h
    refine hR I I' _ xs w h1 h2 hle fun b hb => ⟨?_, by simp only [I', if_pos hb]⟩
    rcases (hft b hb).1 with h1 | h1
    · exact h1
    · rw [hE] at h1; exact h1.elim
theorem Imp.frz {α : Type} {E : EP α} (k : Nat) {T : TypeId} {l : List α} (hE : cx.E = Emp) (hk : look k L = some (.own T E.size l.length (RP E l))) : Imp cx ⟨n, fr, X, L, D, G⟩ ⟨n, fr, (k, PL E l) :: X, (k, .dead) :: L, D, G⟩ :=
  Imp.app n (Gh.frz (PL E l) hE hk fun _ _ _ _ _ h1 h2 hI hb => own_pl h1 h2 (fun _ _ h => E.mono hI h) fun b h => (hb b h).2) (fun _ h => by cases h) (Nat.le_refl _)
theorem Imp.frzf {α : Type} {E : EP α} (k : Nat) {T : TypeId} {l : List α} (hm : ∀ I I' cs x, E.h I cs x → E.h I' cs x) (hE : cx.E = Emp) (hk : look k L = some (.own T E.size l.length (RP E l))) :
    Imp cx ⟨n, fr, X, L, D, G⟩ ⟨n, fr, (k, Pred.from cx.w0.heap.size (PL E l)) :: X, (k, .dead) :: L, D, G⟩ :=
  Imp.app n (Gh.frz (Pred.from cx.w0.heap.size (PL E l)) hE hk fun _ _ _ _ _ h1 h2 hI hb => own_pl h1 h2 (fun _ _ h => hm _ _ _ _ h) fun b h => by
    unfold IH.from; rw [if_pos (hb b h).1]; exact (hb b h).2) (fun _ h => by cases h) (Nat.le_refl _)
theorem EP.fix_free {α : Type} {n : Nat} {enc : α → List Value} {hn : ∀ x, (enc x).length = n} : ∀ I I' cs x, (EP.fix n enc hn).h I cs x → (EP.fix n enc hn).h I' cs x := fun _ _ _ _ h => h

/-! #### Blocks -/
def At.sub (k k2 : Nat) : At → At
  | .p k' o => bif Nat.beq k' k then (bif Nat.beq o 0 then .q k2 else .e k2 o) else .p k' o
  | x => x
def El.sub (k k2 : Nat) : El → El
  | .a x => .a (x.sub k k2)
  | .g l => .g (l.map (At.sub k k2))
def SV.sub (k k2 : Nat) : SV → SV
  | .e x => .e (x.sub k k2)
  | .t l => .t (l.map (El.sub k k2))
  | .c g x => .c g x
def Ent.sub (k k2 : Nat) : Ent → Ent
  | .blk cs T => .blk (cs.map (At.sub k k2)) T
  | e => e
def subL {α : Type} (f : α → α) : List (Nat × α) → List (Nat × α)
  | [] => []
  | (i, x) :: t => (i, f x) :: subL f t
theorem look_subL {α : Type} (f : α → α) (i : Nat) : ∀ l : List (Nat × α), look i (subL f l) = (look i l).map f
  | [] => rfl
  | (k, x) :: t => by
    rw [subL, look_cons, look_cons, look_subL f i t]
    by_cases h : k = i <;> simp [h]
section
variable {ε : Env} {k k2 : Nat}
theorem At.den_sub (hν : ε.ν k2 = .pointer (some ⟨ε.β k, 0, none⟩)) : ∀ x : At, (x.sub k k2).den ε = x.den ε
  | .v _ | .q _ | .e _ _ | .s _ _ | .f _ _ => rfl
  | .p k' o => by
    unfold At.sub
    by_cases h1 : k' = k
    · subst h1
      by_cases h2 : o = 0
      · subst h2; simp [At.den, hν]
      · have : Nat.beq o 0 = false := by
          cases h : Nat.beq o 0
          · rfl
          · exact absurd (Nat.eq_of_beq_eq_true h) h2
        simp [this, At.den, hν, padd, Addr.add_plain]
    · have : Nat.beq k' k = false := by
        cases h : Nat.beq k' k
        · rfl
        · exact absurd (Nat.eq_of_beq_eq_true h) h1
      simp [this]
theorem El.den_sub (hν : ε.ν k2 = .pointer (some ⟨ε.β k, 0, none⟩)) : ∀ x : El, (x.sub k k2).den ε = x.den ε
  | .a x => At.den_sub hν x
  | .g l => by simp only [El.sub, El.den, List.map_map]; rw [List.map_congr_left (fun c _ => by show (c.sub k k2).den ε = _; exact At.den_sub hν c)]
theorem SV.den_sub (hν : ε.ν k2 = .pointer (some ⟨ε.β k, 0, none⟩)) : ∀ x : SV, (x.sub k k2).den ε = x.den ε
  | .e x => El.den_sub hν x
  | .t l => by simp only [SV.sub, SV.den, List.map_map]; rw [List.map_congr_left (fun c _ => by show (c.sub k k2).den ε = _; exact El.den_sub hν c)]
  | .c _ _ => rfl
end
theorem At.on_sub {M : Nat → Prop} {k k2 : Nat} (h2 : M k2) : ∀ {x : At}, x.on M → (x.sub k k2).on M
  | .v _, h | .q _, h | .e _ _, h | .s _ _, h | .f _ _, h => h
  | .p k' o, h => by
    show At.on M (bif Nat.beq k' k then (bif Nat.beq o 0 then .q k2 else .e k2 o) else .p k' o)
    cases Nat.beq k' k <;> cases Nat.beq o 0 <;> first | exact h | exact h2
theorem El.on_sub {M : Nat → Prop} {k k2 : Nat} (h2 : M k2) : ∀ {x : El}, x.on M → (x.sub k k2).on M
  | .a _, h => At.on_sub h2 h
  | .g l, h => fun c hc => by obtain ⟨y, hy, rfl⟩ := List.mem_map.1 hc; exact At.on_sub h2 (h y hy)
theorem SV.on_sub {γ : Nat → Bool} {M : Nat → Prop} {k k2 : Nat} (h2 : M k2) : ∀ {x : SV}, x.on γ M → (x.sub k k2).on γ M
  | .e _, h => El.on_sub h2 h
  | .t l, h => fun c hc => by obtain ⟨y, hy, rfl⟩ := List.mem_map.1 hc; exact El.on_sub h2 (h y hy)
  | .c _ _, h => h
theorem SatM.sub {M : Nat → Prop} {ε : Env} {I : IH} {S : St} {a : Act} {w : World} {k k2 : Nat} (hν : ε.ν k2 = .pointer (some ⟨ε.β k, 0, none⟩)) (hM : M k2) (h : SatM cx M ε I S a w) :
    SatM cx M ε I { S with fr := subL (SV.sub k k2) S.fr, L := subL (Ent.sub k k2) S.L } a w := by
  have hfr : ∀ i x, look i (subL (SV.sub k k2) S.fr) = some x → ∃ y, look i S.fr = some y ∧ x = y.sub k k2 := fun i x hx => by
    rw [look_subL] at hx
    cases hl : look i S.fr with
    | none => rw [hl] at hx; cases hx
    | some y => rw [hl] at hx; simp at hx; exact ⟨y, rfl, hx.symm⟩
  have hL : ∀ i x, look i (subL (Ent.sub k k2) S.L) = some x → ∃ y, look i S.L = some y ∧ x = y.sub k k2 := fun i x hx => by
    rw [look_subL] at hx
    cases hl : look i S.L with
    | none => rw [hl] at hx; cases hx
    | some y => rw [hl] at hx; simp at hx; exact ⟨y, rfl, hx.symm⟩
  have hft : ∀ (y : Ent) i b, (y.sub k k2).foot ε i b → y.foot ε i b := fun y i b hb => by cases y <;> exact hb
  refine { h with wfr := fun i x hx => ?_, fr := fun i x hx => ?_, wfL := fun i x hx => ?_, L := fun i x hx => ?_, foot := fun i e he b hb => ?_, sep := fun i i' e e' b he he' hne hb hb' => ?_, ext := fun i x hx => ?_ }
  · obtain ⟨y, h1, rfl⟩ := hfr i x hx; exact SV.on_sub hM (h.wfr i y h1)
  · obtain ⟨y, h1, rfl⟩ := hL i x hx
    refine ⟨(h.wfL i y h1).1, ?_⟩
    have := (h.wfL i y h1).2
    cases y with
    | blk cs T => intro c hc; obtain ⟨z, hz, rfl⟩ := List.mem_map.1 hc; exact At.on_sub hM (this z hz)
    | _ => exact trivial
  · obtain ⟨y, h1, rfl⟩ := hfr i x hx; rw [SV.den_sub hν]; exact h.fr i y h1
  · obtain ⟨y, h1, rfl⟩ := hL i x hx
    have := h.L i y h1
    cases y with
    | blk cs T =>
      simp only [Ent.ok, Ent.sub, List.map_map] at this ⊢
      rw [this, List.map_congr_left (fun c _ => by show _ = (c.sub k k2).den ε; exact (At.den_sub hν c).symm)]
      simp [Function.comp_def]
    | _ => exact this
  · obtain ⟨y, h1, rfl⟩ := hL i e he; exact h.foot i y h1 b (hft y i b hb)
  · obtain ⟨y, h1, rfl⟩ := hL i e he
    obtain ⟨y', h1', rfl⟩ := hL i' e' he'
    exact h.sep i i' y y' b h1 h1' hne (hft y i b hb) (hft y' i' b hb')
  · obtain ⟨y, h1, h2⟩ := hL i _ hx
    cases y <;> simp only [Ent.sub, reduceCtorEq] at h2
    cases h2; exact h.ext i x h1
/-- A block of the call's own is settled: the pointers to it are values from now on. -/
theorem Imp.frzb {α : Type} {E : EP α} {y : α} (k k2 m : Nat) {cs : List At} {T : TypeId} {S' : St} (hE : cx.E = Emp) (hk : look k L = some (.blk cs T)) (hz : ∀ M ε I a w, SatM cx M ε I ⟨n, fr, X, L, D, G⟩ a w → E.h I (cs.map (At.den ε)) y)
    (hk2 : Nat.ble n k2 = true) (hm : Nat.blt k2 m = true) (hS' : S' = ⟨m, subL (SV.sub k k2) fr, (k2, PP E y) :: X, (k, .dead) :: subL (Ent.sub k k2) L, D, G⟩) : Imp cx ⟨n, fr, X, L, D, G⟩ S' := by
  subst hS'
  intro ε I a w hs
  have hk2' : n ≤ k2 := by simpa using hk2
  rw [Nat.blt_eq] at hm
  have hb := hs.L k _ hk
  simp only [Ent.ok] at hb
  have hft := hs.foot k _ hk (ε.β k) rfl
  have hge : cx.w0.heap.size ≤ ε.β k := by
    rcases hft.1 with h1 | h1
    · exact h1
    · rw [hE] at h1; exact h1.elim
  have hkn : k < n := (hs.wfL k _ hk).1
  have hne : k ≠ k2 := by omega
  let I' : IH := fun b => if b = ε.β k then w.heap[b]? else I b
  have hle : I.le I' := fun b o hbo => by
    by_cases h : b = ε.β k
    · subst h; rw [hft.2.2] at hbo; cases hbo
    · simp only [I', if_neg h]; exact hbo
  let u : U := ⟨.e (.a (.v undef)), [k2], [(k2, PP E y)], [(k, .dead)], []⟩
  have hfp : fpOf ⟨n, fr, X, L, D, G⟩ ε u (ε.β k) := ⟨k, _, by simp [u, look], hk, rfl⟩
  let ε' : Env := ⟨ε.β, upd ε.ν k2 (.pointer (some ⟨ε.β k, 0, none⟩)), ε.γ⟩
  have hcell : ∀ j z, (cs.map (At.den ε))[j]? = some z → I'.cell ((⟨ε.β k, 0, none⟩ : Addr).add j) = some z := fun j z hj => by
    rw [Addr.add_plain, Nat.zero_add]
    simp only [IH.cell, I', if_true, hb]
    simpa using hj
  have ht : Tr cx.w0.heap.size ε ε' I I' w w u.N (fpOf ⟨n, fr, X, L, D, G⟩ ε u) := by
    refine ⟨fun i hi => ?_, hle, fun b o hbo => ?_, rfl, rfl, rfl, Nat.le_refl _, fun _ _ _ => rfl, fun b o hbo => ?_⟩
    · have : i ≠ k2 := fun e => hi (by simp [u, e])
      exact ⟨rfl, upd_other _ _ this, rfl⟩
    · by_cases h : b = ε.β k
      · simp only [I', if_pos h] at hbo; exact hbo
      · simp only [I', if_neg h] at hbo; exact hs.imm b o hbo
    · by_cases h : b = ε.β k
      · subst h; exact .inr (.inr ⟨hfp, hge⟩)
      · simp only [I', if_neg h] at hbo; exact .inl hbo
  have hn : New cx (· < n) ⟨n, fr, X, L, D, G⟩ ε ε' I' w w u := by
    refine ⟨trivial, fun j R h => ?_, fun _ _ h => (by cases h), fun i e he => ?_, fun j R h => ?_, fun i e he => ?_, fun i e he b hb => ?_, fun i i' e e' b he he' hne hb => ?_, fun k x h => by obtain ⟨_, h⟩ := look_one h; cases h⟩
    · obtain ⟨rfl, _⟩ := look_one h; exact .inr (by simp [u])
    · obtain ⟨rfl, rfl⟩ := look_one he; exact ⟨.inl hkn, trivial⟩
    · obtain ⟨rfl, rfl⟩ := look_one h
      simp only [ε', upd_same]
      exact ⟨_, _, rfl, rfl, E.mono hle (hz _ ε I a w hs), hcell⟩
    · obtain ⟨rfl, rfl⟩ := look_one he; trivial
    · obtain ⟨rfl, rfl⟩ := look_one he; exact absurd hb (fun h => h)
    · obtain ⟨rfl, rfl⟩ := look_one he; exact absurd hb (fun h => h)
  have h1 := SatM.app m hs (St.le.refl _) (d := none) (fun i hi hlt => by
    have hi : i ∈ [k2] := hi
    rw [List.mem_singleton] at hi; subst hi
    have : i < n := hlt
    omega) (fun i hi => by cases hi) ht hn
  have h2 := SatM.sub (k := k) (k2 := k2) (by simp only [ε', upd_same]) (.inr (by simp [u])) h1
  refine ⟨ε', I', SatM.mono ?_ h2⟩
  rintro i (hi | hi)
  · show i < m
    have : i < n := hi
    omega
  · have hi : i ∈ [k2] := hi
    rw [List.mem_singleton] at hi; subst hi; exact hm
end

/-! ### Memory lent to a call -/
theorem SatM.lend {cx : Cx} {M : Nat → Prop} {ε : Env} {I : IH} {S : St} {a : Act} {w : World} (hs : SatM cx M ε I S a w) {α : Type} {E : EP α} {k : Nat} {T : TypeId} {l : List α} (hk : look k S.L = some (.own T E.size l.length (RP E l))) : (PL E l).h (World.all w) (ε.ν k) := by
  obtain ⟨xs, h1, h2⟩ := hs.L k _ hk
  exact own_pl h1 h2 (fun _ _ h => E.mono hs.imm h) fun b _ => rfl
theorem SatM.all {cx : Cx} {M : Nat → Prop} {ε : Env} {I : IH} {S : St} {a : Act} {w : World} (hs : SatM cx M ε I S a w) {j : Nat} {R : Pred} (hj : Has S.X j R) : R.h (World.all w) (ε.ν j) := R.mono hs.imm (hs.has hj)
theorem OpG.callb {cx : Cx} {S : St} {o : Oper} {sv : SV} {X : List (Nat × Pred)} (hnd : ∀ c, o.op ≠ .defer c) (hres : sv.res (keys X))
    (h : ∀ M ε I a w, SatM cx M ε I S a w → ∃ f args, (execOp a.eval o).run cx.P w = .ok (.enter f args) w ∧ Ct cx.P f args (World.all w) w Emp sv (X.map fun p => (p.1, Pred.from w.heap.size p.2))) : OpG cx S o ⟨sv, keys X, X, [], []⟩ := by
  intro M ε I a w next Q hs hN K
  obtain ⟨f, args, h1, h2⟩ := h M ε I a w hs
  refine ⟨fun _ _ => trivial, ?_⟩
  rw [semAt_eq _ _ _ hnd, h1]
  refine ⟨fun h => (by cases h), CallsIn.mono (callsIn_fen h2) ?_⟩
  rintro e w' ⟨I', us, rfl, hk, hle, hon, hfr, hX⟩
  have hsv : sv.den ⟨fun _ => 0, us, fun _ => true⟩ = sv.den ⟨ε.β, fun j => if j ∈ keys X then us j else ε.ν j, ε.γ⟩ :=
    SV.den_res (fun j hj => by simp [hj]) hres
  show next (a.put o.dst _) w'
  rw [hsv]
  let I'' : IH := fun b => if w.heap.size ≤ b then I' b else I b
  refine K ⟨ε.β, fun j => if j ∈ keys X then us j else ε.ν j, ε.γ⟩ I'' w'
    ⟨fun i hi => ⟨rfl, by simp [hi], rfl⟩, fun b o hb => ?_, fun b o hb => ?_, hk.os, hk.tape, hk.output, hk.size, fun b hb _ => hk.block b hb (fun h => h), fun b o hb => ?_⟩
    ⟨SV.on_res (fun j hj => .inr hj) hres, fun j R hj => .inr (look_keys hj), fun _ _ h => (by cases h), fun _ _ h => (by cases h), fun j R hj => ?_, fun _ _ h => (by cases h), fun _ _ h => (by cases h), fun _ _ _ _ _ h => (by cases h), fun _ _ h => (by cases h)⟩
  · have := IH.on_lt hs.imm hb
    simp only [I'', if_neg (show ¬ w.heap.size ≤ b by omega)]; exact hb
  · by_cases hn : w.heap.size ≤ b
    · simp only [I'', if_pos hn] at hb; exact hon b o hb
    · simp only [I'', if_neg hn] at hb
      rw [hk.block b (by omega) (fun h => h)]; exact hs.imm b o hb
  · by_cases hn : w.heap.size ≤ b
    · exact .inr (.inl hn)
    · simp only [I'', if_neg hn] at hb; exact .inl hb
  · have hjk : j ∈ keys X := look_keys hj
    simp only [hjk, if_true]
    have := hX j (Pred.from w.heap.size R) (by rw [look_map (Pred.from w.heap.size)]; rw [hj]; rfl)
    refine R.mono (fun b o hb => ?_) this
    unfold IH.from at hb
    split at hb
    · rename_i hn; simp only [I'', if_pos hn]; exact hb
    · cases hb
section ops
variable {cx : Cx} {S : St} {dst : Option Tmp} {ty : TypeId} {pos : String} {af : Array Edge} {gd : Option (Nat × Bool)}
/-- A call of a function by its name, that is lent all memory. -/
theorem o_callb {f : FuncId} {l : List Operand} {ts : Array TypeId} {svs : List SV} {sv : SV} {X : List (Nat × Pred)} (hf : Enters' cx.P f) (hl : S.ops l = some svs) (hres : sv.res (keys X))
    (h : ∀ M ε I a w, SatM cx M ε I S a w → Ct cx.P f (svs.map (SV.den ε)).toArray (World.all w) w Emp sv (X.map fun p => (p.1, Pred.from w.heap.size p.2))) :
    OpG cx S ⟨dst, .call { callee := .value (.func f), args := l.toArray, argTypes := ts }, ty, pos, af, gd⟩ ⟨sv, keys X, X, [], []⟩ :=
  OpG.callb (fun _ => by simp) hres fun M ε I a w hs => by
    refine ⟨f, _, ?_, h M ε I a w hs⟩
    have := hs.evals hl
    simp [execOp, resolve, Act.eval, Deferred.ofValue, invoke, this, hf _ _]
/-- A function value is made. -/
theorem o_mkfn {f : FuncId} {l l' : List Operand} {svs svs' : List SV} {R : Pred} {k : Nat} (hl : S.ops l = some svs) (hl' : S.ops l' = some svs')
    (h : ∀ M ε I a w, SatM cx M ε I S a w → R.h I (.func (.func f) (svs.map (SV.den ε)).toArray (svs'.map (SV.den ε)).toArray)) :
    OpG cx S ⟨dst, .makeFunc (.func f) l.toArray l'.toArray, ty, pos, af, gd⟩ ⟨.e (.a (.q k)), [k], [(k, R)], [], []⟩ :=
  OpG.newq (fun _ => by simp) fun M ε I a w hs => by
    have h1 := hs.evals hl
    have h2 := hs.evals hl'
    exact ⟨_, h M ε I a w hs, by simp [execOp, Instr.makeFunc, h1, h2]⟩
/-- What is called: a function value, with the arguments ahead of and behind its own. -/
def FnV (P : Program) (v : Value) (args : List Value) (f : FuncId) (args' : Array Value) : Prop := ∀ w, (do let d ← Deferred.ofValue v args.toArray; invoke d.target d.args : Sem Next).run P w = .ok (.enter f args') w
theorem FnV.of {P : Program} {f : FuncId} {fs cs : Array Value} {args : List Value} (hf : Enters' P f) : FnV P (.func (.func f) fs cs) args f (fs ++ args.toArray ++ cs) := fun w => by
  simp [Deferred.ofValue, invoke, hf _ _]
theorem o_callv {x : Operand} {l : List Operand} {ts : Array TypeId} {svs : List SV} {fv sv : SV} {X : List (Nat × Pred)} (hx : S.op x = some fv) (hl : S.ops l = some svs) (hres : sv.res (keys X))
    (h : ∀ M ε I a w, SatM cx M ε I S a w → ∃ f args', FnV cx.P (fv.den ε) (svs.map (SV.den ε)) f args' ∧ Ct cx.P f args' I w Emp sv X) :
    OpG cx S ⟨dst, .call { callee := .value x, args := l.toArray, argTypes := ts }, ty, pos, af, gd⟩ ⟨sv, keys X, X, [], []⟩ :=
  OpG.call (fun _ => by simp) hres fun M ε I a w hs => by
    obtain ⟨f, args', h1, h2⟩ := h M ε I a w hs
    refine ⟨f, args', ?_, h2⟩
    have h3 := hs.evals hl
    have h4 := hs.eval hx
    have := h1 w
    simpa [execOp, resolve, h3, h4] using this
theorem o_callvb {x : Operand} {l : List Operand} {ts : Array TypeId} {svs : List SV} {fv sv : SV} {X : List (Nat × Pred)} (hx : S.op x = some fv) (hl : S.ops l = some svs) (hres : sv.res (keys X))
    (h : ∀ M ε I a w, SatM cx M ε I S a w → ∃ f args', FnV cx.P (fv.den ε) (svs.map (SV.den ε)) f args' ∧ Ct cx.P f args' (World.all w) w Emp sv (X.map fun p => (p.1, Pred.from w.heap.size p.2))) :
    OpG cx S ⟨dst, .call { callee := .value x, args := l.toArray, argTypes := ts }, ty, pos, af, gd⟩ ⟨sv, keys X, X, [], []⟩ :=
  OpG.callb (fun _ => by simp) hres fun M ε I a w hs => by
    obtain ⟨f, args', h1, h2⟩ := h M ε I a w hs
    refine ⟨f, args', ?_, h2⟩
    have h3 := hs.evals hl
    have h4 := hs.eval hx
    have := h1 w
    simpa [execOp, resolve, h3, h4] using this
end ops
end Go.Eng
