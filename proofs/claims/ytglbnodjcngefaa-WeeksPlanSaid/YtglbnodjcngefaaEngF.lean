/- The engine, part F: states behind renamed keys, loops, cuts; settling memory. -/
import Derived.Test.YtglbnodjcngefaaEngE
set_option linter.unusedSimpArgs false
set_option linter.unusedVariables false
namespace Go.Eng
open Go

def At.renk (ρ : Nat → Nat) : At → At
  | .v y => .v y
  | .q j => .q (ρ j)
  | .p k o => .p (ρ k) o
  | .e j o => .e (ρ j) o
  | .s k n => .s (ρ k) n
  | .f fn js => .f fn (js.map ρ)
def El.renk (ρ : Nat → Nat) : El → El
  | .a x => .a (x.renk ρ)
  | .g l => .g (l.map (At.renk ρ))
def SV.renk (ρ : Nat → Nat) : SV → SV
  | .e x => .e (x.renk ρ)
  | .t l => .t (l.map (El.renk ρ))
  | .c g x => .c (ρ g) (x.renk ρ)
def Ent.renk (ρ : Nat → Nat) : Ent → Ent
  | .blk cs T => .blk (cs.map (At.renk ρ)) T
  | e => e
def Env.ren (ε : Env) (ρ : Nat → Nat) : Env := ⟨fun k => ε.β (ρ k), fun k => ε.ν (ρ k), fun k => ε.γ (ρ k)⟩
theorem At.den_renk {ρ : Nat → Nat} {ε : Env} : ∀ {x : At}, (x.renk ρ).den ε = x.den (ε.ren ρ)
  | .v _ | .q _ | .p _ _ | .e _ _ | .s _ _ => rfl
  | .f _ js => by simp [At.renk, At.den, Env.ren, Function.comp_def]
theorem El.den_renk {ρ : Nat → Nat} {ε : Env} : ∀ {x : El}, (x.renk ρ).den ε = x.den (ε.ren ρ)
  | .a _ => At.den_renk
  | .g l => by simp only [El.renk, El.den, List.map_map]; rw [List.map_congr_left (fun c _ => by show (c.renk ρ).den ε = _; exact At.den_renk)]
theorem SV.den_renk {ρ : Nat → Nat} {ε : Env} : ∀ {x : SV}, (x.renk ρ).den ε = x.den (ε.ren ρ)
  | .e _ => El.den_renk
  | .t l => by simp only [SV.renk, SV.den, List.map_map]; rw [List.map_congr_left (fun c _ => by show (c.renk ρ).den ε = _; exact El.den_renk)]
  | .c g x => by simp only [SV.renk, SV.den, El.den_renk]; rfl

def At.kb (n : Nat) : At → Bool
  | .v _ => true
  | .q j => Nat.blt j n
  | .p k _ => Nat.blt k n
  | .e j _ => Nat.blt j n
  | .s k _ => Nat.blt k n
  | .f _ js => js.all (Nat.blt · n)
def El.kb (n : Nat) : El → Bool
  | .a x => x.kb n
  | .g l => l.all (At.kb n)
def SV.kb (n : Nat) : SV → Bool
  | .e x => x.kb n
  | .t l => l.all (El.kb n)
  | .c g x => Nat.blt g n && x.kb n
def Ent.kb (n : Nat) : Ent → Bool
  | .blk cs _ => cs.all (At.kb n)
  | _ => true
def St.kb (S : St) : Bool :=
  S.fr.all (fun p => p.2.kb S.n) && S.X.all (fun p => Nat.blt p.1 S.n) && S.L.all (fun p => Nat.blt p.1 S.n && p.2.kb S.n) && S.D.all (Nat.blt · S.n)
theorem At.on_kb {n : Nat} : ∀ {x : At}, x.kb n = true → x.on (· < n)
  | .v _, _ => trivial
  | .q _, h | .p _ _, h | .e _ _, h | .s _ _, h => by simpa [At.kb, Nat.blt_eq, At.on] using h
  | .f _ js, h => fun j hj => by simpa [Nat.blt_eq] using (List.all_eq_true.1 h j hj)
theorem El.on_kb {n : Nat} : ∀ {x : El}, x.kb n = true → x.on (· < n)
  | .a _, h => At.on_kb h
  | .g _, h => fun c hc => At.on_kb (List.all_eq_true.1 h c hc)
theorem SV.on_kb {n : Nat} {γ : Nat → Bool} : ∀ {x : SV}, x.kb n = true → x.on γ (· < n)
  | .e _, h => El.on_kb h
  | .t _, h => fun c hc => El.on_kb (List.all_eq_true.1 h c hc)
  | .c g x, h => by
    simp only [SV.kb, Bool.and_eq_true, Nat.blt_eq] at h
    exact ⟨h.1, fun _ => El.on_kb h.2⟩
theorem Ent.on_kb {n : Nat} : ∀ {e : Ent}, e.kb n = true → e.on (· < n)
  | .blk _ _, h => fun c hc => At.on_kb (List.all_eq_true.1 h c hc)
  | .own _ _ _ _, _ | .ob _, _ | .ext _, _ | .dead, _ => trivial

def LeFr (fr : List (Nat × SV)) (ρ : Nat → Nat) : List (Nat × SV) → Prop
  | [] => True
  | (i, x) :: t => look i fr = some (x.renk ρ) ∧ LeFr fr ρ t
def LeX (X : List (Nat × Pred)) (ρ : Nat → Nat) : List (Nat × Pred) → Prop
  | [] => True
  | (j, R) :: t => Has X (ρ j) R ∧ LeX X ρ t
def LeL (L : List (Nat × Ent)) (ρ : Nat → Nat) : List (Nat × Ent) → Prop
  | [] => True
  | (k, e) :: t => look (ρ k) L = some (e.renk ρ) ∧ LeL L ρ t
theorem LeFr.get {fr : List (Nat × SV)} {ρ : Nat → Nat} : ∀ {fr' : List (Nat × SV)}, LeFr fr ρ fr' → ∀ i x, look i fr' = some x → look i fr = some (x.renk ρ)
  | (k, y) :: t, h, i, x, hi => by
    rw [look_cons] at hi
    by_cases hk : k = i
    · subst hk; simp at hi; subst hi; exact h.1
    · simp [hk] at hi; exact LeFr.get h.2 i x hi
theorem LeX.get {X : List (Nat × Pred)} {ρ : Nat → Nat} : ∀ {X' : List (Nat × Pred)}, LeX X ρ X' → ∀ i x, look i X' = some x → Has X (ρ i) x
  | (k, y) :: t, h, i, x, hi => by
    rw [look_cons] at hi
    by_cases hk : k = i
    · subst hk; simp at hi; subst hi; exact h.1
    · simp [hk] at hi; exact LeX.get h.2 i x hi
theorem LeL.get {L : List (Nat × Ent)} {ρ : Nat → Nat} : ∀ {L' : List (Nat × Ent)}, LeL L ρ L' → ∀ i x, look i L' = some x → look (ρ i) L = some (x.renk ρ)
  | (k, y) :: t, h, i, x, hi => by
    rw [look_cons] at hi
    by_cases hk : k = i
    · subst hk; simp at hi; subst hi; exact h.1
    · simp [hk] at hi; exact LeL.get h.2 i x hi
/-- S' is S, some keys renamed, less known. -/
structure LeR (nB : Nat) (S S' : St) (ρ : Nat → Nat) : Prop where
  fr : LeFr S.fr ρ S'.fr
  X : LeX S.X ρ S'.X
  L : LeL S.L ρ S'.L
  inj : ∀ k k', k ∈ keys S'.L → k' ∈ keys S'.L → ρ k = ρ k' → k = k'
  D : S.D = S'.D.map ρ
  G : S'.G = []
  kb : S'.kb = true
  pin : ∀ k, k < nB → ρ k = k ∧ k < S'.n
theorem Sat.leR {cx : Cx} {ε : Env} {I : IH} {S S' : St} {ρ : Nat → Nat} {a : Act} {w : World} (hl : LeR cx.nB S S' ρ) (h : Sat cx ε I S a w) : Sat cx (ε.ren ρ) I S' a w := by
  have hkb := hl.kb
  simp only [St.kb, Bool.and_eq_true] at hkb
  obtain ⟨⟨⟨k1, k2⟩, k3⟩, k4⟩ := hkb
  refine ⟨?_, ?_, ?_, ?_, ?_, ?_, h.size, ?_, ?_, ?_, ?_, ?_, ?_, h.imm, h.keep, h.le0, h.fr0, ?_, ?_⟩
  · intro i x hx
    exact SV.on_kb (List.all_eq_true.1 k1 _ (look_mem hx))
  · intro j R hj
    simpa [Nat.blt_eq] using List.all_eq_true.1 k2 _ (look_mem hj)
  · intro k e he
    have := List.all_eq_true.1 k3 _ (look_mem he)
    simp only [Bool.and_eq_true, Nat.blt_eq] at this
    exact ⟨this.1, Ent.on_kb this.2⟩
  · intro k hk
    simpa [Nat.blt_eq] using List.all_eq_true.1 k4 _ hk
  · intro g b hg; rw [hl.G] at hg; cases hg
  · intro g b hg; rw [hl.G] at hg; cases hg
  · rw [h.defs, hl.D, List.map_map]; rfl
  · intro i x hx
    rw [h.fr i _ (hl.fr.get i x hx), SV.den_renk]
  · intro j R hj
    exact h.has (hl.X.get j R hj)
  · intro k e he
    have := h.L _ _ (hl.L.get k e he)
    cases e with
    | blk cs T =>
      simp only [Ent.ok, Ent.renk, List.map_map] at this ⊢
      rw [show (ε.ren ρ).β k = ε.β (ρ k) from rfl, this, List.map_congr_left (fun c _ => by show (c.renk ρ).den ε = _; exact At.den_renk)]
    | own T size n R => exact this
    | ob o => exact this
    | ext x => exact this
    | dead => trivial
  · intro k e he b hb
    refine h.foot _ _ (hl.L.get k e he) b ?_
    cases e <;> exact hb
  · intro k k' e e' b he he' hne hb
    have := h.sep _ _ _ _ b (hl.L.get k e he) (hl.L.get k' e' he') (fun e => hne (hl.inj k k' (look_keys he) (look_keys he') e)) (by cases e <;> exact hb)
    intro hb'
    exact this (by cases e' <;> exact hb')
  · intro k hk
    obtain ⟨h1, h2⟩ := hl.pin k hk
    obtain ⟨_, h3⟩ := h.pin k hk
    exact ⟨h2, by simpa [Env.ren, h1] using h3⟩
  · intro k x hx
    exact h.ext _ x (hl.L.get k _ hx)
section rules
variable {cx : Cx} {S S' : St} {Q : Exit → Act → World → Prop}
theorem WP.leR {c : Code} (ρ : Nat → Nat) (hl : LeR cx.nB S S' ρ) (h : WP cx S' c Q) : WP cx S c Q := fun _ _ _ _ hs => h _ _ _ _ (Sat.leR hl hs)
theorem WPl.leR {ops : Array Oper} {c : List Oper} (ρ : Nat → Nat) (hl : LeR cx.nB S S' ρ) (h : WPl cx ops S' c Q) : WPl cx ops S c Q := fun _ _ _ _ hs => h _ _ _ _ (Sat.leR hl hs)
theorem EX.leR {e : Exit} (ρ : Nat → Nat) (hl : LeR cx.nB S S' ρ) (h : EX cx S' e Q) : EX cx S e Q := fun _ _ _ _ hs => h _ _ _ _ (Sat.leR hl hs)

/-! ### Loops -/
def LoopK {Gh : Type} (cx : Cx) (Sg : Gh → St) (φ : Gh → Prop) (μ : Gh → Nat) (g : Gh) (Q : Exit → Act → World → Prop) : Exit → Act → World → Prop :=
  Exit.then (fun a w => ∃ g', φ g' ∧ μ g' < μ g ∧ ∃ ε I, Sat cx ε I (Sg g') a w) Q
theorem EX.again {Gh : Type} {Sg : Gh → St} {φ : Gh → Prop} {μ : Gh → Nat} {g : Gh} (g' : Gh) (ρ : Nat → Nat) (hφ : φ g') (hμ : μ g' < μ g) (hl : LeR cx.nB S (Sg g') ρ) : EX cx S .normal (LoopK cx Sg φ μ g Q) :=
  fun _ _ _ _ hs => ⟨g', hφ, hμ, _, _, Sat.leR hl hs⟩
theorem least {P : Nat → Prop} (h : ∃ n, P n) : ∃ n, P n ∧ ∀ m, P m → n ≤ m := by
  obtain ⟨n, hn⟩ := h
  induction n using Nat.strongRecOn with
  | _ n ih =>
    by_cases hc : ∃ m, m < n ∧ P m
    · obtain ⟨m, h1, h2⟩ := hc; exact ih m h1 h2
    · exact ⟨n, hn, fun m hm => by
        rcases Nat.lt_or_ge m n with h | h
        · exact absurd ⟨m, h, hm⟩ hc
        · exact h⟩
open Classical in
theorem WP.loop {Gh : Type} {c : Code} (Sg : Gh → St) (φ : Gh → Prop) (μ : Gh → Nat) (g0 : Gh) (ρ : Nat → Nat) (hφ : φ g0) (hl : LeR cx.nB S (Sg g0) ρ) (h : ∀ g, φ g → WP cx (Sg g) c (LoopK cx Sg φ μ g Q)) : WP cx S (.loop c) Q := by
  intro ε I a w hs
  let Inv : Act → World → Prop := fun a w => ∃ g, φ g ∧ ∃ ε I, Sat cx ε I (Sg g) a w
  let P : Act → World → Nat → Prop := fun a w n => ∃ g, φ g ∧ μ g = n ∧ ∃ ε I, Sat cx ε I (Sg g) a w
  let M : Act → World → Nat := fun a w => if h : ∃ n, P a w n then Classical.choose (least h) else 0
  have hM : ∀ a w g, φ g → (∃ ε I, Sat cx ε I (Sg g) a w) → M a w ≤ μ g := by
    intro a w g h1 h2
    have hex : ∃ n, P a w n := ⟨_, g, h1, rfl, h2⟩
    simp only [M, dif_pos hex]
    exact (Classical.choose_spec (least hex)).2 _ ⟨g, h1, rfl, h2⟩
  refine wpIn_loop Inv M ⟨g0, hφ, _, _, Sat.leR hl hs⟩ ?_
  rintro a w ⟨g, h1, h2⟩
  have hex : ∃ n, P a w n := ⟨_, g, h1, rfl, h2⟩
  obtain ⟨g, h1, h3, ε, I, h4⟩ := (Classical.choose_spec (least hex)).1
  have hMe : M a w = μ g := by simp only [M, dif_pos hex]; exact h3.symm
  refine wpIn_mono (h g h1 ε I a w h4) ?_
  intro e a' w' hq
  cases e with
  | normal =>
    obtain ⟨g', h5, h6, h7⟩ := hq
    exact ⟨⟨g', h5, h7⟩, by rw [hMe]; exact Nat.lt_of_le_of_lt (hM a' w' g' h5 h7) h6⟩
  | _ => exact hq
end rules

/-! ### Facts on types, out of what the loaded program bears -/
theorem Fld.mk {P : Program} {T t : TypeId} {fs : List Field} {f off : Nat} {fd : Field} {m : Nat} (hu : P.underlying T = some (.struct fs.toArray)) (hf : fs[f]? = some fd) (ht : fd.type = t) (ho : fd.offset = off) (hs : ∀ w, (sizeOf t).run P w = .ok m w) (hm : Nat.blt 0 m = true) : Fld P T f off := by
  intro a w
  subst ho
  subst ht
  rw [Nat.blt_eq] at hm
  have hm' : m ≠ 0 := by omega
  simp [Instr.fieldAt, run_underlying hu, hf, Instr.sureAddr, fieldPlace, hs, hm']
theorem Zero.mk {P : Program} {T : TypeId} {z : Value} {zs : List Value} {cs : List At} (hz : ∀ w, (zeroValue T).run P w = .ok z w) (hzs : z.cells = zs.toArray) (hc : cs = zs.map .v) : Zero P T cs := by
  subst hc
  refine ⟨z, hz, fun ε => ?_, ?_⟩
  · rw [hzs, List.map_map]
    simp [Function.comp_def, At.den]
  · intro M c hc
    obtain ⟨v, _, rfl⟩ := List.mem_map.1 hc
    trivial
end Go.Eng
