/- Part 3 of the texts behind the claim: EngTs EngTt EngTu EngTv SV2 SV3 EngTw EngTx SV4 EngTy SV5 EngTz EngTza SV6 SV7 EngTzb SV8 SV9 SV10 SV11 SV12 SV13 SV14 SV15 JS0. -/
import Derived.Test.YtjnjiemaoinblaaZS2
set_option linter.unusedSimpArgs false
set_option linter.unusedVariables false
namespace Go.Eng
open Go
def XP.fine (n1 : Nat) (x : XP) : Prop := x.n1 ≤ n1 ∧ ∀ b,¬ x.Rd b
theorem Stab.sub {n1 : Nat} {Rd F : Nat → Prop} {I I' : IH} {w w' : World} (h : Stab n1 Rd F I I' w w') {m : Nat} {Rd' F' : Nat → Prop} (hm : m ≤ n1) (hR : ∀ b,Rd' b → Rd b) (hF : ∀ b,F' b → F b) : Stab m Rd' F' I I' w w' :=
  ⟨h.le,h.on,h.os,h.tape,h.output,h.size,fun b hb hn => h.block b hb (hn.imp (hR b) (hF b)),fun b o hb => (h.fresh b o hb).imp id fun ⟨a,c⟩ => ⟨Nat.le_trans hm a,fun h => c (hF b h)⟩⟩
def YI.star {n1 : Nat} (Y : YI n1) {σ : Type} (x y : σ → XP) (hx : ∀ s,(x s).fine n1 ∧ (y s).fine n1) : YI n1 where
  J F I w := ∃ (F1 : Nat → Prop) (s : σ),((∀ b,F1 b → F b) ∧ (∀ b,(x s).F b → F b ∧ n1 ≤ b) ∧ ∀ b,(y s).F b → F b ∧ n1 ≤ b) ∧ (∀ b,¬ (F1 b ∧ (x s).F b) ∧ ¬ (F1 b ∧ (y s).F b) ∧ ¬ ((x s).F b ∧ (y s).F b)) ∧
    (∀ b,F b → (F1 b ∨ n1 ≤ b) ∧ b < w.heap.size ∧ I b = none) ∧ Y.J F1 I w ∧ (x s).J I w ∧ (y s).J I w
  st := by
    rintro F I I' w w' h ⟨F1,s,⟨h1,h2,h3⟩,h4,h5,h6,h7,h8⟩
    refine ⟨F1,s,⟨h1,h2,h3⟩,h4,fun b hb => ⟨(h5 b hb).1,Nat.lt_of_lt_of_le (h5 b hb).2.1 h.size,?_⟩,Y.st (h.sub (Nat.le_refl _) (fun _ h => h) h1) h6,
      (x s).st (h.sub (hx s).1.1 (fun b hb => absurd hb ((hx s).1.2 b)) fun b hb => (h2 b hb).1) h7,(y s).st (h.sub (hx s).2.1 (fun b hb => absurd hb ((hx s).2.2 b)) fun b hb => (h3 b hb).1) h8⟩
    cases hc : I' b with
    | none => rfl
    | some o =>
      rcases h.fresh b o hc with h' | ⟨_,h'⟩
      · rw [(h5 b hb).2.2] at h'; cases h'
      · exact absurd hb h'
  ft := fun ⟨_,_,_,_,h5,_⟩ b hb => (h5 b hb).2
section
variable {cx : Cx} {Q : Exit → Act → World → Prop} {n : Nat} {fr : List (Nat × SV)} {X : List (Nat × Pred)} {L : List (Nat × Ent)} {D : List Nat} {G : List (Nat × Bool)}
theorem Sat.openY {ε : Env} {I : IH} {a : Act} {w : World} {m n1 : Nat} {Y : YI n1} {σ : Type} {x y : σ → XP} {hx : ∀ s,(x s).fine n1 ∧ (y s).fine n1} {F : Nat → Prop} {ky : Nat} (kx kw : Nat) (hs : Sat cx ε I ⟨n,fr,X,L,D,G⟩ a w)
    (hk : look ky L = some (.ext ((Y.star x y hx).xp F))) (hkx : Nat.ble n kx = true) (hkw : Nat.blt kx kw = true) (hm : Nat.blt kw m = true) :
    ∃ F1 s,(∀ b,F1 b → F b) ∧ (∀ b,F b → F1 b ∨ n1 ≤ b) ∧ (∀ b,(x s).F b → n1 ≤ b) ∧ (∀ b,(y s).F b → n1 ≤ b) ∧ Sat cx ε I ⟨m,fr,X,(kx,.ext (x s)) :: (kw,.ext (y s)) :: (ky,.ext (Y.xp F1)) :: L,D,G⟩ a w := by
  rw [Nat.ble_eq] at hkx
  rw [Nat.blt_eq] at hkw hm
  obtain ⟨F1,s,⟨h1,h2,h3⟩,h4,h5,h6,h7,h8⟩ := hs.L ky _ hk
  have hky : ky < n := (hs.wfL ky _ hk).1
  have hft := hs.foot ky _ hk
  obtain ⟨he1,he2⟩ := hs.ext ky _ hk
  have he1 : n1 ≤ cx.w0.heap.size := he1
  have hlk : ∀ i e,look i ((kx,Ent.ext (x s)) :: (kw,.ext (y s)) :: (ky,.ext (Y.xp F1)) :: L) = some e → (i = kx ∧ e = .ext (x s)) ∨ (i = kw ∧ e = .ext (y s)) ∨ (i = ky ∧ e = .ext (Y.xp F1)) ∨ (i ≠ ky ∧ i < n ∧ look i L = some e) := by
    intro i e he
    rw [look_cons] at he
    by_cases c1 : kx = i
    · subst c1; simp at he; exact .inl ⟨rfl,he.symm⟩
    simp only [c1,if_false] at he
    rw [look_cons] at he
    by_cases c2 : kw = i
    · subst c2; simp at he; exact .inr (.inl ⟨rfl,he.symm⟩)
    simp only [c2,if_false] at he
    rw [look_cons] at he
    by_cases c3 : ky = i
    · subst c3; simp at he; exact .inr (.inr (.inl ⟨rfl,he.symm⟩))
    simp only [c3,if_false] at he
    exact .inr (.inr (.inr ⟨fun e => c3 e.symm,(hs.wfL i e he).1,he⟩))
  have hold : ∀ i e b,look i ((kx,Ent.ext (x s)) :: (kw,.ext (y s)) :: (ky,.ext (Y.xp F1)) :: L) = some e → e.foot ε i b → (F b ∧ (i = kx ∨ i = kw ∨ i = ky)) ∨ (i ≠ ky ∧ i < n ∧ look i L = some e) := by
    intro i e b he hb
    rcases hlk i e he with ⟨rfl,rfl⟩ | ⟨rfl,rfl⟩ | ⟨rfl,rfl⟩ | h
    · exact .inl ⟨(h2 b hb).1,.inl rfl⟩
    · exact .inl ⟨(h3 b hb).1,.inr (.inl rfl)⟩
    · exact .inl ⟨h1 b hb,.inr (.inr rfl)⟩
    · exact .inr h
  refine ⟨F1,s,h1,fun b hb => (h5 b hb).1,fun b hb => (h2 b hb).2,fun b hb => (h3 b hb).2,?_⟩
  have hs' := SatM.mono (M' := (· < m)) (fun k hk => Nat.lt_of_lt_of_le hk (show n ≤ m by omega)) hs
  refine { hs' with wfL := fun i e he => ?_,L := fun i e he => ?_,foot := fun i e he b hb => ?_,sep := fun i i' e e' b he he' hne hb hb' => ?_,ext := fun i z hz => ?_ }
  · rcases hlk i e he with ⟨rfl,rfl⟩ | ⟨rfl,rfl⟩ | ⟨rfl,rfl⟩ | ⟨_,_,h⟩
    · exact ⟨by show i < m; omega,trivial⟩
    · exact ⟨hm,trivial⟩
    · exact ⟨by show i < m; omega,trivial⟩
    · exact hs'.wfL i e h
  · rcases hlk i e he with ⟨rfl,rfl⟩ | ⟨rfl,rfl⟩ | ⟨rfl,rfl⟩ | ⟨_,_,h⟩
    · exact h7
    · exact h8
    · exact h6
    · exact hs.L i e h
  · rcases hold i e b he hb with ⟨h,_⟩ | ⟨_,_,h⟩
    · exact hft b h
    · exact hs.foot i e h b hb
  · have key : ∀ i e b,look i ((kx,Ent.ext (x s)) :: (kw,.ext (y s)) :: (ky,.ext (Y.xp F1)) :: L) = some e → e.foot ε i b → F b → (i = kx ∧ (x s).F b) ∨ (i = kw ∧ (y s).F b) ∨ (i = ky ∧ F1 b) := by
      intro i e b he hb hF
      rcases hlk i e he with ⟨rfl,rfl⟩ | ⟨rfl,rfl⟩ | ⟨rfl,rfl⟩ | ⟨hn,_,h⟩
      · exact .inl ⟨rfl,hb⟩
      · exact .inr (.inl ⟨rfl,hb⟩)
      · exact .inr (.inr ⟨rfl,hb⟩)
      · exact absurd hF (hs.sep i ky e _ b h hk hn hb)
    rcases hold i e b he hb with ⟨hF,_⟩ | ⟨hn,_,h⟩
    · have g := key i e b he hb hF
      have g' := key i' e' b he' hb' hF
      have h4 := h4 b
      rcases g with ⟨rfl,g⟩ | ⟨rfl,g⟩ | ⟨rfl,g⟩ <;> rcases g' with ⟨rfl,g'⟩ | ⟨rfl,g'⟩ | ⟨rfl,g'⟩
      · exact hne rfl
      · exact h4.2.2 ⟨g,g'⟩
      · exact h4.1 ⟨g',g⟩
      · exact h4.2.2 ⟨g',g⟩
      · exact hne rfl
      · exact h4.2.1 ⟨g',g⟩
      · exact h4.1 ⟨g,g'⟩
      · exact h4.2.1 ⟨g,g'⟩
      · exact hne rfl
    · rcases hold i' e' b he' hb' with ⟨hF,_⟩ | ⟨hn',_,h'⟩
      · exact hs.sep i ky e _ b h hk hn hb hF
      · exact hs.sep i i' e e' b h h' hne hb hb'
  · rcases hlk i _ hz with ⟨rfl,he⟩ | ⟨rfl,he⟩ | ⟨rfl,he⟩ | ⟨_,_,h⟩
    · cases he; exact ⟨Nat.le_trans (hx s).1.1 he1,fun b hb => absurd hb ((hx s).1.2 b)⟩
    · cases he; exact ⟨Nat.le_trans (hx s).2.1 he1,fun b hb => absurd hb ((hx s).2.2 b)⟩
    · cases he
      refine ⟨he1,fun b hb => ⟨(he2 b hb).1,fun hE => ?_⟩⟩
      have hb : b < n1 := hb
      rcases (h5 b ((he2 b hb).2 hE)).1 with h | h
      · exact h
      · omega
    · exact hs.ext i z h
theorem WP.openY {c : Code} {m n1 : Nat} {Y : YI n1} {σ : Type} {x y : σ → XP} {hx : ∀ s,(x s).fine n1 ∧ (y s).fine n1} {F : Nat → Prop} {ky : Nat} (kx kw : Nat) (hk : look ky L = some (.ext ((Y.star x y hx).xp F))) (hkx : Nat.ble n kx = true) (hkw : Nat.blt kx kw = true) (hm : Nat.blt kw m = true)
    (h : ∀ F1 s,(∀ b,F1 b → F b) → (∀ b,F b → F1 b ∨ n1 ≤ b) → (∀ b,(x s).F b → n1 ≤ b) → (∀ b,(y s).F b → n1 ≤ b) → WP cx ⟨m,fr,X,(kx,.ext (x s)) :: (kw,.ext (y s)) :: (ky,.ext (Y.xp F1)) :: L,D,G⟩ c Q) : WP cx ⟨n,fr,X,L,D,G⟩ c Q := fun ε I a w hs => by
  obtain ⟨F1,s,g1,g2,g3,g4,hs'⟩ := Sat.openY kx kw hs hk hkx hkw hm
  exact h F1 s g1 g2 g3 g4 ε I a w hs'
theorem WPl.openY {ops : Array Oper} {rest : List Oper} {m n1 : Nat} {Y : YI n1} {σ : Type} {x y : σ → XP} {hx : ∀ s,(x s).fine n1 ∧ (y s).fine n1} {F : Nat → Prop} {ky : Nat} (kx kw : Nat) (hk : look ky L = some (.ext ((Y.star x y hx).xp F))) (hkx : Nat.ble n kx = true) (hkw : Nat.blt kx kw = true) (hm : Nat.blt kw m = true)
    (h : ∀ F1 s,(∀ b,F1 b → F b) → (∀ b,F b → F1 b ∨ n1 ≤ b) → (∀ b,(x s).F b → n1 ≤ b) → (∀ b,(y s).F b → n1 ≤ b) → WPl cx ops ⟨m,fr,X,(kx,.ext (x s)) :: (kw,.ext (y s)) :: (ky,.ext (Y.xp F1)) :: L,D,G⟩ rest Q) : WPl cx ops ⟨n,fr,X,L,D,G⟩ rest Q := fun ε I a w hs => by
  obtain ⟨F1,s,g1,g2,g3,g4,hs'⟩ := Sat.openY kx kw hs hk hkx hkw hm
  exact h F1 s g1 g2 g3 g4 ε I a w hs'
def clF (F1 : Nat → Prop) (x y : XP) (E : Nat → Prop) (b : Nat) : Prop := F1 b ∨ x.F b ∨ y.F b ∨ E b
theorem Imp.closeY {n1 : Nat} {Y : YI n1} {σ : Type} {x y : σ → XP} {hx : ∀ s,(x s).fine n1 ∧ (y s).fine n1} {F1 : Nat → Prop} (ky kx kw : Nat) (s : σ) (hky : look ky L = some (.ext (Y.xp F1))) (hkx : look kx L = some (.ext (x s))) (hkw : look kw L = some (.ext (y s)))
    (hne : (Nat.beq ky kx || Nat.beq ky kw || Nat.beq kx kw) = false) (hE : ∀ b,cx.E b → F1 b ∨ n1 ≤ b) (hE0 : ∀ b,cx.E b → b < cx.w0.heap.size ∧ cx.I0 b = none) :
    Imp cx ⟨n,fr,X,L,D,G⟩ ⟨n,fr,X,[(ky,.ext ((Y.star x y hx).xp (clF F1 (x s) (y s) cx.E)))],D,G⟩ := fun ε I a w hs => by
  simp only [Bool.or_eq_false_iff] at hne
  obtain ⟨⟨n2,n3⟩,n4⟩ := hne
  have n2 : ky ≠ kx := fun e => by rw [e] at n2; simp at n2
  have n3 : ky ≠ kw := fun e => by rw [e] at n3; simp at n3
  have n4 : kx ≠ kw := fun e => by rw [e] at n4; simp at n4
  have f1 := hs.foot ky _ hky
  have f2 := hs.foot kx _ hkx
  have f3 := hs.foot kw _ hkw
  obtain ⟨e1,e2⟩ := hs.ext ky _ hky
  have e1 : n1 ≤ cx.w0.heap.size := e1
  have hxn : ∀ b,(x s).F b → n1 ≤ b := fun b hb => by
    rcases (f2 b hb).1 with h | h
    · exact Nat.le_trans e1 h
    · rcases hE b h with h | h
      · exact absurd hb (hs.sep ky kx _ _ b hky hkx n2 h)
      · exact h
  have hyn : ∀ b,(y s).F b → n1 ≤ b := fun b hb => by
    rcases (f3 b hb).1 with h | h
    · exact Nat.le_trans e1 h
    · rcases hE b h with h | h
      · exact absurd hb (hs.sep ky kw _ _ b hky hkw n3 h)
      · exact h
  have hI : ∀ b,cx.E b → b < w.heap.size ∧ I b = none := fun b hb => by
    obtain ⟨g1,g2⟩ := hE0 b hb
    refine ⟨Nat.lt_of_lt_of_le g1 hs.keep.size,?_⟩
    cases hc : I b with
    | none => rfl
    | some o =>
      rcases hs.fr0 b o hc with h | h
      · rw [g2] at h; cases h
      · omega
  have hall : ∀ b,clF F1 (x s) (y s) cx.E b → (cx.w0.heap.size ≤ b ∨ cx.E b) ∧ b < w.heap.size ∧ I b = none := fun b hb => by
    rcases hb with hb | hb | hb | hb
    · exact f1 b hb
    · exact f2 b hb
    · exact f3 b hb
    · exact ⟨.inr hb,hI b hb⟩
  refine ⟨ε,I,{ hs with wfL := fun i e he => ?_,L := fun i e he => ?_,foot := fun i e he b hb => ?_,sep := fun i i' e e' b he he' hne hb hb' => ?_,ext := fun i z hz => ?_ }⟩
  · obtain ⟨rfl,rfl⟩ := look_one he; exact ⟨(hs.wfL i _ hky).1,trivial⟩
  · obtain ⟨rfl,rfl⟩ := look_one he
    refine ⟨F1,s,⟨fun b hb => .inl hb,fun b hb => ⟨.inr (.inl hb),hxn b hb⟩,fun b hb => ⟨.inr (.inr (.inl hb)),hyn b hb⟩⟩,fun b => ⟨fun h => hs.sep i kx _ _ b hky hkx n2 h.1 h.2,fun h => hs.sep i kw _ _ b hky hkw n3 h.1 h.2,fun h => hs.sep kx kw _ _ b hkx hkw n4 h.1 h.2⟩,
      fun b hb => ⟨?_,(hall b hb).2⟩,hs.L i _ hky,hs.L kx _ hkx,hs.L kw _ hkw⟩
    rcases hb with hb | hb | hb | hb
    · exact .inl hb
    · exact .inr (hxn b hb)
    · exact .inr (hyn b hb)
    · exact hE b hb
  · obtain ⟨rfl,rfl⟩ := look_one he; exact hall b hb
  · obtain ⟨rfl,_⟩ := look_one he
    obtain ⟨rfl,_⟩ := look_one he'
    exact absurd rfl hne
  · obtain ⟨rfl,he⟩ := look_one hz
    cases he
    exact ⟨e1,fun b hb => ⟨(e2 b hb).1,fun hE' => .inr (.inr (.inr hE'))⟩⟩
end
theorem ownsRow_kept {w w' : World} {b : Nat} {e : TypeId} {s n : Nat} {v : Value} {xs : List Value} (h : w.ownsRow b e s v n xs) (hb : ∀ g,g < w.heap.size → v.ownBlock = some g → w'.heap[g]? = w.heap[g]?) : w'.ownsRow b e s v n xs := by
  obtain ⟨h1,h2⟩ := h
  refine ⟨h1,?_⟩
  rcases h2 with h | ⟨g,cap,cur,rfl,hle,hg,r⟩
  · exact .inl h
  · exact .inr ⟨g,cap,cur,rfl,hle,by rw [hb g (Array.getElem?_eq_some_iff.1 hg).1 rfl]; exact hg,r⟩
def intsV (l : List Int) : List Value := l.map (Value.int .i64)
structure RowsJ (B0 : Nat) (T0 T1 : TypeId) (rv : List Value) (pl : List (List Int)) (hole : Option Nat) (w : World) : Prop where
  b : w.heap[B0]? = some (.cells rv.toArray T0 (0,0))
  n : rv.length = pl.length
  r : ∀ i v,rv[i]? = some v → hole ≠ some i → w.ownsRow 0 T1 1 v (pl.getD i []).length (intsV (pl.getD i []))
  o : ∀ i v,rv[i]? = some v → hole ≠ some i → v.ownBlock ≠ some B0
  d : ∀ i j v u b,rv[i]? = some v → rv[j]? = some u → i ≠ j → hole ≠ some i → hole ≠ some j → v.ownBlock = some b → u.ownBlock ≠ some b
def rowsXP (B0 : Nat) (T0 T1 : TypeId) (rv : List Value) (pl : List (List Int)) (hole : Option Nat) : XP :=
  ⟨0,fun _ => False,fun b => b = B0 ∨ ∃ i v,rv[i]? = some v ∧ hole ≠ some i ∧ v.ownBlock = some b,fun _ w => RowsJ B0 T0 T1 rv pl hole w,fun h hJ => by
    refine ⟨?_,hJ.n,fun i v hi hh => ownsRow_kept (hJ.r i v hi hh) fun g hg hv => h.block g hg (.inr (.inr ⟨i,v,hi,hh,hv⟩)),hJ.o,hJ.d⟩
    rw [h.block B0 (Array.getElem?_eq_some_iff.1 hJ.b).1 (.inr (.inl rfl))]; exact hJ.b⟩
theorem rowsXP.fine {B0 : Nat} {T0 T1 : TypeId} {rv : List Value} {pl : List (List Int)} {hole : Option Nat} {n1 : Nat} : (rowsXP B0 T0 T1 rv pl hole).fine n1 := ⟨Nat.zero_le _,fun _ h => h⟩
abbrev rowsV (B0 n : Nat) : Value := .slice (some ⟨B0,0,none⟩) n n
def rowsE (rv : List Value) : Value := .agg (rv.map fun v => match v with | .slice (some a) _ _ => .pointer (some ⟨a.block,0,none⟩) | _ => undef).toArray
theorem rows_lblk {B0 n : Nat} {T0 T1 : TypeId} {rv : List Value} {pl : List (List Int)} {b : Nat} : lblk (rowsV B0 n) (rowsE rv) b ↔ (rowsXP B0 T0 T1 rv pl none).F b := by
  constructor
  · rintro (h | ⟨vs,o,h,hm⟩)
    · simp only [rowsV,Value.ownBlock,Option.some.injEq] at h; exact .inl h.symm
    · simp only [rowsE,Value.agg.injEq] at h
      subst h
      simp only [List.mem_map] at hm
      obtain ⟨v,hv,he⟩ := hm
      obtain ⟨i,hi,rfl⟩ := List.mem_iff_getElem.1 hv
      refine .inr ⟨i,rv[i],List.getElem?_eq_getElem hi,by simp,?_⟩
      split at he
      · rename_i a _ _ hv'
        rw [hv']
        simp only [Value.pointer.injEq,Option.some.injEq,Addr.mk.injEq] at he
        simp only [Value.ownBlock,he.1]
      · cases he
  · rintro (rfl | ⟨i,v,hi,_,hb⟩)
    · exact .inl rfl
    · refine .inr ⟨_,0,rfl,?_⟩
      simp only [List.mem_map]
      refine ⟨v,List.mem_of_getElem? hi,?_⟩
      cases v with
      | slice a k c =>
        cases a with
        | none => cases hb
        | some a => simp only [Value.ownBlock,Option.some.injEq] at hb; subst hb; rfl
      | _ => cases hb
theorem rows_lend {B0 n : Nat} {T0 T1 : TypeId} {rv : List Value} {pl : List (List Int)} (hn : n = pl.length) (hT : True) : ∀ I w,(rowsXP B0 T0 T1 rv pl none).J I w → (PL (EP.sl EP.int) pl).h (rd w (rowsV B0 n) (rowsE rv)) (rowsV B0 n) ∧ ∀ b,lblk (rowsV B0 n) (rowsE rv) b → (rowsXP B0 T0 T1 rv pl none).F b := by
  intro I w hJ
  refine ⟨?_,fun b hb => rows_lblk.1 hb⟩
  subst hn
  refine ⟨_,_,rfl,Nat.le_refl _,fun i hi => ?_⟩
  have hir : i < rv.length := by rw [hJ.n]; exact hi
  have hr := hJ.r i rv[i] (List.getElem?_eq_getElem hir) (by simp)
  have hget : pl.getD i [] = pl[i] := by simp [List.getD_eq_getElem?_getD,hi]
  rw [hget] at hr
  refine ⟨[rv[i]],_,⟨rv[i],rfl,own_pl (E := EP.int) hr ?_ (fun _ _ h => h) fun b hb => ?_⟩,rfl,rfl,fun j y hj => ?_⟩
  · refine ⟨pl[i].map fun x => [Value.int .i64 x],?_,by simp,fun k hk hl => ?_⟩
    · unfold intsV
      induction pl[i] with
      | nil => rfl
      | cons a t ih => simp only [List.map_cons,List.flatten_cons,List.singleton_append]; rw [ih]
    · simp only [List.getElem_map]; rfl
  · unfold rd
    rw [if_pos (rows_lblk (T0 := T0) (T1 := T1) (pl := pl).2 (.inr ⟨i,rv[i],List.getElem?_eq_getElem hir,by simp,hb⟩))]
  · cases j with
    | zero =>
      simp only [List.getElem?_cons_zero,Option.some.injEq] at hj
      subst hj
      rw [Addr.add_plain]
      show IH.cell _ ⟨B0,0 + (i * 1 + 0),none⟩ = _
      have hb := hJ.b
      unfold IH.cell rd
      rw [if_pos (show lblk _ _ B0 from .inl rfl),hb]
      simp [hir]
    | succ j => simp at hj
theorem rows_pl {B0 n : Nat} {T0 T1 : TypeId} {rv : List Value} {pl : List (List Int)} (hn : n = pl.length) : ∀ I w,(rowsXP B0 T0 T1 rv pl none).J I w → (PL (EP.sl EP.int) pl).h (World.all w) (rowsV B0 n) := fun I w hJ =>
  (PL (EP.sl EP.int) pl).mono rd_all (rows_lend hn trivial I w hJ).1
def usedXP (U : Nat) (T : TypeId) (z : Int) : XP := ⟨0,fun _ => False,fun b => b = U,fun _ w => w.heap[U]? = some (.cells #[.int .i64 z] T (0,0)),fun h hJ => by
  rw [h.block U (Array.getElem?_eq_some_iff.1 hJ).1 (.inr rfl)]; exact hJ⟩
theorem usedXP.fine {U : Nat} {T : TypeId} {z : Int} {n1 : Nat} : (usedXP U T z).fine n1 := ⟨Nat.zero_le _,fun _ h => h⟩
end Go.Eng
namespace Go.Eng
open Go
theorem OpG.extst {cx : Cx} {S : St} {op : Op} {ty : TypeId} {pos : String} {af : Array Edge} {gd : Option (Nat × Bool)} {kx B : Nat} {x x' : XP} (hnd : ∀ c,op ≠ .defer c) (hk : look kx S.L = some (.ext x)) (hB : x.F B) (hF : ∀ b,x'.F b → x.F b) (hn : x'.n1 = 0 ∧ ∀ b,¬ x'.Rd b)
    (h : ∀ M ε I a w,SatM cx M ε I S a w → ∃ w',(execOp a.eval ⟨none,op,ty,pos,af,gd⟩).run cx.P w = .ok .skip w' ∧ w'.os = w.os ∧ w'.tape = w.tape ∧ Out w' w ∧ w'.heap.size = w.heap.size ∧ (∀ b,b ≠ B → w'.heap[b]? = w.heap[b]?) ∧ x'.J I w') :
    OpG cx S ⟨none,op,ty,pos,af,gd⟩ ⟨.e (.a (.v undef)),[],[],[(kx,.ext x')],[]⟩ := by
  intro M ε I a w next Q hs hN K
  obtain ⟨w',h1,h2,h3,h4,h5,h6,h7⟩ := h M ε I a w hs
  refine ⟨fun _ _ => trivial,?_⟩
  rw [semAt_eq _ _ _ hnd,h1]
  have hft := hs.foot kx _ hk
  have hfp : ∀ b,x.F b → fpOf S ε ⟨.e (.a (.v undef)),[],[],[(kx,.ext x')],[]⟩ b := fun b hb => ⟨kx,_,by simp [look],hk,hb⟩
  exact K ε I w' ⟨fun _ _ => ⟨rfl,rfl,rfl⟩,IH.le.rfl',fun b o' hb => by rw [h6 b (fun e => by rw [e,(hft B hB).2.2] at hb; cases hb)]; exact hs.imm b o' hb,h2,h3,h4,by omega,fun b _ hb => h6 b (fun e => hb (e ▸ hfp B hB)),fun _ _ h => .inl h⟩
    ⟨trivial,fun _ _ h => (by cases h),fun _ _ h => (by cases h),fun i e he => by obtain ⟨rfl,rfl⟩ := look_one he; exact ⟨.inl (hs.wfL i _ hk).1,trivial⟩,fun _ _ h => (by cases h),
      fun i e he => by obtain ⟨rfl,rfl⟩ := look_one he; exact h7,
      fun i e he b hb => by
        obtain ⟨rfl,rfl⟩ := look_one he
        have hb := hF b hb
        exact ⟨(hft b hb).1,by rw [h5]; exact (hft b hb).2.1,(hft b hb).2.2,.inr (hfp b hb)⟩,
      fun i i' e e' b he he' hne => by
        obtain ⟨rfl,_⟩ := look_one he
        obtain ⟨rfl,_⟩ := look_one he'
        exact absurd rfl hne,
      fun i z hz => by
        obtain ⟨_,h⟩ := look_one hz
        cases h
        exact ⟨by rw [hn.1]; exact Nat.zero_le _,fun b hb => absurd hb (hn.2 b)⟩⟩
section ops
variable {cx : Cx} {S : St} {dst : Option Tmp} {ty : TypeId} {pos : String} {af : Array Edge} {gd : Option (Nat × Bool)}
theorem o_idxC {x y : Operand} {T e : TypeId} {B0 n : Nat} {i : Int} (hT : IsSl cx.P T e 1) (hx : S.op x = some (.e (.a (.v (rowsV B0 n))))) (hy : S.op y = some (.i i)) (h0 : 0 ≤ i) (h1 : i < n) :
    OpG cx S ⟨dst,.indexAddr T x y,ty,pos,af,gd⟩ (.val (.e (.a (.v (.pointer (some ⟨B0,i.toNat,none⟩)))))) :=
  OpG.pure (fun _ => by simp) fun M ε I a w hs => ⟨trivial,by
    have h := hs.eval hx
    have h' := hs.eval hy
    simp only [SV.den,El.den,At.den] at h h'
    obtain ⟨hu,hsz⟩ := hT
    simp [execOp,h,h',Instr.indexAt,asIntOf,run_underlying hu,h0,h1,hsz,Instr.sureAddr,Addr.add_plain,SV.den,El.den,At.den]⟩
theorem o_ldrow {x : Operand} {T T0 T1 : TypeId} {B0 m kx kr : Nat} {rv : List Value} {pl : List (List Int)} {hole : Option Nat} {u : Value} (hT : TyS cx.P T) (hx : S.op x = some (.e (.a (.v (.pointer (some ⟨B0,m,none⟩)))))) (hk : look kx S.L = some (.ext (rowsXP B0 T0 T1 rv pl hole))) (hu : rv[m]? = some u) (hr : Has S.X kr (Pred.is u)) :
    OpG cx S ⟨dst,.load T x,ty,pos,af,gd⟩ (.val (.e (.a (.q kr)))) :=
  OpG.pure (fun _ => by simp) fun M ε I a w hs => ⟨by obtain ⟨R,hR,_⟩ := hr; exact hs.wfX kr R hR,by
    have h := hs.eval hx
    have hJ : RowsJ B0 T0 T1 rv pl hole w := hs.L kx _ hk
    simp only [SV.den,El.den,At.den] at h
    have hc : w.cell? ⟨B0,m,none⟩ = some u := by simp [World.cell?,hJ.b,hu]
    have hν : ε.ν kr = u := hs.has hr
    simp [execOp,h,run_load1 hT hc,SV.den,El.den,At.den,hν]⟩
theorem o_strow {x y : Operand} {T T0 T1 : TypeId} {B0 m kx k : Nat} {rv : List Value} {pl : List (List Int)} {u : Value} (hT : TyS cx.P T) (hx : S.op x = some (.e (.a (.v (.pointer (some ⟨B0,m,none⟩)))))) (hk : look kx S.L = some (.ext (rowsXP B0 T0 T1 rv pl (some m)))) (hy : S.op y = some (.e (.a (.q k)))) (hu : Has S.X k (Pred.is u)) (h1 : u.oneCell' = true) (hm : m < rv.length) :
    OpG cx S ⟨none,.store T x y,ty,pos,af,none⟩ ⟨.e (.a (.v undef)),[],[],[(kx,.ext (rowsXP B0 T0 T1 (rv.set m u) pl (some m)))],[]⟩ :=
  OpG.extst (B := B0) (fun _ => by simp) hk (.inl rfl) (fun b hb => by
      rcases hb with hb | ⟨i,v,hi,hh,hv⟩
      · exact .inl hb
      · have : m ≠ i := fun e => hh (by rw [e])
        rw [List.getElem?_set_ne this] at hi
        exact .inr ⟨i,v,hi,hh,hv⟩) ⟨rfl,fun _ h => h⟩ fun M ε I a w hs => by
    have h := hs.eval hx
    have h' := hs.eval hy
    have hJ : RowsJ B0 T0 T1 rv pl (some m) w := hs.L kx _ hk
    have hν : ε.ν k = u := hs.has hu
    simp only [SV.den,El.den,At.den,hν] at h h'
    obtain ⟨w',g1,g2,g3,g4,g5,g6,g7⟩ := run_storeCells_blk cx.P B0 T0 [u] m 0 rv w hJ.b (by simp; omega) (fun z hz => by rw [List.mem_singleton] at hz; subst hz; exact h1)
    refine ⟨w',by simp [execOp,h,h',Instr.storeAt,Instr.sureAddr,storeVar,hT.sz,cells_one h1,g1],g3,g4,g5,g6,g7,?_⟩
    have hset : rv.take (m + 0) ++ [u] ++ rv.drop (m + 0 + [u].length) = rv.set m u := by
      rw [Nat.add_zero,List.length_singleton,List.append_assoc,List.set_eq_take_append_cons_drop,if_pos hm]; rfl
    rw [hset] at g2
    have hne : ∀ i,some m ≠ some i → m ≠ i := fun i hi e => hi (by rw [e])
    refine ⟨g2,by rw [List.length_set]; exact hJ.n,fun i v hi hh => ?_,fun i v hi hh => ?_,fun i j v z b hi hj hij h1 h2 hv => ?_⟩
    · rw [List.getElem?_set_ne (hne i hh)] at hi
      exact ownsRow_kept (hJ.r i v hi hh) fun g _ hv => g7 g (fun e => hJ.o i v hi hh (by rw [hv,e]))
    · rw [List.getElem?_set_ne (hne i hh)] at hi; exact hJ.o i v hi hh
    · rw [List.getElem?_set_ne (hne i h1)] at hi
      rw [List.getElem?_set_ne (hne j h2)] at hj
      exact hJ.d i j v z b hi hj hij h1 h2 hv
theorem rp_intsV {l : List Int} {I : IH} : (RP EP.int l).h I (intsV l) := ⟨l.map fun x => [Value.int .i64 x],by unfold intsV; induction l with
  | nil => rfl
  | cons a t ih => simp only [List.map_cons,List.flatten_cons,List.singleton_append]; rw [ih],by simp,fun k hk hl => by simp only [List.getElem_map]; rfl⟩
theorem rp_int_eq {I : IH} : ∀ {l : List Int} {xs : List Value},(RP EP.int l).h I xs → xs = intsV l
  | l,_,⟨c,rfl,h1,h2⟩ => by
    induction c generalizing l with
    | nil => cases l with
      | nil => rfl
      | cons a t => simp at h1
    | cons a t ih => cases l with
      | nil => simp at h1
      | cons b s =>
        have h3 : a = [Value.int .i64 b] := h2 0 (by simp) (by simp)
        have := ih (l := s) (by simpa using h1) (fun i hi hl => h2 (i + 1) (by simpa using hi) (by simpa using hl))
        rw [List.flatten_cons,h3,this]; rfl
theorem o_shrink {x yh : Operand} {T e : TypeId} {k0 k : Nat} {l : List Int} (hT : IsSl cx.P T e 1) (hx : S.op x = some (.e (.a (.q k0)))) (hk0 : look k0 S.L = some (.own e EP.int.size l.length (RP EP.int l))) (hh : S.op yh = some (.i ((l.length : Int) - 1))) (hl : 0 < l.length) :
    OpG cx S ⟨dst,.slice T x none (some yh) none,ty,pos,af,gd⟩ ⟨.e (.a (.q k)),[k],[],[(k,.own e EP.int.size l.dropLast.length (RP EP.int l.dropLast)),(k0,.dead)],[]⟩ :=
  OpG.own1 (fun _ => by simp) hk0 fun M ε I a w hs => by
    have h1 := hs.eval hx
    have h2 := hs.eval hh
    simp only [SV.den,El.den,At.den] at h1 h2
    obtain ⟨xs,h3,h4⟩ := hs.L k0 _ hk0
    have hxs := rp_int_eq h4
    subst hxs
    obtain ⟨hu,hsz⟩ := hT
    obtain ⟨g1,g2⟩ := h3
    rcases g2 with ⟨_,hz⟩ | ⟨g,cap,cur,hv,hle,hg,hn,hcm,hcs,htk⟩
    · omega
    · have e : ((l.length : Int) - 1) = ((l.length - 1 : Nat) : Int) := by omega
      rw [e] at h2
      rw [hv] at h1
      have hb : ((l.length - 1 : Nat) : Int) ≤ cap := by omega
      refine ⟨.slice (some ⟨g,0,none⟩) l.dropLast.length cap,w,intsV l.dropLast,?_,?_,rp_intsV,⟨rfl,rfl,Out.rf,Nat.le_refl _,fun _ _ _ => rfl⟩,.inl (by rw [hv]; rfl)⟩
      · rw [List.length_dropLast]
        have h0 : (0 : Int) ≤ ((l.length - 1 : Nat) : Int) := by omega
        simp only [execOp,h1,h2,Option.map]
        simp [Instr.sliceAt,Instr.slice,run_underlying hu,Instr.sliceBounds,hsz,Instr.sliceBound,asIntOf,h0,hb]
        rw [if_pos (by omega : l.length ≤ cap + 1)]
        simp [Addr.add_zero']
      · refine ⟨by simp [intsV,EP.int,EP.fix],.inr ⟨g,cap,cur,rfl,hle,hg,by rw [List.length_dropLast]; omega,hcm,hcs,?_⟩⟩
        have h5 : (cur.toList.take (l.length * 1)).take (l.dropLast.length * 1) = (intsV l).take (l.dropLast.length * 1) := by rw [show cur.toList.take (l.length * 1) = intsV l from htk]
        rw [List.take_take,Nat.min_eq_left (by rw [List.length_dropLast]; omega)] at h5
        show cur.toList.take (l.dropLast.length * 1) = _
        rw [h5,Nat.mul_one,List.length_dropLast]
        unfold intsV
        rw [← List.map_take,List.dropLast_eq_take]
theorem o_ldu {x : Operand} {T Tu : TypeId} {U kx j : Nat} {z : Int} (hT : TyS cx.P T) (hx : S.op x = some (.e (.a (.q j)))) (hj : Has S.X j (Pred.is (.pointer (some ⟨U,0,none⟩)))) (hk : look kx S.L = some (.ext (usedXP U Tu z))) : OpG cx S ⟨dst,.load T x,ty,pos,af,gd⟩ (.val (.i z)) :=
  OpG.pure (fun _ => by simp) fun M ε I a w hs => ⟨trivial,by
    have h := hs.eval hx
    have hJ : w.heap[U]? = some (.cells #[.int .i64 z] Tu (0,0)) := hs.L kx _ hk
    have hν : ε.ν j = _ := hs.has hj
    simp only [SV.den,El.den,At.den,hν] at h
    have hc : w.cell? ⟨U,0,none⟩ = some (.int .i64 z) := by simp [World.cell?,hJ]
    simp [execOp,h,run_load1 hT hc,SV.den,El.den,At.den]⟩
theorem o_stu {x y : Operand} {T Tu : TypeId} {U kx j : Nat} {z z' : Int} (hT : TyS cx.P T) (hx : S.op x = some (.e (.a (.q j)))) (hj : Has S.X j (Pred.is (.pointer (some ⟨U,0,none⟩)))) (hk : look kx S.L = some (.ext (usedXP U Tu z))) (hy : S.op y = some (.i z')) :
    OpG cx S ⟨none,.store T x y,ty,pos,af,none⟩ ⟨.e (.a (.v undef)),[],[],[(kx,.ext (usedXP U Tu z'))],[]⟩ :=
  OpG.extst (B := U) (fun _ => by simp) hk rfl (fun b hb => hb) ⟨rfl,fun _ h => h⟩ fun M ε I a w hs => by
    have h := hs.eval hx
    have h' := hs.eval hy
    have hJ : w.heap[U]? = some (.cells #[.int .i64 z] Tu (0,0)) := hs.L kx _ hk
    have hν : ε.ν j = _ := hs.has hj
    simp only [SV.den,El.den,At.den,hν] at h h'
    obtain ⟨w',g1,g2,g3,g4,g5,g6,g7⟩ := run_storeCells_blk cx.P U Tu [.int .i64 z'] 0 0 [.int .i64 z] w hJ (by simp) (fun z hz => by rw [List.mem_singleton] at hz; subst hz; rfl)
    have hvc : (Value.int .i64 z').cells = #[.int .i64 z'] := rfl
    exact ⟨w',by simp [execOp,h,h',Instr.storeAt,Instr.sureAddr,storeVar,hT.sz,hvc,g1],g3,g4,g5,g6,g7,by show w'.heap[U]? = _; simpa using g2⟩
end ops
section
variable {cx : Cx} {Q : Exit → Act → World → Prop} {n : Nat} {fr : List (Nat × SV)} {X : List (Nat × Pred)} {L : List (Nat × Ent)} {D : List Nat} {G : List (Nat × Bool)}
theorem Imp.openRow {B0 m : Nat} {T0 T1 : TypeId} {rv : List Value} {pl : List (List Int)} {u : Value} {l : List Int} (kx kr : Nat) (hk : look kx L = some (.ext (rowsXP B0 T0 T1 rv pl none))) (hkr : Has X kr (Pred.is u)) (hbk : Nat.beq kx kr = false) (hu : rv[m]? = some u) (hl : pl.getD m [] = l) :
    Imp cx ⟨n,fr,X,L,D,G⟩ ⟨n,fr,X,(kx,.ext (rowsXP B0 T0 T1 rv pl (some m))) :: (kr,.own T1 EP.int.size l.length (RP EP.int l)) :: L,D,G⟩ := by
  have hne' : kx ≠ kr := fun e => by rw [e] at hbk; simp at hbk
  refine Imp.app (u := ⟨.e (.a (.v undef)),[],[],[(kx,.ext (rowsXP B0 T0 T1 rv pl (some m))),(kr,.own T1 EP.int.size l.length (RP EP.int l))],[]⟩) n ?_ (fun _ h => by cases h) (Nat.le_refl _)
  intro M ε I a w hs hN
  have hJ : RowsJ B0 T0 T1 rv pl none w := hs.L kx _ hk
  have hν : ε.ν kr = u := hs.has hkr
  have hft := hs.foot kx _ hk
  have hlk : ∀ i e,look i [(kx,Ent.ext (rowsXP B0 T0 T1 rv pl (some m))),(kr,.own T1 EP.int.size l.length (RP EP.int l))] = some e → (i = kx ∧ e = .ext (rowsXP B0 T0 T1 rv pl (some m))) ∨ (i = kr ∧ e = .own T1 EP.int.size l.length (RP EP.int l)) := by
    intro i e he
    rw [look_cons] at he
    by_cases c : kx = i
    · subst c; simp at he; exact .inl ⟨rfl,he.symm⟩
    · simp only [c,if_false] at he
      obtain ⟨rfl,rfl⟩ := look_one he; exact .inr ⟨rfl,rfl⟩
  have hF : ∀ i e b,look i [(kx,Ent.ext (rowsXP B0 T0 T1 rv pl (some m))),(kr,.own T1 EP.int.size l.length (RP EP.int l))] = some e → e.foot ε i b → (rowsXP B0 T0 T1 rv pl none).F b := by
    intro i e b he hb
    rcases hlk i e he with ⟨rfl,rfl⟩ | ⟨rfl,rfl⟩
    · rcases hb with hb | ⟨j,v,hj,hh,hv⟩
      · exact .inl hb
      · exact .inr ⟨j,v,hj,by simp,hv⟩
    · have hb : (ε.ν i).ownBlock = some b := hb
      rw [hν] at hb
      exact .inr ⟨m,u,hu,by simp,hb⟩
  have hfp : ∀ b,(rowsXP B0 T0 T1 rv pl none).F b → fpOf ⟨n,fr,X,L,D,G⟩ ε ⟨.e (.a (.v undef)),[],[],[(kx,.ext (rowsXP B0 T0 T1 rv pl (some m))),(kr,.own T1 EP.int.size l.length (RP EP.int l))],[]⟩ b := fun b hb => ⟨kx,_,by simp [look_cons],hk,hb⟩
  refine ⟨ε,I,⟨fun _ _ => ⟨rfl,rfl,rfl⟩,IH.le.rfl',hs.imm,rfl,rfl,Out.rf,Nat.le_refl _,fun _ _ _ => rfl,fun _ _ h => .inl h⟩,
    ⟨trivial,fun _ _ h => (by cases h),fun _ _ h => (by cases h),fun i e he => ?_,fun _ _ h => (by cases h),fun i e he => ?_,fun i e he b hb => ⟨(hft b (hF i e b he hb)).1,(hft b (hF i e b he hb)).2.1,(hft b (hF i e b he hb)).2.2,.inr (hfp b (hF i e b he hb))⟩,fun i i' e e' b he he' hij hb hb' => ?_,fun i z hz => ?_⟩⟩
  · rcases hlk i e he with ⟨rfl,rfl⟩ | ⟨rfl,rfl⟩
    · exact ⟨.inl (hs.wfL i _ hk).1,trivial⟩
    · obtain ⟨R,hR,_⟩ := hkr; exact ⟨.inl (hs.wfX i R hR),trivial⟩
  · rcases hlk i e he with ⟨rfl,rfl⟩ | ⟨rfl,rfl⟩
    · exact ⟨hJ.b,hJ.n,fun j v hj _ => hJ.r j v hj (by simp),fun j v hj _ => hJ.o j v hj (by simp),fun i j v z b hi hj hij _ _ => hJ.d i j v z b hi hj hij (by simp) (by simp)⟩
    · refine ⟨intsV l,?_,rp_intsV⟩
      have := hJ.r m u hu (by simp)
      rw [hl] at this
      rw [hν]; exact this
  · have key : ∀ i e i' e',look i [(kx,Ent.ext (rowsXP B0 T0 T1 rv pl (some m))),(kr,.own T1 EP.int.size l.length (RP EP.int l))] = some e → look i' [(kx,Ent.ext (rowsXP B0 T0 T1 rv pl (some m))),(kr,.own T1 EP.int.size l.length (RP EP.int l))] = some e' → i = kx → i' = kr → e.foot ε i b → e'.foot ε i' b → False := by
      rintro i e i' e' he he' rfl rfl hb hb'
      rcases hlk _ e he with ⟨_,rfl⟩ | ⟨h,_⟩
      · rcases hlk _ e' he' with ⟨h,_⟩ | ⟨_,rfl⟩
        · exact hne' h.symm
        · have hb' : (ε.ν i').ownBlock = some b := hb'
          rw [hν] at hb'
          rcases hb with rfl | ⟨j,v,hj,hh,hv⟩
          · exact hJ.o m u hu (by simp) hb'
          · exact hJ.d j m v u b hj hu (fun e => hh (by rw [e])) (by simp) (by simp) hv hb'
      · exact hne' h
    rcases hlk i e he with ⟨rfl,_⟩ | ⟨rfl,_⟩ <;> rcases hlk i' e' he' with ⟨rfl,_⟩ | ⟨rfl,_⟩
    · exact hij rfl
    · exact key _ e _ e' he he' rfl rfl hb hb'
    · exact key _ e' _ e he' he rfl rfl hb' hb
    · exact hij rfl
  · rcases hlk i _ hz with ⟨_,he⟩ | ⟨_,he⟩
    · cases he; exact ⟨Nat.zero_le _,fun _ h => h.elim⟩
    · cases he
theorem Imp.closeRow {B0 m : Nat} {T0 T1 : TypeId} {rv : List Value} {pl pl' : List (List Int)} {u : Value} {l : List Int} (kx kr : Nat) (hk : look kx L = some (.ext (rowsXP B0 T0 T1 rv pl (some m)))) (hkr : Has X kr (Pred.is u)) (hko : look kr L = some (.own T1 EP.int.size l.length (RP EP.int l))) (hbk : Nat.beq kx kr = false) (hu : rv[m]? = some u) (hpl : pl.set m l = pl') :
    Imp cx ⟨n,fr,X,L,D,G⟩ ⟨n,fr,X,(kx,.ext (rowsXP B0 T0 T1 rv pl' none)) :: (kr,.dead) :: L,D,G⟩ := by
  subst hpl
  have hne' : kx ≠ kr := fun e => by rw [e] at hbk; simp at hbk
  refine Imp.app (u := ⟨.e (.a (.v undef)),[],[],[(kx,.ext (rowsXP B0 T0 T1 rv (pl.set m l) none)),(kr,.dead)],[]⟩) n ?_ (fun _ h => by cases h) (Nat.le_refl _)
  intro M ε I a w hs hN
  have hJ : RowsJ B0 T0 T1 rv pl (some m) w := hs.L kx _ hk
  have hν : ε.ν kr = u := hs.has hkr
  obtain ⟨xs,ho,hR⟩ := hs.L kr _ hko
  have hxs := rp_int_eq hR
  subst hxs
  rw [hν] at ho
  have hml : m < rv.length := (List.getElem?_eq_some_iff.1 hu).1
  have hft := hs.foot kx _ hk
  have hfo := hs.foot kr _ hko
  have hlk : ∀ i e,look i [(kx,Ent.ext (rowsXP B0 T0 T1 rv (pl.set m l) none)),(kr,Ent.dead)] = some e → (i = kx ∧ e = .ext (rowsXP B0 T0 T1 rv (pl.set m l) none)) ∨ (i = kr ∧ e = .dead) := by
    intro i e he
    rw [look_cons] at he
    by_cases c : kx = i
    · subst c; simp at he; exact .inl ⟨rfl,he.symm⟩
    · simp only [c,if_false] at he
      obtain ⟨rfl,rfl⟩ := look_one he; exact .inr ⟨rfl,rfl⟩
  have hrow : ∀ b,u.ownBlock = some b → (Ent.own T1 EP.int.size l.length (RP EP.int l)).foot ε kr b := fun b hb => by show (ε.ν kr).ownBlock = some b; rw [hν]; exact hb
  have hsplit : ∀ b,(rowsXP B0 T0 T1 rv (pl.set m l) none).F b → (rowsXP B0 T0 T1 rv pl (some m)).F b ∨ u.ownBlock = some b := by
    rintro b (hb | ⟨j,v,hj,_,hv⟩)
    · exact .inl (.inl hb)
    · by_cases c : m = j
      · subst c; rw [hu] at hj; cases hj; exact .inr hv
      · exact .inl (.inr ⟨j,v,hj,fun e => c (by cases e; rfl),hv⟩)
  have hall : ∀ b,(rowsXP B0 T0 T1 rv (pl.set m l) none).F b → (cx.w0.heap.size ≤ b ∨ cx.E b) ∧ b < w.heap.size ∧ I b = none := fun b hb => by
    rcases hsplit b hb with h | h
    · exact hft b h
    · exact hfo b (hrow b h)
  have hfp : ∀ b,(rowsXP B0 T0 T1 rv (pl.set m l) none).F b → fpOf ⟨n,fr,X,L,D,G⟩ ε ⟨.e (.a (.v undef)),[],[],[(kx,.ext (rowsXP B0 T0 T1 rv (pl.set m l) none)),(kr,.dead)],[]⟩ b := fun b hb => by
    rcases hsplit b hb with h | h
    · exact ⟨kx,_,by simp [look_cons],hk,h⟩
    · exact ⟨kr,_,by simp [look_cons,hne'],hko,hrow b h⟩
  have hsep : ∀ b,(rowsXP B0 T0 T1 rv pl (some m)).F b → u.ownBlock ≠ some b := fun b hb hv => hs.sep kx kr _ _ b hk hko hne' hb (hrow b hv)
  refine ⟨ε,I,⟨fun _ _ => ⟨rfl,rfl,rfl⟩,IH.le.rfl',hs.imm,rfl,rfl,Out.rf,Nat.le_refl _,fun _ _ _ => rfl,fun _ _ h => .inl h⟩,
    ⟨trivial,fun _ _ h => (by cases h),fun _ _ h => (by cases h),fun i e he => ?_,fun _ _ h => (by cases h),fun i e he => ?_,fun i e he b hb => ?_,fun i i' e e' b he he' hij hb hb' => ?_,fun i z hz => ?_⟩⟩
  · rcases hlk i e he with ⟨rfl,rfl⟩ | ⟨rfl,rfl⟩
    · exact ⟨.inl (hs.wfL i _ hk).1,trivial⟩
    · exact ⟨.inl (hs.wfL i _ hko).1,trivial⟩
  · rcases hlk i e he with ⟨rfl,rfl⟩ | ⟨rfl,rfl⟩
    · refine ⟨hJ.b,by rw [List.length_set]; exact hJ.n,fun j v hj _ => ?_,fun j v hj _ => ?_,fun i j v z b hi hj hij _ _ hv hz => ?_⟩
      · by_cases c : m = j
        · subst c; rw [hu] at hj; cases hj
          have : (pl.set m l).getD m [] = l := by rw [List.getD_eq_getElem?_getD,List.getElem?_set_self (by rw [← hJ.n]; exact hml)]; rfl
          rw [this]; exact ho
        · have : (pl.set m l).getD j [] = pl.getD j [] := by rw [List.getD_eq_getElem?_getD,List.getElem?_set_ne c,List.getD_eq_getElem?_getD]
          rw [this]; exact hJ.r j v hj (fun e => c (by cases e; rfl))
      · by_cases c : m = j
        · subst c; rw [hu] at hj; cases hj; exact hsep B0 (.inl rfl)
        · exact hJ.o j v hj (fun e => c (by cases e; rfl))
      · by_cases c : m = i
        · subst c; rw [hu] at hi; cases hi
          exact hsep b (.inr ⟨j,z,hj,fun e => hij (by cases e; rfl),hz⟩) hv
        · by_cases c' : m = j
          · subst c'; rw [hu] at hj; cases hj
            exact hsep b (.inr ⟨i,v,hi,fun e => c (by cases e; rfl),hv⟩) hz
          · exact hJ.d i j v z b hi hj hij (fun e => c (by cases e; rfl)) (fun e => c' (by cases e; rfl)) hv hz
    · trivial
  · rcases hlk i e he with ⟨rfl,rfl⟩ | ⟨rfl,rfl⟩
    · exact ⟨(hall b hb).1,(hall b hb).2.1,(hall b hb).2.2,.inr (hfp b hb)⟩
    · cases hb
  · rcases hlk i e he with ⟨rfl,rfl⟩ | ⟨rfl,rfl⟩
    · rcases hlk i' e' he' with ⟨rfl,_⟩ | ⟨rfl,rfl⟩
      · exact hij rfl
      · cases hb'
    · cases hb
  · rcases hlk i _ hz with ⟨_,he⟩ | ⟨_,he⟩
    · cases he; exact ⟨Nat.zero_le _,fun _ h => h.elim⟩
    · cases he
end
end Go.Eng
namespace Go.Eng
open Go
section
variable {cx : Cx} {Q : Exit → Act → World → Prop} {ops : Array Oper}
variable {n : Nat} {fr : List (Nat × SV)} {X : List (Nat × Pred)} {L : List (Nat × Ent)} {D : List Nat} {G : List (Nat × Bool)} {d : Tmp} {ty : TypeId} {pos : String} {af : Array Edge} {gd : Option (Nat × Bool)}
variable {fuel : Nat} {listed : Array Bool} {i : Nat}
theorem StepS.yield {x : Operand} {l : Nat} {xs : List Operand} {ts : Array TypeId} {svs : List SV} {n1 : Nat} {Y Y' K' : YI n1} {F : Nat → Prop} (ky : Nat) (hi : ops[i]? = some ⟨some d,.call { callee := .value x,args := xs.toArray,argTypes := ts },ty,pos,af,gd⟩) (hr : cx.r = none) (hd : Nat.blt d cx.N = true) (hg : GOK ops fr gd true)
    (hx : St.op ⟨n,fr,X,L,D,G⟩ x = some (.e (.a (.v (yv l))))) (hl : St.ops ⟨n,fr,X,L,D,G⟩ xs = some svs) (hk : look ky L = some (.ext (Y.xp F)))
    (h : ∀ ε I a w,Sat cx ε I ⟨n,fr,X,L,D,G⟩ a w → RoundR cx.P l (svs.map (SV.den ε)) n1 F I w Y' K')
    (K : ∀ b F',(∀ c,F c → F' c) → AnyS cx ops Q fuel (listed.setIfInBounds i true) ⟨n,(d,.b b) :: fr,X,(ky,.ext ((bif b then Y' else K').xp F')) :: L,D,G⟩) :
    StepS cx ops Q fuel listed ⟨n,fr,X,L,D,G⟩ i := by
  intro ε I a w hs
  unfold wpOpIn
  simp only [hi]
  rw [if_pos (GOK.wanted hs hg)]
  have hx' := hs.eval hx
  have hl' := hs.evals hl
  obtain ⟨fn,tmps,assign,body,hy,hround⟩ := h ε I a w hs
  have hop : (execOp a.eval ⟨some d,.call { callee := .value x,args := xs.toArray,argTypes := ts },ty,pos,af,gd⟩).run cx.P w = .ok (.round l fn tmps assign body) w := by
    simp only [SV.den,El.den,At.den] at hx'
    simp [execOp,resolve,hx',hl',Deferred.ofValue,invoke,hy]
  refine ⟨fun _ _ => trivial,?_⟩
  rw [semAt_eq _ _ _ (fun _ => by simp),hop]
  rw [hr]
  refine ⟨fun h => (by cases h),RoundIn.mono hround ?_⟩
  rintro e w' ⟨b,F',I',rfl,hkp,hle,hon,hfr,hF1,hF2,hJ⟩
  obtain ⟨hx1,hx2⟩ := hs.ext ky _ hk
  have hft := fun b hb => hs.foot ky _ hk b hb
  have hfp : ∀ c,F c → fpOf ⟨n,fr,X,L,D,G⟩ ε ⟨.b b,[],[],[(ky,.ext ((bif b then Y' else K').xp F'))],[]⟩ c := fun c hc => ⟨ky,_,by simp [look],hk,hc⟩
  have hF := (bif b then Y' else K').ft hJ
  have := SatM.app (d := some d) (u := ⟨.b b,[],[],[(ky,.ext ((bif b then Y' else K').xp F'))],[]⟩) n hs (St.le.refl _) (fun k hk => by cases hk) (fun i hi => by cases hi; rw [Nat.blt_eq] at hd; exact hd)
    (ε' := ε) (I' := I') (w' := w') ⟨fun _ _ => ⟨rfl,rfl,rfl⟩,hle,hon,hkp.os,hkp.tape,hkp.output,hkp.size,fun c hc hn => hkp.block c hc (fun h => hn (hfp c h)),fun c o hc => by
      rcases hfr c o hc with h | h
      · exact .inl h
      · exact .inr (.inl h)⟩
    ⟨trivial,fun _ _ h => (by cases h),fun _ _ h => (by cases h),fun i e he => by obtain ⟨rfl,rfl⟩ := look_one he; exact ⟨.inl (hs.wfL i _ hk).1,trivial⟩,fun _ _ h => (by cases h),
      fun i e he => by obtain ⟨rfl,rfl⟩ := look_one he; exact hJ,
      fun i e he c hc => by
        obtain ⟨rfl,rfl⟩ := look_one he
        have hc : F' c := hc
        refine ⟨?_,(hF c hc).1,(hF c hc).2,?_⟩
        · rcases hF2 c hc with h | h
          · exact (hft c h).1
          · exact .inl (Nat.le_trans hs.keep.size h)
        · rcases hF2 c hc with h | h
          · exact .inr (hfp c h)
          · exact .inl h,
      fun i i' e e' c he he' hne => by
        obtain ⟨rfl,_⟩ := look_one he
        obtain ⟨rfl,_⟩ := look_one he'
        exact absurd rfl hne,
      fun i x hx => by
        obtain ⟨_,h⟩ := look_one hx
        cases h
        exact ⟨hx1,fun c hc => ⟨(hx2 c hc).1,fun hE => hF1 c ((hx2 c hc).2 hE)⟩⟩⟩
  have q := K b F' hF1 ε I' _ w' (SatM.mono (fun k hk => ?_) this)
  · rw [hr] at q; exact q
  rcases hk with hk | hk
  · exact hk
  · cases hk
theorem AnyS.pino {T : TypeId} {sz nn : Nat} {R : LPred} (k : Nat) (hk : look k L = some (.own T sz nn R)) (h : ∀ u,u.oneCell' = true → AnyS cx ops Q fuel listed ⟨n,fr,(k,Pred.is u) :: X,L,D,G⟩) : AnyS cx ops Q fuel listed ⟨n,fr,X,L,D,G⟩ :=
  fun ε I a w hs => by
    obtain ⟨xs,ho,_⟩ := hs.L k _ hk
    have h1 : (ε.ν k).oneCell' = true := by
      obtain ⟨_,h2⟩ := ho
      rcases h2 with h2 | ⟨g,cap,cur,hv,_⟩
      · rw [h2.1]; rfl
      · rw [hv]; rfl
    exact h (ε.ν k) h1 ε I a w (SatM.pinv k (hs.wfL k _ hk).1 hs)
theorem AnyS.imp {S S' : St} (hi : Imp cx S S') (h : AnyS cx ops Q fuel listed S') : AnyS cx ops Q fuel listed S := fun ε I a w hs => by
  obtain ⟨ε',I',hs'⟩ := hi ε I a w hs
  exact h ε' I' a w hs'
end
section
variable {cx : Cx} {Q : Exit → Act → World → Prop} {ops : Array Oper} {rest : List Oper} {fuel : Nat} {listed : Array Bool}
variable {n : Nat} {fr : List (Nat × SV)} {X : List (Nat × Pred)} {L : List (Nat × Ent)} {D : List Nat} {G : List (Nat × Bool)}
theorem WP.closeY {c : Code} {n1 : Nat} {Y : YI n1} {σ : Type} {x y : σ → XP} {hx : ∀ s,(x s).fine n1 ∧ (y s).fine n1} {F1 : Nat → Prop} (ky kx kw : Nat) (s : σ) (hky : look ky L = some (.ext (Y.xp F1))) (hkx : look kx L = some (.ext (x s))) (hkw : look kw L = some (.ext (y s)))
    (hne : (Nat.beq ky kx || Nat.beq ky kw || Nat.beq kx kw) = false) (hE : ∀ b,cx.E b → F1 b ∨ n1 ≤ b) (hE0 : ∀ b,cx.E b → b < cx.w0.heap.size ∧ cx.I0 b = none)
    (h : ∀ F',(∀ b,cx.E b → F' b) → WP cx ⟨n,fr,X,[(ky,.ext ((Y.star x y hx).xp F'))],D,G⟩ c Q) : WP cx ⟨n,fr,X,L,D,G⟩ c Q :=
  WP.imp (Imp.closeY ky kx kw s hky hkx hkw hne hE hE0) (h _ fun _ hb => .inr (.inr (.inr hb)))
theorem WPl.closeY {n1 : Nat} {Y : YI n1} {σ : Type} {x y : σ → XP} {hx : ∀ s,(x s).fine n1 ∧ (y s).fine n1} {F1 : Nat → Prop} (ky kx kw : Nat) (s : σ) (hky : look ky L = some (.ext (Y.xp F1))) (hkx : look kx L = some (.ext (x s))) (hkw : look kw L = some (.ext (y s)))
    (hne : (Nat.beq ky kx || Nat.beq ky kw || Nat.beq kx kw) = false) (hE : ∀ b,cx.E b → F1 b ∨ n1 ≤ b) (hE0 : ∀ b,cx.E b → b < cx.w0.heap.size ∧ cx.I0 b = none)
    (h : ∀ F',(∀ b,cx.E b → F' b) → WPl cx ops ⟨n,fr,X,[(ky,.ext ((Y.star x y hx).xp F'))],D,G⟩ rest Q) : WPl cx ops ⟨n,fr,X,L,D,G⟩ rest Q :=
  WPl.imp (Imp.closeY ky kx kw s hky hkx hkw hne hE hE0) (h _ fun _ hb => .inr (.inr (.inr hb)))
theorem AnyS.closeY {n1 : Nat} {Y : YI n1} {σ : Type} {x y : σ → XP} {hx : ∀ s,(x s).fine n1 ∧ (y s).fine n1} {F1 : Nat → Prop} (ky kx kw : Nat) (s : σ) (hky : look ky L = some (.ext (Y.xp F1))) (hkx : look kx L = some (.ext (x s))) (hkw : look kw L = some (.ext (y s)))
    (hne : (Nat.beq ky kx || Nat.beq ky kw || Nat.beq kx kw) = false) (hE : ∀ b,cx.E b → F1 b ∨ n1 ≤ b) (hE0 : ∀ b,cx.E b → b < cx.w0.heap.size ∧ cx.I0 b = none)
    (h : ∀ F',(∀ b,cx.E b → F' b) → AnyS cx ops Q fuel listed ⟨n,fr,X,[(ky,.ext ((Y.star x y hx).xp F'))],D,G⟩) : AnyS cx ops Q fuel listed ⟨n,fr,X,L,D,G⟩ :=
  AnyS.imp (Imp.closeY ky kx kw s hky hkx hkw hne hE hE0) (h _ fun _ hb => .inr (.inr (.inr hb)))
end
section ops
variable {cx : Cx} {S : St} {dst : Option Tmp} {ty : TypeId} {pos : String} {af : Array Edge} {gd : Option (Nat × Bool)} {x y : Operand} {t t' : TypeId}
theorem o_iandn {a b r : Int} (hx : S.op x = some (.i a)) (hy : S.op y = some (.i b)) (hr : IntKind.i64.wrap (BitVec.ofInt 64 a &&& ~~~ BitVec.ofInt 64 b).toNat = r) :
    OpG cx S ⟨dst,.binOp .andNot t x y t',ty,pos,af,gd⟩ (.val (.i r)) :=
  o_binv (a := .int .i64 a) (b := .int .i64 b) hx hy fun w => by rw [← hr]; rfl
theorem o_lenr {T e : TypeId} {sz n B0 : Nat} (hT : IsSl cx.P T e sz) (hx : S.op x = some (.e (.a (.v (rowsV B0 n))))) :
    OpG cx S ⟨dst,.call { callee := .builtin .len,args := #[x],argTypes := #[T] },ty,pos,af,gd⟩ (.val (.i n)) := o_lenv hT hx
end ops
abbrev plX (B0 : Nat) (T0 T1 : TypeId) (k : Nat) (p : List (List Int)) (rv : { l : List Value // l.length = k }) : XP := rowsXP B0 T0 T1 rv.1 p none
abbrev plY {n1 : Nat} (B0 : Nat) (T0 T1 : TypeId) (U : Nat) (Tu : TypeId) (k : Nat) (Y : YI n1) (p : List (List Int)) (u : Int) : YI n1 :=
  Y.star (plX B0 T0 T1 k p) (fun _ => usedXP U Tu u) (fun _ => ⟨rowsXP.fine,usedXP.fine⟩)
theorem SigI.introF {P : Program} {f : FuncId} {fn : Func} {c : Code} {cs : List SV} {Xc : List (Nat × Pred)} {items : List Item} (hf : P.funcs[f]? = some fn) (hb : fn.body = some c) (n ky : Nat) (hwf : ∀ x ∈ cs,x.res (keys Xc)) (hn : (keys Xc).all (Nat.blt · n) = true) (hky : Nat.blt ky n = true) (hN : Nat.ble (cs.length + 1) fn.ntmps = true)
    (h : ∀ (I : IH) (w : World) (l : Nat) (Y : Nat → YI w.heap.size) (K : YI w.heap.size) (F0 : Nat → Prop),(∀ b,F0 b → b < w.heap.size ∧ I b = none) →
      (∀ i it,items[i]? = some it → ∀ F I' w' us vs,(Y i).J F I' w' → I.le I' → I'.on w' → w.heap.size ≤ w'.heap.size → (∀ b,F0 b → F b) → it.ok F I' w' us vs → RoundR P l vs w.heap.size F I' w' (Y (i + 1)) K) →
      WP ⟨P,none,w,fn.ntmps,F0,I,0,fun _ => 0,fun _ => undef⟩ ⟨n,frOf 0 (.e (.a (.v (yv l))) :: cs),Xc,[(ky,.ext ((Y 0).xp F0))],[],[]⟩ c (PostI P fn (ItR I w F0 fun F' I' w' => (Y items.length).J F' I' w' ∨ K.J F' I' w'))) :
    SigI P f cs Xc items := fun I w ν hI hX l Y K F0 hY hround => by
  have hky' : ky < n := by rw [Nat.blt_eq] at hky; exact hky
  refine It.intro hf hb hI hY ν (.e (.a (.v (yv l))) :: cs) Xc n ky _ rfl ?_ hX ?_ (fun k hk => by simpa [Nat.blt_eq] using List.all_eq_true.1 hn k hk) hky' (by simpa using hN) (h I w l Y K F0 ((Y 0).ft hY) hround)
  · show _ = (yv l :: cs.map (den0 ν)).toArray
    simp
  · intro x hx
    rcases List.mem_cons.1 hx with rfl | hx
    · trivial
    · exact hwf x hx
end Go.Eng
namespace Go.Eng
open Go
theorem EX.openY {cx : Cx} {Q : Exit → Act → World → Prop} {n : Nat} {fr : List (Nat × SV)} {X : List (Nat × Pred)} {L : List (Nat × Ent)} {D : List Nat} {G : List (Nat × Bool)} {e : Exit} {m n1 : Nat} {Y : YI n1} {σ : Type} {x y : σ → XP} {hx : ∀ s,(x s).fine n1 ∧ (y s).fine n1} {F : Nat → Prop} {ky : Nat} (kx kw : Nat) (hk : look ky L = some (.ext ((Y.star x y hx).xp F))) (hkx : Nat.ble n kx = true) (hkw : Nat.blt kx kw = true) (hm : Nat.blt kw m = true)
    (h : ∀ F1 s,(∀ b,F1 b → F b) → (∀ b,F b → F1 b ∨ n1 ≤ b) → (∀ b,(x s).F b → n1 ≤ b) → (∀ b,(y s).F b → n1 ≤ b) → EX cx ⟨m,fr,X,(kx,.ext (x s)) :: (kw,.ext (y s)) :: (ky,.ext (Y.xp F1)) :: L,D,G⟩ e Q) : EX cx ⟨n,fr,X,L,D,G⟩ e Q := fun ε I a w hs => by
  obtain ⟨F1,s,g1,g2,g3,g4,hs'⟩ := Sat.openY kx kw hs hk hkx hkw hm
  exact h F1 s g1 g2 g3 g4 ε I a w hs'
section
variable {cx : Cx} {Q : Exit → Act → World → Prop} {ops : Array Oper} {rest : List Oper}
variable {n : Nat} {fr : List (Nat × SV)} {X : List (Nat × Pred)} {L : List (Nat × Ent)} {D : List Nat} {G : List (Nat × Bool)} {d : Tmp} {ty : TypeId} {pos : String} {af : Array Edge}
theorem WPl.mkrows (n0 k m : Nat) {x y : Operand} {t e T1 : TypeId} {bytes : Nat} (hk : Nat.ble n k = true) (hm : Nat.blt k m = true) (hd : Nat.blt d cx.N = true) (hT : RowT cx.P t e 1 bytes [.slice none 0 0]) (hx : St.op ⟨n,fr,X,L,D,G⟩ x = some (.i n0)) (hy : St.op ⟨n,fr,X,L,D,G⟩ y = some (.i n0)) (hb : bytes * n0 ≤ 281474976710656) (hl : n0 ≤ 4611686018427387904)
    (K : ∀ g,cx.w0.heap.size ≤ g → WPl cx ops ⟨m,(d,.e (.a (.v (rowsV g n0)))) :: fr,X,(k,.ext (rowsXP g e T1 (List.replicate n0 (.slice none 0 0)) (List.replicate n0 []) none)) :: L,D,G⟩ rest Q) :
    WPl cx ops ⟨n,fr,X,L,D,G⟩ (⟨some d,.makeSlice t x y,ty,pos,af,none⟩ :: rest) Q := by
  have hk' : n ≤ k := by simpa using hk
  rw [Nat.blt_eq] at hm hd
  intro ε I a w hs
  have h1 := SatM.eval hs hx
  have h2 := SatM.eval hs hy
  simp only [SV.den,El.den,At.den] at h1 h2
  obtain ⟨i,zv,hi,hzv,hsz,hby,hzc⟩ := hT.i
  obtain ⟨w',h3,h4,h5⟩ := run_make_full (P := cx.P) w 0 t e i zv 1 hT.u hi hzv hsz .i64 .i64 n0 (by rw [hby]; exact hb) (maxLen_ok hl) (Nat.zero_le _)
  have hdr : w.drawn ≤ w'.drawn := by
    have hb' : (i.bytes : Int) * (n0 : Int) ≤ 281474976710656 := by
      have h : ((i.bytes * n0 : Nat) : Int) ≤ 281474976710656 := by rw [hby]; omega
      rwa [Int.natCast_mul] at h
    have hr := run_make (P := cx.P) w t e i zv hT.u hi hzv .i64 .i64 n0 n0 (by omega) (Int.le_refl _) hb' (by omega)
    rw [h3] at hr
    simp only [Result.ok.injEq] at hr
    rw [hr.2]; exact Nat.le_refl _
  have hgr := Grew.of h5 hdr
  have hrow : w'.heap[w.heap.size]? = some (.cells (List.replicate n0 (.slice none 0 0)).toArray e (0,0)) := by
    obtain ⟨hlen,h6⟩ := h4
    rcases h6 with ⟨h6,_⟩ | ⟨g,cap,cur,hv,_,hg,_,_,hcs,htk⟩
    · cases h6
    · simp only [Value.slice.injEq,Option.some.injEq,Addr.mk.injEq] at hv
      obtain ⟨⟨rfl,_⟩,_,rfl⟩ := hv
      rw [hg]
      have e1 : cur.toList = (madeCells zv.cells (n0 * 1)).toList := by
        rw [← htk,List.take_of_length_le (by simp [hcs])]
      have e2 : cur = (List.replicate n0 (Value.slice none 0 0)).toArray := by
        apply Array.toList_inj.1
        rw [e1]
        apply List.ext_getElem?
        intro j
        by_cases hj : j < n0
        · simp [madeCells,hj,hzc,Nat.mod_one]
        · simp [madeCells,hj,hzc]
      rw [e2]
  refine wpListIn_step fun K' hK => ?_
  simp only [Region.wanted,if_true]
  refine ⟨fun _ _ => trivial,?_⟩
  have hrun : (execOp a.eval ⟨some d,.makeSlice t x y,ty,pos,af,none⟩).run cx.P w = .ok (.value (rowsV w.heap.size n0)) w' := by
    simp [execOp,h1,h2,h3]
  rw [semAt_eq _ _ _ (fun _ => by simp),hrun]
  have hblk : w.heap.size < w'.heap.size := (Array.getElem?_eq_some_iff.1 hrow).1
  have hF : ∀ b,(rowsXP w.heap.size e T1 (List.replicate n0 (.slice none 0 0)) (List.replicate n0 []) none).F b → b = w.heap.size := by
    rintro b (h | ⟨i,v,hi,_,hv⟩)
    · exact h
    · have := List.mem_of_getElem? hi
      rw [List.mem_replicate] at this
      rw [this.2] at hv; cases hv
  refine hK _ _ (K w.heap.size hs.keep.size ⟨ε.β,Eng.upd ε.ν k undef,ε.γ⟩ I _ _ ?_)
  have := SatM.app (d := some d) (u := ⟨.e (.a (.v (rowsV w.heap.size n0))),[k],[],[(k,.ext (rowsXP w.heap.size e T1 (List.replicate n0 (.slice none 0 0)) (List.replicate n0 []) none))],[]⟩) m hs (St.le.refl _) (fun i hi hlt => by
      have hi : i ∈ [k] := hi
      rw [List.mem_singleton] at hi; subst hi
      have : i < n := hlt
      omega) (fun i hi => by cases hi; exact hd) (ε' := ⟨ε.β,Eng.upd ε.ν k undef,ε.γ⟩) (I' := I) (w' := w')
    ⟨fun i hi => by
        have : i ≠ k := fun e => hi (by simp [e])
        exact ⟨rfl,upd_other _ _ this,rfl⟩,IH.le.rfl',fun b o hb => by
        have hlt : b < w.heap.size := (Array.getElem?_eq_some_iff.1 (hs.imm b o hb)).1
        rw [hgr.block b hlt (by simp)]; exact hs.imm b o hb,hgr.os,hgr.tape,hgr.output,hgr.size,fun b hb _ => hgr.block b hb (by simp),fun _ _ h => .inl h⟩
    ⟨trivial,fun _ _ h => (by cases h),fun _ _ h => (by cases h),fun i e he => by obtain ⟨rfl,rfl⟩ := look_one he; exact ⟨.inr (by simp),trivial⟩,fun _ _ h => (by cases h),
      fun i e' he => by
        obtain ⟨rfl,rfl⟩ := look_one he
        refine ⟨hrow,by simp,fun i v hi _ => ?_,fun i v hi _ hb => ?_,fun i j v u b hi _ _ _ _ hv _ => ?_⟩
        · have := List.mem_of_getElem? hi
          rw [List.mem_replicate] at this
          have hin : i < n0 := by have := (List.getElem?_eq_some_iff.1 hi).1; simpa using this
          rw [this.2]
          have e3 : (List.replicate n0 ([] : List Int)).getD i [] = [] := by simp [List.getD_eq_getElem?_getD,hin]
          rw [e3]
          exact ⟨rfl,.inl ⟨rfl,rfl⟩⟩
        · have := List.mem_of_getElem? hi
          rw [List.mem_replicate] at this
          rw [this.2] at hb; cases hb
        · have := List.mem_of_getElem? hi
          rw [List.mem_replicate] at this
          rw [this.2] at hv; (cases hv),
      fun i e' he c hc => by
        obtain ⟨rfl,rfl⟩ := look_one he
        have hc := hF c hc
        subst hc
        exact ⟨.inl hs.keep.size,hblk,IH.none_ge hs.imm (Nat.le_refl _),.inl (Nat.le_refl _)⟩,
      fun i i' e e' c he he' hne => by
        obtain ⟨rfl,_⟩ := look_one he
        obtain ⟨rfl,_⟩ := look_one he'
        exact absurd rfl hne,fun i x he => by
        obtain ⟨_,h⟩ := look_one he
        cases h
        exact ⟨Nat.zero_le _,fun _ h => h.elim⟩⟩
  refine SatM.mono (fun i hi => ?_) this
  rcases hi with hi | hi
  · have hi : i < n := hi
    show i < m
    omega
  · have hi : i ∈ [k] := hi
    rw [List.mem_singleton] at hi
    show i < m
    omega
theorem WP.boxU {c : Code} {s k : Nat} {z : Int} {T : TypeId} (hs0 : look s fr = some (.e (.a (.p k 0)))) (hk : look k L = some (.blk [ai z] T))
    (K : ∀ U,WP cx ⟨n + 1,(s,.e (.a (.q n))) :: fr,(n,Pred.is (.pointer (some ⟨U,0,none⟩))) :: X,(k,.ext (usedXP U T z)) :: L,D,G⟩ c Q) : WP cx ⟨n,fr,X,L,D,G⟩ c Q := by
  intro ε I a w hs
  have hft := hs.foot k _ hk (ε.β k) rfl
  have hkn : k < n := (hs.wfL k _ hk).1
  have hL : w.heap[ε.β k]? = some (.cells (([ai z] : List At).map (At.den ε)).toArray T (0,0)) := hs.L k _ hk
  have hfp : fpOf ⟨n,fr,X,L,D,G⟩ ε ⟨.e (.a (.v undef)),[n],[(n,Pred.is (.pointer (some ⟨ε.β k,0,none⟩)))],[(k,.ext (usedXP (ε.β k) T z))],[]⟩ (ε.β k) := ⟨k,_,by simp [look],hk,rfl⟩
  have h := SatM.app (d := none) (u := ⟨.e (.a (.v undef)),[n],[(n,Pred.is (.pointer (some ⟨ε.β k,0,none⟩)))],[(k,.ext (usedXP (ε.β k) T z))],[]⟩) (n + 1) hs (St.le.refl _) (fun i hi hlt => by
      have hi : i ∈ [n] := hi
      rw [List.mem_singleton] at hi; subst hi; exact Nat.lt_irrefl _ hlt) (fun i hi => by cases hi) (ε' := ⟨ε.β,Eng.upd ε.ν n (.pointer (some ⟨ε.β k,0,none⟩)),ε.γ⟩) (I' := I) (w' := w)
    ⟨fun i hi => by
        have : i ≠ n := fun e => hi (by simp [e])
        exact ⟨rfl,upd_other _ _ this,rfl⟩,IH.le.rfl',hs.imm,rfl,rfl,Out.rf,Nat.le_refl _,fun _ _ _ => rfl,fun _ _ h => .inl h⟩
    ⟨trivial,fun j R hj => by obtain ⟨rfl,_⟩ := look_one hj; exact .inr (by simp),fun _ _ h => (by cases h),fun i e he => by obtain ⟨rfl,rfl⟩ := look_one he; exact ⟨.inl hkn,trivial⟩,
      fun j R hj => by obtain ⟨rfl,rfl⟩ := look_one hj; simp only [upd_same]; rfl,
      fun i e he => by obtain ⟨rfl,rfl⟩ := look_one he; exact hL,
      fun i e he b hb => by
        obtain ⟨rfl,rfl⟩ := look_one he
        have hb : b = ε.β i := hb
        subst hb
        exact ⟨hft.1,hft.2.1,hft.2.2,.inr hfp⟩,
      fun i i' e e' b he he' hne => by
        obtain ⟨rfl,_⟩ := look_one he
        obtain ⟨rfl,_⟩ := look_one he'
        exact absurd rfl hne,
      fun i x hx => by
        obtain ⟨_,h⟩ := look_one hx
        cases h
        exact ⟨Nat.zero_le _,fun _ h => h.elim⟩⟩
  have h' := SatM.mono (M' := (· < n + 1)) (fun i hi => by
    rcases hi with hi | hi
    · exact Nat.lt_succ_of_lt hi
    · have hi : i ∈ [n] := hi
      rw [List.mem_singleton] at hi; subst hi; exact Nat.lt_succ_self _) h
  refine K (ε.β k) ⟨ε.β,Eng.upd ε.ν n (.pointer (some ⟨ε.β k,0,none⟩)),ε.γ⟩ I a w { h' with wfr := fun i x hx => ?_,fr := fun i x hx => ?_ }
  · rw [look_cons] at hx
    by_cases hi : s = i
    · subst hi; simp at hx; subst hx; exact Nat.lt_succ_self _
    · simp [hi] at hx; exact h'.wfr i x hx
  · rw [look_cons] at hx
    by_cases hi : s = i
    · subst hi; simp at hx; subst hx
      rw [hs.fr s _ hs0]
      simp [SV.den,El.den,At.den,upd_same]
    · simp [hi] at hx; exact h'.fr i x hx
theorem WPl.allocq {d4 : Tmp} {T : TypeId} {ty4 ty6 : TypeId} {p4 p6 : String} {a4 a6 : Array Edge} {y : Operand} {z0 : At} {u : Value} (hz : Zero cx.P T [z0]) (h0 : z0.on (fun _ => False)) (hT : TyS cx.P T) (hd4 : Nat.blt d4 cx.N = true) (hy : St.op ⟨n + 1,(d4,.e (.a (.p n 0))) :: fr,X,(n,.blk [z0] T) :: L,D,G⟩ y = some (.e (.a (.v u)))) (hu : u.oneCell' = true)
    (K : WPl cx ops ⟨n + 1,(d4,.e (.a (.q n))) :: fr,(n,PP (EP.box (Pred.is u)) ()) :: X,L,D,G⟩ rest Q) :
    WPl cx ops ⟨n,fr,X,L,D,G⟩ (⟨some d4,.alloc T,ty4,p4,a4,none⟩ :: ⟨none,.store T (.tmp d4) y,ty6,p6,a6,none⟩ :: rest) Q := by
  intro ε I a w hs
  rw [Nat.blt_eq] at hd4
  obtain ⟨z,hz1,hz2,hz3⟩ := hz
  have hz2' := hz2 ε
  have hr1 : (execOp a.eval ⟨some d4,.alloc T,ty4,p4,a4,none⟩).run cx.P w = .ok (.value (.pointer (some ⟨w.heap.size,0,none⟩))) (w.alloc (.cells [z0.den ε].toArray T)) := by
    simp [execOp,Instr.alloc,hz1,newVar,newRow,newObj,Sem.run,hz2']
  refine wpl_val rfl (fun _ => by simp) hr1 ?_
  have hs1 := SatM.app (d := some d4) (u := ⟨.e (.a (.p n 0)),[n],[],[(n,.blk [z0] T)],[]⟩) (n + 1) hs (St.le.refl _) (fun k hk hlt => by
      rw [List.mem_singleton] at hk; subst hk; exact Nat.lt_irrefl _ hlt) (fun i hi => by cases hi; exact hd4) (Tr.alloc hs.imm n (.cells (([z0] : List At).map (At.den ε)).toArray T) undef) (newblk hs (Nat.lt_irrefl n) (cs := [z0]) (fun c hc => by rw [List.mem_singleton] at hc; subst hc; exact At.on_mono (fun _ h => h.elim) h0) T undef)
  have hs1' := SatM.mono (M' := (· < n + 1)) (fun k hk => by
    rcases hk with hk | hk
    · exact Nat.lt_succ_of_lt hk
    · rw [List.mem_singleton] at hk; subst hk; exact Nat.lt_succ_self _) hs1
  simp only [SV.den,El.den,At.den,upd_same,St.app,List.nil_append,List.cons_append] at hs1'
  have hev := SatM.eval hs1' hy
  simp only [SV.den,El.den,At.den] at hev
  have hg : (w.alloc (.cells [z0.den ε].toArray T)).heap[w.heap.size]? = some (.cells [z0.den ε].toArray T (0,0)) := heap_alloc_new w _
  obtain ⟨w',h3,h4,h5,h6,h7,h8,h9⟩ := run_storeCells_blk cx.P w.heap.size T [u] 0 0 [z0.den ε] _ hg (by simp) (fun y hy => by rw [List.mem_singleton] at hy; subst hy; exact hu)
  simp only [List.take_zero,List.nil_append,Nat.zero_add,Nat.add_zero,List.length_singleton,List.drop_succ_cons,List.drop_nil,List.append_nil] at h4
  have hsz : a.tmps.size = cx.N := hs.size
  have e4 : (a.put (some d4) (.pointer (some ⟨w.heap.size,0,none⟩))).eval (.tmp d4) = .pointer (some ⟨w.heap.size,0,none⟩) := by
    simp [Act.eval,Act.put,hsz,hd4]
  have hvc : u.cells = #[u] := cells_one hu
  have hr3 : (execOp (a.put (some d4) (.pointer (some ⟨w.heap.size,0,none⟩))).eval ⟨none,.store T (.tmp d4) y,ty6,p6,a6,none⟩).run cx.P (w.alloc (.cells [z0.den ε].toArray T)) = .ok .skip w' := by
    simp [execOp,e4,hev,Instr.storeAt,Instr.sureAddr,storeVar,hT.sz,hvc,h3]
  refine wpl_skip (fun _ => by simp) hr3 ?_
  have hold : ∀ b,b < w.heap.size → w'.heap[b]? = w.heap[b]? := fun b hb => by
    rw [h9 b (Nat.ne_of_lt hb)]; exact heap_alloc_old w _ hb
  have t1 := SatM.app (d := some d4) (u := ⟨.e (.a (.q n)),[n],[(n,PP (EP.box (Pred.is u)) ())],[],[]⟩) (n + 1) hs (St.le.refl _) (fun k hk hlt => by
      rw [List.mem_singleton] at hk; subst hk; exact Nat.lt_irrefl _ hlt) (fun i hi => by cases hi; exact hd4)
    (tr_set (k := n) (u := .pointer (some ⟨w.heap.size,0,none⟩)) rfl hs.imm h4 hold h5 h6 h7 (by rw [h8]; simp))
    (new_q (R := PP (EP.box (Pred.is u)) ()) ⟨_,[u],rfl,rfl,⟨u,rfl,rfl⟩,fun j y hj => cell_setI hj⟩)
  have t1' := SatM.mono (M' := (· < n + 1)) (fun k hk => by
    rcases hk with hk | hk
    · exact Nat.lt_succ_of_lt hk
    · rw [List.mem_singleton] at hk; subst hk; exact Nat.lt_succ_self _) t1
  simp only [SV.den,El.den,At.den,upd_same,St.app,List.nil_append,List.cons_append] at t1'
  exact K _ _ _ _ t1'
end
end Go.Eng
namespace Go.Flong
open Go Go.Eng
structure HouC (h : Hall) : Prop where
  m : 1 ≤ h.machs.length ∧ h.machs.length ≤ 3
  b : h.buns.length ≤ 5
  t : h.trains.length ≤ 4
  c : 0 ≤ h.change ∧ h.change ≤ 9
  ma : ∀ i : Nat,i < h.machs.length → (0 ≤ (nth h.machs (i : Int)).ready ∧ (nth h.machs (i : Int)).ready ≤ 99) ∧ (1 ≤ (nth h.machs (i : Int)).pace ∧ (nth h.machs (i : Int)).pace ≤ 9) ∧ (0 ≤ (nth h.machs (i : Int)).stops ∧ (nth h.machs (i : Int)).stops ≤ 1)
  bu : ∀ i : Nat,i < h.buns.length → (0 ≤ (nth h.buns (i : Int)).train ∧ (nth h.buns (i : Int)).train < h.trains.length) ∧ (1 ≤ (nth h.buns (i : Int)).hundreds ∧ (nth h.buns (i : Int)).hundreds ≤ 9) ∧ (0 ≤ (nth h.buns (i : Int)).edition ∧ (nth h.buns (i : Int)).edition ≤ 3)
  mi : ∀ i : Nat,i < h.trains.length → 0 ≤ nth h.trains (i : Int) ∧ nth h.trains (i : Int) ≤ 99
theorem houC {h : Hall} (hh : h.house = true) : HouC h := by
  simp only [Hall.house,Hall.houseHd,within,Bool.and_eq_true,decide_eq_true_eq] at hh
  obtain ⟨⟨⟨⟨⟨⟨h1,h2⟩,h3⟩,h4⟩,h5⟩,h6⟩,h7⟩ := hh
  refine ⟨by omega,by omega,by omega,h4,fun i hi => ?_,fun i hi => ?_,fun i hi => ?_⟩
  · have := allI_iff.1 h5 i hi
    simp only [Hall.macOK,TM.chk,within,Bool.and_eq_true,decide_eq_true_eq] at this; omega
  · have := allI_iff.1 h7 i hi
    simp only [Hall.bunOK,TBd.chk,within,Bool.and_eq_true,decide_eq_true_eq] at this; omega
  · have := allI_iff.1 h6 i hi
    simp only [Hall.minOK,within,Bool.and_eq_true,decide_eq_true_eq] at this; omega
structure PlB (h : Hall) (p : Plan) : Prop where
  n : p.length = h.machs.length
  r : ∀ i : Nat,i < p.length → (nth p (i : Int)).length ≤ 5
  b : ∀ i : Nat,i < p.length → ∀ j : Nat,j < (nth p (i : Int)).length → 0 ≤ nth (nth p (i : Int)) (j : Int) ∧ nth (nth p (i : Int)) (j : Int) < h.buns.length
def nbTo (h : Hall) (m : TM) (row : List Int) : Nat → Int × Int
  | 0 => (m.ready,-1)
  | j + 1 => ((if 0 ≤ (nbTo h m row j).2 ∧ (nth h.buns (nth row (j : Int))).edition ≠ (nbTo h m row j).2 then (nbTo h m row j).1 + h.change else (nbTo h m row j).1) + (nth h.buns (nth row (j : Int))).hundreds * m.pace,(nth h.buns (nth row (j : Int))).edition)
def negTo : Nat → List Int
  | 0 => [0,0,0,0,0]
  | i + 1 => lset (negTo i) (i : Int) (-1)
def outR (h : Hall) (m : TM) (row out : List Int) : Nat → List Int
  | 0 => out
  | j + 1 => lset (outR h m row out j) (nth row (j : Int)) (nbTo h m row (j + 1)).1
def outTo (h : Hall) (p : Plan) : Nat → List Int
  | 0 => negTo 5
  | i + 1 => outR h (nth h.machs (i : Int)) (nth p (i : Int)) (outTo h p i) (nth p (i : Int)).length
theorem negTo_len : ∀ i,(negTo i).length = 5
  | 0 => rfl
  | i + 1 => by rw [negTo,lset_len,negTo_len i]
theorem outR_len (h : Hall) (m : TM) (row out : List Int) : ∀ j,(outR h m row out j).length = out.length
  | 0 => rfl
  | j + 1 => by rw [outR,lset_len,outR_len h m row out j]
theorem outTo_len (h : Hall) (p : Plan) : ∀ i,(outTo h p i).length = 5
  | 0 => rfl
  | i + 1 => by rw [outTo,outR_len,outTo_len h p i]
theorem prod_b {a b : Int} (ha : 1 ≤ a ∧ a ≤ 9) (hb : 1 ≤ b ∧ b ≤ 9) : 1 ≤ a * b ∧ a * b ≤ 81 :=
  ⟨by have := Int.mul_le_mul ha.1 hb.1 (by decide) (by omega); simpa using this,by have := Int.mul_le_mul ha.2 hb.2 (by omega) (by decide); simpa using this⟩
theorem nbTo_b {h : Hall} (hh : HouC h) {p : Plan} (hp : PlB h p) {i : Nat} (hi : i < p.length) : ∀ j : Nat,j ≤ (nth p (i : Int)).length → (0 ≤ (nbTo h (nth h.machs (i : Int)) (nth p (i : Int)) j).1 ∧ (nbTo h (nth h.machs (i : Int)) (nth p (i : Int)) j).1 ≤ 99 + 90 * (j : Int)) ∧ -1 ≤ (nbTo h (nth h.machs (i : Int)) (nth p (i : Int)) j).2 ∧ (nbTo h (nth h.machs (i : Int)) (nth p (i : Int)) j).2 ≤ 3
  | 0,_ => by have := hh.ma i (by have := hp.n; omega); simp only [nbTo]; omega
  | j + 1,hj => by
    have h1 := nbTo_b hh hp hi j (by omega)
    have h2 := hp.b i hi j (by omega)
    have h3 := hh.bu (nth (nth p (i : Int)) (j : Int)).toNat (by omega)
    rw [show (((nth (nth p (i : Int)) (j : Int)).toNat : Nat) : Int) = nth (nth p (i : Int)) (j : Int) by omega] at h3
    have h4 := hh.ma i (by have := hp.n; omega)
    have h5 := prod_b h3.2.1 h4.2.1
    have h6 := hh.c
    simp only [nbTo]
    split <;> omega
def tN (t : List Int) : Nat → List Int
  | 0 => t
  | b + 1 => if nth (tN t b) (b : Int) = -1 then lset (tN t b) (b : Int) 1048576 else tN t b
def rdTo (h : Hall) (t : List Int) : Nat → List Int
  | 0 => [0,0,0,0]
  | b + 1 => lset (rdTo h t b) (nth h.buns (b : Int)).train (max (nth (rdTo h t b) (nth h.buns (b : Int)).train) (nth (tN t (b + 1)) (b : Int)))
theorem tN_len (t : List Int) : ∀ b,(tN t b).length = t.length
  | 0 => rfl
  | b + 1 => by rw [tN]; split; rw [lset_len,tN_len t b]; exact tN_len t b
theorem rdTo_len (h : Hall) (t : List Int) : ∀ b,(rdTo h t b).length = 4
  | 0 => rfl
  | b + 1 => by rw [rdTo,lset_len,rdTo_len h t b]
def rdyL (h : Hall) (p : Plan) : List Int := rdTo h (outTo h p p.length) h.buns.length
def latTo (h : Hall) (r : List Int) : Nat → Nat
  | 0 => 0
  | i + 1 => if nth h.trains (i : Int) < nth r (i : Int) then latTo h r i ||| 2 ^ i else latTo h r i
def latM (h : Hall) (r : List Int) : Nat := latTo h r h.trains.length
theorem latTo_b (h : Hall) (r : List Int) : ∀ i : Nat,i ≤ 4 → latTo h r i < 2 ^ i
  | 0,_ => Nat.one_pos
  | i + 1,hi => by
    have := latTo_b h r i (by omega)
    have h2 : 2 ^ (i + 1) = 2 * 2 ^ i := by rw [Nat.pow_succ,Nat.mul_comm]
    rw [latTo]
    split
    · exact Nat.or_lt_two_pow (by omega) (by rw [h2]; have := Nat.two_pow_pos i; omega)
    · omega
theorem lat_all : (List.range 16).all (fun s => (List.range 4).all fun x => decide (ui .or (s : Int) (ui .shl 1 (x : Int)) = ((s ||| 2 ^ x : Nat) : Int))) = true := by decide +kernel
theorem lat_or {s x : Nat} (hs : s < 16) (hx : x < 4) : ui .or (s : Int) (ui .shl 1 (x : Int)) = ((s ||| 2 ^ x : Nat) : Int) := by
  have := List.all_eq_true.1 (List.all_eq_true.1 lat_all s (List.mem_range.2 hs)) x (List.mem_range.2 hx)
  simpa using this
def lstTo (s : Nat) : Nat → List Int
  | 0 => []
  | i + 1 => if ui .and (ui .shr (s : Int) (i : Int)) 1 = 1 then lstTo s i ++ [(i : Int)] else lstTo s i
theorem lstTo_len (s : Nat) : ∀ i,(lstTo s i).length ≤ i
  | 0 => Nat.le_refl _
  | i + 1 => by have := lstTo_len s i; rw [lstTo]; split <;> (try rw [List.length_append,List.length_singleton]) <;> omega
theorem lst_all : (List.range 16).all (fun s => decide ((lstTo s 4).length = 0) == decide (s = 0) && (decide (popc s = 0) == decide (s = 0)) && decide (popc s ≤ 4)) = true := by decide +kernel
theorem lst_ok {s : Nat} (hs : s < 16) : ((lstTo s 4).length = 0 ↔ s = 0) ∧ (popc s = 0 ↔ s = 0) ∧ popc s ≤ 4 := by
  have := List.all_eq_true.1 lst_all s (List.mem_range.2 hs)
  simp only [Bool.and_eq_true,beq_iff_eq,decide_eq_decide,decide_eq_true_eq] at this
  exact ⟨this.1.1,this.1.2,this.2⟩
def addB (p : Plan) (m b : Nat) : Plan := p.set m (p.getD m [] ++ [(b : Int)])
def plansF (n B : Nat) (stop : Int) : Nat → Nat → Plan → List Plan
  | 0,_,_ => []
  | k + 1,m,p => if m = n then [p] else plansF n B stop k (m + 1) p ++ (if (m : Int) = stop then [] else (List.range B).flatMap fun (b : Nat) => if (b : Int) ∈ p.flatten then [] else plansF n B stop k m (addB p m b))
def subP (n B : Nat) (stop : Int) (k m : Nat) (p : Plan) (b : Nat) : List Plan := if (b : Int) ∈ p.flatten then [] else plansF n B stop k m (addB p m b)
def posP (n B : Nat) (stop : Int) (k m : Nat) (p : Plan) : Nat → Nat
  | 0 => (plansF n B stop k (m + 1) p).length
  | j + 1 => posP n B stop k m p j + (subP n B stop k m p j).length
theorem posP_in {n B k m j : Nat} {stop : Int} {p : Plan} (h : (j : Int) ∈ p.flatten) : posP n B stop k m p (j + 1) = posP n B stop k m p j := by rw [posP,subP,if_pos h]; rfl
theorem posP_out {n B k m j : Nat} {stop : Int} {p : Plan} (h : (j : Int) ∉ p.flatten) : posP n B stop k m p (j + 1) = posP n B stop k m p j + (plansF n B stop k m (addB p m j)).length := by rw [posP,subP,if_neg h]
def AtP (O : List Plan) (a : Nat) (T : List Plan) : Prop := ∀ i,i < T.length → O[a + i]? = T[i]?
theorem AtP.root (O : List Plan) : AtP O 0 O := fun i _ => by rw [Nat.zero_add]
theorem AtP.l {O S T : List Plan} {a : Nat} (h : AtP O a (S ++ T)) : AtP O a S := fun i hi => by
  rw [h i (by rw [List.length_append]; omega),List.getElem?_append_left hi]
theorem AtP.r {O S T : List Plan} {a : Nat} (h : AtP O a (S ++ T)) : AtP O (a + S.length) T := fun i hi => by
  rw [Nat.add_assoc,h (S.length + i) (by rw [List.length_append]; omega),List.getElem?_append_right (by omega),Nat.add_sub_cancel_left]
theorem AtP.one {O : List Plan} {a : Nat} {p : Plan} (h : AtP O a [p]) : O[a]? = some p := by have := h 0 (by simp); simpa using this
theorem subs_len (n B : Nat) (stop : Int) (k m : Nat) (p : Plan) : ∀ j,(plansF n B stop k (m + 1) p).length + ((List.range j).flatMap (subP n B stop k m p)).length = posP n B stop k m p j
  | 0 => by simp [posP]
  | j + 1 => by
    have := subs_len n B stop k m p j
    rw [List.range_succ,List.flatMap_append,List.length_append,posP,← this]; simp; omega
theorem range_split {j B : Nat} (h : j < B) : List.range B = List.range j ++ (j :: (List.range' (j + 1) (B - j - 1))) := by
  rw [List.range_eq_range',List.range_eq_range']
  have h1 := List.range'_append (s := 0) (m := j) (n := B - j) (step := 1)
  rw [show j + (B - j) = B by omega] at h1
  rw [← h1,show B - j = (B - j - 1) + 1 by omega,List.range'_succ]; simp
theorem AtP.first {n B k m a : Nat} {stop : Int} {p : Plan} {O : List Plan} (h : AtP O a (plansF n B stop (k + 1) m p)) (hm : m ≠ n) : AtP O a (plansF n B stop k (m + 1) p) := by
  rw [plansF,if_neg hm] at h; exact h.l
theorem AtP.leaf {n B k a : Nat} {stop : Int} {p : Plan} {O : List Plan} (h : AtP O a (plansF n B stop (k + 1) n p)) : O[a]? = some p := by
  rw [plansF,if_pos rfl] at h; exact h.one
theorem AtP.sub {n B k m a j : Nat} {stop : Int} {p : Plan} {O : List Plan} (h : AtP O a (plansF n B stop (k + 1) m p)) (hm : m ≠ n) (hs : (m : Int) ≠ stop) (hj : j < B) (hl : (j : Int) ∉ p.flatten) : AtP O (a + posP n B stop k m p j) (plansF n B stop k m (addB p m j)) := by
  rw [plansF,if_neg hm,if_neg hs] at h
  have h2 := h.r
  rw [range_split hj,List.flatMap_append,List.flatMap_cons] at h2
  have h3 := h2.r.l
  rw [if_neg hl] at h3
  rw [← subs_len,← Nat.add_assoc]; exact h3
theorem plansF_leaf {n B k : Nat} {stop : Int} {p : Plan} : (plansF n B stop (k + 1) n p).length = 1 := by rw [plansF,if_pos rfl]; rfl
theorem plansF_stop {n B k m : Nat} {stop : Int} {p : Plan} (hm : m ≠ n) (hs : (m : Int) = stop) : (plansF n B stop (k + 1) m p).length = (plansF n B stop k (m + 1) p).length := by rw [plansF,if_neg hm,if_pos hs,List.append_nil]
theorem plansF_len {n B k m : Nat} {stop : Int} {p : Plan} (hm : m ≠ n) (hs : (m : Int) ≠ stop) : (plansF n B stop (k + 1) m p).length = posP n B stop k m p B := by
  rw [plansF,if_neg hm,if_neg hs,List.length_append,← subs_len]; rfl
def freeB (B : Nat) (l : List Int) : Nat := (List.range B).countP fun (j : Nat) => decide ((j : Int) ∉ l)
theorem freeB_succ (n : Nat) (l : List Int) : freeB (n + 1) l = freeB n l + (if (n : Int) ∈ l then 0 else 1) := by
  unfold freeB
  rw [List.range_succ,List.countP_append]
  by_cases h : (n : Int) ∈ l <;> simp [h]
theorem freeB_nil : ∀ n,freeB n [] = n
  | 0 => rfl
  | n + 1 => by rw [freeB_succ,freeB_nil n]; simp
theorem freeB_congr {l l' : List Int} : ∀ {n : Nat},(∀ j : Nat,j < n → ((j : Int) ∈ l ↔ (j : Int) ∈ l')) → freeB n l = freeB n l'
  | 0,_ => rfl
  | n + 1,h => by
    rw [freeB_succ,freeB_succ,freeB_congr (n := n) fun j hj => h j (by omega)]
    simp only [h n (by omega)]
theorem freeB_add {l l' : List Int} {b : Nat} (hl : ∀ x : Int,x ∈ l' ↔ x ∈ l ∨ x = b) (hb : (b : Int) ∉ l) : ∀ {n : Nat},b < n → freeB n l' + 1 = freeB n l
  | n + 1,h => by
    rw [freeB_succ,freeB_succ]
    by_cases e : b = n
    · subst e
      rw [if_pos ((hl _).2 (.inr rfl)),if_neg hb,freeB_congr (l := l') (l' := l) (n := b) fun j hj => by rw [hl]; exact ⟨fun h => h.elim id fun h => by omega,.inl⟩]
    · rw [← freeB_add hl hb (n := n) (by omega)]
      have : (n : Int) ∈ l' ↔ (n : Int) ∈ l := by rw [hl]; exact ⟨fun h => h.elim id fun h => by omega,.inl⟩
      simp only [this]; omega
theorem mem_set {p : Plan} {m : Nat} {l : List Int} (hm : m < p.length) {x : Int} : x ∈ (p.set m l).flatten ↔ x ∈ l ∨ ∃ i,i < p.length ∧ i ≠ m ∧ x ∈ p.getD i [] := by
  rw [List.mem_flatten]
  constructor
  · rintro ⟨r,hr,hx⟩
    obtain ⟨i,hi,rfl⟩ := List.mem_iff_getElem.1 hr
    rw [List.length_set] at hi
    rw [List.getElem_set] at hx
    split at hx
    · exact .inl hx
    · exact .inr ⟨i,hi,fun e => by omega,by rw [List.getD_eq_getElem?_getD,List.getElem?_eq_getElem hi]; exact hx⟩
  · rintro (h | ⟨i,hi,hn,hx⟩)
    · exact ⟨l,List.mem_set hm _,h⟩
    · rw [List.getD_eq_getElem?_getD,List.getElem?_eq_getElem hi] at hx
      refine ⟨p[i],List.mem_iff_getElem.2 ⟨i,by rw [List.length_set]; exact hi,?_⟩,hx⟩
      rw [List.getElem_set_ne (Ne.symm hn)]
theorem mem_addB {p : Plan} {m b : Nat} (hm : m < p.length) {x : Int} : x ∈ (addB p m b).flatten ↔ x ∈ p.flatten ∨ x = b := by
  unfold addB
  rw [mem_set hm]
  have h2 : x ∈ p.flatten ↔ x ∈ p.getD m [] ∨ ∃ i,i < p.length ∧ i ≠ m ∧ x ∈ p.getD i [] := by
    rw [← mem_set hm]
    have : p.set m (p.getD m []) = p := by rw [List.getD_eq_getElem?_getD,List.getElem?_eq_getElem hm]; simp
    rw [this]
  rw [h2,List.mem_append,List.mem_singleton]
  constructor
  · rintro ((h | h) | h)
    · exact .inl (.inl h)
    · exact .inr h
    · exact .inl (.inr h)
  · rintro ((h | h) | h)
    · exact .inl (.inl h)
    · exact .inr h
    · exact .inl (.inr h)
theorem addB_getD {p : Plan} {m b i : Nat} (hm : m < p.length) : (addB p m b).getD i [] = if i = m then p.getD m [] ++ [(b : Int)] else p.getD i [] := by
  unfold addB
  by_cases e : i = m
  · subst e; rw [if_pos rfl,List.getD_eq_getElem?_getD,List.getElem?_set_self hm]; rfl
  · rw [if_neg e,List.getD_eq_getElem?_getD,List.getElem?_set_ne (Ne.symm e),List.getD_eq_getElem?_getD]
theorem addB_undo {p : Plan} {m b : Nat} (hm : m < p.length) : (addB p m b).set m ((addB p m b).getD m []).dropLast = p := by
  rw [addB_getD hm,if_pos rfl,List.dropLast_concat,addB,List.set_set,List.getD_eq_getElem?_getD,List.getElem?_eq_getElem hm]; simp
theorem addB_len {p : Plan} {m b : Nat} : (addB p m b).length = p.length := by unfold addB; rw [List.length_set]
theorem flatten_set_len {p : Plan} {m : Nat} {l : List Int} (hm : m < p.length) : (p.set m l).flatten.length + (p.getD m []).length = p.flatten.length + l.length := by
  induction p generalizing m with
  | nil => simp at hm
  | cons r t ih =>
    cases m with
    | zero => simp; omega
    | succ m =>
      have := ih (m := m) (by simpa using hm)
      simp only [List.set_cons_succ,List.flatten_cons,List.length_append,List.getD_cons_succ]; omega
theorem addB_flen {p : Plan} {m b : Nat} (hm : m < p.length) : (addB p m b).flatten.length = p.flatten.length + 1 := by
  have := flatten_set_len (p := p) (l := p.getD m [] ++ [(b : Int)]) hm
  rw [List.length_append,List.length_singleton] at this
  unfold addB; omega
theorem row_flen {p : Plan} {m : Nat} (hm : m < p.length) : (p.getD m []).length ≤ p.flatten.length := by
  have := flatten_set_len (p := p) (m := m) (l := []) hm
  simp at this; simp; omega
def MaskIs (u : Nat) (l : List Int) : Prop := u < 32 ∧ ∀ y : Nat,y < 5 → ((u >>> y) % 2 = 1 ↔ (y : Int) ∈ l)
theorem mask_all : (List.range 32).all (fun s => (List.range 5).all fun x => decide ((s >>> x) % 2 = 1) || decide (IntKind.i64.wrap (BitVec.ofInt 64 ((s ||| 2 ^ x : Nat) : Int) &&& ~~~ BitVec.ofInt 64 ((2 ^ x : Nat) : Int)).toNat = (s : Int))) = true := by decide +kernel
theorem mask_off {s x : Nat} (hs : s < 32) (hx : x < 5) (h : (s >>> x) % 2 ≠ 1) : IntKind.i64.wrap (BitVec.ofInt 64 ((s ||| 2 ^ x : Nat) : Int) &&& ~~~ BitVec.ofInt 64 ((2 ^ x : Nat) : Int)).toNat = (s : Int) := by
  have := List.all_eq_true.1 (List.all_eq_true.1 mask_all s (List.mem_range.2 hs)) x (List.mem_range.2 hx)
  simpa [h] using this
theorem MaskIs.add {u b : Nat} {l l' : List Int} (h : MaskIs u l) (hb : b < 5) (hl : ∀ x : Int,x ∈ l' ↔ x ∈ l ∨ x = b) : MaskIs (u ||| 2 ^ b) l' := by
  have := msk_ok h.1 hb
  refine ⟨this.b,fun y hy => ?_⟩
  rw [this.y y hy,h.2 y hy,hl]
  constructor
  · rintro (h | h)
    · exact .inl h
    · exact .inr (by omega)
  · rintro (h | h)
    · exact .inl h
    · exact .inr (by omega)
structure PlanI (n B : Nat) (p : Plan) : Prop where
  len : p.length = n
  b5 : B ≤ 5
  b : ∀ x ∈ p.flatten,0 ≤ x ∧ x < (B : Int)
  f : p.flatten.length + freeB B p.flatten = B
theorem PlanI.add {n B m b : Nat} {p : Plan} (h : PlanI n B p) (hm : m < n) (hb : b < B) (hf : (b : Int) ∉ p.flatten) : PlanI n B (addB p m b) := by
  have hm' : m < p.length := by rw [h.len]; exact hm
  refine ⟨by rw [addB_len]; exact h.len,h.b5,fun x hx => ?_,?_⟩
  · rcases (mem_addB hm').1 hx with h' | h'
    · exact h.b x h'
    · omega
  · have h1 := freeB_add (fun x => mem_addB hm') hf hb
    rw [addB_flen hm']
    have := h.f
    omega
theorem PlanI.row {n B m : Nat} {p : Plan} (h : PlanI n B p) (hm : m < n) : (p.getD m []).length ≤ 5 := by
  have := row_flen (p := p) (m := m) (by rw [h.len]; exact hm)
  have := h.f
  have := h.b5
  omega
theorem PlanI.plB {h : Hall} {p : Plan} (hp : PlanI h.machs.length h.buns.length p) : PlB h p := by
  have hg : ∀ i : Nat,i < p.length → nth p (i : Int) = p.getD i [] := fun i hi => by rw [nthG hi,List.getD_eq_getElem?_getD,List.getElem?_eq_getElem hi]; rfl
  refine ⟨hp.len,fun i hi => ?_,fun i hi j hj => ?_⟩
  · rw [hg i hi]; exact hp.row (by rw [← hp.len]; exact hi)
  · refine hp.b _ (List.mem_flatten.2 ⟨nth p (i : Int),nth_mem (by omega) (by omega),nth_mem (by omega) (by omega)⟩)
structure okP (n B : Nat) (stop : Int) (k : Nat) (O : List Plan) (i : Nat × Nat × Plan × Nat) : Prop where
  m1 : i.1 ≤ n
  p1 : PlanI n B i.2.2.1
  k1 : (n - i.1) + freeB B i.2.2.1.flatten < k
  at' : AtP O i.2.1 (plansF n B stop k i.1 i.2.2.1)
  u1 : MaskIs i.2.2.2 i.2.2.1.flatten
theorem okP.next {n B k m a u : Nat} {stop : Int} {O : List Plan} {p : Plan} (h : okP n B stop (k + 1) O (m,a,p,u)) (hm : m ≠ n) : okP n B stop k O (m + 1,a,p,u) := by
  obtain ⟨h1,h2,h3,h4,h5⟩ := h
  have h1 : m ≤ n := h1
  have h3 : (n - m) + freeB B p.flatten < k + 1 := h3
  exact ⟨by show m + 1 ≤ n; omega,h2,by show (n - (m + 1)) + freeB B p.flatten < k; omega,h4.first hm,h5⟩
theorem okP.sub {n B k m a u j : Nat} {stop : Int} {O : List Plan} {p : Plan} (h : okP n B stop (k + 1) O (m,a,p,u)) (hm : m ≠ n) (hs : (m : Int) ≠ stop) (hj : j < B) (hl : (j : Int) ∉ p.flatten) : okP n B stop k O (m,a + posP n B stop k m p j,addB p m j,u ||| 2 ^ j) := by
  obtain ⟨h1,h2,h3,h4,h5⟩ := h
  have h1 : m ≤ n := h1
  have h2 : PlanI n B p := h2
  have h3 : (n - m) + freeB B p.flatten < k + 1 := h3
  have hm' : m < p.length := by rw [h2.len]; omega
  have h6 := freeB_add (fun x => mem_addB hm') hl hj
  have hB := h2.b5
  exact ⟨h1,h2.add (by omega) hj hl,by show (n - m) + freeB B (addB p m j).flatten < k; omega,h4.sub hm hs hj hl,h5.add (by omega) fun x => mem_addB hm'⟩
theorem planI_root {n B : Nat} (hB : B ≤ 5) : PlanI n B (List.replicate n []) := by
  have : (List.replicate n ([] : List Int)).flatten = [] := by simp
  exact ⟨by simp,hB,fun x hx => absurd (show x ∈ ([] : List Int) by rw [← this]; exact hx) List.not_mem_nil,by rw [this,freeB_nil]; simp⟩
def plansV (h : Hall) (stop : Int) : List Plan := plansF h.machs.length h.buns.length stop (h.machs.length + h.buns.length + 1) 0 (List.replicate h.machs.length [])
theorem okP_root {h : Hall} (hB : h.buns.length ≤ 5) (stop : Int) : okP h.machs.length h.buns.length stop (h.machs.length + h.buns.length + 1) (plansV h stop) (0,0,List.replicate h.machs.length [],0) := by
  have : (List.replicate h.machs.length ([] : List Int)).flatten = [] := by simp
  refine ⟨Nat.zero_le _,planI_root hB,?_,AtP.root _,⟨by show (0 : Nat) < 32; decide,fun y hy => ?_⟩⟩
  · show (h.machs.length - 0) + freeB h.buns.length (List.replicate h.machs.length ([] : List Int)).flatten < _
    rw [this,freeB_nil]; omega
  · show ((0 : Nat) >>> y) % 2 = 1 ↔ (y : Int) ∈ (List.replicate h.machs.length ([] : List Int)).flatten
    rw [this]; simp
abbrev rdyS (h : Hall) (p : Plan) : SV := .e (.g [ai (nth (rdyL h p) 0),ai (nth (rdyL h p) 1),ai (nth (rdyL h p) 2),ai (nth (rdyL h p) 3)])
abbrev planItem (h : Hall) (p : Plan) : Eng.Item := ⟨[.e (.a (.q 0)),rdyS h p],[],[(0,PL (EP.sl EP.int) p)]⟩
def planItems (h : Hall) (stop : Int) : List Eng.Item := (plansV h stop).map (planItem h)
theorem planItems_at {h : Hall} {stop : Int} {a : Nat} {p : Plan} (hp : (plansV h stop)[a]? = some p) : (planItems h stop)[a]? = some (planItem h p) := by
  unfold planItems; rw [List.getElem?_map,hp]; rfl
end Go.Flong
namespace Go.Flong
open Go Go.Eng
abbrev PlanP (P : Program) {n1 : Nat} (I0 : IH) (F0 : Nat → Prop) (B0 U : Nat) (Y : Nat → YI n1) (K : YI n1) (h : Hall) (stop : Int) (k : Nat) : Pred :=
  GoP P I0 F0 (fun i : Nat × Nat × Plan × Nat => plY B0 24 3 U 3 h.machs.length (Y i.2.1) i.2.2.1 (i.2.2.2 : Int)) (fun i => plY B0 24 3 U 3 h.machs.length (Y (i.2.1 + (plansF h.machs.length h.buns.length stop k i.1 i.2.2.1).length)) i.2.2.1 (i.2.2.2 : Int))
    (fun i => plY B0 24 3 U 3 h.machs.length K i.2.2.1 (i.2.2.2 : Int)) (okP h.machs.length h.buns.length stop k (plansV h stop)) (fun i => [.i (i.1 : Int)]) (fun _ => [])
theorem mask_in {u b : Nat} {l : List Int} (h : MaskIs u l) (hb : b < 5) : (((u >>> b) % 2 : Nat) : Int) = 1 ↔ (b : Int) ∈ l := by rw [← h.2 b hb]; omega
end Go.Flong
namespace Go.Eng
open Go
def lentRXP (u e v : Value) (R : Pred) : XP := ⟨0,lblk u e,fun _ => False,fun _ w => R.h (rd w u e) v,fun h hJ => R.mono (rd_same fun b hb he => h.block b hb (.inl he)) hJ⟩
theorem lentR_all {u e v : Value} {R : Pred} : ∀ I w,(lentRXP u e v R).J I w → R.h (World.all w) v := fun _ _ h => R.mono rd_all h
section ops
variable {cx : Cx} {S : St} {dst : Option Tmp} {ty : TypeId} {pos : String} {af : Array Edge} {gd : Option (Nat × Bool)}
theorem o_lenL {x : Operand} {T e0 : TypeId} {sz j : Nat} {u e : Value} {α : Type} {E : EP α} {l : List α} (hT : IsSl cx.P T e0 sz) (hx : S.op x = some (.e (.a (.q j)))) (hX : Has S.X j (Pred.is u)) (hL : look j S.L = some (.ext (lentXP u e (PL E l)))) :
    OpG cx S ⟨dst,.call { callee := .builtin .len,args := #[x],argTypes := #[T] },ty,pos,af,gd⟩ (.val (.i l.length)) :=
  OpG.pure (fun _ => by simp) fun M ε I a w hs => ⟨trivial,by
    have h := hs.eval hx
    have hu : ε.ν j = u := hs.has hX
    obtain ⟨ad,cap,hv,_⟩ := hs.L j _ hL
    simp only [SV.den,El.den,At.den,hu,hv] at h
    simp [execOp,resolve,invoke,builtin,h,run_len_slice hT,SV.den,El.den,At.den]⟩
theorem o_idxL {x y : Operand} {T e0 : TypeId} {sz j : Nat} {u e : Value} {α : Type} {E : EP α} {l : List α} {i : Int} (hT : IsSl cx.P T e0 sz) (hx : S.op x = some (.e (.a (.q j)))) (hX : Has S.X j (Pred.is u)) (hL : look j S.L = some (.ext (lentXP u e (PL E l)))) (hi : S.op y = some (.i i)) (h0 : 0 ≤ i) (h1 : i < l.length) :
    OpG cx S ⟨dst,.indexAddr T x y,ty,pos,af,gd⟩ (.val (.e (.a (.e j (i.toNat * sz))))) :=
  OpG.pure (fun _ => by simp) fun M ε I a w hs => ⟨hs.on (sv := .e (.a (.q j))) hx,by
    have h := hs.eval hx
    have h' := hs.eval hi
    have hu : ε.ν j = u := hs.has hX
    obtain ⟨ad,cap,hv,_,hl⟩ := hs.L j _ hL
    obtain ⟨cs,ad',_,rfl,_⟩ := hl 0 (by omega)
    simp only [SV.den,El.den,At.den,hu,hv] at h
    simp only [SV.den,El.den,At.den] at h'
    simp [execOp,h,h',run_indexAt hT h0 h1 w,SV.den,El.den,At.den,hu,hv,padd]⟩
end ops
section
variable {cx : Cx} {Q : Exit → Act → World → Prop} {ops : Array Oper} {rest : List Oper}
variable {n : Nat} {fr : List (Nat × SV)} {X : List (Nat × Pred)} {L : List (Nat × Ent)} {D : List Nat} {G : List (Nat × Bool)} {d : Tmp} {ty : TypeId} {pos : String} {af : Array Edge}
theorem WPl.ldL {x : Operand} {T : TypeId} {j : Nat} {u e : Value} {α : Type} {E : EP α} {l : List (List α)} {i : Int} (k m : Nat) (hk : Nat.ble n k = true) (hm : Nat.blt k m = true) (hd : Nat.blt d cx.N = true) (hT : TyS cx.P T) (hx : St.op ⟨n,fr,X,L,D,G⟩ x = some (.e (.a (.e j (i.toNat * 1))))) (hX : Has X j (Pred.is u)) (hL : look j L = some (.ext (lentXP u e (PL (EP.sl E) l)))) (h0 : 0 ≤ i) (h1 : i < l.length)
    (K : ∀ v,WPl cx ops ⟨m,(d,.e (.a (.q k))) :: fr,(k,Pred.is v) :: X,(k,.ext (lentRXP u e v (PL E (nth l i)))) :: L,D,G⟩ rest Q) :
    WPl cx ops ⟨n,fr,X,L,D,G⟩ (⟨some d,.load T x,ty,pos,af,none⟩ :: rest) Q := by
  have hk' : n ≤ k := by simpa using hk
  rw [Nat.blt_eq] at hm hd
  intro ε I a w hs
  have h := SatM.eval hs hx
  have hu : ε.ν j = u := SatM.has hs hX
  have hJ : (PL (EP.sl E) l).h (rd w u e) u := hs.L j _ hL
  obtain ⟨he1,he2⟩ := hs.ext j _ hL
  obtain ⟨ad,cap,hv,_,hl⟩ := hJ
  have hin : i.toNat < l.length := by omega
  obtain ⟨cs,ad',⟨v,rfl,hR⟩,rfl,hsp,hc⟩ := hl i.toNat hin
  have hnth : nth l i = l[i.toNat] := by simp [nth,List.getD_eq_getElem?_getD,List.getElem?_eq_getElem hin]
  rw [← hnth] at hR
  have hcell := IH.cell_on (World.all_on w) (IH.cell_mono rd_all (hc 0 v rfl))
  rw [Nat.add_zero] at hcell
  simp only [SV.den,El.den,At.den,hu,hv,padd] at h
  have hrun : (execOp a.eval ⟨some d,.load T x,ty,pos,af,none⟩).run cx.P w = .ok (.value v) w := by
    have hcell' : w.cell? (ad'.add i.toNat) = some v := by
      have := hcell
      rw [show (EP.sl E).size = 1 from rfl,Nat.mul_one] at this; exact this
    rw [Nat.mul_one] at h
    simp [execOp,h,run_load1 hT hcell']
  refine wpListIn_step fun K' hK => ?_
  simp only [Region.wanted,if_true]
  refine ⟨fun _ _ => trivial,?_⟩
  rw [semAt_eq _ _ _ (fun _ => by simp),hrun]
  refine hK _ _ (K v ⟨ε.β,Eng.upd ε.ν k v,ε.γ⟩ I _ _ ?_)
  have := SatM.app (d := some d) (u := ⟨.e (.a (.q k)),[k],[(k,Pred.is v)],[(k,.ext (lentRXP u e v (PL E (nth l i))))],[]⟩) m hs (St.le.refl _) (fun i hi hlt => by
      have hi : i ∈ [k] := hi
      rw [List.mem_singleton] at hi; subst hi
      have : i < n := hlt
      omega) (fun i hi => by cases hi; exact hd) (ε' := ⟨ε.β,Eng.upd ε.ν k v,ε.γ⟩) (I' := I) (w' := w)
    ⟨fun i hi => by
        have : i ≠ k := fun e => hi (by simp [e])
        exact ⟨rfl,upd_other _ _ this,rfl⟩,IH.le.rfl',hs.imm,rfl,rfl,Out.rf,Nat.le_refl _,fun _ _ _ => rfl,fun _ _ h => .inl h⟩
    ⟨.inr (by simp),fun j R hj => by obtain ⟨rfl,_⟩ := look_one hj; exact .inr (by simp),fun _ _ h => (by cases h),fun i e he => by obtain ⟨rfl,rfl⟩ := look_one he; exact ⟨.inr (by simp),trivial⟩,
      fun j R hj => by obtain ⟨rfl,rfl⟩ := look_one hj; simp only [upd_same]; rfl,
      fun i e' he => by obtain ⟨rfl,rfl⟩ := look_one he; exact hR,
      fun i e' he b hb => by
        obtain ⟨rfl,rfl⟩ := look_one he
        exact hb.elim,
      fun i i' e e' b he he' hne => by
        obtain ⟨rfl,_⟩ := look_one he
        obtain ⟨rfl,_⟩ := look_one he'
        exact absurd rfl hne,
      fun i x hx => by
        obtain ⟨_,h⟩ := look_one hx
        cases h
        exact ⟨he1,he2⟩⟩
  simp only [SV.den,El.den,At.den,upd_same] at this
  refine SatM.mono (fun i hi => ?_) this
  rcases hi with hi | hi
  · have hi : i < n := hi
    show i < m
    omega
  · have hi : i ∈ [k] := hi
    rw [List.mem_singleton] at hi
    show i < m
    omega
end
theorem stepR_scope' {P : Program} {b : Frame} {a : Act} {k : List Go.Item} {cs : List Frame} {w : World} {c : Code} : step P (lone (b.atR a (.code (.scope c) :: k)) cs w) = .next (lone (b.atR a (.code c :: .inScope c :: k)) cs w) :=
  step_lone_go (by simp [stepG,stepG.exec,Frame.atR])
theorem stepR_inScope' {P : Program} {b : Frame} {a : Act} {k : List Go.Item} {cs : List Frame} {w : World} {c : Code} : step P (lone (b.atR a (.inScope c :: k)) cs w) = .next (lone (b.atR a k) cs w) :=
  step_lone_go (by simp [stepG,stepG.exec,Frame.atR])
theorem wpIn_scope' {F : Fence} {n : Nat} {P : Program} {Q : Exit → Act → World → Prop} {a : Act} {w : World} {c : Code} (h : c.wpIn F n P (Exit.noGoto Q) a w) : (Code.scope c).wpIn F n P Q a w := by
  intro b k cs hro hb hr
  have h0 : (lone (b.atR a (.code (.scope c) :: k)) cs w).fenced P F := fenced_calm hb hr rfl
  obtain ⟨e,a₁,w₁,hq,harr⟩ := h b (.inScope c :: k) cs hro hb hr
  cases e with
  | normal => exact ⟨.normal,a₁,w₁,hq,.head h0 stepR_scope' (StepsIn.trans harr (.one (fenced_calm hb hr rfl) stepR_inScope'))⟩
  | exit id =>
    have hx : exitTo id (.inScope c :: k) = exitTo id k := by simp [exitTo]
    exact ⟨.exit id,a₁,w₁,hq,fun k' hk => .head h0 stepR_scope' (harr.1 k' (by rw [hx]; exact hk)),
      fun hr' hk => let ⟨k₁,h1,h2⟩ := harr.2 hr' (by rw [hx]; exact hk); ⟨k₁,h1,.head h0 stepR_scope' h2⟩⟩
  | goto l => exact hq.elim
  | ret => exact ⟨_,a₁,w₁,hq,.of_steps (.one h0 stepR_scope') harr⟩
  | panic ch => exact ⟨_,a₁,w₁,hq,.of_steps (.one h0 stepR_scope') harr⟩
  | outgrown => exact ⟨_,a₁,w₁,hq,.of_steps (.one h0 stepR_scope') harr⟩
theorem WP.scope {cx : Cx} {S : St} {c : Code} {Q : Exit → Act → World → Prop} (h : WP cx S c (Exit.noGoto Q)) : WP cx S (.scope c) Q := fun ε I a w hs => wpIn_scope' (h ε I a w hs)
theorem WP.label {cx : Cx} {S : St} {l : Nat} {Q : Exit → Act → World → Prop} (h : EX cx S .normal Q) : WP cx S (.label l) Q := fun ε I a w hs => wpIn_label (h ε I a w hs)
theorem EX.scope {cx : Cx} {S : St} {e : Exit} {Q : Exit → Act → World → Prop} (he : ∀ l,e ≠ .goto l) (h : EX cx S e Q) : EX cx S e (Exit.noGoto Q) := fun ε I a w hs => by
  have := h ε I a w hs
  cases e with
  | goto l => exact absurd rfl (he l)
  | _ => exact this
end Go.Eng
namespace Go.Eng
open Go
def PSl (n : Nat) : Pred := ⟨fun _ v => ∃ a c,v = .slice a n c,fun _ h => h⟩
theorem PSl.of {α : Type} {E : EP α} {l : List α} : ∀ I v,(PL E l).h I v → (PSl l.length).h I v := fun _ _ ⟨a,c,h,_⟩ => ⟨a,c,h⟩
theorem psl_free {n : Nat} : ∀ j R,look j [(0,PSl n)] = some R → ∀ (I I' : IH) v,R.h I v → R.h I' v := fun j R hj I I' v h => by
  obtain ⟨_,rfl⟩ := look_one hj; exact h
theorem Sig.freeP {P : Program} {f : FuncId} {svs : List SV} {X0 : List (Nat × Pred)} {sv : SV} {X : List (Nat × Pred)} (hf : ∀ j R,look j X = some R → ∀ (I I' : IH) v,R.h I v → R.h I' v) (h : Sig P f svs X0 sv X) : SigF P f svs X0 sv X := fun I w ν hI hX =>
  CallsIn.mono (h I w ν hI hX) fun e w' ⟨I',us,h1,h2,h3,h4,h5,h6⟩ => ⟨I',us,h1,h2,h3,h4,h5,fun j R hj => by
    rw [look_map] at hj
    cases hl : look j X with
    | none => rw [hl] at hj; cases hj
    | some R' =>
      rw [hl] at hj
      simp only [Option.map_some,Option.some.injEq] at hj
      subst hj
      exact hf j R' hl _ _ _ (h6 j R' hl)⟩
theorem o_lenS {cx : Cx} {S : St} {dst : Option Tmp} {ty : TypeId} {pos : String} {af : Array Edge} {gd : Option (Nat × Bool)} {x : Operand} {T e : TypeId} {sz j n : Nat} (hT : IsSl cx.P T e sz) (hx : S.op x = some (.e (.a (.q j)))) (hj : Has S.X j (PSl n)) :
    OpG cx S ⟨dst,.call { callee := .builtin .len,args := #[x],argTypes := #[T] },ty,pos,af,gd⟩ (.val (.i n)) :=
  OpG.pure (fun _ => by simp) fun M ε I a w hs => ⟨trivial,by
    have h := hs.eval hx
    obtain ⟨ad,cap,h1⟩ := hs.has hj
    simp only [SV.den,El.den,At.den,h1] at h
    simp [execOp,resolve,invoke,builtin,h,run_len_slice hT,SV.den,El.den,At.den]⟩
end Go.Eng
namespace Go.Flong
open Go Go.Eng
def cTo (h : Hall) : Nat → List Int
  | 0 => [-1]
  | i + 1 => if (nth h.machs (i : Int)).stops = 1 then cTo h i ++ [(i : Int)] else cTo h i
def casesL (h : Hall) : List Int := cTo h h.machs.length
theorem cTo_len (h : Hall) : ∀ i,(cTo h i).length ≤ i + 1
  | 0 => Nat.le_refl _
  | i + 1 => by have := cTo_len h i; rw [cTo]; split <;> (try rw [List.length_append,List.length_singleton]) <;> omega
theorem cTo_pre (h : Hall) : ∀ {j i k : Nat} {x : Int},i ≤ j → (cTo h i)[k]? = some x → (cTo h j)[k]? = some x
  | 0,i,k,x,hij,hk => by
    have : i = 0 := by omega
    subst this; exact hk
  | j + 1,i,k,x,hij,hk => by
    by_cases e : i = j + 1
    · subst e; exact hk
    · have := cTo_pre h (j := j) (by omega) hk
      rw [cTo]
      split
      · rw [List.getElem?_append_left (List.getElem?_eq_some_iff.1 this).1]; exact this
      · exact this
theorem cases_first (h : Hall) : (casesL h)[0]? = some (-1) := cTo_pre h (Nat.zero_le _) rfl
theorem cases_at {h : Hall} {i : Nat} (hi : i < h.machs.length) (hs : (nth h.machs (i : Int)).stops = 1) : (casesL h)[(cTo h i).length]? = some (i : Int) :=
  cTo_pre h (i := i + 1) (by omega) (by rw [cTo,if_pos hs,List.getElem?_append_right (Nat.le_refl _)]; simp)
theorem cTo_in (h : Hall) : ∀ {i : Nat} {x : Int},x ∈ cTo h i → -1 ≤ x ∧ x < i
  | 0,x,hx => by simp [cTo] at hx; omega
  | i + 1,x,hx => by
    rw [cTo] at hx
    split at hx
    · rcases List.mem_append.1 hx with h' | h'
      · have := cTo_in h h'; omega
      · simp at h'; omega
    · have := cTo_in h hx; omega
theorem cases_b {h : Hall} {g : Nat} (hg : g < (casesL h).length) : -1 ≤ nth (casesL h) (g : Int) ∧ nth (casesL h) (g : Int) < h.machs.length := cTo_in h (show nth (casesL h) (g : Int) ∈ casesL h from nth_mem (by omega) (by omega))
def caseItems (h : Hall) : List Eng.Item := (casesL h).map fun c => ⟨[.i c],[],[]⟩
theorem caseItems_at {h : Hall} {k : Nat} {c : Int} (hc : (casesL h)[k]? = some c) : (caseItems h)[k]? = some ⟨[.i c],[],[]⟩ := by unfold caseItems; rw [List.getElem?_map,hc]; rfl
theorem map_range {α β : Type} [Inhabited α] (f : α → β) (l : List α) : l.map f = (List.range l.length).map fun (g : Nat) => f (nth l (g : Int)) := by
  apply List.ext_getElem?
  intro i
  rw [List.getElem?_map,List.getElem?_map]
  by_cases hi : i < l.length
  · rw [List.getElem?_range hi,List.getElem?_eq_getElem hi]
    simp only [Option.map_some]
    rw [nthG hi]
  · rw [List.getElem?_eq_none (by omega),List.getElem?_eq_none (by simp; omega)]; rfl
theorem planItems_map (h : Hall) (stop : Int) : planItems h stop = (List.range (plansV h stop).length).map fun (g : Nat) => planItem h (nth (plansV h stop) (g : Int)) := map_range _ _
theorem caseItems_map (h : Hall) : caseItems h = (List.range (casesL h).length).map fun (g : Nat) => ⟨[.i (nth (casesL h) (g : Int))],[],[]⟩ := map_range _ _
theorem plansF_in {n B : Nat} {stop : Int} : ∀ {k m : Nat} {p q : Plan},PlanI n B p → m ≤ n → q ∈ plansF n B stop k m p → PlanI n B q
  | 0,_,_,_,_,_,h => by cases h
  | k + 1,m,p,q,hp,hm,h => by
    rw [plansF] at h
    split at h
    · rw [List.mem_singleton] at h; subst h; exact hp
    · rename_i hmn
      rcases List.mem_append.1 h with h | h
      · exact plansF_in hp (by omega) h
      · split at h
        · cases h
        · obtain ⟨b,hb,hq⟩ := List.mem_flatMap.1 h
          rw [List.mem_range] at hb
          split at hq
          · cases hq
          · rename_i hin
            exact plansF_in (hp.add (by omega) hb hin) hm hq
theorem plansV_in {h : Hall} {stop : Int} (hB : h.buns.length ≤ 5) {p : Plan} (hp : p ∈ plansV h stop) : PlanI h.machs.length h.buns.length p := plansF_in (planI_root hB) (Nat.zero_le _) hp
theorem plansV_nth {h : Hall} {stop : Int} (hB : h.buns.length ≤ 5) {g : Nat} (hg : g < (plansV h stop).length) : PlanI h.machs.length h.buns.length (nth (plansV h stop) (g : Int)) := plansV_in hB (nth_mem (by omega) (by omega))
theorem rdyL_len (h : Hall) (p : Plan) : (rdyL h p).length = 4 := rdTo_len _ _ _
def lateP (h : Hall) (p : Plan) : Nat := latM h (rdyL h p)
theorem lateP_b {h : Hall} (hh : HouC h) (p : Plan) : lateP h p < 16 := Nat.lt_of_lt_of_le (latTo_b h _ _ hh.t) (Nat.pow_le_pow_right (by omega) hh.t)
def bpTo (h : Hall) (stop : Int) : Nat → Plan × Int
  | 0 => ([],(h.trains.length : Int) + 1)
  | g + 1 => if (bpTo h stop g).2 = 0 then bpTo h stop g else if (popc (lateP h (nth (plansV h stop) (g : Int))) : Int) < (bpTo h stop g).2 then (nth (plansV h stop) (g : Int),(popc (lateP h (nth (plansV h stop) (g : Int))) : Int)) else bpTo h stop g
def bpV (h : Hall) (stop : Int) : Plan × Int := bpTo h stop (plansV h stop).length
theorem bpTo_stay {h : Hall} {stop : Int} {i : Nat} (h0 : (bpTo h stop i).2 = 0) : ∀ {j : Nat},i ≤ j → bpTo h stop j = bpTo h stop i
  | 0,hij => by
    have : i = 0 := by omega
    subst this; rfl
  | j + 1,hij => by
    by_cases e : i = j + 1
    · subst e; rfl
    · have := bpTo_stay h0 (j := j) (by omega)
      rw [bpTo,this,if_pos h0]
def sureC (h : Hall) (stop : Int) : Bool := (plansV h stop).any fun p => decide (lateP h p = 0)
def sureV (h : Hall) : Bool := (casesL h).all (sureC h)
theorem sureC_t {h : Hall} {stop : Int} {g : Nat} (hg : g < (plansV h stop).length) (h0 : lateP h (nth (plansV h stop) (g : Int)) = 0) : sureC h stop = true :=
  List.any_eq_true.2 ⟨_,nth_mem (by omega) (by omega),decide_eq_true h0⟩
theorem sureC_f {h : Hall} {stop : Int} (hn : ∀ y : Nat,y < (plansV h stop).length → lateP h (nth (plansV h stop) (y : Int)) ≠ 0) : sureC h stop = false := by
  rw [sureC,List.any_eq_false]
  intro p hp
  obtain ⟨i,hi,rfl⟩ := List.mem_iff_getElem.1 hp
  have := hn i hi
  rw [nthG hi] at this
  simpa using this
theorem sureV_t {h : Hall} (hn : ∀ x : Nat,x < (casesL h).length → sureC h (nth (casesL h) (x : Int)) = true) : sureV h = true := by
  rw [sureV,List.all_eq_true]
  intro c hc
  obtain ⟨i,hi,rfl⟩ := List.mem_iff_getElem.1 hc
  have := hn i hi
  rw [nthG hi] at this; exact this
theorem sureV_f {h : Hall} {c : Nat} (hc : c < (casesL h).length) (hf : sureC h (nth (casesL h) (c : Int)) = false) : sureV h = false := by
  rw [sureV,List.all_eq_false]
  exact ⟨_,nth_mem (l := casesL h) (i := (c : Int)) (by omega) (by omega),by rw [hf]; simp⟩
theorem notU_all : (List.range 16).all (fun s => decide (ui .andNot (s : Int) 0 = (s : Int))) = true := by decide +kernel
theorem notU {s : Nat} (hs : s < 16) : ui .andNot (s : Int) 0 = (s : Int) := by
  have := List.all_eq_true.1 notU_all s (List.mem_range.2 hs)
  simpa using this
end Go.Flong
namespace Go.Eng
open Go
theorem FlatT.arrayG {P : Program} {T e : TypeId} {N n c k : Nat} {ag : Bool} (hT : P.underlying T = some (.array n e)) (hg : TyG P T N) (hN : N = n * c) (he : FlatT P e c k ag) : FlatT P T N (k + 1) true where
  len := fun h => by cases h
  ia := hg.ag
  sz := hg.sz
  eq := fun d w a b ha hb => by
    subst hN
    show (Op.equalIn ((d + k) + 1) T (.agg _) (.agg _)).run P w = _
    rw [run_equalIn_array hT he.sz]
    have key : ∀ (m off : Nat),off + m = n → (Op.eqItems (d + k) e c (a.map (Value.int .i64)).toArray (b.map (Value.int .i64)).toArray (List.range' off m)).run P w = .ok (decide (a.drop (off * c) = b.drop (off * c))) w := by
      intro m
      induction m with
      | zero =>
        intro off h
        have h : off = n := by omega
        subst h
        rw [List.drop_of_length_le (Nat.le_of_eq ha),List.drop_of_length_le (Nat.le_of_eq hb)]
        simp [Op.eqItems]
      | succ m ih =>
        intro off h
        have hle : off * c + c ≤ n * c := by rw [← Nat.succ_mul]; exact Nat.mul_le_mul_right c (by omega)
        have p1 := he.part (l := a) (off := off * c) (by omega) w
        have p2 := he.part (l := b) (off := off * c) (by omega) w
        have p3 := he.eq d w ((a.drop (off * c)).take c) ((b.drop (off * c)).take c) (by simp; omega) (by simp; omega)
        simp only [List.range'_succ,Op.eqItems,Sem.run_bind,p1,p2,p3,Result.andThen_ok]
        have hd := drop_eq (a := a) (b := b) (off := off * c) (m := c) (by omega) (by omega)
        by_cases hc : (a.drop (off * c)).take c = (b.drop (off * c)).take c
        · simp only [hc,decide_true,Bool.not_true,Bool.false_eq_true,if_false]
          rw [ih (off + 1) (by omega),Nat.succ_mul]
          simp [hd,hc]
        · simp [hc,hd]
    have := key n 0 (by omega)
    rw [List.range_eq_range']
    simpa using this
  chk := fun d e' w a ha => by
    subst hN
    show (Instr.checkKey e' ((d + k) + 1) T (.agg _)).run P w = _
    rw [Instr.checkKey]
    simp only [Sem.run_bind,run_underlying hT,Result.andThen_ok]
    simp only [Std.Legacy.Range.forIn_eq_forIn_range',Std.Legacy.Range.size,Nat.sub_zero,Nat.add_one_sub_one,Nat.div_one]
    have key : ∀ (m off : Nat),off + m ≤ n → (forIn (m := Sem) (List.range' off m) PUnit.unit fun i _ => do
        Instr.checkKey e' (d + k) e (← Go.part e (a.map (Value.int .i64)).toArray (i * (← sizeOf e)))
        pure (ForInStep.yield PUnit.unit)).run P w = .ok PUnit.unit w := by
      intro m
      induction m with
      | zero => intro off h; simp
      | succ m ih =>
        intro off h
        have hle : off * c + c ≤ n * c := by rw [← Nat.succ_mul]; exact Nat.mul_le_mul_right c (by omega)
        have p1 := he.part (l := a) (off := off * c) (by omega) w
        have p3 := he.chk d e' w ((a.drop (off * c)).take c) (by simp; omega)
        simp only [List.range'_succ,List.forIn_cons,Sem.run_bind,he.sz,Result.andThen_ok,p1,p3,Sem.run_pure]
        exact ih (off + 1) (by omega)
    have hk := key n 0 (by omega)
    simp only [hk,Result.andThen_ok,Sem.run_pure]
def noneY (n1 : Nat) : YI n1 where
  J F _ _ := ∀ b,¬ F b
  st := fun _ h => h
  ft := fun h b hb => absurd hb (h b)
def RcH {n1 : Nat} (F : Nat → Prop) (I : IH) (w : World) (Y : YI n1) : Ending → World → Prop := fun e w' =>
  ∃ v F' I',e = .returned v ∧ Keep F w w' ∧ I.le I' ∧ I'.on w' ∧ (∀ c o,I' c = some o → I c = some o ∨ w.heap.size ≤ c) ∧ (∀ c,F c → F' c) ∧ (∀ c,F' c → F c ∨ w.heap.size ≤ c) ∧ Y.J F' I' w'
def CallH (P : Program) (f : FuncId) (args : Array Value) {n1 : Nat} (F : Nat → Prop) (I : IH) (w : World) (Y : YI n1) : Prop := CallsIn Fence.wide 0 P f args w (RcH F I w Y)
def SigH (P : Program) (f : FuncId) (svs : List SV) (X0 : List (Nat × Pred)) {n1 : Nat} (I0 : IH) (Y Y' : YI n1) : Prop :=
  ∀ (I : IH) (w : World) (F : Nat → Prop) (ν : Nat → Value),I0.le I → I.on w → n1 ≤ w.heap.size → FactsOK ν I X0 → Y.J F I w → CallH P f (svs.map (den0 ν)).toArray F I w Y'
theorem SigH.intro {P : Program} {f : FuncId} {fn : Func} {c : Code} {svs : List SV} {X0 : List (Nat × Pred)} {n1 : Nat} {I0 : IH} {Y Y' : YI n1} (hf : P.funcs[f]? = some fn) (hb : fn.body = some c) (n ky : Nat) (fr : List (Nat × SV)) (hfr : fr = frOf 0 svs)
    (hwf : ∀ x ∈ svs,x.res (keys X0)) (hn : (keys X0).all (Nat.blt · n) = true) (hky : Nat.blt ky n = true) (hN : Nat.ble svs.length fn.ntmps = true)
    (h : ∀ I w F,I0.le I → n1 ≤ w.heap.size → (∀ b,F b → b < w.heap.size ∧ I b = none) → WP ⟨P,none,w,fn.ntmps,F,I,0,fun _ => 0,fun _ => undef⟩ ⟨n,fr,X0,[(ky,.ext (Y.xp F))],[],[]⟩ c (Post P fn (RcH F I w Y'))) : SigH P f svs X0 I0 Y Y' := fun I w F ν hI0 hI hn1 hX hJ => by
  refine callsIn_of_wp_marks hf hb trivial ?_
  refine h I w F hI0 hn1 (Y.ft hJ) ⟨fun _ => 0,ν,fun _ => true⟩ I _ w ?_
  have hN' : svs.length ≤ fn.ntmps := by simpa using hN
  subst hfr
  refine ⟨?_,?_,fun k e he => ?_,fun _ h => (by cases h),fun _ _ h => (by cases h),fun _ _ h => (by cases h),?_,rfl,?_,hX.get,fun k e he => ?_,fun k e he b hb => ?_,fun k k' e e' b he he' hne => ?_,hI,Keep.refl w,IH.le.rfl',fun _ _ h => .inl h,fun _ h => absurd h (Nat.not_lt_zero _),fun k x he => ?_⟩
  · intro i x hx
    have := (look_frOf svs 0 i x hx).2
    exact SV.on_res (fun j hj => by simpa [Nat.blt_eq] using List.all_eq_true.1 hn j hj) (hwf x (List.mem_of_getElem? this))
  · intro j R hj
    simpa [Nat.blt_eq] using List.all_eq_true.1 hn j (look_keys hj)
  · obtain ⟨rfl,rfl⟩ := look_one he
    exact ⟨by simpa [Nat.blt_eq] using hky,trivial⟩
  · simp; omega
  · intro i x hx
    have := (look_frOf svs 0 i x hx).2
    simp only [Nat.sub_zero] at this
    have hi : i < svs.length := (List.getElem?_eq_some_iff.1 this).1
    rw [Array.getElem?_append_left (by simpa using hi)]
    simp [this,den0]
  · obtain ⟨rfl,rfl⟩ := look_one he; exact hJ
  · obtain ⟨rfl,rfl⟩ := look_one he
    obtain ⟨h1,h2⟩ := Y.ft hJ b hb
    exact ⟨.inr hb,h1,h2⟩
  · obtain ⟨rfl,_⟩ := look_one he
    obtain ⟨rfl,_⟩ := look_one he'
    exact absurd rfl hne
  · obtain ⟨_,h⟩ := look_one he
    cases h
    exact ⟨hn1,fun b hb => ⟨Nat.lt_of_lt_of_le hb hn1,fun h => h⟩⟩
theorem EX.finH {cx : Cx} {S : St} {fn : Func} {n1 : Nat} {Y : YI n1} {F : Nat → Prop} {e : Exit} (ky : Nat) (he : e = .ret ∨ e = .normal) (hr : fn.results = #[]) (hF : ∀ c,cx.E c → F c) (hL : look ky S.L = some (.ext (Y.xp F))) (hmk : ∀ k ∈ S.D,look k S.L = some (.ob (.deferred (some [])))) (hnd : S.D.Nodup) :
    EX cx S e (Post cx.P fn (RcH cx.E cx.I0 cx.w0 Y)) := by
  intro ε I a w hs
  have key : LeavesInM (fen none) 0 cx.P fn a.tmps (RcH cx.E cx.I0 cx.w0 Y) a.defers .returning w :=
    leavesM2 (rs := []) (els := []) (by rw [hr]) S.D S a w rfl hmk hnd hs .nil fun S' a' w' hs' hk' => by
      have hL' := hk' ky _ hL (fun o h => by cases h)
      refine ⟨_,F,I,rfl,hs'.keep,hs'.le0,hs'.imm,hs'.fr0,hF,fun c hc => ?_,hs'.L ky _ hL'⟩
      rcases (hs'.foot ky _ hL' c hc).1 with h | h
      · exact .inr h
      · exact .inl h
  rcases he with rfl | rfl <;> exact key
def GoQ (P : Program) {n1 : Nat} (I0 : IH) {ι : Type} (Yi Yo : ι → YI n1) (ok : ι → Prop) (svs : ι → List SV) (X0 : ι → List (Nat × Pred)) : Pred where
  h I v := (∃ fn fs cs,v = .func fn fs cs) ∧ ∀ i,ok i → ∀ (I' : IH) (w : World) (F : Nat → Prop) (ν : Nat → Value),I.le I' → I0.le I' → I'.on w → n1 ≤ w.heap.size → FactsOK ν I' (X0 i) → (Yi i).J F I' w → ∃ f args',FnV P v ((svs i).map (den0 ν)) f args' ∧ CallH P f args' F I' w (Yo i)
  mono hI h := ⟨h.1,fun i hi I' w F ν hle => h.2 i hi I' w F ν (hI.trans hle)⟩
theorem goQ {cx : Cx} {S : St} {j ky : Nat} {svs' : List SV} {n1 : Nat} {I0 : IH} {F : Nat → Prop} {ι : Type} {Yi Yo : ι → YI n1} {ok : ι → Prop} {svs : ι → List SV} {X0 : ι → List (Nat × Pred)} (ρ : Nat → Nat) (i : ι) (hj : Has S.X j (GoQ cx.P I0 Yi Yo ok svs X0)) (hi : ok i)
    (hI0 : I0.le cx.I0) (hn1 : n1 ≤ cx.w0.heap.size) (hk : look ky S.L = some (.ext ((Yi i).xp F))) (hren : SvsOK S svs' ((svs i).map (SV.ren ρ))) (hwf : ∀ x ∈ svs i,x.res (keys (X0 i))) (hX : RenOK S.X ρ (X0 i)) :
    ∀ ε I ac w,Sat cx ε I S ac w → ∃ f args',FnV cx.P ((SV.e (.a (.q j))).den ε) (svs'.map (SV.den ε)) f args' ∧ CallH cx.P f args' F I w (Yo i) := by
  intro ε I ac w hs
  obtain ⟨f,args',h1,h2⟩ := (hs.has hj).2 i hi I w F (fun j => ε.ν (ρ j)) IH.le.rfl' (hI0.trans hs.le0) hs.imm (Nat.le_trans hn1 hs.keep.size) (FactsOK.of (fun j R hj => hs.has hj) hX) (hs.L ky _ hk)
  exact ⟨f,args',by rw [hren.den hs,svs_ren hwf]; exact h1,h2⟩
theorem GoQ.of {P : Program} {n1 : Nat} {I0 : IH} {ι : Type} {Yi Yo : ι → YI n1} {ok : ι → Prop} {svs : ι → List SV} {cs : List SV} {X0 : ι → List (Nat × Pred)} {Xc : ι → List (Nat × Pred)} {f : FuncId} (hen : Enters' P f)
    (hs : ∀ i,ok i → SigH P f (svs i ++ cs) (X0 i ++ Xc i) I0 (Yi i) (Yo i)) (hd : ∀ i,disj (keys (Xc i)) (keys (X0 i)) = true) (hwf : ∀ i,∀ x ∈ svs i,x.res (keys (X0 i))) (hwc : ∀ i,∀ x ∈ cs,x.res (keys (Xc i)))
    {I : IH} {ν : Nat → Value} (hc : ∀ i,ok i → FactsOK ν I (Xc i)) : (GoQ P I0 Yi Yo ok svs X0).h I (.func (.func f) #[] (cs.map (den0 ν)).toArray) := by
  refine ⟨⟨_,_,_,rfl⟩,?_⟩
  intro i hi I' w F ν' hle hI0 hon hn1 hX hJ
  let ν2 : Nat → Value := fun k => if k ∈ keys (X0 i) then ν' k else ν k
  have e1 : ∀ k ∈ keys (X0 i),ν2 k = ν' k := fun k hk => by simp [ν2,hk]
  have e2 : ∀ k ∈ keys (Xc i),ν2 k = ν k := fun k hk => by
    have : k ∉ keys (X0 i) := notin_iff (List.all_eq_true.1 (hd i) k hk)
    simp [ν2,this]
  refine ⟨f,_,FnV.of hen,?_⟩
  have := hs i hi I' w F ν2 hI0 hon hn1 (FactsOK.app (FactsOK.congr e1 hX) (FactsOK.congr e2 (FactsOK.mono hle (hc i hi)))) hJ
  have ha : (#[] ++ ((svs i).map (den0 ν')).toArray ++ (cs.map (den0 ν)).toArray : Array Value) = ((svs i ++ cs).map (den0 ν2)).toArray := by
    rw [List.map_append,List.map_congr_left (fun x hx => (den0_congr e1 (hwf i x hx)).symm),List.map_congr_left (fun x hx => (den0_congr e2 (hwc i x hx)).symm)]
    simp
  rw [ha]; exact this
theorem GoQ.knot {P : Program} {n1 : Nat} {I0 : IH} {ι : Type} {Yi : ι → YI n1} {Yo : Nat → ι → YI n1} {ok : Nat → ι → Prop} {svs : ι → List SV} {cs : List SV} {X0 : ι → List (Nat × Pred)} {Xc : Nat → List (Nat × Pred)} {f : FuncId} (hen : Enters' P f)
    (h0 : ∀ i,¬ ok 0 i) (hs : ∀ m i,ok (m + 1) i → SigH P f (svs i ++ cs) (X0 i ++ Xc m) I0 (Yi i) (Yo (m + 1) i)) (hd : ∀ m i,disj (keys (Xc m)) (keys (X0 i)) = true) (hwf : ∀ i,∀ x ∈ svs i,x.res (keys (X0 i))) (hwc : ∀ m,∀ x ∈ cs,x.res (keys (Xc m)))
    {I' : IH} {ν : Nat → Value} {u : Value} (hu : u = .func (.func f) #[] (cs.map (den0 ν)).toArray) (hc : ∀ m,(GoQ P I0 Yi (Yo m) (ok m) svs X0).h I' u → FactsOK ν I' (Xc m)) : ∀ m,(GoQ P I0 Yi (Yo m) (ok m) svs X0).h I' u
  | 0 => by subst hu; exact ⟨⟨_,_,_,rfl⟩,fun i hi => absurd hi (h0 i)⟩
  | m + 1 => by
    have ih := GoQ.knot hen h0 hs hd hwf hwc hu hc m
    have h := hc m ih
    subst hu
    exact GoQ.of (Xc := fun _ => Xc m) hen (hs m) (hd m) hwf (fun _ => hwc m) (fun _ _ => h)
section
variable {cx : Cx} {Q : Exit → Act → World → Prop} {ops : Array Oper} {rest : List Oper}
variable {n : Nat} {fr : List (Nat × SV)} {X : List (Nat × Pred)} {L : List (Nat × Ent)} {D : List Nat} {G : List (Nat × Bool)} {d : Tmp} {ty : TypeId} {pos : String} {af : Array Edge} {gd : Option (Nat × Bool)}
theorem callH_core {x : Operand} {xs : List Operand} {ts : Array TypeId} {sv : SV} {svs : List SV} {n1 : Nat} {Y Y' : YI n1} {F : Nat → Prop} {o : Oper} {next : Act → World → Prop} (ky : Nat) (ho : o = ⟨some d,.call { callee := .value x,args := xs.toArray,argTypes := ts },ty,pos,af,gd⟩) (hd : Nat.blt d cx.N = true)
    (hx : St.op ⟨n,fr,X,L,D,G⟩ x = some sv) (hl : St.ops ⟨n,fr,X,L,D,G⟩ xs = some svs) (hk : look ky L = some (.ext (Y.xp F))) {ε : Env} {I : IH} {a : Act} {w : World} (hs : Sat cx ε I ⟨n,fr,X,L,D,G⟩ a w)
    (h : ∃ f args',FnV cx.P (sv.den ε) (svs.map (SV.den ε)) f args' ∧ CallH cx.P f args' F I w Y')
    (K : ∀ v F',(∀ c,F c → F' c) → ∀ ε' I' w',Sat cx ε' I' ⟨n,(d,.e (.a (.v v))) :: fr,X,(ky,.ext (Y'.xp F')) :: L,D,G⟩ (a.put (some d) v) w' → next (a.put (some d) v) w') : o.wpIn (fen cx.r) 0 cx.P a w next Q := by
  subst ho
  obtain ⟨f,args',h1,h2⟩ := h
  have hx' := hs.eval hx
  have hl' := hs.evals hl
  have hop : (execOp a.eval ⟨some d,.call { callee := .value x,args := xs.toArray,argTypes := ts },ty,pos,af,gd⟩).run cx.P w = .ok (.enter f args') w := by
    have := h1 w
    simpa [execOp,resolve,hx',hl'] using this
  refine ⟨fun _ _ => trivial,?_⟩
  rw [semAt_eq _ _ _ (fun _ => by simp),hop]
  refine ⟨fun h => (by cases h),CallsIn.mono (callsIn_fen h2) ?_⟩
  rintro e w' ⟨b,F',I',rfl,hkp,hle,hon,hfr,hF1,hF2,hJ⟩
  obtain ⟨hx1,hx2⟩ := hs.ext ky _ hk
  have hft := fun b hb => hs.foot ky _ hk b hb
  have hfp : ∀ c,F c → fpOf ⟨n,fr,X,L,D,G⟩ ε ⟨.e (.a (.v b)),[],[],[(ky,.ext (Y'.xp F'))],[]⟩ c := fun c hc => ⟨ky,_,by simp [look],hk,hc⟩
  have hF := Y'.ft hJ
  have := SatM.app (d := some d) (u := ⟨.e (.a (.v b)),[],[],[(ky,.ext (Y'.xp F'))],[]⟩) n hs (St.le.refl _) (fun k hk => by cases hk) (fun i hi => by cases hi; rw [Nat.blt_eq] at hd; exact hd)
    (ε' := ε) (I' := I') (w' := w') ⟨fun _ _ => ⟨rfl,rfl,rfl⟩,hle,hon,hkp.os,hkp.tape,hkp.output,hkp.size,fun c hc hn => hkp.block c hc (fun h => hn (hfp c h)),fun c o hc => by
      rcases hfr c o hc with h | h
      · exact .inl h
      · exact .inr (.inl h)⟩
    ⟨trivial,fun _ _ h => (by cases h),fun _ _ h => (by cases h),fun i e he => by obtain ⟨rfl,rfl⟩ := look_one he; exact ⟨.inl (hs.wfL i _ hk).1,trivial⟩,fun _ _ h => (by cases h),
      fun i e he => by obtain ⟨rfl,rfl⟩ := look_one he; exact hJ,
      fun i e he c hc => by
        obtain ⟨rfl,rfl⟩ := look_one he
        have hc : F' c := hc
        refine ⟨?_,(hF c hc).1,(hF c hc).2,?_⟩
        · rcases hF2 c hc with h | h
          · exact (hft c h).1
          · exact .inl (Nat.le_trans hs.keep.size h)
        · rcases hF2 c hc with h | h
          · exact .inr (hfp c h)
          · exact .inl h,
      fun i i' e e' c he he' hne => by
        obtain ⟨rfl,_⟩ := look_one he
        obtain ⟨rfl,_⟩ := look_one he'
        exact absurd rfl hne,
      fun i x hx => by
        obtain ⟨_,h⟩ := look_one hx
        cases h
        exact ⟨hx1,fun c hc => ⟨(hx2 c hc).1,fun hE => hF1 c ((hx2 c hc).2 hE)⟩⟩⟩
  refine K b F' hF1 ε I' w' (SatM.mono (fun k hk => ?_) this)
  rcases hk with hk | hk
  · exact hk
  · cases hk
theorem WPl.callH {x : Operand} {xs : List Operand} {ts : Array TypeId} {sv : SV} {svs : List SV} {n1 : Nat} {Y Y' : YI n1} {F : Nat → Prop} (ky : Nat) (hd : Nat.blt d cx.N = true) (hg : GOK ops fr gd true)
    (hx : St.op ⟨n,fr,X,L,D,G⟩ x = some sv) (hl : St.ops ⟨n,fr,X,L,D,G⟩ xs = some svs) (hk : look ky L = some (.ext (Y.xp F)))
    (h : ∀ ε I a w,Sat cx ε I ⟨n,fr,X,L,D,G⟩ a w → ∃ f args',FnV cx.P (sv.den ε) (svs.map (SV.den ε)) f args' ∧ CallH cx.P f args' F I w Y')
    (K : ∀ v F',(∀ c,F c → F' c) → WPl cx ops ⟨n,(d,.e (.a (.v v))) :: fr,X,(ky,.ext (Y'.xp F')) :: L,D,G⟩ rest Q) :
    WPl cx ops ⟨n,fr,X,L,D,G⟩ (⟨some d,.call { callee := .value x,args := xs.toArray,argTypes := ts },ty,pos,af,gd⟩ :: rest) Q := by
  intro ε I a w hs
  refine wpListIn_step fun K0 hK => ?_
  rw [if_pos (GOK.wanted hs hg)]
  exact callH_core ky rfl hd hx hl hk hs (h ε I a w hs) fun b F' hF ε' I' w' hs' => hK _ _ (K b F' hF ε' I' _ w' hs')
variable {fuel : Nat} {listed : Array Bool} {i : Nat}
theorem StepS.callH {x : Operand} {xs : List Operand} {ts : Array TypeId} {sv : SV} {svs : List SV} {n1 : Nat} {Y Y' : YI n1} {F : Nat → Prop} (ky : Nat) (hi : ops[i]? = some ⟨some d,.call { callee := .value x,args := xs.toArray,argTypes := ts },ty,pos,af,gd⟩) (hd : Nat.blt d cx.N = true) (hg : GOK ops fr gd true)
    (hx : St.op ⟨n,fr,X,L,D,G⟩ x = some sv) (hl : St.ops ⟨n,fr,X,L,D,G⟩ xs = some svs) (hk : look ky L = some (.ext (Y.xp F)))
    (h : ∀ ε I a w,Sat cx ε I ⟨n,fr,X,L,D,G⟩ a w → ∃ f args',FnV cx.P (sv.den ε) (svs.map (SV.den ε)) f args' ∧ CallH cx.P f args' F I w Y')
    (K : ∀ v F',(∀ c,F c → F' c) → AnyS cx ops Q fuel (listed.setIfInBounds i true) ⟨n,(d,.e (.a (.v v))) :: fr,X,(ky,.ext (Y'.xp F')) :: L,D,G⟩) :
    StepS cx ops Q fuel listed ⟨n,fr,X,L,D,G⟩ i := by
  intro ε I a w hs
  unfold wpOpIn
  simp only [hi]
  rw [if_pos (GOK.wanted hs hg)]
  exact callH_core ky rfl hd hx hl hk hs (h ε I a w hs) fun b F' hF ε' I' w' hs' => K b F' hF ε' I' _ w' hs'
theorem StepS.cs {op : Op} {sv : SV} {X' : List (Nat × Pred)} (m : Nat) (hi : ops[i]? = some ⟨some d,op,ty,pos,af,none⟩) (hd : Nat.blt d cx.N = true) (hk : (keys X').all (fun k => Nat.ble n k && Nat.blt k m) = true) (hm : Nat.ble n m = true)
    (h : OpG cx ⟨n,fr,X,L,D,G⟩ ⟨some d,op,ty,pos,af,none⟩ ⟨sv,keys X',X',[],[]⟩) (K : AnyS cx ops Q fuel (listed.setIfInBounds i true) ⟨m,(d,sv) :: fr,X' ++ X,L,D,G⟩) : StepS cx ops Q fuel listed ⟨n,fr,X,L,D,G⟩ i :=
  have hd' : d < cx.N := by rw [Nat.blt_eq] at hd; exact hd
  StepS.upd m hi (ROp.plain rfl h) (fun i hi => by cases hi; exact hd') (fun k hk' => by
    have := List.all_eq_true.1 hk k hk'
    rw [Bool.and_eq_true,Nat.ble_eq,Nat.blt_eq] at this; exact this) (by rw [Nat.ble_eq] at hm; exact hm) K
end
theorem EX.closeY {cx : Cx} {Q : Exit → Act → World → Prop} {n : Nat} {fr : List (Nat × SV)} {X : List (Nat × Pred)} {L : List (Nat × Ent)} {D : List Nat} {G : List (Nat × Bool)} {e : Exit} {n1 : Nat} {Y : YI n1} {σ : Type} {x y : σ → XP} {hx : ∀ s,(x s).fine n1 ∧ (y s).fine n1} {F1 : Nat → Prop} (ky kx kw : Nat) (s : σ) (hky : look ky L = some (.ext (Y.xp F1))) (hkx : look kx L = some (.ext (x s))) (hkw : look kw L = some (.ext (y s)))
    (hne : (Nat.beq ky kx || Nat.beq ky kw || Nat.beq kx kw) = false) (hE : ∀ b,cx.E b → F1 b ∨ n1 ≤ b) (hE0 : ∀ b,cx.E b → b < cx.w0.heap.size ∧ cx.I0 b = none)
    (h : ∀ F',(∀ b,cx.E b → F' b) → EX cx ⟨n,fr,X,[(ky,.ext ((Y.star x y hx).xp F'))],D,G⟩ e Q) : EX cx ⟨n,fr,X,L,D,G⟩ e Q :=
  EX.imp (Imp.closeY ky kx kw s hky hkx hkw hne hE hE0) (h _ fun _ hb => .inr (.inr (.inr hb)))
end Go.Eng
namespace Go.Flong
open Go Go.Eng
theorem mapSP.fine {ag : Bool} {n b : Nat} {l : MapL} {n1 : Nat} : (mapSP ag n b l).fine n1 := ⟨Nat.zero_le _,fun _ h => h⟩
abbrev plH {n1 : Nat} (B0 k b : Nat) (p : Plan) (l : MapL) : YI n1 := (noneY n1).star (plX B0 24 3 k p) (fun _ => mapSP true 12 b l) (fun _ => ⟨rowsXP.fine,mapSP.fine⟩)
def key12 (l : List Int) : List Int := [nth l 0,nth l 1,nth l 2,nth l 3,nth l 4,nth l 5,nth l 6,nth l 7,nth l 8,nth l 9,nth l 10,nth l 11]
def addK (l : MapL) (k : List Int) : MapL := mset l k ((mget l k).getD 0 + 1)
def vis1 (h : Hall) (l : MapL) (p : Plan) : MapL := if lateP h p = 0 then addK l (key12 (needL h p)) else l
def vis (h : Hall) (l : MapL) (T : List Plan) : MapL := T.foldl (vis1 h) l
theorem vis_app (h : Hall) (l : MapL) (S T : List Plan) : vis h l (S ++ T) = vis h (vis h l S) T := by unfold vis; rw [List.foldl_append]
def Bud (l : MapL) (n : Nat) : Prop := ∀ k,0 ≤ (mget l k).getD 0 ∧ (mget l k).getD 0 + n ≤ 100000000
theorem Bud.le {l : MapL} {n m : Nat} (h : Bud l n) (hm : m ≤ n) : Bud l m := fun k => by have := h k; omega
theorem Bud.one {h : Hall} {l : MapL} {n : Nat} {p : Plan} (hb : Bud l (n + 1)) : Bud (vis1 h l p) n := by
  unfold vis1
  split
  · intro k
    unfold addK
    rw [mget_mset]
    split
    · have := hb (key12 (needL h p))
      simp only [Option.getD_some]; omega
    · have := hb k; omega
  · exact hb.le (by omega)
theorem Bud.all {h : Hall} : ∀ {T : List Plan} {l : MapL} {n : Nat},Bud l (T.length + n) → Bud (vis h l T) n
  | [],l,n,hb => hb.le (by simp)
  | p :: T,l,n,hb => by
    have h1 : Bud (vis1 h l p) (T.length + n) := Bud.one (by rw [List.length_cons] at hb; exact hb.le (by omega))
    exact Bud.all (T := T) h1
theorem plansF_le {n B : Nat} {stop : Int} : ∀ (k m : Nat) (p : Plan),(plansF n B stop k m p).length ≤ (B + 1) ^ k
  | 0,_,_ => by simp [plansF]
  | k + 1,m,p => by
    rw [plansF]
    have h1 : 1 ≤ (B + 1) ^ (k + 1) := Nat.one_le_pow _ _ (by omega)
    split
    · simpa using h1
    · have h2 := plansF_le (n := n) (B := B) (stop := stop) k (m + 1) p
      have h3 : ∀ j,((List.range j).flatMap (subP n B stop k m p)).length ≤ j * (B + 1) ^ k := by
        intro j
        induction j with
        | zero => simp
        | succ j ih =>
          rw [List.range_succ,List.flatMap_append,List.length_append,Nat.succ_mul]
          have h4 : (subP n B stop k m p j).length ≤ (B + 1) ^ k := by
            unfold subP
            split
            · simp
            · exact plansF_le k m _
          simp only [List.flatMap_cons,List.flatMap_nil,List.append_nil]; omega
      have h4 := h3 B
      rw [Nat.pow_succ,Nat.mul_comm,Nat.succ_mul]
      split
      · simp; omega
      · rw [List.length_append]
        have : (List.flatMap (fun (b : Nat) => if (b : Int) ∈ p.flatten then [] else plansF n B stop k m (addB p m b)) (List.range B)).length ≤ B * (B + 1) ^ k := h4
        omega
theorem addB_perm {m b : Nat} : ∀ {p : Plan} {m : Nat},m < p.length → ((addB p m b).flatten).Perm ((b : Int) :: p.flatten)
  | r :: t,0,_ => by
    show ((r ++ [(b : Int)]) ++ t.flatten).Perm _
    rw [List.append_assoc]
    exact List.perm_middle
  | r :: t,m + 1,h => by
    have ih := addB_perm (m := m) (b := b) (p := t) (by simpa using h)
    show (r ++ (addB t m b).flatten).Perm ((b : Int) :: (r ++ t.flatten))
    exact (List.Perm.append_left r ih).trans List.perm_middle
theorem addB_nodup {p : Plan} {m b : Nat} (hm : m < p.length) (hn : p.flatten.Nodup) (hb : (b : Int) ∉ p.flatten) : (addB p m b).flatten.Nodup :=
  (addB_perm (m := m) hm).nodup_iff.2 (List.nodup_cons.2 ⟨hb,hn⟩)
theorem plansF_nodup {n B : Nat} {stop : Int} : ∀ {k m : Nat} {p q : Plan},p.length = n → m ≤ n → p.flatten.Nodup → q ∈ plansF n B stop k m p → q.flatten.Nodup
  | 0,_,_,_,_,_,_,h => by cases h
  | k + 1,m,p,q,hp,hm,hn,h => by
    rw [plansF] at h
    split at h
    · rw [List.mem_singleton] at h; subst h; exact hn
    · rename_i hmn
      rcases List.mem_append.1 h with h | h
      · exact plansF_nodup hp (by omega) hn h
      · split at h
        · cases h
        · obtain ⟨b,hb,hq⟩ := List.mem_flatMap.1 h
          split at hq
          · cases hq
          · rename_i hin
            exact plansF_nodup (by rw [addB_len]; exact hp) hm (addB_nodup (by omega) hn hin) hq
theorem sTo_take : ∀ {p : Plan} {i : Nat},i ≤ p.length → sTo p i = (p.take i).flatten
  | p,0,_ => by simp [sTo]
  | p,i + 1,h => by
    have hi : i < p.length := by omega
    rw [sTo,sTo_take (by omega),List.take_succ_eq_append_getElem hi,List.flatten_append,nthG hi]; simp
theorem planI_is {h : Hall} {p : Plan} (hp : PlanI h.machs.length h.buns.length p) (hn : p.flatten.Nodup) : isPlanR h p = true := by
  have hb := hp.plB
  unfold isPlanR
  rw [decide_eq_true (by rw [hp.len]),Bool.true_and]
  refine allI_iff.2 fun i hi => allI_iff.2 fun j hj => ?_
  have h1 := hb.b i hi j hj
  unfold okAt within
  rw [decide_eq_true h1.1,decide_eq_true (by omega),Bool.true_and,Bool.true_and,Bool.not_eq_true']
  cases hc : inL (sTo p i ++ (nth p (i : Int)).take j) (nth (nth p (i : Int)) (j : Int)) with
  | false => rfl
  | true =>
    exfalso
    have hin := inL_iff.1 hc
    have e1 : p.flatten = sTo p i ++ (nth p (i : Int) ++ (p.drop (i + 1)).flatten) := by
      rw [sTo_take (by omega),nthG hi,← List.flatten_cons,← List.flatten_append]
      congr 1
      rw [List.getElem_cons_drop,List.take_append_drop]
    have e2 : nth p (i : Int) = (nth p (i : Int)).take j ++ (nth (nth p (i : Int)) (j : Int) :: (nth p (i : Int)).drop (j + 1)) := by
      rw [nthG hj,List.getElem_cons_drop,List.take_append_drop]
    rw [e1,e2,List.append_assoc,← List.append_assoc] at hn
    rw [List.nodup_append] at hn
    refine hn.2.2 _ ?_ _ (List.mem_append_left _ List.mem_cons_self) rfl
    exact hin
theorem planI_rows {n B : Nat} {p : Plan} (hp : PlanI n B p) (hn : n ≤ 40) : RowsP p := by
  refine ⟨by rw [hp.len]; exact hn,fun i hi => ?_⟩
  have := hp.row (m := i) (by rw [← hp.len]; exact hi)
  have hg : nth p (i : Int) = p.getD i [] := by rw [nthG hi,List.getD_eq_getElem?_getD,List.getElem?_eq_getElem hi]; rfl
  rw [hg]; omega
structure okN (n B : Nat) (stop : Int) (k : Nat) (i : Nat × Plan × Nat × MapL) : Prop where
  m1 : i.1 ≤ n
  p1 : PlanI n B i.2.1
  k1 : (n - i.1) + freeB B i.2.1.flatten < k
  u1 : MaskIs i.2.2.1 i.2.1.flatten
  d1 : i.2.1.flatten.Nodup
  b1 : Bud i.2.2.2 (plansF n B stop k i.1 i.2.1).length
theorem okN.next {n B k m u : Nat} {stop : Int} {l : MapL} {p : Plan} (h : okN n B stop (k + 1) (m,p,u,l)) (hm : m ≠ n) : okN n B stop k (m + 1,p,u,l) := by
  obtain ⟨h1,h2,h3,h4,h5,h6⟩ := h
  have h1 : m ≤ n := h1
  have h3 : (n - m) + freeB B p.flatten < k + 1 := h3
  have h6 : Bud l (plansF n B stop (k + 1) m p).length := h6
  refine ⟨by show m + 1 ≤ n; omega,h2,by show (n - (m + 1)) + freeB B p.flatten < k; omega,h4,h5,h6.le ?_⟩
  rw [plansF,if_neg hm,List.length_append]; exact Nat.le_add_right _ _
def aheadP (n B : Nat) (stop : Int) (k m : Nat) (p : Plan) (j : Nat) : List Plan := plansF n B stop k (m + 1) p ++ (List.range j).flatMap (subP n B stop k m p)
theorem ahead_in {n B k m j : Nat} {stop : Int} {p : Plan} (h : (j : Int) ∈ p.flatten) : aheadP n B stop k m p (j + 1) = aheadP n B stop k m p j := by
  unfold aheadP; rw [List.range_succ,List.flatMap_append]; simp [subP,h]
theorem ahead_out {n B k m j : Nat} {stop : Int} {p : Plan} (h : (j : Int) ∉ p.flatten) : aheadP n B stop k m p (j + 1) = aheadP n B stop k m p j ++ plansF n B stop k m (addB p m j) := by
  unfold aheadP; rw [List.range_succ,List.flatMap_append,List.append_assoc]; simp [subP,h]
theorem ahead_all {n B k m : Nat} {stop : Int} {p : Plan} (hm : m ≠ n) (hs : (m : Int) ≠ stop) : plansF n B stop (k + 1) m p = aheadP n B stop k m p B := by
  rw [plansF,if_neg hm,if_neg hs]; rfl
theorem okN.sub {h : Hall} {n B k m u j : Nat} {stop : Int} {l : MapL} {p : Plan} (hk : okN n B stop (k + 1) (m,p,u,l)) (hm : m ≠ n) (hs : (m : Int) ≠ stop) (hj : j < B) (hl : (j : Int) ∉ p.flatten) : okN n B stop k (m,addB p m j,u ||| 2 ^ j,vis h l (aheadP n B stop k m p j)) := by
  obtain ⟨h1,h2,h3,h4,h5,h6⟩ := hk
  have h1 : m ≤ n := h1
  have h2 : PlanI n B p := h2
  have h3 : (n - m) + freeB B p.flatten < k + 1 := h3
  have h6 : Bud l (plansF n B stop (k + 1) m p).length := h6
  have hm' : m < p.length := by rw [h2.len]; omega
  have h7 := freeB_add (fun x => mem_addB hm') hl hj
  have hB := h2.b5
  refine ⟨h1,h2.add (by omega) hj hl,by show (n - m) + freeB B (addB p m j).flatten < k; omega,h4.add (by omega) fun x => mem_addB hm',addB_nodup hm' h5 hl,Bud.all (h6.le ?_)⟩
  rw [ahead_all hm hs]
  have e : aheadP n B stop k m p B = aheadP n B stop k m p (j + 1) ++ (List.range' (j + 1) (B - j - 1)).flatMap (subP n B stop k m p) := by
    unfold aheadP
    rw [range_split hj,List.range_succ,List.flatMap_append,List.flatMap_append,List.flatMap_cons]; simp [List.append_assoc]
  rw [e,ahead_out hl,List.length_append,List.length_append]; exact Nat.le_add_right _ _
theorem okN_root {h : Hall} (hh : HouC h) (stop : Int) : okN h.machs.length h.buns.length stop (h.machs.length + h.buns.length + 1) (0,List.replicate h.machs.length [],0,[]) := by
  have h0 := okP_root (h := h) hh.b stop
  refine ⟨Nat.zero_le _,planI_root hh.b,h0.k1,h0.u1,by simp,fun k => ?_⟩
  have h1 := plansF_le (n := h.machs.length) (B := h.buns.length) (stop := stop) (h.machs.length + h.buns.length + 1) 0 (List.replicate h.machs.length [])
  have h2 : (h.buns.length + 1) ^ (h.machs.length + h.buns.length + 1) ≤ 6 ^ 9 := Nat.le_trans (Nat.pow_le_pow_left (by have := hh.b; omega) _) (Nat.pow_le_pow_right (by omega) (by have := hh.b; have := hh.m; omega))
  have h3 : (6 : Nat) ^ 9 = 10077696 := by decide
  show 0 ≤ (mget [] k).getD 0 ∧ (mget [] k).getD 0 + ((plansF h.machs.length h.buns.length stop (h.machs.length + h.buns.length + 1) 0 (List.replicate h.machs.length [])).length : Int) ≤ 100000000
  have h4 : (mget [] k).getD 0 = 0 := rfl
  rw [h4]; omega
abbrev PlanH (P : Program) {n1 : Nat} (I0 : IH) (B0 b : Nat) (h : Hall) (stop : Int) (k : Nat) : Pred :=
  GoQ P (n1 := n1) I0 (fun i : Nat × Plan × Nat × MapL => plH (n1 := n1) B0 h.machs.length b i.2.1 i.2.2.2) (fun i => plH (n1 := n1) B0 h.machs.length b i.2.1 (vis h i.2.2.2 (plansF h.machs.length h.buns.length stop k i.1 i.2.1)))
    (okN h.machs.length h.buns.length stop k) (fun i => [.i (i.1 : Int),.i (i.2.2.1 : Int)]) (fun _ => [])
end Go.Flong
namespace Go.Eng
open Go
def itXP (r b N : Nat) (s : List Nat) : XP := ⟨0,fun _ => False,fun c => c = r,fun _ w => w.heap[r]? = some (.mapIter (some b) N s.toArray N),fun h hJ => by
  rw [h.block r (Array.getElem?_eq_some_iff.1 hJ).1 (.inr rfl)]; exact hJ⟩
def keyAt (l : MapL) (m : Nat) : List Int := (l.getD m ([],0)).1
def valAt (l : MapL) (m : Nat) : Int := (l.getD m ([],0)).2
theorem mapHas_size {ag : Bool} {n : Nat} {es : Array MapEntry} {l : MapL} (h : MapHas ag n es.toList l) : es.size = l.length := by
  have := congrArg List.length h.1
  simpa using this
theorem mapHas_at {ag : Bool} {n m : Nat} {es : Array MapEntry} {l : MapL} (h : MapHas ag n es.toList l) (hm : m < l.length) : ∃ e,es[m]? = some e ∧ e.key = vl ag (keyAt l m) ∧ e.val = .int .i64 (valAt l m) ∧ (keyAt l m).length = n := by
  have hs := mapHas_size h
  have hme : m < es.size := by omega
  have h1 := congrArg (fun z => z[m]?) h.1
  simp only [List.getElem?_map,List.getElem?_eq_getElem hm,Array.getElem?_toList,Array.getElem?_eq_getElem hme,Option.map_some,Option.some.injEq,Prod.mk.injEq] at h1
  have hk : l.getD m ([],0) = l[m] := by simp [List.getD_eq_getElem?_getD,hm]
  exact ⟨es[m],Array.getElem?_eq_getElem hme,by unfold keyAt; rw [hk]; exact h1.1,by unfold valAt; rw [hk]; exact h1.2,by unfold keyAt; rw [hk]; exact h.2 _ (List.getElem_mem hm)⟩
theorem arrA_den {ε : Env} {n : Nat} {l : List Int} (h : l.length = n) : ((arrA n l).map (At.den ε)) = l.map (Value.int .i64) := by
  subst h
  apply List.ext_getElem?
  intro j
  by_cases hj : j < l.length
  · have : nth l (j : Int) = l[j] := by simp [nth,List.getD_eq_getElem?_getD,List.getElem?_eq_getElem hj]
    simp [arrA,hj,At.den,this]
  · simp [arrA,hj]
section
variable {cx : Cx} {Q : Exit → Act → World → Prop} {ops : Array Oper} {rest : List Oper}
variable {n : Nat} {fr : List (Nat × SV)} {X : List (Nat × Pred)} {L : List (Nat × Ent)} {D : List Nat} {G : List (Nat × Bool)} {d : Tmp} {ty : TypeId} {pos : String} {af : Array Edge}
theorem WPl.rangeM {x : Operand} {T kt et : TypeId} {ag : Bool} {nk b km : Nat} {l : MapL} (k m : Nat) (hk : Nat.ble n k = true) (hm : Nat.blt k m = true) (hd : Nat.blt d cx.N = true) (hT : cx.P.underlying T = some (.map kt et)) (hx : St.op ⟨n,fr,X,L,D,G⟩ x = some (.e (.a (.v (.map (some b)))))) (hL : look km L = some (.ext (mapSP ag nk b l)))
    (K : ∀ r,WPl cx ops ⟨m,(d,.e (.a (.v (.pointer (some ⟨r,0,none⟩))))) :: fr,X,(k,.ext (itXP r b l.length [])) :: L,D,G⟩ rest Q) :
    WPl cx ops ⟨n,fr,X,L,D,G⟩ (⟨some d,.range T x,ty,pos,af,none⟩ :: rest) Q := by
  have hk' : n ≤ k := by simpa using hk
  rw [Nat.blt_eq] at hm hd
  intro ε I a w hs
  have h := SatM.eval hs hx
  simp only [SV.den,El.den,At.den] at h
  obtain ⟨es,h1,h2,h3⟩ := hs.L km _ hL
  have hsz := mapHas_size h2
  refine wpListIn_step fun K' hK => ?_
  simp only [Region.wanted,if_true]
  refine ⟨fun _ _ => trivial,?_⟩
  have hrun : (execOp a.eval ⟨some d,.range T x,ty,pos,af,none⟩).run cx.P w = .ok (.value (.pointer (some ⟨w.heap.size,0,none⟩))) (w.alloc (.mapIter (some b) l.length #[] l.length)) := by
    simp [execOp,h,Instr.range,run_underlying hT,getObj,Sem.run,h1,newObj,hsz]
  rw [semAt_eq _ _ _ (fun _ => by simp),hrun]
  refine hK _ _ (K w.heap.size ⟨Eng.upd ε.β k w.heap.size,Eng.upd ε.ν k undef,ε.γ⟩ I _ _ ?_)
  have := SatM.app (d := some d) (u := ⟨.e (.a (.v (.pointer (some ⟨w.heap.size,0,none⟩)))),[k],[],[(k,.ext (itXP w.heap.size b l.length []))],[]⟩) m hs (St.le.refl _) (fun i hi hlt => by
      have hi : i ∈ [k] := hi
      rw [List.mem_singleton] at hi; subst hi
      have : i < n := hlt
      omega) (fun i hi => by cases hi; exact hd) (Tr.alloc hs.imm k (.mapIter (some b) l.length #[] l.length) undef)
    ⟨trivial,fun _ _ h => (by cases h),fun _ _ h => (by cases h),fun i e he => by obtain ⟨rfl,rfl⟩ := look_one he; exact ⟨.inr (by simp),trivial⟩,fun _ _ h => (by cases h),
      fun i e he => by obtain ⟨rfl,rfl⟩ := look_one he; exact heap_alloc_new w _,
      fun i e he c hc => by
        obtain ⟨rfl,rfl⟩ := look_one he
        have hc : c = w.heap.size := hc
        subst hc
        exact ⟨.inl hs.keep.size,by simp,IH.none_ge hs.imm (Nat.le_refl _),.inl (Nat.le_refl _)⟩,
      fun i i' e e' c he he' hne => by
        obtain ⟨rfl,_⟩ := look_one he
        obtain ⟨rfl,_⟩ := look_one he'
        exact absurd rfl hne,fun i x he => by
        obtain ⟨_,h⟩ := look_one he
        cases h
        exact ⟨Nat.zero_le _,fun _ h => h.elim⟩⟩
  refine SatM.mono (fun i hi => ?_) this
  rcases hi with hi | hi
  · have hi : i < n := hi
    show i < m
    omega
  · have hi : i ∈ [k] := hi
    rw [List.mem_singleton] at hi
    show i < m
    omega
theorem WPl.nextM {x : Operand} {ag : Bool} {nk r b km ki : Nat} {l : MapL} {s : List Nat} (hd : Nat.blt d cx.N = true) (hx : St.op ⟨n,fr,X,L,D,G⟩ x = some (.e (.a (.v (.pointer (some ⟨r,0,none⟩)))))) (hL : look km L = some (.ext (mapSP ag nk b l))) (hi : look ki L = some (.ext (itXP r b l.length s)))
    (K1 : (∀ m,m < l.length → m ∈ s) → WPl cx ops ⟨n,(d,.t [.a (.v (.bool false))]) :: fr,X,L,D,G⟩ rest Q)
    (K2 : ∀ m,m < l.length → m ∉ s → ∀ kv vv,WPl cx ops ⟨n,(d,.t [.a (.v (.bool true)),.a (.v kv),.a (.v vv)]) :: fr,X,(ki,.ext (itXP r b l.length (s ++ [m]))) :: L,D,G⟩ rest Q) :
    WPl cx ops ⟨n,fr,X,L,D,G⟩ (⟨some d,.next x false,ty,pos,af,none⟩ :: rest) Q := by
  rw [Nat.blt_eq] at hd
  intro ε I a w hs
  have h := SatM.eval hs hx
  simp only [SV.den,El.den,At.den] at h
  obtain ⟨es,h1,h2,h3⟩ := hs.L km _ hL
  have hsz := mapHas_size h2
  have hit : w.heap[r]? = some (.mapIter (some b) l.length s.toArray l.length) := hs.L ki _ hi
  refine wpListIn_step fun K' hK => ?_
  simp only [Region.wanted,if_true]
  refine ⟨fun _ _ => trivial,?_⟩
  have hborn : ∀ x ∈ es.toList,x.born < l.length := fun x hx => by
    obtain ⟨i,hi,rfl⟩ := List.mem_iff_getElem.1 hx
    rw [h3 i _ (List.getElem?_eq_getElem hi)]
    simp at hi; omega
  rcases run_next_at (P := cx.P) w ty r b l.length l.length s.toArray es es.size hit h1 hborn (Nat.le_refl _) with ⟨h4,h5⟩ | ⟨e,he,w1,hw1,h5⟩
  · have hall : ∀ m,m < l.length → m ∈ s := fun m hm => by
      obtain ⟨e,he,_⟩ := mapHas_at h2 hm
      have hmem : e ∈ es.toList := by rw [← Array.getElem?_toList] at he; exact List.mem_of_getElem? he
      have := all_seen es s.toArray h4 e hmem
      rw [h3 m e (by rw [Array.getElem?_toList]; exact he)] at this
      simpa using this
    have hrun : (execOp a.eval ⟨some d,.next x false,ty,pos,af,none⟩).run cx.P w = .ok (.value (.tuple #[.bool false])) w := by
      simp [execOp,h,h5]
    rw [semAt_eq _ _ _ (fun _ => by simp),hrun]
    refine hK _ _ (K1 hall ε I _ _ ?_)
    have := SatM.app (d := some d) (u := .val (.t [.a (.v (.bool false))])) n hs (St.le.refl _) (fun i hi => by cases hi) (fun i hi => by cases hi; exact hd) (ε' := ε) (I' := I) (w' := w)
      ⟨fun _ _ => ⟨rfl,rfl,rfl⟩,IH.le.rfl',hs.imm,rfl,rfl,Out.rf,Nat.le_refl _,fun _ _ _ => rfl,fun _ _ h => .inl h⟩
      ⟨fun x hx => by rw [List.mem_singleton] at hx; subst hx; trivial,fun _ _ h => (by cases h),fun _ _ h => (by cases h),fun _ _ h => (by cases h),fun _ _ h => (by cases h),fun _ _ h => (by cases h),fun _ _ h => (by cases h),fun _ _ _ _ _ h => (by cases h),fun _ _ h => (by cases h)⟩
    refine SatM.mono (fun i hi => ?_) this
    rcases hi with hi | hi
    · exact hi
    · cases hi
  · have hl : e ∈ es.toList ∧ e.born ∉ s := by
      unfold leftOf at he
      have := Array.mem_toList_iff.1 he
      rw [Array.mem_filter] at this
      exact ⟨Array.mem_toList_iff.2 this.1,by simpa using this.2⟩
    have hlt := hborn e hl.1
    have hrun : (execOp a.eval ⟨some d,.next x false,ty,pos,af,none⟩).run cx.P w = .ok (.value (.tuple #[.bool true,e.key,e.val])) (ChangeMaps.setBlock w1 r (.mapIter (some b) l.length (s ++ [e.born]).toArray l.length)) := by
      have e1 : s.toArray.push e.born = (s ++ [e.born]).toArray := by simp
      simp [execOp,h,h5,hsz]
    rw [semAt_eq _ _ _ (fun _ => by simp),hrun]
    refine hK _ _ (K2 e.born hlt hl.2 e.key e.val ε I _ _ ?_)
    have hrl : r < w.heap.size := (Array.getElem?_eq_some_iff.1 hit).1
    have hh : w1.heap = w.heap := by rcases hw1 with rfl | rfl <;> rfl
    have hheap : ∀ c,c ≠ r → (ChangeMaps.setBlock w1 r (.mapIter (some b) l.length (s ++ [e.born]).toArray l.length)).heap[c]? = w.heap[c]? := fun c hc => by
      simp [ChangeMaps.setBlock,hh,Array.getElem?_setIfInBounds_ne (Ne.symm hc)]
    have hnew : (ChangeMaps.setBlock w1 r (.mapIter (some b) l.length (s ++ [e.born]).toArray l.length)).heap[r]? = some (.mapIter (some b) l.length (s ++ [e.born]).toArray l.length) := by
      simp [ChangeMaps.setBlock,hh,hrl]
    have hsize : (ChangeMaps.setBlock w1 r (.mapIter (some b) l.length (s ++ [e.born]).toArray l.length)).heap.size = w.heap.size := by
      simp [ChangeMaps.setBlock,hh]
    have hft := hs.foot ki _ hi r rfl
    have hfp : fpOf ⟨n,fr,X,L,D,G⟩ ε ⟨.t [.a (.v (.bool true)),.a (.v e.key),.a (.v e.val)],[],[],[(ki,.ext (itXP r b l.length (s ++ [e.born])))],[]⟩ r := ⟨ki,_,by simp [look],hi,rfl⟩
    have := SatM.app (d := some d) (u := ⟨.t [.a (.v (.bool true)),.a (.v e.key),.a (.v e.val)],[],[],[(ki,.ext (itXP r b l.length (s ++ [e.born])))],[]⟩) n hs (St.le.refl _) (fun i hi => by cases hi) (fun i hi => by cases hi; exact hd) (ε' := ε) (I' := I) (w' := ChangeMaps.setBlock w1 r (.mapIter (some b) l.length (s ++ [e.born]).toArray l.length))
      ⟨fun _ _ => ⟨rfl,rfl,rfl⟩,IH.le.rfl',fun c o hc => by
          rw [hheap c (fun e => by rw [e,hft.2.2] at hc; cases hc)]; exact hs.imm c o hc,by rcases hw1 with rfl | rfl <;> rfl,by rcases hw1 with rfl | rfl <;> rfl,by
          rcases hw1 with rfl | rfl
          · exact Out.rf
          · exact ⟨rfl,Nat.le_succ _⟩,by omega,fun c _ hc => hheap c (fun e => hc (e ▸ hfp)),fun _ _ h => .inl h⟩
      ⟨fun x hx => by
          simp only [List.mem_cons,List.not_mem_nil,or_false] at hx
          rcases hx with rfl | rfl | rfl <;> trivial,fun _ _ h => (by cases h),fun _ _ h => (by cases h),fun i e' he' => by obtain ⟨rfl,rfl⟩ := look_one he'; exact ⟨.inl (hs.wfL i _ hi).1,trivial⟩,fun _ _ h => (by cases h),
        fun i e' he' => by obtain ⟨rfl,rfl⟩ := look_one he'; exact hnew,
        fun i e' he' c hc => by
          obtain ⟨rfl,rfl⟩ := look_one he'
          have hc : c = r := hc
          subst hc
          exact ⟨hft.1,by rw [hsize]; exact hft.2.1,hft.2.2,.inr hfp⟩,
        fun i i' e e' c he he' hne => by
          obtain ⟨rfl,_⟩ := look_one he
          obtain ⟨rfl,_⟩ := look_one he'
          exact absurd rfl hne,fun i x he => by
          obtain ⟨_,h⟩ := look_one he
          cases h
          exact ⟨Nat.zero_le _,fun _ h => h.elim⟩⟩
    refine SatM.mono (fun i hi => ?_) this
    rcases hi with hi | hi
    · exact hi
    · cases hi
end
section ops
variable {cx : Cx} {S : St} {dst : Option Tmp} {ty : TypeId} {pos : String} {af : Array Edge} {gd : Option (Nat × Bool)}
theorem o_entryM {x : Operand} {nk r b km ki m : Nat} {l : MapL} {s : List Nat} {cs : List At} (hcs : arrA nk (keyAt l m) = cs) (hx : S.op x = some (.e (.a (.v (.pointer (some ⟨r,0,none⟩)))))) (hL : look km S.L = some (.ext (mapSP true nk b l))) (hi : look ki S.L = some (.ext (itXP r b l.length (s ++ [m])))) (hm : m < l.length) :
    OpG cx S ⟨dst,.entry x,ty,pos,af,gd⟩ (.val (.t [.g cs,.a (ai (valAt l m))])) := by
  subst hcs
  exact OpG.pure (fun _ => by simp) fun M ε I a w hs => ⟨fun z hz => by
      simp only [List.mem_cons,List.not_mem_nil,or_false] at hz
      rcases hz with rfl | rfl
      · intro c hc
        obtain ⟨j,_,rfl⟩ := List.mem_map.1 hc
        trivial
      · trivial,by
    have h := hs.eval hx
    simp only [SV.den,El.den,At.den] at h
    obtain ⟨es,h1,h2,h3⟩ := hs.L km _ hL
    have hsz := mapHas_size h2
    have hit : w.heap[r]? = some (.mapIter (some b) l.length (s ++ [m]).toArray l.length) := hs.L ki _ hi
    obtain ⟨e,he,hk,hv,hlen⟩ := mapHas_at h2 hm
    have hbe : e.born = m := h3 m e (by rw [Array.getElem?_toList]; exact he)
    have hmem : e ∈ es.toList := by rw [← Array.getElem?_toList] at he; exact List.mem_of_getElem? he
    have hnd : (es.toList.map (·.born)).Nodup := by
      show List.Pairwise (· ≠ ·) _
      rw [List.pairwise_iff_getElem]
      intro i j hi hj hij
      simp only [List.length_map] at hi hj
      simp only [List.getElem_map]
      rw [h3 i _ (List.getElem?_eq_getElem hi),h3 j _ (List.getElem?_eq_getElem hj)]
      exact Nat.ne_of_lt hij
    have hit' : w.heap[r]? = some (.mapIter (some b) l.length (s.toArray.push e.born) es.size) := by rw [hit,hbe,hsz]; simp
    have hrun := run_entry_at (P := cx.P) w r b l.length s.toArray es es.size e hit' h1 hmem hnd
    have hden : (SV.t [.g (arrA nk (keyAt l m)),.a (ai (valAt l m))]).den ε = .tuple #[e.key,e.val] := by
      rw [hk,hv]
      simp only [SV.den,List.map_cons,List.map_nil,El.den,arrA_den hlen]
      rfl
    rw [hden]
    simp [execOp,h,hrun]⟩
end ops
end Go.Eng
namespace Go.Eng
open Go
def partL (l : List Int) (off c : Nat) : List Int := (List.range c).map fun (j : Nat) => nth l ((off + j : Nat) : Int)
section ops
variable {cx : Cx} {S : St} {dst : Option Tmp} {ty : TypeId} {pos : String} {af : Array Edge} {gd : Option (Nat × Bool)}
theorem o_slArr {x : Operand} {T e : TypeId} {j k N c : Nat} {y : List Int} {i : Int} (hT : cx.P.underlying T = some (.array c e)) (hS : TyS cx.P e) (hx : S.op x = some (.e (.a (.e j (i.toNat * c))))) (hj : Has S.X j (PP (EArr N) y)) (h0 : 0 ≤ i) (h1 : i.toNat * c + c ≤ N) (hc : 0 < c) :
    OpG cx S ⟨dst,.slice T x none none none,ty,pos,af,gd⟩ ⟨.e (.a (.q k)),[k],[(k,PL EP.int (partL y (i.toNat * c) c))],[],[]⟩ :=
  OpG.newq (fun _ => by simp) fun M ε I a w hs => by
    have h := hs.eval hx
    obtain ⟨ad,cs,h2,h3,h4,h5⟩ := hs.has hj
    simp only [SV.den,El.den,At.den,h2,padd] at h
    have hcs : cs = (List.range N).map fun (j : Nat) => .int .i64 (nth y (j : Int)) := h4
    refine ⟨.slice (some (ad.add (i.toNat * c))) c c,?_,?_⟩
    · refine ⟨some (ad.add (i.toNat * c)),c,by simp [partL],by simp [partL],fun q hq => ?_⟩
      have hq' : q < c := by simpa [partL] using hq
      have hin : i.toNat * c + q < N := by omega
      refine ⟨[.int .i64 (nth y ((i.toNat * c + q : Nat) : Int))],ad.add (i.toNat * c),?_,rfl,?_,fun z u hz => ?_⟩
      · show _ = [Value.int .i64 (partL y (i.toNat * c) c)[q]]
        simp [partL]
      · unfold Addr.add; split
        · exact h3
        · rfl
      · cases z with
        | zero =>
          simp only [List.getElem?_cons_zero,Option.some.injEq] at hz
          subst hz
          have := h5 (i.toNat * c + q) (.int .i64 (nth y ((i.toNat * c + q : Nat) : Int))) (by rw [hcs]; simp [hin])
          rw [show EP.int.size = 1 from rfl,Nat.mul_one,Nat.add_zero,Addr.add_add]
          · exact this
          · exact h3
        | succ z => simp at hz
    · have hne : ¬ (c = 0) := by omega
      simp [execOp,h,Instr.sliceAt,run_underlying hT,Instr.sliceBounds,hS.sz,Instr.sureAddr,hne,Addr.add_zero']
theorem o_bldz {T e : TypeId} {c sz : Nat} {cs : List At} (hT : cx.P.underlying T = some (.array c e)) (hS : ∀ w,(sizeOf e).run cx.P w = .ok sz w) (hz : Zero cx.P T cs) :
    OpG cx S ⟨dst,.build T ([] : List (Nat × Operand)).toArray,ty,pos,af,gd⟩ (.val (.e (.g cs))) := by
  obtain ⟨z,hz1,hz2,hz3⟩ := hz
  refine OpG.pure (fun _ => by simp) fun M ε I a w hs => ⟨fun x hx => ?_,?_⟩
  · exact hz3 M x hx
  · have := hz2 ε
    simp [execOp,Instr.build,hz1,run_underlying hT,hS,Instr.fill,this,SV.den,El.den]
end ops
section
variable {cx : Cx} {Q : Exit → Act → World → Prop} {ops : Array Oper} {rest : List Oper}
variable {n : Nat} {fr : List (Nat × SV)} {X : List (Nat × Pred)} {L : List (Nat × Ent)} {D : List Nat} {G : List (Nat × Bool)}
theorem Sat.exq {ε : Env} {I : IH} {a : Act} {w : World} {α : Type} {R : Pred} {R' : α → Pred} (k : Nat) (hk : look k X = some R) (he : ∀ I v,R.h I v → ∃ a,(R' a).h I v) (hs : Sat cx ε I ⟨n,fr,X,L,D,G⟩ a w) : ∃ q,Sat cx ε I ⟨n,fr,(k,R' q) :: X,L,D,G⟩ a w := by
  obtain ⟨q,hq⟩ := he I _ (hs.X k R hk)
  refine ⟨q,{ hs with wfX := fun j R1 hj => ?_,X := fun j R1 hj => ?_ }⟩
  · rw [look_cons] at hj
    by_cases e : k = j
    · subst e; exact hs.wfX k R hk
    · simp [e] at hj; exact hs.wfX j R1 hj
  · rw [look_cons] at hj
    by_cases e : k = j
    · subst e; simp at hj; subst hj; exact hq
    · simp [e] at hj; exact hs.X j R1 hj
theorem Imp.addN (k : Nat) (hE0 : cx.E = Emp) (hk : Nat.ble n k = true) : Imp cx ⟨n,fr,X,L,D,G⟩ ⟨k + 1,fr,X,(k,.ext ((noneY cx.w0.heap.size).xp Emp)) :: L,D,G⟩ := by
  rw [Nat.ble_eq] at hk
  refine Imp.app (u := ⟨.e (.a (.v undef)),[k],[],[(k,.ext ((noneY cx.w0.heap.size).xp Emp))],[]⟩) (k + 1) ?_ (fun i hi => by
    have hi : i ∈ [k] := hi
    rw [List.mem_singleton] at hi; subst hi; exact ⟨hk,Nat.lt_succ_self _⟩) (by show n ≤ k + 1; omega)
  intro M ε I a w hs hN
  refine ⟨ε,I,⟨fun _ _ => ⟨rfl,rfl,rfl⟩,IH.le.rfl',hs.imm,rfl,rfl,Out.rf,Nat.le_refl _,fun _ _ _ => rfl,fun _ _ h => .inl h⟩,
    ⟨trivial,fun _ _ h => (by cases h),fun _ _ h => (by cases h),fun i e he => by obtain ⟨rfl,rfl⟩ := look_one he; exact ⟨.inr (by simp),trivial⟩,fun _ _ h => (by cases h),
      fun i e he => by obtain ⟨rfl,rfl⟩ := look_one he; exact fun _ h => h,
      fun i e he b hb => by obtain ⟨rfl,rfl⟩ := look_one he; exact hb.elim,
      fun i i' e e' b he he' hne => by
        obtain ⟨rfl,_⟩ := look_one he
        obtain ⟨rfl,_⟩ := look_one he'
        exact absurd rfl hne,
      fun i z hz => by
        obtain ⟨_,h⟩ := look_one hz
        cases h
        exact ⟨Nat.le_refl _,fun b hb => ⟨hb,fun hE => by rw [hE0] at hE; exact hE⟩⟩⟩⟩
end
end Go.Eng
namespace Go.Flong
open Go Go.Eng
def eachG (f : Int → Int → Int) (a b : List Int) : Nat → List Int
  | 0 => zer12
  | n + 1 => lset (eachG f a b n) (n : Int) (f (nth a (n : Int)) (nth b (n : Int)))
theorem eachG_len (f : Int → Int → Int) (a b : List Int) : ∀ n,(eachG f a b n).length = 12
  | 0 => rfl
  | n + 1 => by rw [eachG,lset_len,eachG_len f a b n]
theorem eachG_step {f : Int → Int → Int} {a b : List Int} {n : Nat} {x : Int} (h : ((n : Nat) : Int) = x) : eachG f a b (n + 1) = lset (eachG f a b n) x (f (nth a x) (nth b x)) := by subst h; rfl
theorem eachG_nth (f : Int → Int → Int) (a b : List Int) : ∀ (n : Nat),n ≤ 12 → ∀ k : Nat,k < n → nth (eachG f a b n) (k : Int) = f (nth a (k : Int)) (nth b (k : Int))
  | n + 1,hn,k,hk => by
    rw [eachG,nth_ls (by omega) (by rw [eachG_len]; omega) (k : Int) (by omega)]
    by_cases e : k = n
    · subst e; rw [if_pos rfl]
    · rw [if_neg (by omega)]; exact eachG_nth f a b n (by omega) k (by omega)
structure ShOK (a : List Int) : Prop where
  len : a.length = 12
  b : ∀ k : Nat,k < 12 → 0 ≤ nth a (k : Int) ∧ nth a (k : Int) ≤ 1000
abbrev joinF : Int → Int → Int := fun x y => max x y
abbrev missF : Int → Int → Int := fun x y => max 0 (y - x)
def joinL (a b : List Int) : List Int := eachG joinF a b 12
def missL (a b : List Int) : List Int := eachG missF a b 12
theorem joinL_ok {a b : List Int} (ha : ShOK a) (hb : ShOK b) : ShOK (joinL a b) := ⟨eachG_len _ _ _ _,fun k hk => by
  have h1 := ha.b k hk
  have h2 := hb.b k hk
  rw [joinL,eachG_nth _ _ _ 12 (by omega) k hk]
  show 0 ≤ max _ _ ∧ max _ _ ≤ 1000
  omega⟩
def hasV (a b : List Int) : Bool := decide (key12 (missL a b) = zer12)
def sumS (a : List Int) : Nat → Int
  | 0 => 0
  | n + 1 => sumS a n + nth a (n : Int)
theorem sumS_step {a : List Int} {n : Nat} {x : Int} (h : ((n : Nat) : Int) = x) : sumS a (n + 1) = sumS a n + nth a x := by subst h; rfl
theorem sumS_b {a : List Int} (h : ShOK a) : ∀ n : Nat,n ≤ 12 → 0 ≤ sumS a n ∧ sumS a n ≤ 1000 * (n : Int)
  | 0,_ => by simp [sumS]
  | n + 1,hn => by
    have h1 := sumS_b h n (by omega)
    have h2 := h.b n (by omega)
    rw [sumS]; omega
def befTo (s t : List Int) : Nat → Int
  | 0 => 0
  | i + 1 => if befTo s t i ≠ 0 then befTo s t i else cmpL (partL t (i * 3) 3) (partL s (i * 3) 3)
theorem befTo_hit {s t : List Int} {i : Nat} {c : Int} (h : befTo s t i = c) (hc : c ≠ 0) : ∀ {j : Nat},i ≤ j → befTo s t j = c
  | 0,hij => by
    have : i = 0 := by omega
    subst this; exact h
  | j + 1,hij => by
    by_cases e : i = j + 1
    · subst e; exact h
    · have := befTo_hit h hc (j := j) (by omega)
      rw [befTo,this,if_pos hc]
end Go.Flong
namespace Go.Flong
open Go Go.Eng
def keysL (l : MapL) : List (List Int) := l.map (·.1)
theorem keys_mset {l : MapL} {k : List Int} {v : Int} {x : List Int} : x ∈ keysL (mset l k v) ↔ x ∈ keysL l ∨ x = k := by
  induction l with
  | nil => simp [mset,keysL]
  | cons p t ih =>
    obtain ⟨i,u⟩ := p
    unfold keysL at ih ⊢
    simp only [mset]
    by_cases h1 : i = k
    · subst h1
      simp only [if_true,List.map_cons,List.mem_cons]
      constructor
      · rintro (h | h)
        · exact .inl (.inl h)
        · exact .inl (.inr h)
      · rintro ((h | h) | h)
        · exact .inl h
        · exact .inr h
        · exact .inl h
    · simp only [h1,if_false,List.map_cons,List.mem_cons,ih]
      constructor
      · rintro (h | h | h)
        · exact .inl (.inl h)
        · exact .inl (.inr h)
        · exact .inr h
      · rintro ((h | h) | h)
        · exact .inl h
        · exact .inr (.inl h)
        · exact .inr (.inr h)
theorem keys_vis {h : Hall} : ∀ {T : List Plan} {l : MapL} {x : List Int},x ∈ keysL (vis h l T) ↔ x ∈ keysL l ∨ ∃ p ∈ T,lateP h p = 0 ∧ x = key12 (needL h p)
  | [],l,x => by simp [vis]
  | p :: T,l,x => by
    have e : vis h l (p :: T) = vis h (vis1 h l p) T := rfl
    rw [e,keys_vis (T := T)]
    unfold vis1
    split
    · rename_i h0
      unfold addK
      rw [keys_mset]
      constructor
      · rintro ((h1 | h1) | ⟨q,hq,h1⟩)
        · exact .inl h1
        · exact .inr ⟨p,List.mem_cons_self,h0,h1⟩
        · exact .inr ⟨q,List.mem_cons_of_mem _ hq,h1⟩
      · rintro (h1 | ⟨q,hq,h1,h2⟩)
        · exact .inl (.inl h1)
        · rcases List.mem_cons.1 hq with rfl | hq
          · exact .inl (.inr h2)
          · exact .inr ⟨q,hq,h1,h2⟩
    · rename_i h0
      constructor
      · rintro (h1 | ⟨q,hq,h1⟩)
        · exact .inl h1
        · exact .inr ⟨q,List.mem_cons_of_mem _ hq,h1⟩
      · rintro (h1 | ⟨q,hq,h1,h2⟩)
        · exact .inl h1
        · rcases List.mem_cons.1 hq with rfl | hq
          · exact absurd h1 h0
          · exact .inr ⟨q,hq,h1,h2⟩
def needM (h : Hall) (stop : Int) : MapL := vis h [] (plansV h stop)
theorem keyAt_in {l : MapL} {m : Nat} (hm : m < l.length) : keyAt l m ∈ keysL l := by
  unfold keyAt keysL
  rw [List.getD_eq_getElem?_getD,List.getElem?_eq_getElem hm]
  exact List.mem_map_of_mem (List.getElem_mem hm)
theorem key_at {l : MapL} {x : List Int} (hx : x ∈ keysL l) : ∃ m,m < l.length ∧ keyAt l m = x := by
  obtain ⟨p,hp,rfl⟩ := List.mem_map.1 hx
  obtain ⟨m,hm,rfl⟩ := List.mem_iff_getElem.1 hp
  exact ⟨m,hm,by unfold keyAt; rw [List.getD_eq_getElem?_getD,List.getElem?_eq_getElem hm]; rfl⟩
theorem need_ok {h : Hall} {p : Plan} (hc : h.chk = true) (hp : isPlanR h p = true) : ShOK (key12 (needL h p)) := by
  have hC := hallC hc
  have hP := planQ hp
  have hH := houC (h := h) (by simp only [Hall.chk,Hall.hallHd,Bool.and_eq_true] at hc; exact hc.1.1.1.1.1)
  have hm := hH.m
  have hn := hP.n
  refine ⟨rfl,fun k hk => ?_⟩
  have h1 := needTo_nth hC hP p.length (Nat.le_refl _) k hk
  have e : nth (key12 (needL h p)) (k : Int) = nth (needL h p) (k : Int) := by
    rcases (show k = 0 ∨ k = 1 ∨ k = 2 ∨ k = 3 ∨ k = 4 ∨ k = 5 ∨ k = 6 ∨ k = 7 ∨ k = 8 ∨ k = 9 ∨ k = 10 ∨ k = 11 by omega) with rfl | rfl | rfl | rfl | rfl | rfl | rfl | rfl | rfl | rfl | rfl | rfl <;> rfl
  rw [e]
  unfold needL
  omega
theorem plansV_is {h : Hall} {stop : Int} (hB : h.buns.length ≤ 5) {p : Plan} (hp : p ∈ plansV h stop) : isPlanR h p = true :=
  planI_is (plansV_in hB hp) (plansF_nodup (by simp) (Nat.zero_le _) (by simp) hp)
theorem needM_ok {h : Hall} {stop : Int} (hc : h.chk = true) (hB : h.buns.length ≤ 5) {m : Nat} (hm : m < (needM h stop).length) : ShOK (keyAt (needM h stop) m) := by
  rcases keys_vis.1 (keyAt_in hm) with h1 | ⟨p,hp,_,h2⟩
  · simp [keysL] at h1
  · have h2 : keyAt (needM h stop) m = key12 (needL h p) := h2
    rw [h2]; exact need_ok hc (plansV_is hB hp)
def lessB (l : MapL) (m q : Nat) : Bool := decide (key12 (keyAt l m) = key12 (keyAt l q)) || !hasV (keyAt l m) (keyAt l q)
def leastB (l : MapL) (m : Nat) : Bool := (List.range l.length).all (lessB l m)
def outN (l : MapL) (s : List Nat) : List (List Int) := (s.filter (leastB l)).map (keyAt l)
theorem outN_t {l : MapL} {s : List Nat} {m : Nat} (h : leastB l m = true) : outN l (s ++ [m]) = outN l s ++ [keyAt l m] := by simp [outN,h]
theorem outN_f {l : MapL} {s : List Nat} {m : Nat} (h : leastB l m = false) : outN l (s ++ [m]) = outN l s := by simp [outN,h]
theorem outN_len (l : MapL) (s : List Nat) : (outN l s).length ≤ s.length := by unfold outN; rw [List.length_map]; exact List.length_filter_le _ _
structure SeenN (N : Nat) (s : List Nat) : Prop where
  d : s.Nodup
  b : ∀ x ∈ s,x < N
theorem SeenN.nil {N : Nat} : SeenN N [] := ⟨List.nodup_nil,fun _ h => by cases h⟩
theorem SeenN.add {N m : Nat} {s : List Nat} (h : SeenN N s) (hm : m < N) (hn : m ∉ s) : SeenN N (s ++ [m]) :=
  ⟨by rw [List.nodup_append]; exact ⟨h.d,by simp,fun a ha b hb => by rw [List.mem_singleton] at hb; subst hb; exact fun e => hn (e ▸ ha)⟩,fun x hx => by
    rcases List.mem_append.1 hx with h1 | h1
    · exact h.b x h1
    · rw [List.mem_singleton] at h1; subst h1; exact hm⟩
theorem SeenN.le : ∀ {N : Nat} {s : List Nat},SeenN N s → s.length ≤ N
  | 0,s,h => by
    cases s with
    | nil => exact Nat.le_refl _
    | cons a t => exact absurd (h.b a List.mem_cons_self) (Nat.not_lt_zero _)
  | N + 1,s,h => by
    by_cases hN : N ∈ s
    · have h1 : SeenN N (s.erase N) := ⟨h.d.erase N,fun x hx => by
        have h2 := (h.d.mem_erase_iff).1 hx
        have := h.b x h2.2
        have := h2.1
        omega⟩
      have h2 := SeenN.le h1
      rw [List.length_erase_of_mem hN] at h2
      omega
    · have := SeenN.le (N := N) (s := s) ⟨h.d,fun x hx => by
        have h1 := h.b x hx
        have h2 : x ≠ N := fun e => hN (e ▸ hx)
        omega⟩
      omega
theorem least_all {l : MapL} {m : Nat} {s : List Nat} (hall : ∀ q,q < l.length → q ∈ s) (hs : SeenN l.length s) : s.all (lessB l m) = leastB l m := by
  rw [Bool.eq_iff_iff,leastB,List.all_eq_true,List.all_eq_true]
  exact ⟨fun h q hq => h q (hall q (List.mem_range.1 hq)),fun h q hq => h q (List.mem_range.2 (hs.b q hq))⟩
structure NeedsOK (h : Hall) (stop : Int) (L : List (List Int)) : Prop where
  n : L.length ≤ 100000000
  m : ∀ x,x ∈ L ↔ ∃ m,m < (needM h stop).length ∧ leastB (needM h stop) m = true ∧ x = keyAt (needM h stop) m
def NeedsP (h : Hall) (stop : Int) : Pred := ⟨fun I v => ∃ L,NeedsOK h stop L ∧ (PL (EArr 12) L).h I v,fun hI ⟨L,h1,h2⟩ => ⟨L,h1,(PL (EArr 12) L).mono hI h2⟩⟩
theorem mset_len (l : MapL) (k : List Int) (v : Int) : (mset l k v).length ≤ l.length + 1 := by
  induction l with
  | nil => simp [mset]
  | cons p t ih =>
    obtain ⟨i,u⟩ := p
    simp only [mset]
    split
    · simp
    · simp only [List.length_cons]; omega
theorem vis_len {h : Hall} : ∀ (T : List Plan) (l : MapL),(vis h l T).length ≤ l.length + T.length
  | [],l => by simp [vis]
  | p :: T,l => by
    have e : vis h l (p :: T) = vis h (vis1 h l p) T := rfl
    rw [e]
    have h1 := vis_len (h := h) T (vis1 h l p)
    have h2 : (vis1 h l p).length ≤ l.length + 1 := by
      unfold vis1
      split
      · exact mset_len _ _ _
      · omega
    rw [List.length_cons]; omega
theorem needM_len {h : Hall} (hh : HouC h) (stop : Int) : (needM h stop).length ≤ 10077696 := by
  have h0 := vis_len (h := h) (plansV h stop) []
  have h1 := plansF_le (n := h.machs.length) (B := h.buns.length) (stop := stop) (h.machs.length + h.buns.length + 1) 0 (List.replicate h.machs.length [])
  have h2 : (h.buns.length + 1) ^ (h.machs.length + h.buns.length + 1) ≤ 6 ^ 9 := Nat.le_trans (Nat.pow_le_pow_left (by have := hh.b; omega) _) (Nat.pow_le_pow_right (by omega) (by have := hh.b; have := hh.m; omega))
  have h3 : (6 : Nat) ^ 9 = 10077696 := by decide
  have h4 : (plansV h stop).length ≤ 10077696 := by unfold plansV; omega
  unfold needM
  simp at h0
  omega
theorem outN_ok {h : Hall} (hh : HouC h) {stop : Int} {s : List Nat} (hall : ∀ q,q < (needM h stop).length → q ∈ s) (hs : SeenN (needM h stop).length s) : NeedsOK h stop (outN (needM h stop) s) := by
  refine ⟨?_,fun x => ?_⟩
  · have := outN_len (needM h stop) s
    have := hs.le
    have := needM_len hh stop
    omega
  · unfold outN
    rw [List.mem_map]
    constructor
    · rintro ⟨m,hm,rfl⟩
      rw [List.mem_filter] at hm
      exact ⟨m,hs.b m hm.1,hm.2,rfl⟩
    · rintro ⟨m,hm,h1,rfl⟩
      exact ⟨m,List.mem_filter.2 ⟨hall m hm,h1⟩,rfl⟩
theorem NeedsP.of {h : Hall} {stop : Int} {L : List (List Int)} (hL : NeedsOK h stop L) : ∀ I v,(PL (EArr 12) L).h I v → (NeedsP h stop).h I v := fun _ _ h => ⟨L,hL,h⟩
end Go.Flong
namespace Go.Eng
open Go
theorem o_mkfvr {cx : Cx} {S : St} {dst : Option Tmp} {ty : TypeId} {pos : String} {af : Array Edge} {gd : Option (Nat × Bool)} {P : Program} {f : FuncId} {l : List Operand} {bs : List SV} {ι : Type} {svs : ι → List SV} {X0 : ι → List (Nat × Pred)} {sv : ι → SV} {X : ι → List (Nat × Pred)} (k : Nat) (hs : ∀ i,Sig P f (bs ++ svs i) (X0 i) (sv i) (X i)) (hen : Enters' P f) (hl : S.ops l = some bs) (hb : ∀ (ε ε' : Env),∀ x ∈ bs,x.den ε = x.den ε') :
    OpG cx S ⟨dst,.makeFunc (.func f) l.toArray #[],ty,pos,af,gd⟩ ⟨.e (.a (.q k)),[k],[(k,Pred.fall fun i => FvP P (svs i) (X0 i) (sv i) (X i))],[],[]⟩ :=
  o_mkfn (l' := []) hl rfl fun M ε I a w h => by
    refine ⟨⟨_,_,_,rfl⟩,fun i => ⟨⟨_,_,_,rfl⟩,fun I' w' ν hle hon hX => ⟨f,_,FnV.of hen,?_⟩⟩⟩
    have := hs i I' w' ν hon hX
    have e : ((bs.map (SV.den ε)).toArray ++ ((svs i).map (den0 ν)).toArray ++ (([] : List SV).map (SV.den ε)).toArray : Array Value) = ((bs ++ svs i).map (den0 ν)).toArray := by
      rw [List.map_append,List.map_congr_left (fun x hx => hb ε ⟨fun _ => 0,ν,fun _ => true⟩ x hx)]
      simp [den0]
    rw [e]; exact this
section
variable {cx : Cx} {Q : Exit → Act → World → Prop} {ops : Array Oper} {rest : List Oper} {fuel : Nat} {listed : Array Bool}
variable {n : Nat} {fr : List (Nat × SV)} {X : List (Nat × Pred)} {L : List (Nat × Ent)} {D : List Nat} {G : List (Nat × Bool)}
theorem WPl.exp {α : Type} {R : Pred} {P : α → Prop} {R' : α → Pred} (k : Nat) (hk : look k X = some R) (he : ∀ I v,R.h I v → ∃ a,P a ∧ (R' a).h I v) (h : ∀ q,P q → WPl cx ops ⟨n,fr,(k,R' q) :: X,L,D,G⟩ rest Q) : WPl cx ops ⟨n,fr,X,L,D,G⟩ rest Q := fun ε I a w hs => by
  obtain ⟨q,hq,_⟩ := he I _ (hs.X k R hk)
  obtain ⟨⟨q',hq'⟩,hs'⟩ := Sat.exq (α := { q : α // P q }) (R' := fun q => R' q.1) k hk (fun I v hv => by obtain ⟨b,h1,h2⟩ := he I v hv; exact ⟨⟨b,h1⟩,h2⟩) hs
  exact h q' hq' ε I a w hs'
end
end Go.Eng
namespace Go.Flong
open Go Go.Eng
abbrev ShT := { l : List Int // ShOK l }
def doesN (h : Hall) (stop : Int) (s : List Int) : Bool := (List.range (needM h stop).length).any fun m => leastB (needM h stop) m && hasV s (keyAt (needM h stop) m)
theorem anyG_iff {α : Type} [Inhabited α] {f : α → Bool} {l : List α} : anyG f l = true ↔ ∃ x ∈ l,f x = true := by
  unfold anyG
  constructor
  · intro h
    cases hb : allI (missG f l) l.length with
    | true => rw [hb] at h; cases h
    | false =>
      by_cases hx : ∃ x ∈ l,f x = true
      · exact hx
      · exfalso
        have : allI (missG f l) l.length = true := allI_iff.2 fun i hi => by
          unfold missG
          cases hf : f (nth l (i : Int)) with
          | false => rfl
          | true => exact absurd ⟨_,nth_mem (by omega) (by omega),hf⟩ hx
        rw [hb] at this; cases this
  · rintro ⟨x,hx,hf⟩
    cases hb : allI (missG f l) l.length with
    | false => rfl
    | true =>
      obtain ⟨i,hi,rfl⟩ := List.mem_iff_getElem.1 hx
      have := allI_iff.1 hb i hi
      unfold missG at this
      rw [nthG hi,hf] at this; cases this
theorem does_any {h : Hall} {stop : Int} {s : List Int} {L : List (List Int)} (hL : NeedsOK h stop L) : anyG (fun x => hasV s x) L = doesN h stop s := by
  rw [Bool.eq_iff_iff,anyG_iff,doesN,List.any_eq_true]
  constructor
  · rintro ⟨x,hx,hf⟩
    obtain ⟨m,hm,hl,rfl⟩ := (hL.m x).1 hx
    exact ⟨m,List.mem_range.2 hm,by rw [hl,hf]; rfl⟩
  · rintro ⟨m,hm,hf⟩
    rw [Bool.and_eq_true] at hf
    exact ⟨_,(hL.m _).2 ⟨m,List.mem_range.1 hm,hf.1,rfl⟩,hf.2⟩
theorem NeedsOK.sh {h : Hall} {stop : Int} {L : List (List Int)} (hL : NeedsOK h stop L) (hc : h.chk = true) (hB : h.buns.length ≤ 5) {i : Nat} (hi : i < L.length) : ShOK (nth L (i : Int)) := by
  obtain ⟨m,hm,_,e⟩ := (hL.m _).1 (nth_mem (l := L) (i := (i : Int)) (by omega) (by omega))
  rw [e]; exact needM_ok hc hB hm
structure AllOK (h : Hall) (Ls : List (List (List Int))) : Prop where
  n : Ls.length = (casesL h).length
  m : ∀ i : Nat,i < Ls.length → NeedsOK h (nth (casesL h) (i : Int)) (nth Ls (i : Int))
def AllP (h : Hall) : Pred := ⟨fun I v => ∃ Ls,AllOK h Ls ∧ (PL (EP.sl (EArr 12)) Ls).h I v,fun hI ⟨L,h1,h2⟩ => ⟨L,h1,(PL (EP.sl (EArr 12)) L).mono hI h2⟩⟩
theorem AllP.of {h : Hall} {Ls : List (List (List Int))} (hL : AllOK h Ls) : ∀ I v,(PL (EP.sl (EArr 12)) Ls).h I v → (AllP h).h I v := fun _ _ h => ⟨Ls,hL,h⟩
structure AllTo (h : Hall) (i : Nat) (Ls : List (List (List Int))) : Prop where
  n : Ls.length = i
  m : ∀ j : Nat,j < i → NeedsOK h (nth (casesL h) (j : Int)) (nth Ls (j : Int))
theorem AllTo.nil {h : Hall} : AllTo h 0 [] := ⟨rfl,fun j hj => absurd hj (Nat.not_lt_zero j)⟩
theorem AllTo.add {h : Hall} {i : Nat} {Ls : List (List (List Int))} {L : List (List Int)} (hA : AllTo h i Ls) (hL : NeedsOK h (nth (casesL h) (i : Int)) L) : AllTo h (i + 1) (Ls ++ [L]) := by
  refine ⟨by rw [List.length_append,List.length_singleton,hA.n],fun j hj => ?_⟩
  by_cases e : j = i
  · subst e
    have : nth (Ls ++ [L]) (j : Int) = L := by
      rw [nthG (by rw [List.length_append,List.length_singleton,hA.n]; omega),List.getElem_append_right (by rw [hA.n]; omega)]; simp [hA.n]
    rw [this]; exact hL
  · have : nth (Ls ++ [L]) (j : Int) = nth Ls (j : Int) := by
      rw [nthG (by rw [List.length_append,List.length_singleton,hA.n]; omega),List.getElem_append_left (by rw [hA.n]; omega),nthG (by rw [hA.n]; omega)]
    rw [this]; exact hA.m j (by omega)
end Go.Flong
namespace Go.Flong
open Go Go.Eng
def betterF (x b : List Int × Bool) : Bool := x.2 && (!b.2 || decide (orL [sumS x.1 12 - sumS b.1 12,befTo x.1 b.1 4] < 0))
def stepF (x b : List Int × Bool) : List Int × Bool := if betterF x b = true then (x.1,true) else b
def fewR : List (List (List Int)) → List Int → List Int × Bool
  | [],s => (s,true)
  | L :: Ls,s => L.foldl (fun b t => stepF (fewR Ls (joinL s t)) b) (zer12,false)
def fewTo (Ls : List (List (List Int))) (s : List Int) (i : Nat) : List Int × Bool := ((nth Ls 0).take i).foldl (fun b t => stepF (fewR (Ls.drop 1) (joinL s t)) b) (zer12,false)
theorem fewTo_step {Ls : List (List (List Int))} {s : List Int} {i : Nat} (hi : i < (nth Ls 0).length) : fewTo Ls s (i + 1) = stepF (fewR (Ls.drop 1) (joinL s (nth (nth Ls 0) (i : Int)))) (fewTo Ls s i) := by
  unfold fewTo
  rw [List.take_succ_eq_append_getElem hi,List.foldl_append,nthG hi]; rfl
theorem fewTo_end {Ls : List (List (List Int))} {s : List Int} (h : 0 < Ls.length) : fewTo Ls s (nth Ls 0).length = fewR Ls s := by
  cases Ls with
  | nil => simp at h
  | cons L t =>
    have e : nth (L :: t) 0 = L := rfl
    unfold fewTo
    rw [e,List.take_length]; rfl
structure FewOK (Ls : List (List (List Int))) : Prop where
  n : Ls.length ≤ 4
  l : ∀ i : Nat,i < Ls.length → (nth Ls (i : Int)).length ≤ 100000000
  s : ∀ i : Nat,i < Ls.length → ∀ j : Nat,j < (nth Ls (i : Int)).length → ShOK (nth (nth Ls (i : Int)) (j : Int))
theorem FewOK.tail {Ls : List (List (List Int))} (h : FewOK Ls) : FewOK (Ls.drop 1) := by
  cases Ls with
  | nil => exact h
  | cons L t =>
    have e : ∀ i : Nat,nth (L :: t) ((i + 1 : Nat) : Int) = nth t (i : Int) := fun i => nthSc
    refine ⟨by have := h.n; simp at this ⊢; omega,fun i hi => ?_,fun i hi j hj => ?_⟩
    · have := h.l (i + 1) (by simp at hi ⊢; omega); rw [e] at this; exact this
    · have := h.s (i + 1) (by simp at hi ⊢; omega) j; rw [e] at this; exact this hj
theorem zer_ok : ShOK zer12 := ⟨rfl,fun k hk => by rw [zer_nth hk]; omega⟩
theorem fewR_ok : ∀ {Ls : List (List (List Int))} {s : List Int},FewOK Ls → ShOK s → ShOK (fewR Ls s).1
  | [],s,_,hs => hs
  | L :: Ls,s,h,hs => by
    have hL : ∀ t ∈ L,ShOK t := fun t ht => by
      obtain ⟨j,hj,rfl⟩ := List.mem_iff_getElem.1 ht
      have := h.s 0 (by simp) j (by exact hj)
      have e : nth (L :: Ls) ((0 : Nat) : Int) = L := rfl
      rw [e,nthG hj] at this; exact this
    have ht := h.tail
    have key : ∀ (M : List (List Int)) (b : List Int × Bool),(∀ t ∈ M,ShOK t) → ShOK b.1 → ShOK (M.foldl (fun b t => stepF (fewR Ls (joinL s t)) b) b).1 := by
      intro M
      induction M with
      | nil => intro b _ hb; exact hb
      | cons t M ih =>
        intro b hM hb
        refine ih _ (fun t ht => hM t (List.mem_cons_of_mem _ ht)) ?_
        show ShOK (stepF (fewR Ls (joinL s t)) b).1
        unfold stepF
        split
        · exact fewR_ok ht (joinL_ok hs (hM t List.mem_cons_self))
        · exact hb
    exact key L _ hL zer_ok
theorem fewTo_ok {Ls : List (List (List Int))} {s : List Int} (h : FewOK Ls) (h0 : 0 < Ls.length) (hs : ShOK s) : ∀ i : Nat,i ≤ (nth Ls 0).length → ShOK (fewTo Ls s i).1
  | 0,_ => zer_ok
  | i + 1,hi => by
    have h1 := fewTo_ok h h0 hs i (by omega)
    rw [fewTo_step (by omega)]
    unfold stepF
    split
    · exact fewR_ok h.tail (joinL_ok hs (h.s 0 h0 i (by exact hi)))
    · exact h1
theorem AllOK.few {h : Hall} {Ls : List (List (List Int))} (hA : AllOK h Ls) (hc : h.chk = true) (hB : h.buns.length ≤ 5) (hn : (casesL h).length ≤ 4) : FewOK Ls :=
  ⟨by have := hA.n; omega,fun i hi => (hA.m i hi).n,fun i hi j hj => (hA.m i hi).sh hc hB hj⟩
end Go.Flong
namespace Go.Flong
open Go Go.Eng
def lackTo (h : Hall) (s : List Int) : Nat → List Int
  | 0 => []
  | i + 1 => if doesN h (nth (casesL h) (i : Int)) s = true then lackTo h s i else lackTo h s i ++ [nth (casesL h) (i : Int)]
theorem lackTo_len (h : Hall) (s : List Int) : ∀ i,(lackTo h s i).length ≤ i
  | 0 => Nat.le_refl _
  | i + 1 => by have := lackTo_len h s i; rw [lackTo]; split <;> (try rw [List.length_append,List.length_singleton]) <;> omega
def plTo (l : List Plate) : Nat → Int
  | 0 => 0
  | i + 1 => plTo l i + (nth l (i : Int)).many
theorem plTo_b {l : List Plate} (h : PlsOK l) : ∀ i : Nat,i ≤ l.length → 0 ≤ plTo l i ∧ plTo l i ≤ 1000 * i
  | 0,_ => by simp [plTo]
  | i + 1,hi => by
    have h1 := plTo_b h i (by omega)
    have h2 := h.p i (by omega)
    rw [plTo]; omega
def farV (h : Hall) : Bool := hugeH h || (decide (3 < (h.buns.length : Int)) && decide (errL h.chk = 0))
end Go.Flong
namespace Go.Flong
open Go Go.Eng
def Choice : List (List (List Int)) → List Int → List Int → Prop
  | [],s,r => r = s
  | L :: Ls,s,r => ∃ t,t ∈ L ∧ Choice Ls (joinL s t) r
theorem orL2 {a b : Int} : orL [a,b] < 0 → a ≤ 0 := by
  unfold orL
  intro h
  by_cases h0 : a = 0
  · omega
  · simp [h0] at h; omega
theorem orL2' {a b : Int} (h : ¬ orL [a,b] < 0) : 0 ≤ a := by
  rcases (show a < 0 ∨ 0 ≤ a by omega) with h1 | h1
  · exfalso
    apply h
    unfold orL
    have h0 : a ≠ 0 := by omega
    simp [h0,h1]
  · exact h1
structure FewInv (C : List Int → Prop) (b : List Int × Bool) : Prop where
  f : b.2 = false → ∀ r,¬ C r
  t : b.2 = true → C b.1 ∧ ∀ r,C r → sumS b.1 12 ≤ sumS r 12
theorem FewInv.step {C C' : List Int → Prop} {x b : List Int × Bool} (hb : FewInv C b) (hx : FewInv C' x) : FewInv (fun r => C r ∨ C' r) (stepF x b) := by
  unfold stepF
  split
  · rename_i h
    unfold betterF at h
    rw [Bool.and_eq_true,Bool.or_eq_true] at h
    obtain ⟨h1,h2⟩ := h
    obtain ⟨h3,h4⟩ := hx.t h1
    refine ⟨fun e => by simp at e,fun _ => ⟨.inr h3,fun r hr => ?_⟩⟩
    rcases hr with hr | hr
    · rcases h2 with h2 | h2
      · have hbf : b.2 = false := by simpa using h2
        exact absurd hr (hb.f hbf r)
      · rw [decide_eq_true_eq] at h2
        have h5 := orL2 h2
        cases hb2 : b.2 with
        | false => exact absurd hr (hb.f hb2 r)
        | true =>
          have := (hb.t hb2).2 r hr
          show sumS x.1 12 ≤ _
          omega
    · exact h4 r hr
  · rename_i h
    have hn : ¬ (x.2 = true ∧ ((!b.2) = true ∨ orL [sumS x.1 12 - sumS b.1 12,befTo x.1 b.1 4] < 0)) := fun hh => h (by
      unfold betterF
      rw [Bool.and_eq_true,Bool.or_eq_true,decide_eq_true_eq]; exact hh)
    refine ⟨fun e r hr => ?_,fun e => ?_⟩
    · rcases hr with hr | hr
      · exact hb.f e r hr
      · cases hx2 : x.2 with
        | false => exact hx.f hx2 r hr
        | true => exact hn ⟨hx2,.inl (by rw [e]; rfl)⟩
    · obtain ⟨h3,h4⟩ := hb.t e
      refine ⟨.inl h3,fun r hr => ?_⟩
      rcases hr with hr | hr
      · exact h4 r hr
      · cases hx2 : x.2 with
        | false => exact absurd hr (hx.f hx2 r)
        | true =>
          have h5 := orL2' fun h6 => hn ⟨hx2,.inr h6⟩
          have := (hx.t hx2).2 r hr
          omega
theorem FewInv.congr {C C' : List Int → Prop} {b : List Int × Bool} (h : FewInv C b) (hc : ∀ r,C r ↔ C' r) : FewInv C' b :=
  ⟨fun e r hr => h.f e r ((hc r).2 hr),fun e => ⟨(hc _).1 (h.t e).1,fun r hr => (h.t e).2 r ((hc r).2 hr)⟩⟩
theorem fewR_inv : ∀ (Ls : List (List (List Int))) (s : List Int),FewInv (Choice Ls s) (fewR Ls s)
  | [],s => ⟨fun e => by simp [fewR] at e,fun _ => ⟨rfl,fun r hr => by rw [show r = s from hr]; exact Int.le_refl _⟩⟩
  | L :: Ls,s => by
    have key : ∀ (M : List (List Int)) (C : List Int → Prop) (b : List Int × Bool),FewInv C b → FewInv (fun r => C r ∨ ∃ t,t ∈ M ∧ Choice Ls (joinL s t) r) (M.foldl (fun b t => stepF (fewR Ls (joinL s t)) b) b) := by
      intro M
      induction M with
      | nil => intro C b h; exact h.congr fun r => ⟨.inl,fun h => h.elim id fun ⟨_,h,_⟩ => by cases h⟩
      | cons t M ih =>
        intro C b h
        refine (ih _ _ (h.step (fewR_inv Ls (joinL s t)))).congr fun r => ?_
        constructor
        · rintro ((h1 | h1) | ⟨q,hq,h1⟩)
          · exact .inl h1
          · exact .inr ⟨t,List.mem_cons_self,h1⟩
          · exact .inr ⟨q,List.mem_cons_of_mem _ hq,h1⟩
        · rintro (h1 | ⟨q,hq,h1⟩)
          · exact .inl (.inl h1)
          · rcases List.mem_cons.1 hq with rfl | hq
            · exact .inl (.inr h1)
            · exact .inr ⟨q,hq,h1⟩
    exact (key L (fun _ => False) (zer12,false) ⟨fun _ _ h => h,fun e => by simp at e⟩).congr fun r => ⟨fun h => h.elim False.elim id,.inr⟩
theorem choice_same {h : Hall} : ∀ {c : List Int} {Ls Ls' : List (List (List Int))} {s r : List Int},Ls.length = c.length → Ls'.length = c.length → (∀ i : Nat,i < c.length → NeedsOK h (nth c (i : Int)) (nth Ls (i : Int)) ∧ NeedsOK h (nth c (i : Int)) (nth Ls' (i : Int))) → Choice Ls s r → Choice Ls' s r
  | [],Ls,Ls',s,r,h1,h2,_,hr => by
    have e1 : Ls = [] := List.length_eq_zero_iff.1 (by simpa using h1)
    have e2 : Ls' = [] := List.length_eq_zero_iff.1 (by simpa using h2)
    subst e1; subst e2; exact hr
  | c :: cs,Ls,Ls',s,r,h1,h2,h3,hr => by
    cases Ls with
    | nil => simp at h1
    | cons L Ls =>
      cases Ls' with
      | nil => simp at h2
      | cons L' Ls' =>
        obtain ⟨t,ht,hr⟩ := hr
        have h0 : NeedsOK h c L ∧ NeedsOK h c L' := h3 0 (by simp)
        refine ⟨t,(h0.2.m t).2 ((h0.1.m t).1 ht),choice_same (h := h) (c := cs) (by simpa using h1) (by simpa using h2) (fun i hi => ?_) hr⟩
        have := h3 (i + 1) (by simpa using hi)
        rw [nthSc,nthSc,nthSc] at this
        exact this
def canonLs (h : Hall) : List (List (List Int)) := (casesL h).map fun c => outN (needM h c) (List.range (needM h c).length)
theorem canon_ok {h : Hall} (hh : HouC h) : AllOK h (canonLs h) := by
  refine ⟨by unfold canonLs; rw [List.length_map],fun i hi => ?_⟩
  unfold canonLs at hi ⊢
  rw [List.length_map] at hi
  have e := nthG (l := (casesL h).map fun c => outN (needM h c) (List.range (needM h c).length)) (j := i) (by rw [List.length_map]; exact hi)
  rw [e,List.getElem_map,← nthG hi]
  exact outN_ok hh (fun q hq => List.mem_range.2 hq) ⟨List.nodup_range,fun x hx => List.mem_range.1 hx⟩
theorem canon_same {h : Hall} (hh : HouC h) {Ls : List (List (List Int))} (hA : AllOK h Ls) (s r : List Int) : Choice Ls s r ↔ Choice (canonLs h) s r := by
  have hC := canon_ok hh
  exact ⟨choice_same hA.n hC.n fun i hi => ⟨hA.m i (by rw [hA.n]; exact hi),hC.m i (by rw [hC.n]; exact hi)⟩,choice_same hC.n hA.n fun i hi => ⟨hC.m i (by rw [hC.n]; exact hi),hA.m i (by rw [hA.n]; exact hi)⟩⟩
theorem hugeH_small {h : Hall} (hf : hugeH h = false) : h.Small := by
  simp only [hugeH,hugeHo,Bool.or_eq_false_iff,decide_eq_false_iff_not] at hf
  have := longP_len hf.2
  exact ⟨by omega,by omega,by omega,by omega,by omega,fun i hi => this.2 i hi⟩
end Go.Flong
namespace Go.Flong
open Go Go.Eng
theorem cmpL_0 : ∀ {a c : List Int},cmpL a c = 0 → a = c
  | [],[],_ => rfl
  | [],_ :: _,h => by simp [cmpL] at h
  | _ :: _,[],h => by simp [cmpL] at h
  | x :: a,y :: c,h => by
    rw [cmpL] at h
    split at h
    · rename_i e
      rw [cmpI_eq.1 e,cmpL_0 h]
    · rename_i e; exact absurd h e
theorem cmpL_app : ∀ {a c b d : List Int},a.length = c.length → cmpL (a ++ b) (c ++ d) = if cmpL a c ≠ 0 then cmpL a c else cmpL b d
  | [],[],_,_,_ => by simp [cmpL]
  | [],_ :: _,_,_,h => by simp at h
  | _ :: _,[],_,_,h => by simp at h
  | x :: a,y :: c,b,d,h => by
    have ih := cmpL_app (a := a) (c := c) (b := b) (d := d) (by simpa using h)
    simp only [List.cons_append,cmpL]
    by_cases e : cmpI x y = 0
    · simp only [if_pos e]; exact ih
    · simp only [if_neg e]; rw [if_pos e]
def preL (l : List Int) (n : Nat) : List Int := (List.range n).map fun (j : Nat) => nth l (j : Int)
theorem preL_len (l : List Int) (n : Nat) : (preL l n).length = n := by simp [preL]
theorem preL_part (l : List Int) (i : Nat) : preL l (3 * (i + 1)) = preL l (3 * i) ++ partL l (i * 3) 3 := by
  unfold preL partL
  rw [show 3 * (i + 1) = 3 * i + 3 from rfl,List.range_add,List.map_append,List.map_map]
  congr 1
  refine List.map_congr_left fun j _ => ?_
  show nth l ((3 * i + j : Nat) : Int) = nth l ((i * 3 + j : Nat) : Int)
  rw [Nat.mul_comm]
theorem preL_all {l : List Int} (h : l.length = 12) : preL l 12 = l := by
  apply List.ext_getElem
  · rw [preL_len,h]
  · intro i h1 h2
    simp only [preL,List.getElem_map,List.getElem_range]
    exact nthG h2
theorem befTo_pre (s t : List Int) : ∀ i : Nat,befTo s t i = cmpL (preL t (3 * i)) (preL s (3 * i))
  | 0 => rfl
  | i + 1 => by
    rw [befTo,befTo_pre s t i,preL_part,preL_part,cmpL_app (by rw [preL_len,preL_len])]
def ltF (x y : List Int) : Prop := orL [sumS x 12 - sumS y 12,befTo x y 4] < 0
theorem ltF_iff {x y : List Int} : ltF x y ↔ sumS x 12 < sumS y 12 ∨ (sumS x 12 = sumS y 12 ∧ cmpL (preL y 12) (preL x 12) < 0) := by
  unfold ltF
  rw [show befTo x y 4 = cmpL (preL y 12) (preL x 12) from befTo_pre x y 4]
  unfold orL
  by_cases h : sumS x 12 - sumS y 12 = 0
  · rw [if_neg (by simp [h])]
    unfold orL
    by_cases h2 : cmpL (preL y 12) (preL x 12) = 0
    · rw [if_neg (by simp [h2])]
      simp [orL,h2]; omega
    · rw [if_pos h2]; omega
  · rw [if_pos h]; omega
theorem ltF_trans {x y z : List Int} (h1 : ltF x y) (h2 : ltF y z) : ltF x z := by
  rw [ltF_iff] at h1 h2 ⊢
  rcases h1 with h1 | ⟨e1,h1⟩
  · rcases h2 with h2 | ⟨e2,h2⟩
    · exact .inl (by omega)
    · exact .inl (by omega)
  · rcases h2 with h2 | ⟨e2,h2⟩
    · exact .inl (by omega)
    · exact .inr ⟨by omega,cmpL_trans h2 (Int.le_of_lt h1)⟩
theorem ltF_tri {x y : List Int} (hx : x.length = 12) (hy : y.length = 12) (h1 : ¬ ltF x y) (h2 : ¬ ltF y x) : x = y := by
  rw [ltF_iff] at h1 h2
  have e : sumS x 12 = sumS y 12 := by
    rcases Int.lt_trichotomy (sumS x 12) (sumS y 12) with h | h | h
    · exact absurd (.inl h) h1
    · exact h
    · exact absurd (.inl h) h2
  rw [preL_all hx,preL_all hy] at h1 h2
  have h3 : ¬ cmpL y x < 0 := fun h => h1 (.inr ⟨e,h⟩)
  have h4 : ¬ cmpL x y < 0 := fun h => h2 (.inr ⟨e.symm,h⟩)
  have h5 := cmpL_flip h3
  exact cmpL_0 (by omega)
structure FewBest (C : List Int → Prop) (b : List Int × Bool) : Prop where
  f : b.2 = false → b.1 = zer12 ∧ ∀ r,¬ C r
  t : b.2 = true → C b.1 ∧ ∀ r,C r → ¬ ltF r b.1
theorem FewBest.step {C C' : List Int → Prop} {x b : List Int × Bool} (hl : ∀ r,C r → r.length = 12) (hl' : ∀ r,C' r → r.length = 12) (hb : FewBest C b) (hx : FewBest C' x) : FewBest (fun r => C r ∨ C' r) (stepF x b) := by
  unfold stepF
  have hbe : betterF x b = true ↔ x.2 = true ∧ (b.2 = false ∨ ltF x.1 b.1) := by
    unfold betterF ltF
    rw [Bool.and_eq_true,Bool.or_eq_true,decide_eq_true_eq]
    simp
  split
  · rename_i h
    obtain ⟨h1,h2⟩ := hbe.1 h
    obtain ⟨h3,h4⟩ := hx.t h1
    refine ⟨fun e => by simp at e,fun _ => ⟨.inr h3,fun r hr => ?_⟩⟩
    rcases hr with hr | hr
    · rcases h2 with h2 | h2
      · exact absurd hr ((hb.f h2).2 r)
      · cases hb2 : b.2 with
        | false => exact absurd hr ((hb.f hb2).2 r)
        | true => exact fun h5 => (hb.t hb2).2 r hr (ltF_trans h5 h2)
    · exact h4 r hr
  · rename_i h
    have hn := fun hh => h (hbe.2 hh)
    refine ⟨fun e => ⟨(hb.f e).1,fun r hr => ?_⟩,fun e => ?_⟩
    · rcases hr with hr | hr
      · exact (hb.f e).2 r hr
      · cases hx2 : x.2 with
        | false => exact (hx.f hx2).2 r hr
        | true => exact hn ⟨hx2,.inl e⟩
    · obtain ⟨h3,h4⟩ := hb.t e
      refine ⟨.inl h3,fun r hr => ?_⟩
      rcases hr with hr | hr
      · exact h4 r hr
      · cases hx2 : x.2 with
        | false => exact absurd hr ((hx.f hx2).2 r)
        | true =>
          intro h5
          have h6 : ¬ ltF x.1 b.1 := fun h6 => hn ⟨hx2,.inr h6⟩
          obtain ⟨h7,h8⟩ := hx.t hx2
          by_cases h9 : ltF b.1 x.1
          · exact h8 r hr (ltF_trans h5 h9)
          · have e9 := ltF_tri (hl' _ h7) (hl _ h3) h6 h9
            exact h8 r hr (by rw [e9]; exact h5)
theorem FewBest.congr {C C' : List Int → Prop} {b : List Int × Bool} (h : FewBest C b) (hc : ∀ r,C r ↔ C' r) : FewBest C' b :=
  ⟨fun e => ⟨(h.f e).1,fun r hr => (h.f e).2 r ((hc r).2 hr)⟩,fun e => ⟨(hc _).1 (h.t e).1,fun r hr => (h.t e).2 r ((hc r).2 hr)⟩⟩
theorem FewBest.one {C : List Int → Prop} {a b : List Int × Bool} (hl : ∀ r,C r → r.length = 12) (ha : FewBest C a) (hb : FewBest C b) : a = b := by
  obtain ⟨x,ta⟩ := a
  obtain ⟨y,tb⟩ := b
  cases ta with
  | false =>
    cases tb with
    | false => rw [show x = zer12 from (ha.f rfl).1,show y = zer12 from (hb.f rfl).1]
    | true => exact absurd (hb.t rfl).1 ((ha.f rfl).2 _)
  | true =>
    cases tb with
    | false => exact absurd (ha.t rfl).1 ((hb.f rfl).2 _)
    | true =>
      have h1 := ha.t rfl
      have h2 := hb.t rfl
      rw [show x = y from ltF_tri (hl _ h1.1) (hl _ h2.1) (h2.2 _ h1.1) (h1.2 _ h2.1)]
theorem choice_len : ∀ {Ls : List (List (List Int))} {s r : List Int},s.length = 12 → Choice Ls s r → r.length = 12
  | [],s,r,hs,h => by rw [show r = s from h]; exact hs
  | L :: Ls,s,r,hs,⟨t,_,h⟩ => choice_len (Ls := Ls) (eachG_len _ _ _ _) h
theorem fewR_best : ∀ (Ls : List (List (List Int))) (s : List Int),s.length = 12 → FewBest (Choice Ls s) (fewR Ls s)
  | [],s,hs => ⟨fun e => by simp [fewR] at e,fun _ => ⟨rfl,fun r hr h => by
      rw [show r = s from hr] at h
      have h : ltF s s := h
      rw [ltF_iff] at h
      rcases h with h | h
      · omega
      · have := h.2; rw [cmpL_refl] at this; omega⟩⟩
  | L :: Ls,s,hs => by
    have key : ∀ (M : List (List Int)) (C : List Int → Prop) (b : List Int × Bool),(∀ r,C r → r.length = 12) → FewBest C b → FewBest (fun r => C r ∨ ∃ t,t ∈ M ∧ Choice Ls (joinL s t) r) (M.foldl (fun b t => stepF (fewR Ls (joinL s t)) b) b) := by
      intro M
      induction M with
      | nil => intro C b _ h; exact h.congr fun r => ⟨.inl,fun h => h.elim id fun ⟨_,h,_⟩ => by cases h⟩
      | cons t M ih =>
        intro C b hl h
        have hl' : ∀ r,Choice Ls (joinL s t) r → r.length = 12 := fun r hr => choice_len (eachG_len _ _ _ _) hr
        refine (ih _ _ (fun r hr => hr.elim (hl r) (hl' r)) (h.step hl hl' (fewR_best Ls (joinL s t) (eachG_len _ _ _ _)))).congr fun r => ?_
        constructor
        · rintro ((h1 | h1) | ⟨q,hq,h1⟩)
          · exact .inl h1
          · exact .inr ⟨t,List.mem_cons_self,h1⟩
          · exact .inr ⟨q,List.mem_cons_of_mem _ hq,h1⟩
        · rintro (h1 | ⟨q,hq,h1⟩)
          · exact .inl (.inl h1)
          · rcases List.mem_cons.1 hq with rfl | hq
            · exact .inl (.inr h1)
            · exact .inr ⟨q,hq,h1⟩
    exact (key L (fun _ => False) (zer12,false) (fun _ h => h.elim) ⟨fun _ => ⟨rfl,fun _ h => h⟩,fun e => by simp at e⟩).congr fun r => ⟨fun h => h.elim False.elim id,.inr⟩
theorem fewR_same {Ls Ls' : List (List (List Int))} {s : List Int} (hs : s.length = 12) (h : ∀ r,Choice Ls s r ↔ Choice Ls' s r) : fewR Ls s = fewR Ls' s :=
  FewBest.one (fun r hr => choice_len hs hr) ((fewR_best Ls s hs).congr h) (fewR_best Ls' s hs)
def fewV (h : Hall) (s : List Int) : List Int × Bool := fewR (canonLs h) s
theorem fewV_eq {h : Hall} (hh : HouC h) {Ls : List (List (List Int))} (hA : AllOK h Ls) {s : List Int} (hs : s.length = 12) : fewR Ls s = fewV h s := fewR_same hs fun r => canon_same hh hA s r
theorem fewV_ok {h : Hall} (hh : HouC h) (hc : h.chk = true) {s : List Int} (hs : ShOK s) : ShOK (fewV h s).1 :=
  fewR_ok ((canon_ok hh).few hc hh.b (by have := cTo_len h h.machs.length; have := hh.m; unfold casesL; omega)) hs
theorem sig_all {P : Program} {f : FuncId} {h : Hall} {svs : List SV} {sv : SV} {X : List (Nat × Pred)} (H : ∀ Ls,AllOK h Ls → Sig P f svs [(0,PL (EP.sl (EArr 12)) Ls)] sv X) : Sig P f svs [(0,AllP h)] sv X := fun I w ν hI hX => by
  obtain ⟨⟨Ls,hA,hL⟩,_⟩ := hX
  exact H Ls hA I w ν hI ⟨hL,trivial⟩
end Go.Flong
namespace Go.Flong
open Go Go.Eng
theorem nthA1 {α : Type} [Inhabited α] {l : List α} {x : α} {i : Nat} (h : i < l.length) : nth (l ++ [x]) (i : Int) = nth l (i : Int) := by
  rw [nthG (by simp; omega),nthG h,List.getElem_append_left h]
theorem nthA2 {α : Type} [Inhabited α] {l : List α} {x : α} : nth (l ++ [x]) (l.length : Int) = x := by simp [nth,List.getD_eq_getElem?_getD]
theorem ext12 {a b : List Int} (ha : a.length = 12) (hb : b.length = 12) (h : ∀ k : Nat,k < 12 → nth a (k : Int) = nth b (k : Int)) : a = b := by
  apply List.ext_getElem
  · omega
  · intro i h1 h2
    have := h i (by omega)
    rwa [nthG h1,nthG h2] at this
theorem lset_nth {l : List Int} (hl : l.length = 12) {i : Nat} (hi : i < 12) (x : Int) (k : Nat) : nth (lset l (i : Int) x) (k : Int) = if k = i then x else nth l (k : Int) := by
  rw [nth_ls (by omega) (by omega) (k : Int) (by omega)]
  by_cases e : k = i
  · subst e; rw [if_pos rfl,if_pos rfl]
  · rw [if_neg (by omega),if_neg e]
structure CntOK (c : List Int) : Prop where
  len : c.length = 12
  b : ∀ k : Nat,k < 12 → 0 ≤ nth c (k : Int) ∧ nth c (k : Int) ≤ 9
theorem CntOK.sh {c : List Int} (h : CntOK c) : ShOK c := ⟨h.len,fun k hk => by have := h.b k hk; omega⟩
def plateAt (c : List Int) (i : Nat) : Plate := ⟨(i : Int).tdiv 3,(i : Int) % 3,nth c (i : Int)⟩
theorem plateAt_ok {c : List Int} (h : CntOK c) {i : Nat} (hi : i < 12) (h0 : 0 < nth c (i : Int)) : 0 ≤ (plateAt c i).page ∧ (plateAt c i).page ≤ 3 ∧ 0 ≤ (plateAt c i).bore ∧ (plateAt c i).bore ≤ 2 ∧ 1 ≤ (plateAt c i).many ∧ (plateAt c i).many ≤ 9 ∧ plc (plateAt c i).page (plateAt c i).bore = i := by
  have := h.b i hi
  unfold plateAt plc
  rw [Int.tdiv_eq_ediv_of_nonneg (by omega)]
  refine ⟨?_,?_,?_,?_,?_,?_,?_⟩ <;> simp only [] <;> omega
theorem setTo_at2 {c : List Int} (h : CntOK c) : ∀ {i : Nat},i ≤ 12 → ∀ j : Nat,j < (setTo c i).length → 0 ≤ (nth (setTo c i) (j : Int)).page ∧ (nth (setTo c i) (j : Int)).page ≤ 3 ∧ 0 ≤ (nth (setTo c i) (j : Int)).bore ∧ (nth (setTo c i) (j : Int)).bore ≤ 2 ∧ 1 ≤ (nth (setTo c i) (j : Int)).many ∧ (nth (setTo c i) (j : Int)).many ≤ 9 ∧ plc (nth (setTo c i) (j : Int)).page (nth (setTo c i) (j : Int)).bore < i
  | 0,_,j,hj => by simp [setTo] at hj
  | i + 1,hi,j,hj => by
    have ih := setTo_at2 h (i := i) (by omega)
    rw [setTo] at hj ⊢
    split at hj
    · rename_i h0
      rw [if_pos h0]
      rw [List.length_append,List.length_singleton] at hj
      by_cases e : j < (setTo c i).length
      · rw [nthA1 e]
        have := ih j e
        omega
      · have e2 : j = (setTo c i).length := by omega
        subst e2
        rw [nthA2]
        have := plateAt_ok h (i := i) (by omega) h0
        unfold plateAt at this
        omega
    · rename_i h0
      rw [if_neg h0]
      have := ih j hj
      omega
theorem setTo_set {c : List Int} (h : CntOK c) : ∀ {i : Nat},i ≤ 12 → isSet (setTo c i) = true
  | 0,_ => rfl
  | i + 1,hi => by
    have ih := setTo_set h (i := i) (by omega)
    have ha := setTo_at2 h (i := i) (by omega)
    rw [setTo]
    split
    · rename_i h0
      unfold isSet at ih ⊢
      refine allI_iff.2 fun j hj => ?_
      rw [List.length_append,List.length_singleton] at hj
      by_cases e : j < (setTo c i).length
      · have h1 := allI_iff.1 ih j e
        unfold setAt at h1 ⊢
        rw [nthA1 e]
        by_cases e0 : j = 0
        · subst e0; simpa using h1
        · rw [show (j : Int) - 1 = ((j - 1 : Nat) : Int) by omega] at h1 ⊢
          rw [nthA1 (by omega)]
          exact h1
      · have e2 : j = (setTo c i).length := by omega
        subst e2
        have h2 := plateAt_ok h (i := i) (by omega) h0
        unfold plateAt at h2
        unfold setAt
        rw [nthA2]
        rw [Bool.and_eq_true]
        constructor
        · unfold Plate.chk within
          simp only [Bool.and_eq_true,decide_eq_true_eq]
          simp only [] at h2
          omega
        · rw [Bool.not_eq_true',Bool.and_eq_false_iff]
          by_cases e0 : (setTo c i).length = 0
          · left; rw [e0]; simp
          · right
            rw [show ((setTo c i).length : Int) - 1 = (((setTo c i).length - 1 : Nat) : Int) by omega,nthA1 (by omega)]
            have h3 := ha ((setTo c i).length - 1) (by omega)
            rw [decide_eq_false_iff_not]
            omega
    · exact ih
theorem setOf_eq {c : List Int} (h : CntOK c) : setOf c = setTo c 12 := by unfold setOf; rw [h.len]
theorem setOf_set {c : List Int} (h : CntOK c) : isSet (setOf c) = true := by rw [setOf_eq h]; exact setTo_set h (Nat.le_refl _)
theorem setOf_len {c : List Int} (h : CntOK c) : (setOf c).length ≤ 12 := by rw [setOf_eq h]; exact setTo_len c 12
theorem setOf_pls {c : List Int} (h : CntOK c) : PlsOK (setOf c) := by
  refine ⟨by have := setOf_len h; omega,fun i hi => ?_⟩
  rw [setOf_eq h] at hi ⊢
  have := setTo_at2 h (Nat.le_refl _) i hi
  omega
theorem shelfTo_app {l : List Plate} {x : Plate} : ∀ {i : Nat},i ≤ l.length → shelfTo (l ++ [x]) i = shelfTo l i
  | 0,_ => rfl
  | i + 1,hi => by rw [shelfTo,shelfTo,shelfTo_app (by omega),nthA1 (by omega)]
theorem cntTo_app {l : List Plate} {x : Plate} : ∀ {i : Nat},i ≤ l.length → cntTo (l ++ [x]) i = cntTo l i
  | 0,_ => rfl
  | i + 1,hi => by rw [cntTo,cntTo,cntTo_app (by omega),nthA1 (by omega)]
theorem plTo_app {l : List Plate} {x : Plate} : ∀ {i : Nat},i ≤ l.length → plTo (l ++ [x]) i = plTo l i
  | 0,_ => rfl
  | i + 1,hi => by rw [plTo,plTo,plTo_app (by omega),nthA1 (by omega)]
theorem shelf_nth {c : List Int} (h : CntOK c) : ∀ {i : Nat},i ≤ 12 → ∀ k : Nat,k < 12 → nth (shelfTo (setTo c i) (setTo c i).length) (k : Int) = if k < i then nth c (k : Int) else 0
  | 0,_,k,hk => by rw [if_neg (by omega)]; exact zer_nth hk
  | i + 1,hi,k,hk => by
    have ih := shelf_nth h (i := i) (by omega) k hk
    have hb := h.b i (by omega)
    rw [setTo]
    split
    · rename_i h0
      have h2 := plateAt_ok h (i := i) (by omega) h0
      unfold plateAt at h2
      rw [List.length_append,List.length_singleton,shelfTo,shelfTo_app (Nat.le_refl _),nthA2]
      have e : (i : Int).tdiv 3 * 3 + (i : Int) % 3 = (i : Int) := by have := h2.2.2.2.2.2.2; unfold plc at this; exact this
      show nth (lset _ ((i : Int).tdiv 3 * 3 + (i : Int) % 3) (nth c (i : Int))) (k : Int) = _
      rw [e,lset_nth (shelfTo_len _ _) (by omega),ih]
      by_cases e1 : k = i
      · subst e1; rw [if_pos rfl,if_pos (by omega)]
      · rw [if_neg e1]
        by_cases e2 : k < i
        · rw [if_pos e2,if_pos (by omega)]
        · rw [if_neg e2,if_neg (by omega)]
    · rename_i h0
      rw [ih]
      by_cases e1 : k = i
      · subst e1; rw [if_neg (by omega),if_pos (by omega)]; omega
      · by_cases e2 : k < i
        · rw [if_pos e2,if_pos (by omega)]
        · rw [if_neg e2,if_neg (by omega)]
theorem shelf_set {c : List Int} (h : CntOK c) : shelf (setOf c) = c := by
  refine ext12 (shelfTo_len _ _) h.len fun k hk => ?_
  rw [setOf_eq h]
  have := shelf_nth h (Nat.le_refl 12) k hk
  rw [if_pos hk] at this
  exact this
theorem cnt_nth {c : List Int} (h : CntOK c) : ∀ {i : Nat},i ≤ 12 → ∀ k : Nat,k < 12 → nth (cntTo (setTo c i) (setTo c i).length) (k : Int) = if k < i then nth c (k : Int) else 0
  | 0,_,k,hk => by rw [if_neg (by omega)]; exact zer_nth hk
  | i + 1,hi,k,hk => by
    have ih := cnt_nth h (i := i) (by omega)
    have hb := h.b i (by omega)
    rw [setTo]
    split
    · rename_i h0
      have h2 := plateAt_ok h (i := i) (by omega) h0
      unfold plateAt at h2
      rw [List.length_append,List.length_singleton,cntTo,cntTo_app (Nat.le_refl _),nthA2]
      have e : plc ((i : Int).tdiv 3) ((i : Int) % 3) = (i : Int) := h2.2.2.2.2.2.2
      show nth (lset _ (plc ((i : Int).tdiv 3) ((i : Int) % 3)) (nth (cntTo (setTo c i) (setTo c i).length) (plc ((i : Int).tdiv 3) ((i : Int) % 3)) + nth c (i : Int))) (k : Int) = _
      rw [e,lset_nth (cntTo_len _ _) (by omega),ih k hk,ih i (by omega),if_neg (show ¬ i < i by omega)]
      by_cases e1 : k = i
      · subst e1; rw [if_pos rfl,if_pos (by omega)]; omega
      · rw [if_neg e1]
        by_cases e2 : k < i
        · rw [if_pos e2,if_pos (by omega)]
        · rw [if_neg e2,if_neg (by omega)]
    · rename_i h0
      rw [ih k hk]
      by_cases e1 : k = i
      · subst e1; rw [if_neg (by omega),if_pos (by omega)]; omega
      · by_cases e2 : k < i
        · rw [if_pos e2,if_pos (by omega)]
        · rw [if_neg e2,if_neg (by omega)]
theorem counts_set {c : List Int} (h : CntOK c) : countsR (setOf c) = c := by
  refine ext12 (cntTo_len _ _) h.len fun k hk => ?_
  rw [setOf_eq h]
  have := cnt_nth h (Nat.le_refl 12) k hk
  rw [if_pos hk] at this
  exact this
theorem pl_set {c : List Int} (h : CntOK c) : ∀ {i : Nat},i ≤ 12 → plTo (setTo c i) (setTo c i).length = sumS c i
  | 0,_ => rfl
  | i + 1,hi => by
    have ih := pl_set h (i := i) (by omega)
    have hb := h.b i (by omega)
    rw [setTo,sumS]
    split
    · rw [List.length_append,List.length_singleton,plTo,plTo_app (Nat.le_refl _),nthA2,ih]
    · rw [ih]; omega
theorem plates_set {c : List Int} (h : CntOK c) : plTo (setOf c) (setOf c).length = sumS c 12 := by rw [setOf_eq h]; exact pl_set h (Nat.le_refl _)
def mxTo (a b : List Int) : Nat → List Int
  | 0 => a
  | j + 1 => lset (mxTo a b j) (j : Int) (max (nth (mxTo a b j) (j : Int)) (nth b (j : Int)))
theorem mxTo_len (a b : List Int) : ∀ j,(mxTo a b j).length = a.length
  | 0 => rfl
  | j + 1 => by rw [mxTo,lset_len,mxTo_len a b j]
theorem mxTo_nth {a b : List Int} (ha : a.length = 12) : ∀ {j : Nat},j ≤ 12 → ∀ k : Nat,k < 12 → nth (mxTo a b j) (k : Int) = if k < j then max (nth a (k : Int)) (nth b (k : Int)) else nth a (k : Int)
  | 0,_,k,hk => by rw [if_neg (by omega)]; rfl
  | j + 1,hj,k,hk => by
    have ih := mxTo_nth (b := b) ha (j := j) (by omega)
    rw [mxTo,lset_nth (by rw [mxTo_len,ha]) (by omega),ih k hk,ih j (by omega),if_neg (show ¬ j < j by omega)]
    by_cases e1 : k = j
    · subst e1; rw [if_pos rfl,if_pos (by omega)]
    · rw [if_neg e1]
      by_cases e2 : k < j
      · rw [if_pos e2,if_pos (by omega)]
      · rw [if_neg e2,if_neg (by omega)]
def needC (h : Hall) (c : Int) : List Int := countsR (setOf (needL h (bpV h c).1))
def cntsTo (h : Hall) : Nat → List Int
  | 0 => countsR []
  | i + 1 => mxTo (cntsTo h i) (needC h (nth (casesL h) (i : Int))) 12
theorem cntsTo_len (h : Hall) : ∀ i,(cntsTo h i).length = 12
  | 0 => rfl
  | i + 1 => by rw [cntsTo,mxTo_len,cntsTo_len h i]
theorem needL_cnt {h : Hall} {p : Plan} (hc : h.chk = true) (hp : isPlanR h p = true) : CntOK (needL h p) := by
  have hC := hallC hc
  have hP := planQ hp
  have hH := houC (h := h) (by simp only [Hall.chk,Hall.hallHd,Bool.and_eq_true] at hc; exact hc.1.1.1.1.1)
  have hm := hH.m
  have hn := hP.n
  refine ⟨needTo_len _ _ _,fun k hk => ?_⟩
  have h1 := needTo_nth hC hP p.length (Nat.le_refl _) k hk
  unfold needL
  omega
theorem needC_eq {h : Hall} {c : Int} (hc : h.chk = true) (hp : isPlanR h (bpV h c).1 = true) : needC h c = needL h (bpV h c).1 := counts_set (needL_cnt hc hp)
theorem mx_nth {a b : List Int} (ha : a.length = 12) {k : Nat} (hk : k < 12) : nth (mxTo a b 12) (k : Int) = max (nth a (k : Int)) (nth b (k : Int)) := by rw [mxTo_nth ha (Nat.le_refl _) k hk,if_pos hk]
theorem cnts_ok {h : Hall} (hc : h.chk = true) : ∀ {n : Nat},n ≤ (casesL h).length → (∀ i : Nat,i < n → isPlanR h (bpV h (nth (casesL h) (i : Int))).1 = true) → CntOK (cntsTo h n) ∧ ∀ i : Nat,i < n → ∀ k : Nat,k < 12 → nth (needL h (bpV h (nth (casesL h) (i : Int))).1) (k : Int) ≤ nth (cntsTo h n) (k : Int)
  | 0,_,_ => ⟨⟨rfl,fun k hk => by
      have : nth (cntsTo h 0) (k : Int) = 0 := zer_nth hk
      omega⟩,fun i hi => absurd hi (Nat.not_lt_zero i)⟩
  | n + 1,hn,hp => by
    obtain ⟨h1,h2⟩ := cnts_ok hc (n := n) (by omega) fun i hi => hp i (by omega)
    have h3 := hp n (by omega)
    have h4 := needL_cnt hc h3
    have h5 : ∀ k : Nat,k < 12 → nth (cntsTo h (n + 1)) (k : Int) = max (nth (cntsTo h n) (k : Int)) (nth (needL h (bpV h (nth (casesL h) (n : Int))).1) (k : Int)) := fun k hk => by
      rw [cntsTo,mx_nth (cntsTo_len h n) hk,needC_eq hc h3]
    refine ⟨⟨cntsTo_len h _,fun k hk => ?_⟩,fun i hi k hk => ?_⟩
    · rw [h5 k hk]
      have := h1.b k hk
      have := h4.b k hk
      omega
    · rw [h5 k hk]
      by_cases e : i = n
      · subst e; omega
      · have := h2 i (by omega) k hk
        omega
end Go.Flong
namespace Go.Flong
open Go Go.Eng
theorem bpTo_in {h : Hall} {stop : Int} : ∀ {g : Nat},g ≤ (plansV h stop).length → 0 ≤ (bpTo h stop g).2 ∧ ((bpTo h stop g).2 = 0 → (bpTo h stop g).1 ∈ plansV h stop ∧ popc (lateP h (bpTo h stop g).1) = 0)
  | 0,_ => ⟨by show (0 : Int) ≤ (h.trains.length : Int) + 1; omega,fun e => by
      have e : (h.trains.length : Int) + 1 = 0 := e
      omega⟩
  | g + 1,hg => by
    obtain ⟨h1,h2⟩ := bpTo_in (h := h) (stop := stop) (g := g) (by omega)
    rw [bpTo]
    split
    · exact ⟨h1,h2⟩
    · split
      · refine ⟨by simp only []; omega,fun e => ?_⟩
        simp only [] at e ⊢
        exact ⟨nth_mem (by omega) (by omega),by omega⟩
      · exact ⟨h1,h2⟩
theorem bpTo_hit {h : Hall} {stop : Int} {g0 : Nat} (h0 : popc (lateP h (nth (plansV h stop) (g0 : Int))) = 0) (hg : g0 < (plansV h stop).length) : (bpTo h stop (plansV h stop).length).2 = 0 := by
  have h1 := (bpTo_in (h := h) (stop := stop) (g := g0) (by omega)).1
  have h2 : (bpTo h stop (g0 + 1)).2 = 0 := by
    rw [bpTo]
    split
    · assumption
    · rename_i hn
      split
      · simp only []; omega
      · rename_i h3; rw [h0] at h3; omega
  rw [bpTo_stay h2 (by omega)]
  exact h2
theorem bpV_sure {h : Hall} {stop : Int} (hh : HouC h) (hs : sureC h stop = true) : (bpV h stop).1 ∈ plansV h stop ∧ lateP h (bpV h stop).1 = 0 := by
  unfold sureC at hs
  obtain ⟨p,hp,h0⟩ := List.any_eq_true.1 hs
  obtain ⟨g,hg,rfl⟩ := List.mem_iff_getElem.1 hp
  rw [decide_eq_true_eq] at h0
  have h1 := bpTo_hit (h := h) (stop := stop) (g0 := g) (by rw [nthG hg]; exact (lst_ok (lateP_b hh _)).2.1.2 h0) hg
  obtain ⟨h2,h3⟩ := (bpTo_in (h := h) (stop := stop) (Nat.le_refl _)).2 h1
  exact ⟨h2,(lst_ok (lateP_b hh _)).2.1.1 h3⟩
theorem sure_case {h : Hall} (hs : sureV h = true) {i : Nat} (hi : i < (casesL h).length) : sureC h (nth (casesL h) (i : Int)) = true := by
  rw [sureV,List.all_eq_true] at hs
  exact hs _ (nth_mem (by omega) (by omega))
theorem bp_is {h : Hall} {stop : Int} (hh : HouC h) (hs : sureC h stop = true) : isPlanR h (bpV h stop).1 = true := plansV_is hh.b (bpV_sure hh hs).1
theorem bp_rows {h : Hall} {stop : Int} (hh : HouC h) (hs : sureC h stop = true) : RowsP (bpV h stop).1 := by
  have hm := hh.m
  exact planI_rows (plansV_in hh.b (bpV_sure hh hs).1) (by omega)
def leS (a b : List Int) : Prop := ∀ k : Nat,k < 12 → nth a (k : Int) ≤ nth b (k : Int)
theorem leS.rfl' {a : List Int} : leS a a := fun _ _ => Int.le_refl _
theorem leS.trans {a b c : List Int} (h1 : leS a b) (h2 : leS b c) : leS a c := fun k hk => Int.le_trans (h1 k hk) (h2 k hk)
theorem key12_nth {l : List Int} {k : Nat} (hk : k < 12) : nth (key12 l) (k : Int) = nth l (k : Int) := by
  rcases (show k = 0 ∨ k = 1 ∨ k = 2 ∨ k = 3 ∨ k = 4 ∨ k = 5 ∨ k = 6 ∨ k = 7 ∨ k = 8 ∨ k = 9 ∨ k = 10 ∨ k = 11 by omega) with rfl | rfl | rfl | rfl | rfl | rfl | rfl | rfl | rfl | rfl | rfl | rfl <;> rfl
theorem key12_eq {a b : List Int} : key12 a = key12 b ↔ ∀ k : Nat,k < 12 → nth a (k : Int) = nth b (k : Int) := by
  constructor
  · intro h k hk
    rw [← key12_nth (l := a) hk,← key12_nth (l := b) hk,h]
  · intro h
    refine ext12 rfl rfl fun k hk => ?_
    rw [key12_nth hk,key12_nth hk,h k hk]
theorem zer_key : zer12 = key12 zer12 := by decide
theorem hasV_iff {a b : List Int} : hasV a b = true ↔ leS b a := by
  unfold hasV
  rw [decide_eq_true_eq,zer_key,key12_eq]
  have e : ∀ k : Nat,k < 12 → nth (missL a b) (k : Int) = max 0 (nth b (k : Int) - nth a (k : Int)) := fun k hk => eachG_nth _ _ _ 12 (Nat.le_refl _) k hk
  constructor
  · intro h k hk
    have := h k hk
    rw [e k hk,zer_nth hk] at this
    omega
  · intro h k hk
    rw [e k hk,zer_nth hk]
    have := h k hk
    omega
theorem join_nth {a b : List Int} {k : Nat} (hk : k < 12) : nth (joinL a b) (k : Int) = max (nth a (k : Int)) (nth b (k : Int)) := eachG_nth _ _ _ 12 (Nat.le_refl _) k hk
theorem sum_mono {a b : List Int} (h : leS a b) : ∀ n : Nat,n ≤ 12 → sumS a n ≤ sumS b n
  | 0,_ => Int.le_refl _
  | n + 1,hn => by
    have h1 := sum_mono h n (by omega)
    have h2 := h n (by omega)
    rw [sumS,sumS]; omega
theorem sum_less {a b : List Int} (h : leS a b) : ∀ n : Nat,n ≤ 12 → sumS a n < sumS b n ∨ ∀ k : Nat,k < n → nth a (k : Int) = nth b (k : Int)
  | 0,_ => .inr fun k hk => absurd hk (Nat.not_lt_zero k)
  | n + 1,hn => by
    have h2 := h n (by omega)
    have h3 := sum_mono h n (by omega)
    rw [sumS,sumS]
    rcases sum_less h n (by omega) with h1 | h1
    · left; omega
    · by_cases e : nth a (n : Int) = nth b (n : Int)
      · right
        intro k hk
        by_cases e2 : k = n
        · subst e2; exact e
        · exact h1 k (by omega)
      · left; omega
theorem least_below {l : MapL} : ∀ (n : Nat) (m : Nat),m < l.length → (∀ k : Nat,k < l.length → 0 ≤ sumS (keyAt l k) 12) → (sumS (keyAt l m) 12).toNat < n → ∃ q,q < l.length ∧ leastB l q = true ∧ leS (keyAt l q) (keyAt l m)
  | 0,_,_,_,h => absurd h (Nat.not_lt_zero _)
  | n + 1,m,hm,h0,hn => by
    by_cases hl : leastB l m = true
    · exact ⟨m,hm,hl,leS.rfl'⟩
    · have hl : leastB l m = false := by simpa using hl
      unfold leastB at hl
      rw [List.all_eq_false] at hl
      obtain ⟨q,hq,hf⟩ := hl
      rw [List.mem_range] at hq
      have hf : lessB l m q = false := by simpa using hf
      unfold lessB at hf
      rw [Bool.or_eq_false_iff,decide_eq_false_iff_not,Bool.not_eq_false'] at hf
      obtain ⟨h1,h2⟩ := hf
      have h3 := hasV_iff.1 h2
      have h4 : sumS (keyAt l q) 12 < sumS (keyAt l m) 12 := by
        rcases sum_less h3 12 (Nat.le_refl _) with h4 | h4
        · exact h4
        · exact absurd (key12_eq.2 fun k hk => (h4 k hk).symm) h1
      have h5 := h0 q hq
      obtain ⟨r,hr,hr1,hr2⟩ := least_below n q hq h0 (by omega)
      exact ⟨r,hr,hr1,hr2.trans h3⟩
theorem needM_below {h : Hall} {stop : Int} (hc : h.chk = true) (hB : h.buns.length ≤ 5) {m : Nat} (hm : m < (needM h stop).length) : ∃ q,q < (needM h stop).length ∧ leastB (needM h stop) q = true ∧ leS (keyAt (needM h stop) q) (keyAt (needM h stop) m) :=
  least_below _ m hm (fun k hk => (sumS_b (needM_ok hc hB hk) 12 (Nat.le_refl _)).1) (Nat.lt_succ_self _)
def canonC (h : Hall) (c : Int) : List (List Int) := outN (needM h c) (List.range (needM h c).length)
theorem canonC_mem {h : Hall} {c : Int} {x : List Int} : x ∈ canonC h c ↔ ∃ m,m < (needM h c).length ∧ leastB (needM h c) m = true ∧ x = keyAt (needM h c) m := by
  unfold canonC outN
  rw [List.mem_map]
  constructor
  · rintro ⟨m,hm,rfl⟩
    rw [List.mem_filter,List.mem_range] at hm
    exact ⟨m,hm.1,hm.2,rfl⟩
  · rintro ⟨m,h1,h2,rfl⟩
    exact ⟨m,List.mem_filter.2 ⟨List.mem_range.2 h1,h2⟩,rfl⟩
theorem sure_need {h : Hall} {c : Int} : sureC h c = true ↔ 0 < (needM h c).length := by
  unfold sureC
  rw [List.any_eq_true]
  constructor
  · rintro ⟨p,hp,h0⟩
    rw [decide_eq_true_eq] at h0
    have : key12 (needL h p) ∈ keysL (needM h c) := keys_vis.2 (.inr ⟨p,hp,h0,rfl⟩)
    obtain ⟨m,hm,_⟩ := key_at this
    omega
  · intro hm
    rcases keys_vis.1 (keyAt_in (l := needM h c) hm) with h1 | ⟨p,hp,h0,_⟩
    · simp [keysL] at h1
    · exact ⟨p,hp,decide_eq_true h0⟩
theorem canon_sure {h : Hall} {c : Int} (hc : h.chk = true) (hB : h.buns.length ≤ 5) : sureC h c = true ↔ ∃ t,t ∈ canonC h c := by
  rw [sure_need]
  constructor
  · intro hm
    obtain ⟨q,h1,h2,_⟩ := needM_below hc hB hm
    exact ⟨_,canonC_mem.2 ⟨q,h1,h2,rfl⟩⟩
  · rintro ⟨t,ht⟩
    obtain ⟨m,hm,_⟩ := canonC_mem.1 ht
    omega
theorem choice_ex : ∀ {Ls : List (List (List Int))} {s : List Int},(∃ r,Choice Ls s r) ↔ ∀ L ∈ Ls,∃ t,t ∈ L
  | [],s => ⟨fun _ L h => absurd h List.not_mem_nil,fun _ => ⟨s,rfl⟩⟩
  | L :: Ls,s => by
    constructor
    · rintro ⟨r,t,ht,hr⟩ M hM
      rcases List.mem_cons.1 hM with rfl | hM
      · exact ⟨t,ht⟩
      · exact (choice_ex (Ls := Ls) (s := joinL s t)).1 ⟨r,hr⟩ M hM
    · intro hh
      obtain ⟨t,ht⟩ := hh L List.mem_cons_self
      obtain ⟨r,hr⟩ := (choice_ex (Ls := Ls) (s := joinL s t)).2 fun M hM => hh M (List.mem_cons_of_mem _ hM)
      exact ⟨r,t,ht,hr⟩
theorem canon_mem {h : Hall} {L : List (List Int)} : L ∈ canonLs h ↔ ∃ c ∈ casesL h,L = canonC h c := by
  unfold canonLs canonC
  rw [List.mem_map]
  constructor
  · rintro ⟨c,hc,rfl⟩; exact ⟨c,hc,rfl⟩
  · rintro ⟨c,hc,rfl⟩; exact ⟨c,hc,rfl⟩
theorem few_sure {h : Hall} (hc : h.chk = true) (hB : h.buns.length ≤ 5) {s : List Int} (hs : s.length = 12) : (fewV h s).2 = sureV h := by
  have hb := fewR_best (canonLs h) s hs
  rw [Bool.eq_iff_iff,sureV,List.all_eq_true]
  constructor
  · intro h1 c hcc
    exact (canon_sure hc hB).2 (choice_ex.1 ⟨_,(hb.t h1).1⟩ _ (canon_mem.2 ⟨c,hcc,rfl⟩))
  · intro h1
    cases h2 : (fewV h s).2 with
    | true => rfl
    | false =>
      exfalso
      obtain ⟨r,hr⟩ := (choice_ex (Ls := canonLs h) (s := s)).2 fun L hL => by
        obtain ⟨c,hcc,rfl⟩ := canon_mem.1 hL
        exact (canon_sure hc hB).1 (h1 c hcc)
      exact (hb.f h2).2 r hr
theorem choice_ge : ∀ {Ls : List (List (List Int))} {s r : List Int},Choice Ls s r → leS s r
  | [],s,r,h => by rw [show r = s from h]; exact leS.rfl'
  | L :: Ls,s,r,⟨t,_,h⟩ => by
    have h1 : leS s (joinL s t) := fun k hk => by rw [join_nth hk]; omega
    exact h1.trans (choice_ge (Ls := Ls) h)
theorem choice_le {C : List Int} : ∀ {Ls : List (List (List Int))} {s : List Int},leS s C → (∀ L ∈ Ls,∃ t,t ∈ L ∧ leS t C) → ∃ r,Choice Ls s r ∧ leS r C
  | [],s,h,_ => ⟨s,rfl,h⟩
  | L :: Ls,s,h,hh => by
    obtain ⟨t,ht,h1⟩ := hh L List.mem_cons_self
    obtain ⟨r,hr,h2⟩ := choice_le (C := C) (Ls := Ls) (s := joinL s t) (fun k hk => by
      rw [join_nth hk]
      have := h k hk
      have := h1 k hk
      omega) fun M hM => hh M (List.mem_cons_of_mem _ hM)
    exact ⟨r,⟨t,ht,hr⟩,h2⟩
def extV (h : Hall) (s : List Int) : Int := if (fewV h s).2 = true then sumS (fewV h s).1 12 - sumS s 12 else 0
def extE (h : Hall) (s : List Int) : Int := if (fewV h s).2 = true then 0 else 3
structure AllDo (h : Hall) (C : List Int) : Prop where
  l : C.length = 12
  t : ∀ c ∈ casesL h,∃ t,t ∈ canonC h c ∧ leS t C
theorem AllDo.few {h : Hall} {C : List Int} (hA : AllDo h C) {s : List Int} (hs : s.length = 12) (hl : leS s C) : (fewV h s).2 = true ∧ sumS (fewV h s).1 12 ≤ sumS C 12 := by
  obtain ⟨r,h1,h2⟩ := choice_le hl fun L hL => by
    obtain ⟨c,hcc,rfl⟩ := canon_mem.1 hL
    exact hA.t c hcc
  have hi := fewR_inv (canonLs h) s
  have h3 : (fewV h s).2 = true := by
    cases h4 : (fewV h s).2 with
    | true => rfl
    | false => exact absurd h1 (hi.f h4 r)
  have h5 := (hi.t h3).2 r h1
  have h6 := sum_mono h2 12 (Nat.le_refl _)
  exact ⟨h3,Int.le_trans h5 h6⟩
theorem AllDo.ex {h : Hall} {C : List Int} (hA : AllDo h C) : extV h C = 0 ∧ extE h C = 0 := by
  obtain ⟨h1,h2⟩ := hA.few hA.l leS.rfl'
  have h3 := sum_mono (choice_ge ((fewR_inv (canonLs h) C).t h1).1) 12 (Nat.le_refl _)
  have h3 : sumS C 12 ≤ sumS (fewV h C).1 12 := h3
  unfold extV extE
  rw [if_pos h1,if_pos h1]
  exact ⟨by omega,rfl⟩
theorem AllDo.zer {h : Hall} {C : List Int} (hA : AllDo h C) (h0 : leS zer12 C) : extV h zer12 ≤ sumS C 12 ∧ extE h zer12 = 0 := by
  obtain ⟨h1,h2⟩ := hA.few rfl h0
  unfold extV extE
  rw [if_pos h1,if_pos h1]
  have : sumS zer12 12 = 0 := by decide
  exact ⟨by omega,rfl⟩
theorem AllDo.lack {h : Hall} {C : List Int} (hA : AllDo h C) : ∀ {n : Nat},n ≤ (casesL h).length → lackTo h C n = []
  | 0,_ => rfl
  | n + 1,hn => by
    obtain ⟨t,ht,hl⟩ := hA.t _ (nth_mem (l := casesL h) (i := (n : Int)) (by omega) (by omega))
    obtain ⟨m,h1,h2,rfl⟩ := canonC_mem.1 ht
    rw [lackTo,if_pos,hA.lack (by omega)]
    rw [doesN,List.any_eq_true]
    exact ⟨m,List.mem_range.2 h1,by rw [h2,hasV_iff.2 hl]; rfl⟩
theorem cnts_do {h : Hall} (hc : h.chk = true) (hh : HouC h) (hs : sureV h = true) : AllDo h (cntsTo h (casesL h).length) ∧ CntOK (cntsTo h (casesL h).length) := by
  obtain ⟨h1,h2⟩ := cnts_ok hc (Nat.le_refl _) fun i hi => bp_is hh (sure_case hs hi)
  refine ⟨⟨h1.len,fun c hcc => ?_⟩,h1⟩
  obtain ⟨i,hi,rfl⟩ := mem_nth.1 hcc
  obtain ⟨h3,h4⟩ := bpV_sure hh (sure_case hs hi)
  have h5 : key12 (needL h (bpV h (nth (casesL h) (i : Int))).1) ∈ keysL (needM h (nth (casesL h) (i : Int))) := keys_vis.2 (.inr ⟨_,h3,h4,rfl⟩)
  obtain ⟨m,hm,e⟩ := key_at h5
  obtain ⟨q,h6,h7,h8⟩ := needM_below hc hh.b hm
  refine ⟨_,canonC_mem.2 ⟨q,h6,h7,rfl⟩,h8.trans ?_⟩
  rw [e]
  intro k hk
  rw [key12_nth hk]
  exact h2 i hi k hk
end Go.Flong
namespace Go.Flong
open Go Go.Eng
theorem farV_small {h : Hall} (hf : farV h = false) : h.Small := by
  unfold farV at hf
  rw [Bool.or_eq_false_iff] at hf
  exact hugeH_small hf.1
theorem chk_house {h : Hall} (hc : h.chk = true) : h.house = true := by simp only [Hall.chk,Hall.hallHd,Bool.and_eq_true] at hc; exact hc.1.1.1.1.1
theorem noPls : PlsOK [] := ⟨by simp,fun i hi => absurd hi (Nat.not_lt_zero i)⟩
theorem exL_small : exL.Small := ⟨by decide,by decide,by decide,by decide,by decide,fun i hi => exK_small.p i hi⟩
theorem exL_chk : exL.chk = true := by decide
theorem exL_sure : sureV exL = true := by decide +kernel
theorem exL_few : extV exL zer12 = 3 ∧ extE exL zer12 = 0 := by decide +kernel
theorem ext_sure {h : Hall} (hc : h.chk = true) : extE h zer12 = if sureV h = true then 0 else 3 := by
  unfold extE
  rw [few_sure hc (houC (chk_house hc)).b rfl]
theorem cnts_zer {h : Hall} {n : Nat} (hk : CntOK (cntsTo h n)) : leS zer12 (cntsTo h n) := fun k hk2 => by
  rw [zer_nth hk2]
  exact (hk.b k hk2).1
end Go.Flong
namespace Go.Proofs.Ytjnjiemaoinblaa
open Go Go.Eng Go.Flong Go.ChangeShapes Go.WideShapes
theorem own : ownKnob Try.prog.godebug = none := by kernel_rfl
theorem laidOut : laidOutB Try.prog = true := by kernel_rfl
theorem Y3 : Flat Try.prog 3 [.i] := Flat.int Try.underlying3 (by kernel_rfl)
theorem Y68 : Flat Try.prog 68 [.i,.i,.i] := Flat.struct (ls := [Leaf.i] ++ ([Leaf.i] ++ ([Leaf.i] ++ []))) Try.underlying68 (.cons rfl Y3 (.cons rfl Y3 (.cons rfl Y3 .nil))) (by kernel_rfl)
theorem Y58 : Flat Try.prog 58 [.i,.i,.i] := Flat.struct (ls := [Leaf.i] ++ ([Leaf.i] ++ ([Leaf.i] ++ []))) Try.underlying58 (.cons rfl Y3 (.cons rfl Y3 (.cons rfl Y3 .nil))) (by kernel_rfl)
theorem X68 : ReadsE Try.prog 68 ETm := ⟨by rw [Y68.cells]; rfl,by decide,fun enc w fuel cs x hx => by
  have h := Y68.ok enc w fuel cs x hx
  match cs,h with
  | [_,_,_],⟨⟨a,rfl⟩,⟨b,rfl⟩,⟨c,rfl⟩,_⟩ => exact ⟨⟨a,b,c⟩,rfl,rfl,rfl,trivial⟩⟩
theorem X58 : ReadsE Try.prog 58 EBd := ⟨by rw [Y58.cells]; rfl,by decide,fun enc w fuel cs x hx => by
  have h := Y58.ok enc w fuel cs x hx
  match cs,h with
  | [_,_,_],⟨⟨a,rfl⟩,⟨b,rfl⟩,⟨c,rfl⟩,_⟩ => exact ⟨⟨a,b,c⟩,rfl,rfl,rfl,trivial⟩⟩
theorem X3 : ReadsE Try.prog 3 EP.int := ReadsE.int Try.underlying3 (by kernel_rfl)
theorem Y22 : Flat Try.prog 22 [.s ETm] := Flat.slice Try.underlying22 (by kernel_rfl) X68
theorem Y23 : Flat Try.prog 23 [.s EBd] := Flat.slice Try.underlying23 (by kernel_rfl) X58
theorem Y24 : Flat Try.prog 24 [.s EP.int] := Flat.slice Try.underlying24 (by kernel_rfl) X3
theorem X24 : ReadsE Try.prog 24 (EP.sl EP.int) := ReadsE.slice Try.underlying24 (by kernel_rfl) X3
theorem Y27 : Flat Try.prog 27 [.s (EP.sl EP.int)] := Flat.slice Try.underlying27 (by kernel_rfl) X24
theorem Y26 : Flat Try.prog 26 [.s ETm,.s EBd,.s EP.int,.i] := Flat.struct (ls := [Leaf.s ETm] ++ ([Leaf.s EBd] ++ ([Leaf.s EP.int] ++ ([Leaf.i] ++ [])))) Try.underlying26 (.cons rfl Y22 (.cons rfl Y23 (.cons rfl Y24 (.cons rfl Y3 .nil)))) (by kernel_rfl)
theorem Y29 : Flat Try.prog 29 [.s ETm,.s EBd,.s EP.int,.i,.s EP.int,.s (EP.sl EP.int)] := Flat.struct (ls := [Leaf.s ETm,.s EBd,.s EP.int,.i] ++ ([Leaf.s EP.int] ++ ([Leaf.s (EP.sl EP.int)] ++ []))) Try.underlying29 (.cons rfl Y26 (.cons rfl Y24 (.cons rfl Y27 .nil))) (by kernel_rfl)
structure HallOK (I : IH) (h : Hall) (a b c d e : Value) : Prop where
  m : (PL ETm h.machs).h I a
  b : (PL EBd h.buns).h I b
  t : (PL EP.int h.trains).h I c
  o : (PL EP.int h.bores).h I d
  e : (PL (EP.sl EP.int) h.eds).h I e
theorem hall_leaf {I : IH} {v : Value} {cs : Array Value} (hv : v = .agg cs) (h : LeafOK I (Value.agg cs).cells.toList [.s ETm,.s EBd,.s EP.int,.i,.s EP.int,.s (EP.sl EP.int)]) : ∃ (k : Hall) (a b c d e : Value),v = .agg #[a,b,c,.int .i64 k.change,d,e] ∧ HallOK I k a b c d e := by
  obtain ⟨l⟩ := cs
  have g0 : LeafOK I l _ := h
  obtain ⟨a,xa,l1,e1,ha,g1⟩ := g0.uns
  obtain ⟨b,xb,l2,e2,hb,g2⟩ := g1.uns
  obtain ⟨c,xc,l3,e3,hc,g3⟩ := g2.uns
  obtain ⟨n,l4,e4,g4⟩ := g3.uni
  obtain ⟨d,xd,l5,e5,hd,g5⟩ := g4.uns
  obtain ⟨e,xe,l6,e6,he,g6⟩ := g5.uns
  have e7 := g6.un0
  subst e7 e6 e5 e4 e3 e2 e1
  exact ⟨⟨xa,xb,xc,n,xd,xe⟩,a,b,c,d,e,hv,ha,hb,hc,hd,he⟩
section
variable {H : Type} {enc : TypeId × Value → H} {W : World} {base : Nat} {v : Value} {d : DataW H} {p : List MemPlace}
set_option maxRecDepth 100000 in
theorem argHall (h : Value.okWide Try.prog W .any base 29 v) (ht : DataW.Trod enc Try.prog W 0 (fun _ => true) true 29 v d p) : ∃ (k : Hall) (a b c d e : Value),v = .agg #[a,b,c,.int .i64 k.change,d,e] ∧ HallOK (World.all W) k a b c d e := by
  obtain ⟨cs,hv,_⟩ := okWide_struct Try.underlying29 h
  obtain ⟨fuel,hf⟩ := ht
  have h1 := Y29.ok enc W fuel _ _ hf
  rw [hv] at h1
  exact hall_leaf hv h1
end
def nuL (l : List Value) (n : Nat) : Value := l.getD n undef
end Go.Proofs.Ytjnjiemaoinblaa
