/-
  No cell of these rows narrows 'for every input' (looked for: loops, veiled, ifaces, maps, wideKeys, modest, calm, conditions, laid).
  DERIVED. THE GIVEN ROWS OF THIS SEAT. 12 by the template 'for every input the law returns true; each argument reads behind the call as it read before'; 0 by the template 'total and deterministic' (their statements: YtgdaeapahfjobaaTotals.lean).
  GIVEN WITH THE SEED: the statements are not yours to turn. If you find one false, say at which input.
  Laid BY PROGRAM, IN A SANDBOX (cutbox-rows.mjs): the forced cells as the released guide's own fill.sh prints them over the translation c400debd4f72d3fd… (all of the seat's roots in one cut). By AI agents, Wed Nov 11 2026. No macro, syntax, notation, axiom, sorry.
-/
import Derived.Test.YtgdaeapahfjobaaChecked
import GoSem.Claim
import GoSem.ClaimJoined
import GoSem.ClaimMapViews
import Derived.JoinedTies
import Derived.KernelRfl
namespace Go.Proofs.Ytgdaeapahfjobaa
/- THE CELL 'sum', in the pinned program and in every row, IS THE sha256 OF THE DUMP (.gsa) THAT YtgdaeapahfjobaaProg.lean LOADS. Nothing in Lean hashes anything: it is a label: what it is worth is what the hold of that sum in a sandbox is worth. -/
noncomputable def Try.pinned : Pinned := { name := "ytgdaeapahfjobaa", sum := "c400debd4f72d3fd5cfe31de00f08e01ada0399c83e395ad1c645ae5d7d0a250", checked := Try.checked }
namespace Rows
def none {H : Type} : Left H := { results := [], args := [] }

/-- 'flonglaw01.MetalClearer': WHATEVER THE INPUT: true; the input reads as it did. -/
def metalClearerSpec : ChangeSpec := { name := "metalClearer", fn := fun _ => fun
  | [d1, d2, d3] => { results := [.lit (.bool true)], args := [d1, d2, d3] }
  | _ => none }
def metalClearerRow : OpenClaim := { program := "ytgdaeapahfjobaa", sum := "c400debd4f72d3fd5cfe31de00f08e01ada0399c83e395ad1c645ae5d7d0a250", func := "flong/flonglaw01.MetalClearer", spec := "metalClearer", unfollowed := true, recurses := true, apart := false }
def MetalClearerSaid : Prop := metalClearerRow.holds Try.pinned (OpenSpec.ofChange metalClearerSpec)

/-- ITS FALSE NEIGHBOUR: 'it returns false'. Refute it at one input. -/
def metalClearerWrong : ChangeSpec := { name := "metalClearer", fn := fun _ => fun
  | [d1, d2, d3] => { results := [.lit (.bool false)], args := [d1, d2, d3] }
  | _ => none }
def MetalClearerWrongFalsely : Prop := metalClearerRow.holds Try.pinned (OpenSpec.ofChange metalClearerWrong)

/-- 'flonglaw01.MetalWider': WHATEVER THE INPUT: true; the input reads as it did. -/
def metalWiderSpec : ChangeSpec := { name := "metalWider", fn := fun _ => fun
  | [d1, d2, d3] => { results := [.lit (.bool true)], args := [d1, d2, d3] }
  | _ => none }
def metalWiderRow : OpenClaim := { program := "ytgdaeapahfjobaa", sum := "c400debd4f72d3fd5cfe31de00f08e01ada0399c83e395ad1c645ae5d7d0a250", func := "flong/flonglaw01.MetalWider", spec := "metalWider", unfollowed := true, recurses := true, apart := false }
def MetalWiderSaid : Prop := metalWiderRow.holds Try.pinned (OpenSpec.ofChange metalWiderSpec)

/-- ITS FALSE NEIGHBOUR: 'it returns false'. Refute it at one input. -/
def metalWiderWrong : ChangeSpec := { name := "metalWider", fn := fun _ => fun
  | [d1, d2, d3] => { results := [.lit (.bool false)], args := [d1, d2, d3] }
  | _ => none }
def MetalWiderWrongFalsely : Prop := metalWiderRow.holds Try.pinned (OpenSpec.ofChange metalWiderWrong)

/-- 'flonglaw01.MetalMore': WHATEVER THE INPUT: true; the input reads as it did. -/
def metalMoreSpec : ChangeSpec := { name := "metalMore", fn := fun _ => fun
  | [d1, d2, d3] => { results := [.lit (.bool true)], args := [d1, d2, d3] }
  | _ => none }
def metalMoreRow : OpenClaim := { program := "ytgdaeapahfjobaa", sum := "c400debd4f72d3fd5cfe31de00f08e01ada0399c83e395ad1c645ae5d7d0a250", func := "flong/flonglaw01.MetalMore", spec := "metalMore", unfollowed := true, recurses := true, apart := false }
def MetalMoreSaid : Prop := metalMoreRow.holds Try.pinned (OpenSpec.ofChange metalMoreSpec)

/-- ITS FALSE NEIGHBOUR: 'it returns false'. Refute it at one input. -/
def metalMoreWrong : ChangeSpec := { name := "metalMore", fn := fun _ => fun
  | [d1, d2, d3] => { results := [.lit (.bool false)], args := [d1, d2, d3] }
  | _ => none }
def MetalMoreWrongFalsely : Prop := metalMoreRow.holds Try.pinned (OpenSpec.ofChange metalMoreWrong)

/-- 'flonglaw01.MetalLead': WHATEVER THE INPUT: true; the input reads as it did. -/
def metalLeadSpec : ChangeSpec := { name := "metalLead", fn := fun _ => fun
  | [d1, d2, d3] => { results := [.lit (.bool true)], args := [d1, d2, d3] }
  | _ => none }
def metalLeadRow : OpenClaim := { program := "ytgdaeapahfjobaa", sum := "c400debd4f72d3fd5cfe31de00f08e01ada0399c83e395ad1c645ae5d7d0a250", func := "flong/flonglaw01.MetalLead", spec := "metalLead", unfollowed := true, recurses := true, apart := false }
def MetalLeadSaid : Prop := metalLeadRow.holds Try.pinned (OpenSpec.ofChange metalLeadSpec)

/-- ITS FALSE NEIGHBOUR: 'it returns false'. Refute it at one input. -/
def metalLeadWrong : ChangeSpec := { name := "metalLead", fn := fun _ => fun
  | [d1, d2, d3] => { results := [.lit (.bool false)], args := [d1, d2, d3] }
  | _ => none }
def MetalLeadWrongFalsely : Prop := metalLeadRow.holds Try.pinned (OpenSpec.ofChange metalLeadWrong)

/-- 'flonglaw01.MetalTurned': WHATEVER THE INPUT: true; the input reads as it did. -/
def metalTurnedSpec : ChangeSpec := { name := "metalTurned", fn := fun _ => fun
  | [d1, d2] => { results := [.lit (.bool true)], args := [d1, d2] }
  | _ => none }
def metalTurnedRow : OpenClaim := { program := "ytgdaeapahfjobaa", sum := "c400debd4f72d3fd5cfe31de00f08e01ada0399c83e395ad1c645ae5d7d0a250", func := "flong/flonglaw01.MetalTurned", spec := "metalTurned", unfollowed := true, recurses := true, apart := false }
def MetalTurnedSaid : Prop := metalTurnedRow.holds Try.pinned (OpenSpec.ofChange metalTurnedSpec)

/-- ITS FALSE NEIGHBOUR: 'it returns false'. Refute it at one input. -/
def metalTurnedWrong : ChangeSpec := { name := "metalTurned", fn := fun _ => fun
  | [d1, d2] => { results := [.lit (.bool false)], args := [d1, d2] }
  | _ => none }
def MetalTurnedWrongFalsely : Prop := metalTurnedRow.holds Try.pinned (OpenSpec.ofChange metalTurnedWrong)

/-- 'flonglaw01.MetalAnalysis': WHATEVER THE INPUT: true; the input reads as it did. -/
def metalAnalysisSpec : ChangeSpec := { name := "metalAnalysis", fn := fun _ => fun
  | [d1, d2] => { results := [.lit (.bool true)], args := [d1, d2] }
  | _ => none }
def metalAnalysisRow : OpenClaim := { program := "ytgdaeapahfjobaa", sum := "c400debd4f72d3fd5cfe31de00f08e01ada0399c83e395ad1c645ae5d7d0a250", func := "flong/flonglaw01.MetalAnalysis", spec := "metalAnalysis", unfollowed := true, recurses := true, apart := false }
def MetalAnalysisSaid : Prop := metalAnalysisRow.holds Try.pinned (OpenSpec.ofChange metalAnalysisSpec)

/-- ITS FALSE NEIGHBOUR: 'it returns false'. Refute it at one input. -/
def metalAnalysisWrong : ChangeSpec := { name := "metalAnalysis", fn := fun _ => fun
  | [d1, d2] => { results := [.lit (.bool false)], args := [d1, d2] }
  | _ => none }
def MetalAnalysisWrongFalsely : Prop := metalAnalysisRow.holds Try.pinned (OpenSpec.ofChange metalAnalysisWrong)

/-- 'flonglaw01.MetalSafe': WHATEVER THE INPUT: true; the input reads as it did. -/
def metalSafeSpec : ChangeSpec := { name := "metalSafe", fn := fun _ => fun
  | [d1, d2] => { results := [.lit (.bool true)], args := [d1, d2] }
  | _ => none }
def metalSafeRow : OpenClaim := { program := "ytgdaeapahfjobaa", sum := "c400debd4f72d3fd5cfe31de00f08e01ada0399c83e395ad1c645ae5d7d0a250", func := "flong/flonglaw01.MetalSafe", spec := "metalSafe", unfollowed := true, recurses := true, apart := false }
def MetalSafeSaid : Prop := metalSafeRow.holds Try.pinned (OpenSpec.ofChange metalSafeSpec)

/-- ITS FALSE NEIGHBOUR: 'it returns false'. Refute it at one input. -/
def metalSafeWrong : ChangeSpec := { name := "metalSafe", fn := fun _ => fun
  | [d1, d2] => { results := [.lit (.bool false)], args := [d1, d2] }
  | _ => none }
def MetalSafeWrongFalsely : Prop := metalSafeRow.holds Try.pinned (OpenSpec.ofChange metalSafeWrong)

/-- 'flonglaw01.MetalEach': WHATEVER THE INPUT: true; the input reads as it did. -/
def metalEachSpec : ChangeSpec := { name := "metalEach", fn := fun _ => fun
  | [d1, d2, d3] => { results := [.lit (.bool true)], args := [d1, d2, d3] }
  | _ => none }
def metalEachRow : OpenClaim := { program := "ytgdaeapahfjobaa", sum := "c400debd4f72d3fd5cfe31de00f08e01ada0399c83e395ad1c645ae5d7d0a250", func := "flong/flonglaw01.MetalEach", spec := "metalEach", unfollowed := true, recurses := true, apart := false }
def MetalEachSaid : Prop := metalEachRow.holds Try.pinned (OpenSpec.ofChange metalEachSpec)

/-- ITS FALSE NEIGHBOUR: 'it returns false'. Refute it at one input. -/
def metalEachWrong : ChangeSpec := { name := "metalEach", fn := fun _ => fun
  | [d1, d2, d3] => { results := [.lit (.bool false)], args := [d1, d2, d3] }
  | _ => none }
def MetalEachWrongFalsely : Prop := metalEachRow.holds Try.pinned (OpenSpec.ofChange metalEachWrong)

/-- 'flonglaw01.MetalKnown': WHATEVER THE INPUT: true; the input reads as it did. -/
def metalKnownSpec : ChangeSpec := { name := "metalKnown", fn := fun _ => fun
  | [d1, d2] => { results := [.lit (.bool true)], args := [d1, d2] }
  | _ => none }
def metalKnownRow : OpenClaim := { program := "ytgdaeapahfjobaa", sum := "c400debd4f72d3fd5cfe31de00f08e01ada0399c83e395ad1c645ae5d7d0a250", func := "flong/flonglaw01.MetalKnown", spec := "metalKnown", unfollowed := true, recurses := true, apart := false }
def MetalKnownSaid : Prop := metalKnownRow.holds Try.pinned (OpenSpec.ofChange metalKnownSpec)

/-- ITS FALSE NEIGHBOUR: 'it returns false'. Refute it at one input. -/
def metalKnownWrong : ChangeSpec := { name := "metalKnown", fn := fun _ => fun
  | [d1, d2] => { results := [.lit (.bool false)], args := [d1, d2] }
  | _ => none }
def MetalKnownWrongFalsely : Prop := metalKnownRow.holds Try.pinned (OpenSpec.ofChange metalKnownWrong)

/-- 'flonglaw01.MetalMixed': WHATEVER THE INPUT: true; the input reads as it did. -/
def metalMixedSpec : ChangeSpec := { name := "metalMixed", fn := fun _ => fun
  | [d1, d2, d3] => { results := [.lit (.bool true)], args := [d1, d2, d3] }
  | _ => none }
def metalMixedRow : OpenClaim := { program := "ytgdaeapahfjobaa", sum := "c400debd4f72d3fd5cfe31de00f08e01ada0399c83e395ad1c645ae5d7d0a250", func := "flong/flonglaw01.MetalMixed", spec := "metalMixed", unfollowed := true, recurses := true, apart := false }
def MetalMixedSaid : Prop := metalMixedRow.holds Try.pinned (OpenSpec.ofChange metalMixedSpec)

/-- ITS FALSE NEIGHBOUR: 'it returns false'. Refute it at one input. -/
def metalMixedWrong : ChangeSpec := { name := "metalMixed", fn := fun _ => fun
  | [d1, d2, d3] => { results := [.lit (.bool false)], args := [d1, d2, d3] }
  | _ => none }
def MetalMixedWrongFalsely : Prop := metalMixedRow.holds Try.pinned (OpenSpec.ofChange metalMixedWrong)

/-- 'flonglaw01.MetalMend': WHATEVER THE INPUT: true; the input reads as it did. -/
def metalMendSpec : ChangeSpec := { name := "metalMend", fn := fun _ => fun
  | [d] => { results := [.lit (.bool true)], args := [d] }
  | _ => none }
def metalMendRow : OpenClaim := { program := "ytgdaeapahfjobaa", sum := "c400debd4f72d3fd5cfe31de00f08e01ada0399c83e395ad1c645ae5d7d0a250", func := "flong/flonglaw01.MetalMend", spec := "metalMend", unfollowed := true, recurses := true, apart := false }
def MetalMendSaid : Prop := metalMendRow.holds Try.pinned (OpenSpec.ofChange metalMendSpec)

/-- ITS FALSE NEIGHBOUR: 'it returns false'. Refute it at one input. -/
def metalMendWrong : ChangeSpec := { name := "metalMend", fn := fun _ => fun
  | [d] => { results := [.lit (.bool false)], args := [d] }
  | _ => none }
def MetalMendWrongFalsely : Prop := metalMendRow.holds Try.pinned (OpenSpec.ofChange metalMendWrong)

/-- 'flonglaw01.MetalCheapest': WHATEVER THE INPUT: true; the input reads as it did. -/
def metalCheapestSpec : ChangeSpec := { name := "metalCheapest", fn := fun _ => fun
  | [d1, d2] => { results := [.lit (.bool true)], args := [d1, d2] }
  | _ => none }
def metalCheapestRow : OpenClaim := { program := "ytgdaeapahfjobaa", sum := "c400debd4f72d3fd5cfe31de00f08e01ada0399c83e395ad1c645ae5d7d0a250", func := "flong/flonglaw01.MetalCheapest", spec := "metalCheapest", unfollowed := true, recurses := true, apart := false }
def MetalCheapestSaid : Prop := metalCheapestRow.holds Try.pinned (OpenSpec.ofChange metalCheapestSpec)

/-- ITS FALSE NEIGHBOUR: 'it returns false'. Refute it at one input. -/
def metalCheapestWrong : ChangeSpec := { name := "metalCheapest", fn := fun _ => fun
  | [d1, d2] => { results := [.lit (.bool false)], args := [d1, d2] }
  | _ => none }
def MetalCheapestWrongFalsely : Prop := metalCheapestRow.holds Try.pinned (OpenSpec.ofChange metalCheapestWrong)

/- THE SECOND FORM. 'bulk': how many values and letters a reading holds, each counted each time it is reached (what is shared counts as often as it is met; a slice's spare places count too). A statement '..UptoSaid' is the law's where the arguments, and the package variables that the reading takes, are together of bulk at most 1048576: NARROWER than '..Said'. Prove '..Said' where nothing that the law and all that it calls make is longer than what came in: it says more and counts as full. Else prove '..UptoSaid'. A law counts once. -/
mutual
def uptoBulk {H : Type} : DataW H → Nat
  | .lit (.string bytes) => bytes.length + 1
  | .lit _ => 1
  | .nil => 1
  | .ptr d => uptoBulk d + 1
  | .slice elems spare => uptoBulkAll elems + uptoBulkAll spare + 1
  | .agg parts => uptoBulkAll parts + 1
  | .iface _ d => uptoBulk d + 1
  | .map entries => uptoBulkEntries entries + 1
  | .held _ => 1
def uptoBulkAll {H : Type} : List (DataW H) → Nat
  | [] => 0
  | d :: r => uptoBulk d + uptoBulkAll r
def uptoBulkEntries {H : Type} : List (Lit × DataW H) → Nat
  | [] => 0
  | x :: r => uptoBulkEntry x + uptoBulkEntries r
def uptoBulkEntry {H : Type} : Lit × DataW H → Nat
  | (.string bytes, d) => bytes.length + uptoBulk d + 1
  | (_, d) => uptoBulk d + 1
 end
def uptoSmall : (H : Type) → List (DataW H) → Bool := fun _ ds => decide (uptoBulkAll ds ≤ 1048576)
def OpenSpec.upto (s : _root_.Go.ChangeSpec) : _root_.Go.OpenSpec := { _root_.Go.OpenSpec.ofChange s with cond := some uptoSmall }

/-- 'flonglaw01.MetalClearer', WHERE WHAT IT READS IS OF BULK AT MOST 1048576: true; the input reads as it did. -/
def metalClearerUptoRow : OpenClaim := { program := "ytgdaeapahfjobaa", sum := "c400debd4f72d3fd5cfe31de00f08e01ada0399c83e395ad1c645ae5d7d0a250", func := "flong/flonglaw01.MetalClearer", spec := "metalClearer", unfollowed := true, recurses := true, apart := false, narrowed := true }
def MetalClearerUptoSaid : Prop := metalClearerUptoRow.holds Try.pinned (OpenSpec.upto metalClearerSpec)

/-- 'flonglaw01.MetalWider', WHERE WHAT IT READS IS OF BULK AT MOST 1048576: true; the input reads as it did. -/
def metalWiderUptoRow : OpenClaim := { program := "ytgdaeapahfjobaa", sum := "c400debd4f72d3fd5cfe31de00f08e01ada0399c83e395ad1c645ae5d7d0a250", func := "flong/flonglaw01.MetalWider", spec := "metalWider", unfollowed := true, recurses := true, apart := false, narrowed := true }
def MetalWiderUptoSaid : Prop := metalWiderUptoRow.holds Try.pinned (OpenSpec.upto metalWiderSpec)

/-- 'flonglaw01.MetalMore', WHERE WHAT IT READS IS OF BULK AT MOST 1048576: true; the input reads as it did. -/
def metalMoreUptoRow : OpenClaim := { program := "ytgdaeapahfjobaa", sum := "c400debd4f72d3fd5cfe31de00f08e01ada0399c83e395ad1c645ae5d7d0a250", func := "flong/flonglaw01.MetalMore", spec := "metalMore", unfollowed := true, recurses := true, apart := false, narrowed := true }
def MetalMoreUptoSaid : Prop := metalMoreUptoRow.holds Try.pinned (OpenSpec.upto metalMoreSpec)

/-- 'flonglaw01.MetalLead', WHERE WHAT IT READS IS OF BULK AT MOST 1048576: true; the input reads as it did. -/
def metalLeadUptoRow : OpenClaim := { program := "ytgdaeapahfjobaa", sum := "c400debd4f72d3fd5cfe31de00f08e01ada0399c83e395ad1c645ae5d7d0a250", func := "flong/flonglaw01.MetalLead", spec := "metalLead", unfollowed := true, recurses := true, apart := false, narrowed := true }
def MetalLeadUptoSaid : Prop := metalLeadUptoRow.holds Try.pinned (OpenSpec.upto metalLeadSpec)

/-- 'flonglaw01.MetalTurned', WHERE WHAT IT READS IS OF BULK AT MOST 1048576: true; the input reads as it did. -/
def metalTurnedUptoRow : OpenClaim := { program := "ytgdaeapahfjobaa", sum := "c400debd4f72d3fd5cfe31de00f08e01ada0399c83e395ad1c645ae5d7d0a250", func := "flong/flonglaw01.MetalTurned", spec := "metalTurned", unfollowed := true, recurses := true, apart := false, narrowed := true }
def MetalTurnedUptoSaid : Prop := metalTurnedUptoRow.holds Try.pinned (OpenSpec.upto metalTurnedSpec)

/-- 'flonglaw01.MetalAnalysis', WHERE WHAT IT READS IS OF BULK AT MOST 1048576: true; the input reads as it did. -/
def metalAnalysisUptoRow : OpenClaim := { program := "ytgdaeapahfjobaa", sum := "c400debd4f72d3fd5cfe31de00f08e01ada0399c83e395ad1c645ae5d7d0a250", func := "flong/flonglaw01.MetalAnalysis", spec := "metalAnalysis", unfollowed := true, recurses := true, apart := false, narrowed := true }
def MetalAnalysisUptoSaid : Prop := metalAnalysisUptoRow.holds Try.pinned (OpenSpec.upto metalAnalysisSpec)

/-- 'flonglaw01.MetalSafe', WHERE WHAT IT READS IS OF BULK AT MOST 1048576: true; the input reads as it did. -/
def metalSafeUptoRow : OpenClaim := { program := "ytgdaeapahfjobaa", sum := "c400debd4f72d3fd5cfe31de00f08e01ada0399c83e395ad1c645ae5d7d0a250", func := "flong/flonglaw01.MetalSafe", spec := "metalSafe", unfollowed := true, recurses := true, apart := false, narrowed := true }
def MetalSafeUptoSaid : Prop := metalSafeUptoRow.holds Try.pinned (OpenSpec.upto metalSafeSpec)

/-- 'flonglaw01.MetalEach', WHERE WHAT IT READS IS OF BULK AT MOST 1048576: true; the input reads as it did. -/
def metalEachUptoRow : OpenClaim := { program := "ytgdaeapahfjobaa", sum := "c400debd4f72d3fd5cfe31de00f08e01ada0399c83e395ad1c645ae5d7d0a250", func := "flong/flonglaw01.MetalEach", spec := "metalEach", unfollowed := true, recurses := true, apart := false, narrowed := true }
def MetalEachUptoSaid : Prop := metalEachUptoRow.holds Try.pinned (OpenSpec.upto metalEachSpec)

/-- 'flonglaw01.MetalKnown', WHERE WHAT IT READS IS OF BULK AT MOST 1048576: true; the input reads as it did. -/
def metalKnownUptoRow : OpenClaim := { program := "ytgdaeapahfjobaa", sum := "c400debd4f72d3fd5cfe31de00f08e01ada0399c83e395ad1c645ae5d7d0a250", func := "flong/flonglaw01.MetalKnown", spec := "metalKnown", unfollowed := true, recurses := true, apart := false, narrowed := true }
def MetalKnownUptoSaid : Prop := metalKnownUptoRow.holds Try.pinned (OpenSpec.upto metalKnownSpec)

/-- 'flonglaw01.MetalMixed', WHERE WHAT IT READS IS OF BULK AT MOST 1048576: true; the input reads as it did. -/
def metalMixedUptoRow : OpenClaim := { program := "ytgdaeapahfjobaa", sum := "c400debd4f72d3fd5cfe31de00f08e01ada0399c83e395ad1c645ae5d7d0a250", func := "flong/flonglaw01.MetalMixed", spec := "metalMixed", unfollowed := true, recurses := true, apart := false, narrowed := true }
def MetalMixedUptoSaid : Prop := metalMixedUptoRow.holds Try.pinned (OpenSpec.upto metalMixedSpec)

/-- 'flonglaw01.MetalMend', WHERE WHAT IT READS IS OF BULK AT MOST 1048576: true; the input reads as it did. -/
def metalMendUptoRow : OpenClaim := { program := "ytgdaeapahfjobaa", sum := "c400debd4f72d3fd5cfe31de00f08e01ada0399c83e395ad1c645ae5d7d0a250", func := "flong/flonglaw01.MetalMend", spec := "metalMend", unfollowed := true, recurses := true, apart := false, narrowed := true }
def MetalMendUptoSaid : Prop := metalMendUptoRow.holds Try.pinned (OpenSpec.upto metalMendSpec)

/-- 'flonglaw01.MetalCheapest', WHERE WHAT IT READS IS OF BULK AT MOST 1048576: true; the input reads as it did. -/
def metalCheapestUptoRow : OpenClaim := { program := "ytgdaeapahfjobaa", sum := "c400debd4f72d3fd5cfe31de00f08e01ada0399c83e395ad1c645ae5d7d0a250", func := "flong/flonglaw01.MetalCheapest", spec := "metalCheapest", unfollowed := true, recurses := true, apart := false, narrowed := true }
def MetalCheapestUptoSaid : Prop := metalCheapestUptoRow.holds Try.pinned (OpenSpec.upto metalCheapestSpec)

end Rows
end Go.Proofs.Ytgdaeapahfjobaa
