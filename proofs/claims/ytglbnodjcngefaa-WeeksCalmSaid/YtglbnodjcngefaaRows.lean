/-
  No cell of these rows narrows 'for every input' (looked for: loops, veiled, ifaces, maps, wideKeys, modest, calm, conditions, laid).
  DERIVED. THE GIVEN ROWS OF THIS SEAT. 11 by the template 'for every input the law returns true; each argument reads behind the call as it read before'; 0 by the template 'total and deterministic' (their statements: YtglbnodjcngefaaTotals.lean).
  GIVEN WITH THE SEED: the statements are not yours to turn. If you find one false, say at which input.
  Laid BY PROGRAM, IN A SANDBOX (cutbox-rows.mjs): the forced cells as the released guide's own fill.sh prints them over the translation 0db31bcbbaa936a0… (all of the seat's roots in one cut). By AI agents, Wed Nov 11 2026. No macro, syntax, notation, axiom, sorry.
-/
import Derived.Test.YtglbnodjcngefaaChecked
import GoSem.Claim
import GoSem.ClaimJoined
import GoSem.ClaimMapViews
import Derived.JoinedTies
import Derived.KernelRfl
namespace Go.Proofs.Ytglbnodjcngefaa
/- THE CELL 'sum', in the pinned program and in every row, IS THE sha256 OF THE DUMP (.gsa) THAT YtglbnodjcngefaaProg.lean LOADS. Nothing in Lean hashes anything: it is a label: what it is worth is what the hold of that sum in a sandbox is worth. -/
noncomputable def Try.pinned : Pinned := { name := "ytglbnodjcngefaa", sum := "0db31bcbbaa936a0c09b0c7703918fa3c62a64a01fcea9e097d9dc82df34213a", checked := Try.checked }
namespace Rows
def none {H : Type} : Left H := { results := [], args := [] }

/-- 'flonglaw13.WeeksPot': WHATEVER THE INPUT: true; the input reads as it did. -/
def weeksPotSpec : ChangeSpec := { name := "weeksPot", fn := fun _ => fun
  | [d1, d2, d3] => { results := [.lit (.bool true)], args := [d1, d2, d3] }
  | _ => none }
def weeksPotRow : OpenClaim := { program := "ytglbnodjcngefaa", sum := "0db31bcbbaa936a0c09b0c7703918fa3c62a64a01fcea9e097d9dc82df34213a", func := "flong/flonglaw13.WeeksPot", spec := "weeksPot", unfollowed := true, recurses := true, plainKeys := false, apart := false }
def WeeksPotSaid : Prop := weeksPotRow.holds Try.pinned (OpenSpec.ofChange weeksPotSpec)

/-- ITS FALSE NEIGHBOUR: 'it returns false'. Refute it at one input. -/
def weeksPotWrong : ChangeSpec := { name := "weeksPot", fn := fun _ => fun
  | [d1, d2, d3] => { results := [.lit (.bool false)], args := [d1, d2, d3] }
  | _ => none }
def WeeksPotWrongFalsely : Prop := weeksPotRow.holds Try.pinned (OpenSpec.ofChange weeksPotWrong)

/-- 'flonglaw13.WeeksEach': WHATEVER THE INPUT: true; the input reads as it did. -/
def weeksEachSpec : ChangeSpec := { name := "weeksEach", fn := fun _ => fun
  | [d1, d2, d3] => { results := [.lit (.bool true)], args := [d1, d2, d3] }
  | _ => none }
def weeksEachRow : OpenClaim := { program := "ytglbnodjcngefaa", sum := "0db31bcbbaa936a0c09b0c7703918fa3c62a64a01fcea9e097d9dc82df34213a", func := "flong/flonglaw13.WeeksEach", spec := "weeksEach", unfollowed := true, recurses := true, plainKeys := false, apart := false }
def WeeksEachSaid : Prop := weeksEachRow.holds Try.pinned (OpenSpec.ofChange weeksEachSpec)

/-- ITS FALSE NEIGHBOUR: 'it returns false'. Refute it at one input. -/
def weeksEachWrong : ChangeSpec := { name := "weeksEach", fn := fun _ => fun
  | [d1, d2, d3] => { results := [.lit (.bool false)], args := [d1, d2, d3] }
  | _ => none }
def WeeksEachWrongFalsely : Prop := weeksEachRow.holds Try.pinned (OpenSpec.ofChange weeksEachWrong)

/-- 'flonglaw13.WeeksCheap': WHATEVER THE INPUT: true; the input reads as it did. -/
def weeksCheapSpec : ChangeSpec := { name := "weeksCheap", fn := fun _ => fun
  | [d] => { results := [.lit (.bool true)], args := [d] }
  | _ => none }
def weeksCheapRow : OpenClaim := { program := "ytglbnodjcngefaa", sum := "0db31bcbbaa936a0c09b0c7703918fa3c62a64a01fcea9e097d9dc82df34213a", func := "flong/flonglaw13.WeeksCheap", spec := "weeksCheap", unfollowed := true, recurses := true, plainKeys := false, apart := false }
def WeeksCheapSaid : Prop := weeksCheapRow.holds Try.pinned (OpenSpec.ofChange weeksCheapSpec)

/-- ITS FALSE NEIGHBOUR: 'it returns false'. Refute it at one input. -/
def weeksCheapWrong : ChangeSpec := { name := "weeksCheap", fn := fun _ => fun
  | [d] => { results := [.lit (.bool false)], args := [d] }
  | _ => none }
def WeeksCheapWrongFalsely : Prop := weeksCheapRow.holds Try.pinned (OpenSpec.ofChange weeksCheapWrong)

/-- 'flonglaw13.WeeksPlan': WHATEVER THE INPUT: true; the input reads as it did. -/
def weeksPlanSpec : ChangeSpec := { name := "weeksPlan", fn := fun _ => fun
  | [d1, d2] => { results := [.lit (.bool true)], args := [d1, d2] }
  | _ => none }
def weeksPlanRow : OpenClaim := { program := "ytglbnodjcngefaa", sum := "0db31bcbbaa936a0c09b0c7703918fa3c62a64a01fcea9e097d9dc82df34213a", func := "flong/flonglaw13.WeeksPlan", spec := "weeksPlan", unfollowed := true, recurses := true, plainKeys := false, apart := false }
def WeeksPlanSaid : Prop := weeksPlanRow.holds Try.pinned (OpenSpec.ofChange weeksPlanSpec)

/-- ITS FALSE NEIGHBOUR: 'it returns false'. Refute it at one input. -/
def weeksPlanWrong : ChangeSpec := { name := "weeksPlan", fn := fun _ => fun
  | [d1, d2] => { results := [.lit (.bool false)], args := [d1, d2] }
  | _ => none }
def WeeksPlanWrongFalsely : Prop := weeksPlanRow.holds Try.pinned (OpenSpec.ofChange weeksPlanWrong)

/-- 'flonglaw13.WeeksClearer': WHATEVER THE INPUT: true; the input reads as it did. -/
def weeksClearerSpec : ChangeSpec := { name := "weeksClearer", fn := fun _ => fun
  | [d1, d2, d3] => { results := [.lit (.bool true)], args := [d1, d2, d3] }
  | _ => none }
def weeksClearerRow : OpenClaim := { program := "ytglbnodjcngefaa", sum := "0db31bcbbaa936a0c09b0c7703918fa3c62a64a01fcea9e097d9dc82df34213a", func := "flong/flonglaw13.WeeksClearer", spec := "weeksClearer", unfollowed := true, recurses := true, plainKeys := false, apart := false }
def WeeksClearerSaid : Prop := weeksClearerRow.holds Try.pinned (OpenSpec.ofChange weeksClearerSpec)

/-- ITS FALSE NEIGHBOUR: 'it returns false'. Refute it at one input. -/
def weeksClearerWrong : ChangeSpec := { name := "weeksClearer", fn := fun _ => fun
  | [d1, d2, d3] => { results := [.lit (.bool false)], args := [d1, d2, d3] }
  | _ => none }
def WeeksClearerWrongFalsely : Prop := weeksClearerRow.holds Try.pinned (OpenSpec.ofChange weeksClearerWrong)

/-- 'flonglaw13.WeeksLess': WHATEVER THE INPUT: true; the input reads as it did. -/
def weeksLessSpec : ChangeSpec := { name := "weeksLess", fn := fun _ => fun
  | [d] => { results := [.lit (.bool true)], args := [d] }
  | _ => none }
def weeksLessRow : OpenClaim := { program := "ytglbnodjcngefaa", sum := "0db31bcbbaa936a0c09b0c7703918fa3c62a64a01fcea9e097d9dc82df34213a", func := "flong/flonglaw13.WeeksLess", spec := "weeksLess", unfollowed := true, recurses := true, plainKeys := false, apart := false }
def WeeksLessSaid : Prop := weeksLessRow.holds Try.pinned (OpenSpec.ofChange weeksLessSpec)

/-- ITS FALSE NEIGHBOUR: 'it returns false'. Refute it at one input. -/
def weeksLessWrong : ChangeSpec := { name := "weeksLess", fn := fun _ => fun
  | [d] => { results := [.lit (.bool false)], args := [d] }
  | _ => none }
def WeeksLessWrongFalsely : Prop := weeksLessRow.holds Try.pinned (OpenSpec.ofChange weeksLessWrong)

/-- 'flonglaw13.WeeksMore': WHATEVER THE INPUT: true; the input reads as it did. -/
def weeksMoreSpec : ChangeSpec := { name := "weeksMore", fn := fun _ => fun
  | [d1, d2, d3] => { results := [.lit (.bool true)], args := [d1, d2, d3] }
  | _ => none }
def weeksMoreRow : OpenClaim := { program := "ytglbnodjcngefaa", sum := "0db31bcbbaa936a0c09b0c7703918fa3c62a64a01fcea9e097d9dc82df34213a", func := "flong/flonglaw13.WeeksMore", spec := "weeksMore", unfollowed := true, recurses := true, plainKeys := false, apart := false }
def WeeksMoreSaid : Prop := weeksMoreRow.holds Try.pinned (OpenSpec.ofChange weeksMoreSpec)

/-- ITS FALSE NEIGHBOUR: 'it returns false'. Refute it at one input. -/
def weeksMoreWrong : ChangeSpec := { name := "weeksMore", fn := fun _ => fun
  | [d1, d2, d3] => { results := [.lit (.bool false)], args := [d1, d2, d3] }
  | _ => none }
def WeeksMoreWrongFalsely : Prop := weeksMoreRow.holds Try.pinned (OpenSpec.ofChange weeksMoreWrong)

/-- 'flonglaw13.WeeksKnown': WHATEVER THE INPUT: true; the input reads as it did. -/
def weeksKnownSpec : ChangeSpec := { name := "weeksKnown", fn := fun _ => fun
  | [d] => { results := [.lit (.bool true)], args := [d] }
  | _ => none }
def weeksKnownRow : OpenClaim := { program := "ytglbnodjcngefaa", sum := "0db31bcbbaa936a0c09b0c7703918fa3c62a64a01fcea9e097d9dc82df34213a", func := "flong/flonglaw13.WeeksKnown", spec := "weeksKnown", unfollowed := true, recurses := true, plainKeys := false, apart := false }
def WeeksKnownSaid : Prop := weeksKnownRow.holds Try.pinned (OpenSpec.ofChange weeksKnownSpec)

/-- ITS FALSE NEIGHBOUR: 'it returns false'. Refute it at one input. -/
def weeksKnownWrong : ChangeSpec := { name := "weeksKnown", fn := fun _ => fun
  | [d] => { results := [.lit (.bool false)], args := [d] }
  | _ => none }
def WeeksKnownWrongFalsely : Prop := weeksKnownRow.holds Try.pinned (OpenSpec.ofChange weeksKnownWrong)

/-- 'flonglaw13.WeeksTests': WHATEVER THE INPUT: true; the input reads as it did. -/
def weeksTestsSpec : ChangeSpec := { name := "weeksTests", fn := fun _ => fun
  | [d1, d2] => { results := [.lit (.bool true)], args := [d1, d2] }
  | _ => none }
def weeksTestsRow : OpenClaim := { program := "ytglbnodjcngefaa", sum := "0db31bcbbaa936a0c09b0c7703918fa3c62a64a01fcea9e097d9dc82df34213a", func := "flong/flonglaw13.WeeksTests", spec := "weeksTests", unfollowed := true, recurses := true, plainKeys := false, apart := false }
def WeeksTestsSaid : Prop := weeksTestsRow.holds Try.pinned (OpenSpec.ofChange weeksTestsSpec)

/-- ITS FALSE NEIGHBOUR: 'it returns false'. Refute it at one input. -/
def weeksTestsWrong : ChangeSpec := { name := "weeksTests", fn := fun _ => fun
  | [d1, d2] => { results := [.lit (.bool false)], args := [d1, d2] }
  | _ => none }
def WeeksTestsWrongFalsely : Prop := weeksTestsRow.holds Try.pinned (OpenSpec.ofChange weeksTestsWrong)

/-- 'flonglaw13.WeeksCalm': WHATEVER THE INPUT: true; the input reads as it did. -/
def weeksCalmSpec : ChangeSpec := { name := "weeksCalm", fn := fun _ => fun
  | [d1, d2] => { results := [.lit (.bool true)], args := [d1, d2] }
  | _ => none }
def weeksCalmRow : OpenClaim := { program := "ytglbnodjcngefaa", sum := "0db31bcbbaa936a0c09b0c7703918fa3c62a64a01fcea9e097d9dc82df34213a", func := "flong/flonglaw13.WeeksCalm", spec := "weeksCalm", unfollowed := true, recurses := true, plainKeys := false, apart := false }
def WeeksCalmSaid : Prop := weeksCalmRow.holds Try.pinned (OpenSpec.ofChange weeksCalmSpec)

/-- ITS FALSE NEIGHBOUR: 'it returns false'. Refute it at one input. -/
def weeksCalmWrong : ChangeSpec := { name := "weeksCalm", fn := fun _ => fun
  | [d1, d2] => { results := [.lit (.bool false)], args := [d1, d2] }
  | _ => none }
def WeeksCalmWrongFalsely : Prop := weeksCalmRow.holds Try.pinned (OpenSpec.ofChange weeksCalmWrong)

/-- 'flongtop.TopMended': WHATEVER THE INPUT: true; the input reads as it did. -/
def topMendedSpec : ChangeSpec := { name := "topMended", fn := fun _ => fun
  | [d1, d2] => { results := [.lit (.bool true)], args := [d1, d2] }
  | _ => none }
def topMendedRow : OpenClaim := { program := "ytglbnodjcngefaa", sum := "0db31bcbbaa936a0c09b0c7703918fa3c62a64a01fcea9e097d9dc82df34213a", func := "flong/flongtop.TopMended", spec := "topMended", unfollowed := true, recurses := true, plainKeys := false, apart := false }
def TopMendedSaid : Prop := topMendedRow.holds Try.pinned (OpenSpec.ofChange topMendedSpec)

/-- ITS FALSE NEIGHBOUR: 'it returns false'. Refute it at one input. -/
def topMendedWrong : ChangeSpec := { name := "topMended", fn := fun _ => fun
  | [d1, d2] => { results := [.lit (.bool false)], args := [d1, d2] }
  | _ => none }
def TopMendedWrongFalsely : Prop := topMendedRow.holds Try.pinned (OpenSpec.ofChange topMendedWrong)

/- THE SECOND FORM. 'bulk': how many values and letters a reading holds, each counted each time it is reached (what is shared counts as often as it is met; a slice's spare places count too). A statement '..UptoSaid' is the law's where the arguments, and the package variables that the reading takes, are together of bulk at most 1048576: NARROWER than '..Said'. Prove '..Said' where nothing that the law and all that it calls make is longer than what came in: it says more and counts as full. Else prove '..UptoSaid'. A law counts once. -/
mutual
def uptoBulk {H : Type} : DataW H → Nat
  | .lit (.string bytes) => bytes.length + 1
  | .lit _ => 1
  | .nil => 1
  | .ptr d => uptoBulk d + 1
  | .slice elems spare => uptoBulkAll elems + uptoBulkAll spare + 1
  | .agg parts => uptoBulkAll parts + 1
  | .iface _ d => uptoBulk d + 1
  | .map entries => uptoBulkEntries entries + 1
  | .held _ => 1
def uptoBulkAll {H : Type} : List (DataW H) → Nat
  | [] => 0
  | d :: r => uptoBulk d + uptoBulkAll r
def uptoBulkEntries {H : Type} : List (Lit × DataW H) → Nat
  | [] => 0
  | x :: r => uptoBulkEntry x + uptoBulkEntries r
def uptoBulkEntry {H : Type} : Lit × DataW H → Nat
  | (.string bytes, d) => bytes.length + uptoBulk d + 1
  | (_, d) => uptoBulk d + 1
 end
def uptoSmall : (H : Type) → List (DataW H) → Bool := fun _ ds => decide (uptoBulkAll ds ≤ 1048576)
def OpenSpec.upto (s : _root_.Go.ChangeSpec) : _root_.Go.OpenSpec := { _root_.Go.OpenSpec.ofChange s with cond := some uptoSmall }

/-- 'flonglaw13.WeeksPot', WHERE WHAT IT READS IS OF BULK AT MOST 1048576: true; the input reads as it did. -/
def weeksPotUptoRow : OpenClaim := { program := "ytglbnodjcngefaa", sum := "0db31bcbbaa936a0c09b0c7703918fa3c62a64a01fcea9e097d9dc82df34213a", func := "flong/flonglaw13.WeeksPot", spec := "weeksPot", unfollowed := true, recurses := true, plainKeys := false, apart := false, narrowed := true }
def WeeksPotUptoSaid : Prop := weeksPotUptoRow.holds Try.pinned (OpenSpec.upto weeksPotSpec)

/-- 'flonglaw13.WeeksEach', WHERE WHAT IT READS IS OF BULK AT MOST 1048576: true; the input reads as it did. -/
def weeksEachUptoRow : OpenClaim := { program := "ytglbnodjcngefaa", sum := "0db31bcbbaa936a0c09b0c7703918fa3c62a64a01fcea9e097d9dc82df34213a", func := "flong/flonglaw13.WeeksEach", spec := "weeksEach", unfollowed := true, recurses := true, plainKeys := false, apart := false, narrowed := true }
def WeeksEachUptoSaid : Prop := weeksEachUptoRow.holds Try.pinned (OpenSpec.upto weeksEachSpec)

/-- 'flonglaw13.WeeksCheap', WHERE WHAT IT READS IS OF BULK AT MOST 1048576: true; the input reads as it did. -/
def weeksCheapUptoRow : OpenClaim := { program := "ytglbnodjcngefaa", sum := "0db31bcbbaa936a0c09b0c7703918fa3c62a64a01fcea9e097d9dc82df34213a", func := "flong/flonglaw13.WeeksCheap", spec := "weeksCheap", unfollowed := true, recurses := true, plainKeys := false, apart := false, narrowed := true }
def WeeksCheapUptoSaid : Prop := weeksCheapUptoRow.holds Try.pinned (OpenSpec.upto weeksCheapSpec)

/-- 'flonglaw13.WeeksPlan', WHERE WHAT IT READS IS OF BULK AT MOST 1048576: true; the input reads as it did. -/
def weeksPlanUptoRow : OpenClaim := { program := "ytglbnodjcngefaa", sum := "0db31bcbbaa936a0c09b0c7703918fa3c62a64a01fcea9e097d9dc82df34213a", func := "flong/flonglaw13.WeeksPlan", spec := "weeksPlan", unfollowed := true, recurses := true, plainKeys := false, apart := false, narrowed := true }
def WeeksPlanUptoSaid : Prop := weeksPlanUptoRow.holds Try.pinned (OpenSpec.upto weeksPlanSpec)

/-- 'flonglaw13.WeeksClearer', WHERE WHAT IT READS IS OF BULK AT MOST 1048576: true; the input reads as it did. -/
def weeksClearerUptoRow : OpenClaim := { program := "ytglbnodjcngefaa", sum := "0db31bcbbaa936a0c09b0c7703918fa3c62a64a01fcea9e097d9dc82df34213a", func := "flong/flonglaw13.WeeksClearer", spec := "weeksClearer", unfollowed := true, recurses := true, plainKeys := false, apart := false, narrowed := true }
def WeeksClearerUptoSaid : Prop := weeksClearerUptoRow.holds Try.pinned (OpenSpec.upto weeksClearerSpec)

/-- 'flonglaw13.WeeksLess', WHERE WHAT IT READS IS OF BULK AT MOST 1048576: true; the input reads as it did. -/
def weeksLessUptoRow : OpenClaim := { program := "ytglbnodjcngefaa", sum := "0db31bcbbaa936a0c09b0c7703918fa3c62a64a01fcea9e097d9dc82df34213a", func := "flong/flonglaw13.WeeksLess", spec := "weeksLess", unfollowed := true, recurses := true, plainKeys := false, apart := false, narrowed := true }
def WeeksLessUptoSaid : Prop := weeksLessUptoRow.holds Try.pinned (OpenSpec.upto weeksLessSpec)

/-- 'flonglaw13.WeeksMore', WHERE WHAT IT READS IS OF BULK AT MOST 1048576: true; the input reads as it did. -/
def weeksMoreUptoRow : OpenClaim := { program := "ytglbnodjcngefaa", sum := "0db31bcbbaa936a0c09b0c7703918fa3c62a64a01fcea9e097d9dc82df34213a", func := "flong/flonglaw13.WeeksMore", spec := "weeksMore", unfollowed := true, recurses := true, plainKeys := false, apart := false, narrowed := true }
def WeeksMoreUptoSaid : Prop := weeksMoreUptoRow.holds Try.pinned (OpenSpec.upto weeksMoreSpec)

/-- 'flonglaw13.WeeksKnown', WHERE WHAT IT READS IS OF BULK AT MOST 1048576: true; the input reads as it did. -/
def weeksKnownUptoRow : OpenClaim := { program := "ytglbnodjcngefaa", sum := "0db31bcbbaa936a0c09b0c7703918fa3c62a64a01fcea9e097d9dc82df34213a", func := "flong/flonglaw13.WeeksKnown", spec := "weeksKnown", unfollowed := true, recurses := true, plainKeys := false, apart := false, narrowed := true }
def WeeksKnownUptoSaid : Prop := weeksKnownUptoRow.holds Try.pinned (OpenSpec.upto weeksKnownSpec)

/-- 'flonglaw13.WeeksTests', WHERE WHAT IT READS IS OF BULK AT MOST 1048576: true; the input reads as it did. -/
def weeksTestsUptoRow : OpenClaim := { program := "ytglbnodjcngefaa", sum := "0db31bcbbaa936a0c09b0c7703918fa3c62a64a01fcea9e097d9dc82df34213a", func := "flong/flonglaw13.WeeksTests", spec := "weeksTests", unfollowed := true, recurses := true, plainKeys := false, apart := false, narrowed := true }
def WeeksTestsUptoSaid : Prop := weeksTestsUptoRow.holds Try.pinned (OpenSpec.upto weeksTestsSpec)

/-- 'flonglaw13.WeeksCalm', WHERE WHAT IT READS IS OF BULK AT MOST 1048576: true; the input reads as it did. -/
def weeksCalmUptoRow : OpenClaim := { program := "ytglbnodjcngefaa", sum := "0db31bcbbaa936a0c09b0c7703918fa3c62a64a01fcea9e097d9dc82df34213a", func := "flong/flonglaw13.WeeksCalm", spec := "weeksCalm", unfollowed := true, recurses := true, plainKeys := false, apart := false, narrowed := true }
def WeeksCalmUptoSaid : Prop := weeksCalmUptoRow.holds Try.pinned (OpenSpec.upto weeksCalmSpec)

/-- 'flongtop.TopMended', WHERE WHAT IT READS IS OF BULK AT MOST 1048576: true; the input reads as it did. -/
def topMendedUptoRow : OpenClaim := { program := "ytglbnodjcngefaa", sum := "0db31bcbbaa936a0c09b0c7703918fa3c62a64a01fcea9e097d9dc82df34213a", func := "flong/flongtop.TopMended", spec := "topMended", unfollowed := true, recurses := true, plainKeys := false, apart := false, narrowed := true }
def TopMendedUptoSaid : Prop := topMendedUptoRow.holds Try.pinned (OpenSpec.upto topMendedSpec)

end Rows
end Go.Proofs.Ytglbnodjcngefaa
