/-
  NARROWER THAN 'FOR EVERY INPUT', by the rows' own cells (each row's printed sentence says how): TalliesReady: laid · TalliesLater: laid · TalliesLeft: laid · TalliesLies: laid · TalliesGood: laid · TalliesBlame: laid · TalliesTwo: laid · TalliesMore: laid · TalliesWithout: laid · TalliesOrder: laid · TalliesHonest: laid · TalliesParts: laid · TalliesAsk: laid · TalliesFalse: laid · TopBorne: laid.
  DERIVED. THE GIVEN ROWS OF THIS SEAT. 15 by the template 'for every input the law returns true; each argument reads behind the call as it read before'; 0 by the template 'total and deterministic' (their statements: YtapgiededfphfaaGreatDoorTotals.lean).
  GIVEN WITH THE SEED: the statements are not yours to turn. If you find one false, say at which input.
  Laid BY PROGRAM, IN A SANDBOX (cutbox-rows.mjs): the forced cells as the released guide's own fill.sh prints them over the translation 8b36219720e0242e… (all of the seat's roots in one cut). By AI agents, Wed Nov 11 2026. No macro, syntax, notation, axiom, sorry.
-/
import Derived.Test.YtapgiededfphfaaGreatDoorChecked
import GoSem.Claim
import GoSem.ClaimJoined
import GoSem.ClaimMapViews
import Derived.JoinedTies
import Derived.KernelRfl
namespace Go.Proofs.YtapgiededfphfaaGreatDoor
/- THE CELL 'sum', in the pinned program and in every row, IS THE sha256 OF THE DUMP (.gsa) THAT YtapgiededfphfaaGreatDoorProg.lean LOADS. Nothing in Lean hashes anything: it is a label: what it is worth is what the hold of that sum in a sandbox is worth. -/
noncomputable def Tryz.pinned : Pinned := { name := "ytapgiededfphfaagreatdoor", sum := "8b36219720e0242e322cf8e1247a1a929f86f962f0bd57b5f34a783759a78f1b", checked := Tryz.checked }
namespace Rows
def none {H : Type} : Left H := { results := [], args := [] }

/- WHAT THE LISTED PACKAGE-LEVEL VARIABLES READ AS WHEN THE CALL BEGINS. Each datum BY PROGRAM (the guide's laid-datum.mjs) off the statement by which the dump's own 'gosem.cut.vars' lays the variable. In a bare row this is a premise. The card (YtapgiededfphfaaGreatDoorCards.lean) ties it to the program's text. -/
def laid_math_bits_deBruijn32tab {H : Type} : DataW H := .agg [.lit (.int .u8 0), .lit (.int .u8 1), .lit (.int .u8 28), .lit (.int .u8 2), .lit (.int .u8 29), .lit (.int .u8 14), .lit (.int .u8 24), .lit (.int .u8 3), .lit (.int .u8 30), .lit (.int .u8 22), .lit (.int .u8 20), .lit (.int .u8 15), .lit (.int .u8 25), .lit (.int .u8 17), .lit (.int .u8 4), .lit (.int .u8 8), .lit (.int .u8 31), .lit (.int .u8 27), .lit (.int .u8 13), .lit (.int .u8 23), .lit (.int .u8 21), .lit (.int .u8 19), .lit (.int .u8 16), .lit (.int .u8 7), .lit (.int .u8 26), .lit (.int .u8 12), .lit (.int .u8 18), .lit (.int .u8 6), .lit (.int .u8 11), .lit (.int .u8 5), .lit (.int .u8 10), .lit (.int .u8 9)]
def laid_math_bits_deBruijn64tab {H : Type} : DataW H := .agg [.lit (.int .u8 0), .lit (.int .u8 1), .lit (.int .u8 56), .lit (.int .u8 2), .lit (.int .u8 57), .lit (.int .u8 49), .lit (.int .u8 28), .lit (.int .u8 3), .lit (.int .u8 61), .lit (.int .u8 58), .lit (.int .u8 42), .lit (.int .u8 50), .lit (.int .u8 38), .lit (.int .u8 29), .lit (.int .u8 17), .lit (.int .u8 4), .lit (.int .u8 62), .lit (.int .u8 47), .lit (.int .u8 59), .lit (.int .u8 36), .lit (.int .u8 45), .lit (.int .u8 43), .lit (.int .u8 51), .lit (.int .u8 22), .lit (.int .u8 53), .lit (.int .u8 39), .lit (.int .u8 33), .lit (.int .u8 30), .lit (.int .u8 24), .lit (.int .u8 18), .lit (.int .u8 12), .lit (.int .u8 5), .lit (.int .u8 63), .lit (.int .u8 55), .lit (.int .u8 48), .lit (.int .u8 27), .lit (.int .u8 60), .lit (.int .u8 41), .lit (.int .u8 37), .lit (.int .u8 16), .lit (.int .u8 46), .lit (.int .u8 35), .lit (.int .u8 44), .lit (.int .u8 21), .lit (.int .u8 52), .lit (.int .u8 32), .lit (.int .u8 23), .lit (.int .u8 11), .lit (.int .u8 54), .lit (.int .u8 26), .lit (.int .u8 40), .lit (.int .u8 15), .lit (.int .u8 34), .lit (.int .u8 20), .lit (.int .u8 31), .lit (.int .u8 10), .lit (.int .u8 25), .lit (.int .u8 14), .lit (.int .u8 19), .lit (.int .u8 9), .lit (.int .u8 13), .lit (.int .u8 8), .lit (.int .u8 7), .lit (.int .u8 6)]

/-- 'flonglaw11.TalliesReady': WHATEVER THE INPUT: true; the input reads as it did. -/
def talliesReadySpec : ChangeSpec := { name := "talliesReady", fn := fun _ => fun
  | [d1, d2] => { results := [.lit (.bool true)], args := [d1, d2] }
  | _ => none }
def talliesReadyRow : OpenClaim := { program := "ytapgiededfphfaagreatdoor", sum := "8b36219720e0242e322cf8e1247a1a929f86f962f0bd57b5f34a783759a78f1b", func := "flong/flonglaw11.TalliesReady", spec := "talliesReady", unfollowed := true, recurses := true, named := ["math/bits.deBruijn32tab", "math/bits.deBruijn64tab"], plainKeys := false, apart := false, laid := [("math/bits.deBruijn32tab", laid_math_bits_deBruijn32tab), ("math/bits.deBruijn64tab", laid_math_bits_deBruijn64tab)] }
def TalliesReadySaid : Prop := talliesReadyRow.holds Tryz.pinned (OpenSpec.ofChange talliesReadySpec)

/-- ITS FALSE NEIGHBOUR: 'it returns false'. Refute it at one input. -/
def talliesReadyWrong : ChangeSpec := { name := "talliesReady", fn := fun _ => fun
  | [d1, d2] => { results := [.lit (.bool false)], args := [d1, d2] }
  | _ => none }
def TalliesReadyWrongFalsely : Prop := talliesReadyRow.holds Tryz.pinned (OpenSpec.ofChange talliesReadyWrong)

/-- 'flonglaw11.TalliesLater': WHATEVER THE INPUT: true; the input reads as it did. -/
def talliesLaterSpec : ChangeSpec := { name := "talliesLater", fn := fun _ => fun
  | [d1, d2, d3] => { results := [.lit (.bool true)], args := [d1, d2, d3] }
  | _ => none }
def talliesLaterRow : OpenClaim := { program := "ytapgiededfphfaagreatdoor", sum := "8b36219720e0242e322cf8e1247a1a929f86f962f0bd57b5f34a783759a78f1b", func := "flong/flonglaw11.TalliesLater", spec := "talliesLater", unfollowed := true, recurses := true, named := ["math/bits.deBruijn32tab", "math/bits.deBruijn64tab"], plainKeys := false, apart := false, laid := [("math/bits.deBruijn32tab", laid_math_bits_deBruijn32tab), ("math/bits.deBruijn64tab", laid_math_bits_deBruijn64tab)] }
def TalliesLaterSaid : Prop := talliesLaterRow.holds Tryz.pinned (OpenSpec.ofChange talliesLaterSpec)

/-- ITS FALSE NEIGHBOUR: 'it returns false'. Refute it at one input. -/
def talliesLaterWrong : ChangeSpec := { name := "talliesLater", fn := fun _ => fun
  | [d1, d2, d3] => { results := [.lit (.bool false)], args := [d1, d2, d3] }
  | _ => none }
def TalliesLaterWrongFalsely : Prop := talliesLaterRow.holds Tryz.pinned (OpenSpec.ofChange talliesLaterWrong)

/-- 'flonglaw11.TalliesLeft': WHATEVER THE INPUT: true; the input reads as it did. -/
def talliesLeftSpec : ChangeSpec := { name := "talliesLeft", fn := fun _ => fun
  | [d] => { results := [.lit (.bool true)], args := [d] }
  | _ => none }
def talliesLeftRow : OpenClaim := { program := "ytapgiededfphfaagreatdoor", sum := "8b36219720e0242e322cf8e1247a1a929f86f962f0bd57b5f34a783759a78f1b", func := "flong/flonglaw11.TalliesLeft", spec := "talliesLeft", unfollowed := true, recurses := true, named := ["math/bits.deBruijn32tab", "math/bits.deBruijn64tab"], plainKeys := false, apart := false, laid := [("math/bits.deBruijn32tab", laid_math_bits_deBruijn32tab), ("math/bits.deBruijn64tab", laid_math_bits_deBruijn64tab)] }
def TalliesLeftSaid : Prop := talliesLeftRow.holds Tryz.pinned (OpenSpec.ofChange talliesLeftSpec)

/-- ITS FALSE NEIGHBOUR: 'it returns false'. Refute it at one input. -/
def talliesLeftWrong : ChangeSpec := { name := "talliesLeft", fn := fun _ => fun
  | [d] => { results := [.lit (.bool false)], args := [d] }
  | _ => none }
def TalliesLeftWrongFalsely : Prop := talliesLeftRow.holds Tryz.pinned (OpenSpec.ofChange talliesLeftWrong)

/-- 'flonglaw11.TalliesLies': WHATEVER THE INPUT: true; the input reads as it did. -/
def talliesLiesSpec : ChangeSpec := { name := "talliesLies", fn := fun _ => fun
  | [d1, d2] => { results := [.lit (.bool true)], args := [d1, d2] }
  | _ => none }
def talliesLiesRow : OpenClaim := { program := "ytapgiededfphfaagreatdoor", sum := "8b36219720e0242e322cf8e1247a1a929f86f962f0bd57b5f34a783759a78f1b", func := "flong/flonglaw11.TalliesLies", spec := "talliesLies", unfollowed := true, recurses := true, named := ["math/bits.deBruijn32tab", "math/bits.deBruijn64tab"], plainKeys := false, apart := false, laid := [("math/bits.deBruijn32tab", laid_math_bits_deBruijn32tab), ("math/bits.deBruijn64tab", laid_math_bits_deBruijn64tab)] }
def TalliesLiesSaid : Prop := talliesLiesRow.holds Tryz.pinned (OpenSpec.ofChange talliesLiesSpec)

/-- ITS FALSE NEIGHBOUR: 'it returns false'. Refute it at one input. -/
def talliesLiesWrong : ChangeSpec := { name := "talliesLies", fn := fun _ => fun
  | [d1, d2] => { results := [.lit (.bool false)], args := [d1, d2] }
  | _ => none }
def TalliesLiesWrongFalsely : Prop := talliesLiesRow.holds Tryz.pinned (OpenSpec.ofChange talliesLiesWrong)

/-- 'flonglaw11.TalliesGood': WHATEVER THE INPUT: true; the input reads as it did. -/
def talliesGoodSpec : ChangeSpec := { name := "talliesGood", fn := fun _ => fun
  | [d1, d2, d3] => { results := [.lit (.bool true)], args := [d1, d2, d3] }
  | _ => none }
def talliesGoodRow : OpenClaim := { program := "ytapgiededfphfaagreatdoor", sum := "8b36219720e0242e322cf8e1247a1a929f86f962f0bd57b5f34a783759a78f1b", func := "flong/flonglaw11.TalliesGood", spec := "talliesGood", unfollowed := true, recurses := true, named := ["math/bits.deBruijn32tab", "math/bits.deBruijn64tab"], plainKeys := false, apart := false, laid := [("math/bits.deBruijn32tab", laid_math_bits_deBruijn32tab), ("math/bits.deBruijn64tab", laid_math_bits_deBruijn64tab)] }
def TalliesGoodSaid : Prop := talliesGoodRow.holds Tryz.pinned (OpenSpec.ofChange talliesGoodSpec)

/-- ITS FALSE NEIGHBOUR: 'it returns false'. Refute it at one input. -/
def talliesGoodWrong : ChangeSpec := { name := "talliesGood", fn := fun _ => fun
  | [d1, d2, d3] => { results := [.lit (.bool false)], args := [d1, d2, d3] }
  | _ => none }
def TalliesGoodWrongFalsely : Prop := talliesGoodRow.holds Tryz.pinned (OpenSpec.ofChange talliesGoodWrong)

/-- 'flonglaw11.TalliesBlame': WHATEVER THE INPUT: true; the input reads as it did. -/
def talliesBlameSpec : ChangeSpec := { name := "talliesBlame", fn := fun _ => fun
  | [d1, d2] => { results := [.lit (.bool true)], args := [d1, d2] }
  | _ => none }
def talliesBlameRow : OpenClaim := { program := "ytapgiededfphfaagreatdoor", sum := "8b36219720e0242e322cf8e1247a1a929f86f962f0bd57b5f34a783759a78f1b", func := "flong/flonglaw11.TalliesBlame", spec := "talliesBlame", unfollowed := true, recurses := true, named := ["math/bits.deBruijn32tab", "math/bits.deBruijn64tab"], plainKeys := false, apart := false, laid := [("math/bits.deBruijn32tab", laid_math_bits_deBruijn32tab), ("math/bits.deBruijn64tab", laid_math_bits_deBruijn64tab)] }
def TalliesBlameSaid : Prop := talliesBlameRow.holds Tryz.pinned (OpenSpec.ofChange talliesBlameSpec)

/-- ITS FALSE NEIGHBOUR: 'it returns false'. Refute it at one input. -/
def talliesBlameWrong : ChangeSpec := { name := "talliesBlame", fn := fun _ => fun
  | [d1, d2] => { results := [.lit (.bool false)], args := [d1, d2] }
  | _ => none }
def TalliesBlameWrongFalsely : Prop := talliesBlameRow.holds Tryz.pinned (OpenSpec.ofChange talliesBlameWrong)

/-- 'flonglaw11.TalliesTwo': WHATEVER THE INPUT: true; the input reads as it did. -/
def talliesTwoSpec : ChangeSpec := { name := "talliesTwo", fn := fun _ => fun
  | [d1, d2, d3] => { results := [.lit (.bool true)], args := [d1, d2, d3] }
  | _ => none }
def talliesTwoRow : OpenClaim := { program := "ytapgiededfphfaagreatdoor", sum := "8b36219720e0242e322cf8e1247a1a929f86f962f0bd57b5f34a783759a78f1b", func := "flong/flonglaw11.TalliesTwo", spec := "talliesTwo", unfollowed := true, recurses := true, named := ["math/bits.deBruijn32tab", "math/bits.deBruijn64tab"], plainKeys := false, apart := false, laid := [("math/bits.deBruijn32tab", laid_math_bits_deBruijn32tab), ("math/bits.deBruijn64tab", laid_math_bits_deBruijn64tab)] }
def TalliesTwoSaid : Prop := talliesTwoRow.holds Tryz.pinned (OpenSpec.ofChange talliesTwoSpec)

/-- ITS FALSE NEIGHBOUR: 'it returns false'. Refute it at one input. -/
def talliesTwoWrong : ChangeSpec := { name := "talliesTwo", fn := fun _ => fun
  | [d1, d2, d3] => { results := [.lit (.bool false)], args := [d1, d2, d3] }
  | _ => none }
def TalliesTwoWrongFalsely : Prop := talliesTwoRow.holds Tryz.pinned (OpenSpec.ofChange talliesTwoWrong)

/-- 'flonglaw11.TalliesMore': WHATEVER THE INPUT: true; the input reads as it did. -/
def talliesMoreSpec : ChangeSpec := { name := "talliesMore", fn := fun _ => fun
  | [d1, d2] => { results := [.lit (.bool true)], args := [d1, d2] }
  | _ => none }
def talliesMoreRow : OpenClaim := { program := "ytapgiededfphfaagreatdoor", sum := "8b36219720e0242e322cf8e1247a1a929f86f962f0bd57b5f34a783759a78f1b", func := "flong/flonglaw11.TalliesMore", spec := "talliesMore", unfollowed := true, recurses := true, named := ["math/bits.deBruijn32tab", "math/bits.deBruijn64tab"], plainKeys := false, apart := false, laid := [("math/bits.deBruijn32tab", laid_math_bits_deBruijn32tab), ("math/bits.deBruijn64tab", laid_math_bits_deBruijn64tab)] }
def TalliesMoreSaid : Prop := talliesMoreRow.holds Tryz.pinned (OpenSpec.ofChange talliesMoreSpec)

/-- ITS FALSE NEIGHBOUR: 'it returns false'. Refute it at one input. -/
def talliesMoreWrong : ChangeSpec := { name := "talliesMore", fn := fun _ => fun
  | [d1, d2] => { results := [.lit (.bool false)], args := [d1, d2] }
  | _ => none }
def TalliesMoreWrongFalsely : Prop := talliesMoreRow.holds Tryz.pinned (OpenSpec.ofChange talliesMoreWrong)

/-- 'flonglaw11.TalliesWithout': WHATEVER THE INPUT: true; the input reads as it did. -/
def talliesWithoutSpec : ChangeSpec := { name := "talliesWithout", fn := fun _ => fun
  | [d1, d2] => { results := [.lit (.bool true)], args := [d1, d2] }
  | _ => none }
def talliesWithoutRow : OpenClaim := { program := "ytapgiededfphfaagreatdoor", sum := "8b36219720e0242e322cf8e1247a1a929f86f962f0bd57b5f34a783759a78f1b", func := "flong/flonglaw11.TalliesWithout", spec := "talliesWithout", unfollowed := true, recurses := true, named := ["math/bits.deBruijn32tab", "math/bits.deBruijn64tab"], plainKeys := false, apart := false, laid := [("math/bits.deBruijn32tab", laid_math_bits_deBruijn32tab), ("math/bits.deBruijn64tab", laid_math_bits_deBruijn64tab)] }
def TalliesWithoutSaid : Prop := talliesWithoutRow.holds Tryz.pinned (OpenSpec.ofChange talliesWithoutSpec)

/-- ITS FALSE NEIGHBOUR: 'it returns false'. Refute it at one input. -/
def talliesWithoutWrong : ChangeSpec := { name := "talliesWithout", fn := fun _ => fun
  | [d1, d2] => { results := [.lit (.bool false)], args := [d1, d2] }
  | _ => none }
def TalliesWithoutWrongFalsely : Prop := talliesWithoutRow.holds Tryz.pinned (OpenSpec.ofChange talliesWithoutWrong)

/-- 'flonglaw11.TalliesOrder': WHATEVER THE INPUT: true; the input reads as it did. -/
def talliesOrderSpec : ChangeSpec := { name := "talliesOrder", fn := fun _ => fun
  | [d1, d2, d3] => { results := [.lit (.bool true)], args := [d1, d2, d3] }
  | _ => none }
def talliesOrderRow : OpenClaim := { program := "ytapgiededfphfaagreatdoor", sum := "8b36219720e0242e322cf8e1247a1a929f86f962f0bd57b5f34a783759a78f1b", func := "flong/flonglaw11.TalliesOrder", spec := "talliesOrder", unfollowed := true, recurses := true, named := ["math/bits.deBruijn32tab", "math/bits.deBruijn64tab"], plainKeys := false, apart := false, laid := [("math/bits.deBruijn32tab", laid_math_bits_deBruijn32tab), ("math/bits.deBruijn64tab", laid_math_bits_deBruijn64tab)] }
def TalliesOrderSaid : Prop := talliesOrderRow.holds Tryz.pinned (OpenSpec.ofChange talliesOrderSpec)

/-- ITS FALSE NEIGHBOUR: 'it returns false'. Refute it at one input. -/
def talliesOrderWrong : ChangeSpec := { name := "talliesOrder", fn := fun _ => fun
  | [d1, d2, d3] => { results := [.lit (.bool false)], args := [d1, d2, d3] }
  | _ => none }
def TalliesOrderWrongFalsely : Prop := talliesOrderRow.holds Tryz.pinned (OpenSpec.ofChange talliesOrderWrong)

/-- 'flonglaw11.TalliesHonest': WHATEVER THE INPUT: true; the input reads as it did. -/
def talliesHonestSpec : ChangeSpec := { name := "talliesHonest", fn := fun _ => fun
  | [d] => { results := [.lit (.bool true)], args := [d] }
  | _ => none }
def talliesHonestRow : OpenClaim := { program := "ytapgiededfphfaagreatdoor", sum := "8b36219720e0242e322cf8e1247a1a929f86f962f0bd57b5f34a783759a78f1b", func := "flong/flonglaw11.TalliesHonest", spec := "talliesHonest", unfollowed := true, recurses := true, named := ["math/bits.deBruijn32tab", "math/bits.deBruijn64tab"], plainKeys := false, apart := false, laid := [("math/bits.deBruijn32tab", laid_math_bits_deBruijn32tab), ("math/bits.deBruijn64tab", laid_math_bits_deBruijn64tab)] }
def TalliesHonestSaid : Prop := talliesHonestRow.holds Tryz.pinned (OpenSpec.ofChange talliesHonestSpec)

/-- ITS FALSE NEIGHBOUR: 'it returns false'. Refute it at one input. -/
def talliesHonestWrong : ChangeSpec := { name := "talliesHonest", fn := fun _ => fun
  | [d] => { results := [.lit (.bool false)], args := [d] }
  | _ => none }
def TalliesHonestWrongFalsely : Prop := talliesHonestRow.holds Tryz.pinned (OpenSpec.ofChange talliesHonestWrong)

/-- 'flonglaw11.TalliesParts': WHATEVER THE INPUT: true; the input reads as it did. -/
def talliesPartsSpec : ChangeSpec := { name := "talliesParts", fn := fun _ => fun
  | [d1, d2, d3] => { results := [.lit (.bool true)], args := [d1, d2, d3] }
  | _ => none }
def talliesPartsRow : OpenClaim := { program := "ytapgiededfphfaagreatdoor", sum := "8b36219720e0242e322cf8e1247a1a929f86f962f0bd57b5f34a783759a78f1b", func := "flong/flonglaw11.TalliesParts", spec := "talliesParts", unfollowed := true, recurses := true, named := ["math/bits.deBruijn32tab", "math/bits.deBruijn64tab"], plainKeys := false, apart := false, laid := [("math/bits.deBruijn32tab", laid_math_bits_deBruijn32tab), ("math/bits.deBruijn64tab", laid_math_bits_deBruijn64tab)] }
def TalliesPartsSaid : Prop := talliesPartsRow.holds Tryz.pinned (OpenSpec.ofChange talliesPartsSpec)

/-- ITS FALSE NEIGHBOUR: 'it returns false'. Refute it at one input. -/
def talliesPartsWrong : ChangeSpec := { name := "talliesParts", fn := fun _ => fun
  | [d1, d2, d3] => { results := [.lit (.bool false)], args := [d1, d2, d3] }
  | _ => none }
def TalliesPartsWrongFalsely : Prop := talliesPartsRow.holds Tryz.pinned (OpenSpec.ofChange talliesPartsWrong)

/-- 'flonglaw11.TalliesAsk': WHATEVER THE INPUT: true; the input reads as it did. -/
def talliesAskSpec : ChangeSpec := { name := "talliesAsk", fn := fun _ => fun
  | [d1, d2] => { results := [.lit (.bool true)], args := [d1, d2] }
  | _ => none }
def talliesAskRow : OpenClaim := { program := "ytapgiededfphfaagreatdoor", sum := "8b36219720e0242e322cf8e1247a1a929f86f962f0bd57b5f34a783759a78f1b", func := "flong/flonglaw11.TalliesAsk", spec := "talliesAsk", unfollowed := true, recurses := true, named := ["math/bits.deBruijn32tab", "math/bits.deBruijn64tab"], plainKeys := false, apart := false, laid := [("math/bits.deBruijn32tab", laid_math_bits_deBruijn32tab), ("math/bits.deBruijn64tab", laid_math_bits_deBruijn64tab)] }
def TalliesAskSaid : Prop := talliesAskRow.holds Tryz.pinned (OpenSpec.ofChange talliesAskSpec)

/-- ITS FALSE NEIGHBOUR: 'it returns false'. Refute it at one input. -/
def talliesAskWrong : ChangeSpec := { name := "talliesAsk", fn := fun _ => fun
  | [d1, d2] => { results := [.lit (.bool false)], args := [d1, d2] }
  | _ => none }
def TalliesAskWrongFalsely : Prop := talliesAskRow.holds Tryz.pinned (OpenSpec.ofChange talliesAskWrong)

/-- 'flonglaw11.TalliesFalse': WHATEVER THE INPUT: true; the input reads as it did. -/
def talliesFalseSpec : ChangeSpec := { name := "talliesFalse", fn := fun _ => fun
  | [d] => { results := [.lit (.bool true)], args := [d] }
  | _ => none }
def talliesFalseRow : OpenClaim := { program := "ytapgiededfphfaagreatdoor", sum := "8b36219720e0242e322cf8e1247a1a929f86f962f0bd57b5f34a783759a78f1b", func := "flong/flonglaw11.TalliesFalse", spec := "talliesFalse", unfollowed := true, recurses := true, named := ["math/bits.deBruijn32tab", "math/bits.deBruijn64tab"], plainKeys := false, apart := false, laid := [("math/bits.deBruijn32tab", laid_math_bits_deBruijn32tab), ("math/bits.deBruijn64tab", laid_math_bits_deBruijn64tab)] }
def TalliesFalseSaid : Prop := talliesFalseRow.holds Tryz.pinned (OpenSpec.ofChange talliesFalseSpec)

/-- ITS FALSE NEIGHBOUR: 'it returns false'. Refute it at one input. -/
def talliesFalseWrong : ChangeSpec := { name := "talliesFalse", fn := fun _ => fun
  | [d] => { results := [.lit (.bool false)], args := [d] }
  | _ => none }
def TalliesFalseWrongFalsely : Prop := talliesFalseRow.holds Tryz.pinned (OpenSpec.ofChange talliesFalseWrong)

/-- 'flongtop.TopBorne': WHATEVER THE INPUT: true; the input reads as it did. -/
def topBorneSpec : ChangeSpec := { name := "topBorne", fn := fun _ => fun
  | [d1, d2, d3] => { results := [.lit (.bool true)], args := [d1, d2, d3] }
  | _ => none }
def topBorneRow : OpenClaim := { program := "ytapgiededfphfaagreatdoor", sum := "8b36219720e0242e322cf8e1247a1a929f86f962f0bd57b5f34a783759a78f1b", func := "flong/flongtop.TopBorne", spec := "topBorne", unfollowed := true, recurses := true, named := ["math/bits.deBruijn32tab", "math/bits.deBruijn64tab"], plainKeys := false, apart := false, laid := [("math/bits.deBruijn32tab", laid_math_bits_deBruijn32tab), ("math/bits.deBruijn64tab", laid_math_bits_deBruijn64tab)] }
def TopBorneSaid : Prop := topBorneRow.holds Tryz.pinned (OpenSpec.ofChange topBorneSpec)

/-- ITS FALSE NEIGHBOUR: 'it returns false'. Refute it at one input. -/
def topBorneWrong : ChangeSpec := { name := "topBorne", fn := fun _ => fun
  | [d1, d2, d3] => { results := [.lit (.bool false)], args := [d1, d2, d3] }
  | _ => none }
def TopBorneWrongFalsely : Prop := topBorneRow.holds Tryz.pinned (OpenSpec.ofChange topBorneWrong)

/- THE SECOND FORM. 'bulk': how many values and letters a reading holds, each counted each time it is reached (what is shared counts as often as it is met; a slice's spare places count too). A statement '..UptoSaid' is the law's where the arguments, and the package variables that the reading takes, are together of bulk at most 1048576: NARROWER than '..Said'. Prove '..Said' where nothing that the law and all that it calls make is longer than what came in: it says more and counts as full. Else prove '..UptoSaid'. A law counts once. -/
mutual
def uptoBulk {H : Type} : DataW H → Nat
  | .lit (.string bytes) => bytes.length + 1
  | .lit _ => 1
  | .nil => 1
  | .ptr d => uptoBulk d + 1
  | .slice elems spare => uptoBulkAll elems + uptoBulkAll spare + 1
  | .agg parts => uptoBulkAll parts + 1
  | .iface _ d => uptoBulk d + 1
  | .map entries => uptoBulkEntries entries + 1
  | .held _ => 1
def uptoBulkAll {H : Type} : List (DataW H) → Nat
  | [] => 0
  | d :: r => uptoBulk d + uptoBulkAll r
def uptoBulkEntries {H : Type} : List (Lit × DataW H) → Nat
  | [] => 0
  | x :: r => uptoBulkEntry x + uptoBulkEntries r
def uptoBulkEntry {H : Type} : Lit × DataW H → Nat
  | (.string bytes, d) => bytes.length + uptoBulk d + 1
  | (_, d) => uptoBulk d + 1
 end
def uptoSmall : (H : Type) → List (DataW H) → Bool := fun _ ds => decide (uptoBulkAll ds ≤ 1048576)
def OpenSpec.upto (s : _root_.Go.ChangeSpec) : _root_.Go.OpenSpec := { _root_.Go.OpenSpec.ofChange s with cond := some uptoSmall }

/-- 'flonglaw11.TalliesReady', WHERE WHAT IT READS IS OF BULK AT MOST 1048576: true; the input reads as it did. -/
def talliesReadyUptoRow : OpenClaim := { program := "ytapgiededfphfaagreatdoor", sum := "8b36219720e0242e322cf8e1247a1a929f86f962f0bd57b5f34a783759a78f1b", func := "flong/flonglaw11.TalliesReady", spec := "talliesReady", unfollowed := true, recurses := true, named := ["math/bits.deBruijn32tab", "math/bits.deBruijn64tab"], plainKeys := false, apart := false, laid := [("math/bits.deBruijn32tab", laid_math_bits_deBruijn32tab), ("math/bits.deBruijn64tab", laid_math_bits_deBruijn64tab)], narrowed := true }
def TalliesReadyUptoSaid : Prop := talliesReadyUptoRow.holds Tryz.pinned (OpenSpec.upto talliesReadySpec)

/-- 'flonglaw11.TalliesLater', WHERE WHAT IT READS IS OF BULK AT MOST 1048576: true; the input reads as it did. -/
def talliesLaterUptoRow : OpenClaim := { program := "ytapgiededfphfaagreatdoor", sum := "8b36219720e0242e322cf8e1247a1a929f86f962f0bd57b5f34a783759a78f1b", func := "flong/flonglaw11.TalliesLater", spec := "talliesLater", unfollowed := true, recurses := true, named := ["math/bits.deBruijn32tab", "math/bits.deBruijn64tab"], plainKeys := false, apart := false, laid := [("math/bits.deBruijn32tab", laid_math_bits_deBruijn32tab), ("math/bits.deBruijn64tab", laid_math_bits_deBruijn64tab)], narrowed := true }
def TalliesLaterUptoSaid : Prop := talliesLaterUptoRow.holds Tryz.pinned (OpenSpec.upto talliesLaterSpec)

/-- 'flonglaw11.TalliesLeft', WHERE WHAT IT READS IS OF BULK AT MOST 1048576: true; the input reads as it did. -/
def talliesLeftUptoRow : OpenClaim := { program := "ytapgiededfphfaagreatdoor", sum := "8b36219720e0242e322cf8e1247a1a929f86f962f0bd57b5f34a783759a78f1b", func := "flong/flonglaw11.TalliesLeft", spec := "talliesLeft", unfollowed := true, recurses := true, named := ["math/bits.deBruijn32tab", "math/bits.deBruijn64tab"], plainKeys := false, apart := false, laid := [("math/bits.deBruijn32tab", laid_math_bits_deBruijn32tab), ("math/bits.deBruijn64tab", laid_math_bits_deBruijn64tab)], narrowed := true }
def TalliesLeftUptoSaid : Prop := talliesLeftUptoRow.holds Tryz.pinned (OpenSpec.upto talliesLeftSpec)

/-- 'flonglaw11.TalliesLies', WHERE WHAT IT READS IS OF BULK AT MOST 1048576: true; the input reads as it did. -/
def talliesLiesUptoRow : OpenClaim := { program := "ytapgiededfphfaagreatdoor", sum := "8b36219720e0242e322cf8e1247a1a929f86f962f0bd57b5f34a783759a78f1b", func := "flong/flonglaw11.TalliesLies", spec := "talliesLies", unfollowed := true, recurses := true, named := ["math/bits.deBruijn32tab", "math/bits.deBruijn64tab"], plainKeys := false, apart := false, laid := [("math/bits.deBruijn32tab", laid_math_bits_deBruijn32tab), ("math/bits.deBruijn64tab", laid_math_bits_deBruijn64tab)], narrowed := true }
def TalliesLiesUptoSaid : Prop := talliesLiesUptoRow.holds Tryz.pinned (OpenSpec.upto talliesLiesSpec)

/-- 'flonglaw11.TalliesGood', WHERE WHAT IT READS IS OF BULK AT MOST 1048576: true; the input reads as it did. -/
def talliesGoodUptoRow : OpenClaim := { program := "ytapgiededfphfaagreatdoor", sum := "8b36219720e0242e322cf8e1247a1a929f86f962f0bd57b5f34a783759a78f1b", func := "flong/flonglaw11.TalliesGood", spec := "talliesGood", unfollowed := true, recurses := true, named := ["math/bits.deBruijn32tab", "math/bits.deBruijn64tab"], plainKeys := false, apart := false, laid := [("math/bits.deBruijn32tab", laid_math_bits_deBruijn32tab), ("math/bits.deBruijn64tab", laid_math_bits_deBruijn64tab)], narrowed := true }
def TalliesGoodUptoSaid : Prop := talliesGoodUptoRow.holds Tryz.pinned (OpenSpec.upto talliesGoodSpec)

/-- 'flonglaw11.TalliesBlame', WHERE WHAT IT READS IS OF BULK AT MOST 1048576: true; the input reads as it did. -/
def talliesBlameUptoRow : OpenClaim := { program := "ytapgiededfphfaagreatdoor", sum := "8b36219720e0242e322cf8e1247a1a929f86f962f0bd57b5f34a783759a78f1b", func := "flong/flonglaw11.TalliesBlame", spec := "talliesBlame", unfollowed := true, recurses := true, named := ["math/bits.deBruijn32tab", "math/bits.deBruijn64tab"], plainKeys := false, apart := false, laid := [("math/bits.deBruijn32tab", laid_math_bits_deBruijn32tab), ("math/bits.deBruijn64tab", laid_math_bits_deBruijn64tab)], narrowed := true }
def TalliesBlameUptoSaid : Prop := talliesBlameUptoRow.holds Tryz.pinned (OpenSpec.upto talliesBlameSpec)

/-- 'flonglaw11.TalliesTwo', WHERE WHAT IT READS IS OF BULK AT MOST 1048576: true; the input reads as it did. -/
def talliesTwoUptoRow : OpenClaim := { program := "ytapgiededfphfaagreatdoor", sum := "8b36219720e0242e322cf8e1247a1a929f86f962f0bd57b5f34a783759a78f1b", func := "flong/flonglaw11.TalliesTwo", spec := "talliesTwo", unfollowed := true, recurses := true, named := ["math/bits.deBruijn32tab", "math/bits.deBruijn64tab"], plainKeys := false, apart := false, laid := [("math/bits.deBruijn32tab", laid_math_bits_deBruijn32tab), ("math/bits.deBruijn64tab", laid_math_bits_deBruijn64tab)], narrowed := true }
def TalliesTwoUptoSaid : Prop := talliesTwoUptoRow.holds Tryz.pinned (OpenSpec.upto talliesTwoSpec)

/-- 'flonglaw11.TalliesMore', WHERE WHAT IT READS IS OF BULK AT MOST 1048576: true; the input reads as it did. -/
def talliesMoreUptoRow : OpenClaim := { program := "ytapgiededfphfaagreatdoor", sum := "8b36219720e0242e322cf8e1247a1a929f86f962f0bd57b5f34a783759a78f1b", func := "flong/flonglaw11.TalliesMore", spec := "talliesMore", unfollowed := true, recurses := true, named := ["math/bits.deBruijn32tab", "math/bits.deBruijn64tab"], plainKeys := false, apart := false, laid := [("math/bits.deBruijn32tab", laid_math_bits_deBruijn32tab), ("math/bits.deBruijn64tab", laid_math_bits_deBruijn64tab)], narrowed := true }
def TalliesMoreUptoSaid : Prop := talliesMoreUptoRow.holds Tryz.pinned (OpenSpec.upto talliesMoreSpec)

/-- 'flonglaw11.TalliesWithout', WHERE WHAT IT READS IS OF BULK AT MOST 1048576: true; the input reads as it did. -/
def talliesWithoutUptoRow : OpenClaim := { program := "ytapgiededfphfaagreatdoor", sum := "8b36219720e0242e322cf8e1247a1a929f86f962f0bd57b5f34a783759a78f1b", func := "flong/flonglaw11.TalliesWithout", spec := "talliesWithout", unfollowed := true, recurses := true, named := ["math/bits.deBruijn32tab", "math/bits.deBruijn64tab"], plainKeys := false, apart := false, laid := [("math/bits.deBruijn32tab", laid_math_bits_deBruijn32tab), ("math/bits.deBruijn64tab", laid_math_bits_deBruijn64tab)], narrowed := true }
def TalliesWithoutUptoSaid : Prop := talliesWithoutUptoRow.holds Tryz.pinned (OpenSpec.upto talliesWithoutSpec)

/-- 'flonglaw11.TalliesOrder', WHERE WHAT IT READS IS OF BULK AT MOST 1048576: true; the input reads as it did. -/
def talliesOrderUptoRow : OpenClaim := { program := "ytapgiededfphfaagreatdoor", sum := "8b36219720e0242e322cf8e1247a1a929f86f962f0bd57b5f34a783759a78f1b", func := "flong/flonglaw11.TalliesOrder", spec := "talliesOrder", unfollowed := true, recurses := true, named := ["math/bits.deBruijn32tab", "math/bits.deBruijn64tab"], plainKeys := false, apart := false, laid := [("math/bits.deBruijn32tab", laid_math_bits_deBruijn32tab), ("math/bits.deBruijn64tab", laid_math_bits_deBruijn64tab)], narrowed := true }
def TalliesOrderUptoSaid : Prop := talliesOrderUptoRow.holds Tryz.pinned (OpenSpec.upto talliesOrderSpec)

/-- 'flonglaw11.TalliesHonest', WHERE WHAT IT READS IS OF BULK AT MOST 1048576: true; the input reads as it did. -/
def talliesHonestUptoRow : OpenClaim := { program := "ytapgiededfphfaagreatdoor", sum := "8b36219720e0242e322cf8e1247a1a929f86f962f0bd57b5f34a783759a78f1b", func := "flong/flonglaw11.TalliesHonest", spec := "talliesHonest", unfollowed := true, recurses := true, named := ["math/bits.deBruijn32tab", "math/bits.deBruijn64tab"], plainKeys := false, apart := false, laid := [("math/bits.deBruijn32tab", laid_math_bits_deBruijn32tab), ("math/bits.deBruijn64tab", laid_math_bits_deBruijn64tab)], narrowed := true }
def TalliesHonestUptoSaid : Prop := talliesHonestUptoRow.holds Tryz.pinned (OpenSpec.upto talliesHonestSpec)

/-- 'flonglaw11.TalliesParts', WHERE WHAT IT READS IS OF BULK AT MOST 1048576: true; the input reads as it did. -/
def talliesPartsUptoRow : OpenClaim := { program := "ytapgiededfphfaagreatdoor", sum := "8b36219720e0242e322cf8e1247a1a929f86f962f0bd57b5f34a783759a78f1b", func := "flong/flonglaw11.TalliesParts", spec := "talliesParts", unfollowed := true, recurses := true, named := ["math/bits.deBruijn32tab", "math/bits.deBruijn64tab"], plainKeys := false, apart := false, laid := [("math/bits.deBruijn32tab", laid_math_bits_deBruijn32tab), ("math/bits.deBruijn64tab", laid_math_bits_deBruijn64tab)], narrowed := true }
def TalliesPartsUptoSaid : Prop := talliesPartsUptoRow.holds Tryz.pinned (OpenSpec.upto talliesPartsSpec)

/-- 'flonglaw11.TalliesAsk', WHERE WHAT IT READS IS OF BULK AT MOST 1048576: true; the input reads as it did. -/
def talliesAskUptoRow : OpenClaim := { program := "ytapgiededfphfaagreatdoor", sum := "8b36219720e0242e322cf8e1247a1a929f86f962f0bd57b5f34a783759a78f1b", func := "flong/flonglaw11.TalliesAsk", spec := "talliesAsk", unfollowed := true, recurses := true, named := ["math/bits.deBruijn32tab", "math/bits.deBruijn64tab"], plainKeys := false, apart := false, laid := [("math/bits.deBruijn32tab", laid_math_bits_deBruijn32tab), ("math/bits.deBruijn64tab", laid_math_bits_deBruijn64tab)], narrowed := true }
def TalliesAskUptoSaid : Prop := talliesAskUptoRow.holds Tryz.pinned (OpenSpec.upto talliesAskSpec)

/-- 'flonglaw11.TalliesFalse', WHERE WHAT IT READS IS OF BULK AT MOST 1048576: true; the input reads as it did. -/
def talliesFalseUptoRow : OpenClaim := { program := "ytapgiededfphfaagreatdoor", sum := "8b36219720e0242e322cf8e1247a1a929f86f962f0bd57b5f34a783759a78f1b", func := "flong/flonglaw11.TalliesFalse", spec := "talliesFalse", unfollowed := true, recurses := true, named := ["math/bits.deBruijn32tab", "math/bits.deBruijn64tab"], plainKeys := false, apart := false, laid := [("math/bits.deBruijn32tab", laid_math_bits_deBruijn32tab), ("math/bits.deBruijn64tab", laid_math_bits_deBruijn64tab)], narrowed := true }
def TalliesFalseUptoSaid : Prop := talliesFalseUptoRow.holds Tryz.pinned (OpenSpec.upto talliesFalseSpec)

/-- 'flongtop.TopBorne', WHERE WHAT IT READS IS OF BULK AT MOST 1048576: true; the input reads as it did. -/
def topBorneUptoRow : OpenClaim := { program := "ytapgiededfphfaagreatdoor", sum := "8b36219720e0242e322cf8e1247a1a929f86f962f0bd57b5f34a783759a78f1b", func := "flong/flongtop.TopBorne", spec := "topBorne", unfollowed := true, recurses := true, named := ["math/bits.deBruijn32tab", "math/bits.deBruijn64tab"], plainKeys := false, apart := false, laid := [("math/bits.deBruijn32tab", laid_math_bits_deBruijn32tab), ("math/bits.deBruijn64tab", laid_math_bits_deBruijn64tab)], narrowed := true }
def TopBorneUptoSaid : Prop := topBorneUptoRow.holds Tryz.pinned (OpenSpec.upto topBorneSpec)

end Rows
end Go.Proofs.YtapgiededfphfaaGreatDoor
