/-
  DERIVED. GIVEN WITH THE SEED: THE CARDS: each row of YtapgiededfphfaaGreatDoorRows.lean that lists a variable, with what it lists TIED to the program's text (the seventh form; the later family's looks); each row that meets fmt, with fmt's text TOLD by the authors' own Lean function (tested against real Go, not proved from fmt's source: count such statements apart). THE CARD IS WHAT COUNTS. Prove the row's statement (the work); the ties are given (YtapgiededfphfaaGreatDoorTie.lean); close each card by the builder's one call (the guide's Derived/Test/ToyasCard.lean, 'card_holds'). Laid BY PROGRAM, IN A SANDBOX (cutbox-door.mjs). By AI agents, Wed Nov 11 2026. No macro, syntax, notation, axiom, sorry.
-/
import Derived.Test.YtapgiededfphfaaGreatDoorRows
import GoSem.ClaimSeven
namespace Go.Proofs.YtapgiededfphfaaGreatDoor
namespace Rows

/-- THE TIED CARD OF 'flonglaw11.TalliesReady'. -/
def talliesReadyCard : Claim7 := { stood := { row := talliesReadyRow, standIns := [], harness := (true, "d79dbf2de687057592eede0a90796b893576009cb7d1cc8501c0e3163a0fa7c1"), looks := false }, kinds := [], alts := [], laidByText := true, laidKinds := [.data, .data], laidTests := true, laidLooks := .later }
def TalliesReadyCardSaid : Prop := Claim7.holds Tryz.pinned (.plain (OpenSpec.ofChange talliesReadySpec)) talliesReadyCard

/-- THE TIED CARD OF 'flonglaw11.TalliesLater'. -/
def talliesLaterCard : Claim7 := { stood := { row := talliesLaterRow, standIns := [], harness := (true, "d79dbf2de687057592eede0a90796b893576009cb7d1cc8501c0e3163a0fa7c1"), looks := false }, kinds := [], alts := [], laidByText := true, laidKinds := [.data, .data], laidTests := true, laidLooks := .later }
def TalliesLaterCardSaid : Prop := Claim7.holds Tryz.pinned (.plain (OpenSpec.ofChange talliesLaterSpec)) talliesLaterCard

/-- THE TIED CARD OF 'flonglaw11.TalliesLeft'. -/
def talliesLeftCard : Claim7 := { stood := { row := talliesLeftRow, standIns := [], harness := (true, "d79dbf2de687057592eede0a90796b893576009cb7d1cc8501c0e3163a0fa7c1"), looks := false }, kinds := [], alts := [], laidByText := true, laidKinds := [.data, .data], laidTests := true, laidLooks := .later }
def TalliesLeftCardSaid : Prop := Claim7.holds Tryz.pinned (.plain (OpenSpec.ofChange talliesLeftSpec)) talliesLeftCard

/-- THE TIED CARD OF 'flonglaw11.TalliesLies'. -/
def talliesLiesCard : Claim7 := { stood := { row := talliesLiesRow, standIns := [], harness := (true, "d79dbf2de687057592eede0a90796b893576009cb7d1cc8501c0e3163a0fa7c1"), looks := false }, kinds := [], alts := [], laidByText := true, laidKinds := [.data, .data], laidTests := true, laidLooks := .later }
def TalliesLiesCardSaid : Prop := Claim7.holds Tryz.pinned (.plain (OpenSpec.ofChange talliesLiesSpec)) talliesLiesCard

/-- THE TIED CARD OF 'flonglaw11.TalliesGood'. -/
def talliesGoodCard : Claim7 := { stood := { row := talliesGoodRow, standIns := [], harness := (true, "d79dbf2de687057592eede0a90796b893576009cb7d1cc8501c0e3163a0fa7c1"), looks := false }, kinds := [], alts := [], laidByText := true, laidKinds := [.data, .data], laidTests := true, laidLooks := .later }
def TalliesGoodCardSaid : Prop := Claim7.holds Tryz.pinned (.plain (OpenSpec.ofChange talliesGoodSpec)) talliesGoodCard

/-- THE TIED CARD OF 'flonglaw11.TalliesBlame'. -/
def talliesBlameCard : Claim7 := { stood := { row := talliesBlameRow, standIns := [], harness := (true, "d79dbf2de687057592eede0a90796b893576009cb7d1cc8501c0e3163a0fa7c1"), looks := false }, kinds := [], alts := [], laidByText := true, laidKinds := [.data, .data], laidTests := true, laidLooks := .later }
def TalliesBlameCardSaid : Prop := Claim7.holds Tryz.pinned (.plain (OpenSpec.ofChange talliesBlameSpec)) talliesBlameCard

/-- THE TIED CARD OF 'flonglaw11.TalliesTwo'. -/
def talliesTwoCard : Claim7 := { stood := { row := talliesTwoRow, standIns := [], harness := (true, "d79dbf2de687057592eede0a90796b893576009cb7d1cc8501c0e3163a0fa7c1"), looks := false }, kinds := [], alts := [], laidByText := true, laidKinds := [.data, .data], laidTests := true, laidLooks := .later }
def TalliesTwoCardSaid : Prop := Claim7.holds Tryz.pinned (.plain (OpenSpec.ofChange talliesTwoSpec)) talliesTwoCard

/-- THE TIED CARD OF 'flonglaw11.TalliesMore'. -/
def talliesMoreCard : Claim7 := { stood := { row := talliesMoreRow, standIns := [], harness := (true, "d79dbf2de687057592eede0a90796b893576009cb7d1cc8501c0e3163a0fa7c1"), looks := false }, kinds := [], alts := [], laidByText := true, laidKinds := [.data, .data], laidTests := true, laidLooks := .later }
def TalliesMoreCardSaid : Prop := Claim7.holds Tryz.pinned (.plain (OpenSpec.ofChange talliesMoreSpec)) talliesMoreCard

/-- THE TIED CARD OF 'flonglaw11.TalliesWithout'. -/
def talliesWithoutCard : Claim7 := { stood := { row := talliesWithoutRow, standIns := [], harness := (true, "d79dbf2de687057592eede0a90796b893576009cb7d1cc8501c0e3163a0fa7c1"), looks := false }, kinds := [], alts := [], laidByText := true, laidKinds := [.data, .data], laidTests := true, laidLooks := .later }
def TalliesWithoutCardSaid : Prop := Claim7.holds Tryz.pinned (.plain (OpenSpec.ofChange talliesWithoutSpec)) talliesWithoutCard

/-- THE TIED CARD OF 'flonglaw11.TalliesOrder'. -/
def talliesOrderCard : Claim7 := { stood := { row := talliesOrderRow, standIns := [], harness := (true, "d79dbf2de687057592eede0a90796b893576009cb7d1cc8501c0e3163a0fa7c1"), looks := false }, kinds := [], alts := [], laidByText := true, laidKinds := [.data, .data], laidTests := true, laidLooks := .later }
def TalliesOrderCardSaid : Prop := Claim7.holds Tryz.pinned (.plain (OpenSpec.ofChange talliesOrderSpec)) talliesOrderCard

/-- THE TIED CARD OF 'flonglaw11.TalliesHonest'. -/
def talliesHonestCard : Claim7 := { stood := { row := talliesHonestRow, standIns := [], harness := (true, "d79dbf2de687057592eede0a90796b893576009cb7d1cc8501c0e3163a0fa7c1"), looks := false }, kinds := [], alts := [], laidByText := true, laidKinds := [.data, .data], laidTests := true, laidLooks := .later }
def TalliesHonestCardSaid : Prop := Claim7.holds Tryz.pinned (.plain (OpenSpec.ofChange talliesHonestSpec)) talliesHonestCard

/-- THE TIED CARD OF 'flonglaw11.TalliesParts'. -/
def talliesPartsCard : Claim7 := { stood := { row := talliesPartsRow, standIns := [], harness := (true, "d79dbf2de687057592eede0a90796b893576009cb7d1cc8501c0e3163a0fa7c1"), looks := false }, kinds := [], alts := [], laidByText := true, laidKinds := [.data, .data], laidTests := true, laidLooks := .later }
def TalliesPartsCardSaid : Prop := Claim7.holds Tryz.pinned (.plain (OpenSpec.ofChange talliesPartsSpec)) talliesPartsCard

/-- THE TIED CARD OF 'flonglaw11.TalliesAsk'. -/
def talliesAskCard : Claim7 := { stood := { row := talliesAskRow, standIns := [], harness := (true, "d79dbf2de687057592eede0a90796b893576009cb7d1cc8501c0e3163a0fa7c1"), looks := false }, kinds := [], alts := [], laidByText := true, laidKinds := [.data, .data], laidTests := true, laidLooks := .later }
def TalliesAskCardSaid : Prop := Claim7.holds Tryz.pinned (.plain (OpenSpec.ofChange talliesAskSpec)) talliesAskCard

/-- THE TIED CARD OF 'flonglaw11.TalliesFalse'. -/
def talliesFalseCard : Claim7 := { stood := { row := talliesFalseRow, standIns := [], harness := (true, "d79dbf2de687057592eede0a90796b893576009cb7d1cc8501c0e3163a0fa7c1"), looks := false }, kinds := [], alts := [], laidByText := true, laidKinds := [.data, .data], laidTests := true, laidLooks := .later }
def TalliesFalseCardSaid : Prop := Claim7.holds Tryz.pinned (.plain (OpenSpec.ofChange talliesFalseSpec)) talliesFalseCard

/-- THE TIED CARD OF 'flongtop.TopBorne'. -/
def topBorneCard : Claim7 := { stood := { row := topBorneRow, standIns := [], harness := (true, "d79dbf2de687057592eede0a90796b893576009cb7d1cc8501c0e3163a0fa7c1"), looks := false }, kinds := [], alts := [], laidByText := true, laidKinds := [.data, .data], laidTests := true, laidLooks := .later }
def TopBorneCardSaid : Prop := Claim7.holds Tryz.pinned (.plain (OpenSpec.ofChange topBorneSpec)) topBorneCard

/-- THE SECOND FORM's CARD OF 'flonglaw11.TalliesReady'. -/
def talliesReadyUptoCard : Claim7 := { stood := { row := talliesReadyUptoRow, standIns := [], harness := (true, "d79dbf2de687057592eede0a90796b893576009cb7d1cc8501c0e3163a0fa7c1"), looks := false }, kinds := [], alts := [], laidByText := true, laidKinds := [.data, .data], laidTests := true, laidLooks := .later }
def TalliesReadyUptoCardSaid : Prop := Claim7.holds Tryz.pinned (.plain (OpenSpec.upto talliesReadySpec)) talliesReadyUptoCard

/-- THE SECOND FORM's CARD OF 'flonglaw11.TalliesLater'. -/
def talliesLaterUptoCard : Claim7 := { stood := { row := talliesLaterUptoRow, standIns := [], harness := (true, "d79dbf2de687057592eede0a90796b893576009cb7d1cc8501c0e3163a0fa7c1"), looks := false }, kinds := [], alts := [], laidByText := true, laidKinds := [.data, .data], laidTests := true, laidLooks := .later }
def TalliesLaterUptoCardSaid : Prop := Claim7.holds Tryz.pinned (.plain (OpenSpec.upto talliesLaterSpec)) talliesLaterUptoCard

/-- THE SECOND FORM's CARD OF 'flonglaw11.TalliesLeft'. -/
def talliesLeftUptoCard : Claim7 := { stood := { row := talliesLeftUptoRow, standIns := [], harness := (true, "d79dbf2de687057592eede0a90796b893576009cb7d1cc8501c0e3163a0fa7c1"), looks := false }, kinds := [], alts := [], laidByText := true, laidKinds := [.data, .data], laidTests := true, laidLooks := .later }
def TalliesLeftUptoCardSaid : Prop := Claim7.holds Tryz.pinned (.plain (OpenSpec.upto talliesLeftSpec)) talliesLeftUptoCard

/-- THE SECOND FORM's CARD OF 'flonglaw11.TalliesLies'. -/
def talliesLiesUptoCard : Claim7 := { stood := { row := talliesLiesUptoRow, standIns := [], harness := (true, "d79dbf2de687057592eede0a90796b893576009cb7d1cc8501c0e3163a0fa7c1"), looks := false }, kinds := [], alts := [], laidByText := true, laidKinds := [.data, .data], laidTests := true, laidLooks := .later }
def TalliesLiesUptoCardSaid : Prop := Claim7.holds Tryz.pinned (.plain (OpenSpec.upto talliesLiesSpec)) talliesLiesUptoCard

/-- THE SECOND FORM's CARD OF 'flonglaw11.TalliesGood'. -/
def talliesGoodUptoCard : Claim7 := { stood := { row := talliesGoodUptoRow, standIns := [], harness := (true, "d79dbf2de687057592eede0a90796b893576009cb7d1cc8501c0e3163a0fa7c1"), looks := false }, kinds := [], alts := [], laidByText := true, laidKinds := [.data, .data], laidTests := true, laidLooks := .later }
def TalliesGoodUptoCardSaid : Prop := Claim7.holds Tryz.pinned (.plain (OpenSpec.upto talliesGoodSpec)) talliesGoodUptoCard

/-- THE SECOND FORM's CARD OF 'flonglaw11.TalliesBlame'. -/
def talliesBlameUptoCard : Claim7 := { stood := { row := talliesBlameUptoRow, standIns := [], harness := (true, "d79dbf2de687057592eede0a90796b893576009cb7d1cc8501c0e3163a0fa7c1"), looks := false }, kinds := [], alts := [], laidByText := true, laidKinds := [.data, .data], laidTests := true, laidLooks := .later }
def TalliesBlameUptoCardSaid : Prop := Claim7.holds Tryz.pinned (.plain (OpenSpec.upto talliesBlameSpec)) talliesBlameUptoCard

/-- THE SECOND FORM's CARD OF 'flonglaw11.TalliesTwo'. -/
def talliesTwoUptoCard : Claim7 := { stood := { row := talliesTwoUptoRow, standIns := [], harness := (true, "d79dbf2de687057592eede0a90796b893576009cb7d1cc8501c0e3163a0fa7c1"), looks := false }, kinds := [], alts := [], laidByText := true, laidKinds := [.data, .data], laidTests := true, laidLooks := .later }
def TalliesTwoUptoCardSaid : Prop := Claim7.holds Tryz.pinned (.plain (OpenSpec.upto talliesTwoSpec)) talliesTwoUptoCard

/-- THE SECOND FORM's CARD OF 'flonglaw11.TalliesMore'. -/
def talliesMoreUptoCard : Claim7 := { stood := { row := talliesMoreUptoRow, standIns := [], harness := (true, "d79dbf2de687057592eede0a90796b893576009cb7d1cc8501c0e3163a0fa7c1"), looks := false }, kinds := [], alts := [], laidByText := true, laidKinds := [.data, .data], laidTests := true, laidLooks := .later }
def TalliesMoreUptoCardSaid : Prop := Claim7.holds Tryz.pinned (.plain (OpenSpec.upto talliesMoreSpec)) talliesMoreUptoCard

/-- THE SECOND FORM's CARD OF 'flonglaw11.TalliesWithout'. -/
def talliesWithoutUptoCard : Claim7 := { stood := { row := talliesWithoutUptoRow, standIns := [], harness := (true, "d79dbf2de687057592eede0a90796b893576009cb7d1cc8501c0e3163a0fa7c1"), looks := false }, kinds := [], alts := [], laidByText := true, laidKinds := [.data, .data], laidTests := true, laidLooks := .later }
def TalliesWithoutUptoCardSaid : Prop := Claim7.holds Tryz.pinned (.plain (OpenSpec.upto talliesWithoutSpec)) talliesWithoutUptoCard

/-- THE SECOND FORM's CARD OF 'flonglaw11.TalliesOrder'. -/
def talliesOrderUptoCard : Claim7 := { stood := { row := talliesOrderUptoRow, standIns := [], harness := (true, "d79dbf2de687057592eede0a90796b893576009cb7d1cc8501c0e3163a0fa7c1"), looks := false }, kinds := [], alts := [], laidByText := true, laidKinds := [.data, .data], laidTests := true, laidLooks := .later }
def TalliesOrderUptoCardSaid : Prop := Claim7.holds Tryz.pinned (.plain (OpenSpec.upto talliesOrderSpec)) talliesOrderUptoCard

/-- THE SECOND FORM's CARD OF 'flonglaw11.TalliesHonest'. -/
def talliesHonestUptoCard : Claim7 := { stood := { row := talliesHonestUptoRow, standIns := [], harness := (true, "d79dbf2de687057592eede0a90796b893576009cb7d1cc8501c0e3163a0fa7c1"), looks := false }, kinds := [], alts := [], laidByText := true, laidKinds := [.data, .data], laidTests := true, laidLooks := .later }
def TalliesHonestUptoCardSaid : Prop := Claim7.holds Tryz.pinned (.plain (OpenSpec.upto talliesHonestSpec)) talliesHonestUptoCard

/-- THE SECOND FORM's CARD OF 'flonglaw11.TalliesParts'. -/
def talliesPartsUptoCard : Claim7 := { stood := { row := talliesPartsUptoRow, standIns := [], harness := (true, "d79dbf2de687057592eede0a90796b893576009cb7d1cc8501c0e3163a0fa7c1"), looks := false }, kinds := [], alts := [], laidByText := true, laidKinds := [.data, .data], laidTests := true, laidLooks := .later }
def TalliesPartsUptoCardSaid : Prop := Claim7.holds Tryz.pinned (.plain (OpenSpec.upto talliesPartsSpec)) talliesPartsUptoCard

/-- THE SECOND FORM's CARD OF 'flonglaw11.TalliesAsk'. -/
def talliesAskUptoCard : Claim7 := { stood := { row := talliesAskUptoRow, standIns := [], harness := (true, "d79dbf2de687057592eede0a90796b893576009cb7d1cc8501c0e3163a0fa7c1"), looks := false }, kinds := [], alts := [], laidByText := true, laidKinds := [.data, .data], laidTests := true, laidLooks := .later }
def TalliesAskUptoCardSaid : Prop := Claim7.holds Tryz.pinned (.plain (OpenSpec.upto talliesAskSpec)) talliesAskUptoCard

/-- THE SECOND FORM's CARD OF 'flonglaw11.TalliesFalse'. -/
def talliesFalseUptoCard : Claim7 := { stood := { row := talliesFalseUptoRow, standIns := [], harness := (true, "d79dbf2de687057592eede0a90796b893576009cb7d1cc8501c0e3163a0fa7c1"), looks := false }, kinds := [], alts := [], laidByText := true, laidKinds := [.data, .data], laidTests := true, laidLooks := .later }
def TalliesFalseUptoCardSaid : Prop := Claim7.holds Tryz.pinned (.plain (OpenSpec.upto talliesFalseSpec)) talliesFalseUptoCard

/-- THE SECOND FORM's CARD OF 'flongtop.TopBorne'. -/
def topBorneUptoCard : Claim7 := { stood := { row := topBorneUptoRow, standIns := [], harness := (true, "d79dbf2de687057592eede0a90796b893576009cb7d1cc8501c0e3163a0fa7c1"), looks := false }, kinds := [], alts := [], laidByText := true, laidKinds := [.data, .data], laidTests := true, laidLooks := .later }
def TopBorneUptoCardSaid : Prop := Claim7.holds Tryz.pinned (.plain (OpenSpec.upto topBorneSpec)) topBorneUptoCard
end Rows
end Go.Proofs.YtapgiededfphfaaGreatDoor
