/-
  DERIVED. GIVEN WITH THE SEED: THE CARDS: each row of YtljcdkfafknnpaaGreatDoorRows.lean that lists a variable, with what it lists TIED to the program's text (the seventh form; the later family's looks); each row that meets fmt, with fmt's text TOLD by the authors' own Lean function (tested against real Go, not proved from fmt's source: count such statements apart). THE CARD IS WHAT COUNTS. Prove the row's statement (the work); the ties are given (YtljcdkfafknnpaaGreatDoorTie.lean); close each card by the builder's one call (the guide's Derived/Test/ToyasCard.lean, 'card_holds'). Laid BY PROGRAM, IN A SANDBOX (cutbox-door.mjs). By AI agents, Wed Nov 11 2026. No macro, syntax, notation, axiom, sorry.
-/
import Derived.Test.YtljcdkfafknnpaaGreatDoorRows
import GoSem.ClaimSeven
namespace Go.Proofs.YtljcdkfafknnpaaGreatDoor
namespace Rows

/-- THE TIED CARD OF 'moneyerlaw3.BlockTells'. -/
def blockTellsCard : Claim7 := { stood := { row := blockTellsRow, standIns := [], harness := (true, "a65b81c4798c4ef6f7e5a2980033cf2002400f0d1ab7cd684028a781ebc79c7f"), looks := true }, kinds := [], alts := [], laidByText := true, laidKinds := [.data, .handle], laidTests := true, laidLooks := .later }
def BlockTellsCardSaid : Prop := Claim7.holds Tryz.pinned (.plain (OpenSpec.ofChange blockTellsSpec)) blockTellsCard

/-- THE TIED CARD OF 'moneyerlaw2.CoinApplies'. -/
def coinAppliesCard : Claim7 := { stood := { row := coinAppliesRow, standIns := [], harness := (true, "a65b81c4798c4ef6f7e5a2980033cf2002400f0d1ab7cd684028a781ebc79c7f"), looks := true }, kinds := [], alts := [], laidByText := true, laidKinds := [.data, .handle], laidTests := true, laidLooks := .later }
def CoinAppliesCardSaid : Prop := Claim7.holds Tryz.pinned (.plain (OpenSpec.ofChange coinAppliesSpec)) coinAppliesCard

/-- THE TIED CARD OF 'moneyerlaw2.CoinUndoes'. -/
def coinUndoesCard : Claim7 := { stood := { row := coinUndoesRow, standIns := [], harness := (true, "a65b81c4798c4ef6f7e5a2980033cf2002400f0d1ab7cd684028a781ebc79c7f"), looks := true }, kinds := [], alts := [], laidByText := true, laidKinds := [.data, .handle], laidTests := true, laidLooks := .later }
def CoinUndoesCardSaid : Prop := Claim7.holds Tryz.pinned (.plain (OpenSpec.ofChange coinUndoesSpec)) coinUndoesCard

/-- THE SECOND FORM's CARD OF 'moneyerlaw3.BlockTells'. -/
def blockTellsUptoCard : Claim7 := { stood := { row := blockTellsUptoRow, standIns := [], harness := (true, "a65b81c4798c4ef6f7e5a2980033cf2002400f0d1ab7cd684028a781ebc79c7f"), looks := true }, kinds := [], alts := [], laidByText := true, laidKinds := [.data, .handle], laidTests := true, laidLooks := .later }
def BlockTellsUptoCardSaid : Prop := Claim7.holds Tryz.pinned (.plain (OpenSpec.upto blockTellsSpec)) blockTellsUptoCard

/-- THE SECOND FORM's CARD OF 'moneyerlaw2.CoinApplies'. -/
def coinAppliesUptoCard : Claim7 := { stood := { row := coinAppliesUptoRow, standIns := [], harness := (true, "a65b81c4798c4ef6f7e5a2980033cf2002400f0d1ab7cd684028a781ebc79c7f"), looks := true }, kinds := [], alts := [], laidByText := true, laidKinds := [.data, .handle], laidTests := true, laidLooks := .later }
def CoinAppliesUptoCardSaid : Prop := Claim7.holds Tryz.pinned (.plain (OpenSpec.upto coinAppliesSpec)) coinAppliesUptoCard

/-- THE SECOND FORM's CARD OF 'moneyerlaw2.CoinUndoes'. -/
def coinUndoesUptoCard : Claim7 := { stood := { row := coinUndoesUptoRow, standIns := [], harness := (true, "a65b81c4798c4ef6f7e5a2980033cf2002400f0d1ab7cd684028a781ebc79c7f"), looks := true }, kinds := [], alts := [], laidByText := true, laidKinds := [.data, .handle], laidTests := true, laidLooks := .later }
def CoinUndoesUptoCardSaid : Prop := Claim7.holds Tryz.pinned (.plain (OpenSpec.upto coinUndoesSpec)) coinUndoesUptoCard
end Rows
end Go.Proofs.YtljcdkfafknnpaaGreatDoor
