/-
  DERIVED. GIVEN WITH THE SEED: THE CARDS: each row of YtljcdkfafknnpaaDoorRows.lean that lists a variable, with what it lists TIED to the program's text (the seventh form; the later family's looks); each row that meets fmt, with fmt's text TOLD by the authors' own Lean function (tested against real Go, not proved from fmt's source: count such statements apart). THE CARD IS WHAT COUNTS. Prove the row's statement (the work); the ties are given (YtljcdkfafknnpaaDoorTie.lean); close each card by the builder's one call (the guide's Derived/Test/ToyasCard.lean, 'card_holds'). Laid BY PROGRAM, IN A SANDBOX (cutbox-door.mjs). By AI agents, Wed Nov 11 2026. No macro, syntax, notation, axiom, sorry.
-/
import Derived.Test.YtljcdkfafknnpaaDoorRows
import GoSem.ClaimSeven
namespace Go.Proofs.YtljcdkfafknnpaaDoor
namespace Rows

/-- THE TIED CARD OF 'moneyerlaw2.TxID'. -/
def txIDCard : Claim7 := { stood := { row := txIDRow, standIns := [], harness := (true, "b00e9016dd387f9af14fb2cb9b4eb47ec11b7fba72a1fd8e2524af5b6b4794ef"), looks := true }, kinds := [], alts := [], laidByText := true, laidKinds := [.data], laidTests := true, laidLooks := .later }
def TxIDCardSaid : Prop := Claim7.holds Tryd.pinned (.plain (OpenSpec.ofChange txIDSpec)) txIDCard

/-- THE TIED CARD OF 'moneyerlaw2.CoinTells'. -/
def coinTellsCard : Claim7 := { stood := { row := coinTellsRow, standIns := [], harness := (true, "b00e9016dd387f9af14fb2cb9b4eb47ec11b7fba72a1fd8e2524af5b6b4794ef"), looks := true }, kinds := [], alts := [], laidByText := true, laidKinds := [.handle], laidTests := true, laidLooks := .later }
def CoinTellsCardSaid : Prop := Claim7.holds Tryd.pinned (.plain (OpenSpec.ofChange coinTellsSpec)) coinTellsCard

/-- THE TIED CARD OF 'moneyerlaw2.CoinOrder'. -/
def coinOrderCard : Claim7 := { stood := { row := coinOrderRow, standIns := [], harness := (true, "b00e9016dd387f9af14fb2cb9b4eb47ec11b7fba72a1fd8e2524af5b6b4794ef"), looks := true }, kinds := [], alts := [], laidByText := true, laidKinds := [.data], laidTests := true, laidLooks := .later }
def CoinOrderCardSaid : Prop := Claim7.holds Tryd.pinned (.plain (OpenSpec.ofChange coinOrderSpec)) coinOrderCard

/-- THE TIED CARD OF 'moneyerlaw2.CoinSums'. -/
def coinSumsCard : Claim7 := { stood := { row := coinSumsRow, standIns := [], harness := (true, "b00e9016dd387f9af14fb2cb9b4eb47ec11b7fba72a1fd8e2524af5b6b4794ef"), looks := true }, kinds := [], alts := [], laidByText := true, laidKinds := [.data], laidTests := true, laidLooks := .later }
def CoinSumsCardSaid : Prop := Claim7.holds Tryd.pinned (.plain (OpenSpec.ofChange coinSumsSpec)) coinSumsCard

/-- THE TIED CARD OF 'moneyerlaw2.CoinBack'. -/
def coinBackCard : Claim7 := { stood := { row := coinBackRow, standIns := [], harness := (true, "b00e9016dd387f9af14fb2cb9b4eb47ec11b7fba72a1fd8e2524af5b6b4794ef"), looks := true }, kinds := [], alts := [], laidByText := true, laidKinds := [.data], laidTests := true, laidLooks := .later }
def CoinBackCardSaid : Prop := Claim7.holds Tryd.pinned (.plain (OpenSpec.ofChange coinBackSpec)) coinBackCard

/-- THE TIED CARD OF 'moneyerlaw2.CoinOnce'. -/
def coinOnceCard : Claim7 := { stood := { row := coinOnceRow, standIns := [], harness := (true, "b00e9016dd387f9af14fb2cb9b4eb47ec11b7fba72a1fd8e2524af5b6b4794ef"), looks := true }, kinds := [], alts := [], laidByText := true, laidKinds := [.data, .handle], laidTests := true, laidLooks := .later }
def CoinOnceCardSaid : Prop := Claim7.holds Tryd.pinned (.plain (OpenSpec.ofChange coinOnceSpec)) coinOnceCard

/-- THE SECOND FORM's CARD OF 'moneyerlaw2.TxID'. -/
def txIDUptoCard : Claim7 := { stood := { row := txIDUptoRow, standIns := [], harness := (true, "b00e9016dd387f9af14fb2cb9b4eb47ec11b7fba72a1fd8e2524af5b6b4794ef"), looks := true }, kinds := [], alts := [], laidByText := true, laidKinds := [.data], laidTests := true, laidLooks := .later }
def TxIDUptoCardSaid : Prop := Claim7.holds Tryd.pinned (.plain (OpenSpec.upto txIDSpec)) txIDUptoCard

/-- THE SECOND FORM's CARD OF 'moneyerlaw2.CoinTells'. -/
def coinTellsUptoCard : Claim7 := { stood := { row := coinTellsUptoRow, standIns := [], harness := (true, "b00e9016dd387f9af14fb2cb9b4eb47ec11b7fba72a1fd8e2524af5b6b4794ef"), looks := true }, kinds := [], alts := [], laidByText := true, laidKinds := [.handle], laidTests := true, laidLooks := .later }
def CoinTellsUptoCardSaid : Prop := Claim7.holds Tryd.pinned (.plain (OpenSpec.upto coinTellsSpec)) coinTellsUptoCard

/-- THE SECOND FORM's CARD OF 'moneyerlaw2.CoinOrder'. -/
def coinOrderUptoCard : Claim7 := { stood := { row := coinOrderUptoRow, standIns := [], harness := (true, "b00e9016dd387f9af14fb2cb9b4eb47ec11b7fba72a1fd8e2524af5b6b4794ef"), looks := true }, kinds := [], alts := [], laidByText := true, laidKinds := [.data], laidTests := true, laidLooks := .later }
def CoinOrderUptoCardSaid : Prop := Claim7.holds Tryd.pinned (.plain (OpenSpec.upto coinOrderSpec)) coinOrderUptoCard

/-- THE SECOND FORM's CARD OF 'moneyerlaw2.CoinSums'. -/
def coinSumsUptoCard : Claim7 := { stood := { row := coinSumsUptoRow, standIns := [], harness := (true, "b00e9016dd387f9af14fb2cb9b4eb47ec11b7fba72a1fd8e2524af5b6b4794ef"), looks := true }, kinds := [], alts := [], laidByText := true, laidKinds := [.data], laidTests := true, laidLooks := .later }
def CoinSumsUptoCardSaid : Prop := Claim7.holds Tryd.pinned (.plain (OpenSpec.upto coinSumsSpec)) coinSumsUptoCard

/-- THE SECOND FORM's CARD OF 'moneyerlaw2.CoinBack'. -/
def coinBackUptoCard : Claim7 := { stood := { row := coinBackUptoRow, standIns := [], harness := (true, "b00e9016dd387f9af14fb2cb9b4eb47ec11b7fba72a1fd8e2524af5b6b4794ef"), looks := true }, kinds := [], alts := [], laidByText := true, laidKinds := [.data], laidTests := true, laidLooks := .later }
def CoinBackUptoCardSaid : Prop := Claim7.holds Tryd.pinned (.plain (OpenSpec.upto coinBackSpec)) coinBackUptoCard

/-- THE SECOND FORM's CARD OF 'moneyerlaw2.CoinOnce'. -/
def coinOnceUptoCard : Claim7 := { stood := { row := coinOnceUptoRow, standIns := [], harness := (true, "b00e9016dd387f9af14fb2cb9b4eb47ec11b7fba72a1fd8e2524af5b6b4794ef"), looks := true }, kinds := [], alts := [], laidByText := true, laidKinds := [.data, .handle], laidTests := true, laidLooks := .later }
def CoinOnceUptoCardSaid : Prop := Claim7.holds Tryd.pinned (.plain (OpenSpec.upto coinOnceSpec)) coinOnceUptoCard
end Rows
end Go.Proofs.YtljcdkfafknnpaaDoor
