/-
  DERIVED. GIVEN WITH THE SEED: THE CARDS: each row of YtamjldakllafcaaDoorRows.lean that lists a variable, with what it lists TIED to the program's text (the seventh form; the later family's looks); each row that meets fmt, with fmt's text TOLD by the authors' own Lean function (tested against real Go, not proved from fmt's source: count such statements apart). THE CARD IS WHAT COUNTS. Prove the row's statement (the work); the ties are given (YtamjldakllafcaaDoorTie.lean); close each card by the builder's one call (the guide's Derived/Test/ToyasCard.lean, 'card_holds'). Laid BY PROGRAM, IN A SANDBOX (cutbox-door.mjs). By AI agents, Wed Nov 11 2026. No macro, syntax, notation, axiom, sorry.
-/
import Derived.Test.YtamjldakllafcaaDoorRows
import GoSem.ClaimSeven
namespace Go.Proofs.YtamjldakllafcaaDoor
namespace Rows

/-- THE TIED CARD OF 'moneyerlaw3.TreeHalves'. -/
def treeHalvesCard : Claim7 := { stood := { row := treeHalvesRow, standIns := [], harness := (true, "c802542dfb7f904566617373da775662c2990cead2b8936729ee6455fba83246"), looks := true }, kinds := [], alts := [], laidByText := true, laidKinds := [.data], laidTests := true, laidLooks := .later }
def TreeHalvesCardSaid : Prop := Claim7.holds Tryd.pinned (.plain (OpenSpec.ofChange treeHalvesSpec)) treeHalvesCard

/-- THE TIED CARD OF 'moneyerlaw3.WorkGood'. -/
def workGoodCard : Claim7 := { stood := { row := workGoodRow, standIns := [], harness := (true, "c802542dfb7f904566617373da775662c2990cead2b8936729ee6455fba83246"), looks := true }, kinds := [], alts := [], laidByText := true, laidKinds := [.data], laidTests := true, laidLooks := .later }
def WorkGoodCardSaid : Prop := Claim7.holds Tryd.pinned (.plain (OpenSpec.ofChange workGoodSpec)) workGoodCard

/-- THE TIED CARD OF 'moneyerlaw3.TreeBinds'. -/
def treeBindsCard : Claim7 := { stood := { row := treeBindsRow, standIns := [], harness := (true, "c802542dfb7f904566617373da775662c2990cead2b8936729ee6455fba83246"), looks := true }, kinds := [], alts := [], laidByText := true, laidKinds := [.data], laidTests := true, laidLooks := .later }
def TreeBindsCardSaid : Prop := Claim7.holds Tryd.pinned (.plain (OpenSpec.ofChange treeBindsSpec)) treeBindsCard

/-- THE TIED CARD OF 'moneyerlaw3.TreeSound'. -/
def treeSoundCard : Claim7 := { stood := { row := treeSoundRow, standIns := [], harness := (true, "c802542dfb7f904566617373da775662c2990cead2b8936729ee6455fba83246"), looks := true }, kinds := [], alts := [], laidByText := true, laidKinds := [.data], laidTests := true, laidLooks := .later }
def TreeSoundCardSaid : Prop := Claim7.holds Tryd.pinned (.plain (OpenSpec.ofChange treeSoundSpec)) treeSoundCard

/-- THE TIED CARD OF 'moneyerlaw3.TreeProves'. -/
def treeProvesCard : Claim7 := { stood := { row := treeProvesRow, standIns := [], harness := (true, "c802542dfb7f904566617373da775662c2990cead2b8936729ee6455fba83246"), looks := true }, kinds := [], alts := [], laidByText := true, laidKinds := [.data], laidTests := true, laidLooks := .later }
def TreeProvesCardSaid : Prop := Claim7.holds Tryd.pinned (.plain (OpenSpec.ofChange treeProvesSpec)) treeProvesCard

/-- THE TIED CARD OF 'moneyerlaw3.WorkTells'. -/
def workTellsCard : Claim7 := { stood := { row := workTellsRow, standIns := [], harness := (true, "c802542dfb7f904566617373da775662c2990cead2b8936729ee6455fba83246"), looks := true }, kinds := [], alts := [], laidByText := true, laidKinds := [.handle], laidTests := true, laidLooks := .later }
def WorkTellsCardSaid : Prop := Claim7.holds Tryd.pinned (.plain (OpenSpec.ofChange workTellsSpec)) workTellsCard

/-- THE TIED CARD OF 'moneyerlaw3.TreeRoots'. -/
def treeRootsCard : Claim7 := { stood := { row := treeRootsRow, standIns := [], harness := (true, "c802542dfb7f904566617373da775662c2990cead2b8936729ee6455fba83246"), looks := true }, kinds := [], alts := [], laidByText := true, laidKinds := [.data, .handle], laidTests := true, laidLooks := .later }
def TreeRootsCardSaid : Prop := Claim7.holds Tryd.pinned (.plain (OpenSpec.ofChange treeRootsSpec)) treeRootsCard

/-- THE TIED CARD OF 'moneyerlaw3.WorkMines'. -/
def workMinesCard : Claim7 := { stood := { row := workMinesRow, standIns := [], harness := (true, "c802542dfb7f904566617373da775662c2990cead2b8936729ee6455fba83246"), looks := true }, kinds := [], alts := [], laidByText := true, laidKinds := [.data, .handle], laidTests := true, laidLooks := .later }
def WorkMinesCardSaid : Prop := Claim7.holds Tryd.pinned (.plain (OpenSpec.ofChange workMinesSpec)) workMinesCard

/-- THE TIED CARD OF 'moneyerlaw3.TreePaths'. -/
def treePathsCard : Claim7 := { stood := { row := treePathsRow, standIns := [], harness := (true, "c802542dfb7f904566617373da775662c2990cead2b8936729ee6455fba83246"), looks := true }, kinds := [], alts := [], laidByText := true, laidKinds := [.data, .handle], laidTests := true, laidLooks := .later }
def TreePathsCardSaid : Prop := Claim7.holds Tryd.pinned (.plain (OpenSpec.ofChange treePathsSpec)) treePathsCard

/-- THE SECOND FORM's CARD OF 'moneyerlaw3.TreeHalves'. -/
def treeHalvesUptoCard : Claim7 := { stood := { row := treeHalvesUptoRow, standIns := [], harness := (true, "c802542dfb7f904566617373da775662c2990cead2b8936729ee6455fba83246"), looks := true }, kinds := [], alts := [], laidByText := true, laidKinds := [.data], laidTests := true, laidLooks := .later }
def TreeHalvesUptoCardSaid : Prop := Claim7.holds Tryd.pinned (.plain (OpenSpec.upto treeHalvesSpec)) treeHalvesUptoCard

/-- THE SECOND FORM's CARD OF 'moneyerlaw3.WorkGood'. -/
def workGoodUptoCard : Claim7 := { stood := { row := workGoodUptoRow, standIns := [], harness := (true, "c802542dfb7f904566617373da775662c2990cead2b8936729ee6455fba83246"), looks := true }, kinds := [], alts := [], laidByText := true, laidKinds := [.data], laidTests := true, laidLooks := .later }
def WorkGoodUptoCardSaid : Prop := Claim7.holds Tryd.pinned (.plain (OpenSpec.upto workGoodSpec)) workGoodUptoCard

/-- THE SECOND FORM's CARD OF 'moneyerlaw3.TreeBinds'. -/
def treeBindsUptoCard : Claim7 := { stood := { row := treeBindsUptoRow, standIns := [], harness := (true, "c802542dfb7f904566617373da775662c2990cead2b8936729ee6455fba83246"), looks := true }, kinds := [], alts := [], laidByText := true, laidKinds := [.data], laidTests := true, laidLooks := .later }
def TreeBindsUptoCardSaid : Prop := Claim7.holds Tryd.pinned (.plain (OpenSpec.upto treeBindsSpec)) treeBindsUptoCard

/-- THE SECOND FORM's CARD OF 'moneyerlaw3.TreeSound'. -/
def treeSoundUptoCard : Claim7 := { stood := { row := treeSoundUptoRow, standIns := [], harness := (true, "c802542dfb7f904566617373da775662c2990cead2b8936729ee6455fba83246"), looks := true }, kinds := [], alts := [], laidByText := true, laidKinds := [.data], laidTests := true, laidLooks := .later }
def TreeSoundUptoCardSaid : Prop := Claim7.holds Tryd.pinned (.plain (OpenSpec.upto treeSoundSpec)) treeSoundUptoCard

/-- THE SECOND FORM's CARD OF 'moneyerlaw3.TreeProves'. -/
def treeProvesUptoCard : Claim7 := { stood := { row := treeProvesUptoRow, standIns := [], harness := (true, "c802542dfb7f904566617373da775662c2990cead2b8936729ee6455fba83246"), looks := true }, kinds := [], alts := [], laidByText := true, laidKinds := [.data], laidTests := true, laidLooks := .later }
def TreeProvesUptoCardSaid : Prop := Claim7.holds Tryd.pinned (.plain (OpenSpec.upto treeProvesSpec)) treeProvesUptoCard

/-- THE SECOND FORM's CARD OF 'moneyerlaw3.WorkTells'. -/
def workTellsUptoCard : Claim7 := { stood := { row := workTellsUptoRow, standIns := [], harness := (true, "c802542dfb7f904566617373da775662c2990cead2b8936729ee6455fba83246"), looks := true }, kinds := [], alts := [], laidByText := true, laidKinds := [.handle], laidTests := true, laidLooks := .later }
def WorkTellsUptoCardSaid : Prop := Claim7.holds Tryd.pinned (.plain (OpenSpec.upto workTellsSpec)) workTellsUptoCard

/-- THE SECOND FORM's CARD OF 'moneyerlaw3.TreeRoots'. -/
def treeRootsUptoCard : Claim7 := { stood := { row := treeRootsUptoRow, standIns := [], harness := (true, "c802542dfb7f904566617373da775662c2990cead2b8936729ee6455fba83246"), looks := true }, kinds := [], alts := [], laidByText := true, laidKinds := [.data, .handle], laidTests := true, laidLooks := .later }
def TreeRootsUptoCardSaid : Prop := Claim7.holds Tryd.pinned (.plain (OpenSpec.upto treeRootsSpec)) treeRootsUptoCard

/-- THE SECOND FORM's CARD OF 'moneyerlaw3.WorkMines'. -/
def workMinesUptoCard : Claim7 := { stood := { row := workMinesUptoRow, standIns := [], harness := (true, "c802542dfb7f904566617373da775662c2990cead2b8936729ee6455fba83246"), looks := true }, kinds := [], alts := [], laidByText := true, laidKinds := [.data, .handle], laidTests := true, laidLooks := .later }
def WorkMinesUptoCardSaid : Prop := Claim7.holds Tryd.pinned (.plain (OpenSpec.upto workMinesSpec)) workMinesUptoCard

/-- THE SECOND FORM's CARD OF 'moneyerlaw3.TreePaths'. -/
def treePathsUptoCard : Claim7 := { stood := { row := treePathsUptoRow, standIns := [], harness := (true, "c802542dfb7f904566617373da775662c2990cead2b8936729ee6455fba83246"), looks := true }, kinds := [], alts := [], laidByText := true, laidKinds := [.data, .handle], laidTests := true, laidLooks := .later }
def TreePathsUptoCardSaid : Prop := Claim7.holds Tryd.pinned (.plain (OpenSpec.upto treePathsSpec)) treePathsUptoCard
end Rows
end Go.Proofs.YtamjldakllafcaaDoor
