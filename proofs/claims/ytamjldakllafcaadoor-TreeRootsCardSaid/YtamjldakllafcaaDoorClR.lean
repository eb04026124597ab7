/- TreeRoots: the statement. Conditions: none. -/
import Derived.Test.YtamjldakllafcaaDoorRtsw
import Derived.Test.YtamjldakllafcaaDoorRRts
namespace Go.Proofs.YtamjldakllafcaaDoor.treeRoots
set_option linter.unusedVariables false
set_option linter.unusedSimpArgs false
open Go.Proofs.YtamjldakllafcaaDoor
theorem proved : Rows.TreeRootsCardSaid := card_of fun ls v n b v1 bn w h32 hr hl hr1 hl1 hb hT hE => roots_any ls h32 v n b v1 bn w hr hl hr1 hl1 hb hT hE
#print axioms proved
end Go.Proofs.YtamjldakllafcaaDoor.treeRoots
