/- TreeHalves: the statement. Conditions: none. -/
import Derived.Test.YtamjldakllafcaaDoorHalw
import Derived.Test.YtamjldakllafcaaDoorRHalv
namespace Go.Proofs.YtamjldakllafcaaDoor.treeHalves
open Go.Proofs.YtamjldakllafcaaDoor
theorem proved : Rows.TreeHalvesCardSaid := card_of halves_any
#print axioms proved
end Go.Proofs.YtamjldakllafcaaDoor.treeHalves
