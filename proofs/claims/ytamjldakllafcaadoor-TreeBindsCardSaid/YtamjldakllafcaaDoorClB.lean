/- TreeBinds: the statement. Conditions: none. -/
import Derived.Test.YtamjldakllafcaaDoorBndw
import Derived.Test.YtamjldakllafcaaDoorRBnd
namespace Go.Proofs.YtamjldakllafcaaDoor.treeBinds
open Go.Proofs.YtamjldakllafcaaDoor
theorem proved : Rows.TreeBindsCardSaid := card_of fun ls0 v0 n0 ls1 v1 n1 w h0 r0 l0 h1 r1 l1 hT => binds_any ls0 ls1 h0 h1 v0 v1 n0 n1 w r0 l0 r1 l1 hT
#print axioms proved
end Go.Proofs.YtamjldakllafcaaDoor.treeBinds
