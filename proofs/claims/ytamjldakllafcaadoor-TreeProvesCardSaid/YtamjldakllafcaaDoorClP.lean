/- TreeProves: the statement. Conditions: none. -/
import Derived.Test.YtamjldakllafcaaDoorPrvw
import Derived.Test.YtamjldakllafcaaDoorRPrv
namespace Go.Proofs.YtamjldakllafcaaDoor.treeProves
open Go.Proofs.YtamjldakllafcaaDoor
theorem proved : Rows.TreeProvesCardSaid := card_of fun ls v n i w h32 hb hl _ hT => proves_any ls h32 v n i w hb hl hT
#print axioms proved
end Go.Proofs.YtamjldakllafcaaDoor.treeProves
