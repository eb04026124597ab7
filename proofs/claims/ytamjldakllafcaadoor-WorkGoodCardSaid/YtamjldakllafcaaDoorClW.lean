/- WorkGood: the statement. Conditions: none. -/
import Derived.Test.YtamjldakllafcaaDoorGoodw
import Derived.Test.YtamjldakllafcaaDoorRWrk
namespace Go.Proofs.YtamjldakllafcaaDoor.workGood
open Go.Proofs.YtamjldakllafcaaDoor
theorem proved : Rows.WorkGoodCardSaid := card_of fun b0 v0 n0 a1 a2 a3 a4 w hr hl hb _ _ _ _ hT => workGood_any b0 v0 n0 a1 a2 a3 a4 w hr hl hb hT
#print axioms proved
end Go.Proofs.YtamjldakllafcaaDoor.workGood
