/- WorkTells: the statement. Conditions: none. -/
import Derived.Test.YtamjldakllafcaaDoorWtel
import Derived.Test.YtamjldakllafcaaDoorRWtl
namespace Go.Proofs.YtamjldakllafcaaDoor.workTells
set_option linter.unusedVariables false
set_option linter.unusedSimpArgs false
open Go.Proofs.YtamjldakllafcaaDoor
theorem proved : Rows.WorkTellsCardSaid := card_of fun d n took want w hd _ _ _ hE => tells_any d hd n took want w hE
#print axioms proved
end Go.Proofs.YtamjldakllafcaaDoor.workTells
