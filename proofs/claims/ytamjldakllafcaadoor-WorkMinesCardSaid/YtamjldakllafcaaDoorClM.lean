/- WorkMines: the statement. Conditions: none. -/
import Derived.Test.YtamjldakllafcaaDoorMinw
import Derived.Test.YtamjldakllafcaaDoorRMin
namespace Go.Proofs.YtamjldakllafcaaDoor.workMines
set_option linter.unusedVariables false
set_option linter.unusedSimpArgs false
open Go.Proofs.YtamjldakllafcaaDoor
theorem proved : Rows.WorkMinesCardSaid := card_of fun b v bn fr tries n w hr hl hb _ _ _ hT hE => mines_any b v bn fr tries n w hr hl hb hT hE
#print axioms proved
end Go.Proofs.YtamjldakllafcaaDoor.workMines
