/- TreePaths: the statement. Conditions: none. -/
import Derived.Test.YtamjldakllafcaaDoorTpw
import Derived.Test.YtamjldakllafcaaDoorRPth
namespace Go.Proofs.YtamjldakllafcaaDoor.treePaths
set_option linter.unusedVariables false
set_option linter.unusedSimpArgs false
open Go.Proofs.YtamjldakllafcaaDoor
theorem proved : Rows.TreePathsCardSaid := card_of fun ls v m i l n ps pv pn w h32 hr hl _ hld _ p32 hp hpl hT hE => paths_any ls h32 v m i l hld n ps p32 pv pn w hr hl hp hpl hT hE
#print axioms proved
end Go.Proofs.YtamjldakllafcaaDoor.treePaths
