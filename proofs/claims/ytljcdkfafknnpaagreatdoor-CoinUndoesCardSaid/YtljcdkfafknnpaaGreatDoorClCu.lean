/- Merged: ClCu. Conditions: none beyond each theorem's own. -/
import Derived.Test.YtljcdkfafknnpaaGreatDoorCud
import Derived.Test.YtljcdkfafknnpaaGreatDoorRCud
namespace Go.Proofs.YtljcdkfafknnpaaGreatDoor.coinUndoes
set_option linter.unusedVariables false
set_option linter.unusedSimpArgs false
open Go.Proofs.YtljcdkfafknnpaaGreatDoor
theorem proved : Rows.CoinUndoesCardSaid := card_of fun cs ca cc t ai ci ao co sp sa sc w hc hi ho hs hf hT hE => coinUndoes_any cs ca cc t ai ci ao co sp sa sc w hc hi ho hs hf hT hE
#print axioms proved
end Go.Proofs.YtljcdkfafknnpaaGreatDoor.coinUndoes
