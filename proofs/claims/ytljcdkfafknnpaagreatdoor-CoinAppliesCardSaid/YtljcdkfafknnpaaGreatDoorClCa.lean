/- Merged: ClCa. Conditions: none beyond each theorem's own. -/
import Derived.Test.YtljcdkfafknnpaaGreatDoorCap
import Derived.Test.YtljcdkfafknnpaaGreatDoorRCap
namespace Go.Proofs.YtljcdkfafknnpaaGreatDoor.coinApplies
set_option linter.unusedVariables false
set_option linter.unusedSimpArgs false
open Go.Proofs.YtljcdkfafknnpaaGreatDoor
theorem proved : Rows.CoinAppliesCardSaid := card_of fun cs ca cc t ai ci ao co h w hc hi ho _ hT hE => coinApplies_any cs ca cc t ai ci ao co h w hc hi ho hT hE
#print axioms proved
end Go.Proofs.YtljcdkfafknnpaaGreatDoor.coinApplies
