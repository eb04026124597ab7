/- CoinTells: the statement. Conditions: none. -/
import Derived.Test.YtljcdkfafknnpaaDoorCtel
import Derived.Test.YtljcdkfafknnpaaDoorRCtl
namespace Go.Proofs.YtljcdkfafknnpaaDoor.coinTells
set_option linter.unusedVariables false
set_option linter.unusedSimpArgs false
open Go.Proofs.YtljcdkfafknnpaaDoor
theorem proved : Rows.CoinTellsCardSaid := card_of fun p q cs ao cap w hp hq h hE => ctel_any p q hp hq cs ao cap w h hE
#print axioms proved
end Go.Proofs.YtljcdkfafknnpaaDoor.coinTells
