/- Merged: ClBt. Conditions: none beyond each theorem's own. -/
import Derived.Test.YtljcdkfafknnpaaGreatDoorBtl
import Derived.Test.YtljcdkfafknnpaaGreatDoorRBt
namespace Go.Proofs.YtljcdkfafknnpaaGreatDoor.blockTells
set_option linter.unusedVariables false
set_option linter.unusedSimpArgs false
open Go.Proofs.YtljcdkfafknnpaaGreatDoor Go.RowKit
theorem proved : Rows.BlockTellsCardSaid := card_of fun h b v n hk ts ta tc w oh hb hl hn ok hts hT hE => by
  have hb' := hb
  obtain ⟨ao, cap, rfl, -, -, -⟩ := hb'
  exact blockTells_any h hk oh ok b n ao cap ts ta tc w hb hl hn hts hT hE
#print axioms proved
end Go.Proofs.YtljcdkfafknnpaaGreatDoor.blockTells
