/- TreeSound: the statement. Conditions: none. -/
import Derived.Test.YtamjldakllafcaaDoorSndw
import Derived.Test.YtamjldakllafcaaDoorRSnd
namespace Go.Proofs.YtamjldakllafcaaDoor.treeSound
open Go.Proofs.YtamjldakllafcaaDoor
theorem proved : Rows.TreeSoundCardSaid := card_of fun d0 ls1 v1 n1 d2 ls3 v3 n3 a4 a5 w h0 h1 r1 l1 h2 h3 r3 l3 _ _ hT => sound_any d0 d2 h0 h2 v1 v3 n1 n3 ls1 ls3 h1 h3 a4 a5 w r1 l1 r3 l3 hT
#print axioms proved
end Go.Proofs.YtamjldakllafcaaDoor.treeSound
