/-
  The walk of 'WireSettles'.
-/
import Derived.Test.YtlikgpehalhgkaaGreatCR8
import Derived.Test.YtlikgpehalhgkaaGreatCR1
import Derived.Test.YtlikgpehalhgkaaGreatCWQ
import Derived.Test.YtlikgpehalhgkaaGreatCWH
import Derived.Test.YtlikgpehalhgkaaGreatCWD
namespace Go.Ai.Wire
open Go.Proofs Go.IntWalk
attribute [local irreducible] Trie.put

end Go.Ai.Wire
