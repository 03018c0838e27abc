/-
  The walk of 'WireSettles'.
-/
import Derived.Test.YtlikgpehalhgkaaGreatPR8
import Derived.Test.YtlikgpehalhgkaaGreatPR1
import Derived.Test.YtlikgpehalhgkaaGreatPWQ
import Derived.Test.YtlikgpehalhgkaaGreatPWH
import Derived.Test.YtlikgpehalhgkaaGreatPWD
namespace Go.Ai.Wire
open Go.Proofs Go.IntWalk
attribute [local irreducible] Trie.put

end Go.Ai.Wire
