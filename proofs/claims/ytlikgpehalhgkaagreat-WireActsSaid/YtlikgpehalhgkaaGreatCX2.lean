/-
  'calm' and 'Settle'.
-/
import Derived.Test.YtlikgpehalhgkaaGreatCX1
import Derived.Test.YtlikgpehalhgkaaGreatCWY
namespace Go.Ai.Wire
open Go.Proofs Go.IntWalk
attribute [local irreducible] Trie.put

end Go.Ai.Wire
