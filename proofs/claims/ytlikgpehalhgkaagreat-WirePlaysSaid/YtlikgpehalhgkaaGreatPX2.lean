/-
  'calm' and 'Settle'.
-/
import Derived.Test.YtlikgpehalhgkaaGreatPX1
import Derived.Test.YtlikgpehalhgkaaGreatPWY
namespace Go.Ai.Wire
open Go.Proofs Go.IntWalk
attribute [local irreducible] Trie.put

end Go.Ai.Wire
