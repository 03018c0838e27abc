/-
  What a line has gone through.
-/
import Derived.Test.YtlikgpehalhgkaaGreatPWT
namespace Go.Ai.Wire
open Go.Proofs Go.IntWalk
attribute [local irreducible] Trie.put

end Go.Ai.Wire
