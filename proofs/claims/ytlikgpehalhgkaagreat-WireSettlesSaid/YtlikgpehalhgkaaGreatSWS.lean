/-
  A step of a story.
-/
import Derived.Test.YtlikgpehalhgkaaGreatSWR
namespace Go.Ai.Wire
open Go.Proofs Go.IntWalk
attribute [local irreducible] Trie.put

end Go.Ai.Wire
