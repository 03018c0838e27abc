/-
  The walk of 'WireActs'.
-/
import Derived.Test.YtlikgpehalhgkaaGreatPS1
namespace Go.Ai.Wire
open Go.Proofs Go.IntWalk
attribute [local irreducible] Trie.put

end Go.Ai.Wire
