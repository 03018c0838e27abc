/-
  A step of a story.
-/
import Derived.Test.YtlikgpehalhgkaaGreatPWR
namespace Go.Ai.Wire
open Go.Proofs Go.IntWalk
attribute [local irreducible] Trie.put

theorem doF_len (x : LineA) (a : ActA) : (doF x a).2.1.length ≤ 16 := by
  unfold doF
  split
  · rename_i h
    split
    · have := doW_h (y := ⟨x, [], []⟩) h a
      dsimp only at this ⊢
      rw [List.length_append]
      simp at this
      omega
    · simp
  · simp

end Go.Ai.Wire
