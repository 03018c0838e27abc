/-
  Bytes of an argument, in the evaluator's memory.
-/
import Derived.Test.YtlikgpehalhgkaaGreatPWA
import Derived.Test.YtlikgpehalhgkaaGreatPAiG
import Derived.ChangeSlices
import Derived.WideShapes
namespace Go.Ai.Wire
open Go.Proofs Go.IntWalk

variable {H : Type} {enc : TypeId × Value → H} {P : Program} {w : World} {held : Bool}

theorem cell_inv {a : Addr} {v : Value} (h : w.cell? a = some v) : ∃ cs e fz, w.heap[a.block]? = some (.cells cs e fz) ∧ a.spot = none ∧ cs[a.off]? = some v := by
  unfold World.cell? at h
  split at h
  · rename_i c e f hh
    split at h
    · cases h
    · rename_i hs
      exact ⟨c, e, f, hh, by simpa using hs, h⟩
  · cases h

end Go.Ai.Wire
