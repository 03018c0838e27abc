/-
  Closed facts of the row, the goroutines.
-/
import Derived.Test.YtolmnccikdjjmaaGreatDoorCards
import Derived.JoinedOf
import Derived.KernelRfl
namespace Go.Proofs.YtolmnccikdjjmaaGreatDoor.flowNames
set_option maxRecDepth 100000

theorem kg : false = Rows.flowNamesRow.goesBy Tryz.pinned.checked.prog := by kernel_rfl

end Go.Proofs.YtolmnccikdjjmaaGreatDoor.flowNames
