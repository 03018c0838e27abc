/-
  Closed facts of the row, the goroutines.
-/
import Derived.Test.YthigfnjbabcfnaaGreatDoorCards
import Derived.JoinedOf
import Derived.KernelRfl
namespace Go.Proofs.YthigfnjbabcfnaaGreatDoor.stratNames
set_option maxRecDepth 100000

theorem kg : false = Rows.stratNamesRow.goesBy Tryz.pinned.checked.prog := by kernel_rfl

end Go.Proofs.YthigfnjbabcfnaaGreatDoor.stratNames
