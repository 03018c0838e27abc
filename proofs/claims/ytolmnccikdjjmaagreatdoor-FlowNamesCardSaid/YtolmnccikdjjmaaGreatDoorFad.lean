/-
  Closed facts of the row, the functions in place, those that are not followed.
  Closed facts of the row, recursion, the variables that are named.
  Closed facts of the row, the others.
-/
import Derived.Test.YtolmnccikdjjmaaGreatDoorCards
import Derived.JoinedOf
import Derived.KernelRfl
namespace Go.Proofs.YtolmnccikdjjmaaGreatDoor.flowNames
set_option maxRecDepth 100000

theorem k10 : ((Rows.flowNamesRow.inPlace == Tryz.pinned.checked.prog.inPlace 3)) = true := by kernel_rfl
theorem k11 : ((Rows.flowNamesRow.unfollowed == Tryz.pinned.checked.prog.unfollowed 3)) = true := by kernel_rfl

end Go.Proofs.YtolmnccikdjjmaaGreatDoor.flowNames

namespace Go.Proofs.YtolmnccikdjjmaaGreatDoor.flowNames
set_option maxRecDepth 100000

theorem k12 : ((Rows.flowNamesRow.recurses == Tryz.pinned.checked.prog.recurses 3)) = true := by kernel_rfl
theorem k13 : ((Rows.flowNamesRow.named == Tryz.pinned.checked.prog.varsNamed 3)) = true := by kernel_rfl

end Go.Proofs.YtolmnccikdjjmaaGreatDoor.flowNames

namespace Go.Proofs.YtolmnccikdjjmaaGreatDoor.flowNames
set_option maxRecDepth 100000

theorem k1 : (Rows.flowNamesRow.wf (OpenSpec.ofChange Rows.flowNamesSpec)) = true := by kernel_rfl
theorem k2 : (laidOutB Tryz.pinned.checked.prog) = true := by kernel_rfl
theorem k3 : (mapsRowed Tryz.pinned.checked.prog) = true := by kernel_rfl
theorem k4 : (Tryz.f3.params.all (Tryz.pinned.checked.prog.readableRec ·)) = true := by kernel_rfl
theorem k5 : (namedTie Tryz.pinned.checked.prog Rows.flowNamesRow.named Rows.flowNamesSpec.vars) = true := by kernel_rfl
theorem k6 : ((Rows.flowNamesRow.stops == [])) = true := by kernel_rfl
theorem k7 : ((Tryz.pinned.checked.prog.stops == [])) = true := by kernel_rfl
theorem k8 : ((Rows.flowNamesRow.knobs == [])) = true := by kernel_rfl
theorem k9 : ((Tryz.pinned.checked.prog.stopKnobs == [])) = true := by kernel_rfl
theorem k14 : ((Rows.flowNamesRow.maps == (Tryz.f3.params.toList ++ Rows.flowNamesSpec.plain.varTypes Tryz.pinned.checked.prog).any (Tryz.pinned.checked.prog.mapsRec ·))) = true := by kernel_rfl
theorem k15 : ((Rows.flowNamesRow.ifaces == (Tryz.f3.params.toList ++ Rows.flowNamesSpec.plain.varTypes Tryz.pinned.checked.prog).any (Tryz.pinned.checked.prog.ifacesRec ·))) = true := by kernel_rfl
theorem k16 : ((Rows.flowNamesRow.mapsOut == Tryz.pinned.checked.prog.mapsAmong Tryz.f3.resultTypes.toList)) = true := by kernel_rfl
theorem k17 : ((Rows.flowNamesRow.loops == (Tryz.f3.params.toList ++ Rows.flowNamesSpec.plain.varTypes Tryz.pinned.checked.prog).any (Tryz.pinned.checked.prog.loopsFrom ·))) = true := by kernel_rfl
theorem k18 : ((Rows.flowNamesRow.wideKeys == (Tryz.f3.params.toList ++ Rows.flowNamesSpec.plain.varTypes Tryz.pinned.checked.prog ++ Tryz.f3.resultTypes.toList).any (Tryz.pinned.checked.prog.wideKeysFrom ·))) = true := by kernel_rfl
theorem k19 : (Rows.flowNamesSpec.vars.all (Tryz.pinned.checked.prog.varReadable ·)) = true := by kernel_rfl
theorem k20 : (Tryz.f3.resultTypes.all (fun t => Tryz.pinned.checked.prog.readableRec t && decide (t < Tryz.pinned.checked.prog.types.size))) = true := by kernel_rfl
theorem k21 : ((Rows.flowNamesRow.ifacesOut == Tryz.f3.resultTypes.toList.any (Tryz.pinned.checked.prog.ifacesRec ·))) = true := by kernel_rfl
theorem k22 : ((Rows.flowNamesRow.loopsOut == Tryz.f3.resultTypes.toList.any (Tryz.pinned.checked.prog.loopsFrom ·))) = true := by kernel_rfl
theorem k23 : ((Rows.flowNamesRow.plainKeys == Tryz.pinned.checked.prog.plainKeys)) = true := by kernel_rfl
theorem k24 : (Rows.flowNamesRow.shortTexts.isNone) = true := by kernel_rfl
theorem k25 : (Tryz.pinned.checked.prog.stopsHeard) = true := by kernel_rfl
theorem k26 : (Tryz.pinned.checked.prog.mayEnter) = true := by kernel_rfl
theorem k27 : ((Rows.flowNamesRow.lifted == Tryz.pinned.checked.prog.liftsFinal)) = true := by kernel_rfl
theorem k28 : ((Tryz.pinned.checked.prog.make == some Rows.flowNamesRow.make)) = true := by kernel_rfl
theorem k29 : ((Rows.flowNamesRow.kinds == (if Rows.flowNamesRow.domain.isEmpty then [] else Tryz.f3.params.toList.map fun t => match Tryz.pinned.checked.prog.underlying t with | some (.int k) => some k | _ => none))) = true := by kernel_rfl
theorem k30 : ((Rows.flowNamesRow.pinned == Rows.flowNamesRow.pinnedBy)) = true := by kernel_rfl
theorem k31 : ((Rows.flowNamesRow.veiled == (Tryz.f3.params.toList ++ Rows.flowNamesSpec.plain.varTypes Tryz.pinned.checked.prog ++ Tryz.f3.resultTypes.toList).any (Tryz.pinned.checked.prog.veiledRec ·))) = true := by kernel_rfl
theorem k32 : (Rows.flowNamesRow.veiledFits Tryz.pinned.checked.prog Tryz.f3.params.toList (Tryz.f3.params.toList ++ Rows.flowNamesSpec.plain.varTypes Tryz.pinned.checked.prog ++ Tryz.f3.resultTypes.toList)) = true := by kernel_rfl
theorem kw : Rows.flowNamesRow.wfByText (OpenSpec.ofChange Rows.flowNamesSpec) = true := by kernel_rfl
theorem kl : false = Tryz.pinned.checked.prog.looks [] := by kernel_rfl
theorem kf : Tryz.pinned.checked.prog.funcNamed Rows.flowNamesRow.func = some 3 := by kernel_rfl
theorem km : Tryz.pinned.checked.prog.mainIs = some (true, "de9e6fd82bce24839ecedaae440c6faf23e35fef5d310b0b2545be3ec92684ef".toList) := by kernel_rfl

end Go.Proofs.YtolmnccikdjjmaaGreatDoor.flowNames
