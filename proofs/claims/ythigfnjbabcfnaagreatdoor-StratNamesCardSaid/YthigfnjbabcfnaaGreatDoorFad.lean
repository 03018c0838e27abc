/-
  Closed facts of the row, the functions in place, those that are not followed.
  Closed facts of the row, recursion, the variables that are named.
  Closed facts of the row, the others.
-/
import Derived.Test.YthigfnjbabcfnaaGreatDoorCards
import Derived.JoinedOf
import Derived.KernelRfl
namespace Go.Proofs.YthigfnjbabcfnaaGreatDoor.stratNames
set_option maxRecDepth 100000

theorem k10 : ((Rows.stratNamesRow.inPlace == Tryz.pinned.checked.prog.inPlace 3)) = true := by kernel_rfl
theorem k11 : ((Rows.stratNamesRow.unfollowed == Tryz.pinned.checked.prog.unfollowed 3)) = true := by kernel_rfl

end Go.Proofs.YthigfnjbabcfnaaGreatDoor.stratNames

namespace Go.Proofs.YthigfnjbabcfnaaGreatDoor.stratNames
set_option maxRecDepth 100000

theorem k12 : ((Rows.stratNamesRow.recurses == Tryz.pinned.checked.prog.recurses 3)) = true := by kernel_rfl
theorem k13 : ((Rows.stratNamesRow.named == Tryz.pinned.checked.prog.varsNamed 3)) = true := by kernel_rfl

end Go.Proofs.YthigfnjbabcfnaaGreatDoor.stratNames

namespace Go.Proofs.YthigfnjbabcfnaaGreatDoor.stratNames
set_option maxRecDepth 100000

theorem k1 : (Rows.stratNamesRow.wf (OpenSpec.ofChange Rows.stratNamesSpec)) = true := by kernel_rfl
theorem k2 : (laidOutB Tryz.pinned.checked.prog) = true := by kernel_rfl
theorem k3 : (mapsRowed Tryz.pinned.checked.prog) = true := by kernel_rfl
theorem k4 : (Tryz.f3.params.all (Tryz.pinned.checked.prog.readableRec ·)) = true := by kernel_rfl
theorem k5 : (namedTie Tryz.pinned.checked.prog Rows.stratNamesRow.named Rows.stratNamesSpec.vars) = true := by kernel_rfl
theorem k6 : ((Rows.stratNamesRow.stops == [])) = true := by kernel_rfl
theorem k7 : ((Tryz.pinned.checked.prog.stops == [])) = true := by kernel_rfl
theorem k8 : ((Rows.stratNamesRow.knobs == [])) = true := by kernel_rfl
theorem k9 : ((Tryz.pinned.checked.prog.stopKnobs == [])) = true := by kernel_rfl
theorem k14 : ((Rows.stratNamesRow.maps == (Tryz.f3.params.toList ++ Rows.stratNamesSpec.plain.varTypes Tryz.pinned.checked.prog).any (Tryz.pinned.checked.prog.mapsRec ·))) = true := by kernel_rfl
theorem k15 : ((Rows.stratNamesRow.ifaces == (Tryz.f3.params.toList ++ Rows.stratNamesSpec.plain.varTypes Tryz.pinned.checked.prog).any (Tryz.pinned.checked.prog.ifacesRec ·))) = true := by kernel_rfl
theorem k16 : ((Rows.stratNamesRow.mapsOut == Tryz.pinned.checked.prog.mapsAmong Tryz.f3.resultTypes.toList)) = true := by kernel_rfl
theorem k17 : ((Rows.stratNamesRow.loops == (Tryz.f3.params.toList ++ Rows.stratNamesSpec.plain.varTypes Tryz.pinned.checked.prog).any (Tryz.pinned.checked.prog.loopsFrom ·))) = true := by kernel_rfl
theorem k18 : ((Rows.stratNamesRow.wideKeys == (Tryz.f3.params.toList ++ Rows.stratNamesSpec.plain.varTypes Tryz.pinned.checked.prog ++ Tryz.f3.resultTypes.toList).any (Tryz.pinned.checked.prog.wideKeysFrom ·))) = true := by kernel_rfl
theorem k19 : (Rows.stratNamesSpec.vars.all (Tryz.pinned.checked.prog.varReadable ·)) = true := by kernel_rfl
theorem k20 : (Tryz.f3.resultTypes.all (fun t => Tryz.pinned.checked.prog.readableRec t && decide (t < Tryz.pinned.checked.prog.types.size))) = true := by kernel_rfl
theorem k21 : ((Rows.stratNamesRow.ifacesOut == Tryz.f3.resultTypes.toList.any (Tryz.pinned.checked.prog.ifacesRec ·))) = true := by kernel_rfl
theorem k22 : ((Rows.stratNamesRow.loopsOut == Tryz.f3.resultTypes.toList.any (Tryz.pinned.checked.prog.loopsFrom ·))) = true := by kernel_rfl
theorem k23 : ((Rows.stratNamesRow.plainKeys == Tryz.pinned.checked.prog.plainKeys)) = true := by kernel_rfl
theorem k24 : (Rows.stratNamesRow.shortTexts.isNone) = true := by kernel_rfl
theorem k25 : (Tryz.pinned.checked.prog.stopsHeard) = true := by kernel_rfl
theorem k26 : (Tryz.pinned.checked.prog.mayEnter) = true := by kernel_rfl
theorem k27 : ((Rows.stratNamesRow.lifted == Tryz.pinned.checked.prog.liftsFinal)) = true := by kernel_rfl
theorem k28 : ((Tryz.pinned.checked.prog.make == some Rows.stratNamesRow.make)) = true := by kernel_rfl
theorem k29 : ((Rows.stratNamesRow.kinds == (if Rows.stratNamesRow.domain.isEmpty then [] else Tryz.f3.params.toList.map fun t => match Tryz.pinned.checked.prog.underlying t with | some (.int k) => some k | _ => none))) = true := by kernel_rfl
theorem k30 : ((Rows.stratNamesRow.pinned == Rows.stratNamesRow.pinnedBy)) = true := by kernel_rfl
theorem k31 : ((Rows.stratNamesRow.veiled == (Tryz.f3.params.toList ++ Rows.stratNamesSpec.plain.varTypes Tryz.pinned.checked.prog ++ Tryz.f3.resultTypes.toList).any (Tryz.pinned.checked.prog.veiledRec ·))) = true := by kernel_rfl
theorem k32 : (Rows.stratNamesRow.veiledFits Tryz.pinned.checked.prog Tryz.f3.params.toList (Tryz.f3.params.toList ++ Rows.stratNamesSpec.plain.varTypes Tryz.pinned.checked.prog ++ Tryz.f3.resultTypes.toList)) = true := by kernel_rfl
theorem kw : Rows.stratNamesRow.wfByText (OpenSpec.ofChange Rows.stratNamesSpec) = true := by kernel_rfl
theorem kl : false = Tryz.pinned.checked.prog.looks [] := by kernel_rfl
theorem kf : Tryz.pinned.checked.prog.funcNamed Rows.stratNamesRow.func = some 3 := by kernel_rfl
theorem km : Tryz.pinned.checked.prog.mainIs = some (true, "4181692667e31413760a8f5cff7f37bef1a2a82b927e91f82a90f021409d1c6f".toList) := by kernel_rfl

end Go.Proofs.YthigfnjbabcfnaaGreatDoor.stratNames
