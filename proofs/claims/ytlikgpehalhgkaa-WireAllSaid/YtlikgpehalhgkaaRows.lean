/-
  No cell of these rows narrows 'for every input' (looked for: loops, veiled, ifaces, maps, wideKeys, modest, calm, conditions, laid).
  DERIVED. THE GIVEN ROWS OF THIS SEAT. 10 by the template 'for every input the law returns true; each argument reads behind the call as it read before'; 0 by the template 'total and deterministic' (their statements: YtlikgpehalhgkaaTotals.lean).
  GIVEN WITH THE SEED: the statements are not yours to turn. If you find one false, say at which input.
  Laid BY PROGRAM, IN A SANDBOX (cutbox-rows.mjs): the forced cells as the released guide's own fill.sh prints them over the translation 5565a4de3cd0970e… (all of the seat's roots in one cut). By AI agents, Wed Nov 11 2026. No macro, syntax, notation, axiom, sorry.
-/
import Derived.Test.YtlikgpehalhgkaaChecked
import GoSem.Claim
import GoSem.ClaimJoined
import GoSem.ClaimMapViews
import Derived.JoinedTies
import Derived.KernelRfl
namespace Go.Proofs.Ytlikgpehalhgkaa
/- THE CELL 'sum', in the pinned program and in every row, IS THE sha256 OF THE DUMP (.gsa) THAT YtlikgpehalhgkaaProg.lean LOADS. Nothing in Lean hashes anything: it is a label: what it is worth is what the hold of that sum in a sandbox is worth. -/
noncomputable def Try.pinned : Pinned := { name := "ytlikgpehalhgkaa", sum := "5565a4de3cd0970eeede8a214680ff34d5f87dc2b1a6b7bdb7f681d7ca159ba3", checked := Try.checked }
namespace Rows
def none {H : Type} : Left H := { results := [], args := [] }

/-- 'ripostelaw25.WireBytes': WHATEVER THE INPUT: true; the input reads as it did. -/
def wireBytesSpec : ChangeSpec := { name := "wireBytes", fn := fun _ => fun
  | [d1, d2] => { results := [.lit (.bool true)], args := [d1, d2] }
  | _ => none }
def wireBytesRow : OpenClaim := { program := "ytlikgpehalhgkaa", sum := "5565a4de3cd0970eeede8a214680ff34d5f87dc2b1a6b7bdb7f681d7ca159ba3", func := "riposte/ripostelaw25.WireBytes", spec := "wireBytes", inPlace := ["slices.overlaps[riposte/api.WireItem]"], unfollowed := true, recurses := true, apart := false }
def WireBytesSaid : Prop := wireBytesRow.holds Try.pinned (OpenSpec.ofChange wireBytesSpec)

/-- ITS FALSE NEIGHBOUR: 'it returns false'. Refute it at one input. -/
def wireBytesWrong : ChangeSpec := { name := "wireBytes", fn := fun _ => fun
  | [d1, d2] => { results := [.lit (.bool false)], args := [d1, d2] }
  | _ => none }
def WireBytesWrongFalsely : Prop := wireBytesRow.holds Try.pinned (OpenSpec.ofChange wireBytesWrong)

/-- 'ripostelaw25.WireSpoilt': WHATEVER THE INPUT: true; the input reads as it did. -/
def wireSpoiltSpec : ChangeSpec := { name := "wireSpoilt", fn := fun _ => fun
  | [d1, d2, d3] => { results := [.lit (.bool true)], args := [d1, d2, d3] }
  | _ => none }
def wireSpoiltRow : OpenClaim := { program := "ytlikgpehalhgkaa", sum := "5565a4de3cd0970eeede8a214680ff34d5f87dc2b1a6b7bdb7f681d7ca159ba3", func := "riposte/ripostelaw25.WireSpoilt", spec := "wireSpoilt", inPlace := ["slices.overlaps[riposte/api.WireItem]"], unfollowed := true, recurses := true, apart := false }
def WireSpoiltSaid : Prop := wireSpoiltRow.holds Try.pinned (OpenSpec.ofChange wireSpoiltSpec)

/-- ITS FALSE NEIGHBOUR: 'it returns false'. Refute it at one input. -/
def wireSpoiltWrong : ChangeSpec := { name := "wireSpoilt", fn := fun _ => fun
  | [d1, d2, d3] => { results := [.lit (.bool false)], args := [d1, d2, d3] }
  | _ => none }
def WireSpoiltWrongFalsely : Prop := wireSpoiltRow.holds Try.pinned (OpenSpec.ofChange wireSpoiltWrong)

/-- 'ripostelaw25.WireChecks': WHATEVER THE INPUT: true; the input reads as it did. -/
def wireChecksSpec : ChangeSpec := { name := "wireChecks", fn := fun _ => fun
  | [d] => { results := [.lit (.bool true)], args := [d] }
  | _ => none }
def wireChecksRow : OpenClaim := { program := "ytlikgpehalhgkaa", sum := "5565a4de3cd0970eeede8a214680ff34d5f87dc2b1a6b7bdb7f681d7ca159ba3", func := "riposte/ripostelaw25.WireChecks", spec := "wireChecks", inPlace := ["slices.overlaps[riposte/api.WireItem]"], unfollowed := true, recurses := true, apart := false }
def WireChecksSaid : Prop := wireChecksRow.holds Try.pinned (OpenSpec.ofChange wireChecksSpec)

/-- ITS FALSE NEIGHBOUR: 'it returns false'. Refute it at one input. -/
def wireChecksWrong : ChangeSpec := { name := "wireChecks", fn := fun _ => fun
  | [d] => { results := [.lit (.bool false)], args := [d] }
  | _ => none }
def WireChecksWrongFalsely : Prop := wireChecksRow.holds Try.pinned (OpenSpec.ofChange wireChecksWrong)

/-- 'ripostelaw25.WireTakes': WHATEVER THE INPUT: true; the input reads as it did. -/
def wireTakesSpec : ChangeSpec := { name := "wireTakes", fn := fun _ => fun
  | [d1, d2] => { results := [.lit (.bool true)], args := [d1, d2] }
  | _ => none }
def wireTakesRow : OpenClaim := { program := "ytlikgpehalhgkaa", sum := "5565a4de3cd0970eeede8a214680ff34d5f87dc2b1a6b7bdb7f681d7ca159ba3", func := "riposte/ripostelaw25.WireTakes", spec := "wireTakes", inPlace := ["slices.overlaps[riposte/api.WireItem]"], unfollowed := true, recurses := true, apart := false }
def WireTakesSaid : Prop := wireTakesRow.holds Try.pinned (OpenSpec.ofChange wireTakesSpec)

/-- ITS FALSE NEIGHBOUR: 'it returns false'. Refute it at one input. -/
def wireTakesWrong : ChangeSpec := { name := "wireTakes", fn := fun _ => fun
  | [d1, d2] => { results := [.lit (.bool false)], args := [d1, d2] }
  | _ => none }
def WireTakesWrongFalsely : Prop := wireTakesRow.holds Try.pinned (OpenSpec.ofChange wireTakesWrong)

/-- 'ripostelaw25.WireSends': WHATEVER THE INPUT: true; the input reads as it did. -/
def wireSendsSpec : ChangeSpec := { name := "wireSends", fn := fun _ => fun
  | [d1, d2] => { results := [.lit (.bool true)], args := [d1, d2] }
  | _ => none }
def wireSendsRow : OpenClaim := { program := "ytlikgpehalhgkaa", sum := "5565a4de3cd0970eeede8a214680ff34d5f87dc2b1a6b7bdb7f681d7ca159ba3", func := "riposte/ripostelaw25.WireSends", spec := "wireSends", inPlace := ["slices.overlaps[riposte/api.WireItem]"], unfollowed := true, recurses := true, apart := false }
def WireSendsSaid : Prop := wireSendsRow.holds Try.pinned (OpenSpec.ofChange wireSendsSpec)

/-- ITS FALSE NEIGHBOUR: 'it returns false'. Refute it at one input. -/
def wireSendsWrong : ChangeSpec := { name := "wireSends", fn := fun _ => fun
  | [d1, d2] => { results := [.lit (.bool false)], args := [d1, d2] }
  | _ => none }
def WireSendsWrongFalsely : Prop := wireSendsRow.holds Try.pinned (OpenSpec.ofChange wireSendsWrong)

/-- 'ripostelaw25.WireOnce': WHATEVER THE INPUT: true; the input reads as it did. -/
def wireOnceSpec : ChangeSpec := { name := "wireOnce", fn := fun _ => fun
  | [d] => { results := [.lit (.bool true)], args := [d] }
  | _ => none }
def wireOnceRow : OpenClaim := { program := "ytlikgpehalhgkaa", sum := "5565a4de3cd0970eeede8a214680ff34d5f87dc2b1a6b7bdb7f681d7ca159ba3", func := "riposte/ripostelaw25.WireOnce", spec := "wireOnce", inPlace := ["slices.overlaps[riposte/api.WireItem]"], unfollowed := true, recurses := true, apart := false }
def WireOnceSaid : Prop := wireOnceRow.holds Try.pinned (OpenSpec.ofChange wireOnceSpec)

/-- ITS FALSE NEIGHBOUR: 'it returns false'. Refute it at one input. -/
def wireOnceWrong : ChangeSpec := { name := "wireOnce", fn := fun _ => fun
  | [d] => { results := [.lit (.bool false)], args := [d] }
  | _ => none }
def WireOnceWrongFalsely : Prop := wireOnceRow.holds Try.pinned (OpenSpec.ofChange wireOnceWrong)

/-- 'ripostelaw25.WireTurned': WHATEVER THE INPUT: true; the input reads as it did. -/
def wireTurnedSpec : ChangeSpec := { name := "wireTurned", fn := fun _ => fun
  | [d] => { results := [.lit (.bool true)], args := [d] }
  | _ => none }
def wireTurnedRow : OpenClaim := { program := "ytlikgpehalhgkaa", sum := "5565a4de3cd0970eeede8a214680ff34d5f87dc2b1a6b7bdb7f681d7ca159ba3", func := "riposte/ripostelaw25.WireTurned", spec := "wireTurned", inPlace := ["slices.overlaps[riposte/api.WireItem]"], unfollowed := true, recurses := true, apart := false }
def WireTurnedSaid : Prop := wireTurnedRow.holds Try.pinned (OpenSpec.ofChange wireTurnedSpec)

/-- ITS FALSE NEIGHBOUR: 'it returns false'. Refute it at one input. -/
def wireTurnedWrong : ChangeSpec := { name := "wireTurned", fn := fun _ => fun
  | [d] => { results := [.lit (.bool false)], args := [d] }
  | _ => none }
def WireTurnedWrongFalsely : Prop := wireTurnedRow.holds Try.pinned (OpenSpec.ofChange wireTurnedWrong)

/-- 'ripostelaw25.WireOld': WHATEVER THE INPUT: true; the input reads as it did. -/
def wireOldSpec : ChangeSpec := { name := "wireOld", fn := fun _ => fun
  | [d] => { results := [.lit (.bool true)], args := [d] }
  | _ => none }
def wireOldRow : OpenClaim := { program := "ytlikgpehalhgkaa", sum := "5565a4de3cd0970eeede8a214680ff34d5f87dc2b1a6b7bdb7f681d7ca159ba3", func := "riposte/ripostelaw25.WireOld", spec := "wireOld", inPlace := ["slices.overlaps[riposte/api.WireItem]"], unfollowed := true, recurses := true, apart := false }
def WireOldSaid : Prop := wireOldRow.holds Try.pinned (OpenSpec.ofChange wireOldSpec)

/-- ITS FALSE NEIGHBOUR: 'it returns false'. Refute it at one input. -/
def wireOldWrong : ChangeSpec := { name := "wireOld", fn := fun _ => fun
  | [d] => { results := [.lit (.bool false)], args := [d] }
  | _ => none }
def WireOldWrongFalsely : Prop := wireOldRow.holds Try.pinned (OpenSpec.ofChange wireOldWrong)

/-- 'ripostelaw25.WireAll': WHATEVER THE INPUT: true; the input reads as it did. -/
def wireAllSpec : ChangeSpec := { name := "wireAll", fn := fun _ => fun
  | [d] => { results := [.lit (.bool true)], args := [d] }
  | _ => none }
def wireAllRow : OpenClaim := { program := "ytlikgpehalhgkaa", sum := "5565a4de3cd0970eeede8a214680ff34d5f87dc2b1a6b7bdb7f681d7ca159ba3", func := "riposte/ripostelaw25.WireAll", spec := "wireAll", inPlace := ["slices.overlaps[riposte/api.WireItem]"], unfollowed := true, recurses := true, apart := false }
def WireAllSaid : Prop := wireAllRow.holds Try.pinned (OpenSpec.ofChange wireAllSpec)

/-- ITS FALSE NEIGHBOUR: 'it returns false'. Refute it at one input. -/
def wireAllWrong : ChangeSpec := { name := "wireAll", fn := fun _ => fun
  | [d] => { results := [.lit (.bool false)], args := [d] }
  | _ => none }
def WireAllWrongFalsely : Prop := wireAllRow.holds Try.pinned (OpenSpec.ofChange wireAllWrong)

/-- 'ripostelaw25.WireNames': WHATEVER THE INPUT: true; the input reads as it did. -/
def wireNamesSpec : ChangeSpec := { name := "wireNames", fn := fun _ => fun
  | [] => { results := [.lit (.bool true)], args := [] }
  | _ => none }
def wireNamesRow : OpenClaim := { program := "ytlikgpehalhgkaa", sum := "5565a4de3cd0970eeede8a214680ff34d5f87dc2b1a6b7bdb7f681d7ca159ba3", func := "riposte/ripostelaw25.WireNames", spec := "wireNames", inPlace := ["slices.overlaps[riposte/api.WireItem]"], unfollowed := true, recurses := true, apart := false }
def WireNamesSaid : Prop := wireNamesRow.holds Try.pinned (OpenSpec.ofChange wireNamesSpec)

/-- ITS FALSE NEIGHBOUR: 'it returns false'. Refute it at one input. -/
def wireNamesWrong : ChangeSpec := { name := "wireNames", fn := fun _ => fun
  | [] => { results := [.lit (.bool false)], args := [] }
  | _ => none }
def WireNamesWrongFalsely : Prop := wireNamesRow.holds Try.pinned (OpenSpec.ofChange wireNamesWrong)

/- THE SECOND FORM. 'bulk': how many values and letters a reading holds, each counted each time it is reached (what is shared counts as often as it is met; a slice's spare places count too). A statement '..UptoSaid' is the law's where the arguments, and the package variables that the reading takes, are together of bulk at most 1048576: NARROWER than '..Said'. Prove '..Said' where nothing that the law and all that it calls make is longer than what came in: it says more and counts as full. Else prove '..UptoSaid'. A law counts once. -/
mutual
def uptoBulk {H : Type} : DataW H → Nat
  | .lit (.string bytes) => bytes.length + 1
  | .lit _ => 1
  | .nil => 1
  | .ptr d => uptoBulk d + 1
  | .slice elems spare => uptoBulkAll elems + uptoBulkAll spare + 1
  | .agg parts => uptoBulkAll parts + 1
  | .iface _ d => uptoBulk d + 1
  | .map entries => uptoBulkEntries entries + 1
  | .held _ => 1
def uptoBulkAll {H : Type} : List (DataW H) → Nat
  | [] => 0
  | d :: r => uptoBulk d + uptoBulkAll r
def uptoBulkEntries {H : Type} : List (Lit × DataW H) → Nat
  | [] => 0
  | x :: r => uptoBulkEntry x + uptoBulkEntries r
def uptoBulkEntry {H : Type} : Lit × DataW H → Nat
  | (.string bytes, d) => bytes.length + uptoBulk d + 1
  | (_, d) => uptoBulk d + 1
 end
def uptoSmall : (H : Type) → List (DataW H) → Bool := fun _ ds => decide (uptoBulkAll ds ≤ 1048576)
def OpenSpec.upto (s : _root_.Go.ChangeSpec) : _root_.Go.OpenSpec := { _root_.Go.OpenSpec.ofChange s with cond := some uptoSmall }

/-- 'ripostelaw25.WireBytes', WHERE WHAT IT READS IS OF BULK AT MOST 1048576: true; the input reads as it did. -/
def wireBytesUptoRow : OpenClaim := { program := "ytlikgpehalhgkaa", sum := "5565a4de3cd0970eeede8a214680ff34d5f87dc2b1a6b7bdb7f681d7ca159ba3", func := "riposte/ripostelaw25.WireBytes", spec := "wireBytes", inPlace := ["slices.overlaps[riposte/api.WireItem]"], unfollowed := true, recurses := true, apart := false, narrowed := true }
def WireBytesUptoSaid : Prop := wireBytesUptoRow.holds Try.pinned (OpenSpec.upto wireBytesSpec)

/-- 'ripostelaw25.WireSpoilt', WHERE WHAT IT READS IS OF BULK AT MOST 1048576: true; the input reads as it did. -/
def wireSpoiltUptoRow : OpenClaim := { program := "ytlikgpehalhgkaa", sum := "5565a4de3cd0970eeede8a214680ff34d5f87dc2b1a6b7bdb7f681d7ca159ba3", func := "riposte/ripostelaw25.WireSpoilt", spec := "wireSpoilt", inPlace := ["slices.overlaps[riposte/api.WireItem]"], unfollowed := true, recurses := true, apart := false, narrowed := true }
def WireSpoiltUptoSaid : Prop := wireSpoiltUptoRow.holds Try.pinned (OpenSpec.upto wireSpoiltSpec)

/-- 'ripostelaw25.WireChecks', WHERE WHAT IT READS IS OF BULK AT MOST 1048576: true; the input reads as it did. -/
def wireChecksUptoRow : OpenClaim := { program := "ytlikgpehalhgkaa", sum := "5565a4de3cd0970eeede8a214680ff34d5f87dc2b1a6b7bdb7f681d7ca159ba3", func := "riposte/ripostelaw25.WireChecks", spec := "wireChecks", inPlace := ["slices.overlaps[riposte/api.WireItem]"], unfollowed := true, recurses := true, apart := false, narrowed := true }
def WireChecksUptoSaid : Prop := wireChecksUptoRow.holds Try.pinned (OpenSpec.upto wireChecksSpec)

/-- 'ripostelaw25.WireTakes', WHERE WHAT IT READS IS OF BULK AT MOST 1048576: true; the input reads as it did. -/
def wireTakesUptoRow : OpenClaim := { program := "ytlikgpehalhgkaa", sum := "5565a4de3cd0970eeede8a214680ff34d5f87dc2b1a6b7bdb7f681d7ca159ba3", func := "riposte/ripostelaw25.WireTakes", spec := "wireTakes", inPlace := ["slices.overlaps[riposte/api.WireItem]"], unfollowed := true, recurses := true, apart := false, narrowed := true }
def WireTakesUptoSaid : Prop := wireTakesUptoRow.holds Try.pinned (OpenSpec.upto wireTakesSpec)

/-- 'ripostelaw25.WireSends', WHERE WHAT IT READS IS OF BULK AT MOST 1048576: true; the input reads as it did. -/
def wireSendsUptoRow : OpenClaim := { program := "ytlikgpehalhgkaa", sum := "5565a4de3cd0970eeede8a214680ff34d5f87dc2b1a6b7bdb7f681d7ca159ba3", func := "riposte/ripostelaw25.WireSends", spec := "wireSends", inPlace := ["slices.overlaps[riposte/api.WireItem]"], unfollowed := true, recurses := true, apart := false, narrowed := true }
def WireSendsUptoSaid : Prop := wireSendsUptoRow.holds Try.pinned (OpenSpec.upto wireSendsSpec)

/-- 'ripostelaw25.WireOnce', WHERE WHAT IT READS IS OF BULK AT MOST 1048576: true; the input reads as it did. -/
def wireOnceUptoRow : OpenClaim := { program := "ytlikgpehalhgkaa", sum := "5565a4de3cd0970eeede8a214680ff34d5f87dc2b1a6b7bdb7f681d7ca159ba3", func := "riposte/ripostelaw25.WireOnce", spec := "wireOnce", inPlace := ["slices.overlaps[riposte/api.WireItem]"], unfollowed := true, recurses := true, apart := false, narrowed := true }
def WireOnceUptoSaid : Prop := wireOnceUptoRow.holds Try.pinned (OpenSpec.upto wireOnceSpec)

/-- 'ripostelaw25.WireTurned', WHERE WHAT IT READS IS OF BULK AT MOST 1048576: true; the input reads as it did. -/
def wireTurnedUptoRow : OpenClaim := { program := "ytlikgpehalhgkaa", sum := "5565a4de3cd0970eeede8a214680ff34d5f87dc2b1a6b7bdb7f681d7ca159ba3", func := "riposte/ripostelaw25.WireTurned", spec := "wireTurned", inPlace := ["slices.overlaps[riposte/api.WireItem]"], unfollowed := true, recurses := true, apart := false, narrowed := true }
def WireTurnedUptoSaid : Prop := wireTurnedUptoRow.holds Try.pinned (OpenSpec.upto wireTurnedSpec)

/-- 'ripostelaw25.WireOld', WHERE WHAT IT READS IS OF BULK AT MOST 1048576: true; the input reads as it did. -/
def wireOldUptoRow : OpenClaim := { program := "ytlikgpehalhgkaa", sum := "5565a4de3cd0970eeede8a214680ff34d5f87dc2b1a6b7bdb7f681d7ca159ba3", func := "riposte/ripostelaw25.WireOld", spec := "wireOld", inPlace := ["slices.overlaps[riposte/api.WireItem]"], unfollowed := true, recurses := true, apart := false, narrowed := true }
def WireOldUptoSaid : Prop := wireOldUptoRow.holds Try.pinned (OpenSpec.upto wireOldSpec)

/-- 'ripostelaw25.WireAll', WHERE WHAT IT READS IS OF BULK AT MOST 1048576: true; the input reads as it did. -/
def wireAllUptoRow : OpenClaim := { program := "ytlikgpehalhgkaa", sum := "5565a4de3cd0970eeede8a214680ff34d5f87dc2b1a6b7bdb7f681d7ca159ba3", func := "riposte/ripostelaw25.WireAll", spec := "wireAll", inPlace := ["slices.overlaps[riposte/api.WireItem]"], unfollowed := true, recurses := true, apart := false, narrowed := true }
def WireAllUptoSaid : Prop := wireAllUptoRow.holds Try.pinned (OpenSpec.upto wireAllSpec)

/-- 'ripostelaw25.WireNames', WHERE WHAT IT READS IS OF BULK AT MOST 1048576: true; the input reads as it did. -/
def wireNamesUptoRow : OpenClaim := { program := "ytlikgpehalhgkaa", sum := "5565a4de3cd0970eeede8a214680ff34d5f87dc2b1a6b7bdb7f681d7ca159ba3", func := "riposte/ripostelaw25.WireNames", spec := "wireNames", inPlace := ["slices.overlaps[riposte/api.WireItem]"], unfollowed := true, recurses := true, apart := false, narrowed := true }
def WireNamesUptoSaid : Prop := wireNamesUptoRow.holds Try.pinned (OpenSpec.upto wireNamesSpec)

end Rows
end Go.Proofs.Ytlikgpehalhgkaa
