/-
  No cell of these rows narrows 'for every input' (looked for: loops, veiled, ifaces, maps, wideKeys, modest, calm, conditions, laid).
  DERIVED. THE GIVEN ROWS OF THIS SEAT. 3 by the template 'for every input the law returns true; each argument reads behind the call as it read before'; 0 by the template 'total and deterministic' (their statements: YtlikgpehalhgkaaGreatTotals.lean).
  GIVEN WITH THE SEED: the statements are not yours to turn. If you find one false, say at which input.
  Laid BY PROGRAM, IN A SANDBOX (cutbox-rows.mjs): the forced cells as the released guide's own fill.sh prints them over the translation ec67ccb4bd225437… (all of the seat's roots in one cut). By AI agents, Wed Nov 11 2026. No macro, syntax, notation, axiom, sorry.
-/
import Derived.Test.YtlikgpehalhgkaaGreatChecked
import GoSem.Claim
import GoSem.ClaimJoined
import GoSem.ClaimMapViews
import Derived.JoinedTies
import Derived.KernelRfl
namespace Go.Proofs.YtlikgpehalhgkaaGreat
/- THE CELL 'sum', in the pinned program and in every row, IS THE sha256 OF THE DUMP (.gsa) THAT YtlikgpehalhgkaaGreatProg.lean LOADS. Nothing in Lean hashes anything: it is a label: what it is worth is what the hold of that sum in a sandbox is worth. -/
noncomputable def Tryz.pinned : Pinned := { name := "ytlikgpehalhgkaagreat", sum := "ec67ccb4bd225437c9cb3385332d29d93e7c31ffdf6779050641dc9d347c617b", checked := Tryz.checked }
namespace Rows
def none {H : Type} : Left H := { results := [], args := [] }

/-- 'ripostelaw25.WirePlays': WHATEVER THE INPUT: true; the input reads as it did. -/
def wirePlaysSpec : ChangeSpec := { name := "wirePlays", fn := fun _ => fun
  | [d1, d2] => { results := [.lit (.bool true)], args := [d1, d2] }
  | _ => none }
def wirePlaysRow : OpenClaim := { program := "ytlikgpehalhgkaagreat", sum := "ec67ccb4bd225437c9cb3385332d29d93e7c31ffdf6779050641dc9d347c617b", func := "riposte/ripostelaw25.WirePlays", spec := "wirePlays", inPlace := ["slices.overlaps[riposte/api.WireItem]"], unfollowed := true, recurses := true, apart := false }
def WirePlaysSaid : Prop := wirePlaysRow.holds Tryz.pinned (OpenSpec.ofChange wirePlaysSpec)

/-- ITS FALSE NEIGHBOUR: 'it returns false'. Refute it at one input. -/
def wirePlaysWrong : ChangeSpec := { name := "wirePlays", fn := fun _ => fun
  | [d1, d2] => { results := [.lit (.bool false)], args := [d1, d2] }
  | _ => none }
def WirePlaysWrongFalsely : Prop := wirePlaysRow.holds Tryz.pinned (OpenSpec.ofChange wirePlaysWrong)

/-- 'ripostelaw25.WireSettles': WHATEVER THE INPUT: true; the input reads as it did. -/
def wireSettlesSpec : ChangeSpec := { name := "wireSettles", fn := fun _ => fun
  | [d] => { results := [.lit (.bool true)], args := [d] }
  | _ => none }
def wireSettlesRow : OpenClaim := { program := "ytlikgpehalhgkaagreat", sum := "ec67ccb4bd225437c9cb3385332d29d93e7c31ffdf6779050641dc9d347c617b", func := "riposte/ripostelaw25.WireSettles", spec := "wireSettles", inPlace := ["slices.overlaps[riposte/api.WireItem]"], unfollowed := true, recurses := true, apart := false }
def WireSettlesSaid : Prop := wireSettlesRow.holds Tryz.pinned (OpenSpec.ofChange wireSettlesSpec)

/-- ITS FALSE NEIGHBOUR: 'it returns false'. Refute it at one input. -/
def wireSettlesWrong : ChangeSpec := { name := "wireSettles", fn := fun _ => fun
  | [d] => { results := [.lit (.bool false)], args := [d] }
  | _ => none }
def WireSettlesWrongFalsely : Prop := wireSettlesRow.holds Tryz.pinned (OpenSpec.ofChange wireSettlesWrong)

/-- 'ripostelaw25.WireActs': WHATEVER THE INPUT: true; the input reads as it did. -/
def wireActsSpec : ChangeSpec := { name := "wireActs", fn := fun _ => fun
  | [d1, d2] => { results := [.lit (.bool true)], args := [d1, d2] }
  | _ => none }
def wireActsRow : OpenClaim := { program := "ytlikgpehalhgkaagreat", sum := "ec67ccb4bd225437c9cb3385332d29d93e7c31ffdf6779050641dc9d347c617b", func := "riposte/ripostelaw25.WireActs", spec := "wireActs", inPlace := ["slices.overlaps[riposte/api.WireItem]"], unfollowed := true, recurses := true, apart := false }
def WireActsSaid : Prop := wireActsRow.holds Tryz.pinned (OpenSpec.ofChange wireActsSpec)

/-- ITS FALSE NEIGHBOUR: 'it returns false'. Refute it at one input. -/
def wireActsWrong : ChangeSpec := { name := "wireActs", fn := fun _ => fun
  | [d1, d2] => { results := [.lit (.bool false)], args := [d1, d2] }
  | _ => none }
def WireActsWrongFalsely : Prop := wireActsRow.holds Tryz.pinned (OpenSpec.ofChange wireActsWrong)

/- THE SECOND FORM. 'bulk': how many values and letters a reading holds, each counted each time it is reached (what is shared counts as often as it is met; a slice's spare places count too). A statement '..UptoSaid' is the law's where the arguments, and the package variables that the reading takes, are together of bulk at most 1048576: NARROWER than '..Said'. Prove '..Said' where nothing that the law and all that it calls make is longer than what came in: it says more and counts as full. Else prove '..UptoSaid'. A law counts once. -/
mutual
def uptoBulk {H : Type} : DataW H → Nat
  | .lit (.string bytes) => bytes.length + 1
  | .lit _ => 1
  | .nil => 1
  | .ptr d => uptoBulk d + 1
  | .slice elems spare => uptoBulkAll elems + uptoBulkAll spare + 1
  | .agg parts => uptoBulkAll parts + 1
  | .iface _ d => uptoBulk d + 1
  | .map entries => uptoBulkEntries entries + 1
  | .held _ => 1
def uptoBulkAll {H : Type} : List (DataW H) → Nat
  | [] => 0
  | d :: r => uptoBulk d + uptoBulkAll r
def uptoBulkEntries {H : Type} : List (Lit × DataW H) → Nat
  | [] => 0
  | x :: r => uptoBulkEntry x + uptoBulkEntries r
def uptoBulkEntry {H : Type} : Lit × DataW H → Nat
  | (.string bytes, d) => bytes.length + uptoBulk d + 1
  | (_, d) => uptoBulk d + 1
 end
def uptoSmall : (H : Type) → List (DataW H) → Bool := fun _ ds => decide (uptoBulkAll ds ≤ 1048576)
def OpenSpec.upto (s : _root_.Go.ChangeSpec) : _root_.Go.OpenSpec := { _root_.Go.OpenSpec.ofChange s with cond := some uptoSmall }

/-- 'ripostelaw25.WirePlays', WHERE WHAT IT READS IS OF BULK AT MOST 1048576: true; the input reads as it did. -/
def wirePlaysUptoRow : OpenClaim := { program := "ytlikgpehalhgkaagreat", sum := "ec67ccb4bd225437c9cb3385332d29d93e7c31ffdf6779050641dc9d347c617b", func := "riposte/ripostelaw25.WirePlays", spec := "wirePlays", inPlace := ["slices.overlaps[riposte/api.WireItem]"], unfollowed := true, recurses := true, apart := false, narrowed := true }
def WirePlaysUptoSaid : Prop := wirePlaysUptoRow.holds Tryz.pinned (OpenSpec.upto wirePlaysSpec)

/-- 'ripostelaw25.WireSettles', WHERE WHAT IT READS IS OF BULK AT MOST 1048576: true; the input reads as it did. -/
def wireSettlesUptoRow : OpenClaim := { program := "ytlikgpehalhgkaagreat", sum := "ec67ccb4bd225437c9cb3385332d29d93e7c31ffdf6779050641dc9d347c617b", func := "riposte/ripostelaw25.WireSettles", spec := "wireSettles", inPlace := ["slices.overlaps[riposte/api.WireItem]"], unfollowed := true, recurses := true, apart := false, narrowed := true }
def WireSettlesUptoSaid : Prop := wireSettlesUptoRow.holds Tryz.pinned (OpenSpec.upto wireSettlesSpec)

/-- 'ripostelaw25.WireActs', WHERE WHAT IT READS IS OF BULK AT MOST 1048576: true; the input reads as it did. -/
def wireActsUptoRow : OpenClaim := { program := "ytlikgpehalhgkaagreat", sum := "ec67ccb4bd225437c9cb3385332d29d93e7c31ffdf6779050641dc9d347c617b", func := "riposte/ripostelaw25.WireActs", spec := "wireActs", inPlace := ["slices.overlaps[riposte/api.WireItem]"], unfollowed := true, recurses := true, apart := false, narrowed := true }
def WireActsUptoSaid : Prop := wireActsUptoRow.holds Tryz.pinned (OpenSpec.upto wireActsSpec)

end Rows
end Go.Proofs.YtlikgpehalhgkaaGreat
