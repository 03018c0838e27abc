/-
  Ends and lines of an argument, in the evaluator's memory.
-/
import Derived.Test.YtlikgpehalhgkaaQWD
import Derived.Test.YtlikgpehalhgkaaQWB
namespace Go.Ai.Wire
open Go.Proofs Go.IntWalk

variable {H : Type} {enc : TypeId × Value → H} {P : Program} {w : World} {held : Bool}

theorem scrub_clean {n : Nat} {v : Value} (h : cleanS n v = true) : scrub n v = v := by
  unfold scrub
  rw [if_pos h]
theorem cleanS_int (n : Nat) (k : IntKind) (z : Int) : cleanS n (.int k z) = true := rfl

theorem add_add' (a : Addr) (m n : Nat) : (a.add m).add n = a.add (m + n) := by
  unfold Addr.add
  by_cases hm : m = 0 <;> by_cases hn : n = 0 <;> simp [hm, hn, Nat.add_assoc]

/-- Types of frames with their numbers. -/
structure ItT (P : Program) (t e : TypeId) : Prop where
  ht : P.underlying t = some (.slice e)
  he : ∃ fs f0 f1, P.underlying e = some (.struct fs) ∧ fs[0]? = some f0 ∧ fs[1]? = some f1 ∧ f0.offset = 0 ∧ f1.offset = 1 ∧ P.underlying f0.type = some (.int .i64) ∧ P.cellsOf f0.type = 1 ∧ P.cellsOf f1.type = 1 ∧ ∃ u, P.underlying f1.type = some (.slice u) ∧ P.underlying u = some (.int .u8) ∧ P.cellsOf u = 1
  hc : P.cellsOf e = 2

theorem int_inv {t : TypeId} {k : IntKind} {fuel : Nat} {c : Value} {x : DataW H × List MemPlace} {base : Nat} {spare : Nat → Bool} (ht : P.underlying t = some (.int k))
    (h : DataW.trod enc P w base spare held fuel t [c] = some x) : ∃ n, c = .int k n := by
  obtain ⟨n, e, _⟩ := DataW.trod_int ht h
  cases e
  exact ⟨n, rfl⟩

/-- Types of ends. -/
structure EndT (P : Program) (t ti ts te : TypeId) : Prop where
  he : ∃ fs f0 f1 f2 f3, P.underlying t = some (.struct fs) ∧ fs[0]? = some f0 ∧ fs[1]? = some f1 ∧ fs[2]? = some f2 ∧ fs[3]? = some f3 ∧ f0.offset = 0 ∧ f1.offset = 1 ∧ f2.offset = 2 ∧ f3.offset = 3 ∧ f0.type = ti ∧ f1.type = ts ∧ f2.type = ti ∧ f3.type = ts
  hi : P.underlying ti = some (.int .i64)
  hs : ItT P ts te
  ci : P.cellsOf ti = 1
  cs : P.cellsOf ts = 1
  hc : P.cellsOf t = 4

/-- Types of lines. -/
structure LineT (P : Program) (t ta tn ti ts te tf tg : TypeId) : Prop where
  he : ∃ fs f0 f1, P.underlying t = some (.struct fs) ∧ fs[0]? = some f0 ∧ fs[1]? = some f1 ∧ f0.offset = 0 ∧ f1.offset = 8 ∧ f0.type = ta ∧ f1.type = tf
  ha : P.underlying ta = some (.array 2 tn)
  hn : EndT P tn ti ts te
  hf : ItT P tf tg
  ca : P.cellsOf ta = 8
  cf : P.cellsOf tf = 1
  hc : P.cellsOf t = 9

end Go.Ai.Wire
