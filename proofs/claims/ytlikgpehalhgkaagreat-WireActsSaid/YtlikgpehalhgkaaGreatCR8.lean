/-
  How the reference's acts and the program's acts go together: the laws.
  'Settle' of the reference.
  'Settle' of the reference.
-/
import Derived.Test.YtlikgpehalhgkaaGreatCR5
import Derived.Test.YtlikgpehalhgkaaGreatCR7
namespace Go.Ai.Wire

end Go.Ai.Wire

namespace Go.Ai.Wire
open Go.Proofs Go.IntWalk
attribute [local irreducible] Trie.put

section
variable {C : Ctx} {H : AHeap} {T : Env} {d : Option Nat} {r : List IOper} {K : Env → AHeap → Prop}
end

/-- A line of the reference, and what was handed on, at work. -/
structure RW (C : Ctx) (H : AHeap) (col : Nat → Nat) (o hh : Nat) (y : LineW) (o0 e0 o1 e1 f s0 s1 : Value) : Prop where
  obj : Obj1 H o (lineCells y.x o0 e0 o1 e1 f)
  c7 : col o = 7
  ln : PLine C H col y.x o0 e0 o1 e1 f
  hob : Obj1 H hh [s0, s1]
  c9 : col hh = 9
  r0 : WRow C H col 10 s0 y.h0
  r1 : WRow C H col 11 s1 y.h1
section
variable {C : Ctx} {H H' : AHeap} {col col' : Nat → Nat} {A : List Nat}
theorem RW.step (hs : Step A H col H' col') (hA : ∀ c ∈ A, c ≠ 0 ∧ c ≠ 7 ∧ c ≠ 9 ∧ c ≠ 10 ∧ c ≠ 11) {o hh : Nat} {y : LineW} {o0 e0 o1 e1 f s0 s1 : Value} (h : RW C H col o hh y o0 e0 o1 e1 f s0 s1) : RW C H' col' o hh y o0 e0 o1 e1 f s0 s1 :=
  ⟨Obj1.step hs h.obj (fun hm => by have := hA _ hm; rw [h.c7] at this; omega), by rw [hs.keep o (h.obj.lt hs.wf)]; exact h.c7, h.ln.step hs (fun hm => by have := hA _ hm; omega),
    Obj1.step hs h.hob (fun hm => by have := hA _ hm; rw [h.c9] at this; omega), by rw [hs.keep hh (h.hob.lt hs.wf)]; exact h.c9, h.r0.step hs (fun hm => by have := hA _ hm; omega) (fun hm => by have := hA _ hm; omega), h.r1.step hs (fun hm => by have := hA _ hm; omega) (fun hm => by have := hA _ hm; omega)⟩
/-- What was handed on at an end. -/
theorem RW.at {o hh : Nat} {y : LineW} {o0 e0 o1 e1 f s0 s1 : Value} (W : RW C H col o hh y o0 e0 o1 e1 f s0 s1) {t : Nat} (ht : t ≤ 1) :
    loadN C H.get ⟨hh, t, none⟩ 1 = some [if t = 0 then s0 else s1] ∧ WRow C H col (10 + t) (if t = 0 then s0 else s1) (heardW y t) := by
  have ld := fun off n => Obj1.load (C := C) (off := off) (n := n) W.hob
  rcases two ht with rfl | rfl
  · exact ⟨by simp [ld], by simpa [heardW] using W.r0⟩
  · exact ⟨by simp [ld], by simpa [heardW] using W.r1⟩
/-- Another line. -/
theorem RW.setL {o hh : Nat} {y : LineW} {o0 e0 o1 e1 f s0 s1 : Value} (W : RW C H col o hh y o0 e0 o1 e1 f s0 s1) (st : Step [7] H col H' col) {X : LineA} {p0 q0 p1 q1 g : Value} (ho : Obj1 H' o (lineCells X p0 q0 p1 q1 g)) (hp : PLine C H col X p0 q0 p1 q1 g) : RW C H' col o hh ⟨X, y.h0, y.h1⟩ p0 q0 p1 q1 g s0 s1 :=
  ⟨ho, W.c7, hp.step st (by simp), Obj1.step st W.hob (by rw [W.c9]; simp), W.c9, W.r0.step st (by simp) (by simp), W.r1.step st (by simp) (by simp)⟩
end

end Go.Ai.Wire

namespace Go.Ai.Wire
open Go.Proofs Go.IntWalk
attribute [local irreducible] Trie.put

theorem lineS_zero : LineS zeroL := by unfold LineS EndS zeroL; simp

end Go.Ai.Wire
