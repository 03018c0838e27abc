/-
  Beginnings; what a story does next.
  What a story's bytes say.
  A story at work.
-/
import Derived.Test.YtlikgpehalhgkaaGreatPWQ
namespace Go.Ai.Wire
open Go.Proofs Go.IntWalk
attribute [local irreducible] Trie.put

theorem FrC.take {C : Ctx} {H : AHeap} {l : List (List UInt8)} {cs : List Value} (h : FrC C H l cs) : ∀ i, FrC C H (l.take i) (cs.take i) := by
  induction h with
  | nil => intro i; simp; exact .nil
  | cons h1 _ ih =>
    intro i
    cases i with
    | zero => simp; exact .nil
    | succ i =>
      simp only [List.take_succ_cons]
      exact .cons h1 (ih i)

end Go.Ai.Wire

namespace Go.Ai
section
variable {C : Ctx} {H : AHeap} {T : Env} {d : Option Nat} {r : List IOper} {K : Env → AHeap → Prop}

end
end Go.Ai
namespace Go.Ai.Wire
open Go.Proofs Go.IntWalk
attribute [local irreducible] Trie.put

end Go.Ai.Wire

namespace Go.Ai.Wire
open Go.Proofs Go.IntWalk
attribute [local irreducible] Trie.put

/-- Frames with their numbers that nobody turns. -/
def PIts (C : Ctx) (H : AHeap) (col : Nat → Nat) (v : Value) (l : List Itm) : Prop := ∃ cs, ItC C H l cs ∧ Row C H v 2 l.length cs ∧ Plain col cs ∧ ∀ a n c, v = .slice (some a) n c → n ≠ 0 → col a.block = 0

section
variable {C : Ctx} {H H' : AHeap} {col col' : Nat → Nat} {A : List Nat}
theorem PIts.step (hs : Step A H col H' col') (h0 : 0 ∉ A) {v : Value} {l : List Itm} (h : PIts C H col v l) : PIts C H' col' v l := by
  obtain ⟨cs, h1, h2, h3, h4⟩ := h
  refine ⟨cs, h1.step hs h0 h3, Row.step hs h0 h2 h4, Plain.keep hs h1 h3, fun a n c he hn => ?_⟩
  obtain ⟨_, a', c', he', _, h5⟩ := h2
  rw [he] at he'
  cases he'
  rw [hs.keep _ (load_lt hs.wf (h5 a rfl hn))]
  exact h4 a _ c he hn
theorem PIts.its {v : Value} {l : List Itm} (h : PIts C H col v l) : Its C H v l := let ⟨cs, h1, h2, _⟩ := h; ⟨cs, h1, h2⟩
theorem PIts.val {v : Value} {l : List Itm} (h : PIts C H col v l) : ∃ a c, v = .slice a l.length c := h.its.val
theorem PIts.nil (C : Ctx) (H : AHeap) (col : Nat → Nat) : PIts C H col (.slice none 0 0) [] := ⟨[], .nil, ⟨rfl, none, 0, rfl, by simp, by simp⟩, (fun v h => by cases h), fun a n c h => by cases h⟩

theorem ItsF.plain {lo : Nat} {v : Value} {l : List Itm} (h : ItsF C H lo v l) (hc : ∀ b, lo ≤ b → col b = 0) : PIts C H col v l := by
  obtain ⟨lo', hi, hl, g, cs, k1, k2, k3, k4⟩ := h
  rcases k1 with ⟨rfl, hn, rfl⟩ | ⟨hn, hb⟩
  · have : l = [] := List.length_eq_zero_iff.1 hn
    subst this
    exact PIts.nil C H col
  · refine ⟨cs, k3, hb.row, fun u hu a n c he hm => hc _ ?_, fun a n c he hm => hc _ ?_⟩
    · have := k4 u hu a n c he hm; omega
    · obtain ⟨a', he', hbl, _⟩ := hb.load (C := C)
      rw [he] at he'
      cases he'
      have := k2 (fun h => hn (by rw [h]; rfl))
      omega

/-- A line's cells that nobody turns. -/
structure PLine (C : Ctx) (H : AHeap) (col : Nat → Nat) (x : LineA) (o0 e0 o1 e1 f : Value) : Prop where
  i0 : PIts C H col o0 x.a.opens
  i1 : PIts C H col e0 x.a.early
  i2 : PIts C H col o1 x.b.opens
  i3 : PIts C H col e1 x.b.early
  i4 : PIts C H col f x.fly

theorem PLine.step (hs : Step A H col H' col') (h0 : 0 ∉ A) {x : LineA} {o0 e0 o1 e1 f : Value} (h : PLine C H col x o0 e0 o1 e1 f) : PLine C H' col' x o0 e0 o1 e1 f :=
  ⟨h.i0.step hs h0, h.i1.step hs h0, h.i2.step hs h0, h.i3.step hs h0, h.i4.step hs h0⟩
theorem PLine.r {x : LineA} {o0 e0 o1 e1 f : Value} (h : PLine C H col x o0 e0 o1 e1 f) : LineR C H x (lineV x.a.last o0 x.a.got e0 x.b.last o1 x.b.got e1 f) :=
  ⟨_, _, _, _, _, rfl, h.i0.its, h.i1.its, h.i2.its, h.i3.its, h.i4.its⟩
end

/-- A story: the line, what was said, what was handed on, and whether a packet was spoilt. -/
structure StoryA where
  x : LineA
  s0 : List (List UInt8)
  s1 : List (List UInt8)
  h0 : List (List UInt8)
  h1 : List (List UInt8)
  sp : Bool

def storyCells (y : StoryA) (o0 e0 o1 e1 f sv0 sv1 hv0 hv1 : Value) : List Value :=
  [.int .i64 y.x.a.last, o0, .int .i64 y.x.a.got, e0, .int .i64 y.x.b.last, o1, .int .i64 y.x.b.got, e1, f, sv0, sv1, hv0, hv1, .bool y.sp]

structure SW (C : Ctx) (H : AHeap) (col : Nat → Nat) (q : Nat) (o0 e0 o1 e1 f sv0 sv1 hv0 hv1 : Value) (y : StoryA) : Prop where
  obj : Obj1 H q (storyCells y o0 e0 o1 e1 f sv0 sv1 hv0 hv1)
  c1 : col q = 1
  ln : PLine C H col y.x o0 e0 o1 e1 f
  r0 : WRow C H col 2 sv0 y.s0
  r1 : WRow C H col 3 sv1 y.s1
  r2 : WRow C H col 4 hv0 y.h0
  r3 : WRow C H col 5 hv1 y.h1

theorem SW.step {C : Ctx} {H H' : AHeap} {col col' : Nat → Nat} {A : List Nat} {q : Nat} {o0 e0 o1 e1 f sv0 sv1 hv0 hv1 : Value} {y : StoryA} (hs : Step A H col H' col') (hA : ∀ c ∈ A, 5 < c) (h : SW C H col q o0 e0 o1 e1 f sv0 sv1 hv0 hv1 y) : SW C H' col' q o0 e0 o1 e1 f sv0 sv1 hv0 hv1 y := by
  have no : ∀ c, c ≤ 5 → c ∉ A := fun c hc h => by have := hA c h; omega
  exact ⟨Obj1.step hs h.obj (by rw [h.c1]; exact no 1 (by omega)), by rw [hs.keep q (h.obj.lt hs.wf)]; exact h.c1, h.ln.step hs (no 0 (by omega)), h.r0.step hs (no 0 (by omega)) (no 2 (by omega)), h.r1.step hs (no 0 (by omega)) (no 3 (by omega)), h.r2.step hs (no 0 (by omega)) (no 4 (by omega)), h.r3.step hs (no 0 (by omega)) (no 5 (by omega))⟩

/-- What is wanted of a story's sizes. -/
def SmallS (y : StoryA) : Prop := LineOK y.x ∧ y.s0.length ≤ 1000 ∧ y.s1.length ≤ 1000 ∧ y.h0.length ≤ 1000 ∧ y.h1.length ≤ 1000
end Go.Ai.Wire
