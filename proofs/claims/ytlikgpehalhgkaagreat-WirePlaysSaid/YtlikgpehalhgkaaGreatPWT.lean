/-
  What stays true on a line whatever goes through it.
  A story's step keeps what is true of it.
-/
import Derived.Test.YtlikgpehalhgkaaGreatPWR
import Derived.Test.YtlikgpehalhgkaaGreatPWS
namespace Go.Ai.Wire

/-- A frame with its number is one that was said. -/
def Of (S : List (List UInt8)) (y : Itm) : Prop := ∃ k : Nat, y.1 = k + 1 ∧ S[k]? = some y.2

/-- One direction: what an end has sent, and the other one got. -/
structure Dir (E R : EndA) (S Hd : List (List UInt8)) : Prop where
  last : E.last = S.length
  opens : ∀ y ∈ E.opens, Of S y
  got : ∃ g : Nat, R.got = g ∧ g ≤ S.length ∧ Hd = S.take g ∧ S.length ≤ g + E.opens.length
  early : ∀ y ∈ R.early, Of S y

/-- A packet's bytes are none of a packet, or say what was said, and what was got. -/
def PkOK (S : List (List UInt8)) (got : Int) (bs : List UInt8) : Prop := ∀ n g d, readB bs = some (n, g, d) → (n ≠ 0 → Of S (n, d)) ∧ (g : Int) ≤ got

theorem Of.more {S : List (List UInt8)} {y : Itm} (h : Of S y) (d : List UInt8) : Of (S ++ [d]) y := by
  obtain ⟨k, h1, h2⟩ := h
  refine ⟨k, h1, ?_⟩
  rw [List.getElem?_append_left (List.getElem?_eq_some_iff.1 h2).1]
  exact h2
theorem PkOK.more {S : List (List UInt8)} {got : Int} {bs : List UInt8} (h : PkOK S got bs) (d : List UInt8) : PkOK (S ++ [d]) got bs := fun n g e hr => ⟨fun h0 => ((h n g e hr).1 h0).more d, (h n g e hr).2⟩
theorem PkOK.mono {S : List (List UInt8)} {got got' : Int} {bs : List UInt8} (h : PkOK S got bs) (hg : got ≤ got') : PkOK S got' bs := fun n g e hr => ⟨(h n g e hr).1, by have := (h n g e hr).2; omega⟩

theorem PkOK.enc {S : List (List UInt8)} {n g : Nat} {got : Int} {d : List UInt8} (hok : okP n g d.length = true) (h1 : n ≠ 0 → Of S (n, d)) (h2 : (g : Int) ≤ got) : PkOK S got (Wire.enc n g d) := by
  intro n' g' d' hr
  rw [readB_enc hok] at hr
  cases hr
  exact ⟨h1, h2⟩

/-! ### an end sends -/
/-! ### an end takes -/
/-! ### a line -/
structure InvL (x : LineA) (s0 s1 h0 h1 : List (List UInt8)) (sp : Bool) : Prop where
  ok : LineOK x
  d01 : Dir x.a x.b s0 h1
  d10 : Dir x.b x.a s1 h0
  p1 : ∀ f ∈ x.fly, f.1 = 1 → PkOK s0 x.a.got f.2
  p0 : ∀ f ∈ x.fly, f.1 = 0 → PkOK s1 x.b.got f.2
  rd : sp = false → ∀ f ∈ x.fly, (readB f.2).isSome = true

theorem InvL.sub {x : LineA} {s0 s1 h0 h1 : List (List UInt8)} {sp : Bool} (h : InvL x s0 s1 h0 h1 sp) {l : List Itm} (hl : ∀ f ∈ l, f ∈ x.fly) (hn : l.length ≤ 60) : InvL ⟨x.a, x.b, l⟩ s0 s1 h0 h1 sp :=
  ⟨⟨h.ok.1, h.ok.2.1, hn, flights_mem.2 fun f hf => flights_mem.1 h.ok.2.2.2 f (hl f hf)⟩, h.d01, h.d10, fun f hf => h.p1 f (hl f hf), fun f hf => h.p0 f (hl f hf), fun hs f hf => h.rd hs f (hl f hf)⟩

theorem InvL.put {x : LineA} {s0 s1 h0 h1 : List (List UInt8)} {sp : Bool} (h : InvL x s0 s1 h0 h1 sp) {to : Int} {d : List UInt8} (hf : FlightOK (to, d)) (h1' : to = 1 → PkOK s0 x.a.got d) (h0' : to = 0 → PkOK s1 x.b.got d) (hr : sp = false → (readB d).isSome = true) : InvL (putF x to d) s0 s1 h0 h1 sp := by
  have hok := putF_ok h.ok hf
  unfold putF at hok ⊢
  split
  · rename_i hlt
    rw [if_pos hlt] at hok
    refine ⟨hok, h.d01, h.d10, fun f hm => ?_, fun f hm => ?_, fun hs f hm => ?_⟩
    · rcases List.mem_append.1 hm with hm | hm
      · exact h.p1 f hm
      · simp at hm; rw [hm]; exact h1'
    · rcases List.mem_append.1 hm with hm | hm
      · exact h.p0 f hm
      · simp at hm; rw [hm]; exact h0'
    · rcases List.mem_append.1 hm with hm | hm
      · exact h.rd hs f hm
      · simp at hm; rw [hm]; exact hr hs
  · exact h

end Go.Ai.Wire

namespace Go.Ai.Wire

theorem Dir.beg {E R : EndA} {S Hd : List (List UInt8)} (h : Dir E R S Hd) : Hd = S.take Hd.length := by
  obtain ⟨g, g1, g2, g3, g4⟩ := h.got
  rw [g3, List.length_take, Nat.min_eq_left g2]

/-- A story whose line keeps its promises. -/
structure InvS (y : StoryA) : Prop where
  ln : InvL y.x y.s0 y.s1 y.h0 y.h1 y.sp
  n0 : y.s0.length ≤ 1000
  n1 : y.s1.length ≤ 1000

theorem InvS.small {y : StoryA} (h : InvS y) : SmallS y := by
  refine ⟨h.ln.ok, h.n0, h.n1, ?_, ?_⟩
  · have := h.ln.d10.beg
    have h2 := h.n1
    have := congrArg List.length this
    rw [List.length_take] at this
    omega
  · have := h.ln.d01.beg
    have h2 := h.n0
    have := congrArg List.length this
    rw [List.length_take] at this
    omega

theorem doF_fine {x : LineA} {a : ActA} (hok : LineOK x) (hf : FineA x.fly a) : doF x a = if (actW ⟨x, [], []⟩ a).2 = 0 then ((actW ⟨x, [], []⟩ a).1.x, (actW ⟨x, [], []⟩ a).1.h0 ++ (actW ⟨x, [], []⟩ a).1.h1, 0) else (zeroL, [], (actW ⟨x, [], []⟩ a).2) := by
  have e : doW ⟨x, [], []⟩ a = actW ⟨x, [], []⟩ a := by unfold doW; rw [if_pos hf]
  unfold doF
  rw [if_pos hok, e]

end Go.Ai.Wire
