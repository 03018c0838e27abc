/-
  An end at work sends all open frames again; lists of bytes.
  All open frames are collected.
  'Send' and 'Again' of the program.
  What lies in own memory.
-/
import Derived.Test.YtlikgpehalhgkaaGreatPWF
namespace Go.Ai.Wire
open Go.Proofs Go.IntWalk
attribute [local irreducible] Trie.put

/-- The cells of a list of bytes. -/
inductive FrC (C : Ctx) (H : AHeap) : List (List UInt8) → List Value → Prop
  | nil : FrC C H [] []
  | cons {d : List UInt8} {v : Value} {l : List (List UInt8)} {cs : List Value} : Bs C H v d → FrC C H l cs → FrC C H (d :: l) (v :: cs)

section
variable {C : Ctx} {H H' : AHeap}
theorem FrC.same (hs : Same H H') {l : List (List UInt8)} {cs : List Value} (h : FrC C H l cs) : FrC C H' l cs := by
  induction h with
  | nil => exact .nil
  | cons h1 _ ih => exact .cons (h1.same hs) ih
theorem FrC.mod {g : Nat} (hm : Mod g H H') {l : List (List UInt8)} {cs : List Value} (h : FrC C H l cs) (hf : ∀ v ∈ cs, Off g v) : FrC C H' l cs := by
  induction h with
  | nil => exact .nil
  | cons h1 _ ih =>
    refine .cons (Row.mod hm h1 (hf _ (by simp))) (ih fun v hv => hf v ?_)
    simp [hv]
theorem FrC.len {l : List (List UInt8)} {cs : List Value} (h : FrC C H l cs) : cs.length = l.length := by
  induction h with
  | nil => rfl
  | cons _ _ ih => simp only [List.length_cons, ih]
theorem FrC.app {l l' : List (List UInt8)} {cs cs' : List Value} (h : FrC C H l cs) (h' : FrC C H l' cs') : FrC C H (l ++ l') (cs ++ cs') := by
  induction h with
  | nil => exact h'
  | cons h1 _ ih => exact .cons h1 ih
theorem FrC.at {l : List (List UInt8)} {cs : List Value} (h : FrC C H l cs) : ∀ {i : Nat} (hi : i < l.length), ∃ v, cs[i]? = some v ∧ Bs C H v l[i] := by
  induction h with
  | nil => intro i hi; simp at hi
  | @cons d v l cs h1 _ ih =>
    intro i hi
    cases i with
    | zero => exact ⟨v, by simp, by simpa using h1⟩
    | succ i =>
      obtain ⟨u, h2, h3⟩ := ih (i := i) (by simpa using hi)
      exact ⟨u, by simpa using h2, by simpa using h3⟩

/-- A slice of bytes' slices. -/
def Frs (C : Ctx) (H : AHeap) (v : Value) (l : List (List UInt8)) : Prop := ∃ cs, FrC C H l cs ∧ Row C H v 1 l.length cs
theorem Frs.same (hs : Same H H') {v : Value} {l : List (List UInt8)} (h : Frs C H v l) : Frs C H' v l := by
  obtain ⟨cs, h1, h2⟩ := h
  exact ⟨cs, h1.same hs, Row.same hs h2⟩
theorem Frs.val {v : Value} {l : List (List UInt8)} (h : Frs C H v l) : ∃ a c, v = .slice a l.length c := by
  obtain ⟨_, _, _, a, c, h, _⟩ := h
  exact ⟨a, c, h⟩
theorem Frs.nil (C : Ctx) (H : AHeap) : Frs C H (.slice none 0 0) [] := ⟨[], .nil, rfl, none, 0, rfl, by simp, by simp⟩
theorem Frs.at {a : Option Addr} {n c : Nat} {l : List (List UInt8)} (h : Frs C H (.slice a n c) l) {i : Nat} (hi : i < l.length) : ∃ b da dc, a = some b ∧ loadN C H.get (aadd b i) 1 = some [.slice da l[i].length dc] ∧ Bs C H (.slice da l[i].length dc) l[i] := by
  obtain ⟨cs, h1, h2⟩ := h
  obtain ⟨v, h3, h4⟩ := h1.at hi
  obtain ⟨da, dc, rfl⟩ := h4.val
  obtain ⟨b, hb, _, hl⟩ := Row.at h2 (i := i) (by omega)
  refine ⟨b, da, dc, hb, ?_, h4⟩
  rw [hl]
  have := (List.getElem?_eq_some_iff.1 h3).2
  rw [this]

/-- Bytes' slices in own memory, from a block on. -/
def FrN (C : Ctx) (H : AHeap) (lo : Nat) (v : Value) (l : List (List UInt8)) : Prop :=
  ∃ g cs, ((v = .slice none 0 0 ∧ l = []) ∨ (l ≠ [] ∧ lo ≤ g ∧ Buf H v g 1 l.length cs)) ∧ FrC C H l cs ∧ ∀ u ∈ cs, ∀ a n c, u = .slice (some a) n c → n ≠ 0 → lo ≤ a.block ∧ a.block ≠ g

theorem FrN.frs {lo : Nat} {v : Value} {l : List (List UInt8)} (h : FrN C H lo v l) : Frs C H v l := by
  obtain ⟨g, cs, ⟨rfl, rfl⟩ | ⟨_, _, hb⟩, h2, _⟩ := h
  · exact Frs.nil C H
  · exact ⟨cs, h2, hb.row⟩
theorem FrN.same (hs : Same H H') {lo : Nat} {v : Value} {l : List (List UInt8)} (h : FrN C H lo v l) : FrN C H' lo v l := by
  obtain ⟨g, cs, h1, h2, h3⟩ := h
  exact ⟨g, cs, h1.imp id fun h => ⟨h.1, h.2.1, h.2.2.same hs⟩, h2.same hs, h3⟩
theorem FrN.mod {q lo : Nat} (hm : Mod q H H') (hq : q < lo) {v : Value} {l : List (List UInt8)} (h : FrN C H lo v l) : FrN C H' lo v l := by
  obtain ⟨g, cs, h1, h2, h3⟩ := h
  refine ⟨g, cs, h1.imp id fun h => ⟨h.1, h.2.1, h.2.2.mod hm (by omega)⟩, h2.mod hm fun u hu a n c he hn => ?_, h3⟩
  have := h3 u hu a n c he hn
  omega

/-- One more. -/
theorem FrN.snoc {H1 H4 H5 : AHeap} {lo g g' q : Nat} {v' : Value} {l : List (List UInt8)} {cs : List Value} {d : List UInt8} {v : Value} (hs : Same H1 H4) (hlo : lo ≤ H1.next) (k2 : l ≠ [] → lo ≤ g ∧ g < H1.next) (k3 : FrC C H4 l cs)
    (k4 : ∀ u ∈ cs, ∀ a n c, u = .slice (some a) n c → n ≠ 0 → lo ≤ a.block ∧ a.block ≠ g ∧ a.block < H4.next) (hd : Buf H4 v q 1 d.length (d.map u8v)) (hq : lo ≤ q) (hqg : q ≠ g) (hg : Grown H4 H5 l.length g g') (hb : Buf H5 v' g' 1 (l.length + 1) (cs ++ [v])) :
    FrN C H5 lo v' (l ++ [d]) := by
  have hw4 := hs.wf'
  have hqlt := hd.lt hw4
  have n14 := hs.grow.next
  have hdb : Bs C H4 v d := hd.row
  have hv : ∀ a n c, v = .slice (some a) n c → a.block = q := by
    intro a n c he
    obtain ⟨a', he', hbl, _⟩ := hd.load (C := C)
    rw [he] at he'
    cases he'
    exact hbl
  have key : ∀ (g0 : Nat), (∀ u ∈ cs, ∀ a n c, u = .slice (some a) n c → n ≠ 0 → a.block ≠ g0) → q ≠ g0 → ∀ u ∈ cs ++ [v], ∀ a n c, u = .slice (some a) n c → n ≠ 0 → lo ≤ a.block ∧ a.block ≠ g0 := by
    intro g0 h1 h2 u hu a n c he hn
    rw [List.mem_append] at hu
    rcases hu with hu | hu
    · exact ⟨(k4 u hu a n c he hn).1, h1 u hu a n c he hn⟩
    · simp only [List.mem_cons, List.not_mem_nil, or_false] at hu
      subst hu
      have := hv a n c he
      omega
  have hfr : FrC C H4 (l ++ [d]) (cs ++ [v]) := k3.app (.cons hdb .nil)
  rcases hg with ⟨h0, rfl, hs5⟩ | ⟨h0, rfl, hlt, hm5⟩
  · refine ⟨H4.next, cs ++ [v], .inr ⟨by simp, by omega, by simpa using hb⟩, hfr.same hs5, key _ (fun u hu a n c he hn => ?_) (by omega)⟩
    have := k4 u hu a n c he hn
    omega
  · have hl : l ≠ [] := fun h => h0 (by rw [h]; rfl)
    have k5 := key g' (fun u hu a n c he hn => (k4 u hu a n c he hn).2.1) hqg
    exact ⟨g', cs ++ [v], .inr ⟨by simp, (k2 hl).1, by simpa using hb⟩, hfr.mod hm5 fun u hu a n c he hn => (k5 u hu a n c he hn).2, k5⟩

theorem FrC.lt (hw : WF H) {l : List (List UInt8)} {cs : List Value} (h : FrC C H l cs) : ∀ u ∈ cs, ∀ a n c, u = .slice (some a) n c → n ≠ 0 → a.block < H.next := by
  induction h with
  | nil => intro u hu; cases hu
  | cons h1 _ ih =>
    intro u hu a n c he hn
    simp only [List.mem_cons] at hu
    rcases hu with rfl | hu
    · obtain ⟨_, a', c', he', _, h4⟩ := h1
      rw [he] at he'
      cases he'
      exact load_lt hw (h4 a rfl hn)
    · exact ih u hu a n c he hn
end

/-- The packets of all open frames. -/
def packets (x : EndA) : List (List UInt8) := x.opens.map fun y => enc y.1.toNat x.got.toNat y.2

/-- What the loop over the open frames wants. -/
def OpensOK (x : EndA) : Prop := (0 ≤ x.got ∧ x.got ≤ 60000) ∧ x.opens.length ≤ 1000 ∧ ∀ i (h : i < x.opens.length), 0 ≤ x.opens[i].1 ∧ x.opens[i].1 ≤ 60000 ∧ x.opens[i].2.length ≤ 500

theorem EndOK.opensOK {x : EndA} (h : EndOK x) : OpensOK x :=
  ⟨h.2.1, by have := h.2.2.1; omega, fun i hi => by
    have h1 := h.2.2.2.1 i hi
    have h2 := h.2.2.1
    have h3 := h.1
    have h4 := h1.2.2.2
    exact ⟨by omega, by omega, by omega⟩⟩

theorem again1_spec (w : World) {x : EndA} (hx : OpensOK x) {q b : Nat} {ov ev y : Value} {I : Nat → AHeap → Prop} (hwf : ∀ i H, I i H → WF H)
    (hkeep : ∀ i H, I i H → Obj1 H b [.pointer (some ⟨q, 0, none⟩)] ∧ Obj1 H q [.int .i64 x.last, ov, .int .i64 x.got, ev] ∧ Its (ctxW w) H ov x.opens)
    (hy : ∀ i (hi : i < x.opens.length) H0 H v g, I i H0 → Same H0 H → H0.next ≤ g → Buf H v g 1 (enc x.opens[i].1.toNat x.got.toNat x.opens[i].2).length ((enc x.opens[i].1.toNat x.got.toNat x.opens[i].2).map u8v) → wpCall (ctxW w) y [v] H fun r H' => r = .bool true ∧ I (i + 1) H') {H : AHeap} (h0 : I 0 H) :
    wpCall (ctxW w) (.func (.func 106) #[] #[.pointer (some ⟨b, 0, none⟩)]) [y] H fun _ H' => I x.opens.length H' := by
  refine wpCall_fn rfl (get106 w) ?_
  obtain ⟨hb, hq, ho⟩ := hkeep 0 H h0
  obtain ⟨a1, c1, rfl⟩ := ho.val
  have ldb := fun off n => Obj1.load (C := ctxW w) (off := off) (n := n) hb
  have ldq := fun off n => Obj1.load (C := ctxW w) (off := off) (n := n) hq
  simp [ir106, ldb, ldq]
  refine wp_loop' (fun n s => ∃ (T : Env) (H1 : AHeap) (i : Nat), s = ⟨T, H1, []⟩ ∧ n = x.opens.length - i ∧ i ≤ x.opens.length ∧ T.val 0 = y ∧ T.val 1 = .pointer (some ⟨b, 0, none⟩) ∧ T.val 9 = .slice a1 x.opens.length c1 ∧ T.val 10 = .int .i64 x.opens.length ∧ T.val 11 = .int .i64 i ∧ I i H1) (n := x.opens.length)
    ⟨_, H, 0, rfl, rfl, Nat.zero_le _, by simp, by simp, by simp, by simp, by simp, h0⟩ ?_
  rintro n s K ⟨T, H1, i, rfl, rfl, hi, t0, t1, t9, t10, t11, hI⟩ hnext hexit
  have hw1 := hwf i H1 hI
  by_cases hlt : i < x.opens.length
  · obtain ⟨hb1, hq1, ho1⟩ := hkeep i H1 hI
    obtain ⟨bb, da, dc, rfl, _, _, l3, hd⟩ := ho1.at hlt
    have e3 : (i : Int) < x.opens.length := by omega
    simp [t9, t10, t11, e3, l3]
    refine w_mk hw1 fun p2 H2 hp2 => ?_
    refine w_store (p := p2) (off := 0) (xs := [.int .i64 x.opens[i].1, .slice da x.opens[i].2.length dc]) hp2.same.wf' hp2.obj (by simp) (by simp) rfl (by simp) (by simp) (by simp) fun H3 hm3 hn3 ho3 => ?_
    have hs13 : Same H1 H3 := hp2.same.then_mod hm3 (by have := hp2.new; omega)
    have ldb3 := fun off n => Obj1.load (C := ctxW w) (off := off) (n := n) (hb1.same hs13)
    have ldp3 := fun off n => Obj1.load (C := ctxW w) (off := off) (n := n) ho3
    obtain ⟨N, hN⟩ : ∃ N : Nat, x.opens[i].1 = N := ⟨x.opens[i].1.toNat, by have := (hx.2.2 i hlt).1; omega⟩
    obtain ⟨G, hG⟩ : ∃ G : Nat, x.got = G := ⟨x.got.toNat, by have := hx.1.1; omega⟩
    have hb := hx.2.2 i hlt
    have hg := hx.1
    have hcall := of_buf w hs13.wf' (q := q) (last := x.last) (ov := .slice (some bb) x.opens.length c1) (ev := ev) (n := N) (g := G) (by rw [← hG]; exact hq1.same hs13) (by omega) (by omega) (hd.same hs13) (by omega)
    simp only [itV, ← hN] at hcall
    simp [t0, t1, ldb3, ldp3]
    refine wpCall_mono hcall ?_
    rintro r4 H4 ⟨hs4, g4, hg4, hb4⟩
    simp
    have eN : x.opens[i].1.toNat = N := by omega
    have eG : x.got.toNat = G := by omega
    refine wpCall_mono (hy i hlt H1 H4 r4 g4 hI (hs13.trans hs4) (by have := hs13.grow.next; omega) (by rw [eN, eG]; exact hb4)) ?_
    rintro _ H5 ⟨rfl, hI5⟩
    simp [t11]
    have := hx.2.1
    exact hnext (x.opens.length - (i + 1)) _ (by omega) ⟨_, H5, i + 1, rfl, rfl, by omega, by simp [t0], by simp [t1], by simp [t9], by simp [t10], by simp; rw [i64_in _ (by omega)], hI5⟩
  · have : i = x.opens.length := by omega
    subst this
    simp [t10, t11]
    refine hexit _ _ (by simp) ?_
    simp
    exact hI
end Go.Ai.Wire

namespace Go.Ai.Wire
open Go.Proofs Go.IntWalk
attribute [local irreducible] Trie.put

theorem len_packets (x : EndA) : (packets x).length = x.opens.length := by simp [packets]

end Go.Ai.Wire

namespace Go.Ai.Wire
open Go.Proofs Go.IntWalk
attribute [local irreducible] Trie.put

/-- Which error 'Send' gives. -/
def sendErr (x : EndA) (d : List UInt8) (e : Int) : Prop :=
  (¬ EndOK x ∧ e = 4) ∨ (EndOK x ∧ ¬ FrameOK d ∧ e = 2) ∨ (EndOK x ∧ FrameOK d ∧ x.last = 60000 ∧ e = 5) ∨ (EndOK x ∧ FrameOK d ∧ x.last ≠ 60000 ∧ x.opens.length = 8 ∧ e = 8) ∨ (EndOK x ∧ FrameOK d ∧ x.last ≠ 60000 ∧ x.opens.length ≠ 8 ∧ e = 0)

/-- What 'Send' gives. -/
def SendRes (C : Ctx) (H : AHeap) (x : EndA) (d : List UInt8) (r : Value) (H' : AHeap) : Prop :=
  Same H H' ∧ ∃ e y b v, sendErr x d e ∧ r = .tuple #[y, b, .int .i64 e] ∧ EndR C H' (if e = 0 then sent x d else ⟨0, [], 0, []⟩) y ∧ b = v ∧ Bs C H' v (if e = 0 then enc (x.last + 1).toNat x.got.toNat d else [])

theorem zeroEnd (C : Ctx) (H : AHeap) : EndR C H ⟨0, [], 0, []⟩ (.agg #[.int .i64 0, .slice none 0 0, .int .i64 0, .slice none 0 0]) := ⟨_, _, rfl, Its.nil C H, Its.nil C H⟩

theorem SendRes.err {C : Ctx} {H H' : AHeap} {x : EndA} {d : List UInt8} {e : Int} (hs : Same H H') (h : sendErr x d e) (h0 : e ≠ 0) : SendRes C H x d (.tuple #[.agg #[.int .i64 0, .slice none 0 0, .int .i64 0, .slice none 0 0], .slice none 0 0, .int .i64 e]) H' :=
  ⟨hs, e, _, _, _, h, rfl, by rw [if_neg h0]; exact zeroEnd C H', rfl, by rw [if_neg h0]; exact Bs.nil C H'⟩

end Go.Ai.Wire

namespace Go.Ai.Wire
open Go.Proofs Go.IntWalk

/-- Frames with their numbers in own memory. -/
def ItsO (C : Ctx) (H : AHeap) (lo : Nat) (v : Value) (l : List Itm) : Prop := ∃ cs, ItC C H l cs ∧ Row C H v 2 l.length cs ∧ (∀ u ∈ cs, ∀ a n c, u = .slice (some a) n c → n ≠ 0 → lo ≤ a.block) ∧ ∀ a n c, v = .slice (some a) n c → n ≠ 0 → lo ≤ a.block
def EndO (C : Ctx) (H : AHeap) (lo : Nat) (x : EndA) (v : Value) : Prop := ∃ ov ev, v = endV x.last ov x.got ev ∧ ItsO C H lo ov x.opens ∧ ItsO C H lo ev x.early
def FrO (C : Ctx) (H : AHeap) (lo : Nat) (v : Value) (l : List (List UInt8)) : Prop := ∃ cs, FrC C H l cs ∧ Row C H v 1 l.length cs ∧ (∀ u ∈ cs, ∀ a n c, u = .slice (some a) n c → n ≠ 0 → lo ≤ a.block) ∧ ∀ a n c, v = .slice (some a) n c → n ≠ 0 → lo ≤ a.block
def BsO (C : Ctx) (H : AHeap) (lo : Nat) (v : Value) (bs : List UInt8) : Prop := Bs C H v bs ∧ ∀ a n c, v = .slice (some a) n c → n ≠ 0 → lo ≤ a.block
section
variable {C : Ctx} {H : AHeap} {lo : Nat} {col : Nat → Nat}
theorem ItsO.nil : ItsO C H lo (.slice none 0 0) [] := ⟨[], .nil, ⟨rfl, none, 0, rfl, by simp, by simp⟩, (fun u h => by cases h), fun a n c h => by cases h⟩
theorem FrO.nil : FrO C H lo (.slice none 0 0) [] := ⟨[], .nil, ⟨rfl, none, 0, rfl, by simp, by simp⟩, (fun u h => by cases h), fun a n c h => by cases h⟩
theorem BsO.nil : BsO C H lo (.slice none 0 0) [] := ⟨Bs.nil C H, fun a n c h => by cases h⟩
theorem EndO.zero : EndO C H lo ⟨0, [], 0, []⟩ (.agg #[.int .i64 0, .slice none 0 0, .int .i64 0, .slice none 0 0]) := ⟨_, _, rfl, .nil, .nil⟩
theorem ItsO.its {v : Value} {l : List Itm} (h : ItsO C H lo v l) : Its C H v l := let ⟨cs, h1, h2, _⟩ := h; ⟨cs, h1, h2⟩
theorem EndO.r {x : EndA} {v : Value} (h : EndO C H lo x v) : EndR C H x v := let ⟨a, b, h1, h2, h3⟩ := h; ⟨a, b, h1, h2.its, h3.its⟩
theorem FrO.frs {v : Value} {l : List (List UInt8)} (h : FrO C H lo v l) : Frs C H v l := let ⟨cs, h1, h2, _⟩ := h; ⟨cs, h1, h2⟩
end
theorem ItsN.io {C : Ctx} {H : AHeap} {lo hi lo' : Nat} {v : Value} {l : List Itm} (h : ItsN C H lo hi v l) (hl : lo' ≤ lo) : ItsO C H lo' v l := by
  obtain ⟨g, cs, k1, k2, k3, k4⟩ := h
  rcases k1 with ⟨rfl, hn, rfl⟩ | ⟨hn, hb⟩
  · have : l = [] := List.length_eq_zero_iff.1 hn
    subst this
    exact .nil
  · refine ⟨cs, k3, hb.row, fun u hu a n c he hm => by have := k4 u hu a n c he hm; omega, fun a n c he hm => ?_⟩
    obtain ⟨a', he', hbl, _⟩ := hb.load (C := C)
    rw [he] at he'
    cases he'
    have := k2 (fun h => hn (by rw [h]; rfl))
    omega
end Go.Ai.Wire
