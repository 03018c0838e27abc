/-
  A packet is read from bytes.
-/
import Derived.Test.YtlikgpehalhgkaaW5
namespace Go.Ai.Wire
open Go.Proofs Go.IntWalk

/-- A slice of bytes that can be cut. -/
def BsS (C : Ctx) (H : AHeap) (v : Value) (bs : List UInt8) : Prop := Bs C H v bs ∧ ∃ a c, v = .slice a bs.length c ∧ bs.length ≤ c ∧ ∀ b, a = some b → bs.length ≠ 0 → Slc H b 1

theorem BsS.same {C : Ctx} {H H' : AHeap} (hs : Same H H') {v : Value} {bs : List UInt8} (h : BsS C H v bs) : BsS C H' v bs :=
  ⟨h.1.same hs, let ⟨a, c, h1, h2, h3⟩ := h.2; ⟨a, c, h1, h2, fun b hb h0 => (h3 b hb h0).same hs⟩⟩
theorem Buf.bsS {C : Ctx} {H : AHeap} {v : Value} {g : Nat} {bs : List UInt8} (h : Buf H v g 1 bs.length (bs.map u8v)) : BsS C H v bs := by
  refine ⟨h.row, ?_⟩
  obtain ⟨k, vs, e, rfl, hg, h1, h2, h3, h4⟩ := id h
  exact ⟨_, _, rfl, Nat.le_refl _, fun b hb _ => by cases hb; exact Buf.slc h⟩

/-- What some bytes are the bytes of. -/
def readB (bs : List UInt8) : Option (Nat × Nat × List UInt8) :=
  if bs.length < 8 then none else
  let n := (bs.getD 0 0).toNat * 256 + (bs.getD 1 0).toNat
  let g := (bs.getD 2 0).toNat * 256 + (bs.getD 3 0).toNat
  let d := (bs.drop 6).take (bs.length - 8)
  if okP n g d.length = true ∧ enc n g d = bs then some (n, g, d) else none

def ReadOut (C : Ctx) (H : AHeap) (bs : List UInt8) (r : Value) (H' : AHeap) : Prop :=
  Same H H' ∧ match readB bs with
    | some (n, g, d) => ∃ v, r = .tuple #[pkV n g v, .int .i64 0] ∧ Bs C H' v d
    | none => r = .tuple #[pkV 0 0 (.slice none 0 0), .int .i64 4]

theorem readB_long {bs : List UInt8} (h : 408 < bs.length) : readB bs = none := by
  unfold readB
  rw [if_neg (by omega)]
  dsimp only
  rw [if_neg]
  rintro ⟨h1, _⟩
  obtain ⟨_, _, _, _, _, _, hl⟩ := okP_spec h1
  simp at hl
  omega

theorem field_spec' (w : World) {H : AHeap} {v : Value} {bs : List UInt8} (hb : Bs (ctxW w) H v bs) {i : Nat} (hi : i + 1 < bs.length) (hlen : bs.length ≤ 1000000) {N : Nat} (hN : N = (bs.getD i 0).toNat * 256 + (bs.getD (i + 1) 0).toNat) :
    wpCall (ctxW w) (.func (.func 50) #[] #[]) [v, .int .i64 i] H fun r H' => H' = H ∧ r = .int .i64 N := by
  have e : N = bs[i].toNat * 256 + bs[i + 1].toNat := by
    rw [hN, List.getD_eq_getElem?_getD, List.getD_eq_getElem?_getD, List.getElem?_eq_getElem (by omega), List.getElem?_eq_getElem hi]
    rfl
  rw [e]
  exact field_spec w hb hi hlen

/-- The bytes in the middle. -/
theorem Bs.sub {C : Ctx} {H : AHeap} {b : Addr} {c c' : Nat} {bs : List UInt8} (hb : Bs C H (.slice (some b) bs.length c) bs) {l h : Nat} (h1 : l ≤ h) (h2 : h ≤ bs.length) : Bs C H (.slice (some (aadd b l)) (h - l) c') ((bs.drop l).take (h - l)) := by
  have := Row.sub (c' := c') hb h1 h2
  have e : ((bs.drop l).take (h - l)).length = h - l := by simp; omega
  unfold Bs
  rw [e]
  simpa using this

theorem read_spec (w : World) {H : AHeap} (hw : WF H) {v : Value} {bs : List UInt8} (hb : BsS (ctxW w) H v bs) (hlen : bs.length ≤ 1000) : wpCall (ctxW w) (.func (.func 16) #[] #[]) [v] H (ReadOut (ctxW w) H bs) := by
  obtain ⟨hb, a, c, rfl, hcap, hslc⟩ := hb
  refine wpCall_fn rfl (get16 w) ?_
  simp [ir16]
  refine w_mk hw fun p H1 hp => ?_
  have ld1 := fun off n => Obj1.load (C := ctxW w) (off := off) (n := n) hp.obj
  simp
  refine wpCall_mono (within_spec w bs.length 8 408) ?_
  rintro _ H1 ⟨rfl, rfl⟩
  by_cases hin : 8 ≤ bs.length ∧ bs.length ≤ 408
  · have e1 : (8 : Int) ≤ bs.length := by omega
    have e2 : (bs.length : Int) ≤ 408 := by omega
    simp [e1, e2]
    obtain ⟨b, rfl⟩ : ∃ b, a = some b := by
      obtain ⟨_, h, _⟩ := hb.at (i := 0) (by omega)
      exact ⟨_, h⟩
    have hb1 := hb.same hp.same
    have hsl1 := (hslc b rfl (by omega)).same hp.same
    obtain ⟨n, hn⟩ : ∃ n, n = (bs.getD 0 0).toNat * 256 + (bs.getD 1 0).toNat := ⟨_, rfl⟩
    obtain ⟨g, hg⟩ : ∃ g, g = (bs.getD 2 0).toNat * 256 + (bs.getD 3 0).toNat := ⟨_, rfl⟩
    obtain ⟨d, hd⟩ : ∃ d, d = (bs.drop 6).take (bs.length - 8) := ⟨_, rfl⟩
    have hdl : d.length = bs.length - 8 := by rw [hd]; simp; omega
    refine wpCall_mono (field_spec' w hb1 (i := 0) (by omega) (by omega) hn) ?_
    rintro _ H1 ⟨rfl, rfl⟩
    simp
    refine wpCall_mono (field_spec' w hb1 (i := 2) (by omega) (by omega) hg) ?_
    rintro _ H1 ⟨rfl, rfl⟩
    simp
    have e3 : IntKind.i64.wrap ((bs.length : Int) - 2) = ((bs.length - 2 : Nat) : Int) := by rw [i64_in _ (by omega)]; omega
    have hw1 := hp.same.wf'
    have hfc : free (ctxW w) (.call H1 H1) (.exp [b.block] []) = true := free_call_rd (eqbW w) (Same.refl hw1) (by simp; exact .inr hsl1.ne)
    have hlb := get_lt hw1 hsl1.ne
    refine d_sliceS (k1 := .i64) (k2 := .i64) (a := b) (n := bs.length) (c := c) (l := 6) (h := bs.length - 2) (by simp) hsl1 (by simp) (by simp [e3]) (by omega) (by omega) (by simp [hfc]) ?_
    simp
    have hsub : Bs (ctxW w) H1 (.slice (some (aadd b 6)) (bs.length - 2 - 6) (c - 6)) d := by
      have := Bs.sub (c' := c - 6) hb1 (l := 6) (h := bs.length - 2) (by omega) (by omega)
      have e : bs.length - 2 - 6 = bs.length - 8 := by omega
      rw [e] at this ⊢
      rw [hd]
      exact this
    refine wpCall_mono (clone_spec w hw1 hsub (by omega)) ?_
    rintro r2 H2 ⟨hs2, hb2, hoff2⟩
    obtain ⟨a2, c2, rfl⟩ := hb2.val
    simp
    have hge2 := hs2.grow.next
    have f1 : free (ctxW w) (.call H1 H2) (.exp [] [H2.next]) = true := free_call_new (Nat.le_refl _)
    have f2 : free (ctxW w) (.call H1 H1) (.exp [] [H2.next]) = true := free_call_new hge2
    have f3 : Nat.beq H2.next b.block = false := nbeq' (by omega)
    refine d_mk hs2.wf' (by simp [f1, f2, f3]) fun q H3 hq => ?_
    simp only [putDst_some]
    refine d_store (p := q) (off := 0) (xs := [.int .i64 n, .int .i64 g, .slice a2 d.length c2]) hq.same.wf' rfl hq.obj (by simp) (by simp) rfl (by simp) (by simp) (by simp) fun H4 hm4 hn4 ho4 => ?_
    have hqH : H1.next ≤ q := by have := hq.new; omega
    have hs14 : Same H1 H4 := (hs2.trans hq.same).then_mod hm4 hqH
    have hb4 : Bs (ctxW w) H4 (.slice a2 d.length c2) d := by
      refine Row.mod hm4 (hb2.same hq.same) ?_
      exact Row.off hs2.wf' hb2 (by have := hq.new; omega)
    have ld4 := fun off n => Obj1.load (C := ctxW w) (off := off) (n := n) ho4
    simp [ld4]
    have ho1 := hp.obj.same hs14
    have hoff2 := hoff2 p (hp.obj.lt hw1)
    refine wpCall_mono (isRight_spec w hs14.wf' n g (a := a2) (len := d.length) (c := c2)) ?_
    rintro _ H5 ⟨hs5, rfl⟩
    have ld5 := fun off n => Obj1.load (C := ctxW w) (off := off) (n := n) (ho4.same hs5)
    have ho5 := ho1.same hs5
    have hs5' := (hp.same.trans hs14).trans hs5
    have hread : readB bs = if okP n g d.length = true ∧ enc n g d = bs then some (n, g, d) else none := by
      unfold readB
      rw [if_neg (by omega), hn, hg, hd]
    cases hok : okP n g d.length with
    | false =>
      simp
      refine w_store (p := p) (off := 0) (xs := [.int .i64 0, .int .i64 0, .slice none 0 0]) hs5'.wf' ho5 (by simp) (by simp) rfl (by simp) (by simp) (by simp) fun H6 hm6 hn6 ho6 => ?_
      have ld6 := fun off n => Obj1.load (C := ctxW w) (off := off) (n := n) ho6
      simp [ld6]
      refine ⟨hs5'.then_mod hm6 (by have := hp.new; omega), ?_⟩
      rw [hread, if_neg (by simp [hok])]
      rfl
    | true =>
      obtain ⟨n', g', hn', hg', hnl, hgl, hl⟩ := okP_spec hok
      have : n' = n := by omega
      subst this
      have : g' = g := by omega
      subst this
      simp [ld5]
      refine wpCall_mono (bytes_spec w hs5'.wf' hnl hgl (hb4.same hs5) (by omega)) ?_
      rintro r6 H6 ⟨hs6, hb6⟩
      simp
      have hb16 := ((hb1.same hs14).same hs5).same hs6
      refine wpCall_mono (equal_spec w hb6 hb16 (by simp [enc, headB, be]; omega)) ?_
      rintro _ H6 ⟨rfl, rfl⟩
      have ld6 := fun off n => Obj1.load (C := ctxW w) (off := off) (n := n) ((ho4.same hs5).same hs6)
      by_cases henc : enc n' g' d = bs
      · simp [henc, ld6]
        refine w_store (p := p) (off := 0) (xs := [.int .i64 n', .int .i64 g', .slice a2 d.length c2]) hs6.wf' (ho5.same hs6) (by simp) (by simp) rfl (by simp) (by simp) (by simp) fun H7 hm7 hn7 ho7 => ?_
        have ld7 := fun off n => Obj1.load (C := ctxW w) (off := off) (n := n) ho7
        simp [ld7]
        refine ⟨(hs5'.trans hs6).then_mod hm7 (by have := hp.new; omega), ?_⟩
        rw [hread, if_pos ⟨hok, henc⟩]
        refine ⟨.slice a2 d.length c2, rfl, Row.mod hm7 ((hb4.same hs5).same hs6) hoff2⟩
      · simp [henc]
        refine w_store (p := p) (off := 0) (xs := [.int .i64 0, .int .i64 0, .slice none 0 0]) hs6.wf' (ho5.same hs6) (by simp) (by simp) rfl (by simp) (by simp) (by simp) fun H7 hm7 hn7 ho7 => ?_
        have ld7 := fun off n => Obj1.load (C := ctxW w) (off := off) (n := n) ho7
        simp [ld7]
        refine ⟨(hs5'.trans hs6).then_mod hm7 (by have := hp.new; omega), ?_⟩
        rw [hread, if_neg (by simp [henc])]
        rfl
  · have e1 : (decide ((8 : Int) ≤ bs.length) && decide ((bs.length : Int) ≤ 408)) = false := by simp; omega
    simp [e1]
    refine w_store (p := p) (off := 0) (xs := [.int .i64 0, .int .i64 0, .slice none 0 0]) hp.same.wf' hp.obj (by simp) (by simp) rfl (by simp) (by simp) (by simp) fun H6 hm6 hn6 ho6 => ?_
    have ld6 := fun off n => Obj1.load (C := ctxW w) (off := off) (n := n) ho6
    simp [ld6]
    refine ⟨hp.same.then_mod hm6 (by have := hp.new; omega), ?_⟩
    have : readB bs = none := by
      by_cases h8 : bs.length < 8
      · unfold readB; rw [if_pos h8]
      · exact readB_long (by omega)
    rw [this]
    rfl
end Go.Ai.Wire
