/-
  The reference's copy of a line: the packets' bytes lie in blocks of their own.
  'Do' of the reference.
-/
import Derived.Test.YtlikgpehalhgkaaGreatPR1
import Derived.Test.YtlikgpehalhgkaaGreatPWK
import Derived.Test.YtlikgpehalhgkaaGreatPWH
namespace Go.Ai.Wire
open Go.Proofs Go.IntWalk
attribute [local irreducible] Trie.put

theorem FlyN.val {C : Ctx} {H : AHeap} {lo hi : Nat} {v : Value} {l : List Itm} (h : FlyN H lo hi v l) : ∃ a c, v = .slice a l.length c := (h.its (C := C)).val
theorem FlyN.mod {H H' : AHeap} {q lo hi : Nat} {v : Value} {l : List Itm} (hm : Mod q H H') (h : FlyN H lo hi v l) (hq : q < lo ∨ hi ≤ q) : FlyN H' lo hi v l := by
  obtain ⟨g, cs, gs, k1, k2, k3, k4, k5⟩ := h
  refine ⟨g, cs, gs, k1.imp id fun h => ⟨h.1, h.2.mod hm ?_⟩, k2, k3.mod hm (fun h => by have := k4 q h; omega), k4, k5⟩
  have := k2 fun he => h.1 (by rw [he]; rfl)
  omega
theorem FlyN.mono {H : AHeap} {lo hi lo' hi' : Nat} {v : Value} {l : List Itm} (h1 : lo' ≤ lo) (h2 : hi ≤ hi') (h : FlyN H lo hi v l) : FlyN H lo' hi' v l := by
  obtain ⟨g, cs, gs, k1, k2, k3, k4, k5⟩ := h
  exact ⟨g, cs, gs, k1, fun h => by have := k2 h; omega, k3, fun b hb => by have := k4 b hb; omega, k5⟩
theorem FlC.far {H : AHeap} {lo hi g : Nat} {l : List Itm} {cs : List Value} {gs : List Nat} (h : FlC H l cs gs) : (∀ b ∈ gs, lo ≤ b ∧ b < hi ∧ b ≠ g) → FarD lo hi g cs := by
  induction h with
  | nil => exact fun _ v hv => by cases hv
  | @cons n d v g' l cs gs h1 h2 ih =>
    intro hb u hu a m c he hm
    simp only [List.mem_cons] at hu
    rcases hu with rfl | rfl | hu
    · cases he
    · obtain ⟨k, vs, e, hv, _⟩ := h1
      rw [he] at hv
      cases hv
      exact hb _ (by simp [mkAddr])
    · exact ih (fun b hb' => hb b (by simp [hb'])) u hu a m c he hm
theorem FlyN.itsN {C : Ctx} {H : AHeap} {lo hi : Nat} {v : Value} {l : List Itm} (h : FlyN H lo hi v l) : ItsN C H lo hi v l := by
  obtain ⟨g, cs, gs, k1, k2, k3, k4, k5⟩ := h
  exact ⟨g, cs, k1, k2, k3.itc, k3.far k4⟩

def LineNF (C : Ctx) (H : AHeap) (lo hi : Nat) (x : LineA) (v : Value) : Prop :=
  ∃ m1 m2 o0 e0 o1 e1 f, v = lineV x.a.last o0 x.a.got e0 x.b.last o1 x.b.got e1 f ∧ lo ≤ m1 ∧ m1 ≤ m2 ∧ m2 ≤ hi ∧ EndN C H lo m1 x.a (endV x.a.last o0 x.a.got e0) ∧ EndN C H m1 m2 x.b (endV x.b.last o1 x.b.got e1) ∧ FlyN H m2 hi f x.fly
theorem LineNF.n {C : Ctx} {H : AHeap} {lo hi : Nat} {x : LineA} {v : Value} (h : LineNF C H lo hi x v) : LineN C H lo hi x v := by
  obtain ⟨m1, m2, o0, e0, o1, e1, f, k0, k1, k2, k3, k4, k5, k6⟩ := h
  exact ⟨m1, m2, o0, e0, o1, e1, f, k0, k1, k2, k3, k4, k5, k6.itsN⟩

set_option maxHeartbeats 1000000 in
theorem copyLineF_spec (w : World) {H : AHeap} (hw : WF H) {x : LineA} {v : Value} (hx : LineR (ctxW w) H x v) (hsm : LineS x) : wpCall (ctxW w) (.func (.func 9) #[] #[]) [v] H fun r H' => Same H H' ∧ LineNF (ctxW w) H' H.next H'.next x r := by
  obtain ⟨o0, e0, o1, e1, f, rfl, h1, h2, h3, h4, h5⟩ := hx
  obtain ⟨a1, c1, rfl⟩ := h1.val
  obtain ⟨a2, c2, rfl⟩ := h2.val
  obtain ⟨a3, c3, rfl⟩ := h3.val
  obtain ⟨a4, c4, rfl⟩ := h4.val
  obtain ⟨a5, c5, rfl⟩ := h5.val
  refine wpCall_fn rfl (get9 w) ?_
  simp [ir9]
  refine w_box (cs := lineCells x (.slice a1 x.a.opens.length c1) (.slice a2 x.a.early.length c2) (.slice a3 x.b.opens.length c3) (.slice a4 x.b.early.length c4) (.slice a5 x.fly.length c5)) hw (by simp [lineV, lineCells]) rfl (by simp [lineCells]) fun p H1 hp => ?_
  refine w_mk hp.same.wf' fun q H2 hq => ?_
  have hs02 := hp.same.trans hq.same
  have hp2 := hp.obj.same hq.same
  have ld2 := fun off n => Obj1.load (C := ctxW w) (off := off) (n := n) hp2
  simp [ld2, lineCells]
  refine wpCall_mono (copyEnd_spec w hs02.wf' (x := x.a) ⟨_, _, rfl, h1.same hs02, h2.same hs02⟩ hsm.1) ?_
  rintro r3 H3 ⟨hs3, hn3⟩
  have hs03 := hs02.trans hs3
  have hp3 := hp2.same hs3
  have ld3 := fun off n => Obj1.load (C := ctxW w) (off := off) (n := n) hp3
  have f1 : free (ctxW w) (.call H2 H3) (.exp [p] []) = true := free_call_rd (eqbW w) hs3 (by simp; obtain ⟨e, h⟩ := hp2; rw [h]; simp)
  simp [ld3, f1, lineCells]
  refine wpCall_mono (copyEnd_spec w hs03.wf' (x := x.b) ⟨_, _, rfl, h3.same hs03, h4.same hs03⟩ hsm.2.1) ?_
  rintro r4 H4 ⟨hs4, hn4⟩
  obtain ⟨mid3, b1, b2, rfl, k3, k4, i1, i2⟩ := id hn3
  obtain ⟨mid4, b3, b4, rfl, k5, k6, i3, i4⟩ := id hn4
  obtain ⟨a6, c6, rfl⟩ := i1.val
  obtain ⟨a7, c7, rfl⟩ := i2.val
  obtain ⟨a8, c8, rfl⟩ := i3.val
  obtain ⟨a9, c9, rfl⟩ := i4.val
  have hs04 := hs03.trans hs4
  simp [endV]
  have hp4 := hp3.same hs4
  have hq4 := (hq.obj.same hs3).same hs4
  have n1 := hp.next
  have n1' := hp.new
  have n2 := hq.new
  have n2' := hq.next
  have n3 := hs3.grow.next
  have n4 := hs4.grow.next
  have g1 : Nat.beq H4.next p = false := nbeq' (by omega)
  have g2 : free (ctxW w) (.call H3 H4) (.exp [] [H4.next]) = true := free_call_new (Nat.le_refl _)
  have g3 : free (ctxW w) (.call H2 H3) (.exp [] [H4.next]) = true := free_call_new (by omega)
  refine d_mk hs04.wf' (by simp [g1, g2, g3]) fun s5 H5 hs5 => ?_
  simp
  have n5 := hs5.new
  have n5' := hs5.next
  refine d_store (p := s5) (off := 0) (xs := [.int .i64 x.a.last, .slice a6 x.a.opens.length c6, .int .i64 x.a.got, .slice a7 x.a.early.length c7, .int .i64 x.b.last, .slice a8 x.b.opens.length c8, .int .i64 x.b.got, .slice a9 x.b.early.length c9, .slice none 0 0]) hs5.same.wf' rfl hs5.obj (by simp) (by simp) rfl (by simp) (by simp) (by simp) fun H6 hm6 hn6 ho6 => ?_
  simp
  have hs45 := hs5.same
  have hs06 : Same H H6 := (hs04.trans hs45).then_mod hm6 (by omega)
  have ea : EndN (ctxW w) H6 H2.next H3.next x.a (endV x.a.last (.slice a6 x.a.opens.length c6) x.a.got (.slice a7 x.a.early.length c7)) := ((hn3.same hs4).same hs45).mod hm6 (by omega)
  have eb : EndN (ctxW w) H6 H3.next H4.next x.b (endV x.b.last (.slice a8 x.b.opens.length c8) x.b.got (.slice a9 x.b.early.length c9)) := (hn4.same hs45).mod hm6 (by omega)
  have hp6 : Obj1 H6 p _ := (hp4.same hs45).mod hm6 (by omega)
  have hq6 : Obj1 H6 q _ := (hq4.same hs45).mod hm6 (by omega)
  refine wp_loop' (fun n s => ∃ (T : Env) (H7 : AHeap) (i : Nat) (vf : Value), s = ⟨T, H7, []⟩ ∧ n = x.fly.length - i ∧ i ≤ x.fly.length ∧ T.val 1 = .pointer (some ⟨p, 0, none⟩) ∧ T.val 2 = .pointer (some ⟨q, 0, none⟩) ∧ T.val 3 = .pointer (some ⟨s5, 0, none⟩) ∧ T.val 4 = .int .i64 i ∧ Same H H7 ∧ Mod s5 H6 H7 ∧
      Obj1 H7 s5 [.int .i64 x.a.last, .slice a6 x.a.opens.length c6, .int .i64 x.a.got, .slice a7 x.a.early.length c7, .int .i64 x.b.last, .slice a8 x.b.opens.length c8, .int .i64 x.b.got, .slice a9 x.b.early.length c9, vf] ∧ FlyN H7 H6.next H7.next vf (x.fly.take i)) (n := x.fly.length)
    ⟨_, H6, 0, _, rfl, rfl, Nat.zero_le _, by simp, by simp, by simp, by simp, hs06, (Same.refl hs06.wf').mod, by simpa using ho6, by simpa using FlyN.nil _ _ _⟩ ?_
  rintro n s K ⟨T, H7, i, vf, rfl, rfl, hi, t1, t2, t3, t4, hs07, hm67, ho7, hn7⟩ hnext hexit
  have hw7 := hs07.wf'
  have hfl := hsm.2.2.1
  have n67 := hm67.grow.next
  have hp7 : Obj1 H7 p _ := hp6.mod hm67 (by omega)
  have hq7 : Obj1 H7 q _ := hq6.mod hm67 (by omega)
  have ldp := fun off n => Obj1.load (C := ctxW w) (off := off) (n := n) hp7
  have lds := fun off n => Obj1.load (C := ctxW w) (off := off) (n := n) ho7
  by_cases hlt : i < x.fly.length
  · obtain ⟨b, da, dc, rfl, l1, l2, l3, hd⟩ := (h5.same hs07).at hlt
    have e3 : (i : Int) < x.fly.length := by omega
    have hblt := load_lt hw7 l1
    simp at hblt
    obtain ⟨av, cv, rfl⟩ := FlyN.val (C := ctxW w) hn7
    obtain ⟨g, cs, gs, k1, k2, j3, j4, j5⟩ := hn7
    have hdl : x.fly[i].2.length ≤ 500 := by
      have := (List.all_eq_true.1 hsm.2.2.2) x.fly[i] (List.getElem_mem hlt)
      simpa [short] using this
    simp [t1, t3, t4, ldp, lds, e3, l1, lineCells]
    have f1 : Nat.beq H7.next b.block = false := nbeq' (by omega)
    have f3 : Nat.beq H7.next p = false := nbeq' (by omega)
    have f4 : Nat.beq H7.next s5 = false := nbeq' (by omega)
    refine d_bs (esz := 1) (cs := []) hw7 (by simp [f1, f3, f4]) (by simp) (by simp) (by simp) fun q8 H8 hq8 hb8 => ?_
    have n8 := hq8.new
    have n8' := hq8.next
    have l2' := hq8.same.load l2
    have f2 : Nat.beq q8 b.block = false := nbeq' (by omega)
    have f5 : Nat.beq q8 p = false := nbeq' (by omega)
    have ldp8 := fun off n => Obj1.load (C := ctxW w) (off := off) (n := n) (hp7.same hq8.same)
    simp [t1, t4, ldp8, e3, l2', f2, f5, lineCells]
    refine d_app' (g := q8) (n := 0) (m := x.fly[i].2.length) (cs := []) (xs := x.fly[i].2.map u8v) hq8.same.wf' (by simpa using hb8) (by simp; exact hd.same hq8.same) (u8_scalar _) (by simp [roomy]; omega)
      (fun rd' md hmd => by
        have k1 := free_rd_mod (C := ctxW w) (ri := rd') (mi := md) (x := b.block) fun y hy => by rw [hmd y hy]; omega
        have k2 := free_rd_mod (C := ctxW w) (ri := rd') (mi := md) (x := p) fun y hy => by rw [hmd y hy]; omega
        have k3 := free_rd_mod (C := ctxW w) (ri := rd') (mi := md) (x := s5) fun y hy => by rw [hmd y hy]; omega
        simp [k1, k2, k3]) fun v9 H9 rd9 md9 hm9 hb9 hmd9 hrd9 => ?_
    have hs79 : Same H7 H9 := hq8.same.then_mod hm9 (by omega)
    have hb9r : Bs (ctxW w) H9 v9 x.fly[i].2 := by
      have := hb9.row (C := ctxW w)
      simpa [Bs] using this
    obtain ⟨a9', ea9, hblk9, -⟩ := hb9.load (C := ctxW w)
    subst ea9
    simp only [Nat.zero_add] at hb9r
    have n9 := hs79.grow.next
    have f6 : Nat.beq H9.next s5 = false := nbeq' (by omega)
    simp
    refine d_bs (esz := 2) (cs := [.int .i64 x.fly[i].1, .slice (some a9') x.fly[i].2.length x.fly[i].2.length]) hs79.wf' (by simp [f6]) (by simp) (by simp) (by simp) fun q10 H10 hq10 hb10 => ?_
    simp
    have hs710 := hs79.trans hq10.same
    refine d_appN (g := g) (n := (x.fly.take i).length) (m := 1) (cs := cs) (xs := [.int .i64 x.fly[i].1, .slice (some a9') x.fly[i].2.length x.fly[i].2.length]) hs710.wf' (by simpa using k1.same hs710) (by simpa using hb10.row) (by simp) (by simp) (by simp [roomy]; omega) (by simp) fun v11 H11 rd11 md11 g11 hg11 hb11 => ?_
    simp [t3]
    have hs711 : Same H H11 ∧ Mod s5 H6 H11 ∧ H10.next ≤ H11.next ∧ Obj1 H11 s5 [.int .i64 x.a.last, .slice a6 x.a.opens.length c6, .int .i64 x.a.got, .slice a7 x.a.early.length c7, .int .i64 x.b.last, .slice a8 x.b.opens.length c8, .int .i64 x.b.got, .slice a9 x.b.early.length c9, .slice av (x.fly.take i).length cv] := by
      rcases hg11 with ⟨_, _, h⟩ | ⟨h0, rfl, _, h⟩
      · exact ⟨(hs07.trans hs710).trans h, (hm67.trans (hs710.trans h).mod), h.grow.next, (ho7.same hs710).same h⟩
      · have hg := k2 fun he => h0 (by rw [he]; rfl)
        refine ⟨(hs07.trans hs710).then_mod h (by omega), ?_, h.grow.next, (ho7.same hs710).mod h (by omega)⟩
        refine ⟨hs06.wf', (hm67.grow.trans hs710.grow).trans h.grow, fun j hj hne => ?_⟩
        rw [h.same j (by have := hs710.grow.next; omega) (by omega), hs710.same j (by omega), hm67.same j hj hne]
    obtain ⟨hs011, hm611, n11, ho11⟩ := hs711
    obtain ⟨a11, e11, hblk11, -⟩ := hb11.load (C := ctxW w)
    have hits : FlyN H11 H6.next H11.next v11 (x.fly.take i ++ [(x.fly[i].1, x.fly[i].2)]) := FlyN.snoc hs710 n67 k2 j3 j4 j5 (by simpa using hb9.same hq10.same) (by omega) hg11 hb11
    subst e11
    refine d_store (p := s5) (off := 8) (xs := [.slice (some a11) ((x.fly.take i).length + 1) ((x.fly.take i).length + 1)]) hs011.wf' rfl ho11 (by simp) (by simp) rfl (by simp) (by simp) (by simp) fun H12 hm12 hn12 ho12 => ?_
    simp [t4]
    refine hnext (x.fly.length - (i + 1)) _ (by omega) ⟨_, H12, i + 1, _, rfl, rfl, by omega, by simp [t1], by simp [t2], by simp [t3], by simp; rw [i64_in _ (by omega)], hs011.then_mod hm12 (by omega), hm611.trans hm12, by simpa using ho12, ?_⟩
    have := (hits.mod hm12 (by omega)).mono (Nat.le_refl _) (by omega : H11.next ≤ H12.next)
    simp only [List.length_take, Nat.min_eq_left hi] at this ⊢
    rw [List.take_succ_eq_append_getElem hlt]
    exact this
  · have : i = x.fly.length := by omega
    subst this
    rw [List.take_length] at hn7
    obtain ⟨av, cv, rfl⟩ := FlyN.val (C := ctxW w) hn7
    simp [t1, t4, ldp, lineCells]
    refine hexit _ _ (by simp) ?_
    simp [t3, lds]
    refine w_store (p := q) (off := 0) (xs := [.int .i64 x.a.last, .slice a6 x.a.opens.length c6, .int .i64 x.a.got, .slice a7 x.a.early.length c7, .int .i64 x.b.last, .slice a8 x.b.opens.length c8, .int .i64 x.b.got, .slice a9 x.b.early.length c9, .slice av x.fly.length cv]) hw7 hq7 (by simp [t2]) (by simp) rfl (by simp) (by simp) (by simp) fun H8 hm8 hn8 ho8 => ?_
    have ld8 := fun off n => Obj1.load (C := ctxW w) (off := off) (n := n) ho8
    simp [t2, ld8]
    refine ⟨hs07.then_mod hm8 (by omega), H3.next, H4.next, _, _, _, _, _, rfl, by omega, by omega, by omega, ?_, ?_, ?_⟩
    · exact ((ea.mod hm67 (by omega)).mod hm8 (by omega)).mono (by omega) (Nat.le_refl _)
    · exact (eb.mod hm67 (by omega)).mod hm8 (by omega)
    · exact (hn7.mod hm8 (by omega)).mono (by omega) (by omega)
end Go.Ai.Wire

namespace Go.Ai.Wire
open Go.Proofs Go.IntWalk
attribute [local irreducible] Trie.put

/-- A line's value in own memory. -/
def LineO (C : Ctx) (H : AHeap) (lo : Nat) (x : LineA) (v : Value) : Prop := ∃ o0 e0 o1 e1 f, v = lineV x.a.last o0 x.a.got e0 x.b.last o1 x.b.got e1 f ∧ ItsO C H lo o0 x.a.opens ∧ ItsO C H lo e0 x.a.early ∧ ItsO C H lo o1 x.b.opens ∧ ItsO C H lo e1 x.b.early ∧ ItsO C H lo f x.fly
theorem LineO.r {C : Ctx} {H : AHeap} {lo : Nat} {x : LineA} {v : Value} (h : LineO C H lo x v) : LineR C H x v :=
  let ⟨a, b, c, d, e, h0, h1, h2, h3, h4, h5⟩ := h; ⟨a, b, c, d, e, h0, h1.its, h2.its, h3.its, h4.its, h5.its⟩
theorem LineO.zero {C : Ctx} {H : AHeap} {lo : Nat} : LineO C H lo zeroL (.agg #[.int .i64 0, .slice none 0 0, .int .i64 0, .slice none 0 0, .int .i64 0, .slice none 0 0, .int .i64 0, .slice none 0 0, .slice none 0 0]) := ⟨_, _, _, _, _, rfl, .nil, .nil, .nil, .nil, .nil⟩

def RDoRes (C : Ctx) (H : AHeap) (z : LineA × List (List UInt8) × Int) (r : Value) (H' : AHeap) : Prop := Same H H' ∧ ∃ lv fv, r = .tuple #[lv, fv, .int .i64 z.2.2] ∧ LineO C H' H.next z.1 lv ∧ FrO C H' H.next fv z.2.1

theorem PIts.io {C : Ctx} {H : AHeap} {col : Nat → Nat} {lo : Nat} {v : Value} {l : List Itm} (h : PIts C H col v l) (hc : ∀ b, col b = 0 → lo ≤ b) : ItsO C H lo v l :=
  let ⟨cs, h1, h2, h3, h4⟩ := h; ⟨cs, h1, h2, fun u hu a n c he hn => hc _ (h3 u hu a n c he hn), fun a n c he hn => hc _ (h4 a n c he hn)⟩
theorem ItsO.plain {C : Ctx} {H : AHeap} {col : Nat → Nat} {lo : Nat} {v : Value} {l : List Itm} (h : ItsO C H lo v l) (hc : ∀ b, lo ≤ b → col b = 0) : PIts C H col v l :=
  let ⟨cs, h1, h2, h3, h4⟩ := h; ⟨cs, h1, h2, fun u hu a n c he hn => hc _ (h3 u hu a n c he hn), fun a n c he hn => hc _ (h4 a n c he hn)⟩

def endL (x : LineA) (t : Nat) : EndA := if t = 0 then x.a else x.b
def setL (x : LineA) (t : Nat) (e : EndA) : LineA := if t = 0 then ⟨e, x.b, x.fly⟩ else ⟨x.a, e, x.fly⟩

/-- An end of the reference's line. -/
theorem RL.at {C : Ctx} {H : AHeap} {col : Nat → Nat} {q : Nat} {x : LineA} {o0 e0 o1 e1 f : Value} (W : RL C H col q x o0 e0 o1 e1 f) {t : Nat} (ht : t ≤ 1) :
    ∃ ov ev, loadN C H.get ⟨q, t * 4, none⟩ 4 = some [.int .i64 (endL x t).last, ov, .int .i64 (endL x t).got, ev] ∧ PIts C H col ov (endL x t).opens ∧ PIts C H col ev (endL x t).early := by
  have ld := fun off n => Obj1.load (C := C) (off := off) (n := n) W.obj
  rcases two ht with rfl | rfl
  · exact ⟨o0, e0, by simp [ld, lineCells, endL], W.i0, W.i1⟩
  · exact ⟨o1, e1, by simp [ld, lineCells, endL], W.i2, W.i3⟩

theorem RL.setE {C : Ctx} {H H' : AHeap} {col : Nat → Nat} {q : Nat} {x : LineA} {o0 e0 o1 e1 f : Value} (W : RL C H col q x o0 e0 o1 e1 f) (st : Step [7] H col H' col) {t : Nat} (ht : t ≤ 1) {e : EndA} {ov ev : Value}
    (ho : Obj1 H' q ((lineCells x o0 e0 o1 e1 f).take (t * 4) ++ ([.int .i64 e.last, ov, .int .i64 e.got, ev] ++ (lineCells x o0 e0 o1 e1 f).drop (t * 4 + 4)))) (h1 : PIts C H' col ov e.opens) (h2 : PIts C H' col ev e.early) : RLine C H' col q (setL x t e) := by
  rcases two ht with rfl | rfl
  · exact ⟨ov, ev, o1, e1, f, by simpa [lineCells, setL] using ho, W.c7, h1, h2, W.i2.step st (by simp), W.i3.step st (by simp), W.fl.step st (by simp) (by simp)⟩
  · exact ⟨o0, e0, ov, ev, f, by simpa [lineCells, setL] using ho, W.c7, W.i0.step st (by simp), W.i1.step st (by simp), h1, h2, W.fl.step st (by simp) (by simp)⟩

theorem FlyN.at {C : Ctx} {H : AHeap} {lo hi : Nat} {a : Option Addr} {n c : Nat} {l : List Itm} (h : FlyN H lo hi (.slice a n c) l) {i : Nat} (hi' : i < l.length) :
    ∃ b v g, a = some b ∧ loadN C H.get (Ai.aadd b (i * 2)) 2 = some [.int .i64 l[i].1, v] ∧ Buf H v g 1 l[i].2.length (l[i].2.map u8v) ∧ lo ≤ g ∧ g < hi := by
  obtain ⟨g, cs, gs, k1, k2, k3, k4, k5⟩ := h
  rcases k1 with ⟨he, hn, _⟩ | ⟨hn, hb⟩
  · omega
  · obtain ⟨b, he, hbl, hld⟩ := hb.load (C := C)
    cases he
    have key : ∀ {l : List Itm} {cs : List Value} {gs : List Nat}, FlC H l cs gs → ∀ {i : Nat} (hi : i < l.length), ∃ v g, (cs.drop (i * 2)).take 2 = [.int .i64 l[i].1, v] ∧ g ∈ gs ∧ Buf H v g 1 l[i].2.length (l[i].2.map u8v) := by
      intro l cs gs h
      induction h with
      | nil => intro i hi; simp at hi
      | @cons n d v g l cs gs h1 h2 ih =>
        intro i hi
        cases i with
        | zero => exact ⟨v, g, by simp, by simp, h1⟩
        | succ i =>
          obtain ⟨v', g', e1, e2, e3⟩ := ih (i := i) (by simpa using hi)
          exact ⟨v', g', by rw [show (i + 1) * 2 = i * 2 + 1 + 1 by omega]; simpa using e1, by simp [e2], by simpa using e3⟩
    obtain ⟨v, g', e1, e2, e3⟩ := key k3 hi'
    have hl := loadN_sub hld (i := i * 2) (m := 2) (by omega)
    rw [e1] at hl
    exact ⟨b, v, g', rfl, hl, e3, (k4 _ e2).1, (k4 _ e2).2.1⟩
theorem FrO.w {C : Ctx} {H : AHeap} {col : Nat → Nat} {lo : Nat} {v : Value} {l : List (List UInt8)} (h : FrO C H lo v l) (hc : ∀ b, lo ≤ b → col b = 0) : WFrs C H col v l :=
  let ⟨cs, h1, h2, h3, h4⟩ := h; ⟨cs, h1, h2, fun u hu a n c he hn => hc _ (h3 u hu a n c he hn), fun a n c he hn => hc _ (h4 a n c he hn)⟩
theorem WFrs.at {C : Ctx} {H : AHeap} {col : Nat → Nat} {a : Option Addr} {n c : Nat} {l : List (List UInt8)} (h : WFrs C H col (.slice a n c) l) {i : Nat} (hi : i < l.length) :
    ∃ b da dc, a = some b ∧ loadN C H.get (Ai.aadd b i) 1 = some [.slice da l[i].length dc] ∧ Bs C H (.slice da l[i].length dc) l[i] ∧ ∀ b', da = some b' → l[i].length ≠ 0 → col b'.block = 0 := by
  obtain ⟨cs, h1, h2, h3, _⟩ := h
  obtain ⟨v, h4, h5⟩ := h1.at hi
  obtain ⟨da, dc, rfl⟩ := h5.val
  obtain ⟨b, hb, _, hl⟩ := Row.at h2 (i := i) (by omega)
  refine ⟨b, da, dc, hb, ?_, h5, fun b' hb' hn => h3 _ (List.mem_of_getElem? h4) b' _ _ (by rw [hb']) hn⟩
  have e2 := (List.getElem?_eq_some_iff.1 h4).2
  rw [e2] at hl
  exact hl
theorem WIts.at {C : Ctx} {H : AHeap} {col : Nat → Nat} {k : Nat} {a : Option Addr} {n c : Nat} {l : List Itm} (h : WIts C H col k (.slice a n c) l) {i : Nat} (hi : i < l.length) :
    ∃ b da dc, a = some b ∧ loadN C H.get (Ai.aadd b (i * 2)) 2 = some [.int .i64 l[i].1, .slice da l[i].2.length dc] ∧ Bs C H (.slice da l[i].2.length dc) l[i].2 ∧ ∀ b', da = some b' → l[i].2.length ≠ 0 → col b'.block = 0 := by
  obtain ⟨g, cs, k1, k2, k3, k4⟩ := h
  have key : ∀ {l : List Itm} {cs : List Value}, ItC C H l cs → ∀ {i : Nat} (hi : i < l.length), ∃ v, (cs.drop (i * 2)).take 2 = [.int .i64 l[i].1, v] ∧ v ∈ cs ∧ Bs C H v l[i].2 := by
    intro l cs h
    induction h with
    | nil => intro i hi; simp at hi
    | @cons n d v l cs h1 h2 ih =>
      intro i hi
      cases i with
      | zero => exact ⟨v, by simp, by simp, h1⟩
      | succ i =>
        obtain ⟨v', e1, e2, e3⟩ := ih (i := i) (by simpa using hi)
        exact ⟨v', by rw [show (i + 1) * 2 = i * 2 + 1 + 1 by omega]; simpa using e1, by simp [e2], by simpa using e3⟩
  rcases k1 with ⟨he, hn, _⟩ | hb
  · omega
  · obtain ⟨b, c', he, hnc, hbl, _, hld⟩ := hb.load (C := C)
    cases he
    obtain ⟨v, e1, e2, e3⟩ := key k3 hi
    obtain ⟨da, dc, rfl⟩ := e3.val
    have hl := loadN_sub hld (i := i * 2) (m := 2) (by omega)
    rw [e1] at hl
    exact ⟨b, da, dc, rfl, hl, e3, fun b' hb' hn => k4 _ e2 b' _ _ (by rw [hb']) hn⟩
theorem NB.mod {H H' : AHeap} {q : Nat} (hm : Mod q H H') {v : Value} {g esz n : Nat} {cs : List Value} (h : NB H v g esz n cs) (hg : n ≠ 0 → g ≠ q) : NB H' v g esz n cs := h.imp id fun h => ⟨h.1, h.2.mod hm (hg h.1)⟩
/-- One of the packets turns. -/
theorem FlyN.turn {C : Ctx} {H : AHeap} {lo hi : Nat} {a : Option Addr} {n c : Nat} {l : List Itm} (h : FlyN H lo hi (.slice a n c) l) {i : Nat} (hi' : i < l.length) (F : List UInt8 → List UInt8) :
    ∃ b v g, a = some b ∧ loadN C H.get (Ai.aadd b (i * 2)) 2 = some [.int .i64 l[i].1, v] ∧ Buf H v g 1 l[i].2.length (l[i].2.map u8v) ∧ lo ≤ g ∧ g < hi ∧
      ∀ {H' : AHeap}, Mod g H H' → Buf H' v g 1 (F l[i].2).length ((F l[i].2).map u8v) → FlyN H' lo hi (.slice a n c) (l.modify i fun f => (f.1, F f.2)) := by
  obtain ⟨g, cs, gs, k1, k2, k3, k4, k5⟩ := h
  rcases id k1 with ⟨he, hn, _⟩ | ⟨hn, hb⟩
  · omega
  · obtain ⟨b, he, hbl, hld⟩ := hb.load (C := C)
    cases he
    obtain ⟨v, g', e1, e2, e3⟩ := k3.at hi'
    have hl := loadN_sub hld (i := i * 2) (m := 2) (by omega)
    rw [e1] at hl
    have hg := k4 _ (List.mem_of_getElem? e2)
    refine ⟨b, v, g', rfl, hl, e3, hg.1, hg.2.1, fun hm hb' => ⟨g, cs, gs, ?_, fun hne => k2 fun h => hne (by rw [h]; simp), ?_, k4, k5⟩⟩
    · rw [List.length_modify]
      exact NB.mod hm k1 fun _ => Ne.symm hg.2.2
    · refine k3.turn (F := F) hm k5 hi' e2 fun v' hv' => ?_
      rw [e1] at hv'
      simp only [List.cons.injEq, and_true, true_and] at hv'
      rw [← hv']
      exact hb'
end Go.Ai.Wire
