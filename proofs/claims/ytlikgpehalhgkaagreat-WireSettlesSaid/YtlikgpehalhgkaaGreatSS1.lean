/-
  The walk of 'WireSettles'.
-/
import Derived.Test.YtlikgpehalhgkaaGreatSR8
import Derived.Test.YtlikgpehalhgkaaGreatSR1
import Derived.Test.YtlikgpehalhgkaaGreatSWQ
import Derived.Test.YtlikgpehalhgkaaGreatSWH
import Derived.Test.YtlikgpehalhgkaaGreatSWD
namespace Go.Ai.Wire
open Go.Proofs Go.IntWalk
attribute [local irreducible] Trie.put

set_option maxHeartbeats 1000000 in
theorem settleAny_spec (w : World) {H : AHeap} (hw : WF H) {x : LineA} {v : Value} (hx : LineR (ctxW w) H x v) (hsm : LineS x) : wpCall (ctxW w) (.func (.func 14) #[] #[]) [v] H (RSettleRes (ctxW w) H x) := by
  by_cases hok : LineOK x
  · refine wpCall_mono (settle_spec w hw hx hok) ?_
    rintro _ H1 ⟨hs, z, lv, g0, g1, hset, rfl, hl, hg0, hg1, hzok, n0, n1⟩
    exact ⟨hs, z, _, _, _, _, rfl, hl.r, hg0.frs, hg1.frs, n0, n1, lineS_ok hzok, .inl ⟨hok, rfl, hset⟩⟩
  · obtain ⟨o0, e0, o1, e1, f, rfl, h1, h2, h3, h4, h5⟩ := hx
    obtain ⟨a1, c1, rfl⟩ := h1.val
    obtain ⟨a2, c2, rfl⟩ := h2.val
    obtain ⟨a3, c3, rfl⟩ := h3.val
    obtain ⟨a4, c4, rfl⟩ := h4.val
    obtain ⟨a5, c5, rfl⟩ := h5.val
    refine wpCall_fn rfl (get14 w) ?_
    simp [ir14]
    refine w_box (cs := lineCells x (.slice a1 x.a.opens.length c1) (.slice a2 x.a.early.length c2) (.slice a3 x.b.opens.length c3) (.slice a4 x.b.early.length c4) (.slice a5 x.fly.length c5)) hw (by simp [lineV, lineCells]) rfl (by simp [lineCells]) fun p H1 hp => ?_
    refine w_mk hp.same.wf' fun t H2 ht => ?_
    refine w_mk ht.same.wf' fun u H3 hu => ?_
    have hs02 := hp.same.trans ht.same
    have hs03 := hs02.trans hu.same
    have np := hp.new
    have np' := hp.next
    have nt := ht.new
    have nt' := ht.next
    have nu := hu.new
    have nu' := hu.next
    have ldp := fun off n => Obj1.load (C := ctxW w) (off := off) (n := n) ((hp.obj.same ht.same).same hu.same)
    simp [ldp, lineCells]
    refine wpCall_mono (openLineW_spec w hs03.wf' (col := fun _ => 0) (fun _ _ => rfl) (x := x) ⟨_, _, _, _, _, rfl, h1.same hs03, h2.same hs03, h3.same hs03, h4.same hs03, h5.same hs03⟩ hsm) ?_
    rintro r4 H4 (⟨hok', _⟩ | ⟨_, hs4, rfl⟩)
    · exact absurd hok' hok
    have hs04 := hs03.trans hs4
    have n4 := hs4.grow.next
    simp
    refine w_store (p := t) (off := 0) (xs := [.int .i64 0, .slice none 0 0, .int .i64 0, .slice none 0 0, .int .i64 0, .slice none 0 0, .int .i64 0, .slice none 0 0, .slice none 0 0]) hs04.wf' ((ht.obj.same hu.same).same hs4) (by simp) (by simp) rfl (by simp) (by simp) (by simp) fun H6 hm6 hn6 ho6 => ?_
    simp
    refine w_store (p := u) (off := 0) (xs := [.slice none 0 0, .slice none 0 0]) hm6.wf' ((hu.obj.same hs4).mod hm6 (by omega)) (by simp) (by simp) (by simp) (by simp) (by simp) (by simp) fun H7 hm7 hn7 ho7 => ?_
    have ldt := fun off n => Obj1.load (C := ctxW w) (off := off) (n := n) (ho6.mod hm7 (by omega))
    have ldu := fun off n => Obj1.load (C := ctxW w) (off := off) (n := n) ho7
    simp [ldt, ldu]
    exact ⟨(hs04.then_mod hm6 (by omega)).then_mod hm7 (by omega), ⟨zeroL, [], []⟩, _, _, _, _, rfl, (LineO.zero (lo := 0)).r, Frs.nil _ _, Frs.nil _ _, by simp, by simp, lineS_zero, .inr ⟨hok, rfl, rfl⟩⟩

set_option maxHeartbeats 4000000 in
theorem wireSettles_walk (w : World) {H : AHeap} (hw : WF H) {x : LineA} {v : Value} (hx : LineR (ctxW w) H x v) : wpCall (ctxW w) (.func (.func 4) #[] #[]) [v] H fun r _ => r = .bool true := by
  obtain ⟨o0, e0, o1, e1, f, rfl, h1, h2, h3, h4, h5⟩ := hx
  obtain ⟨a1, c1, rfl⟩ := h1.val
  obtain ⟨a2, c2, rfl⟩ := h2.val
  obtain ⟨a3, c3, rfl⟩ := h3.val
  obtain ⟨a4, c4, rfl⟩ := h4.val
  obtain ⟨a5, c5, rfl⟩ := h5.val
  refine wpCall_fn rfl (get4 w) ?_
  simp [ir4]
  refine w_box (cs := lineCells x (.slice a1 x.a.opens.length c1) (.slice a2 x.a.early.length c2) (.slice a3 x.b.opens.length c3) (.slice a4 x.b.early.length c4) (.slice a5 x.fly.length c5)) hw (by simp [lineV, lineCells]) rfl (by simp [lineCells]) fun p H1 hp => ?_
  have ld1 := fun off n => Obj1.load (C := ctxW w) (off := off) (n := n) hp.obj
  have hs1 := hp.same
  simp [ld1, lineCells]
  have hlr : ∀ {H'}, Same H H' → LineR (ctxW w) H' x (lineV x.a.last (.slice a1 x.a.opens.length c1) x.a.got (.slice a2 x.a.early.length c2) x.b.last (.slice a3 x.b.opens.length c3) x.b.got (.slice a4 x.b.early.length c4) (.slice a5 x.fly.length c5)) :=
    fun hs => ⟨_, _, _, _, _, rfl, h1.same hs, h2.same hs, h3.same hs, h4.same hs, h5.same hs⟩
  refine wpCall_mono (thin_spec w hs1.wf' (hlr hs1)) ?_
  rintro _ H2 ⟨hs2, rfl⟩
  have hs02 := hs1.trans hs2
  cases ht : thinL x with
  | false =>
    simp
    refine wpCall_mono (awake_spec w) ?_
    rintro _ H3 ⟨rfl, rfl⟩
    simp
  | true =>
    have hsm := thinL_s ht
    have ldp : ∀ {H'}, Same H1 H' → ∀ off n, _ := fun {H'} hs => fun off n => Obj1.load (C := ctxW w) (off := off) (n := n) (hp.obj.same hs)
    have ld2 := ldp hs2
    simp [ld2, lineCells]
    refine wpCall_mono (copyLine_spec w hs02.wf' (hlr hs02) hsm) ?_
    rintro r3 H3 ⟨hs3, hn3⟩
    have hs03 := hs02.trans hs3
    simp
    refine wpCall_mono (settleAny_spec w hs03.wf' hn3.r hsm) ?_
    rintro _ H4 ⟨hs4, z, lv, g0, g1, e, rfl, hl4, hg0, hg1, n0, n1, hzs, hz⟩
    have hs04 := hs03.trans hs4
    obtain ⟨q0, q1, q2, q3, q4, rfl, i0, i1, i2, i3, i4⟩ := id hl4
    obtain ⟨u1, v1, rfl⟩ := i0.val
    obtain ⟨u2, v2, rfl⟩ := i1.val
    obtain ⟨u3, v3, rfl⟩ := i2.val
    obtain ⟨u4, v4, rfl⟩ := i3.val
    obtain ⟨u5, v5, rfl⟩ := i4.val
    obtain ⟨s0, sc0, rfl⟩ := hg0.val
    obtain ⟨s1, sc1, rfl⟩ := hg1.val
    simp [lineV]
    refine w_mk hs04.wf' fun t3 H5 ht3 => ?_
    refine w_mk ht3.same.wf' fun t4 H6 ht4 => ?_
    have a3 := ht3.new
    have b3 := ht3.next
    have a4 := ht4.new
    have b4 := ht4.next
    refine w_store (p := t3) (off := 0) (xs := lineCells z.x (.slice u1 z.x.a.opens.length v1) (.slice u2 z.x.a.early.length v2) (.slice u3 z.x.b.opens.length v3) (.slice u4 z.x.b.early.length v4) (.slice u5 z.x.fly.length v5)) ht4.same.wf' (ht3.obj.same ht4.same) (by simp) (by simp [lineCells]) rfl (by simp) (by simp) (by simp [lineCells]) fun H7 hm7 hn7 ho7 => ?_
    simp
    refine w_store (p := t4) (off := 0) (xs := [.slice s0 z.h0.length sc0, .slice s1 z.h1.length sc1]) hm7.wf' (ht4.obj.mod hm7 (by omega)) (by simp) (by simp) (by simp) (by simp) (by simp) (by simp) fun H8 hm8 hn8 ho8 => ?_
    simp [lineCells] at ho7
    simp at ho8
    have ho7' := ho7.mod hm8 (by omega)
    have hs48 : Same H4 H8 := ((ht3.same.trans ht4.same).then_mod hm7 (by omega)).then_mod hm8 (by omega)
    have hs08 := hs04.trans hs48
    have ld8 := ldp ((hs2.trans hs3).trans (hs4.trans hs48))
    simp [ld8, lineCells]
    have hcall := refSettle_spec w hs08.wf' (hlr hs08) hsm
    simp only [lineV] at hcall
    refine wpCall_mono hcall ?_
    rintro _ H9 ⟨hs9, z', lv', g0', g1', e', rfl, hl9, hg0', hg1', n0', n1', hzs', hz'⟩
    obtain ⟨rfl, rfl⟩ : z' = z ∧ e' = e := by
      rcases hz with ⟨k1, k2, k3⟩ | ⟨k1, k2, k3⟩
      · rcases hz' with ⟨k4, k5, k6⟩ | ⟨k4, k5, k6⟩
        · exact ⟨k6.det k3, by rw [k5, k2]⟩
        · exact absurd k1 k4
      · rcases hz' with ⟨k4, k5, k6⟩ | ⟨k4, k5, k6⟩
        · exact absurd k4 k1
        · exact ⟨by rw [k6, k3], by rw [k5, k2]⟩
    obtain ⟨r0, r1, r2, r3, r4, rfl, j0, j1, j2, j3, j4⟩ := id hl9
    obtain ⟨w1, x1, rfl⟩ := j0.val
    obtain ⟨w2, x2, rfl⟩ := j1.val
    obtain ⟨w3, x3, rfl⟩ := j2.val
    obtain ⟨w4, x4, rfl⟩ := j3.val
    obtain ⟨w5, x5, rfl⟩ := j4.val
    obtain ⟨s2, sc2, rfl⟩ := hg0'.val
    obtain ⟨s3, sc3, rfl⟩ := hg1'.val
    have hs09 := hs08.trans hs9
    simp [lineV]
    refine w_mk hs09.wf' fun t6 H10 ht6 => ?_
    refine w_mk ht6.same.wf' fun t7 H11 ht7 => ?_
    have a6 := ht6.new
    have b6 := ht6.next
    have a7 := ht7.new
    have b7 := ht7.next
    refine w_store (p := t6) (off := 0) (xs := lineCells z'.x (.slice w1 z'.x.a.opens.length x1) (.slice w2 z'.x.a.early.length x2) (.slice w3 z'.x.b.opens.length x3) (.slice w4 z'.x.b.early.length x4) (.slice w5 z'.x.fly.length x5)) ht7.same.wf' (ht6.obj.same ht7.same) (by simp) (by simp [lineCells]) rfl (by simp) (by simp) (by simp [lineCells]) fun H12 hm12 hn12 ho12 => ?_
    simp
    refine w_store (p := t7) (off := 0) (xs := [.slice s2 z'.h0.length sc2, .slice s3 z'.h1.length sc3]) hm12.wf' (ht7.obj.mod hm12 (by omega)) (by simp) (by simp) (by simp) (by simp) (by simp) (by simp) fun H13 hm13 hn13 ho13 => ?_
    simp [lineCells] at ho12
    simp at ho13
    have ho12' := ho12.mod hm13 (by omega)
    have hs913 : Same H9 H13 := ((ht6.same.trans ht7.same).then_mod hm12 (by omega)).then_mod hm13 (by omega)
    have hs013 := hs09.trans hs913
    have hs813 := hs9.trans hs913
    have ld13 := ldp (((hs2.trans hs3).trans (hs4.trans hs48)).trans hs813)
    simp [ld13, lineCells]
    refine wpCall_mono (copyLine_spec w hs013.wf' (hlr hs013) hsm) ?_
    rintro r14 H14 ⟨hs14, hn14⟩
    simp
    have hs014 := hs013.trans hs14
    refine wpCall_mono (turn_spec w hs014.wf' hn14.r hsm) ?_
    rintro _ H15 ⟨hs15, lv5, e5, rfl, hl15⟩
    obtain ⟨X, hX, hXe, hXs, hXl⟩ : ∃ X, ((LineOK x ∧ e5 = 0 ∧ X = turnL x) ∨ (¬ LineOK x ∧ e5 = 4 ∧ X = zeroL)) ∧ True ∧ LineS X ∧ LineR (ctxW w) H15 X lv5 := by
      rcases hl15 with ⟨k1, k2, k3⟩ | ⟨k1, k2, k3⟩
      · exact ⟨_, .inl ⟨k1, k2, rfl⟩, trivial, lineS_ok (turnL_ok k1), k3.r⟩
      · exact ⟨_, .inr ⟨k1, k2, rfl⟩, trivial, lineS_zero, k3.r⟩
    obtain ⟨r0, r1, r2, r3, r4, rfl, m0, m1, m2, m3, m4⟩ := id hXl
    obtain ⟨c6, d1, rfl⟩ := m0.val
    obtain ⟨c7, d2, rfl⟩ := m1.val
    obtain ⟨c8, d3, rfl⟩ := m2.val
    obtain ⟨c9, d4, rfl⟩ := m3.val
    obtain ⟨c10, d5, rfl⟩ := m4.val
    have hs015 := hs014.trans hs15
    simp [lineV]
    refine w_mk hs015.wf' fun t9 H16 ht9 => ?_
    have a9 := ht9.new
    have b9 := ht9.next
    refine w_store (p := t9) (off := 0) (xs := lineCells X (.slice c6 X.a.opens.length d1) (.slice c7 X.a.early.length d2) (.slice c8 X.b.opens.length d3) (.slice c9 X.b.early.length d4) (.slice c10 X.fly.length d5)) ht9.same.wf' ht9.obj (by simp) (by simp [lineCells]) rfl (by simp) (by simp) (by simp [lineCells]) fun H17 hm17 hn17 ho17 => ?_
    simp [lineCells] at ho17
    have hs1517 : Same H15 H17 := ht9.same.then_mod hm17 (by omega)
    have hs017 := hs015.trans hs1517
    have hs1317 := (hs14.trans hs15).trans hs1517
    have ld17 := ldp ((((hs2.trans hs3).trans (hs4.trans hs48)).trans hs813).trans hs1317)
    simp [ld17, lineCells]
    have hcall := refTurn_spec w hs017.wf' (hlr hs017) hsm
    simp only [lineV] at hcall
    refine wpCall_mono hcall ?_
    rintro _ H18 ⟨hs18, lv6, e6, rfl, hl18⟩
    obtain ⟨rfl, hl18⟩ : e6 = e5 ∧ LineR (ctxW w) H18 X lv6 := by
      rcases hX with ⟨k1, k2, k3⟩ | ⟨k1, k2, k3⟩
      · rcases hl18 with ⟨k4, k5, k6⟩ | ⟨k4, k5, k6⟩
        · exact ⟨by rw [k5, k2], by rw [k3]; exact k6⟩
        · exact absurd k1 k4
      · rcases hl18 with ⟨k4, k5, k6⟩ | ⟨k4, k5, k6⟩
        · exact absurd k4 k1
        · exact ⟨by rw [k5, k2], by rw [k3]; exact k6⟩
    obtain ⟨r0, r1, r2, r3, r4, rfl, m5, m6, m7, m8, m9⟩ := id hl18
    obtain ⟨e7, f1, rfl⟩ := m5.val
    obtain ⟨e8, f2, rfl⟩ := m6.val
    obtain ⟨e9, f3, rfl⟩ := m7.val
    obtain ⟨e10, f4, rfl⟩ := m8.val
    obtain ⟨e11, f5, rfl⟩ := m9.val
    have hs018 := hs017.trans hs18
    simp [lineV]
    refine w_mk hs018.wf' fun t11 H19 ht11 => ?_
    have a11 := ht11.new
    have b11 := ht11.next
    refine w_store (p := t11) (off := 0) (xs := lineCells X (.slice e7 X.a.opens.length f1) (.slice e8 X.a.early.length f2) (.slice e9 X.b.opens.length f3) (.slice e10 X.b.early.length f4) (.slice e11 X.fly.length f5)) ht11.same.wf' ht11.obj (by simp) (by simp [lineCells]) rfl (by simp) (by simp) (by simp [lineCells]) fun H20 hm20 hn20 ho20 => ?_
    simp [lineCells] at ho20
    have hs1820 : Same H18 H20 := ht11.same.then_mod hm20 (by omega)
    have hs1720 := hs18.trans hs1820
    have hs1320 := hs1317.trans hs1720
    have hs820 := hs813.trans hs1320
    have ldt3 := fun off n => Obj1.load (C := ctxW w) (off := off) (n := n) (ho7'.same hs820)
    have ldt6 := fun off n => Obj1.load (C := ctxW w) (off := off) (n := n) (ho12'.same hs1320)
    simp [ldt3, ldt6]
    have hcall := sameLine_spec w hs1820.wf' (hl4.same (hs48.trans hs820)) (hl9.same (hs913.trans hs1320)) hzs
    simp only [lineV] at hcall
    refine wpCall_mono hcall ?_
    rintro _ H21 ⟨hs21, b21, rfl, hb21⟩
    obtain rfl : b21 = true := hb21.2 trivial
    have hs821 := hs820.trans hs21
    have ldt4 := fun off n => Obj1.load (C := ctxW w) (off := off) (n := n) (ho8.same hs821)
    have ldt7 := fun off n => Obj1.load (C := ctxW w) (off := off) (n := n) (ho13.same (hs1320.trans hs21))
    simp [ldt4, ldt7]
    refine wpCall_mono (sameFrames_spec w (hg0.same (hs48.trans hs821)) (hg0'.same (hs913.trans (hs1320.trans hs21))) (by omega)) ?_
    rintro _ H22 ⟨rfl, rfl⟩
    simp [ldt4, ldt7]
    refine wpCall_mono (sameFrames_spec w (hg1.same (hs48.trans hs821)) (hg1'.same (hs913.trans (hs1320.trans hs21))) (by omega)) ?_
    rintro _ H23 ⟨rfl, rfl⟩
    have ldt9 := fun off n => Obj1.load (C := ctxW w) (off := off) (n := n) (ho17.same (hs1720.trans hs21))
    have ldt11 := fun off n => Obj1.load (C := ctxW w) (off := off) (n := n) (ho20.same hs21)
    simp [ldt9, ldt11]
    have hcall := sameLine_spec w hs21.wf' (hXl.same (hs1517.trans (hs1720.trans hs21))) (hl18.same (hs1820.trans hs21)) hXs
    simp only [lineV] at hcall
    refine wpCall_mono hcall ?_
    rintro _ H24 ⟨hs24, b24, rfl, hb24⟩
    obtain rfl : b24 = true := hb24.2 trivial
    simp
    refine wpCall_mono (awake_spec w) ?_
    rintro _ H25 ⟨rfl, rfl⟩
    simp
end Go.Ai.Wire
