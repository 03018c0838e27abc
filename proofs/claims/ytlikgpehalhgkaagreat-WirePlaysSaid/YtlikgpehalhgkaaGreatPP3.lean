/-
  The walk of 'WirePlays'.
-/
import Derived.Test.YtlikgpehalhgkaaGreatPP2
import Derived.Test.YtlikgpehalhgkaaGreatPA1
namespace Go.Ai.Wire
open Go.Proofs Go.IntWalk
attribute [local irreducible] Trie.put

set_option maxHeartbeats 4000000 in
theorem wirePlays_walk (w : World) {H : AHeap} (hw : WF H) {x : LineA} {v av : Value} {acts : List ActA} (hx : LineR (ctxW w) H x v) (hA : Acts (ctxW w) H av acts) :
    wpCall (ctxW w) (.func (.func 3) #[] #[]) [v, av] H fun r _ => r = .bool true := by
  obtain ⟨o0, e0, o1, e1, f, rfl, h1, h2, h3, h4, h5⟩ := hx
  obtain ⟨a1, c1, rfl⟩ := h1.val
  obtain ⟨a2, c2, rfl⟩ := h2.val
  obtain ⟨a3, c3, rfl⟩ := h3.val
  obtain ⟨a4, c4, rfl⟩ := h4.val
  obtain ⟨a5, c5, rfl⟩ := h5.val
  obtain ⟨aa, ac, rfl⟩ := hA.val
  refine wpCall_fn rfl (get3 w) ?_
  simp [ir3]
  refine w_box (cs := lineCells x (.slice a1 x.a.opens.length c1) (.slice a2 x.a.early.length c2) (.slice a3 x.b.opens.length c3) (.slice a4 x.b.early.length c4) (.slice a5 x.fly.length c5)) hw (by simp [lineV, lineCells]) rfl (by simp [lineCells]) fun p H1 hp => ?_
  have ld1 := fun off n => Obj1.load (C := ctxW w) (off := off) (n := n) hp.obj
  have hs1 := hp.same
  simp [ld1, lineCells]
  have hlr : ∀ {H'}, Same H H' → LineR (ctxW w) H' x (lineV x.a.last (.slice a1 x.a.opens.length c1) x.a.got (.slice a2 x.a.early.length c2) x.b.last (.slice a3 x.b.opens.length c3) x.b.got (.slice a4 x.b.early.length c4) (.slice a5 x.fly.length c5)) :=
    fun hs => ⟨_, _, _, _, _, rfl, h1.same hs, h2.same hs, h3.same hs, h4.same hs, h5.same hs⟩
  refine wpCall_mono (thin_spec w hs1.wf' (hlr hs1)) ?_
  rintro _ H2 ⟨hs2, rfl⟩
  have hs02 := hs1.trans hs2
  have ldp : ∀ {H'}, Same H1 H' → ∀ off n, _ := fun {H'} hs => fun off n => Obj1.load (C := ctxW w) (off := off) (n := n) (hp.obj.same hs)
  cases ht : thinL x with
  | false =>
    simp [absent]
    refine wpCall_mono (awake_spec w) ?_
    rintro _ H3 ⟨rfl, rfl⟩
    simp
  | true =>
    have hsm := thinL_s ht
    simp
    by_cases hl : acts.length ≤ 60
    · have e1 : ¬ (60 : Int) < acts.length := by omega
      simp [e1]
      refine wp_loop' (fun n s => ∃ (T : Env) (i : Nat), s = ⟨T, H2, []⟩ ∧ n = acts.length - i ∧ i ≤ acts.length ∧ T.val 1 = .slice aa acts.length ac ∧ T.val 2 = .pointer (some ⟨p, 0, none⟩) ∧ T.val 5 = .int .i64 i ∧ ∀ j (hj : j < acts.length), j < i → acts[j].data.length ≤ 500) (n := acts.length)
        ⟨_, 0, rfl, rfl, Nat.zero_le _, by simp, by simp, by simp, fun j hj h => by omega⟩ ?_
      rintro n s K ⟨T, i, rfl, rfl, hi, t1, t2, t5, hall⟩ hnext hexit
      by_cases hlt : i < acts.length
      · have e2 : (i : Int) < acts.length := by omega
        obtain ⟨b, da, dc, rfl, j1, hb⟩ := (hA.same hs02).at hlt
        have j2 := loadN_sub j1 (i := 5) (m := 1) (by omega)
        simp [actC] at j2
        by_cases hdl : acts[i].data.length ≤ 500
        · have e3 : ¬ (500 : Int) < acts[i].data.length := by omega
          simp [t1, t5, e2, j2, e3]
          exact hnext (acts.length - (i + 1)) _ (by omega) ⟨_, i + 1, rfl, rfl, by omega, by simp [t1], by simp [t2], by simp; rw [i64_in _ (by omega)], fun j hj h => by
            rcases Nat.lt_or_ge j i with h' | h'
            · exact hall j hj h'
            · obtain rfl : j = i := by omega
              exact hdl⟩
        · have e3 : (500 : Int) < acts[i].data.length := by omega
          simp [t1, t5, e2, j2, e3]
          refine wpCall_mono (awake_spec w) ?_
          rintro _ H3 ⟨rfl, rfl⟩
          simp
          refine hexit _ _ (by simp) ?_
          simp
      · have : i = acts.length := by omega
        subst this
        have hd : ∀ a ∈ acts, a.data.length ≤ 500 := by
          intro a ha
          obtain ⟨j, hj, rfl⟩ := List.mem_iff_getElem.1 ha
          exact hall j hj hj
        simp [t1, t5]
        refine hexit _ _ (by simp) ?_
        have ld2 := ldp hs2
        simp [t1, t2, ld2, lineCells]
        have hcall := copyLine_spec w hs02.wf' (hlr hs02) hsm
        simp only [lineV] at hcall
        refine wpCall_mono hcall ?_
        rintro r3 H3 ⟨hs3, hn3⟩
        have hs03 := hs02.trans hs3
        simp [t1]
        refine wpCall_mono (copyActs_spec w hs03.wf' (hA.same hs03) hl hd) ?_
        rintro r4 H4' ⟨hs4', hA4⟩
        have hs04' := hs03.trans hs4'
        simp
        refine wpCall_mono (wirePlay_spec w hs04'.wf' (hn3.r.same hs4') hsm hA4 hl) ?_
        rintro _ H4 ⟨hs4, z, lv, g0, g1, e, rfl, hl4, hg0, hg1, n0, n1, hzs, hz⟩
        have hs04 := hs04'.trans hs4
        obtain ⟨q0, q1, q2, q3, q4, rfl, i0, i1, i2, i3, i4⟩ := id hl4
        obtain ⟨u1, v1, rfl⟩ := i0.val
        obtain ⟨u2, v2, rfl⟩ := i1.val
        obtain ⟨u3, v3, rfl⟩ := i2.val
        obtain ⟨u4, v4, rfl⟩ := i3.val
        obtain ⟨u5, v5, rfl⟩ := i4.val
        obtain ⟨s0, sc0, rfl⟩ := hg0.val
        obtain ⟨s1, sc1, rfl⟩ := hg1.val
        simp [lineV]
        refine w_mk hs04.wf' fun t6 H5 ht6 => ?_
        refine w_mk ht6.same.wf' fun t7 H6 ht7 => ?_
        have a6 := ht6.new
        have b6 := ht6.next
        have a7 := ht7.new
        have b7 := ht7.next
        refine w_store (p := t6) (off := 0) (xs := lineCells z.x (.slice u1 z.x.a.opens.length v1) (.slice u2 z.x.a.early.length v2) (.slice u3 z.x.b.opens.length v3) (.slice u4 z.x.b.early.length v4) (.slice u5 z.x.fly.length v5)) ht7.same.wf' (ht6.obj.same ht7.same) (by simp) (by simp [lineCells]) rfl (by simp) (by simp) (by simp [lineCells]) fun H7 hm7 hn7 ho7 => ?_
        simp
        refine w_store (p := t7) (off := 0) (xs := [.slice s0 z.h0.length sc0, .slice s1 z.h1.length sc1]) hm7.wf' (ht7.obj.mod hm7 (by omega)) (by simp) (by simp) (by simp) (by simp) (by simp) (by simp) fun H8 hm8 hn8 ho8 => ?_
        simp [lineCells] at ho7
        simp at ho8
        have ho7' := ho7.mod hm8 (by omega)
        have hs48 : Same H4 H8 := ((ht6.same.trans ht7.same).then_mod hm7 (by omega)).then_mod hm8 (by omega)
        have hs08 := hs04.trans hs48
        have ld8 := ldp (((hs2.trans hs3).trans hs4').trans (hs4.trans hs48))
        simp [t1, t2, ld8, lineCells]
        have hcall := refPlay_spec w hs08.wf' (hlr hs08) hsm (hA.same hs08) hl
        simp only [lineV] at hcall
        refine wpCall_mono hcall ?_
        rintro _ H9 ⟨hs9, z', lv', g0', g1', e', rfl, hl9, hg0', hg1', n0', n1', hzs', hz'⟩
        obtain ⟨rfl, rfl⟩ : z' = z ∧ e' = e := by
          rcases hz with ⟨k1, k2⟩ | ⟨k1, k2, k3⟩
          · rcases hz' with ⟨k4, k5⟩ | ⟨k4, k5, k6⟩
            · rw [k2] at k5
              cases k5
              exact ⟨rfl, rfl⟩
            · exact absurd k1 k4
          · rcases hz' with ⟨k4, k5⟩ | ⟨k4, k5, k6⟩
            · exact absurd k4 k1
            · exact ⟨by rw [k6, k3], by rw [k5, k2]⟩
        obtain ⟨r0, r1, r2, r3, r4, rfl, j0, j1, j2, j3, j4⟩ := id hl9
        obtain ⟨w1, x1, rfl⟩ := j0.val
        obtain ⟨w2, x2, rfl⟩ := j1.val
        obtain ⟨w3, x3, rfl⟩ := j2.val
        obtain ⟨w4, x4, rfl⟩ := j3.val
        obtain ⟨w5, x5, rfl⟩ := j4.val
        obtain ⟨s2, sc2, rfl⟩ := hg0'.val
        obtain ⟨s3, sc3, rfl⟩ := hg1'.val
        have hs09 := hs08.trans hs9
        simp [lineV]
        refine w_mk hs09.wf' fun t9 H10 ht9 => ?_
        refine w_mk ht9.same.wf' fun t10 H11 ht10 => ?_
        have a9 := ht9.new
        have b9 := ht9.next
        have a10 := ht10.new
        have b10 := ht10.next
        refine w_store (p := t9) (off := 0) (xs := lineCells z'.x (.slice w1 z'.x.a.opens.length x1) (.slice w2 z'.x.a.early.length x2) (.slice w3 z'.x.b.opens.length x3) (.slice w4 z'.x.b.early.length x4) (.slice w5 z'.x.fly.length x5)) ht10.same.wf' (ht9.obj.same ht10.same) (by simp) (by simp [lineCells]) rfl (by simp) (by simp) (by simp [lineCells]) fun H12 hm12 hn12 ho12 => ?_
        simp
        refine w_store (p := t10) (off := 0) (xs := [.slice s2 z'.h0.length sc2, .slice s3 z'.h1.length sc3]) hm12.wf' (ht10.obj.mod hm12 (by omega)) (by simp) (by simp) (by simp) (by simp) (by simp) (by simp) fun H13 hm13 hn13 ho13 => ?_
        simp [lineCells] at ho12
        simp at ho13
        have ho12' := ho12.mod hm13 (by omega)
        have hs913 : Same H9 H13 := ((ht9.same.trans ht10.same).then_mod hm12 (by omega)).then_mod hm13 (by omega)
        have hs813 := hs9.trans hs913
        have ldt6 := fun off n => Obj1.load (C := ctxW w) (off := off) (n := n) (ho7'.same hs813)
        have ldt9 := fun off n => Obj1.load (C := ctxW w) (off := off) (n := n) ho12'
        simp [ldt6, ldt9]
        have hcall := sameLine_spec w hs913.wf' (hl4.same (hs48.trans hs813)) (hl9.same hs913) hzs
        simp only [lineV] at hcall
        refine wpCall_mono hcall ?_
        rintro _ H14 ⟨hs14, b14, rfl, hb14⟩
        obtain rfl : b14 = true := hb14.2 trivial
        have hs814 := hs813.trans hs14
        have ldt7 := fun off n => Obj1.load (C := ctxW w) (off := off) (n := n) (ho8.same hs814)
        have ldt10 := fun off n => Obj1.load (C := ctxW w) (off := off) (n := n) (ho13.same hs14)
        simp [ldt7, ldt10]
        refine wpCall_mono (sameFrames_spec w (hg0.same (hs48.trans hs814)) (hg0'.same (hs913.trans hs14)) (by omega)) ?_
        rintro _ H15 ⟨rfl, rfl⟩
        simp [ldt7, ldt10]
        refine wpCall_mono (sameFrames_spec w (hg1.same (hs48.trans hs814)) (hg1'.same (hs913.trans hs14)) (by omega)) ?_
        rintro _ H16 ⟨rfl, rfl⟩
        simp
        refine wpCall_mono (awake_spec w) ?_
        rintro _ H17 ⟨rfl, rfl⟩
        simp
    · have e1 : (60 : Int) < acts.length := by omega
      simp [e1]
      refine wpCall_mono (awake_spec w) ?_
      rintro _ H3 ⟨rfl, rfl⟩
      simp
end Go.Ai.Wire
