/-
  The walk of 'WireActs'.
-/
import Derived.Test.YtlikgpehalhgkaaGreatCS1
namespace Go.Ai.Wire
open Go.Proofs Go.IntWalk
attribute [local irreducible] Trie.put

theorem doF_s (x : LineA) (a : ActA) : LineS (doF x a).1 := by
  unfold doF
  split
  · rename_i hok
    have h := doW_ok (y := ⟨x, [], []⟩) hok a
    split
    · exact lineS_ok h
    · exact lineS_zero
  · exact lineS_zero

set_option maxHeartbeats 4000000 in
theorem wireActs_walk (w : World) {H : AHeap} (hw : WF H) {x : LineA} {v : Value} (hx : LineR (ctxW w) H x v) {a : ActA} {da : Option Addr} {dc : Nat} (hd : Bs (ctxW w) H (.slice da a.data.length dc) a.data) :
    wpCall (ctxW w) (.func (.func 5) #[] #[]) [v, actV a (.slice da a.data.length dc)] H fun r _ => r = .bool true := by
  obtain ⟨o0, e0, o1, e1, f, rfl, h1, h2, h3, h4, h5⟩ := hx
  obtain ⟨a1, c1, rfl⟩ := h1.val
  obtain ⟨a2, c2, rfl⟩ := h2.val
  obtain ⟨a3, c3, rfl⟩ := h3.val
  obtain ⟨a4, c4, rfl⟩ := h4.val
  obtain ⟨a5, c5, rfl⟩ := h5.val
  refine wpCall_fn rfl (get5 w) ?_
  simp [ir5]
  refine w_box (cs := lineCells x (.slice a1 x.a.opens.length c1) (.slice a2 x.a.early.length c2) (.slice a3 x.b.opens.length c3) (.slice a4 x.b.early.length c4) (.slice a5 x.fly.length c5)) hw (by simp [lineV, lineCells]) rfl (by simp [lineCells]) fun p H0 hp => ?_
  simp
  refine w_box (cs := actC a (.slice da a.data.length dc)) hp.same.wf' (by simp [actV, actC]) rfl (by simp [actC]) fun p3 H1 hp3 => ?_
  have hpo := hp.obj.same hp3.same
  have hp3o := hp3.obj
  have ld1 := fun off n => Obj1.load (C := ctxW w) (off := off) (n := n) hpo
  have hs1 := hp.same.trans hp3.same
  simp [ld1, lineCells]
  have hlr : ∀ {H'}, Same H H' → LineR (ctxW w) H' x (lineV x.a.last (.slice a1 x.a.opens.length c1) x.a.got (.slice a2 x.a.early.length c2) x.b.last (.slice a3 x.b.opens.length c3) x.b.got (.slice a4 x.b.early.length c4) (.slice a5 x.fly.length c5)) :=
    fun hs => ⟨_, _, _, _, _, rfl, h1.same hs, h2.same hs, h3.same hs, h4.same hs, h5.same hs⟩
  refine wpCall_mono (thin_spec w hs1.wf' (hlr hs1)) ?_
  rintro _ H2 ⟨hs2, rfl⟩
  have hs02 := hs1.trans hs2
  have ldp : ∀ {H'}, Same H1 H' → ∀ off n, _ := fun {H'} hs => fun off n => Obj1.load (C := ctxW w) (off := off) (n := n) (hpo.same hs)
  have ldp3 : ∀ {H'}, Same H1 H' → ∀ off n, _ := fun {H'} hs => fun off n => Obj1.load (C := ctxW w) (off := off) (n := n) (hp3o.same hs)
  have ld3 := ldp3 hs2
  cases ht : thinL x with
  | false =>
    simp [absent]
    refine wpCall_mono (awake_spec w) ?_
    rintro _ H3 ⟨rfl, rfl⟩
    simp
  | true =>
    have hsm := thinL_s ht
    simp [ld3, actC]
    by_cases hl : a.data.length ≤ 500
    · have e1 : ¬ (500 : Int) < a.data.length := by omega
      simp [e1, ld3, actC]
      refine w_mk hs02.wf' fun t5 H3 ht5 => ?_
      have n5 := ht5.new
      have n5' := ht5.next
      refine w_store (p := t5) (off := 0) (xs := actC a (.slice da a.data.length dc)) ht5.same.wf' ht5.obj (by simp) (by simp [actC]) (by simp [actC]) (by simp) (by simp) (by simp [actC]) fun H4 hm4 hn4 ho4 => ?_
      simp [actC] at ho4
      have hs24 : Same H2 H4 := ht5.same.then_mod hm4 (by omega)
      simp
      refine w_bs (esz := 1) (cs := []) hs24.wf' (by simp) (by simp) (by simp) fun q5 H5 hq5 hb5 => ?_
      have n6 := hq5.new
      have n6' := hq5.next
      have hs25 := hs24.trans hq5.same
      have ld5 := ldp3 (hs2.trans hs25)
      have hs05 := hs02.trans hs25
      simp [ld5, actC]
      refine w_app (g := q5) (n := 0) (m := a.data.length) (cs := []) (xs := a.data.map u8v) hs25.wf' (by simpa using hb5) (by simp; exact hd.same hs05) (u8_scalar _) (by simp [roomy]; omega) fun v6 H6 hm6 hb6 => ?_
      have hs46 : Same H4 H6 := hq5.same.then_mod hm6 (by omega)
      have ho6 := ho4.same hs46
      have hd6 : Bs (ctxW w) H6 v6 a.data := by
        have := hb6.row (C := ctxW w)
        simpa [Bs] using this
      obtain ⟨va, vc, rfl⟩ := hd6.val
      simp
      refine w_store (p := t5) (off := 5) (xs := [.slice va a.data.length vc]) (hs24.trans hs46).wf' ho6 (by simp) (by simp) (by simp) (by simp) (by simp) (by simp) fun H7 hm7 hn7 ho7 => ?_
      simp at ho7
      have hd7 : Bs (ctxW w) H7 (.slice va a.data.length vc) a.data := by
        have := (hb6.mod hm7 (by omega)).row (C := ctxW w)
        simpa [Bs] using this
      have hs27 : Same H2 H7 := (hs24.trans hs46).then_mod hm7 (by omega)
      have hs07 := hs02.trans hs27
      have ld7 := ldp (hs2.trans hs27)
      simp [ld7, lineCells]
      have hcall := copyLine_spec w hs07.wf' (hlr hs07) hsm
      simp only [lineV] at hcall
      refine wpCall_mono hcall ?_
      rintro r8 H8 ⟨hs8, hn8⟩
      have hs08 := hs07.trans hs8
      have ho8 := ho7.same hs8
      have ldt8 := fun off n => Obj1.load (C := ctxW w) (off := off) (n := n) ho8
      have f1 : free (ctxW w) (.call H7 H8) (.exp [t5] []) = true := free_call_rd (eqbW w) hs8 (by simp; obtain ⟨e, h⟩ := ho7; rw [h]; simp)
      simp [ldt8, f1]
      have hcall := wireDo_spec w hs08.wf' hn8.r hsm (a := a) (hd7.same hs8)
      simp only [actV] at hcall
      refine wpCall_mono hcall ?_
      rintro _ H9 ⟨hs9, lv, fv, rfl, hl9, hf9⟩
      obtain ⟨X, hX⟩ : ∃ X, X = (doF x a).1 := ⟨_, rfl⟩
      obtain ⟨F, hF⟩ : ∃ F, F = (doF x a).2.1 := ⟨_, rfl⟩
      obtain ⟨e, he⟩ : ∃ e, e = (doF x a).2.2 := ⟨_, rfl⟩
      have hXs : LineS X := by rw [hX]; exact doF_s x a
      have hFl : F.length ≤ 16 := by rw [hF]; exact doF_len x a
      rw [← hX] at hl9
      rw [← hF] at hf9
      rw [← he]
      have hs09 := hs08.trans hs9
      have hl9 := hl9.r
      have hf9 := hf9.frs
      obtain ⟨q0, q1, q2, q3, q4, rfl, i0, i1, i2, i3, i4⟩ := id hl9
      obtain ⟨u1, v1, rfl⟩ := i0.val
      obtain ⟨u2, v2, rfl⟩ := i1.val
      obtain ⟨u3, v3, rfl⟩ := i2.val
      obtain ⟨u4, v4, rfl⟩ := i3.val
      obtain ⟨u5, v5, rfl⟩ := i4.val
      obtain ⟨fa, fc, rfl⟩ := hf9.val
      have g1 : free (ctxW w) (.call H8 H9) (.exp [] [H9.next]) = true := free_call_new (Nat.le_refl _)
      have n8 := hs8.grow.next
      have n9 := hs9.grow.next
      have n27 := hm7.grow.next
      have hlt5 := ho7.lt hs07.wf'
      have hltp := (hpo.same (hs2.trans hs27)).lt hs07.wf'
      have g2 : Nat.beq H9.next t5 = false := nbeq' (by omega)
      have g3 : Nat.beq H9.next p = false := nbeq' (by omega)
      have g4 : free (ctxW w) (.call H7 H8) (.exp [] [H9.next]) = true := free_call_new (by omega)
      simp [lineV]
      refine d_mk hs09.wf' (by simp [g1, g2, g3, g4]) fun t6 H10 ht6 => ?_
      have n6a := ht6.new
      have n6b := ht6.next
      simp
      refine d_store (p := t6) (off := 0) (xs := lineCells X (.slice u1 X.a.opens.length v1) (.slice u2 X.a.early.length v2) (.slice u3 X.b.opens.length v3) (.slice u4 X.b.early.length v4) (.slice u5 X.fly.length v5)) ht6.same.wf' rfl ht6.obj (by simp) (by simp [lineCells]) rfl (by simp) (by simp) (by simp [lineCells]) fun H11 hm11 hn11 ho11 => ?_
      simp [lineCells] at ho11
      have hs911 : Same H9 H11 := ht6.same.then_mod hm11 (by omega)
      have hs011 := hs09.trans hs911
      have hs711 := (hs8.trans hs9).trans hs911
      have ld11 := ldp ((hs2.trans hs27).trans hs711)
      have ld11' := ldp3 ((hs2.trans hs27).trans hs711)
      simp [ld11, ld11', lineCells, actC]
      have hcall := refDo_spec w hs011.wf' (hlr hs011) hsm (a := a) (hd.same hs011)
      simp only [actV, lineV] at hcall
      refine wpCall_mono hcall ?_
      rintro _ H12 ⟨hs12, lv, fv, rfl, hl12, hf12⟩
      rw [← hX] at hl12
      rw [← hF] at hf12
      rw [← he]
      have hs012 := hs011.trans hs12
      have hl12 := hl12.r
      have hf12 := hf12.frs
      obtain ⟨q0, q1, q2, q3, q4, rfl, j0, j1, j2, j3, j4⟩ := id hl12
      obtain ⟨w1, x1, rfl⟩ := j0.val
      obtain ⟨w2, x2, rfl⟩ := j1.val
      obtain ⟨w3, x3, rfl⟩ := j2.val
      obtain ⟨w4, x4, rfl⟩ := j3.val
      obtain ⟨w5, x5, rfl⟩ := j4.val
      obtain ⟨fa', fc', rfl⟩ := hf12.val
      simp [lineV]
      refine w_mk hs012.wf' fun t9 H13 ht9 => ?_
      have n9a := ht9.new
      have n9b := ht9.next
      refine w_store (p := t9) (off := 0) (xs := lineCells X (.slice w1 X.a.opens.length x1) (.slice w2 X.a.early.length x2) (.slice w3 X.b.opens.length x3) (.slice w4 X.b.early.length x4) (.slice w5 X.fly.length x5)) ht9.same.wf' ht9.obj (by simp) (by simp [lineCells]) rfl (by simp) (by simp) (by simp [lineCells]) fun H14 hm14 hn14 ho14 => ?_
      simp [lineCells] at ho14
      have hs1214 : Same H12 H14 := ht9.same.then_mod hm14 (by omega)
      have hs1114 := hs12.trans hs1214
      have ldt6 := fun off n => Obj1.load (C := ctxW w) (off := off) (n := n) (ho11.same hs1114)
      have ldt9 := fun off n => Obj1.load (C := ctxW w) (off := off) (n := n) ho14
      simp [ldt6, ldt9]
      have hcall := sameLine_spec w hs1214.wf' (hl9.same (hs911.trans hs1114)) (hl12.same hs1214) hXs
      simp only [lineV] at hcall
      refine wpCall_mono hcall ?_
      rintro _ H15 ⟨hs15, b15, rfl, hb15⟩
      obtain rfl : b15 = true := hb15.2 trivial
      simp
      refine wpCall_mono (sameFrames_spec w (hf9.same ((hs911.trans hs1114).trans hs15)) (hf12.same (hs1214.trans hs15)) (by omega)) ?_
      rintro _ H16 ⟨rfl, rfl⟩
      simp
      refine wpCall_mono (awake_spec w) ?_
      rintro _ H17 ⟨rfl, rfl⟩
      simp
    · have e1 : (500 : Int) < a.data.length := by omega
      simp [e1]
      refine wpCall_mono (awake_spec w) ?_
      rintro _ H3 ⟨rfl, rfl⟩
      simp
end Go.Ai.Wire
