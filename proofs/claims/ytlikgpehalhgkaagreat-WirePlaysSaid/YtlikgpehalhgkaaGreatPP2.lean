/-
  'Play' of the reference.
-/
import Derived.Test.YtlikgpehalhgkaaGreatPP1
namespace Go.Ai.Wire
open Go.Proofs Go.IntWalk
attribute [local irreducible] Trie.put

theorem hears_is {x : LineA} (hok : LineOK x) (a : ActA) : ∃ t : Nat, hearsA x.fly a = t ∧ t ≤ 1 := by
  unfold hearsA
  split
  · rename_i h
    have hi : a.n.toNat < x.fly.length := by omega
    have := (hok.2.2.2 _ hi).1
    rw [List.getD_eq_getElem?_getD, List.getElem?_eq_getElem hi]
    exact ⟨x.fly[a.n.toNat].1.toNat, by show x.fly[a.n.toNat].1 = _; omega, by omega⟩
  · exact ⟨0, rfl, by omega⟩

set_option maxHeartbeats 4000000 in
theorem refPlay_spec (w : World) {H : AHeap} (hw : WF H) {x : LineA} {v av : Value} {acts : List ActA} (hx : LineR (ctxW w) H x v) (hsm : LineS x) (hA : Acts (ctxW w) H av acts) (hl : acts.length ≤ 60) : wpCall (ctxW w) (.func (.func 11) #[] #[]) [v, av] H (PlayRes (ctxW w) H x acts) := by
  obtain ⟨o0, e0, o1, e1, f, rfl, h1, h2, h3, h4, h5⟩ := hx
  obtain ⟨a1, c1, rfl⟩ := h1.val
  obtain ⟨a2, c2, rfl⟩ := h2.val
  obtain ⟨a3, c3, rfl⟩ := h3.val
  obtain ⟨a4, c4, rfl⟩ := h4.val
  obtain ⟨a5, c5, rfl⟩ := h5.val
  obtain ⟨aa, ac, rfl⟩ := hA.val
  refine wpCall_fn rfl (get11 w) ?_
  simp [ir11]
  refine w_box (cs := lineCells x (.slice a1 x.a.opens.length c1) (.slice a2 x.a.early.length c2) (.slice a3 x.b.opens.length c3) (.slice a4 x.b.early.length c4) (.slice a5 x.fly.length c5)) hw (by simp [lineV, lineCells]) rfl (by simp [lineCells]) fun p H1 hp => ?_
  refine w_mk hp.same.wf' fun t H2 ht => ?_
  refine w_mk ht.same.wf' fun u H3 hu => ?_
  simp
  refine w_mk hu.same.wf' fun hh H4 hhm => ?_
  have np := hp.new
  have np' := hp.next
  have nt := ht.new
  have nt' := ht.next
  have nu := hu.new
  have nu' := hu.next
  have nh := hhm.new
  have nh' := hhm.next
  have hs14 := (ht.same.trans hu.same).trans hhm.same
  have hs04 := hp.same.trans hs14
  have ht4 := (ht.obj.same hu.same).same hhm.same
  have hu4 := hu.obj.same hhm.same
  have hh4 := hhm.obj
  have hp4 := hp.obj.same hs14
  have ldp := fun off n => Obj1.load (C := ctxW w) (off := off) (n := n) hp4
  have hx4 : LineR (ctxW w) H4 x (lineV x.a.last (.slice a1 x.a.opens.length c1) x.a.got (.slice a2 x.a.early.length c2) x.b.last (.slice a3 x.b.opens.length c3) x.b.got (.slice a4 x.b.early.length c4) (.slice a5 x.fly.length c5)) := ⟨_, _, _, _, _, rfl, h1.same hs04, h2.same hs04, h3.same hs04, h4.same hs04, h5.same hs04⟩
  simp [ldp, lineCells]
  have hcall := isLine_spec w hs04.wf' hx4 (by have := hsm.1.2.1; have := hsm.2.1.2.1; omega)
  simp only [lineV] at hcall
  refine wpCall_mono hcall ?_
  rintro _ H5 ⟨hs5, b5, rfl, hb5⟩
  have hs05 := hs04.trans hs5
  have n5 := hs5.grow.next
  have ht5 := ht4.same hs5
  have hu5 := hu4.same hs5
  have hh5 := hh4.same hs5
  cases b5 with
  | false =>
    have hok : ¬ LineOK x := fun h => by simpa using hb5.2 h
    have ldh := fun off n => Obj1.load (C := ctxW w) (off := off) (n := n) hh5
    have f1 : free (ctxW w) (.exp [hh] []) (.exp [t] [t]) = true := free_rd_mod fun y hy => by simp at hy; omega
    simp [ldh]
    refine d_store (p := t) (off := 0) (xs := [.int .i64 0, .slice none 0 0, .int .i64 0, .slice none 0 0, .int .i64 0, .slice none 0 0, .int .i64 0, .slice none 0 0, .slice none 0 0]) hs05.wf' (by simp [f1]) ht5 (by simp) (by simp) rfl (by simp) (by simp) (by simp) fun H6 hm6 hn6 ho6 => ?_
    simp
    refine d_store (p := u) (off := 0) (xs := [.slice none 0 0, .slice none 0 0]) hm6.wf' (by simp) (hu5.mod hm6 (by omega)) (by simp) (by simp) (by simp) (by simp) (by simp) (by simp) fun H7 hm7 hn7 ho7 => ?_
    have ldt := fun off n => Obj1.load (C := ctxW w) (off := off) (n := n) (ho6.mod hm7 (by omega))
    have ldu := fun off n => Obj1.load (C := ctxW w) (off := off) (n := n) ho7
    simp [ldt, ldu]
    exact ⟨(hs05.then_mod hm6 (by omega)).then_mod hm7 (by omega), ⟨zeroL, [], []⟩, _, _, _, _, rfl, (LineO.zero (lo := 0)).r, Frs.nil _ _, Frs.nil _ _, by simp, by simp, lineS_zero, .inr ⟨hok, rfl, rfl⟩⟩
  | true =>
    have hok := hb5.1 rfl
    have hp5 := hp4.same hs5
    have ldp5 := fun off n => Obj1.load (C := ctxW w) (off := off) (n := n) hp5
    simp [ldp5, lineCells]
    have hcall := copyLine_spec w hs05.wf' (hx4.same hs5) hsm
    simp only [lineV] at hcall
    refine wpCall_mono hcall ?_
    rintro r6 H6 ⟨hs6, hn6⟩
    have n6 := hs6.grow.next
    obtain ⟨m1, m2, p0, p1, p2, p3, p4, rfl, l1, l2, l3, ⟨mid0, _, _, z0, b1, b2, b3, b4⟩, ⟨mid1, _, _, z1, d1, d2, d3, d4⟩, i4⟩ := hn6
    simp only [endV, Value.agg.injEq, Array.mk.injEq, List.cons.injEq] at z0 z1
    obtain ⟨_, rfl, _, rfl, _⟩ := z0
    obtain ⟨_, rfl, _, rfl, _⟩ := z1
    obtain ⟨u1, v1, rfl⟩ := b3.its.val
    obtain ⟨u2, v2, rfl⟩ := b4.its.val
    obtain ⟨u3, v3, rfl⟩ := d3.its.val
    obtain ⟨u4, v4, rfl⟩ := d4.its.val
    obtain ⟨u5, v5, rfl⟩ := i4.its.val
    simp [lineV]
    refine w_mk hs6.wf' fun o H7 ho => ?_
    have no := ho.new
    have no' := ho.next
    refine w_store (p := o) (off := 0) (xs := lineCells x (.slice u1 x.a.opens.length v1) (.slice u2 x.a.early.length v2) (.slice u3 x.b.opens.length v3) (.slice u4 x.b.early.length v4) (.slice u5 x.fly.length v5)) ho.same.wf' ho.obj (by simp) (by simp [lineCells]) rfl (by simp) (by simp) (by simp [lineCells]) fun H8 hm8 hn8 ho8 => ?_
    simp [lineCells] at ho8
    have hs68 : Same H6 H8 := ho.same.then_mod hm8 (by omega)
    have hs58 := hs6.trans hs68
    have hs08 := hs05.trans hs58
    have n8 := hm8.grow.next
    obtain ⟨col0, hcol0⟩ : ∃ col0 : Nat → Nat, col0 = fun b => if b = t ∨ b = u then 13 else if b = hh then 9 else if b = o then 7 else if b < H5.next then 14 else 0 := ⟨_, rfl⟩
    have hct : col0 t = 13 := by rw [hcol0]; simp
    have hcu : col0 u = 13 := by rw [hcol0]; simp
    have hch : col0 hh = 9 := by rw [hcol0]; dsimp only; rw [if_neg (by omega), if_pos rfl]
    have hco : col0 o = 7 := by rw [hcol0]; dsimp only; rw [if_neg (by omega), if_neg (by omega), if_pos rfl]
    have hc0 : ∀ b, H5.next ≤ b → b ≠ o → col0 b = 0 := fun b hb hbo => by rw [hcol0]; dsimp only; rw [if_neg (by omega), if_neg (by omega), if_neg hbo, if_neg (by omega)]
    have hb0 : Bare col0 H8 := fun b hb => hc0 b (by omega) (by omega)
    have hcn : ∀ b, b < H5.next → b ≠ t → b ≠ u → b ≠ hh → col0 b = 14 := fun b hb k1 k2 k3 => by rw [hcol0]; dsimp only; rw [if_neg (by omega), if_neg k3, if_neg (by omega), if_pos hb]
    have RW0 : RWork (ctxW w) H8 col0 o hh ⟨x, [], []⟩ := ⟨_, _, _, _, _, _, _, ⟨by simpa [lineCells] using ho8, hco, ⟨b3.pits hs68 fun b k1 k2 => hc0 b (by omega) (by omega), b4.pits hs68 fun b k1 k2 => hc0 b (by omega) (by omega), d3.pits hs68 fun b k1 k2 => hc0 b (by omega) (by omega), d4.pits hs68 fun b k1 k2 => hc0 b (by omega) (by omega), i4.pits hs68 fun b k1 k2 => hc0 b (by omega) (by omega)⟩, hh5.same hs58, hch, WRow.nil _ _ _ _, WRow.nil _ _ _ _⟩⟩
    simp
    refine wp_loop' (fun n s => ∃ (T : Env) (Hc : AHeap) (i : Nat) (col : Nat → Nat) (z : LineW), s = ⟨T, Hc, []⟩ ∧ n = acts.length - i ∧ i ≤ acts.length ∧ T.val 1 = .slice aa acts.length ac ∧ T.val 4 = .pointer (some ⟨t, 0, none⟩) ∧ T.val 5 = .pointer (some ⟨u, 0, none⟩) ∧ T.val 7 = .pointer (some ⟨hh, 0, none⟩) ∧ T.val 8 = .pointer (some ⟨o, 0, none⟩) ∧ T.val 9 = .int .i64 i ∧
      Step allR H8 col0 Hc col ∧ RWork (ctxW w) Hc col o hh z ∧ LineOK z.x ∧ z.h0.length ≤ 8 * i ∧ z.h1.length ≤ 8 * i ∧ playW ⟨x, [], []⟩ acts = playW z (acts.drop i)) (n := acts.length)
      ⟨_, H8, 0, col0, ⟨x, [], []⟩, rfl, rfl, Nat.zero_le _, by simp, by simp, by simp, by simp, by simp, by simp, Step.of_same (Same.refl hs08.wf') hb0, RW0, hok, by simp, by simp, by simp⟩ ?_
    rintro n s K ⟨T, Hc, i, col, z, rfl, rfl, hi, t1, t4, t5, t7, t8, t9, st, W, hzok, k0, k1, hpl⟩ hnext hexit
    obtain ⟨q0, q1, q2, q3, q4, s0, s1, W0⟩ := W
    obtain ⟨y1, w1, rfl⟩ := W0.ln.i0.val
    obtain ⟨y2, w2, rfl⟩ := W0.ln.i1.val
    obtain ⟨y3, w3, rfl⟩ := W0.ln.i2.val
    obtain ⟨y4, w4, rfl⟩ := W0.ln.i3.val
    obtain ⟨y5, w5, rfl⟩ := W0.ln.i4.val
    obtain ⟨sa0, sc0, rfl⟩ := W0.r0.val
    obtain ⟨sa1, sc1, rfl⟩ := W0.r1.val
    have ldo := fun off n => Obj1.load (C := ctxW w) (off := off) (n := n) W0.obj
    have hctc : col t = 13 := by rw [st.keep t (by omega)]; exact hct
    have hcuc : col u = 13 := by rw [st.keep u (by omega)]; exact hcu
    have hto : t ≠ o := by intro h; have := W0.c7; rw [← h, hctc] at this; omega
    have hth : t ≠ hh := by intro h; have := W0.c9; rw [← h, hctc] at this; omega
    have n8c := st.grow.next
    have hlow : Same H Hc := by
      refine ⟨hw, hs08.grow.trans st.grow, fun b hb => ?_⟩
      rw [st.same b (by have := hs08.grow.next; omega) (by rw [hcn b (by have := hs05.grow.next; omega) (by omega) (by omega) (by omega)]; simp [allR]), hs08.same b hb]
    have f1 : free (ctxW w) (.exp [o] []) (.exp [t] [t]) = true := free_rd_mod fun y hy => by simp at hy; omega
    have f2 : free (ctxW w) (.exp [hh] []) (.exp [t] [t]) = true := free_rd_mod fun y hy => by simp at hy; omega
    by_cases hlt : i < acts.length
    · have e1 : (i : Int) < acts.length := by omega
      obtain ⟨b, da, dc, rfl, j1, hb⟩ := hA.at hlt
      have hblt := load_lt hw j1
      simp at hblt
      have j1c := loadN_same hlow j1
      simp only [actC] at j1c
      simp [t1, t8, t9, e1, j1c, ldo, lineCells]
      have hcall := hears_spec w st.wf' W0.ln.r (by have := hzok.2.2.1; omega) (a := acts[i]) (da := da) (dl := acts[i].data.length) (dc := dc)
      simp only [lineV, actV] at hcall
      refine wpCall_mono hcall ?_
      rintro _ H9 ⟨hs9, rfl⟩
      obtain ⟨tt, htt, httl⟩ := hears_is hzok acts[i]
      rw [htt]
      have htt2 : (tt : Int) < 2 := by omega
      have n9 := hs9.grow.next
      have s9 : Step [] Hc col H9 col := Step.of_same hs9 st.bare
      have W9 := W0.step s9 (by simp)
      have ldo9 := fun off n => Obj1.load (C := ctxW w) (off := off) (n := n) W9.obj
      have j1d := loadN_same hs9 j1c
      simp [t1, t8, t9, e1, j1d, ldo9, lineCells]
      have hs09 := hlow.trans hs9
      have hcall := refDo_spec w s9.wf' W9.ln.r (lineS_ok hzok) (a := acts[i]) (da := da) (dc := dc) (hb.same hs09)
      simp only [lineV, actV] at hcall
      refine wpCall_mono hcall ?_
      rintro _ H10 ⟨hs10, lv, fv, rfl, hlv, hfv⟩
      obtain ⟨d1, d2, d3⟩ := doW_doF hzok acts[i]
      have hdk := doW_ok hzok acts[i]
      have hdh := doW_h hzok acts[i]
      have hFl := doF_len z.x acts[i]
      have hstep : playW z (acts.drop i) = if (doW z acts[i]).2 = 0 then playW (doW z acts[i]).1 (acts.drop (i + 1)) else (z, (doW z acts[i]).2) := by
        rw [List.drop_eq_getElem_cons hlt, playW_cons]
      obtain ⟨X, hX⟩ : ∃ X, X = (doF z.x acts[i]).1 := ⟨_, rfl⟩
      obtain ⟨F, hF⟩ : ∃ F, F = (doF z.x acts[i]).2.1 := ⟨_, rfl⟩
      rw [← hX] at hlv d3
      rw [← hF] at hfv d3 hFl
      rw [htt] at d3
      rw [d1]
      have n10 := hs10.grow.next
      have s10 : Step [] H9 col H10 col := Step.of_same hs10 s9.bare
      obtain ⟨p0, p1, p2, p3, p4, rfl, PL⟩ := hlv.pline (col := col) (fun b hb => s9.bare b hb)
      have hW10 := FrO.w (col := col) hfv (fun b hb => s9.bare b hb)
      obtain ⟨x0, r0, rfl⟩ := PL.i0.val
      obtain ⟨x1, r1, rfl⟩ := PL.i1.val
      obtain ⟨x2, r2, rfl⟩ := PL.i2.val
      obtain ⟨x3, r3, rfl⟩ := PL.i3.val
      obtain ⟨x4, r4, rfl⟩ := PL.i4.val
      obtain ⟨fa, fc, rfl⟩ := hfv.frs.val
      have holt := W0.obj.lt st.wf'
      have hnh := hlow.grow.next
      have g1 : free (ctxW w) (.call H9 H10) (.exp [] [H10.next]) = true := free_call_new (Nat.le_refl _)
      have g2 : Nat.beq H10.next b.block = false := nbeq' (by omega)
      have g3 : Nat.beq H10.next o = false := nbeq' (by omega)
      simp [lineV]
      refine d_mk s10.wf' (by simp [g1, g2, g3]) fun t11 H11 ht11 => ?_
      have n11 := ht11.new
      have n11' := ht11.next
      simp
      refine d_store (p := t11) (off := 0) (xs := lineCells X (.slice x0 X.a.opens.length r0) (.slice x1 X.a.early.length r1) (.slice x2 X.b.opens.length r2) (.slice x3 X.b.early.length r3) (.slice x4 X.fly.length r4)) ht11.same.wf' rfl ht11.obj (by simp) (by simp [lineCells]) rfl (by simp) (by simp) (by simp [lineCells]) fun H12 hm12 hn12 ho12 => ?_
      simp [lineCells] at ho12
      have hs1012 : Same H10 H12 := ht11.same.then_mod hm12 (by omega)
      have s1012 : Step [] H10 col H12 col := Step.of_same hs1012 s10.bare
      have s12 : Step [] Hc col H12 col := (s9.trans s10).trans s1012
      have W12 := W0.step s12 (by simp)
      have PL12 := PL.step s1012 (by simp)
      by_cases h0 : (doW z acts[i]).2 = 0
      · rw [if_pos h0] at hstep
        have ld11 := fun off n => Obj1.load (C := ctxW w) (off := off) (n := n) ho12
        simp [h0, ld11]
        refine w_store (p := o) (off := 0) (xs := lineCells X (.slice x0 X.a.opens.length r0) (.slice x1 X.a.early.length r1) (.slice x2 X.b.opens.length r2) (.slice x3 X.b.early.length r3) (.slice x4 X.fly.length r4)) s12.wf' W12.obj (by simp [t8]) (by simp [lineCells]) (by simp [lineCells]) (by simp) (by simp [lineCells]) (by simp [lineCells]) fun H13 hm13 hn13 ho13 => ?_
        have s13 : Step [7] H12 col H13 col := Step.of_mod hm13 s12.bare (by rw [W12.c7]; simp)
        have W13 := W12.setL s13 (X := X) (by simpa [lineCells] using ho13) PL12
        obtain ⟨ldh, wr⟩ := W13.at httl
        have hW13 := (hW10.step s1012 (by simp)).step s13 (by simp)
        have hhl : (heardW ⟨X, z.h0, z.h1⟩ tt).length ≤ 50000 := by
          unfold heardW
          split <;> (dsimp only; omega)
        obtain ⟨sa, sc, hsv⟩ := wr.val
        simp [t7, htt2, ldh]
        refine w_appH (k := 10 + tt) (l := heardW ⟨X, z.h0, z.h1⟩ tt) (fr := F) s13.wf' s13.bare (by omega) (by simpa using wr) (by simpa using hW13) (by simp [roomy]; omega) fun v5 H14 col14 st14 w14 => ?_
        obtain ⟨ya, yc, rfl⟩ := w14.val
        have hob14 := Obj1.step st14 W13.hob (by rw [W13.c9]; simp; omega)
        have hc9 : col14 hh = 9 := by rw [st14.keep hh (W13.hob.lt s13.wf')]; exact W13.c9
        simp [t7, htt2]
        refine w_store (p := hh) (off := tt) (xs := [.slice ya (heardW ⟨X, z.h0, z.h1⟩ tt ++ F).length yc]) st14.wf' hob14 (by simp) (by simp) (by simp) (by simp) (by simp; omega) (by simp) fun H15 hm15 hn15 ho15 => ?_
        have st15 : Step [9] H14 col14 H15 col14 := Step.of_mod hm15 st14.bare (by rw [hc9]; simp)
        have W15 := W13.setH httl st14 w14 st15 (by simpa using ho15)
        dsimp only at W15
        rw [hearF_x, ← d3 h0] at W15
        simp [t9]
        have stA : Step allR Hc col H15 col14 := (((s12.more (by simp)).trans (s13.more (by simp [allR]))).trans (st14.more (fun c hc => by simp at hc; subst hc; rcases two httl with rfl | rfl <;> simp [allR]))).trans (st15.more (by simp [allR]))
        exact hnext (acts.length - (i + 1)) _ (by omega) ⟨_, H15, i + 1, col14, (doW z acts[i]).1, rfl, rfl, by omega, by simp [t1], by simp [t4], by simp [t5], by simp [t7], by simp [t8], by simp; rw [i64_in _ (by omega)], st.trans stA, W15, hdk, by omega, by omega, hpl.trans hstep⟩
      · rw [if_neg h0] at hstep
        have ldo12 := fun off n => Obj1.load (C := ctxW w) (off := off) (n := n) W12.obj
        have ldh12 := fun off n => Obj1.load (C := ctxW w) (off := off) (n := n) W12.hob
        have st12' : Step allR H8 col0 H12 col := st.trans (s12.more (by simp))
        have htc := Obj1.step st12' ((ht5.same hs58)) (by rw [hct]; simp [allR])
        have huc := Obj1.step st12' ((hu5.same hs58)) (by rw [hcu]; simp [allR])
        simp [h0, t7, t8, ldo12, ldh12, lineCells]
        refine d_store (p := t) (off := 0) (xs := lineCells z.x (.slice y1 z.x.a.opens.length w1) (.slice y2 z.x.a.early.length w2) (.slice y3 z.x.b.opens.length w3) (.slice y4 z.x.b.early.length w4) (.slice y5 z.x.fly.length w5)) s12.wf' (by simp [f1, f2]) htc (by simp [t4]) (by simp [lineCells]) (by simp [lineCells]) (by simp) (by simp) (by simp [lineCells]) fun H13 hm13 hn13 ho13 => ?_
        simp
        refine d_store (p := u) (off := 0) (xs := [.slice sa0 z.h0.length sc0, .slice sa1 z.h1.length sc1]) hm13.wf' (by simp) (huc.mod hm13 (by omega)) (by simp [t5]) (by simp) (by simp) (by simp) (by simp) (by simp) fun H14 hm14 hn14 ho14 => ?_
        simp [lineCells] at ho13
        simp at ho14
        have ldt := fun off n => Obj1.load (C := ctxW w) (off := off) (n := n) (ho13.mod hm14 (by omega))
        have ldu := fun off n => Obj1.load (C := ctxW w) (off := off) (n := n) ho14
        simp [t4, t5, ldt, ldu]
        refine hexit _ _ (by simp) ?_
        simp [t4, t5, ldt, ldu]
        have s13 : Step [13] H12 col H13 col := Step.of_mod hm13 s12.bare (by rw [hctc]; simp)
        have s14 : Step [13] H12 col H14 col := s13.trans (Step.of_mod hm14 s13.bare (by rw [hcuc]; simp))
        have hlow12 : Same H H12 := (hs09.trans hs10).trans hs1012
        exact ⟨(hlow12.then_mod hm13 (by omega)).then_mod hm14 (by omega), z, _, _, _, _, rfl, (W12.ln.step s14 (by simp)).r, (W12.r0.step s14 (by simp) (by simp)).frs, (W12.r1.step s14 (by simp) (by simp)).frs, by omega, by omega, lineS_ok hzok, .inl ⟨hok, hpl.trans hstep⟩⟩
    · have : i = acts.length := by omega
      subst this
      simp [t1, t9]
      refine hexit _ _ (by simp) ?_
      have ldh := fun off n => Obj1.load (C := ctxW w) (off := off) (n := n) W0.hob
      have htc := Obj1.step st ((ht5.same hs58)) (by rw [hct]; simp [allR])
      have huc := Obj1.step st ((hu5.same hs58)) (by rw [hcu]; simp [allR])
      simp [t7, t8, ldo, ldh, lineCells]
      refine d_store (p := t) (off := 0) (xs := lineCells z.x (.slice y1 z.x.a.opens.length w1) (.slice y2 z.x.a.early.length w2) (.slice y3 z.x.b.opens.length w3) (.slice y4 z.x.b.early.length w4) (.slice y5 z.x.fly.length w5)) st.wf' (by simp [f1, f2]) htc (by simp [t4]) (by simp [lineCells]) (by simp [lineCells]) (by simp) (by simp) (by simp [lineCells]) fun H9 hm9 hn9 ho9 => ?_
      simp
      refine d_store (p := u) (off := 0) (xs := [.slice sa0 z.h0.length sc0, .slice sa1 z.h1.length sc1]) hm9.wf' (by simp) (huc.mod hm9 (by omega)) (by simp [t5]) (by simp) (by simp) (by simp) (by simp) (by simp) fun H10 hm10 hn10 ho10 => ?_
      simp [lineCells] at ho9
      simp at ho10
      have ldt := fun off n => Obj1.load (C := ctxW w) (off := off) (n := n) (ho9.mod hm10 (by omega))
      have ldu := fun off n => Obj1.load (C := ctxW w) (off := off) (n := n) ho10
      simp [t4, t5, ldt, ldu]
      have s9 : Step [13] Hc col H9 col := Step.of_mod hm9 st.bare (by rw [hctc]; simp)
      have s10 : Step [13] Hc col H10 col := s9.trans (Step.of_mod hm10 s9.bare (by rw [hcuc]; simp))
      exact ⟨(hlow.then_mod hm9 (by omega)).then_mod hm10 (by omega), z, _, _, _, _, rfl, (W0.ln.step s10 (by simp)).r, (W0.r0.step s10 (by simp) (by simp)).frs, (W0.r1.step s10 (by simp) (by simp)).frs, by omega, by omega, lineS_ok hzok, .inl ⟨hok, by rw [hpl, List.drop_length]; rfl⟩⟩
end Go.Ai.Wire
