/-
  'Play' of the program.
-/
import Derived.Test.YtlikgpehalhgkaaGreatPP0
import Derived.Test.YtlikgpehalhgkaaGreatPR8
namespace Go.Ai.Wire
open Go.Proofs Go.IntWalk
attribute [local irreducible] Trie.put

def PlayRes (C : Ctx) (H : AHeap) (x : LineA) (acts : List ActA) (r : Value) (H' : AHeap) : Prop := Same H H' ∧ ∃ z lv g0 g1 e, r = .tuple #[lv, .agg #[g0, g1], .int .i64 e] ∧ LineR C H' z.x lv ∧ Frs C H' g0 z.h0 ∧ Frs C H' g1 z.h1 ∧ z.h0.length ≤ 4000 ∧ z.h1.length ≤ 4000 ∧ LineS z.x ∧ ((LineOK x ∧ playW ⟨x, [], []⟩ acts = (z, e)) ∨ (¬ LineOK x ∧ e = 4 ∧ z = ⟨zeroL, [], []⟩))

theorem playW_cons {y : LineW} {a : ActA} {l : List ActA} : playW y (a :: l) = if (doW y a).2 = 0 then playW (doW y a).1 l else (y, (doW y a).2) := rfl

set_option maxHeartbeats 4000000 in
theorem wirePlay_spec (w : World) {H : AHeap} (hw : WF H) {x : LineA} {v av : Value} {acts : List ActA} (hx : LineR (ctxW w) H x v) (hsm : LineS x) (hA : Acts (ctxW w) H av acts) (hl : acts.length ≤ 60) : wpCall (ctxW w) (.func (.func 8) #[] #[]) [v, av] H (PlayRes (ctxW w) H x acts) := by
  obtain ⟨o0, e0, o1, e1, f, rfl, h1, h2, h3, h4, h5⟩ := hx
  obtain ⟨a1, c1, rfl⟩ := h1.val
  obtain ⟨a2, c2, rfl⟩ := h2.val
  obtain ⟨a3, c3, rfl⟩ := h3.val
  obtain ⟨a4, c4, rfl⟩ := h4.val
  obtain ⟨a5, c5, rfl⟩ := h5.val
  obtain ⟨aa, ac, rfl⟩ := hA.val
  refine wpCall_fn rfl (get8 w) ?_
  simp [ir8]
  refine w_box (cs := lineCells x (.slice a1 x.a.opens.length c1) (.slice a2 x.a.early.length c2) (.slice a3 x.b.opens.length c3) (.slice a4 x.b.early.length c4) (.slice a5 x.fly.length c5)) hw (by simp [lineV, lineCells]) rfl (by simp [lineCells]) fun p H1 hp => ?_
  refine w_mk hp.same.wf' fun t H2 ht => ?_
  refine w_mk ht.same.wf' fun u H3 hu => ?_
  have hs02 := hp.same.trans ht.same
  have hs03 := hs02.trans hu.same
  have np := hp.new
  have np' := hp.next
  have nt := ht.new
  have nt' := ht.next
  have nu := hu.new
  have nu' := hu.next
  have ldp := fun off n => Obj1.load (C := ctxW w) (off := off) (n := n) ((hp.obj.same ht.same).same hu.same)
  simp [ldp, lineCells]
  obtain ⟨col0, hcol0⟩ : ∃ col0 : Nat → Nat, col0 = fun b => if b = t ∨ b = u then 13 else if b < H3.next then 14 else 0 := ⟨_, rfl⟩
  have hb0 : Bare col0 H3 := fun b hb => by rw [hcol0]; dsimp only; rw [if_neg (by omega), if_neg (by omega)]
  have hct0 : col0 t = 13 := by rw [hcol0]; simp
  have hcu0 : col0 u = 13 := by rw [hcol0]; simp
  have hcn : ∀ b, b ≠ t → b ≠ u → b < H3.next → col0 b = 14 := fun b h1 h2 hl => by rw [hcol0]; dsimp only; rw [if_neg (by omega), if_pos hl]
  refine wpCall_mono (openLineW_spec w hs03.wf' (col := col0) hb0 (x := x) ⟨_, _, _, _, _, rfl, h1.same hs03, h2.same hs03, h3.same hs03, h4.same hs03, h5.same hs03⟩ hsm) ?_
  rintro r4 H4 (⟨hok, q, col4, rfl, hs4, st4, W4⟩ | ⟨hok, hs4, rfl⟩)
  rotate_left
  · have hs04 := hs03.trans hs4
    have n4 := hs4.grow.next
    simp
    refine w_store (p := t) (off := 0) (xs := [.int .i64 0, .slice none 0 0, .int .i64 0, .slice none 0 0, .int .i64 0, .slice none 0 0, .int .i64 0, .slice none 0 0, .slice none 0 0]) hs04.wf' ((ht.obj.same hu.same).same hs4) (by simp) (by simp) rfl (by simp) (by simp) (by simp) fun H6 hm6 hn6 ho6 => ?_
    simp
    refine w_store (p := u) (off := 0) (xs := [.slice none 0 0, .slice none 0 0]) hm6.wf' ((hu.obj.same hs4).mod hm6 (by omega)) (by simp) (by simp) (by simp) (by simp) (by simp) (by simp) fun H7 hm7 hn7 ho7 => ?_
    have ldt := fun off n => Obj1.load (C := ctxW w) (off := off) (n := n) (ho6.mod hm7 (by omega))
    have ldu := fun off n => Obj1.load (C := ctxW w) (off := off) (n := n) ho7
    simp [ldt, ldu]
    exact ⟨(hs04.then_mod hm6 (by omega)).then_mod hm7 (by omega), ⟨zeroL, [], []⟩, _, _, _, _, rfl, (LineO.zero (lo := 0)).r, Frs.nil _ _, Frs.nil _ _, by simp, by simp, lineS_zero, .inr ⟨hok, rfl, rfl⟩⟩
  · simp
    refine wp_loop' (fun n s => ∃ (T : Env) (Hc : AHeap) (i : Nat) (col : Nat → Nat) (z : LineW), s = ⟨T, Hc, []⟩ ∧ n = acts.length - i ∧ i ≤ acts.length ∧ T.val 4 = .pointer (some ⟨t, 0, none⟩) ∧ T.val 5 = .pointer (some ⟨u, 0, none⟩) ∧ T.val 7 = .pointer (some ⟨q, 0, none⟩) ∧ T.val 22 = .slice aa acts.length ac ∧ T.val 23 = .int .i64 acts.length ∧ T.val 24 = .int .i64 i ∧
      Step allC H3 col0 Hc col ∧ WLine (ctxW w) Hc col q z ∧ LineOK z.x ∧ z.h0.length ≤ 8 * i ∧ z.h1.length ≤ 8 * i ∧ playW ⟨x, [], []⟩ acts = playW z (acts.drop i)) (n := acts.length)
      ⟨_, H4, 0, col4, ⟨x, [], []⟩, rfl, rfl, Nat.zero_le _, by simp, by simp, by simp, by simp, by simp, by simp, st4.more (by simp), W4, hok, by simp, by simp, by simp⟩ ?_
    rintro n s K ⟨T, Hc, i, col, z, rfl, rfl, hi, t4, t5, t7, t22, t23, t24, st, W, hzok, l0, l1, hpl⟩ hnext hexit
    have n3c := st.grow.next
    have hlow : Same H Hc := by
      refine ⟨hw, hs03.grow.trans st.grow, fun b hb => ?_⟩
      rw [st.same b (by omega) (by rw [hcn b (by omega) (by omega) (by omega)]; simp [allC]), hs03.same b hb]
    by_cases hlt : i < acts.length
    · have e1 : (i : Int) < acts.length := by omega
      obtain ⟨b, da, dc, rfl, k1, hb⟩ := hA.at hlt
      have k1c := loadN_same hlow k1
      simp only [actC] at k1c
      simp [t22, t23, t24, e1, k1c]
      refine w_mk st.wf' fun t10 H5 ht10 => ?_
      have n10 := ht10.new
      have n10' := ht10.next
      refine w_store (p := t10) (off := 0) (xs := actC acts[i] (.slice da acts[i].data.length dc)) ht10.same.wf' ht10.obj (by simp) (by simp [actC]) (by simp [actC]) (by simp) (by simp) (by simp [actC]) fun H6 hm6 hn6 ho6 => ?_
      simp [actC] at ho6
      have hsc6 : Same Hc H6 := ht10.same.then_mod hm6 (by omega)
      have st6 : Step [] Hc col H6 col := Step.of_same hsc6 st.bare
      obtain ⟨qa, qb, fv, s0, s1, W0⟩ := W
      have W6 := W0.step st6 (by simp)
      have ld6 := fun off n => Obj1.load (C := ctxW w) (off := off) (n := n) ho6
      simp [t7, ld6]
      have hcall := do_spec w st6.wf' st6.bare ⟨_, _, _, _, _, W6⟩ (smallOK hzok (by omega) (by omega)) (a := acts[i]) (hb.same (hlow.trans hsc6)) (fun b' hb' hn => by
        subst hb'
        obtain ⟨_, a', c', he, _, hld⟩ := hb
        cases he
        have hblt := load_lt hw (hld b' rfl (by simpa using hn))
        have := hs03.grow.next
        rw [st.keep _ (by omega), hcn _ (by omega) (by omega) (by omega)]
        simp [allC])
      simp only [actV] at hcall
      refine wpCall_mono hcall ?_
      rintro _ H7 ⟨col7, st7, W7, rfl⟩
      obtain ⟨d1, d2, d3⟩ := doW_doF hzok acts[i]
      have hdk := doW_ok hzok acts[i]
      have hdh := doW_h hzok acts[i]
      have hstep : playW z (acts.drop i) = if (doW z acts[i]).2 = 0 then playW (doW z acts[i]).1 (acts.drop (i + 1)) else (z, (doW z acts[i]).2) := by
        rw [List.drop_eq_getElem_cons hlt, playW_cons]
      have st7' : Step allC H3 col0 H7 col7 := (st.trans (st6.more (by simp))).trans st7
      by_cases h0 : (doW z acts[i]).2 = 0
      · rw [if_pos h0] at hstep
        simp [h0, t24]
        refine hnext (acts.length - (i + 1)) _ (by omega) ⟨_, H7, i + 1, col7, (doW z acts[i]).1, rfl, rfl, by omega, by simp [t4], by simp [t5], by simp [t7], by simp [t22], by simp [t23], by simp; rw [i64_in _ (by omega)], st7', W7, hdk, by omega, by omega, hpl.trans hstep⟩
      · rw [if_neg h0] at hstep
        simp [h0, t7]
        rw [d2 h0] at W7
        refine wpCall_mono (plain_spec w st7'.wf' W7 (lineS_ok hzok)) ?_
        rintro r8 H8 ⟨hs8, hl8⟩
        obtain ⟨qa', qb', fv', s0', s1', WW⟩ := W7
        obtain ⟨sa0, sc0, rfl⟩ := WW.r0.val
        obtain ⟨sa1, sc1, rfl⟩ := WW.r1.val
        have W8 := WW.obj.same hs8
        have ldq := fun off n => Obj1.load (C := ctxW w) (off := off) (n := n) W8
        have f1 : free (ctxW w) (.call H7 H8) (.exp [q] []) = true := free_call_rd (eqbW w) hs8 (by simp; obtain ⟨e, h⟩ := WW.obj; rw [h]; simp)
        have hctc : col7 t = 13 := by rw [st7'.keep t (by omega)]; exact hct0
        have hcuc : col7 u = 13 := by rw [st7'.keep u (by omega)]; exact hcu0
        have htq : t ≠ q := by intro h; have := WW.c7; rw [← h, hctc] at this; omega
        have huq : u ≠ q := by intro h; have := WW.c7; rw [← h, hcuc] at this; omega
        have f2 : free (ctxW w) (.exp [q] []) (.exp [t] [t]) = true := free_rd_mod fun y hy => by simp at hy; omega
        have n3d := st7'.grow.next
        have n8 := hs8.grow.next
        have st8 : Step [] H7 col7 H8 col7 := Step.of_same hs8 st7'.bare
        have st08 : Step allC H3 col0 H8 col7 := st7'.trans (st8.more (by simp))
        have ht8 := Obj1.step st08 (ht.obj.same hu.same) (by rw [hct0]; simp [allC])
        have hu8 := Obj1.step st08 hu.obj (by rw [hcu0]; simp [allC])
        have hl8' := hl8
        obtain ⟨p0, p1, p2, p3, p4, rfl, i0, i1, i2, i3, i4⟩ := hl8'
        obtain ⟨u1, v1, rfl⟩ := i0.its.val
        obtain ⟨u2, v2, rfl⟩ := i1.its.val
        obtain ⟨u3, v3, rfl⟩ := i2.its.val
        obtain ⟨u4, v4, rfl⟩ := i3.its.val
        obtain ⟨u5, v5, rfl⟩ := i4.its.val
        simp [t7, ldq, f1, lineV]
        refine d_store (p := t) (off := 0) (xs := lineCells z.x (.slice u1 z.x.a.opens.length v1) (.slice u2 z.x.a.early.length v2) (.slice u3 z.x.b.opens.length v3) (.slice u4 z.x.b.early.length v4) (.slice u5 z.x.fly.length v5)) st08.wf' (by simp [f2]) ht8 (by simp [t4]) (by simp [lineCells]) (by simp [lineCells]) (by simp) (by simp) (by simp [lineCells]) fun H9 hm9 hn9 ho9 => ?_
        simp [lineCells] at ho9
        simp
        refine d_store (p := u) (off := 0) (xs := [.slice sa0 z.h0.length sc0, .slice sa1 z.h1.length sc1]) hm9.wf' (by simp) (hu8.mod hm9 (by omega)) (by simp [t5]) (by simp) (by simp) (by simp) (by simp) (by simp) fun H10 hm10 hn10 ho10 => ?_
        simp at ho10
        have ho9' := ho9.mod hm10 (by omega)
        have ldt := fun off n => Obj1.load (C := ctxW w) (off := off) (n := n) ho9'
        have ldu := fun off n => Obj1.load (C := ctxW w) (off := off) (n := n) ho10
        simp [t4, t5, ldt, ldu]
        refine hexit _ _ (by simp) ?_
        simp [t4, t5, ldt, ldu]
        have s9 : Step [13] H8 col7 H9 col7 := Step.of_mod hm9 st8.bare (by rw [hctc]; simp)
        have s10 : Step [13] H8 col7 H10 col7 := s9.trans (Step.of_mod hm10 s9.bare (by rw [hcuc]; simp))
        have s8c : Step [13] H7 col7 H10 col7 := (st8.more (by simp)).trans s10
        have R0 := WW.r0.step s8c (by simp) (by simp)
        have R1 := WW.r1.step s8c (by simp) (by simp)
        have hlow8 : Same H H8 := by
          refine ⟨hw, hs03.grow.trans st08.grow, fun b hb => ?_⟩
          rw [st08.same b (by omega) (by rw [hcn b (by omega) (by omega) (by omega)]; simp [allC]), hs03.same b hb]
        have hl9 : LineF (ctxW w) H10 H.next z.x _ := ((hl8.mod hm9 (by omega)).mod hm10 (by omega)).mono (by have := hs03.grow.next; omega)
        exact ⟨(hlow8.then_mod hm9 (by omega)).then_mod hm10 (by omega), z, _, _, _, _, rfl, by simpa [lineV] using hl9.r, R0.frs, R1.frs, by omega, by omega, lineS_ok hzok, .inl ⟨hok, hpl.trans hstep⟩⟩
    · have : i = acts.length := by omega
      subst this
      simp [t23, t24]
      refine hexit _ _ (by simp) ?_
      simp [t7]
      refine wpCall_mono (plain_spec w st.wf' W (lineS_ok hzok)) ?_
      rintro r8 H8 ⟨hs8, hl8⟩
      obtain ⟨qa', qb', fv', s0', s1', WW⟩ := W
      obtain ⟨sa0, sc0, rfl⟩ := WW.r0.val
      obtain ⟨sa1, sc1, rfl⟩ := WW.r1.val
      have W8 := WW.obj.same hs8
      have ldq := fun off n => Obj1.load (C := ctxW w) (off := off) (n := n) W8
      have f1 : free (ctxW w) (.call Hc H8) (.exp [q] []) = true := free_call_rd (eqbW w) hs8 (by simp; obtain ⟨e, h⟩ := WW.obj; rw [h]; simp)
      have hctc : col t = 13 := by rw [st.keep t (by omega)]; exact hct0
      have hcuc : col u = 13 := by rw [st.keep u (by omega)]; exact hcu0
      have htq : t ≠ q := by intro h; have := WW.c7; rw [← h, hctc] at this; omega
      have huq : u ≠ q := by intro h; have := WW.c7; rw [← h, hcuc] at this; omega
      have f2 : free (ctxW w) (.exp [q] []) (.exp [t] [t]) = true := free_rd_mod fun y hy => by simp at hy; omega
      have n3d := st.grow.next
      have n8 := hs8.grow.next
      have st8 : Step [] Hc col H8 col := Step.of_same hs8 st.bare
      have st08 : Step allC H3 col0 H8 col := st.trans (st8.more (by simp))
      have ht8 := Obj1.step st08 (ht.obj.same hu.same) (by rw [hct0]; simp [allC])
      have hu8 := Obj1.step st08 hu.obj (by rw [hcu0]; simp [allC])
      have hl8' := hl8
      obtain ⟨p0, p1, p2, p3, p4, rfl, i0, i1, i2, i3, i4⟩ := hl8'
      obtain ⟨u1, v1, rfl⟩ := i0.its.val
      obtain ⟨u2, v2, rfl⟩ := i1.its.val
      obtain ⟨u3, v3, rfl⟩ := i2.its.val
      obtain ⟨u4, v4, rfl⟩ := i3.its.val
      obtain ⟨u5, v5, rfl⟩ := i4.its.val
      simp [t7, ldq, f1, lineV]
      refine d_store (p := t) (off := 0) (xs := lineCells z.x (.slice u1 z.x.a.opens.length v1) (.slice u2 z.x.a.early.length v2) (.slice u3 z.x.b.opens.length v3) (.slice u4 z.x.b.early.length v4) (.slice u5 z.x.fly.length v5)) st08.wf' (by simp [f2]) ht8 (by simp [t4]) (by simp [lineCells]) (by simp [lineCells]) (by simp) (by simp) (by simp [lineCells]) fun H9 hm9 hn9 ho9 => ?_
      simp [lineCells] at ho9
      simp
      refine d_store (p := u) (off := 0) (xs := [.slice sa0 z.h0.length sc0, .slice sa1 z.h1.length sc1]) hm9.wf' (by simp) (hu8.mod hm9 (by omega)) (by simp [t5]) (by simp) (by simp) (by simp) (by simp) (by simp) fun H10 hm10 hn10 ho10 => ?_
      simp at ho10
      have ho9' := ho9.mod hm10 (by omega)
      have ldt := fun off n => Obj1.load (C := ctxW w) (off := off) (n := n) ho9'
      have ldu := fun off n => Obj1.load (C := ctxW w) (off := off) (n := n) ho10
      simp [t4, t5, ldt, ldu]
      have s9 : Step [13] H8 col H9 col := Step.of_mod hm9 st8.bare (by rw [hctc]; simp)
      have s10 : Step [13] H8 col H10 col := s9.trans (Step.of_mod hm10 s9.bare (by rw [hcuc]; simp))
      have s8c : Step [13] Hc col H10 col := (st8.more (by simp)).trans s10
      have R0 := WW.r0.step s8c (by simp) (by simp)
      have R1 := WW.r1.step s8c (by simp) (by simp)
      have hlow8 : Same H H8 := by
        refine ⟨hw, hs03.grow.trans st08.grow, fun b hb => ?_⟩
        rw [st08.same b (by omega) (by rw [hcn b (by omega) (by omega) (by omega)]; simp [allC]), hs03.same b hb]
      have hl9 : LineF (ctxW w) H10 H.next z.x _ := ((hl8.mod hm9 (by omega)).mod hm10 (by omega)).mono (by have := hs03.grow.next; omega)
      exact ⟨(hlow8.then_mod hm9 (by omega)).then_mod hm10 (by omega), z, _, _, _, _, rfl, by simpa [lineV] using hl9.r, R0.frs, R1.frs, by omega, by omega, lineS_ok hzok, .inl ⟨hok, by rw [hpl, List.drop_length]; rfl⟩⟩
end Go.Ai.Wire
