/-
  'Do' of the reference: the walk.
-/
import Derived.Test.YtlikgpehalhgkaaGreatPR5
namespace Go.Ai.Wire
open Go.Proofs Go.IntWalk
attribute [local irreducible] Trie.put

set_option maxHeartbeats 8000000 in
theorem refDo_spec (w : World) {H : AHeap} (hw : WF H) {x : LineA} {v : Value} (hx : LineR (ctxW w) H x v) (hsm : LineS x) {a : ActA} {da : Option Addr} {dc : Nat} (hd : Bs (ctxW w) H (.slice da a.data.length dc) a.data) :
    wpCall (ctxW w) (.func (.func 19) #[] #[]) [v, actV a (.slice da a.data.length dc)] H (RDoRes (ctxW w) H (doF x a)) := by
  obtain ⟨o0, e0, o1, e1, f, rfl, h1, h2, h3, h4, h5⟩ := hx
  obtain ⟨a1, c1, rfl⟩ := h1.val
  obtain ⟨a2, c2, rfl⟩ := h2.val
  obtain ⟨a3, c3, rfl⟩ := h3.val
  obtain ⟨a4, c4, rfl⟩ := h4.val
  obtain ⟨a5, c5, rfl⟩ := h5.val
  refine wpCall_fn rfl (get19 w) ?_
  simp [ir19]
  refine w_box (cs := lineCells x (.slice a1 x.a.opens.length c1) (.slice a2 x.a.early.length c2) (.slice a3 x.b.opens.length c3) (.slice a4 x.b.early.length c4) (.slice a5 x.fly.length c5)) hw (by simp [lineV, lineCells]) rfl (by simp [lineCells]) fun p H1 hp => ?_
  simp
  refine w_box (cs := actC a (.slice da a.data.length dc)) hp.same.wf' (by simp [actV, actC]) rfl (by simp [actC]) fun p3 H2 hp3 => ?_
  refine w_mk hp3.same.wf' fun t H3 ht => ?_
  have hs02 := hp.same.trans hp3.same
  have hs03 := hs02.trans ht.same
  have np := hp.new
  have np' := hp.next
  have np3 := hp3.new
  have np3' := hp3.next
  have nt := ht.new
  have nt' := ht.next
  have hpo := (hp.obj.same hp3.same).same ht.same
  have hp3o := hp3.obj.same ht.same
  have ldp := fun off n => Obj1.load (C := ctxW w) (off := off) (n := n) hpo
  have hx3 : LineR (ctxW w) H3 x (lineV x.a.last (.slice a1 x.a.opens.length c1) x.a.got (.slice a2 x.a.early.length c2) x.b.last (.slice a3 x.b.opens.length c3) x.b.got (.slice a4 x.b.early.length c4) (.slice a5 x.fly.length c5)) := ⟨_, _, _, _, _, rfl, h1.same hs03, h2.same hs03, h3.same hs03, h4.same hs03, h5.same hs03⟩
  simp [ldp, lineCells]
  have hcall := isLine_spec w hs03.wf' hx3 (by have := hsm.1.2.1; have := hsm.2.1.2.1; omega)
  simp only [lineV] at hcall
  refine wpCall_mono hcall ?_
  rintro _ H4 ⟨hs4, b4, rfl, hb4⟩
  have hs04 := hs03.trans hs4
  have n4 := hs4.grow.next
  have htb : ∀ {Hc : AHeap}, Same H4 Hc → Obj1 Hc t [.int .i64 0, .slice none 0 0, .int .i64 0, .slice none 0 0, .int .i64 0, .slice none 0 0, .int .i64 0, .slice none 0 0, .slice none 0 0] := fun h => (ht.obj.same hs4).same h
  have bad : ∀ (Hc : AHeap) (e : Int), Same H Hc → True := fun _ _ _ => trivial
  cases b4 with
  | false =>
    have hok : ¬ LineOK x := fun h => by simpa using hb4.2 h
    have hz : doF x a = (zeroL, [], 4) := by unfold doF; rw [if_neg hok]
    rw [hz]
    simp
    refine w_store (p := t) (off := 0) (xs := [.int .i64 0, .slice none 0 0, .int .i64 0, .slice none 0 0, .int .i64 0, .slice none 0 0, .int .i64 0, .slice none 0 0, .slice none 0 0]) hs04.wf' (htb (Same.refl hs04.wf')) (by simp) (by simp) rfl (by simp) (by simp) (by simp) fun H6 hm6 hn6 ho6 => ?_
    have ld6 := fun off n => Obj1.load (C := ctxW w) (off := off) (n := n) ho6
    simp [ld6]
    exact ⟨hs04.then_mod hm6 (by omega), _, _, rfl, LineO.zero, FrO.nil⟩
  | true =>
    have hok := hb4.1 rfl
    have ldp4 := fun off n => Obj1.load (C := ctxW w) (off := off) (n := n) (hpo.same hs4)
    have ldp34 := fun off n => Obj1.load (C := ctxW w) (off := off) (n := n) (hp3o.same hs4)
    simp [ldp4, ldp34, lineCells, actC]
    have hcall := refFits_spec w hs04.wf' (x := x) (a := a) (da := da) (dc := dc) (hx3.same hs4) (by have := hok.2.2.1; omega) (fun f hf => by have := (flights_mem.1 hok.2.2.2 f hf).2.2; omega)
    simp only [lineV, actV] at hcall
    refine wpCall_mono hcall ?_
    rintro _ H5 ⟨hs5, b5, rfl, hb5⟩
    have hs05 := hs04.trans hs5
    have n5 := hs5.grow.next
    cases b5 with
    | false =>
      have hf : ¬ FineA x.fly a := fun h => by simpa using hb5.2 h
      have ew : doW ⟨x, [], []⟩ a = (⟨x, [], []⟩, 2) := by unfold doW; rw [if_neg hf]
      have hz : doF x a = (zeroL, [], 2) := by unfold doF; rw [if_pos hok, ew]; rfl
      rw [hz]
      simp
      refine w_store (p := t) (off := 0) (xs := [.int .i64 0, .slice none 0 0, .int .i64 0, .slice none 0 0, .int .i64 0, .slice none 0 0, .int .i64 0, .slice none 0 0, .slice none 0 0]) hs05.wf' (htb hs5) (by simp) (by simp) rfl (by simp) (by simp) (by simp) fun H6 hm6 hn6 ho6 => ?_
      have ld6 := fun off n => Obj1.load (C := ctxW w) (off := off) (n := n) ho6
      simp [ld6]
      exact ⟨hs05.then_mod hm6 (by omega), _, _, rfl, LineO.zero, FrO.nil⟩
    | true =>
      have hf := hb5.1 rfl
      have hdo := doF_fine hok hf
      have ldp5 := fun off n => Obj1.load (C := ctxW w) (off := off) (n := n) ((hpo.same hs4).same hs5)
      have hp35 := (hp3o.same hs4).same hs5
      simp [ldp5, lineCells]
      have hcall := copyLineF_spec w hs05.wf' ((hx3.same hs4).same hs5) hsm
      simp only [lineV] at hcall
      refine wpCall_mono hcall ?_
      rintro r6 H6 ⟨hs6, hnf⟩
      have hnf' := hnf
      obtain ⟨m1, m2, q0, q1, q2, q3, q4, rfl, l1, l2, l3, en1, en2, fly6⟩ := hnf'
      have hln := hnf.n
      obtain ⟨y0, y1, y2, y3, y4, hyv, i0, i1, i2, i3, i4⟩ := hln.r
      simp only [lineV, Value.agg.injEq, Array.mk.injEq, List.cons.injEq] at hyv
      obtain ⟨_, rfl, _, rfl, _, rfl, _, rfl, rfl, _⟩ := hyv
      obtain ⟨u1, v1, rfl⟩ := i0.val
      obtain ⟨u2, v2, rfl⟩ := i1.val
      obtain ⟨u3, v3, rfl⟩ := i2.val
      obtain ⟨u4, v4, rfl⟩ := i3.val
      obtain ⟨u5, v5, rfl⟩ := i4.val
      have n6 := hs6.grow.next
      simp [lineV]
      refine w_mk hs6.wf' fun q H7 hq => ?_
      have nq := hq.new
      have nq' := hq.next
      refine w_store (p := q) (off := 0) (xs := lineCells x (.slice u1 x.a.opens.length v1) (.slice u2 x.a.early.length v2) (.slice u3 x.b.opens.length v3) (.slice u4 x.b.early.length v4) (.slice u5 x.fly.length v5)) hq.same.wf' hq.obj (by simp) (by simp [lineCells]) rfl (by simp) (by simp) (by simp [lineCells]) fun H8 hm8 hn8 ho8 => ?_
      simp [lineCells] at ho8
      have hs68 : Same H6 H8 := hq.same.then_mod hm8 (by omega)
      have hs58 := hs6.trans hs68
      have hs08 := hs05.trans hs58
      obtain ⟨col0, hcol0⟩ : ∃ col0 : Nat → Nat, col0 = fun b => if b = t then 13 else if b < H5.next then 14 else 0 := ⟨_, rfl⟩
      have hb0 : Bare col0 H5 := fun b hb => by rw [hcol0]; dsimp only; rw [if_neg (by omega), if_neg (by omega)]
      have hct0 : col0 t = 13 := by rw [hcol0]; simp
      have hcn : ∀ b, b ≠ t → b < H5.next → col0 b = 14 := fun b hb hl => by rw [hcol0]; dsimp only; rw [if_neg hb, if_pos hl]
      obtain ⟨col8, st8, W8⟩ := LineN.rl' hln hb0 hs58 hs68 (t := q) (by omega) ho8
      have hp38 := hp35.same hs58
      have hc8p : col8 p3 = 14 := by rw [st8.keep p3 (by omega)]; exact hcn _ (by omega) (by omega)
      have hd8 : Bs (ctxW w) H8 (.slice da a.data.length dc) a.data := hd.same hs08
      have ldp38 := fun off n => Obj1.load (C := ctxW w) (off := off) (n := n) hp38
      have ldq8 := fun off n => Obj1.load (C := ctxW w) (off := off) (n := n) ho8
      have fin : ∀ {Hc : AHeap} {colc : Nat → Nat} {z : LineA} {o0 e0 o1 e1 f : Value} {H9 : AHeap}, Step [7, 8] H5 col0 Hc colc → RL (ctxW w) Hc colc q z o0 e0 o1 e1 f → Mod t Hc H9 → Step [13] Hc colc H9 colc ∧ Same H H9 ∧ (∀ b, colc b = 0 → H.next ≤ b) ∧ LineO (ctxW w) H9 H.next z (lineV z.a.last o0 z.a.got e0 z.b.last o1 z.b.got e1 f) := by
        intro Hc colc z o0 e0 o1 e1 f H9 st5c R hm9
        have n5c := st5c.grow.next
        have hct : colc t = 13 := by rw [st5c.keep t (by omega)]; exact hct0
        have s9 : Step [13] Hc colc H9 colc := Step.of_mod hm9 st5c.bare (by rw [hct]; simp)
        have hlow : Same H Hc := by
          refine ⟨hw, hs05.grow.trans st5c.grow, fun b hb => ?_⟩
          rw [st5c.same b (by omega) (by rw [hcn b (by omega) (by omega)]; simp), hs05.same b hb]
        have hfr : ∀ k, k ≠ 13 → k ≠ 14 → ∀ b, colc b = 0 ∨ colc b = k → H.next ≤ b := by
          intro k k1 k2 b hb
          rcases Nat.lt_or_ge b H5.next with h | h
          · rw [st5c.keep b h] at hb
            by_cases hbt : b = t
            · rw [hbt, hct0] at hb; omega
            · rw [hcn b hbt h] at hb; omega
          · omega
        exact ⟨s9, hlow.then_mod hm9 (by omega), fun b hb => hfr 0 (by omega) (by omega) b (.inl hb), ⟨_, _, _, _, _, rfl, (R.i0.step s9 (by simp)).io (fun b hb => hfr 0 (by omega) (by omega) b (.inl hb)), (R.i1.step s9 (by simp)).io (fun b hb => hfr 0 (by omega) (by omega) b (.inl hb)), (R.i2.step s9 (by simp)).io (fun b hb => hfr 0 (by omega) (by omega) b (.inl hb)), (R.i3.step s9 (by simp)).io (fun b hb => hfr 0 (by omega) (by omega) b (.inl hb)), WIts.io (R.fl.step s9 (by simp) (by simp)) (hfr 8 (by omega) (by omega))⟩⟩
      rw [wpO_nil, regK_eq, seqK_normal, wpC_seq]
      refine wpC_mono (Q := fun e s => (e = .normal ∧ ∃ (Hc : AHeap) (colc : Nat → Nat) (z : LineA), s = ⟨s.T, Hc, []⟩ ∧ s.T.val 4 = .pointer (some ⟨t, 0, none⟩) ∧ s.T.val 7 = .pointer (some ⟨q, 0, none⟩) ∧ Step [7, 8] H5 col0 Hc colc ∧ RLine (ctxW w) Hc colc q z ∧ doF x a = (z, [], 0)) ∨
        (e = .ret ∧ finK (ctxW w) [.cellN 4 9, .tmp 5, .tmp 6] (RDoRes (ctxW w) H (doF x a)) e s)) ?_ ?_
      · have hEs : ∀ t', EndS (endL x t') := fun t' => by unfold endL; split; exact hsm.1; exact hsm.2.1
        have hEo : ∀ t', EndOK (endL x t') := fun t' => by unfold endL; split; exact hok.1; exact hok.2.1
        by_cases k1 : a.kind = 1
        · obtain ⟨hfr, hwo, _⟩ := (fine1 k1).1 hf
          obtain ⟨u, hu, hul⟩ : ∃ u : Nat, a.who = u ∧ u ≤ 1 := ⟨a.who.toNat, by have := hwo.1; omega, by have := hwo.2; omega⟩
          have hu2 : (u : Int) < 2 := by omega
          have hut : a.who.toNat = u := by omega
          obtain ⟨ov, ev, ld4, po, pe⟩ := W8.at hul
          obtain ⟨oa, oc, rfl⟩ := po.val
          obtain ⟨ea, ec, rfl⟩ := pe.val
          have hact : actW ⟨x, [], []⟩ a = sayW ⟨x, [], []⟩ u a.data := by unfold actW; rw [if_pos k1, hut]
          rw [hact] at hdo
          simp [ldp38, k1, actC, hu, hu2, ld4]
          have hcall := refSendO_spec w st8.wf' (x := endL x u) ⟨_, _, rfl, po.its, pe.its⟩ (hEs u) hd8
          simp only [endV] at hcall
          refine wpCall_mono hcall ?_
          rintro _ H9 ⟨hs9, e, yv, bv, herr, rfl, hy, hb⟩
          have n9 := hs9.grow.next
          have hqlt := W8.obj.lt st8.wf'
          have hplt := hp38.lt st8.wf'
          obtain ⟨yo, ye, rfl, hyo, hye⟩ := hy
          obtain ⟨ya, yc, rfl⟩ := hyo.its.val
          obtain ⟨yb, yd, rfl⟩ := hye.its.val
          obtain ⟨ba, bc, rfl⟩ := hb.1.val
          have g1 : free (ctxW w) (.call H8 H9) (.exp [] [H9.next]) = true := free_call_new (Nat.le_refl _)
          have g3 : Nat.beq H9.next p3 = false := nbeq' (by omega)
          have g4 : Nat.beq H9.next q = false := nbeq' (by omega)
          simp [endV]
          refine d_mk hs9.wf' (by simp [g1, g3, g4]) fun t8 H10 ht8 => ?_
          have nt8 := ht8.new
          have nt8' := ht8.next
          obtain ⟨Y, hY⟩ : ∃ Y : EndA, Y = if e = 0 then sent (endL x u) a.data else ⟨0, [], 0, []⟩ := ⟨_, rfl⟩
          rw [← hY] at hyo hye ⊢
          simp
          refine d_store (p := t8) (off := 0) (xs := [.int .i64 Y.last, .slice ya Y.opens.length yc, .int .i64 Y.got, .slice yb Y.early.length yd]) ht8.same.wf' rfl ht8.obj (by simp) (by simp) (by simp) (by simp) (by simp) (by simp) fun H11 hm11 hn11 ho11 => ?_
          simp at ho11
          have hs911 : Same H9 H11 := ht8.same.then_mod hm11 (by omega)
          have hs811 := hs9.trans hs911
          have hEe : endW ⟨x, [], []⟩ u = endL x u := rfl
          simp
          by_cases he0 : e = 0
          · subst he0
            rw [if_pos rfl] at hY
            rw [if_pos rfl] at hb
            have hp311 := hp38.same hs811
            have ldp311 := fun off n => Obj1.load (C := ctxW w) (off := off) (n := n) hp311
            have ldt811 := fun off n => Obj1.load (C := ctxW w) (off := off) (n := n) ho11
            have st811 : Step [] H8 col8 H11 col8 := Step.of_same hs811 st8.bare
            have W11 := W8.step st811 (by simp) (by simp) (by simp)
            simp [ldp311, ldt811, actC, hu, hu2]
            refine w_store (p := q) (off := u * 4) (xs := [.int .i64 Y.last, .slice ya Y.opens.length yc, .int .i64 Y.got, .slice yb Y.early.length yd]) st811.wf' W11.obj (by simp) (by simp) (by simp) (by simp) (by simp [lineCells]; omega) (by simp) fun H12 hm12 hn12 ho12 => ?_
            have s12 : Step [7] H11 col8 H12 col8 := Step.of_mod hm12 st811.bare (by rw [W8.c7]; simp)
            have hc9 : ∀ b, H8.next ≤ b → col8 b = 0 := fun b hb => st8.bare b hb
            have b9 : Bare col8 H9 := fun b hb => st8.bare b (by omega)
            have s911 : Step [] H9 col8 H11 col8 := Step.of_same hs911 b9
            have hR12 := W11.setE s12 hul (e := Y) ho12 (((hyo.plain hc9).step s911 (by simp)).step s12 (by simp)) (((hye.plain hc9).step s911 (by simp)).step s12 (by simp))
            have hw1 : IntKind.i64.wrap (1 - (u : Int)) = 1 - (u : Int) := i64_in _ (by omega)
            have hp312 := hp311.mod hm12 (by intro h; have := W8.c7; rw [← h, hc8p] at this; omega)
            have ldp312 := fun off n => Obj1.load (C := ctxW w) (off := off) (n := n) hp312
            simp [ldp312, actC, hu, hw1]
            obtain ⟨E, hE⟩ : ∃ E, E = enc ((endL x u).last + 1).toNat (endL x u).got.toNat a.data := ⟨_, rfl⟩
            rw [← hE] at hb ⊢
            have hb12 : Bs (ctxW w) H12 (.slice ba E.length bc) E := Bs.step (s911.more (by simp) |>.trans s12) (by simp) hb.1 (fun a n c he hn => hc9 _ (hb.2 a n c he hn))
            refine wpCall_mono (refPut_spec w s12.wf' s12.bare hR12 hb12 (fun b hbb hn => hc9 _ (hb.2 b _ _ (by rw [hbb]) hn))) ?_
            rintro _ H13 ⟨col13, st13, R13⟩
            simp
            refine ⟨col13, (st8.more (by simp)).trans (((st811.more (by simp)).trans (s12.more (by simp))).trans st13), _, R13, ?_⟩
            rw [hdo]
            have h9 : (endL x u).last ≠ 60000 ∧ (endL x u).opens.length ≠ 8 := by
              rcases herr with h | h | h | h | h
              · exact absurd (hEo u) h.1
              · exact absurd hfr h.2.1
              · exact absurd h.2.2.2 (by decide)
              · exact absurd h.2.2.2.2 (by decide)
              · exact ⟨h.2.2.1, h.2.2.2.1⟩
            have es : sayW ⟨x, [], []⟩ u a.data = (putW (Wire.setE ⟨x, [], []⟩ u (sent (endL x u) a.data)) (1 - u) E, 0) := by unfold sayW; rw [hEe, if_neg h9.1, if_neg h9.2, hE]
            rw [es, if_pos rfl, hY]
            rcases two hul with rfl | rfl <;> rfl
          · have hz : doF x a = (zeroL, [], e) := by
              rw [hdo]
              rcases herr with h | h | h | h | h
              · exact absurd (hEo u) h.1
              · exact absurd hfr h.2.1
              · have es : sayW ⟨x, [], []⟩ u a.data = (⟨x, [], []⟩, 5) := by unfold sayW; rw [hEe, if_pos h.2.2.1]
                rw [es, h.2.2.2]; rfl
              · have es : sayW ⟨x, [], []⟩ u a.data = (⟨x, [], []⟩, 8) := by unfold sayW; rw [hEe, if_neg h.2.2.1, if_pos h.2.2.2.1]
                rw [es, h.2.2.2.2]; rfl
              · exact absurd h.2.2.2.2 he0
            simp [he0]
            have hs011 := hs08.trans hs811
            refine w_store (p := t) (off := 0) (xs := [.int .i64 0, .slice none 0 0, .int .i64 0, .slice none 0 0, .int .i64 0, .slice none 0 0, .int .i64 0, .slice none 0 0, .slice none 0 0]) hs011.wf' (htb ((hs5.trans hs58).trans hs811)) (by simp) (by simp) rfl (by simp) (by simp) (by simp) fun H12 hm12 hn12 ho12 => ?_
            have ld12 := fun off n => Obj1.load (C := ctxW w) (off := off) (n := n) ho12
            simp [ld12]
            rw [hz]
            exact ⟨hs011.then_mod hm12 (by omega), _, _, rfl, LineO.zero, FrO.nil⟩
        · by_cases k2 : a.kind = 2
          · obtain ⟨_, hwo, _⟩ := (fine2 k2).1 hf
            obtain ⟨u, hu, hul⟩ : ∃ u : Nat, a.who = u ∧ u ≤ 1 := ⟨a.who.toNat, by have := hwo.1; omega, by have := hwo.2; omega⟩
            have hu2 : (u : Int) < 2 := by omega
            have hut : a.who.toNat = u := by omega
            obtain ⟨ov, ev, ld4, po, pe⟩ := W8.at hul
            obtain ⟨oa, oc, rfl⟩ := po.val
            obtain ⟨ea, ec, rfl⟩ := pe.val
            have hact : actW ⟨x, [], []⟩ a = (againW ⟨x, [], []⟩ u, 0) := by unfold actW; rw [if_neg k1, if_pos k2, hut]
            rw [hact, if_pos rfl] at hdo
            simp [ldp38, k2, actC, hu, hu2, ld4]
            have hcall := refAgainO_spec w st8.wf' (x := endL x u) ⟨_, _, rfl, po.its, pe.its⟩ (hEs u)
            simp only [endV] at hcall
            refine wpCall_mono hcall ?_
            rintro _ H9 ⟨hs9, ⟨_, fv, rfl, hfv⟩ | ⟨hbad, _⟩⟩
            rotate_left
            · exact absurd (hEo u) hbad
            have st9 : Step [] H8 col8 H9 col8 := Step.of_same hs9 st8.bare
            have hW9 := FrO.w (col := col8) hfv (fun b hb => st8.bare b hb)
            obtain ⟨fa, fc, rfl⟩ := hfv.frs.val
            have hpk : packets (endL x u) = packets (endW ⟨x, [], []⟩ u) := rfl
            obtain ⟨P, hP⟩ : ∃ P, P = packets (endL x u) := ⟨_, rfl⟩
            rw [← hP] at hW9 ⊢
            have hpl : P.length ≤ 8 := by rw [hP, len_packets]; exact (hEo u).2.2.1
            have hplt := hp38.lt st8.wf'
            simp
            refine wp_loop' (fun n s => ∃ (T : Env) (Hc : AHeap) (colc : Nat → Nat) (i : Nat), s = ⟨T, Hc, []⟩ ∧ n = P.length - i ∧ i ≤ P.length ∧ T.val 3 = .pointer (some ⟨p3, 0, none⟩) ∧ T.val 4 = .pointer (some ⟨t, 0, none⟩) ∧ T.val 7 = .pointer (some ⟨q, 0, none⟩) ∧ T.val 11 = .slice fa P.length fc ∧ T.val 13 = .int .i64 i ∧
              Step [7, 8] H9 col8 Hc colc ∧ RLine (ctxW w) Hc colc q (putsW ⟨x, [], []⟩ (1 - (u : Int)) (P.take i)).x) (n := P.length)
              ⟨_, H9, col8, 0, rfl, rfl, Nat.zero_le _, by simp, by simp, by simp, by simp, by simp, Step.of_same (Same.refl st9.wf') st9.bare, _, _, _, _, _, W8.step st9 (by simp) (by simp) (by simp)⟩ ?_
            rintro n s K ⟨T, Hc, colc, i, rfl, rfl, hi, t3, t4, t7, t11, t13, stc, hR⟩ hnext hexit
            have hp3c := Obj1.step ((st9.more (by simp)).trans stc) hp38 (by rw [hc8p]; simp)
            have ldp3c := fun off n => Obj1.load (C := ctxW w) (off := off) (n := n) hp3c
            by_cases hlt : i < P.length
            · have e3 : (i : Int) < P.length := by omega
              obtain ⟨b, db, dc', rfl, l1, hbs, hbc⟩ := (hW9.step stc (by simp)).at hlt
              have hw1 : IntKind.i64.wrap (1 - (u : Int)) = 1 - (u : Int) := i64_in _ (by omega)
              simp [t3, t7, t11, t13, e3, ldp3c, actC, hu, hw1, l1]
              refine wpCall_mono (refPut_spec w stc.wf' stc.bare hR hbs hbc) ?_
              rintro _ Hd ⟨cold, std, Rd⟩
              simp [t13]
              refine hnext (P.length - (i + 1)) _ (by omega) ⟨_, Hd, cold, i + 1, rfl, rfl, by omega, by simp [t3], by simp [t4], by simp [t7], by simp [t11], by simp; rw [i64_in _ (by omega)], stc.trans std, ?_⟩
              rw [List.take_succ_eq_append_getElem hlt, putsW_snoc]
              exact Rd
            · have : i = P.length := by omega
              subst this
              simp [t11, t13]
              refine hexit _ _ (by simp) ?_
              simp [t4, t7]
              refine ⟨colc, (st8.more (by simp)).trans ((st9.more (by simp)).trans stc), _, hR, ?_⟩
              rw [hdo, List.take_length, hP, hpk]
              have hh := putsW_h (to := 1 - (u : Int)) (packets (endW ⟨x, [], []⟩ u)) ⟨x, [], []⟩
              have e1 : againW ⟨x, [], []⟩ u = putsW ⟨x, [], []⟩ (1 - (u : Int)) (packets (endW ⟨x, [], []⟩ u)) := rfl
              rw [e1, hh.1, hh.2]
              rfl
          · by_cases k6 : a.kind = 6
            · obtain ⟨_, _, hat, hp0, hpl, hx1, hx2⟩ := (fine6 k6).1 hf
              obtain ⟨i, hi⟩ : ∃ i : Nat, a.n = i := ⟨a.n.toNat, by have := hat.1; omega⟩
              have hil : i < x.fly.length := by have := hat.2; omega
              have hin : a.n.toNat = i := by omega
              have hil2 : (i : Int) < x.fly.length := by omega
              obtain ⟨k, hk⟩ : ∃ k : Nat, a.pos = k := ⟨a.pos.toNat, by omega⟩
              have hkl : k < x.fly[i].2.length := by
                have : ∀ j (_ : j = i) (h : j < x.fly.length), a.pos < x.fly[j].2.length → k < x.fly[i].2.length := by
                  rintro j rfl h h'
                  omega
                exact this a.n.toNat hin (by omega) (hpl (by omega))
              have hkl2 : (k : Int) < x.fly[i].2.length := by omega
              obtain ⟨xb, hxb⟩ : ∃ xb : UInt8, xb = UInt8.ofNat a.xor.toNat := ⟨_, rfl⟩
              have hxn : a.xor = xb.toNat := by
                rw [hxb]
                simp
                omega
              have hact : actW ⟨x, [], []⟩ a = (spoilW ⟨x, [], []⟩ i k xb, 0) := by
                unfold actW
                rw [if_neg k1, if_neg k2, dif_pos (by rw [hin]; exact hil), if_neg (by omega), if_neg (by omega), if_neg (by omega), hin, hxb]
                have : a.pos.toNat = k := by omega
                rw [this]
              rw [hact, if_pos rfl] at hdo
              have fly8 := fly6.same hs68
              obtain ⟨b, vv, g, rfl, j1, hbuf, hg1, hg2, hturn⟩ := fly8.turn (C := ctxW w) hil (fun d => spoilB d k xb)
              obtain ⟨ba, rfl, hbblk, _⟩ := hbuf.load (C := ctxW w)
              obtain ⟨bb, hbb, j4⟩ := (Buf.bsS (C := ctxW w) hbuf).1.at hkl
              cases hbb
              have j2 := loadN_sub j1 (i := 1) (m := 1) (by omega)
              simp at j2
              simp [ldp38, ldq8, k6, actC, hi, hk, hxn, hil2, hkl2, j2, j4]
              have wx : IntKind.u8.wrap (xb.toNat : Int) = (xb.toNat : Int) := by
                have := xb.toNat_lt
                rw [IntKind.wrap_u8]
                omega
              obtain ⟨z, hz⟩ : ∃ z : UInt8, z = x.fly[i].2[k] ^^^ xb := ⟨_, rfl⟩
              refine d_storeB (g := g) (a := ba) (esz := 1) (m := x.fly[i].2.length) (i := k) (cs := x.fly[i].2.map u8v) (xs := [u8v z]) st8.wf' rfl hbuf (by simp) (by simp [wx, xor_u8, u8v, hz, -UInt8.toNat_xor]) rfl (by simp) (by simp; omega) (by simp [u8v]) fun H9 hm9 hn9 hb9 => ?_
              simp
              have hsp : spoilB x.fly[i].2 k xb = x.fly[i].2.set k z := by
                unfold spoilB
                rw [hz, List.getD_eq_getElem?_getD, List.getElem?_eq_getElem hkl]
                rfl
              have hset : (x.fly[i].2.map u8v).take k ++ ([u8v z] ++ (x.fly[i].2.map u8v).drop (k + 1)) = (spoilB x.fly[i].2 k xb).map u8v := by
                rw [hsp, List.map_set, List.set_eq_take_append_cons_drop, if_pos (by simpa using hkl)]
                rfl
              rw [hset] at hb9
              have hsl : (spoilB x.fly[i].2 k xb).length = x.fly[i].2.length := by rw [hsp, List.length_set]
              have fly9 := hturn hm9 (by rw [hsl]; exact hb9)
              have hs59 : Same H5 H9 := hs58.then_mod hm9 (by omega)
              have n89 := hm9.grow.next
              have hlm : (x.fly.modify i fun f => (f.1, spoilB f.2 k xb)).length = x.fly.length := List.length_modify ..
              have hln9 : LineN (ctxW w) H9 H5.next H6.next ⟨x.a, x.b, x.fly.modify i fun f => (f.1, spoilB f.2 k xb)⟩ (lineV x.a.last (.slice u1 x.a.opens.length v1) x.a.got (.slice u2 x.a.early.length v2) x.b.last (.slice u3 x.b.opens.length v3) x.b.got (.slice u4 x.b.early.length v4) (.slice (some b) x.fly.length v5)) :=
                ⟨m1, m2, _, _, _, _, _, rfl, l1, l2, l3, (en1.same hs68).mod hm9 (by omega), (en2.same hs68).mod hm9 (by omega), fly9.itsN⟩
              obtain ⟨col9, st9, R9⟩ := hln9.rlG' (by omega) hb0 hs59 (Same.refl hs59.wf') (t := q) (by omega) (by simpa [lineCells] using ho8.mod hm9 (by omega))
              refine ⟨col9, st9.more (by simp), _, ⟨_, _, _, _, _, R9⟩, ?_⟩
              rw [hdo]
              rfl
            · have k3 : a.kind = 3 ∨ a.kind = 4 ∨ a.kind = 5 := by
                rcases hf with h | h | h | h
                · exact absurd h.1 k1
                · exact absurd h.1 k2
                · exact h.1
                · exact absurd h.1 k6
              obtain ⟨_, _, hat, _⟩ := (fine3 k3).1 hf
              obtain ⟨i, hi⟩ : ∃ i : Nat, a.n = i := ⟨a.n.toNat, by have := hat.1; omega⟩
              have hil : i < x.fly.length := by have := hat.2; omega
              have hin : a.n.toNat = i := by omega
              have hil2 : (i : Int) < x.fly.length := by omega
              have hfl := hok.2.2.1
              have hfi := hok.2.2.2 i hil
              by_cases k4 : a.kind = 4
              · have hact : actW ⟨x, [], []⟩ a = (awayW ⟨x, [], []⟩ i, 0) := by unfold actW; rw [if_neg k1, if_neg k2, dif_pos (by rw [hin]; exact hil), if_neg (by omega), if_pos k4, hin]
                rw [hact, if_pos rfl] at hdo
                simp [ldp38, ldq8, k4, actC, hi]
                refine wpCall_mono (without_spec w st8.wf' st8.bare W8.fl hil (by omega)) ?_
                rintro r9 H9 ⟨col9, st9, w9⟩
                obtain ⟨wa, wc, rfl⟩ := w9.val
                have W9 := W8.step st9 (by simp) (by simp) (by simp)
                simp
                refine w_store (p := q) (off := 8) (xs := [.slice wa (x.fly.eraseIdx i).length wc]) st9.wf' W9.obj (by simp) (by simp) (by simp) (by simp) (by simp [lineCells]) (by simp) fun H10 hm10 hn10 ho10 => ?_
                have s10 : Step [7] H9 col9 H10 col9 := Step.of_mod hm10 st9.bare (by rw [W9.c7]; simp)
                simp
                refine ⟨col9, (st8.more (by simp)).trans ((st9.more (by simp)).trans (s10.more (by simp))), ⟨x.a, x.b, x.fly.eraseIdx i⟩, ⟨.slice u1 x.a.opens.length v1, .slice u2 x.a.early.length v2, .slice u3 x.b.opens.length v3, .slice u4 x.b.early.length v4, .slice wa (x.fly.eraseIdx i).length wc, by simpa [lineCells] using ho10, W9.c7, W9.i0.step s10 (by simp), W9.i1.step s10 (by simp), W9.i2.step s10 (by simp), W9.i3.step s10 (by simp), w9.step s10 (by simp) (by simp)⟩, ?_⟩
                rw [hdo]
                rfl
              · by_cases k5 : a.kind = 5
                · have hact : actW ⟨x, [], []⟩ a = (putW ⟨x, [], []⟩ x.fly[i].1 x.fly[i].2, 0) := by
                    have : ∀ j (hj : j = i), (if h : j < x.fly.length then (putW ⟨x, [], []⟩ x.fly[j].1 x.fly[j].2, (0 : Int)) else (⟨x, [], []⟩, 0)) = (putW ⟨x, [], []⟩ x.fly[i].1 x.fly[i].2, 0) := by
                      rintro j rfl
                      rw [dif_pos hil]
                    unfold actW
                    rw [if_neg k1, if_neg k2, ← this a.n.toNat hin]
                    have h : a.n.toNat < x.fly.length := by omega
                    rw [dif_pos h, dif_pos h, if_neg (by omega), if_neg k4, if_pos k5]
                  rw [hact, if_pos rfl] at hdo
                  obtain ⟨b, db, dc', hbv, l1, l2, _, hbs⟩ := W8.fl.its.at hil
                  subst hbv
                  have hblt := load_lt st8.wf' l1
                  simp at hblt
                  have hqlt := W8.obj.lt st8.wf'
                  have hplt := hp38.lt st8.wf'
                  have g1 : Nat.beq H8.next b.block = false := nbeq' (by omega)
                  have g2 : Nat.beq H8.next p3 = false := nbeq' (by omega)
                  have g3 : Nat.beq H8.next q = false := nbeq' (by omega)
                  simp [ldp38, ldq8, k5, actC, hi, hil2, l1]
                  refine d_bs (esz := 1) (cs := []) st8.wf' (by simp [g1, g2, g3]) (by simp) (by simp) (by simp) fun q9 H9 hq9 hb9 => ?_
                  have nq9 := hq9.new
                  have nq9' := hq9.next
                  have st9 : Step [] H8 col8 H9 col8 := Step.of_same hq9.same st8.bare
                  have g4 : Nat.beq q9 b.block = false := nbeq' (by omega)
                  have g5 : Nat.beq q9 p3 = false := nbeq' (by omega)
                  have g6 : Nat.beq q9 q = false := nbeq' (by omega)
                  have ldq9 := fun off n => Obj1.load (C := ctxW w) (off := off) (n := n) (ho8.same hq9.same)
                  have ldp9 := fun off n => Obj1.load (C := ctxW w) (off := off) (n := n) (hp38.same hq9.same)
                  have l29 := hq9.same.load l2
                  simp [ldq9, ldp9, actC, hi, hil2, l29, g4, g5, g6]
                  have f1 : q9 ≠ b.block := by omega
                  have f2 : q9 ≠ p3 := by omega
                  have f3 : q9 ≠ q := by omega
                  refine d_app' (g := q9) (n := 0) (m := x.fly[i].2.length) (cs := []) (xs := x.fly[i].2.map u8v) hq9.same.wf' (by simpa using hb9) (by simp; exact hbs.same hq9.same) (u8_scalar _) (by simp [roomy]; omega)
                    (fun rd' md hmd => by
                      have e1 := free_rd_mod (C := ctxW w) (ri := rd') (mi := md) (x := b.block) fun y hy => by rw [hmd y hy]; exact f1
                      have e2 := free_rd_mod (C := ctxW w) (ri := rd') (mi := md) (x := p3) fun y hy => by rw [hmd y hy]; exact f2
                      have e3 := free_rd_mod (C := ctxW w) (ri := rd') (mi := md) (x := q) fun y hy => by rw [hmd y hy]; exact f3
                      simp [e1, e2, e3]) fun r10 H10 rd' md hm10 hb10 hmd hrd => ?_
                  have hs810 : Same H8 H10 := hq9.same.then_mod hm10 (by omega)
                  have hb10r : Bs (ctxW w) H10 r10 x.fly[i].2 := by
                    have := hb10.row (C := ctxW w)
                    simpa [Bs] using this
                  have hr10 : ∀ b', r10 = .slice (some b') x.fly[i].2.length x.fly[i].2.length → H8.next ≤ b'.block := by
                    intro b' he
                    obtain ⟨a', he', hbl, _⟩ := hb10.load (C := ctxW w)
                    rw [he] at he'
                    simp at he'
                    subst he'
                    omega
                  obtain ⟨a', he', hbl, _⟩ := hb10.load (C := ctxW w)
                  simp at he'
                  subst he'
                  have st10 : Step [] H8 col8 H10 col8 := Step.of_same hs810 st8.bare
                  simp
                  refine wpCall_mono (refPut_spec w st10.wf' st10.bare ⟨_, _, _, _, _, W8.step st10 (by simp) (by simp) (by simp)⟩ hb10r (fun b' hb' hn => by cases hb'; exact st8.bare _ (by omega))) ?_
                  rintro _ H11 ⟨col11, st11, R11⟩
                  simp
                  refine ⟨col11, (st8.more (by simp)).trans ((st10.more (by simp)).trans st11), _, R11, ?_⟩
                  rw [hdo]
                  rfl
                · have k3' : a.kind = 3 := by omega
                  have hact : actW ⟨x, [], []⟩ a = (arriveW (awayW ⟨x, [], []⟩ i) x.fly[i].1.toNat x.fly[i].2, 0) := by
                    have : ∀ j (hj : j = i), (if h : j < x.fly.length then (arriveW (awayW ⟨x, [], []⟩ j) x.fly[j].1.toNat x.fly[j].2, (0 : Int)) else (⟨x, [], []⟩, 0)) = (arriveW (awayW ⟨x, [], []⟩ i) x.fly[i].1.toNat x.fly[i].2, 0) := by
                      rintro j rfl
                      rw [dif_pos hil]
                    unfold actW
                    rw [if_neg k1, if_neg k2, ← this a.n.toNat hin]
                    have h : a.n.toNat < x.fly.length := by omega
                    rw [dif_pos h, dif_pos h, if_pos k3']
                  rw [hact, if_pos rfl] at hdo
                  obtain ⟨tt, htt, hto⟩ : ∃ tt : Nat, tt ≤ 1 ∧ x.fly[i].1 = tt := ⟨x.fly[i].1.toNat, by have := hfi.1; omega, by have := hfi.1; omega⟩
                  have hton : x.fly[i].1.toNat = tt := by omega
                  have htt2 : (tt : Int) < 2 := by omega
                  rw [hton] at hdo
                  have fly8 := fly6.same hs68
                  obtain ⟨b, vv, g, rfl, j1, hbuf, hg1, hg2⟩ := fly8.at (C := ctxW w) hil
                  obtain ⟨b', da', dc', hbe, j2, jbs, jcol⟩ := W8.fl.at hil
                  cases hbe
                  rw [j1] at j2
                  simp only [Option.some.injEq, List.cons.injEq, and_true, true_and] at j2
                  subst j2
                  obtain ⟨ba, hba, hbblk, _⟩ := hbuf.load (C := ctxW w)
                  simp only [Value.slice.injEq, true_and] at hba
                  obtain ⟨rfl, rfl⟩ := hba
                  have hcg : col8 g = 0 := by rw [← hbblk]; exact jcol ba rfl (by have := hfi.2.1; omega)
                  simp [ldp38, ldq8, k3', actC, hi, hil2, j1, hto]
                  refine w_mk st8.wf' fun t14 H9 ht14 => ?_
                  have nt14 := ht14.new
                  have nt14' := ht14.next
                  refine w_store (p := t14) (off := 0) (xs := [.int .i64 tt, .slice (some ba) x.fly[i].2.length x.fly[i].2.length]) ht14.same.wf' ht14.obj (by simp) (by simp) (by simp) (by simp) (by simp) (by simp) fun H10 hm10 hn10 ho10 => ?_
                  simp at ho10
                  have hs810 : Same H8 H10 := ht14.same.then_mod hm10 (by omega)
                  have st10 : Step [] H8 col8 H10 col8 := Step.of_same hs810 st8.bare
                  have ldq10 := fun off n => Obj1.load (C := ctxW w) (off := off) (n := n) (ho8.same hs810)
                  have ldp10 := fun off n => Obj1.load (C := ctxW w) (off := off) (n := n) (hp38.same hs810)
                  simp [ldq10, ldp10, actC, hi]
                  refine wpCall_mono (without_spec w st10.wf' st10.bare (W8.fl.step st10 (by simp) (by simp)) hil (by omega)) ?_
                  rintro r11 H11 ⟨col11, st11, w11⟩
                  obtain ⟨wa, wc, rfl⟩ := w11.val
                  have W11 := W8.step (st10.trans st11) (by simp) (by simp) (by simp)
                  simp
                  refine w_store (p := q) (off := 8) (xs := [.slice wa (x.fly.eraseIdx i).length wc]) st11.wf' W11.obj (by simp) (by simp) (by simp) (by simp) (by simp [lineCells]) (by simp) fun H12 hm12 hn12 ho12 => ?_
                  have s12 : Step [7] H11 col11 H12 col11 := Step.of_mod hm12 st11.bare (by rw [W11.c7]; simp)
                  have W12 : RL (ctxW w) H12 col11 q ⟨x.a, x.b, x.fly.eraseIdx i⟩ (.slice u1 x.a.opens.length v1) (.slice u2 x.a.early.length v2) (.slice u3 x.b.opens.length v3) (.slice u4 x.b.early.length v4) (.slice wa (x.fly.eraseIdx i).length wc) :=
                    ⟨by simpa [lineCells] using ho12, W11.c7, W11.i0.step s12 (by simp), W11.i1.step s12 (by simp), W11.i2.step s12 (by simp), W11.i3.step s12 (by simp), w11.step s12 (by simp) (by simp)⟩
                  obtain ⟨Y, hY⟩ : ∃ Y : LineA, Y = ⟨x.a, x.b, x.fly.eraseIdx i⟩ := ⟨_, rfl⟩
                  rw [← hY] at W12
                  have hYe : ∀ t', endL Y t' = endL x t' := fun t' => by rw [hY]; rfl
                  have st12 : Step [7] H8 col8 H12 col11 := ((st10.trans st11).more (by simp)).trans s12
                  have hc14 : col8 t14 = 0 := st8.bare t14 (by omega)
                  have ht12 := Obj1.step ((st11.more (by simp)).trans s12) ho10 (by rw [hc14]; simp)
                  have ldt12 := fun off n => Obj1.load (C := ctxW w) (off := off) (n := n) ht12
                  obtain ⟨ov, ev, ld4, po, pe⟩ := W12.at htt
                  rw [hYe] at ld4 po pe
                  obtain ⟨oa, oc, rfl⟩ := po.val
                  obtain ⟨ea, ec, rfl⟩ := pe.val
                  have hbuf12 := hbuf.step st12 (by rw [hcg]; simp)
                  simp [ldt12, htt2, ld4]
                  have hcall := refTakeO_spec w s12.wf' (x := endL x tt) ⟨_, _, rfl, po.its, pe.its⟩ (hEs tt) (Buf.bsS (C := ctxW w) hbuf12) (by have := hfi.2.2; omega)
                  simp only [endV] at hcall
                  refine wpCall_mono hcall ?_
                  rintro _ H13 ⟨hs13, evv, fv, rv, e, rfl, ⟨_, rfl, hend, hfr, hrv⟩ | ⟨hbad, _⟩⟩
                  rotate_left
                  · exact absurd (hEo tt) hbad
                  obtain ⟨R, hR⟩ : ∃ R, R = takeF (endL x tt) x.fly[i].2 := ⟨_, rfl⟩
                  rw [← hR] at hend hfr hrv
                  obtain ⟨yo, ye, rfl, hyo, hye⟩ := hend
                  obtain ⟨ya, yc, rfl⟩ := hyo.its.val
                  obtain ⟨yb, yd, rfl⟩ := hye.its.val
                  obtain ⟨ra, rc, rfl⟩ := hrv.1.val
                  have n13 := hs13.grow.next
                  have n1213 := hm12.grow.next
                  have n1011 := st11.grow.next
                  have hqlt := W8.obj.lt st8.wf'
                  have g1 : free (ctxW w) (.call H12 H13) (.exp [] [H13.next]) = true := free_call_new (Nat.le_refl _)
                  have g3 : Nat.beq H13.next t14 = false := nbeq' (by omega)
                  have g4 : Nat.beq H13.next q = false := nbeq' (by omega)
                  simp [endV]
                  refine d_mk hs13.wf' (by simp [g1, g3, g4]) fun t15 H14 ht15 => ?_
                  have nt15 := ht15.new
                  have nt15' := ht15.next
                  simp
                  refine d_store (p := t15) (off := 0) (xs := [.int .i64 R.1.last, .slice ya R.1.opens.length yc, .int .i64 R.1.got, .slice yb R.1.early.length yd]) ht15.same.wf' rfl ht15.obj (by simp) (by simp) (by simp) (by simp) (by simp) (by simp) fun H15 hm15 hn15 ho15 => ?_
                  simp at ho15
                  have hs1315 : Same H13 H15 := ht15.same.then_mod hm15 (by omega)
                  have hs1215 := hs13.trans hs1315
                  have st15 : Step [] H12 col11 H15 col11 := Step.of_same hs1215 s12.bare
                  have W15 := W12.step st15 (by simp) (by simp) (by simp)
                  have ht14b := ht12.same hs1215
                  have ldt14b := fun off n => Obj1.load (C := ctxW w) (off := off) (n := n) ht14b
                  have ldt15 := fun off n => Obj1.load (C := ctxW w) (off := off) (n := n) ho15
                  simp [ldt14b, ldt15, htt2]
                  refine w_store (p := q) (off := tt * 4) (xs := [.int .i64 R.1.last, .slice ya R.1.opens.length yc, .int .i64 R.1.got, .slice yb R.1.early.length yd]) st15.wf' W15.obj (by simp) (by simp) (by simp) (by simp) (by simp [lineCells]; omega) (by simp) fun H16 hm16 hn16 ho16 => ?_
                  have s16 : Step [7] H15 col11 H16 col11 := Step.of_mod hm16 st15.bare (by rw [W15.c7]; simp)
                  have hc0 : ∀ b, H12.next ≤ b → col11 b = 0 := fun b hb => s12.bare b hb
                  have s1315 : Step [] H13 col11 H15 col11 := Step.of_same hs1315 (fun b hb => hc0 b (by omega))
                  have hR16 := W15.setE s16 htt (e := R.1) ho16 (((hyo.plain hc0).step s1315 (by simp)).step s16 (by simp)) (((hye.plain hc0).step s1315 (by simp)).step s16 (by simp))
                  have hW16 := ((FrO.w hfr hc0).step s1315 (by simp)).step s16 (by simp)
                  obtain ⟨fa, fc, rfl⟩ := hfr.frs.val
                  have ht14c := ht14b.mod hm16 (by omega)
                  have ldt14c := fun off n => Obj1.load (C := ctxW w) (off := off) (n := n) ht14c
                  obtain ⟨Z, hZ⟩ : ∃ Z, Z = (if R.2.2 = [] then setL Y tt R.1 else putF (setL Y tt R.1) (1 - (tt : Int)) R.2.2) := ⟨_, rfl⟩
                  have hfin : doF x a = (Z, R.2.1, 0) := by
                    have he : endW (awayW ⟨x, [], []⟩ i) tt = endL x tt := rfl
                    rw [hdo]
                    unfold arriveW
                    rw [he, ← hR, hZ, hY]
                    rcases two htt with rfl | rfl
                    · split <;> simp [hearW, setE, putW, setL, awayW]
                    · split <;> simp [hearW, setE, putW, setL, awayW]
                  rw [wpO_nil, regK_eq, seqK_normal, wpC_seq]
                  refine wpC_mono (Q := fun e s => e = .normal ∧ ∃ (Hc : AHeap) (colc : Nat → Nat) (T' : Env), s = ⟨T', Hc, []⟩ ∧ T'.val 4 = .pointer (some ⟨t, 0, none⟩) ∧ T'.val 7 = .pointer (some ⟨q, 0, none⟩) ∧ T'.val 16 = .slice fa R.2.1.length fc ∧ Step [7, 8] H16 col11 Hc colc ∧ RLine (ctxW w) Hc colc q Z) ?_ ?_
                  · by_cases hr0 : R.2.2 = []
                    · rw [if_pos hr0] at hZ
                      simp [hr0]
                      refine ⟨_, col11, _, ⟨rfl, rfl⟩, by simp, by simp, by simp, Step.of_same (Same.refl s16.wf') s16.bare, ?_⟩
                      rw [hZ]
                      exact hR16
                    · rw [if_neg hr0] at hZ
                      have hr1 : 0 < R.2.2.length := List.length_pos_iff.2 hr0
                      have hw1 : IntKind.i64.wrap (1 - (tt : Int)) = 1 - (tt : Int) := i64_in _ (by omega)
                      have hb16 : Bs (ctxW w) H16 (.slice ra R.2.2.length rc) R.2.2 := Bs.step (s1315.more (by simp) |>.trans s16) (by simp) hrv.1 (fun a n c he hn => hc0 _ (hrv.2 a n c he hn))
                      simp [ldt14c, hr1, hw1]
                      refine wpCall_mono (refPut_spec w s16.wf' s16.bare hR16 hb16 (fun b hbb hn => hc0 _ (hrv.2 b _ _ (by rw [hbb]) hn))) ?_
                      rintro _ H17 ⟨col17, st17, R17⟩
                      simp
                      refine ⟨_, col17, _, ⟨rfl, rfl⟩, by simp, by simp, by simp, st17, ?_⟩
                      rw [hZ]
                      exact R17
                  · rintro e s ⟨rfl, Hc, colc, T', rfl, t4, t7, t16, stc, r0, r1, r2, r3, r4, RR⟩
                    obtain ⟨w1, x1, rfl⟩ := RR.i0.val
                    obtain ⟨w2, x2, rfl⟩ := RR.i1.val
                    obtain ⟨w3, x3, rfl⟩ := RR.i2.val
                    obtain ⟨w4, x4, rfl⟩ := RR.i3.val
                    obtain ⟨w5, x5, rfl⟩ := RR.fl.val
                    have ldqc := fun off n => Obj1.load (C := ctxW w) (off := off) (n := n) RR.obj
                    have st5c : Step [7, 8] H5 col0 Hc colc := (st8.more (by simp)).trans ((st12.more (by simp)).trans ((st15.more (by simp)).trans ((s16.more (by simp)).trans stc)))
                    have htc := Obj1.step st5c (htb hs5) (by rw [hct0]; simp)
                    simp [t7, t16, ldqc, lineCells]
                    refine w_store (p := t) (off := 0) (xs := lineCells Z (.slice w1 Z.a.opens.length x1) (.slice w2 Z.a.early.length x2) (.slice w3 Z.b.opens.length x3) (.slice w4 Z.b.early.length x4) (.slice w5 Z.fly.length x5)) st5c.wf' htc (by simp [t4]) (by simp [lineCells]) rfl (by simp) (by simp) (by simp [lineCells]) fun H18 hm18 hn18 ho18 => ?_
                    have ld18 := fun off n => Obj1.load (C := ctxW w) (off := off) (n := n) ho18
                    simp [t4, ld18, lineCells]
                    obtain ⟨s18, hsame, hfree, hlo⟩ := fin st5c RR hm18
                    rw [hfin]
                    exact ⟨hsame, _, _, rfl, hlo, WFrs.fo ((hW16.step stc (by simp)).step s18 (by simp)) hfree⟩
      · rintro e s (⟨rfl, Hc, colc, z, hs, t4, t7, stc, ⟨r0, r1, r2, r3, r4, R⟩, hz⟩ | ⟨rfl, hfin⟩)
        rotate_left
        · simpa using hfin
        rw [hs, hz]
        obtain ⟨T, _, _⟩ := s
        dsimp only at t4 t7 ⊢
        clear hs
        obtain ⟨w1, x1, rfl⟩ := R.i0.val
        obtain ⟨w2, x2, rfl⟩ := R.i1.val
        obtain ⟨w3, x3, rfl⟩ := R.i2.val
        obtain ⟨w4, x4, rfl⟩ := R.i3.val
        obtain ⟨w5, x5, rfl⟩ := R.fl.val
        have ldq := fun off n => Obj1.load (C := ctxW w) (off := off) (n := n) R.obj
        have st5c : Step [7, 8] H5 col0 Hc colc := stc
        have htc := Obj1.step st5c (htb hs5) (by rw [hct0]; simp)
        have hct : colc t = 13 := by rw [st5c.keep t (by omega)]; exact hct0
        have n5c := st5c.grow.next
        simp [t7, ldq, lineCells]
        refine w_store (p := t) (off := 0) (xs := lineCells z (.slice w1 z.a.opens.length x1) (.slice w2 z.a.early.length x2) (.slice w3 z.b.opens.length x3) (.slice w4 z.b.early.length x4) (.slice w5 z.fly.length x5)) st5c.wf' htc (by simp [t4]) (by simp [lineCells]) rfl (by simp) (by simp) (by simp [lineCells]) fun H9 hm9 hn9 ho9 => ?_
        have ld9 := fun off n => Obj1.load (C := ctxW w) (off := off) (n := n) ho9
        simp [t4, ld9, lineCells]
        obtain ⟨_, hsame, _, hlo⟩ := fin stc R hm9
        exact ⟨hsame, _, _, rfl, hlo, FrO.nil⟩
end Go.Ai.Wire
