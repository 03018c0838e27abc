/-
  A step of a story.
-/
import Derived.Test.YtlikgpehalhgkaaQWR
namespace Go.Ai.Wire
open Go.Proofs Go.IntWalk
attribute [local irreducible] Trie.put

theorem actS_kind (fly : List Itm) (sp : Bool) (b0 b1 b2 : UInt8) : (actS fly sp b0 b1 b2).who = 0 ∨ (actS fly sp b0 b1 b2).who = 1 := by
  unfold actS
  split
  · split
    · exact .inl rfl
    · split
      · exact .inl rfl
      · split
        · exact .inl rfl
        · exact .inl rfl
  · have : b1.toNat % 2 = 0 ∨ b1.toNat % 2 = 1 := by omega
    split
    · dsimp only; omega
    · dsimp only; omega

theorem actS_data (fly : List Itm) (sp : Bool) (b0 b1 b2 : UInt8) : (actS fly sp b0 b1 b2).data.length ≤ 9 := by
  unfold actS
  split
  · split
    · simp
    · split
      · simp
      · split
        · simp
        · simp
  · split
    · simp
    · simp; omega

theorem doF_len (x : LineA) (a : ActA) : (doF x a).2.1.length ≤ 16 := by
  unfold doF
  split
  · rename_i h
    split
    · have := doW_h (y := ⟨x, [], []⟩) h a
      dsimp only at this ⊢
      rw [List.length_append]
      simp at this
      omega
    · simp
  · simp

theorem hears_to {fly : List Itm} (h : ∀ f ∈ fly, FlightOK f) (a : ActA) : hearsA fly a = 0 ∨ hearsA fly a = 1 := by
  unfold hearsA
  split
  · rename_i h1
    have hlt : a.n.toNat < fly.length := by omega
    have := h _ (List.getElem_mem hlt)
    rw [List.getD_eq_getElem?_getD, List.getElem?_eq_getElem hlt]
    have := this.1
    simp
    omega
  · exact .inl rfl

set_option maxHeartbeats 4000000 in
theorem step_spec (w : World) {H : AHeap} (hw : WF H) {col : Nat → Nat} (hbare : Bare col H) {q : Nat} {y : StoryA} (hy : SWork (ctxW w) H col q y) (hsm : SmallS y) (b0 b1 b2 : UInt8) (hok : StepOK y (actS y.x.fly y.sp b0 b1 b2)) :
    wpCall (ctxW w) (.func (.func 65) #[] #[]) [.pointer (some ⟨q, 0, none⟩), byteV b0 b1 b2] H fun r H' => (∃ col', Step [1, 2, 3, 4, 5] H col H' col' ∧ SWork (ctxW w) H' col' q (goS y (actS y.x.fly y.sp b0 b1 b2))) ∧ r = .bool true := by
  obtain ⟨o0, e0, o1, e1, f, sv0, sv1, hv0, hv1, S⟩ := hy
  have hlok := hsm.1
  have hls : LineS y.x := (smallOK (y := ⟨y.x, [], []⟩) hlok (by simp) (by simp)).small
  obtain ⟨a1, c1, rfl⟩ := S.ln.i0.val
  obtain ⟨a2, c2, rfl⟩ := S.ln.i1.val
  obtain ⟨a3, c3, rfl⟩ := S.ln.i2.val
  obtain ⟨a4, c4, rfl⟩ := S.ln.i3.val
  obtain ⟨a5, c5, rfl⟩ := S.ln.i4.val
  refine wpCall_fn rfl (get65 w) ?_
  simp [ir65]
  refine w_box (cs := [.int .u8 b0.toNat, .int .u8 b1.toNat, .int .u8 b2.toNat]) hw (by simp [byteV]) rfl (by simp) fun p H1 hp => ?_
  have ldp := fun off n => Obj1.load (C := ctxW w) (off := off) (n := n) hp.obj
  simp [ldp]
  have np := hp.new
  have np' := hp.next
  refine wpCall_mono (act_spec w hp.same.wf' (q := q) (cs0 := [.int .i64 y.x.a.last, .slice a1 y.x.a.opens.length c1, .int .i64 y.x.a.got, .slice a2 y.x.a.early.length c2, .int .i64 y.x.b.last, .slice a3 y.x.b.opens.length c3, .int .i64 y.x.b.got, .slice a4 y.x.b.early.length c4]) rfl (S.obj.same hp.same) (S.ln.i4.its.same hp.same) (by have := hlok.2.2.1; omega) (fun f hf => by have := (flights_mem.1 hlok.2.2.2 f hf).2.2; omega) b0 b1 b2) ?_
  rintro r2 H2 ⟨hs2, da, dc, rfl, hd2, hdn⟩
  obtain ⟨A, hA⟩ : ∃ A, A = actS y.x.fly y.sp b0 b1 b2 := ⟨_, rfl⟩
  rw [← hA] at hd2 hdn hok ⊢
  have hwho : A.who = 0 ∨ A.who = 1 := by rw [hA]; exact actS_kind _ _ _ _ _
  have hdatl : A.data.length ≤ 9 := by rw [hA]; exact actS_data _ _ _ _ _
  have hs02 := hp.same.trans hs2
  simp [actV]
  refine w_mk hs02.wf' fun t5 H3 ht5 => ?_
  have n2 := hs2.grow.next
  have n5 := ht5.new
  have n5' := ht5.next
  refine w_store (p := t5) (off := 0) (xs := actC A (.slice da A.data.length dc)) ht5.same.wf' ht5.obj (by simp) (by simp [actC]) (by simp [actC]) (by simp) (by simp) (by simp [actC]) fun H4 hm4 hn4 ho4 => ?_
  have hs24 : Same H2 H4 := ht5.same.then_mod hm4 (by omega)
  have hs04 := hs02.trans hs24
  simp [actC] at ho4
  have hd4 : Bs (ctxW w) H4 (.slice da A.data.length dc) A.data := Row.mod hm4 (hd2.same ht5.same) (Row.off hs02.wf' hd2 (by omega))
  have hdn4 : ∀ b, da = some b → A.data.length ≠ 0 → H.next ≤ b.block := fun b hb hn => by have := hdn b hb hn; omega
  have ldq4 := fun off n => Obj1.load (C := ctxW w) (off := off) (n := n) (S.obj.same hs04)
  have ld54 := fun off n => Obj1.load (C := ctxW w) (off := off) (n := n) ho4
  simp [ldq4, ld54, storyCells]
  have hcall := hears_spec w hs04.wf' (S.ln.r.same hs04) (by have := hlok.2.2.1; omega) (a := A) (da := da) (dl := A.data.length) (dc := dc)
  simp only [lineV, actV] at hcall
  refine wpCall_mono hcall ?_
  rintro _ H5 ⟨hs5, rfl⟩
  have hs05 := hs04.trans hs5
  have ldq5 := fun off n => Obj1.load (C := ctxW w) (off := off) (n := n) (S.obj.same hs05)
  have ht55 := ho4.same hs5
  simp [ldq5, storyCells]
  have hcall := copyLine_spec w hs05.wf' (S.ln.r.same hs05) hls
  simp only [lineV] at hcall
  refine wpCall_mono hcall ?_
  rintro r6 H6 ⟨hs6, hn6⟩
  have hs06 := hs05.trans hs6
  have ht56 := ht55.same hs6
  have ld56 := fun off n => Obj1.load (C := ctxW w) (off := off) (n := n) ht56
  have f1 : free (ctxW w) (.call H5 H6) (.exp [t5] []) = true := free_call_rd (eqbW w) hs6 (by simp; obtain ⟨e, h⟩ := ht55; rw [h]; simp)
  have hln6 := hn6.r
  obtain ⟨p0, p1, p2, p3, p4, rfl, i0, i1, i2, i3, i4⟩ := hn6.r
  simp [ld56, f1, lineV]
  have hcall := wireDo_spec w hs06.wf' hln6 hls (a := A) (da := da) (dc := dc) ((hd4.same hs5).same hs6)
  simp only [lineV, actV] at hcall
  refine wpCall_mono hcall ?_
  rintro _ H7 ⟨hs7, lv, fv, rfl, hl7, hf7⟩
  obtain ⟨Z, hZ⟩ : ∃ Z, Z = doF y.x A := ⟨_, rfl⟩
  rw [← hZ] at hl7 hf7 ⊢
  have hs07 := hs06.trans hs7
  have hz2 : Z.2.1.length ≤ 16 := by rw [hZ]; exact doF_len _ _
  obtain ⟨Z1, Z2, Z3⟩ := Z
  dsimp only at hl7 hf7 hz2 ⊢
  obtain ⟨x0, x1, x2, x3, x4, rfl, j0, j1, j2, j3, j4⟩ := hl7
  obtain ⟨y1, d1, rfl⟩ := j0.its.val
  obtain ⟨y2, d2, rfl⟩ := j1.its.val
  obtain ⟨y3, d3, rfl⟩ := j2.its.val
  obtain ⟨y4, d4, rfl⟩ := j3.its.val
  obtain ⟨y5, d5, rfl⟩ := j4.its.val
  obtain ⟨fa, fc, rfl⟩ := hf7.frs.val
  have n07 := hs07.grow.next
  have n06 := hs06.grow.next
  have n67 := hs7.grow.next
  have hqlt := S.obj.lt hw
  have ht57 := ht56.same hs7
  have ht5lt := ht57.lt hs07.wf'
  have g1 : free (ctxW w) (.call H6 H7) (.exp [] [H7.next]) = true := free_call_new (Nat.le_refl _)
  have g2 : free (ctxW w) (.call H5 H6) (.exp [] [H7.next]) = true := free_call_new n67
  have g3 : Nat.beq H7.next t5 = false := nbeq' (by omega)
  have g4 : Nat.beq H7.next q = false := nbeq' (by omega)
  simp [lineV]
  refine d_mk hs07.wf' (by simp [g1, g2, g3, g4]) fun t7 H8 ht7 => ?_
  have n7 := ht7.new
  have n7' := ht7.next
  simp
  refine d_store (p := t7) (off := 0) (xs := lineCells Z1 (.slice y1 Z1.a.opens.length d1) (.slice y2 Z1.a.early.length d2) (.slice y3 Z1.b.opens.length d3) (.slice y4 Z1.b.early.length d4) (.slice y5 Z1.fly.length d5)) ht7.same.wf' rfl ht7.obj (by simp) (by simp [lineCells]) (by simp [lineCells]) (by simp) (by simp) (by simp [lineCells]) fun H9 hm9 hn9 ho9 => ?_
  have hs79 : Same H7 H9 := ht7.same.then_mod hm9 (by omega)
  have hs09 := hs07.trans hs79
  simp [lineCells] at ho9
  have st9 : Step [] H col H9 col := Step.of_same hs09 hbare
  have hb7 : Bare col H7 := fun b hb => hbare b (by omega)
  have st79 : Step [] H7 col H9 col := Step.of_same hs79 hb7
  have S9 := S.step st9 (by simp)
  have PL9 : PLine (ctxW w) H9 col Z1 (.slice y1 Z1.a.opens.length d1) (.slice y2 Z1.a.early.length d2) (.slice y3 Z1.b.opens.length d3) (.slice y4 Z1.b.early.length d4) (.slice y5 Z1.fly.length d5) := by
    have hc : ∀ b, H6.next ≤ b → col b = 0 := fun b hb => hbare b (by omega)
    exact ⟨(j0.plain hc).step st79 (by simp), (j1.plain hc).step st79 (by simp), (j2.plain hc).step st79 (by simp), (j3.plain hc).step st79 (by simp), (j4.plain hc).step st79 (by simp)⟩
  have WF9 : WFrs (ctxW w) H9 col (.slice fa Z2.length fc) Z2 := by
    obtain ⟨cs, k1, k2, k3, k4⟩ := hf7
    have : WFrs (ctxW w) H7 col (.slice fa Z2.length fc) Z2 := ⟨cs, k1, k2, fun u hu a n c he hn => hbare _ (by have := k3 u hu a n c he hn; omega), fun a n c he hn => hbare _ (by have := k4 a n c he hn; omega)⟩
    exact this.step st79 (by simp)
  have ht59 := ht57.same hs79
  have ldq9 := fun off n => Obj1.load (C := ctxW w) (off := off) (n := n) S9.obj
  have ld59 := fun off n => Obj1.load (C := ctxW w) (off := off) (n := n) ht59
  have ld79 := fun off n => Obj1.load (C := ctxW w) (off := off) (n := n) ho9
  rcases hok with ⟨hz0, hgrow, hlok', hbeg0, hbeg1⟩ | ⟨hz8, hk1, hop⟩
  rotate_left
  · rw [← hZ] at hz8
    dsimp only at hz8
    have hgo : goS y A = y := by unfold goS; rw [← hZ, if_neg (by dsimp only; omega)]
    rw [hgo]
    have hop' : ((endX y.x A.who).opens.length : Int) = 8 := by omega
    rcases hwho with hw0 | hw1
    · rw [hw0] at hop hop'
      simp [endX] at hop hop'
      simp [hz8, ld59, ldq9, storyCells, hk1, hw0, hop]
      exact ⟨col, st9.more (by simp), _, _, _, _, _, _, _, _, _, S9⟩
    · rw [hw1] at hop hop'
      simp [endX] at hop hop'
      simp [hz8, ld59, ldq9, storyCells, hk1, hw1, hop]
      exact ⟨col, st9.more (by simp), _, _, _, _, _, _, _, _, _, S9⟩
  · rw [← hZ] at hz0 hgrow hlok'
    dsimp only at hz0 hgrow hlok'
    subst hz0
    simp
    obtain ⟨gr1, gr2, gr3, gr4⟩ := hgrow
    have nl1 : ¬ Z1.a.last < y.x.a.last := by omega
    have nl2 : ¬ Z1.a.got < y.x.a.got := by omega
    have nl3 : ¬ Z1.b.last < y.x.b.last := by omega
    have nl4 : ¬ Z1.b.got < y.x.b.got := by omega
    have hto := hears_to (flights_mem.1 hlok.2.2.2) A
    obtain ⟨u, hu, hul⟩ : ∃ u : Nat, hearsA y.x.fly A = u ∧ u ≤ 1 := by
      rcases hto with h | h
      · exact ⟨0, h, by omega⟩
      · exact ⟨1, h, by omega⟩
    rw [hu]
    refine wp_loop' (fun n s => ∃ (T : Env) (i : Nat), s = ⟨T, H9, []⟩ ∧ n = 2 - i ∧ i ≤ 2 ∧ T.val 0 = .pointer (some ⟨q, 0, none⟩) ∧ T.val 5 = .pointer (some ⟨t5, 0, none⟩) ∧ T.val 6 = .int .i64 u ∧ T.val 7 = .pointer (some ⟨t7, 0, none⟩) ∧ T.val 8 = .slice fa Z2.length fc ∧ T.val 10 = .int .i64 i) (n := 2)
      ⟨_, 0, rfl, rfl, Nat.zero_le _, by simp, by simp, by simp, by simp, by simp, by simp⟩ ?_
    rintro n s K ⟨T, i, rfl, rfl, hi, T0, T5, T6, T7, T8, T10⟩ hnext hexit
    by_cases hi0 : i = 0
    · subst hi0
      simp [T0, T7, T10, ld79, ldq9, storyCells, nl1, nl2]
      exact hnext 1 _ (by omega) ⟨_, 1, rfl, rfl, by omega, by simp [T0], by simp [T5], by simp [T6], by simp [T7], by simp [T8], by simp; rfl⟩
    · by_cases hi1 : i = 1
      · subst hi1
        simp [T0, T7, T10, ld79, ldq9, storyCells, nl3, nl4]
        exact hnext 0 _ (by omega) ⟨_, 2, rfl, rfl, by omega, by simp [T0], by simp [T5], by simp [T6], by simp [T7], by simp [T8], by simp; rfl⟩
      · have hi2 : i = 2 := by omega
        subst hi2
        simp [T10]
        refine hexit _ _ (by simp) ?_
        obtain ⟨sp', hsp'⟩ : ∃ sp' : Bool, sp' = (y.sp || decide (A.kind = 6)) := ⟨_, rfl⟩
        simp only [blockK_exit, seqK_normal]
        rw [wpC_seq]
        refine wpC_mono (Q := fun e s => e = .normal ∧ ∃ H10, s = ⟨s.T, H10, []⟩ ∧ s.T.val 0 = .pointer (some ⟨q, 0, none⟩) ∧ s.T.val 5 = .pointer (some ⟨t5, 0, none⟩) ∧ s.T.val 6 = .int .i64 u ∧ s.T.val 7 = .pointer (some ⟨t7, 0, none⟩) ∧ s.T.val 8 = .slice fa Z2.length fc ∧ Mod q H9 H10 ∧
          Obj1 H10 q [.int .i64 y.x.a.last, .slice a1 y.x.a.opens.length c1, .int .i64 y.x.a.got, .slice a2 y.x.a.early.length c2, .int .i64 y.x.b.last, .slice a3 y.x.b.opens.length c3, .int .i64 y.x.b.got, .slice a4 y.x.b.early.length c4, .slice a5 y.x.fly.length c5, sv0, sv1, hv0, hv1, .bool sp']) ?_ ?_
        · cases hsp : y.sp with
          | true =>
            have hspv : sp' = true := by rw [hsp', hsp]; rfl
            simp [T0, ldq9, storyCells, hsp, absent]
            refine w_store (p := q) (off := 13) (xs := [.bool true]) st9.wf' S9.obj (by simp) (by simp) rfl (by simp) (by simp [storyCells]) (by simp) fun H10 hm10 hn10 ho10 => ?_
            simp [storyCells] at ho10
            simp [T0, T5, T6, T7, T8, hspv]
            exact ⟨hm10, ho10⟩
          | false =>
            have hspv : sp' = decide (A.kind = 6) := by rw [hsp', hsp]; rfl
            simp [T0, T5, ldq9, ld59, storyCells, hsp]
            refine w_store (p := q) (off := 13) (xs := [.bool (decide (A.kind = 6))]) st9.wf' S9.obj (by simp) (by simp) rfl (by simp) (by simp [storyCells]) (by simp) fun H10 hm10 hn10 ho10 => ?_
            simp [storyCells] at ho10
            simp [T0, T5, T6, T7, T8, hspv]
            exact ⟨hm10, ho10⟩
        · rintro e s ⟨rfl, H10, hs, T0, T5, T6, T7, T8, hm10, ho10⟩
          rw [hs]
          obtain ⟨T, _, _⟩ := s
          dsimp only at T0 T5 T6 T7 T8 ⊢
          clear hs
          have st10 : Step [1] H col H10 col := (st9.more (by simp)).trans (Step.of_mod hm10 st9.bare (by rw [S.c1]; simp))
          have st910 : Step [1] H9 col H10 col := Step.of_mod hm10 st9.bare (by rw [S.c1]; simp)
          simp only [seqK_normal]
          rw [wpC_seq]
          have R0 := S9.r0.step st910 (by simp) (by simp)
          have R1 := S9.r1.step st910 (by simp) (by simp)
          have R2 := S9.r2.step st910 (by simp) (by simp)
          have R3 := S9.r3.step st910 (by simp) (by simp)
          have ht5c : col t5 = 0 := hbare t5 (by omega)
          have ht510 := Obj1.step st910 ht59 (by rw [ht5c]; simp)
          have ld510 := fun off n => Obj1.load (C := ctxW w) (off := off) (n := n) ht510
          have ldq10 := fun off n => Obj1.load (C := ctxW w) (off := off) (n := n) ho10
          have n910 := st910.grow.next
          refine wpC_mono (Q := fun e s => e = .normal ∧ ∃ (H11 : AHeap) (col11 : Nat → Nat) (n0 n1 : Value), s = ⟨s.T, H11, []⟩ ∧ s.T.val 0 = .pointer (some ⟨q, 0, none⟩) ∧ s.T.val 6 = .int .i64 u ∧ s.T.val 7 = .pointer (some ⟨t7, 0, none⟩) ∧ s.T.val 8 = .slice fa Z2.length fc ∧ Step [1, 2, 3] H10 col H11 col11 ∧
            Obj1 H11 q [.int .i64 y.x.a.last, .slice a1 y.x.a.opens.length c1, .int .i64 y.x.a.got, .slice a2 y.x.a.early.length c2, .int .i64 y.x.b.last, .slice a3 y.x.b.opens.length c3, .int .i64 y.x.b.got, .slice a4 y.x.b.early.length c4, .slice a5 y.x.fly.length c5, n0, n1, hv0, hv1, .bool sp'] ∧
            WRow (ctxW w) H11 col11 2 n0 (if A.kind = 1 ∧ A.who = 0 then y.s0 ++ [A.data] else y.s0) ∧ WRow (ctxW w) H11 col11 3 n1 (if A.kind = 1 ∧ A.who ≠ 0 then y.s1 ++ [A.data] else y.s1)) ?_ ?_
          · by_cases hk1 : A.kind = 1
            · obtain ⟨t, hwt, htl⟩ : ∃ t : Nat, A.who = t ∧ t ≤ 1 := by
                rcases hwho with h | h
                · exact ⟨0, h, by omega⟩
                · exact ⟨1, h, by omega⟩
              have ht2 : (t : Int) < 2 := by omega
              obtain ⟨sv, hsv⟩ : ∃ sv, sv = if t = 0 then sv0 else sv1 := ⟨_, rfl⟩
              obtain ⟨sl, hsl⟩ : ∃ sl, sl = if t = 0 then y.s0 else y.s1 := ⟨_, rfl⟩
              have lsv : loadN (ctxW w) H10.get ⟨q, 9 + t, none⟩ 1 = some [sv] := by
                rw [hsv]
                rcases (by omega : t = 0 ∨ t = 1) with rfl | rfl
                · simp [ldq10]
                · simp [ldq10]
              have Rs : WRow (ctxW w) H10 col (2 + t) sv sl := by
                rw [hsv, hsl]
                rcases (by omega : t = 0 ∨ t = 1) with rfl | rfl
                · simpa using R0
                · simpa using R1
              have hsll : sl.length ≤ 1000 := by
                rw [hsl]
                split
                · exact hsm.2.1
                · exact hsm.2.2.1
              obtain ⟨sa, sc, rfl⟩ := Rs.val
              have hq10lt := ho10.lt st10.wf'
              have ht510lt := ht510.lt st10.wf'
              have e1 : Nat.beq H10.next q = false := nbeq' (by omega)
              have e2 : Nat.beq H10.next t5 = false := nbeq' (by omega)
              simp [T0, T5, ld510, hk1, hwt, ht2, lsv]
              refine d_bs (esz := 1) (cs := []) st10.wf' (by simp [e1, e2]) (by simp) (by simp) (by simp) fun q11 H11 hq11 hb11 => ?_
              have n11 := hq11.new
              have n11' := hq11.next
              have st11 : Step [] H10 col H11 col := Step.of_same hq11.same st10.bare
              have ht511 := ht510.same hq11.same
              have ld511 := fun off n => Obj1.load (C := ctxW w) (off := off) (n := n) ht511
              have e3 : Nat.beq q11 t5 = false := nbeq' (by omega)
              simp [T5, ld511, e3]
              have hd10 : Bs (ctxW w) H10 (.slice da A.data.length dc) A.data := by
                have hd9 : Bs (ctxW w) H9 (.slice da A.data.length dc) A.data := (((hd4.same hs5).same hs6).same hs7).same hs79
                exact Bs.step st910 (by simp) hd9 (fun a n c he hn => by cases he; exact hbare _ (hdn4 a rfl hn))
              have hqn : q11 ≠ q := by omega
              have ht5n : q11 ≠ t5 := by omega
              refine d_app' (g := q11) (n := 0) (m := A.data.length) (cs := []) (xs := A.data.map u8v) hq11.same.wf' (by simpa using hb11) (by simp; exact hd10.same hq11.same) (u8_scalar A.data) (by simp [roomy]; omega)
                (fun rd' md hmd => by
                  have hf1 := free_rd_mod (C := ctxW w) (ri := rd') (mi := md) (x := q) fun y hy => by rw [hmd y hy]; exact hqn
                  have hf2 := free_rd_mod (C := ctxW w) (ri := rd') (mi := md) (x := t5) fun y hy => by rw [hmd y hy]; exact ht5n
                  simp [hf1, hf2]) fun r12 H12 rd' md hm12 hb12 hmd hrd => ?_
              have hs1012 : Same H10 H12 := hq11.same.then_mod hm12 (by omega)
              have hb12r : Bs (ctxW w) H12 r12 A.data := by
                have := hb12.row (C := ctxW w)
                simpa [Bs] using this
              have hr12 : ∀ a n c, r12 = .slice (some a) n c → n ≠ 0 → H10.next ≤ a.block := by
                intro a n c he hn
                obtain ⟨a', he', hbl, _⟩ := hb12.load (C := ctxW w)
                rw [he] at he'
                cases he'
                omega
              obtain ⟨ra, rc, rfl⟩ := hb12r.val
              have n12 := hs1012.grow.next
              have e4 : Nat.beq H12.next q = false := nbeq' (by omega)
              have e5 : Nat.beq H12.next t5 = false := nbeq' (by omega)
              simp
              refine d_bs (esz := 1) (cs := [.slice ra A.data.length rc]) hs1012.wf' (by simp [e4, e5]) (by simp) (by simp) (by simp) fun q13 H13 hq13 hb13 => ?_
              have hs1013 := hs1012.trans hq13.same
              have st13 : Step [] H10 col H13 col := Step.of_same hs1013 st10.bare
              have Rs13 := Rs.step st13 (by simp) (by simp)
              obtain ⟨g, cs, k1, k2, k3, k4⟩ := Rs13
              have n13 := hs1013.grow.next
              simp
              refine d_appV (g := g) (n := sl.length) (m := 1) (cs := cs) (xs := [.slice ra A.data.length rc]) st13.wf' (by simpa using k1) (by omega) (by simpa using hb13.row) (by simp) (by simp) (by simp [roomy]; omega) (fun rd'' md'' hmd'' => by
                have hf := free_rd_mod (C := ctxW w) (ri := rd'') (mi := md'') (x := t5) fun y hy => by
                  rcases hmd'' y hy with ⟨hn, rfl⟩ | rfl
                  · rintro rfl
                    have := k2 (by simpa using hn)
                    rw [ht5c] at this
                    omega
                  · omega
                simp [hf]) fun v14 H14 rd14 md14 g14 hg14 hb14 => ?_
              simp at hg14
              have hd13 : Bs (ctxW w) H13 (.slice ra A.data.length rc) A.data := hb12r.same hq13.same
              obtain ⟨col14, st14, w14⟩ := WRow.app (k := 2 + t) (fr := [A.data]) (xs := [.slice ra A.data.length rc]) st13.wf' st13.bare (by omega) k2 k3 k4 (.cons hd13 .nil) (fun uu hu' a n c he hn => by
                simp at hu'
                rw [hu'] at he
                exact hbare _ (by have := hr12 a n c he hn; omega)) hg14 hb14
              obtain ⟨ea, ec, rfl⟩ := w14.val
              have hq13' : Obj1 H13 q _ := ho10.same hs1013
              have hq14 := Obj1.step st14 hq13' (by rw [S.c1]; simp; omega)
              have hcq14 : col14 q = 1 := by rw [st14.keep q (hq13'.lt st13.wf')]; exact S.c1
              simp [ht2]
              refine d_store (p := q) (off := 9 + t) (xs := [.slice ea (sl ++ [A.data]).length ec]) st14.wf' rfl hq14 (by simp) (by simp) rfl (by simp) (by simp; omega) (by simp) fun H15 hm15 hn15 ho15 => ?_
              have st15 : Step [1] H14 col14 H15 col14 := Step.of_mod hm15 st14.bare (by rw [hcq14]; simp)
              have stA : Step [1, 2, 3] H10 col H15 col14 := ((st13.more (by simp)).trans (st14.more (by simp; omega))).trans (st15.more (by simp))
              have st1015 : Step [1, 2 + t] H10 col H15 col14 := ((st13.more (by simp)).trans (st14.more (by simp))).trans (st15.more (by simp))
              have w15 := w14.step st15 (by simp) (by simp; omega)
              simp [T0, T6, T7, T8]
              rcases (by omega : t = 0 ∨ t = 1) with rfl | rfl
              · simp at hsl hsv
                subst hsl
                refine ⟨col14, stA, _, sv1, by simpa using ho15, ?_, ?_⟩
                · simpa [hk1, hwt] using w15
                · have := R1.step st1015 (by simp) (by simp)
                  simpa [hk1, hwt] using this
              · simp at hsl hsv
                subst hsl
                refine ⟨col14, stA, sv0, _, by simpa using ho15, ?_, ?_⟩
                · have := R0.step st1015 (by simp) (by simp)
                  simpa [hk1, hwt] using this
                · simpa [hk1, hwt] using w15
            · have c0 : (if A.kind = 1 ∧ A.who = 0 then y.s0 ++ [A.data] else y.s0) = y.s0 := if_neg (fun h => hk1 h.1)
              have c1' : (if A.kind = 1 ∧ A.who ≠ 0 then y.s1 ++ [A.data] else y.s1) = y.s1 := if_neg (fun h => hk1 h.1)
              rw [c0, c1']
              simp [T0, T5, T6, T7, T8, ld510, hk1]
              exact ⟨col, Step.of_same (Same.refl st10.wf') st10.bare, sv0, sv1, ho10, R0, R1⟩
          · rintro e s ⟨rfl, H11, col11, n0, n1, hs, T0, T6, T7, T8, st11, ho11, N0, N1⟩
            rw [hs]
            obtain ⟨T, _, _⟩ := s
            dsimp only at T0 T6 T7 T8 ⊢
            clear hs
            obtain ⟨SS0, hSS0⟩ : ∃ SS0, SS0 = if A.kind = 1 ∧ A.who = 0 then y.s0 ++ [A.data] else y.s0 := ⟨_, rfl⟩
            obtain ⟨SS1, hSS1⟩ : ∃ SS1, SS1 = if A.kind = 1 ∧ A.who ≠ 0 then y.s1 ++ [A.data] else y.s1 := ⟨_, rfl⟩
            rw [← hSS0] at N0
            rw [← hSS1] at N1
            have st911 : Step [1, 2, 3] H9 col H11 col11 := (st910.more (by simp)).trans st11
            have ht7c : col t7 = 0 := hbare t7 (by omega)
            have ht711 := Obj1.step st911 ho9 (by rw [ht7c]; simp)
            have ld711 := fun off n => Obj1.load (C := ctxW w) (off := off) (n := n) ht711
            have hq10lt := ho10.lt st10.wf'
            have hcq11 : col11 q = 1 := by rw [st11.keep q hq10lt]; exact S.c1
            simp only [seqK_normal]
            rw [wpC_seq, wpC_region]
            simp [T0, T7, ld711]
            refine w_store (p := q) (off := 0) (xs := lineCells Z1 (.slice y1 Z1.a.opens.length d1) (.slice y2 Z1.a.early.length d2) (.slice y3 Z1.b.opens.length d3) (.slice y4 Z1.b.early.length d4) (.slice y5 Z1.fly.length d5)) st11.wf' ho11 (by simp) (by simp [lineCells]) (by simp [lineCells]) (by simp) (by simp) (by simp [lineCells]) fun H12 hm12 hn12 ho12 => ?_
            simp [lineCells] at ho12
            have st12 : Step [1] H11 col11 H12 col11 := Step.of_mod hm12 st11.bare (by rw [hcq11]; simp)
            have st912 : Step [1, 2, 3] H9 col H12 col11 := st911.trans (st12.more (by simp))
            rw [wpO_nil]
            simp only [regK, seqK_normal]
            rw [wpC_seq]
            have st1012 : Step [1, 2, 3] H10 col H12 col11 := st11.trans (st12.more (by simp))
            have M2 := R2.step st1012 (by simp) (by simp)
            have M3 := R3.step st1012 (by simp) (by simp)
            have N0' := N0.step st12 (by simp) (by simp)
            have N1' := N1.step st12 (by simp) (by simp)
            have WF12 := WF9.step st912 (by simp)
            have ldq12 := fun off n => Obj1.load (C := ctxW w) (off := off) (n := n) ho12
            refine wpC_mono (Q := fun e s => e = .normal ∧ ∃ (H13 : AHeap) (col13 : Nat → Nat) (m0 m1 : Value), s = ⟨s.T, H13, []⟩ ∧ s.T.val 0 = .pointer (some ⟨q, 0, none⟩) ∧ s.T.val 7 = .pointer (some ⟨t7, 0, none⟩) ∧ Step [1, 4, 5] H12 col11 H13 col13 ∧
              Obj1 H13 q [.int .i64 Z1.a.last, .slice y1 Z1.a.opens.length d1, .int .i64 Z1.a.got, .slice y2 Z1.a.early.length d2, .int .i64 Z1.b.last, .slice y3 Z1.b.opens.length d3, .int .i64 Z1.b.got, .slice y4 Z1.b.early.length d4, .slice y5 Z1.fly.length d5, n0, n1, m0, m1, .bool sp'] ∧
              WRow (ctxW w) H13 col13 4 m0 (if u = 0 then y.h0 ++ Z2 else y.h0) ∧ WRow (ctxW w) H13 col13 5 m1 (if u ≠ 0 then y.h1 ++ Z2 else y.h1)) ?_ ?_
            · have ht2 : (u : Int) < 2 := by omega
              obtain ⟨sv, hsv⟩ : ∃ sv, sv = if u = 0 then hv0 else hv1 := ⟨_, rfl⟩
              obtain ⟨sl, hsl⟩ : ∃ sl, sl = if u = 0 then y.h0 else y.h1 := ⟨_, rfl⟩
              have lsv : loadN (ctxW w) H12.get ⟨q, 11 + u, none⟩ 1 = some [sv] := by
                rw [hsv]
                rcases (by omega : u = 0 ∨ u = 1) with rfl | rfl
                · simp [ldq12]
                · simp [ldq12]
              have Rs : WRow (ctxW w) H12 col11 (4 + u) sv sl := by
                rw [hsv, hsl]
                rcases (by omega : u = 0 ∨ u = 1) with rfl | rfl
                · simpa using M2
                · simpa using M3
              have hsll : sl.length ≤ 1000 := by
                rw [hsl]
                split
                · exact hsm.2.2.2.1
                · exact hsm.2.2.2.2
              obtain ⟨sa, sc, rfl⟩ := Rs.val
              simp [T0, T6, T8, ht2, lsv]
              obtain ⟨g, cs, k1, k2, k3, k4⟩ := id Rs
              obtain ⟨xs, f1, f2, f3, f4⟩ := WF12
              by_cases hf0 : Z2 = []
              · have hl0 : Z2.length = 0 := by rw [hf0]; rfl
                have hxs : xs = [] := List.length_eq_zero_iff.1 (by rw [f1.len]; exact hl0)
                subst hxs
                refine d_appZ (g := g) (n := sl.length) (cs := cs) (by simpa using k1) (by rw [hl0] at f2; simpa [hl0] using f2) (fun rd' => by simp) fun rd' => ?_
                simp [ht2]
                refine d_store (p := q) (off := 11 + u) (xs := [.slice sa sl.length sc]) st12.wf' rfl ho12 (by simp) (by simp) rfl (by simp) (by simp; omega) (by simp) fun H13 hm13 hn13 ho13 => ?_
                have st13 : Step [1] H12 col11 H13 col11 := Step.of_mod hm13 st12.bare (by rw [hcq11]; simp)
                have M2' := M2.step st13 (by simp) (by simp)
                have M3' := M3.step st13 (by simp) (by simp)
                simp [T0, T7]
                rcases (by omega : u = 0 ∨ u = 1) with rfl | rfl
                · simp at hsl hsv
                  subst hsl
                  refine ⟨col11, st13.more (by simp), _, hv1, by simpa using ho13, ?_, ?_⟩
                  · rw [← hsv] at M2'; simpa [hf0] using M2'
                  · simpa using M3'
                · simp at hsl hsv
                  subst hsl
                  refine ⟨col11, st13.more (by simp), hv0, _, by simpa using ho13, ?_, ?_⟩
                  · simpa using M2'
                  · rw [← hsv] at M3'; simpa [hf0] using M3'
              · have hl0 : Z2.length ≠ 0 := fun h => hf0 (List.length_eq_zero_iff.1 h)
                refine d_appW (g := g) (n := sl.length) (m := Z2.length) (cs := cs) (xs := xs) st12.wf' (by simpa using k1) (by omega) (by simpa using f2) hl0 f1.scal (by simp [roomy]; omega) (by simp) fun v13 H13 rd13 md13 g13 hg13 hb13 => ?_
                simp at hg13
                obtain ⟨col13, st13, w13⟩ := WRow.app (k := 4 + u) st12.wf' st12.bare (by omega) k2 k3 k4 f1 f3 hg13 hb13
                obtain ⟨ea, ec, rfl⟩ := w13.val
                have hq13 := Obj1.step st13 ho12 (by rw [hcq11]; simp; omega)
                have hcq13 : col13 q = 1 := by rw [st13.keep q (ho12.lt st12.wf')]; exact hcq11
                simp [ht2]
                refine d_store (p := q) (off := 11 + u) (xs := [.slice ea (sl ++ Z2).length ec]) st13.wf' rfl hq13 (by simp) (by simp) rfl (by simp) (by simp; omega) (by simp) fun H14 hm14 hn14 ho14 => ?_
                have st14 : Step [1] H13 col13 H14 col13 := Step.of_mod hm14 st13.bare (by rw [hcq13]; simp)
                have stA : Step [1, 4 + u] H12 col11 H14 col13 := (st13.more (by simp)).trans (st14.more (by simp))
                have w14 := w13.step st14 (by simp) (by simp; omega)
                simp [T0, T7]
                rcases (by omega : u = 0 ∨ u = 1) with rfl | rfl
                · simp at hsl hsv
                  subst hsl
                  refine ⟨col13, stA.more (by simp), _, hv1, by simpa using ho14, ?_, ?_⟩
                  · simpa using w14
                  · simpa using M3.step stA (by simp) (by simp)
                · simp at hsl hsv
                  subst hsl
                  refine ⟨col13, stA.more (by simp), hv0, _, by simpa using ho14, ?_, ?_⟩
                  · simpa using M2.step stA (by simp) (by simp)
                  · simpa using w14
            · rintro e s ⟨rfl, H13, col13, m0, m1, hs, T0, T7, st13, ho13, M0', M1'⟩
              rw [hs]
              obtain ⟨T, _, _⟩ := s
              dsimp only at T0 T7 ⊢
              clear hs
              have hgo : goS y A = ⟨Z1, SS0, SS1, if u = 0 then y.h0 ++ Z2 else y.h0, if u ≠ 0 then y.h1 ++ Z2 else y.h1, sp'⟩ := by
                unfold goS
                rw [← hZ]
                dsimp only
                rw [if_pos rfl, hu, hSS0, hSS1, hsp']
                rcases (by omega : u = 0 ∨ u = 1) with rfl | rfl
                · simp
                · simp
              rw [hgo] at hbeg0 hbeg1 ⊢
              dsimp only at hbeg0 hbeg1
              obtain ⟨HH0, hHH0⟩ : ∃ HH0, HH0 = if u = 0 then y.h0 ++ Z2 else y.h0 := ⟨_, rfl⟩
              obtain ⟨HH1, hHH1⟩ : ∃ HH1, HH1 = if u ≠ 0 then y.h1 ++ Z2 else y.h1 := ⟨_, rfl⟩
              rw [← hHH0] at M0' hbeg0 ⊢
              rw [← hHH1] at M1' hbeg1 ⊢
              have hl0 : HH0.length ≤ 2000 := by
                rw [hHH0]
                have := hsm.2.2.2.1
                split
                · rw [List.length_append]; omega
                · omega
              have hl1 : HH1.length ≤ 2000 := by
                rw [hHH1]
                have := hsm.2.2.2.2
                split
                · rw [List.length_append]; omega
                · omega
              have hls0 : SS0.length ≤ 1001 := by
                rw [hSS0]
                have := hsm.2.1
                split
                · simp; omega
                · omega
              have hls1 : SS1.length ≤ 1001 := by
                rw [hSS1]
                have := hsm.2.2.1
                split
                · simp; omega
                · omega
              have st913 : Step [1, 2, 3, 4, 5] H9 col H13 col13 := (st912.more (by simp)).trans (st13.more (by simp))
              have stall : Step [1, 2, 3, 4, 5] H col H13 col13 := (st9.more (by simp)).trans st913
              have ht713 := Obj1.step st913 ho9 (by rw [ht7c]; simp)
              have PL13 := PL9.step st913 (by simp)
              have hq12lt := ho12.lt st12.wf'
              have SW13 : SW (ctxW w) H13 col13 q (.slice y1 Z1.a.opens.length d1) (.slice y2 Z1.a.early.length d2) (.slice y3 Z1.b.opens.length d3) (.slice y4 Z1.b.early.length d4) (.slice y5 Z1.fly.length d5) n0 n1 m0 m1 ⟨Z1, SS0, SS1, HH0, HH1, sp'⟩ :=
                ⟨by simpa [storyCells] using ho13, by rw [st13.keep q hq12lt]; exact hcq11, PL13, N0'.step st13 (by simp) (by simp), N1'.step st13 (by simp) (by simp), M0', M1'⟩
              have ld713 := fun off n => Obj1.load (C := ctxW w) (off := off) (n := n) ht713
              obtain ⟨na, nc, rfl⟩ := SW13.r0.val
              obtain ⟨nb, nd, rfl⟩ := SW13.r1.val
              obtain ⟨ma, mc, rfl⟩ := SW13.r2.val
              obtain ⟨mb, md, rfl⟩ := SW13.r3.val
              simp [T7, ld713]
              have hcall := isLine_spec w st913.wf' PL13.r (by have := early_len hlok'.1; have := early_len hlok'.2.1; omega)
              simp only [lineV] at hcall
              refine wpCall_mono hcall ?_
              rintro _ H14 ⟨hs14, b14, rfl, hb14⟩
              have : b14 = true := hb14.2 hlok'
              subst this
              have st14 : Step [] H13 col13 H14 col13 := Step.of_same hs14 st13.bare
              have SW14 := SW13.step st14 (by simp)
              have ldq14 := fun off n => Obj1.load (C := ctxW w) (off := off) (n := n) SW14.obj
              simp [T0, ldq14, storyCells]
              refine wpCall_mono (begins_spec w (l := HH0) (m := SS1) SW14.r2.frs SW14.r1 (by omega) (by omega)) ?_
              rintro _ H15 ⟨rfl, rfl⟩
              rw [decide_eq_true hbeg0]
              simp [T0, ldq14, storyCells]
              refine wpCall_mono (begins_spec w (l := HH1) (m := SS0) SW14.r3.frs SW14.r0 (by omega) (by omega)) ?_
              rintro _ H16 ⟨rfl, rfl⟩
              rw [decide_eq_true hbeg1]
              simp
              exact ⟨col13, stall.trans (st14.more (by simp)), _, _, _, _, _, _, _, _, _, SW14⟩
end Go.Ai.Wire
