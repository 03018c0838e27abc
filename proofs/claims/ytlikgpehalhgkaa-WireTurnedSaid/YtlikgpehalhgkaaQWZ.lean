/-
  The walk of 'WireTurned'.
-/
import Derived.Test.YtlikgpehalhgkaaQWY
namespace Go.Ai.Wire
open Go.Proofs Go.IntWalk
attribute [local irreducible] Trie.put

theorem doF_ok {x : LineA} (hok : LineOK x) (a : ActA) (h : (doF x a).2.2 = 0) : LineOK (doF x a).1 := by
  have h2 := doW_ok (y := ⟨x, [], []⟩) hok a
  unfold doF at h ⊢
  rw [if_pos hok] at h ⊢
  split
  · exact h2
  · rename_i hn
    rw [if_neg hn] at h
    exact absurd h hn

theorem LineF.pline {C : Ctx} {H : AHeap} {col : Nat → Nat} {lo : Nat} {x : LineA} {v : Value} (h : LineF C H lo x v) (hc : ∀ b, lo ≤ b → col b = 0) : ∃ o0 e0 o1 e1 f, v = lineV x.a.last o0 x.a.got e0 x.b.last o1 x.b.got e1 f ∧ PLine C H col x o0 e0 o1 e1 f := by
  obtain ⟨o0, e0, o1, e1, f, rfl, h0, h1, h2, h3, h4⟩ := h
  exact ⟨_, _, _, _, _, rfl, h0.plain hc, h1.plain hc, h2.plain hc, h3.plain hc, h4.plain hc⟩

/-- The line and the turned one. -/
def TI (C : Ctx) (H : AHeap) (col : Nat → Nat) (q t : Nat) (x : LineA) (sp : Bool) : Prop := ∃ a1 c1 a2 c2 a3 c3 a4 c4 a5 c5 u1 v1 u2 v2 u3 v3 u4 v4 u5 v5,
  Obj1 H q (storyCells ⟨x, [], [], [], [], sp⟩ (.slice a1 x.a.opens.length c1) (.slice a2 x.a.early.length c2) (.slice a3 x.b.opens.length c3) (.slice a4 x.b.early.length c4) (.slice a5 x.fly.length c5) (.slice none 0 0) (.slice none 0 0) (.slice none 0 0) (.slice none 0 0)) ∧
  PLine C H col x (.slice a1 x.a.opens.length c1) (.slice a2 x.a.early.length c2) (.slice a3 x.b.opens.length c3) (.slice a4 x.b.early.length c4) (.slice a5 x.fly.length c5) ∧
  Obj1 H t (lineCells (turnL x) (.slice u1 (turnL x).a.opens.length v1) (.slice u2 (turnL x).a.early.length v2) (.slice u3 (turnL x).b.opens.length v3) (.slice u4 (turnL x).b.early.length v4) (.slice u5 (turnL x).fly.length v5)) ∧
  PLine C H col (turnL x) (.slice u1 (turnL x).a.opens.length v1) (.slice u2 (turnL x).a.early.length v2) (.slice u3 (turnL x).b.opens.length v3) (.slice u4 (turnL x).b.early.length v4) (.slice u5 (turnL x).fly.length v5)

theorem TI.step {C : Ctx} {H H' : AHeap} {col col' : Nat → Nat} {q t : Nat} {x : LineA} {sp : Bool} (hs : Step [] H col H' col') (h : TI C H col q t x sp) : TI C H' col' q t x sp := by
  obtain ⟨a1, c1, a2, c2, a3, c3, a4, c4, a5, c5, u1, v1, u2, v2, u3, v3, u4, v4, u5, v5, h1, h2, h3, h4⟩ := h
  exact ⟨a1, c1, a2, c2, a3, c3, a4, c4, a5, c5, u1, v1, u2, v2, u3, v3, u4, v4, u5, v5, Obj1.step hs h1 (by simp), h2.step hs (by simp), Obj1.step hs h3 (by simp), h4.step hs (by simp)⟩

theorem otherA_data (a : ActA) : (otherA a).data = a.data := by unfold otherA; split <;> rfl

set_option maxHeartbeats 8000000 in
theorem wireTurned_walk (w : World) {H : AHeap} (hw : WF H) {v : Value} {l : List (UInt8 × UInt8 × UInt8)} (hv : Row (ctxW w) H v 3 l.length (trip l)) :
    wpCall (ctxW w) (.func (.func 9) #[] #[]) [v] H fun r _ => r = .bool true := by
  obtain ⟨_, a, c, rfl, _, hld⟩ := id hv
  refine wpCall_fn rfl (get9 w) ?_
  simp [ir9]
  refine wpCall_mono (new_spec w hw) ?_
  rintro _ H1 ⟨hs1, rfl⟩
  simp [lineV]
  refine w_box (cs := storyCells ⟨zeroL, [], [], [], [], false⟩ (.slice none 0 0) (.slice none 0 0) (.slice none 0 0) (.slice none 0 0) (.slice none 0 0) (.slice none 0 0) (.slice none 0 0) (.slice none 0 0) (.slice none 0 0)) hs1.wf' (by simp [storyCells, zeroL]) (by simp [storyCells]) (by simp [storyCells]) fun q H2 hq => ?_
  have hs02 := hs1.trans hq.same
  have n1 := hs1.grow.next
  have nq := hq.new
  have nq' := hq.next
  simp
  refine wpCall_mono (new_spec w hs02.wf') ?_
  rintro _ H3 ⟨hs3, rfl⟩
  have hs03 := hs02.trans hs3
  have n3 := hs3.grow.next
  simp [lineV]
  refine w_mk hs03.wf' fun t H4 ht => ?_
  have nt := ht.new
  have nt' := ht.next
  simp
  refine w_store (p := t) (off := 0) (xs := lineCells zeroL (.slice none 0 0) (.slice none 0 0) (.slice none 0 0) (.slice none 0 0) (.slice none 0 0)) ht.same.wf' ht.obj (by simp) (by simp [lineCells, zeroL]) rfl (by simp) (by simp) (by simp [lineCells]) fun H5 hm5 hn5 ho5 => ?_
  simp [lineCells, zeroL] at ho5
  have hs35 : Same H3 H5 := ht.same.then_mod hm5 (by omega)
  have hs05 := hs03.trans hs35
  have hq5 := (hq.obj.same hs3).same hs35
  obtain ⟨col, hcol⟩ : ∃ col : Nat → Nat, col = fun b => if b = q then 1 else if b = t then 2 else 0 := ⟨_, rfl⟩
  have hcq : col q = 1 := by rw [hcol]; simp
  have hct : col t = 2 := by rw [hcol]; dsimp only; rw [if_neg (by omega)]; simp
  have hco : ∀ b, b ≠ q → b ≠ t → col b = 0 := fun b h1 h2 => by rw [hcol]; dsimp only; rw [if_neg h1, if_neg h2]
  have hbare : Bare col H5 := fun b hb => hco b (by omega) (by omega)
  have TI0 : TI (ctxW w) H5 col q t zeroL false := ⟨none, 0, none, 0, none, 0, none, 0, none, 0, none, 0, none, 0, none, 0, none, 0, none, 0, hq5, ⟨PIts.nil _ _ _, PIts.nil _ _ _, PIts.nil _ _ _, PIts.nil _ _ _, PIts.nil _ _ _⟩, ho5, ⟨PIts.nil _ _ _, PIts.nil _ _ _, PIts.nil _ _ _, PIts.nil _ _ _, PIts.nil _ _ _⟩⟩

  simp
  refine wp_loop' (fun n s => ∃ (T : Env) (Hc : AHeap) (i : Nat) (x : LineA) (sp : Bool), s = ⟨T, Hc, []⟩ ∧ n = l.length - i ∧ i ≤ l.length ∧ i ≤ 80 ∧ T.val 0 = .slice a l.length c ∧ T.val 2 = .bool false ∧ T.val 3 = .pointer (some ⟨q, 0, none⟩) ∧ T.val 4 = .pointer (some ⟨t, 0, none⟩) ∧ T.val 5 = .int .i64 i ∧
    Step [1, 2] H5 col Hc col ∧ TI (ctxW w) Hc col q t x sp ∧ LineOK x) (n := l.length)
    ⟨_, H5, 0, zeroL, false, rfl, rfl, Nat.zero_le _, Nat.zero_le _, by simp, by simp, by simp, by simp, by simp, Step.of_same (Same.refl hs05.wf') hbare, TI0, zero_inv.ok⟩ ?_
  rintro n s K ⟨T, Hc, i, x, sp, rfl, rfl, hil, hi80, t0, t2, t3, t4, t5, st, ⟨a1, c1, a2, c2, a3, c3, a4, c4, a5, c5, u1, v1, u2, v2, u3, v3, u4, v4, u5, v5, hoq, hpq, hot, hpt⟩, hlok⟩ hnext hexit
  have hsm := lineS_ok hlok
  have hsmT := lineS_ok (turnL_ok hlok)
  have done : ∀ T' : Env, T'.val 3 = .pointer (some ⟨q, 0, none⟩) → K (.exit 0) ⟨T', Hc, []⟩ := by
    intro T' t3'
    refine hexit _ _ (by simp) ?_
    have ldq := fun off n => Obj1.load (C := ctxW w) (off := off) (n := n) hoq
    simp [t3', ldq, storyCells]
    have hcall := turned_spec w st.wf' hpq.r hlok
    simp only [lineV] at hcall
    refine wpCall_mono hcall ?_
    rintro r6 H6 ⟨hs6, hl6⟩
    simp
    refine wpCall_mono (turn_spec w hs6.wf' hl6.r hsmT) ?_
    rintro r7 H7 ⟨hs7, lv, e, rfl, ⟨_, rfl, hl7⟩ | ⟨hbad, _⟩⟩
    rotate_left
    · exact absurd (turnL_ok hlok) hbad
    rw [turn_turn] at hl7
    have hs07 := hs6.trans hs7
    have n7 := hs07.grow.next
    obtain ⟨x0, x1, x2, x3, x4, rfl, PN⟩ := hl7.pline (col := col) (fun b hb => st.bare b (by have := hs6.grow.next; omega))
    obtain ⟨v1', w1', rfl⟩ := PN.i0.val
    obtain ⟨v2', w2', rfl⟩ := PN.i1.val
    obtain ⟨v3', w3', rfl⟩ := PN.i2.val
    obtain ⟨v4', w4', rfl⟩ := PN.i3.val
    obtain ⟨v5', w5', rfl⟩ := PN.i4.val
    simp [lineV]
    refine w_mk hs07.wf' fun t14 H8 ht14 => ?_
    have n14 := ht14.new
    have n14' := ht14.next
    have hqlt := hoq.lt st.wf'
    refine w_store (p := t14) (off := 0) (xs := lineCells x (.slice v1' x.a.opens.length w1') (.slice v2' x.a.early.length w2') (.slice v3' x.b.opens.length w3') (.slice v4' x.b.early.length w4') (.slice v5' x.fly.length w5')) ht14.same.wf' ht14.obj (by simp) (by simp [lineCells]) rfl (by simp) (by simp) (by simp [lineCells]) fun H9 hm9 hn9 ho9 => ?_
    simp [lineCells] at ho9
    have hs79 : Same H7 H9 := ht14.same.then_mod hm9 (by omega)
    have hs09 := hs07.trans hs79
    have ld9 := fun off n => Obj1.load (C := ctxW w) (off := off) (n := n) ho9
    have ldq9 := fun off n => Obj1.load (C := ctxW w) (off := off) (n := n) (hoq.same hs09)
    simp [t3', ld9, ldq9, storyCells]
    have hcall := sameLine_spec w hs79.wf' (PN.r.same hs79) (hpq.r.same hs09) hsm
    simp only [lineV] at hcall
    refine wpCall_mono hcall ?_
    rintro _ H10 ⟨hs10, b10, rfl, hb10⟩
    have : b10 = true := hb10.2 trivial
    subst this
    simp
    refine wpCall_mono (awake_spec w) ?_
    rintro _ H11 ⟨rfl, rfl⟩
    simp
  by_cases hlt : i < l.length
  · have e1 : (i : Int) < l.length := by omega
    by_cases h80 : i < 80
    · have e2 : (i : Int) < 80 := by omega
      obtain ⟨b, rfl⟩ : ∃ b, a = some b := by
        cases a with
        | some b => exact ⟨b, rfl⟩
        | none =>
          obtain ⟨_, a', c', he, h0, _⟩ := hv
          cases he
          have := (h0 rfl).1
          omega
      have hl1 : loadN (ctxW w) H.get b (l.length * 3) = some (trip l) := hld b rfl (by have := trip_len l; omega)
      have hl2 := loadN_sub hl1 (i := i * 3) (m := 3) (by omega)
      rw [trip_at hlt] at hl2
      have hblt : b.block < H.next := load_lt hw hl1
      have hl3 : loadN (ctxW w) Hc.get (aadd b (i * 3)) 3 = some [u8v l[i].1, u8v l[i].2.1, u8v l[i].2.2] := by
        have hsame : Hc.get (aadd b (i * 3)).block = H.get (aadd b (i * 3)).block := by
          show Hc.get b.block = H.get b.block
          rw [st.same b.block (by omega) (by rw [hco _ (by omega) (by omega)]; simp), hs05.same _ hblt]
        rw [loadN_congr (M := H.get) hsame]
        exact hl2
      simp [t0, t3, t5, e1, e2, hl3]
      have hcall := act_spec w st.wf' (q := q) (cs0 := [.int .i64 x.a.last, .slice a1 x.a.opens.length c1, .int .i64 x.a.got, .slice a2 x.a.early.length c2, .int .i64 x.b.last, .slice a3 x.b.opens.length c3, .int .i64 x.b.got, .slice a4 x.b.early.length c4]) rfl hoq hpq.i4.its (by have := hlok.2.2.1; omega) (fun f hf => by have := (flights_mem.1 hlok.2.2.2 f hf).2.2; omega) l[i].1 l[i].2.1 l[i].2.2
      simp only [u8v]
      refine wpCall_mono hcall ?_
      rintro r6 H6 ⟨hs6, da, dc, rfl, hd6, hdn⟩
      obtain ⟨hf, h6⟩ := actS_fine hlok sp l[i].1 l[i].2.1 l[i].2.2
      have hdatl : (actS x.fly sp l[i].1 l[i].2.1 l[i].2.2).data.length ≤ 9 := actS_data _ _ _ _ _
      have hwho := actS_kind x.fly sp l[i].1 l[i].2.1 l[i].2.2
      generalize actS x.fly sp l[i].1 l[i].2.1 l[i].2.2 = A at hd6 hdn hf h6 hdatl hwho ⊢
      have n6 := hs6.grow.next
      simp [actV]
      refine w_mk hs6.wf' fun t6 H7 ht6 => ?_
      have nt6 := ht6.new
      have nt6' := ht6.next
      refine w_store (p := t6) (off := 0) (xs := actC A (.slice da A.data.length dc)) ht6.same.wf' ht6.obj (by simp) (by simp [actC]) (by simp [actC]) (by simp) (by simp) (by simp [actC]) fun H8 hm8 hn8 ho8 => ?_
      have hs68 : Same H6 H8 := ht6.same.then_mod hm8 (by omega)
      have hs08 := hs6.trans hs68
      simp [actC] at ho8
      have ld8 := fun off n => Obj1.load (C := ctxW w) (off := off) (n := n) ho8
      simp [ld8]
      refine w_mk hs08.wf' fun t7 H9 ht7 => ?_
      have nt7 := ht7.new
      have nt7' := ht7.next
      simp
      refine w_store (p := t7) (off := 0) (xs := actC A (.slice da A.data.length dc)) ht7.same.wf' ht7.obj (by simp) (by simp [actC]) (by simp [actC]) (by simp) (by simp) (by simp [actC]) fun H10 hm10 hn10 ho10 => ?_
      have hs810 : Same H8 H10 := ht7.same.then_mod hm10 (by omega)
      have hs010 := hs08.trans hs810
      simp [actC] at ho10
      have ho8' := ho8.same hs810
      have ld6 := fun off n => Obj1.load (C := ctxW w) (off := off) (n := n) ho8'
      have ld7 := fun off n => Obj1.load (C := ctxW w) (off := off) (n := n) ho10
      obtain ⟨B, hB⟩ : ∃ B, B = otherA A := ⟨_, rfl⟩
      have hBd : B.data = A.data := by rw [hB]; exact otherA_data A
      have hd8 : Bs (ctxW w) H8 (.slice da A.data.length dc) A.data := Row.mod hm8 (hd6.same ht6.same) (Row.off hs6.wf' hd6 (by omega))
      rw [wpO_nil, regK_eq, seqK_normal, wpC_seq]
      refine wpC_mono (Q := fun e s => e = .normal ∧ ∃ H', s = ⟨s.T, H', []⟩ ∧ s.T.val 0 = .slice (some b) l.length c ∧ s.T.val 2 = .bool false ∧ s.T.val 3 = .pointer (some ⟨q, 0, none⟩) ∧ s.T.val 4 = .pointer (some ⟨t, 0, none⟩) ∧ s.T.val 5 = .int .i64 i ∧ s.T.val 6 = .pointer (some ⟨t6, 0, none⟩) ∧ s.T.val 7 = .pointer (some ⟨t7, 0, none⟩) ∧
        Same H8 H' ∧ Obj1 H' t7 (actC B (.slice da A.data.length dc))) ?_ ?_
      · by_cases hk1 : A.kind = 1
        · have hwi : IntKind.i64.wrap (1 - A.who) = 1 - A.who := i64_in _ (by omega)
          simp [hk1, absent, ld6, hwi]
          refine w_store (p := t7) (off := 1) (xs := [.int .i64 (1 - A.who)]) hs010.wf' ho10 (by simp) (by simp) rfl (by simp) (by simp) (by simp) fun H11 hm11 hn11 ho11 => ?_
          simp at ho11
          simp [t0, t2, t3, t4, t5]
          refine ⟨hs810.then_mod hm11 (by omega), ?_⟩
          rw [hB]; unfold otherA; rw [if_pos (.inl hk1)]; simpa [actC, hk1] using ho11
        · by_cases hk2 : A.kind = 2
          · have hwi : IntKind.i64.wrap (1 - A.who) = 1 - A.who := i64_in _ (by omega)
            simp [hk2, ld6, hwi]
            refine w_store (p := t7) (off := 1) (xs := [.int .i64 (1 - A.who)]) hs010.wf' ho10 (by simp) (by simp) rfl (by simp) (by simp) (by simp) fun H11 hm11 hn11 ho11 => ?_
            simp at ho11
            simp [t0, t2, t3, t4, t5]
            refine ⟨hs810.then_mod hm11 (by omega), ?_⟩
            rw [hB]; unfold otherA; rw [if_pos (.inr hk2)]; simpa [actC, hk2] using ho11
          · simp [hk1, hk2, ld6, t0, t2, t3, t4, t5]
            refine ⟨hs810, ?_⟩
            rw [hB]; unfold otherA; rw [if_neg (by omega)]; simpa [actC] using ho10
      · rintro e s ⟨rfl, H11, hs, w0, w2, w3, w4, w5, w6, w7, hs811, ho11⟩
        rw [hs]
        obtain ⟨T1, _, _⟩ := s
        dsimp only at w0 w2 w3 w4 w5 w6 w7 ⊢
        clear hs
        simp
        have n811 := hs811.grow.next
        have ho611 := ho8.same hs811
        have ld611 := fun off n => Obj1.load (C := ctxW w) (off := off) (n := n) ho611
        refine w_bs (esz := 1) (cs := []) hs811.wf' (by simp) (by simp) (by simp) fun q12 H12 hq12 hb12 => ?_
        have nq12 := hq12.new
        have ld612 := fun off n => Obj1.load (C := ctxW w) (off := off) (n := n) (ho611.same hq12.same)
        simp [w6, ld612]
        refine w_app (m := A.data.length) (n := 0) (cs := []) (xs := A.data.map u8v) hq12.same.wf' (by simpa using hb12) (by simp; exact (hd8.same hs811).same hq12.same) (u8_scalar _) (by simp [roomy]; omega) fun v13 H13 hm13 hb13 => ?_
        have hs1113 : Same H11 H13 := hq12.same.then_mod hm13 (by omega)
        have hb13r : Bs (ctxW w) H13 v13 A.data := by
          have := hb13.row (C := ctxW w)
          simpa [Bs] using this
        have hb13l : ∀ a n c, v13 = .slice (some a) n c → n ≠ 0 → H11.next ≤ a.block := by
          intro a n c he hn
          obtain ⟨a', he', hbl, _⟩ := hb13.load (C := ctxW w)
          rw [he] at he'
          cases he'
          omega
        obtain ⟨ra, rc, rfl⟩ := hb13r.val
        simp [w7]
        have ho13 := ho11.same hs1113
        have h7lt := ho11.lt hs811.wf'
        refine w_store (p := t7) (off := 5) (xs := [.slice ra A.data.length rc]) hs1113.wf' ho13 (by simp) (by simp) rfl (by simp) (by simp [actC]) (by simp) fun H14 hm14 hn14 ho14 => ?_
        simp [actC] at ho14
        have hs814 : Same H8 H14 := (hs811.trans hs1113).then_mod hm14 (by omega)
        have hs014 := hs08.trans hs814
        have hb14 : Bs (ctxW w) H14 (.slice ra A.data.length rc) A.data := Row.mod hm14 hb13r (fun a n c he hn => by have := hb13l a n c he hn; omega)
        have ho614 := ho8.same hs814
        have ldq14 := fun off n => Obj1.load (C := ctxW w) (off := off) (n := n) (hoq.same hs014)
        simp [w3, ldq14, storyCells]
        have hcall := copyLine_spec w hs014.wf' (hpq.r.same hs014) hsm
        simp only [lineV] at hcall
        refine wpCall_mono hcall ?_
        rintro r15 H15 ⟨hs15, hn15⟩
        have hs815 := hs814.trans hs15
        have ld615 := fun off n => Obj1.load (C := ctxW w) (off := off) (n := n) (ho8.same hs815)
        have f1 : free (ctxW w) (.call H14 H15) (.exp [t6] []) = true := free_call_rd (eqbW w) hs15 (by simp; obtain ⟨e, h⟩ := ho614; rw [h]; simp)
        have hln15 := hn15.r
        obtain ⟨p0, p1, p2, p3, p4, rfl, i0, i1, i2, i3, i4⟩ := hn15.r
        simp [ld615, f1, lineV, w6]
        have hcall := wireDo_spec w hs15.wf' hln15 hsm (a := A) (da := da) (dc := dc) (hd8.same hs815)
        simp only [lineV, actV] at hcall
        refine wpCall_mono hcall ?_
        rintro _ H16 ⟨hs16, lv, fv, rfl, hl16, hf16⟩
        have hzok := doF_ok hlok A
        have hturn := turn_do hlok hf
        rw [← hB] at hturn
        have hz2 : (doF x A).2.1.length ≤ 16 := doF_len _ _
        generalize doF x A = Z at hl16 hf16 hzok hturn hz2 ⊢
        obtain ⟨Z1, Z2, Z3⟩ := Z
        dsimp only at hl16 hf16 hzok hturn hz2 ⊢
        have hl16' := hl16
        obtain ⟨o0, o1, o2, o3, o4, rfl, j0, j1, j2, j3, j4⟩ := hl16'
        obtain ⟨y1, d1, rfl⟩ := j0.its.val
        obtain ⟨y2, d2, rfl⟩ := j1.its.val
        obtain ⟨y3, d3, rfl⟩ := j2.its.val
        obtain ⟨y4, d4, rfl⟩ := j3.its.val
        obtain ⟨y5, d5, rfl⟩ := j4.its.val
        obtain ⟨fa, fc, rfl⟩ := hf16.frs.val
        have hs816 := hs815.trans hs16
        have n15 := hs15.grow.next
        have n16 := hs16.grow.next
        have n814 := hs814.grow.next
        have hqlt := hoq.lt st.wf'
        have htlt := hot.lt st.wf'
        have g1 : free (ctxW w) (.call H15 H16) (.exp [] [H16.next]) = true := free_call_new (Nat.le_refl _)
        have g2 : free (ctxW w) (.call H14 H15) (.exp [] [H16.next]) = true := free_call_new n16
        have g3 : Nat.beq H16.next t6 = false := nbeq' (by omega)
        have g4 : Nat.beq H16.next q = false := nbeq' (by omega)
        simp [lineV]
        refine d_mk hs816.wf' (by simp [g1, g2, g3, g4]) fun t8 H17 ht8 => ?_
        have n8 := ht8.new
        have n8' := ht8.next
        simp
        refine d_store (p := t8) (off := 0) (xs := lineCells Z1 (.slice y1 Z1.a.opens.length d1) (.slice y2 Z1.a.early.length d2) (.slice y3 Z1.b.opens.length d3) (.slice y4 Z1.b.early.length d4) (.slice y5 Z1.fly.length d5)) ht8.same.wf' rfl ht8.obj (by simp) (by simp [lineCells]) (by simp [lineCells]) (by simp) (by simp) (by simp [lineCells]) fun H18 hm18 hn18 ho18 => ?_
        have hs1618 : Same H16 H18 := ht8.same.then_mod hm18 (by omega)
        have hs818 := hs816.trans hs1618
        have hs018 := hs08.trans hs818
        simp [lineCells] at ho18
        have ldt18 := fun off n => Obj1.load (C := ctxW w) (off := off) (n := n) (hot.same hs018)
        have hs1418 : Same H14 H18 := (hs15.trans hs16).trans hs1618
        have ld718 := fun off n => Obj1.load (C := ctxW w) (off := off) (n := n) (ho14.same hs1418)
        simp [w4, w7, ldt18, ld718, lineCells]
        have hbB : Bs (ctxW w) H18 (.slice ra B.data.length rc) B.data := by rw [hBd]; exact hb14.same hs1418
        have hcall := wireDo_spec w hs818.wf' (hpt.r.same hs018) hsmT (a := B) (da := ra) (dc := rc) hbB
        rw [hturn, hBd] at hcall
        simp only [lineV, actV] at hcall
        refine wpCall_mono hcall ?_
        rintro _ H19 ⟨hs19, lv2, fv2, rfl, hl19, hf19⟩
        dsimp only at hl19 hf19 ⊢
        have hl19' := hl19
        obtain ⟨s0, s1, s2, s3, s4, rfl, k0, k1, k2, k3, k4⟩ := hl19'
        obtain ⟨z1, e1', rfl⟩ := k0.its.val
        obtain ⟨z2, e2', rfl⟩ := k1.its.val
        obtain ⟨z3, e3', rfl⟩ := k2.its.val
        obtain ⟨z4, e4', rfl⟩ := k3.its.val
        obtain ⟨z5, e5', rfl⟩ := k4.its.val
        obtain ⟨fa2, fc2, rfl⟩ := hf19.frs.val
        have hs819 := hs818.trans hs19
        have n1618 := hs1618.grow.next
        have n19 := hs19.grow.next
        simp [lineV]
        refine w_mk hs819.wf' fun t11 H20 ht11 => ?_
        have n11 := ht11.new
        have n11' := ht11.next
        simp
        refine w_store (p := t11) (off := 0) (xs := lineCells (turnL Z1) (.slice z1 (turnL Z1).a.opens.length e1') (.slice z2 (turnL Z1).a.early.length e2') (.slice z3 (turnL Z1).b.opens.length e3') (.slice z4 (turnL Z1).b.early.length e4') (.slice z5 (turnL Z1).fly.length e5')) ht11.same.wf' ht11.obj (by simp) (by simp [lineCells]) (by simp [lineCells]) (by simp) (by simp) (by simp [lineCells]) fun H21 hm21 hn21 ho21 => ?_
        have hs1921 : Same H19 H21 := ht11.same.then_mod hm21 (by omega)
        have hs821 := hs819.trans hs1921
        have hs021 := hs08.trans hs821
        have hs1621 : Same H16 H21 := (hs1618.trans hs19).trans hs1921
        simp [lineCells] at ho21
        simp
        refine wpCall_mono (sameFrames_spec w (hf16.frs.same hs1621) (hf19.frs.same hs1921) (by omega)) ?_
        rintro _ Hx ⟨hE, rfl⟩
        rw [hE]
        clear hE Hx
        have hoq21 := hoq.same hs021
        have hot21 := hot.same hs021
        have st021 : Step [] Hc col H21 col := Step.of_same hs021 st.bare
        have n021 := hs021.grow.next
        have nall : Hc.next ≤ H15.next := by have := hs08.grow.next; omega
        have b16 : Bare col H16 := fun b hb => st.bare b (by omega)
        have b19 : Bare col H19 := fun b hb => st.bare b (by omega)
        have PZ : PLine (ctxW w) H21 col Z1 (.slice y1 Z1.a.opens.length d1) (.slice y2 Z1.a.early.length d2) (.slice y3 Z1.b.opens.length d3) (.slice y4 Z1.b.early.length d4) (.slice y5 Z1.fly.length d5) := by
          have hc : ∀ b, H15.next ≤ b → col b = 0 := fun b hb => st.bare b (by omega)
          have s1 : Step [] H16 col H21 col := Step.of_same hs1621 b16
          exact ⟨(j0.plain hc).step s1 (by simp), (j1.plain hc).step s1 (by simp), (j2.plain hc).step s1 (by simp), (j3.plain hc).step s1 (by simp), (j4.plain hc).step s1 (by simp)⟩
        have PT : PLine (ctxW w) H21 col (turnL Z1) (.slice z1 (turnL Z1).a.opens.length e1') (.slice z2 (turnL Z1).a.early.length e2') (.slice z3 (turnL Z1).b.opens.length e3') (.slice z4 (turnL Z1).b.early.length e4') (.slice z5 (turnL Z1).fly.length e5') := by
          have hc : ∀ b, H18.next ≤ b → col b = 0 := fun b hb => st.bare b (by omega)
          have s1 : Step [] H19 col H21 col := Step.of_same hs1921 b19
          exact ⟨(k0.plain hc).step s1 (by simp), (k1.plain hc).step s1 (by simp), (k2.plain hc).step s1 (by simp), (k3.plain hc).step s1 (by simp), (k4.plain hc).step s1 (by simp)⟩
        have PX := hpq.step st021 (by simp)
        have ldq21 := fun off n => Obj1.load (C := ctxW w) (off := off) (n := n) hoq21
        have ld821 := fun off n => Obj1.load (C := ctxW w) (off := off) (n := n) (ho18.same (hs19.trans hs1921))
        have ld1121 := fun off n => Obj1.load (C := ctxW w) (off := off) (n := n) ho21
        simp
        by_cases hz : Z3 = 0
        · have hzlok := hzok hz
          have c1' : free (ctxW w) (.exp [t11] []) (.exp [q] [q]) = true := free_rd_mod fun y hy => by simp at hy; omega
          simp [hz, w3, ld821, ld1121]
          refine d_store (p := q) (off := 0) (xs := lineCells Z1 (.slice y1 Z1.a.opens.length d1) (.slice y2 Z1.a.early.length d2) (.slice y3 Z1.b.opens.length d3) (.slice y4 Z1.b.early.length d4) (.slice y5 Z1.fly.length d5)) st021.wf' (by simp [c1']) hoq21 (by simp) (by simp [lineCells]) (by simp [lineCells]) (by simp) (by simp [storyCells]) (by simp [lineCells]) fun H22 hm22 hn22 ho22 => ?_
          simp [lineCells, storyCells] at ho22
          simp
          have hot22 := hot21.mod hm22 (by omega)
          refine d_store (p := t) (off := 0) (xs := lineCells (turnL Z1) (.slice z1 (turnL Z1).a.opens.length e1') (.slice z2 (turnL Z1).a.early.length e2') (.slice z3 (turnL Z1).b.opens.length e3') (.slice z4 (turnL Z1).b.early.length e4') (.slice z5 (turnL Z1).fly.length e5')) hm22.wf' (by simp) hot22 (by simp [w4]) (by simp [lineCells]) (by simp [lineCells]) (by simp) (by simp [lineCells]) (by simp [lineCells]) fun H23 hm23 hn23 ho23 => ?_
          simp [lineCells] at ho23
          have hoq23 := ho22.mod hm23 (by omega)
          have s22 : Step [1] H21 col H22 col := Step.of_mod hm22 st021.bare (by rw [hcq]; simp)
          have s23 : Step [2] H22 col H23 col := Step.of_mod hm23 s22.bare (by rw [hct]; simp)
          have s2123 : Step [1, 2] H21 col H23 col := (s22.more (by simp)).trans (s23.more (by simp))
          have ho623 : Obj1 H23 t6 (actC A (.slice da A.data.length dc)) := ((ho8.same hs821).mod hm22 (by omega)).mod hm23 (by omega)
          have ldq23 := fun off n => Obj1.load (C := ctxW w) (off := off) (n := n) hoq23
          have ld623 := fun off n => Obj1.load (C := ctxW w) (off := off) (n := n) ho623
          obtain ⟨sp', hsp'⟩ : ∃ sp' : Bool, sp' = (sp || decide (A.kind = 6)) := ⟨_, rfl⟩
          simp only [wpD_nil, regK_eq, seqK_normal]
          rw [wpC_seq]
          refine wpC_mono (Q := fun e s => e = .normal ∧ ∃ H24, s = ⟨s.T, H24, []⟩ ∧ s.T.val 0 = .slice (some b) l.length c ∧ s.T.val 2 = .bool false ∧ s.T.val 3 = .pointer (some ⟨q, 0, none⟩) ∧ s.T.val 4 = .pointer (some ⟨t, 0, none⟩) ∧ s.T.val 5 = .int .i64 i ∧ Mod q H23 H24 ∧
            Obj1 H24 q (storyCells ⟨Z1, [], [], [], [], sp'⟩ (.slice y1 Z1.a.opens.length d1) (.slice y2 Z1.a.early.length d2) (.slice y3 Z1.b.opens.length d3) (.slice y4 Z1.b.early.length d4) (.slice y5 Z1.fly.length d5) (.slice none 0 0) (.slice none 0 0) (.slice none 0 0) (.slice none 0 0))) ?_ ?_
          · cases hsp : sp with
            | true =>
              have hspv : sp' = true := by rw [hsp', hsp]; rfl
              rw [hsp] at hoq23 ldq23
              simp [w3, ldq23, absent]
              refine w_store (p := q) (off := 13) (xs := [.bool true]) s2123.wf' hoq23 (by simp) (by simp) rfl (by simp) (by simp) (by simp) fun H24 hm24 hn24 ho24 => ?_
              simp at ho24
              simp [w0, w2, w3, w4, w5, hspv]
              exact ⟨hm24, by simpa [storyCells] using ho24⟩
            | false =>
              have hspv : sp' = decide (A.kind = 6) := by rw [hsp', hsp]; rfl
              rw [hsp] at hoq23 ldq23
              simp [w3, w6, ldq23, ld623, actC]
              refine w_store (p := q) (off := 13) (xs := [.bool (decide (A.kind = 6))]) s2123.wf' hoq23 (by simp) (by simp) rfl (by simp) (by simp) (by simp) fun H24 hm24 hn24 ho24 => ?_
              simp at ho24
              simp [w0, w2, w3, w4, w5, hspv]
              exact ⟨hm24, by simpa [storyCells] using ho24⟩
          · rintro e s ⟨rfl, H24, hs, w0, w2, w3, w4, w5, hm24, hoq24⟩
            rw [hs]
            obtain ⟨T2, _, _⟩ := s
            dsimp only at w0 w2 w3 w4 w5 ⊢
            clear hs
            have s24 : Step [1] H23 col H24 col := Step.of_mod hm24 s2123.bare (by rw [hcq]; simp)
            have s2124 : Step [1, 2] H21 col H24 col := s2123.trans (s24.more (by simp))
            have hot24 := Obj1.step s24 ho23 (by rw [hct]; simp)
            have PZ24 := PZ.step s2124 (by simp)
            have PT24 := PT.step s2124 (by simp)
            have ldq24 := fun off n => Obj1.load (C := ctxW w) (off := off) (n := n) hoq24
            simp [w3, ldq24, storyCells]
            have hcall := turned_spec w s24.wf' (PZ24.r) hzlok
            simp only [lineV] at hcall
            refine wpCall_mono hcall ?_
            rintro r25 H25 ⟨hs25, hl25⟩
            have n25 := hs25.grow.next
            have ldt25 := fun off n => Obj1.load (C := ctxW w) (off := off) (n := n) (hot24.same hs25)
            have f2 : free (ctxW w) (.call H24 H25) (.exp [t] []) = true := free_call_rd (eqbW w) hs25 (by simp; obtain ⟨e, h⟩ := hot24; rw [h]; simp)
            obtain ⟨x0, x1, x2, x3, x4, rfl, PN⟩ := hl25.pline (col := col) (fun b hb => s24.bare b (by omega))
            simp [w4, ldt25, f2, lineV]
            have st2425 : Step [] H24 col H25 col := Step.of_same hs25 s24.bare
            have PT25 := PT24.step st2425 (by simp)
            have hcall := sameLine_spec w hs25.wf' PN.r PT25.r (lineS_ok (turnL_ok hzlok))
            simp only [lineV] at hcall
            refine wpCall_mono hcall ?_
            rintro _ H26 ⟨hs26, b26, rfl, hb26⟩
            have : b26 = true := hb26.2 trivial
            subst this
            simp [w5]
            have st2426 : Step [] H24 col H26 col := Step.of_same (hs25.trans hs26) s24.bare
            refine hnext (l.length - (i + 1)) _ (by omega) ⟨_, H26, i + 1, Z1, sp', rfl, rfl, by omega, by omega, by simp [w0], by simp [w2], by simp [w3], by simp [w4], by simp; rw [i64_in _ (by omega)], (((st.trans (st021.more (by simp))).trans s2124).trans (st2426.more (by simp))), ?_, hzlok⟩
            exact ⟨_, _, _, _, _, _, _, _, _, _, _, _, _, _, _, _, _, _, _, _, Obj1.step st2426 hoq24 (by simp), PZ24.step st2426 (by simp), Obj1.step st2426 hot24 (by simp), PT24.step st2426 (by simp)⟩
        · simp [hz, w3, ldq21, storyCells]
          have hcall := turned_spec w st021.wf' (PX.r) hlok
          simp only [lineV] at hcall
          refine wpCall_mono hcall ?_
          rintro r22 H22 ⟨hs22, hl22⟩
          have n22 := hs22.grow.next
          obtain ⟨x0, x1, x2, x3, x4, rfl, PN⟩ := hl22.pline (col := col) (fun b hb => st.bare b (by omega))
          obtain ⟨v1', w1', rfl⟩ := PN.i0.val
          obtain ⟨v2', w2', rfl⟩ := PN.i1.val
          obtain ⟨v3', w3', rfl⟩ := PN.i2.val
          obtain ⟨v4', w4', rfl⟩ := PN.i3.val
          obtain ⟨v5', w5', rfl⟩ := PN.i4.val
          have st2122 : Step [] H21 col H22 col := Step.of_same hs22 st021.bare
          simp [lineV]
          refine w_store (p := t) (off := 0) (xs := lineCells (turnL x) (.slice v1' (turnL x).a.opens.length w1') (.slice v2' (turnL x).a.early.length w2') (.slice v3' (turnL x).b.opens.length w3') (.slice v4' (turnL x).b.early.length w4') (.slice v5' (turnL x).fly.length w5')) hs22.wf' (hot21.same hs22) (by simp [w4]) (by simp [lineCells]) (by simp [lineCells]) (by simp) (by simp [lineCells]) (by simp [lineCells]) fun H23 hm23 hn23 ho23 => ?_
          simp [lineCells] at ho23
          have s23 : Step [2] H22 col H23 col := Step.of_mod hm23 st2122.bare (by rw [hct]; simp)
          have st23 : Step [1, 2] Hc col H23 col := ((st021.trans st2122).more (by simp)).trans (s23.more (by simp))
          simp [w5]
          refine hnext (l.length - (i + 1)) _ (by omega) ⟨_, H23, i + 1, x, sp, rfl, rfl, by omega, by omega, by simp [w0], by simp [w2], by simp [w3], by simp [w4], by simp; rw [i64_in _ (by omega)], st.trans st23, ?_, hlok⟩
          have hoq23 := Obj1.step s23 (hoq21.same hs22) (by rw [hcq]; simp)
          exact ⟨_, _, _, _, _, _, _, _, _, _, _, _, _, _, _, _, _, _, _, _, hoq23, (PX.step st2122 (by simp)).step s23 (by simp), ho23, PN.step s23 (by simp)⟩
    · have e2 : ¬ (i : Int) < 80 := by omega
      simp [t0, t5, e1, e2]
      exact done _ (by simp [t3])
  · have : i = l.length := by omega
    subst this
    simp [t0, t5, absent]
    exact done _ (by simp [t3])
end Go.Ai.Wire
