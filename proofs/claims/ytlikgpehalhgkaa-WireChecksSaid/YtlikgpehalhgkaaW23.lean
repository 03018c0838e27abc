/-
  'WireChecks' answers true.
-/
import Derived.Test.YtlikgpehalhgkaaW22
namespace Go.Ai.Wire
open Go.Proofs Go.IntWalk
attribute [local irreducible] Trie.put

theorem short_all {l : List Itm} : l.all (short 500) = true → l.all (short 500) = true := id

theorem thinE_s {x : EndA} (h : thinE x = true) : EndS x := by
  simp only [thinE, Bool.and_eq_true, decide_eq_true_eq] at h
  exact ⟨⟨by omega, h.2.2.1⟩, by omega, h.2.2.2⟩
theorem thinL_s {x : LineA} (h : thinL x = true) : LineS x := by
  simp only [thinL, Bool.and_eq_true, decide_eq_true_eq] at h
  exact ⟨thinE_s h.1, thinE_s h.2.1, by omega, h.2.2.2⟩

theorem both {p : Prop} {r : Value} {b : Bool} (h : ErrOut p r) (hb : b = true ↔ p) : (b = true ∧ r = .int .i64 0) ∨ (b = false ∧ r = .int .i64 4) := by
  rcases h with ⟨h1, h2⟩ | ⟨h1, h2⟩
  · exact .inl ⟨hb.2 h1, h2⟩
  · refine .inr ⟨?_, h2⟩
    cases b with
    | false => rfl
    | true => exact absurd (hb.1 rfl) h1

theorem wireChecks_walk (w : World) {H : AHeap} (hw : WF H) {x : LineA} {v : Value} (hx : LineR (ctxW w) H x v) : wpCall (ctxW w) (.func (.func 5) #[] #[]) [v] H fun r _ => r = .bool true := by
  obtain ⟨o0, e0, o1, e1, f, rfl, h1, h2, h3, h4, h5⟩ := hx
  obtain ⟨a1, c1, rfl⟩ := h1.val
  obtain ⟨a2, c2, rfl⟩ := h2.val
  obtain ⟨a3, c3, rfl⟩ := h3.val
  obtain ⟨a4, c4, rfl⟩ := h4.val
  obtain ⟨a5, c5, rfl⟩ := h5.val
  refine wpCall_fn rfl (get5 w) ?_
  simp [ir5]
  refine w_box (cs := lineCells x (.slice a1 x.a.opens.length c1) (.slice a2 x.a.early.length c2) (.slice a3 x.b.opens.length c3) (.slice a4 x.b.early.length c4) (.slice a5 x.fly.length c5)) hw (by simp [lineV, lineCells]) rfl (by simp [lineCells]) fun p H1 hp => ?_
  have ld1 := fun off n => Obj1.load (C := ctxW w) (off := off) (n := n) hp.obj
  have hs1 := hp.same
  simp [ld1, lineCells]
  have hlr : ∀ {H'}, Same H H' → LineR (ctxW w) H' x (lineV x.a.last (.slice a1 x.a.opens.length c1) x.a.got (.slice a2 x.a.early.length c2) x.b.last (.slice a3 x.b.opens.length c3) x.b.got (.slice a4 x.b.early.length c4) (.slice a5 x.fly.length c5)) :=
    fun hs => ⟨_, _, _, _, _, rfl, h1.same hs, h2.same hs, h3.same hs, h4.same hs, h5.same hs⟩
  refine wpCall_mono (thin_spec w hs1.wf' (hlr hs1)) ?_
  rintro _ H2 ⟨hs2, rfl⟩
  have hs02 := hs1.trans hs2
  cases ht : thinL x with
  | false =>
    simp
    refine wpCall_mono (awake_spec w) ?_
    rintro _ H3 ⟨rfl, rfl⟩
    simp
  | true =>
    have hsm := thinL_s ht
    simp
    refine wp_loop' (fun n s => ∃ (T : Env) (H3 : AHeap) (i : Nat), s = ⟨T, H3, []⟩ ∧ n = 2 - i ∧ i ≤ 2 ∧ T.val 1 = .pointer (some ⟨p, 0, none⟩) ∧ T.val 3 = .int .i64 i ∧ Same H2 H3) (n := 2)
      ⟨_, H2, 0, rfl, rfl, by omega, by simp, by simp, Same.refl hs02.wf'⟩ ?_
    rintro n s K ⟨T, H3, i, rfl, rfl, hi, t1, t3, hs3⟩ hnext hexit
    have hs03 := hs02.trans hs3
    have hp3 := (hp.obj.same hs2).same hs3
    have ld3 := fun off n => Obj1.load (C := ctxW w) (off := off) (n := n) hp3
    have hcase : i = 0 ∨ i = 1 ∨ i = 2 := by omega
    rcases hcase with rfl | rfl | rfl
    · simp [t1, t3, ld3, lineCells]
      refine wpCall_mono (copyEnd_spec w hs03.wf' (x := x.a) ⟨_, _, rfl, h1.same hs03, h2.same hs03⟩ hsm.1) ?_
      rintro r4 H4 ⟨hs4, hn4⟩
      simp
      refine wpCall_mono (checkEnd_spec w (hs03.trans hs4).wf' hn4.r hsm.1) ?_
      rintro r5 H5 ⟨hs5, hr5⟩
      have hs05 := (hs03.trans hs4).trans hs5
      have ld5 := fun off n => Obj1.load (C := ctxW w) (off := off) (n := n) ((hp3.same hs4).same hs5)
      have hcall := isEnd_spec w hs05.wf' (x := x.a) (v := endV x.a.last (.slice a1 x.a.opens.length c1) x.a.got (.slice a2 x.a.early.length c2)) ⟨_, _, rfl, h1.same hs05, h2.same hs05⟩ (by have := hsm.1.2.1; omega)
      have fin : ∀ r, ErrOut (EndOK x.a) r → r = .int .i64 0 ∨ r = .int .i64 4 := fun r h => h.elim (fun h => .inl h.2) fun h => .inr h.2
      rcases fin r5 hr5 with rfl | rfl
      · simp [t1, t3, ld5, lineCells]
        refine wpCall_mono hcall ?_
        rintro _ H6 ⟨hs6, b, rfl, hb⟩
        rcases both hr5 hb with ⟨rfl, _⟩ | ⟨rfl, h⟩
        · simp [t1, t3]
          exact hnext 1 _ (by omega) ⟨_, H6, 1, rfl, rfl, by omega, by simp [t1], by simp [i64_in], ((hs3.trans hs4).trans hs5).trans hs6⟩
        · cases h
      · simp [t1, t3, ld5, lineCells]
        refine wpCall_mono hcall ?_
        rintro _ H6 ⟨hs6, b, rfl, hb⟩
        rcases both hr5 hb with ⟨rfl, h⟩ | ⟨rfl, _⟩
        · cases h
        · simp [t1, t3]
          exact hnext 1 _ (by omega) ⟨_, H6, 1, rfl, rfl, by omega, by simp [t1], by simp [i64_in], ((hs3.trans hs4).trans hs5).trans hs6⟩
    · simp [t1, t3, ld3, lineCells]
      refine wpCall_mono (copyEnd_spec w hs03.wf' (x := x.b) ⟨_, _, rfl, h3.same hs03, h4.same hs03⟩ hsm.2.1) ?_
      rintro r4 H4 ⟨hs4, hn4⟩
      simp
      refine wpCall_mono (checkEnd_spec w (hs03.trans hs4).wf' hn4.r hsm.2.1) ?_
      rintro r5 H5 ⟨hs5, hr5⟩
      have hs05 := (hs03.trans hs4).trans hs5
      have ld5 := fun off n => Obj1.load (C := ctxW w) (off := off) (n := n) ((hp3.same hs4).same hs5)
      have hcall := isEnd_spec w hs05.wf' (x := x.b) (v := endV x.b.last (.slice a3 x.b.opens.length c3) x.b.got (.slice a4 x.b.early.length c4)) ⟨_, _, rfl, h3.same hs05, h4.same hs05⟩ (by have := hsm.2.1.2.1; omega)
      have fin : ∀ r, ErrOut (EndOK x.b) r → r = .int .i64 0 ∨ r = .int .i64 4 := fun r h => h.elim (fun h => .inl h.2) fun h => .inr h.2
      rcases fin r5 hr5 with rfl | rfl
      · simp [t1, t3, ld5, lineCells]
        refine wpCall_mono hcall ?_
        rintro _ H6 ⟨hs6, b, rfl, hb⟩
        rcases both hr5 hb with ⟨rfl, _⟩ | ⟨rfl, h⟩
        · simp [t1, t3]
          exact hnext 0 _ (by omega) ⟨_, H6, 2, rfl, rfl, by omega, by simp [t1], by simp [i64_in], ((hs3.trans hs4).trans hs5).trans hs6⟩
        · cases h
      · simp [t1, t3, ld5, lineCells]
        refine wpCall_mono hcall ?_
        rintro _ H6 ⟨hs6, b, rfl, hb⟩
        rcases both hr5 hb with ⟨rfl, h⟩ | ⟨rfl, _⟩
        · cases h
        · simp [t1, t3]
          exact hnext 0 _ (by omega) ⟨_, H6, 2, rfl, rfl, by omega, by simp [t1], by simp [i64_in], ((hs3.trans hs4).trans hs5).trans hs6⟩
    · simp [t1, t3]
      refine hexit _ _ (by simp) ?_
      simp [t1, ld3, lineCells]
      refine wpCall_mono (copyLine_spec w hs03.wf' (hlr hs03) hsm) ?_
      rintro r4 H4 ⟨hs4, hn4⟩
      simp
      refine wpCall_mono (check_spec w (hs03.trans hs4).wf' hn4.r hsm) ?_
      rintro r5 H5 ⟨hs5, hr5⟩
      have hs05 := (hs03.trans hs4).trans hs5
      have ld5 := fun off n => Obj1.load (C := ctxW w) (off := off) (n := n) ((hp3.same hs4).same hs5)
      have hcall := isLine_spec w hs05.wf' (hlr hs05) (by have := hsm.1.2.1; have := hsm.2.1.2.1; omega)
      have fin : ∀ r, ErrOut (LineOK x) r → r = .int .i64 0 ∨ r = .int .i64 4 := fun r h => h.elim (fun h => .inl h.2) fun h => .inr h.2
      rcases fin r5 hr5 with rfl | rfl
      · simp [t1, t3, ld5, lineCells]
        refine wpCall_mono hcall ?_
        rintro _ H6 ⟨hs6, b, rfl, hb⟩
        rcases both hr5 hb with ⟨rfl, _⟩ | ⟨rfl, h⟩
        · simp
          refine wpCall_mono (awake_spec w) ?_
          rintro _ H7 ⟨rfl, rfl⟩
          simp
        · cases h
      · simp [t1, t3, ld5, lineCells]
        refine wpCall_mono hcall ?_
        rintro _ H6 ⟨hs6, b, rfl, hb⟩
        rcases both hr5 hb with ⟨rfl, h⟩ | ⟨rfl, _⟩
        · cases h
        · simp
          refine wpCall_mono (awake_spec w) ?_
          rintro _ H7 ⟨rfl, rfl⟩
          simp
end Go.Ai.Wire
