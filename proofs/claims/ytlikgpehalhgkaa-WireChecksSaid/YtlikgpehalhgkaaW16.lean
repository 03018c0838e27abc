/-
  Thin lines; lines that are right, by the reference.
-/
import Derived.Test.YtlikgpehalhgkaaW15
namespace Go.Ai.Wire
open Go.Proofs Go.IntWalk
attribute [local irreducible] Trie.put

theorem thin_spec (w : World) {H : AHeap} (hw : WF H) {x : LineA} {v : Value} (hx : LineR (ctxW w) H x v) : wpCall (ctxW w) (.func (.func 20) #[] #[]) [v] H fun r H' => Same H H' ∧ r = .bool (thinL x) := by
  obtain ⟨o0, e0, o1, e1, f, rfl, h1, h2, h3, h4, h5⟩ := hx
  obtain ⟨a1, c1, rfl⟩ := h1.val
  obtain ⟨a2, c2, rfl⟩ := h2.val
  obtain ⟨a3, c3, rfl⟩ := h3.val
  obtain ⟨a4, c4, rfl⟩ := h4.val
  obtain ⟨a5, c5, rfl⟩ := h5.val
  refine wpCall_fn rfl (get20 w) ?_
  simp [ir20]
  refine w_box (cs := [.int .i64 x.a.last, .slice a1 x.a.opens.length c1, .int .i64 x.a.got, .slice a2 x.a.early.length c2, .int .i64 x.b.last, .slice a3 x.b.opens.length c3, .int .i64 x.b.got, .slice a4 x.b.early.length c4, .slice a5 x.fly.length c5]) hw (by simp [lineV]) rfl (by simp) fun p H1 hp => ?_
  have ld := fun off n => Obj1.load (C := ctxW w) (off := off) (n := n) hp.obj
  simp [ld]
  refine wpCall_mono (thinEnd_spec w hp.same.wf' (x := x.a) ⟨_, _, rfl, h1.same hp.same, h2.same hp.same⟩) ?_
  rintro _ H2 ⟨hs2, rfl⟩
  have hs02 := hp.same.trans hs2
  have ld2 := fun off n => Obj1.load (C := ctxW w) (off := off) (n := n) (hp.obj.same hs2)
  cases ha : thinE x.a with
  | false =>
    simp
    exact ⟨hs02, by simp [thinL, ha]⟩
  | true =>
    simp [ld2]
    refine wpCall_mono (thinEnd_spec w hs02.wf' (x := x.b) ⟨_, _, rfl, h3.same hs02, h4.same hs02⟩) ?_
    rintro _ H3 ⟨hs3, rfl⟩
    have hs03 := hs02.trans hs3
    have ld3 := fun off n => Obj1.load (C := ctxW w) (off := off) (n := n) ((hp.obj.same hs2).same hs3)
    have hf := h5.same hs03
    cases hb : thinE x.b with
    | false =>
      simp
      exact ⟨hs03, by simp [thinL, hb]⟩
    | true =>
      by_cases h7 : x.fly.length ≤ 70
      · have e7 : ¬ (70 : Int) < x.fly.length := by omega
        simp [ld3, e7]
        refine wp_loop' (fun n s => ∃ (T : Env) (i : Nat), s = ⟨T, H3, []⟩ ∧ n = x.fly.length - i ∧ i ≤ x.fly.length ∧ T.val 1 = .pointer (some ⟨p, 0, none⟩) ∧ T.val 3 = .int .i64 i ∧ (x.fly.take i).all (short 500) = true) (n := x.fly.length)
          ⟨_, 0, rfl, rfl, Nat.zero_le _, by simp, by simp, by simp⟩ ?_
        rintro n s K ⟨T, i, rfl, rfl, hi, t1, t3, hall⟩ hnext hexit
        by_cases hlt : i < x.fly.length
        · obtain ⟨b, da, dc, rfl, _, l2, _, _⟩ := hf.at hlt
          have e3 : (i : Int) < x.fly.length := by omega
          simp [t1, t3, ld3, e3, l2]
          by_cases h5 : x.fly[i].2.length ≤ 500
          · have e5 : ¬ (500 : Int) < x.fly[i].2.length := by omega
            simp [e5, t1, t3]
            refine hnext (x.fly.length - (i + 1)) _ (by omega) ⟨_, i + 1, rfl, rfl, by omega, by simp [t1], by simp; rw [i64_in _ (by omega)], ?_⟩
            rw [all_take_succ _ hlt, hall]
            simp [short, h5]
          · have e5 : (500 : Int) < x.fly[i].2.length := by omega
            simp [e5]
            refine hexit _ _ (by simp) ?_
            simp
            refine ⟨hs03, ?_⟩
            have := all_false (short 500) hlt (by simp [short]; omega)
            simp [thinL, this]
        · have : i = x.fly.length := by omega
          subst this
          rw [List.take_length] at hall
          simp [t1, t3, ld3]
          refine hexit _ _ (by simp) ?_
          simp
          exact ⟨hs03, by simp [thinL, ha, hb, h7, hall]⟩
      · have e7 : (70 : Int) < x.fly.length := by omega
        simp [ld3, e7]
        exact ⟨hs03, by simp [thinL, h7]⟩

theorem isLine_spec (w : World) {H : AHeap} (hw : WF H) {x : LineA} {v : Value} (hx : LineR (ctxW w) H x v) (hsm : x.a.early.length ≤ 1000000 ∧ x.b.early.length ≤ 1000000) : wpCall (ctxW w) (.func (.func 26) #[] #[]) [v] H fun r H' => Same H H' ∧ Tells (LineOK x) r := by
  obtain ⟨o0, e0, o1, e1, f, rfl, h1, h2, h3, h4, h5⟩ := hx
  obtain ⟨a1, c1, rfl⟩ := h1.val
  obtain ⟨a2, c2, rfl⟩ := h2.val
  obtain ⟨a3, c3, rfl⟩ := h3.val
  obtain ⟨a4, c4, rfl⟩ := h4.val
  obtain ⟨a5, c5, rfl⟩ := h5.val
  refine wpCall_fn rfl (get26 w) ?_
  simp [ir26]
  refine w_box (cs := [.int .i64 x.a.last, .slice a1 x.a.opens.length c1, .int .i64 x.a.got, .slice a2 x.a.early.length c2, .int .i64 x.b.last, .slice a3 x.b.opens.length c3, .int .i64 x.b.got, .slice a4 x.b.early.length c4, .slice a5 x.fly.length c5]) hw (by simp [lineV]) rfl (by simp) fun p H1 hp => ?_
  have ld := fun off n => Obj1.load (C := ctxW w) (off := off) (n := n) hp.obj
  simp [ld]
  refine wpCall_mono (isEnd_spec w hp.same.wf' (x := x.a) ⟨_, _, rfl, h1.same hp.same, h2.same hp.same⟩ hsm.1) ?_
  rintro _ H2 ⟨hs2, ba, rfl, hba⟩
  have hs02 := hp.same.trans hs2
  have ld2 := fun off n => Obj1.load (C := ctxW w) (off := off) (n := n) (hp.obj.same hs2)
  cases ba with
  | false =>
    simp
    exact ⟨hs02, .no fun h => by simpa using hba.2 h.1⟩
  | true =>
    have hba := hba.1 rfl
    simp [ld2]
    refine wpCall_mono (isEnd_spec w hs02.wf' (x := x.b) ⟨_, _, rfl, h3.same hs02, h4.same hs02⟩ hsm.2) ?_
    rintro _ H3 ⟨hs3, bb, rfl, hbb⟩
    have hs03 := hs02.trans hs3
    have ld3 := fun off n => Obj1.load (C := ctxW w) (off := off) (n := n) ((hp.obj.same hs2).same hs3)
    have hf := h5.same hs03
    cases bb with
    | false =>
      simp
      exact ⟨hs03, .no fun h => by simpa using hbb.2 h.2.1⟩
    | true =>
      have hbb := hbb.1 rfl
      by_cases h7 : x.fly.length ≤ 60
      · have e7 : ¬ (60 : Int) < x.fly.length := by omega
        simp [ld3, e7]
        refine wp_loop' (fun n s => ∃ (T : Env) (i : Nat), s = ⟨T, H3, []⟩ ∧ n = x.fly.length - i ∧ i ≤ x.fly.length ∧ T.val 1 = .pointer (some ⟨p, 0, none⟩) ∧ T.val 3 = .int .i64 i ∧ ∀ j, j < i → FlightAt x.fly j) (n := x.fly.length)
          ⟨_, 0, rfl, rfl, Nat.zero_le _, by simp, by simp, by intro j hj; omega⟩ ?_
        rintro n s K ⟨T, i, rfl, rfl, hi, t1, t3, hall⟩ hnext hexit
        by_cases hlt : i < x.fly.length
        · obtain ⟨b, da, dc, rfl, l1, l2, _, _⟩ := hf.at hlt
          have e3 : (i : Int) < x.fly.length := by omega
          have bad : ¬ FlightAt x.fly i → ¬ LineOK x := fun h hL => h (hL.2.2.2 i)
          simp [t1, t3, ld3, e3, l1]
          refine wpCall_mono (in_spec w x.fly[i].1 0 1) ?_
          rintro _ H3 ⟨rfl, rfl⟩
          by_cases hr : 0 ≤ x.fly[i].1 ∧ x.fly[i].1 ≤ 1
          · simp [hr, t1, t3, ld3, e3, l2]
            refine wpCall_mono (in_spec w x.fly[i].2.length 1 408) ?_
            rintro _ H3 ⟨rfl, rfl⟩
            by_cases hf : 1 ≤ x.fly[i].2.length ∧ x.fly[i].2.length ≤ 408
            · have e4 : (1 : Int) ≤ x.fly[i].2.length := by omega
              have e5 : (x.fly[i].2.length : Int) ≤ 408 := by omega
              simp [e4, e5, t1, t3]
              refine hnext (x.fly.length - (i + 1)) _ (by omega) ⟨_, i + 1, rfl, rfl, by omega, by simp [t1], by simp; rw [i64_in _ (by omega)], ?_⟩
              intro j hj
              by_cases hji : j = i
              · subst hji
                exact fun h => ⟨hr, hf⟩
              · exact hall j (by omega)
            · have e4 : (decide ((1 : Int) ≤ x.fly[i].2.length) && decide ((x.fly[i].2.length : Int) ≤ 408)) = false := by
                simp
                omega
              simp [e4]
              refine hexit _ _ (by simp) ?_
              simp
              exact ⟨hs03, .no (bad fun h => hf (h hlt).2)⟩
          · have er : (decide (0 ≤ x.fly[i].1) && decide (x.fly[i].1 ≤ 1)) = false := by
              simp
              omega
            simp [er]
            refine hexit _ _ (by simp) ?_
            simp
            exact ⟨hs03, .no (bad fun h => hr (h hlt).1)⟩
        · have : i = x.fly.length := by omega
          subst this
          simp [t1, t3, ld3]
          refine hexit _ _ (by simp) ?_
          simp
          exact ⟨hs03, .yes ⟨hba, hbb, h7, fun j h => hall j h h⟩⟩
      · have e7 : (60 : Int) < x.fly.length := by omega
        simp [ld3, e7]
        exact ⟨hs03, .no fun h => h7 h.2.2.1⟩
end Go.Ai.Wire
