/-
  Which ends and lines are right, by the reference; thin lines.
-/
import Derived.Test.YtlikgpehalhgkaaW14
namespace Go.Ai.Wire
open Go.Proofs Go.IntWalk
attribute [local irreducible] Trie.put

def FrameOK (d : List UInt8) : Prop := 1 ≤ d.length ∧ d.length ≤ 400

/-- The open frame at a place is as it must be. -/
def OpenAt (x : EndA) (i : Nat) : Prop := ∀ h : i < x.opens.length, x.opens[i].1 = x.last - x.opens.length + 1 + i ∧ 1 ≤ x.opens[i].1 ∧ FrameOK x.opens[i].2
def EarlyAt (x : EndA) (i : Nat) : Prop := ∀ h : i < x.early.length, x.got + 2 ≤ x.early[i].1 ∧ x.early[i].1 ≤ min (x.got + 8) 60000 ∧ (∀ _ : 0 < i, x.early[i - 1].1 < x.early[i].1) ∧ FrameOK x.early[i].2

def EndOK (x : EndA) : Prop := (0 ≤ x.last ∧ x.last ≤ 60000) ∧ (0 ≤ x.got ∧ x.got ≤ 60000) ∧ x.opens.length ≤ 8 ∧ (∀ i, OpenAt x i) ∧ ∀ i, EarlyAt x i

def FlightAt (l : List Itm) (i : Nat) : Prop := ∀ h : i < l.length, (0 ≤ l[i].1 ∧ l[i].1 ≤ 1) ∧ 1 ≤ l[i].2.length ∧ l[i].2.length ≤ 408
def LineOK (x : LineA) : Prop := EndOK x.a ∧ EndOK x.b ∧ x.fly.length ≤ 60 ∧ ∀ i, FlightAt x.fly i

/-- An answer that says whether something is so. -/
def Tells (p : Prop) (r : Value) : Prop := ∃ b : Bool, r = .bool b ∧ (b = true ↔ p)

theorem Tells.yes {p : Prop} (h : p) : Tells p (.bool true) := ⟨true, rfl, by simp [h]⟩
theorem Tells.no {p : Prop} (h : ¬ p) : Tells p (.bool false) := ⟨false, rfl, by simp [h]⟩

theorem min_i64 (a b : Int) : (if a ≤ b then a else b) = min a b := by omega

set_option maxHeartbeats 1000000 in
theorem isEnd_spec (w : World) {H : AHeap} (hw : WF H) {x : EndA} {v : Value} (hx : EndR (ctxW w) H x v) (hsm : x.early.length ≤ 1000000) : wpCall (ctxW w) (.func (.func 23) #[] #[]) [v] H fun r H' => Same H H' ∧ Tells (EndOK x) r := by
  obtain ⟨ov, ev, rfl, ho, he⟩ := hx
  obtain ⟨a1, c1, rfl⟩ := ho.val
  obtain ⟨a2, c2, rfl⟩ := he.val
  refine wpCall_fn rfl (get23 w) ?_
  simp [ir23]
  refine w_box (cs := [.int .i64 x.last, .slice a1 x.opens.length c1, .int .i64 x.got, .slice a2 x.early.length c2]) hw (by simp [endV]) rfl (by simp) fun p H1 hp => ?_
  have ld := fun off n => Obj1.load (C := ctxW w) (off := off) (n := n) hp.obj
  have ho1 := ho.same hp.same
  have he1 := he.same hp.same
  simp [ld]
  refine wpCall_mono (in_spec w x.last 0 60000) ?_
  rintro _ H1 ⟨rfl, rfl⟩
  by_cases hl : 0 ≤ x.last ∧ x.last ≤ 60000
  · simp [ld, hl]
    refine wpCall_mono (in_spec w x.got 0 60000) ?_
    rintro _ H1 ⟨rfl, rfl⟩
    by_cases hg : 0 ≤ x.got ∧ x.got ≤ 60000
    · by_cases h8 : x.opens.length ≤ 8
      · have e8 : ¬ (8 : Int) < x.opens.length := by omega
        simp [ld, hg, e8]
        refine wp_loop' (fun n s => ∃ (T : Env) (i : Nat), s = ⟨T, H1, []⟩ ∧ n = x.opens.length - i ∧ i ≤ x.opens.length ∧ T.val 1 = .pointer (some ⟨p, 0, none⟩) ∧ T.val 3 = .int .i64 i ∧ ∀ j, j < i → OpenAt x j) (n := x.opens.length)
          ⟨_, 0, rfl, rfl, Nat.zero_le _, by simp, by simp, by intro j hj; omega⟩ ?_
        rintro n s K ⟨T, i, rfl, rfl, hi, t1, t3, hall⟩ hnext hexit
        by_cases hlt : i < x.opens.length
        · obtain ⟨b, da, dc, rfl, l1, l2, _, hd⟩ := ho1.at hlt
          have e3 : (i : Int) < x.opens.length := by omega
          have ew : IntKind.i64.wrap (IntKind.i64.wrap (IntKind.i64.wrap (x.last - x.opens.length) + 1) + i) = x.last - x.opens.length + 1 + i := by
            rw [i64_in (x.last - x.opens.length) (by omega), i64_in (x.last - x.opens.length + 1) (by omega), i64_in (x.last - x.opens.length + 1 + i) (by omega)]
          have bad : ¬ OpenAt x i → ¬ EndOK x := fun h hE => h (hE.2.2.2.1 i)
          simp [t1, t3, ld, e3, l1, ew]
          by_cases hn : x.opens[i].1 = x.last - x.opens.length + 1 + i
          · by_cases h1 : x.last - x.opens.length + 1 + i < 1
            · simp [hn, h1]
              refine hexit _ _ (by simp) ?_
              simp
              exact ⟨hp.same, .no (bad fun h => by have := (h hlt).2.1; omega)⟩
            · simp [hn, h1, t1, t3, ld, e3, l2]
              refine wpCall_mono (refFrame_spec w) ?_
              rintro _ H1 ⟨rfl, rfl⟩
              by_cases hf : FrameOK x.opens[i].2
              · have e4 : (1 : Int) ≤ x.opens[i].2.length := by have := hf.1; omega
                have e5 : (x.opens[i].2.length : Int) ≤ 400 := by have := hf.2; omega
                simp [e4, e5, t1, t3]
                refine hnext (x.opens.length - (i + 1)) _ (by omega) ⟨_, i + 1, rfl, rfl, by omega, by simp [t1], by simp; rw [i64_in _ (by omega)], ?_⟩
                intro j hj
                by_cases hji : j = i
                · subst hji
                  exact fun h => ⟨hn, by omega, hf⟩
                · exact hall j (by omega)
              · have e4 : (decide ((1 : Int) ≤ x.opens[i].2.length) && decide ((x.opens[i].2.length : Int) ≤ 400)) = false := by
                  simp only [FrameOK] at hf
                  simp
                  omega
                simp [e4]
                refine hexit _ _ (by simp) ?_
                simp
                exact ⟨hp.same, .no (bad fun h => hf (h hlt).2.2)⟩
          · simp [hn]
            refine hexit _ _ (by simp) ?_
            simp
            exact ⟨hp.same, .no (bad fun h => hn (h hlt).1)⟩
        · have : i = x.opens.length := by omega
          subst this
          have hopen : ∀ j, OpenAt x j := fun j h => hall j h h
          simp [t1, t3, ld]
          refine hexit _ _ (by simp) ?_
          simp [t1, ld]
          refine wp_loop' (fun n s => ∃ (T : Env) (i : Nat), s = ⟨T, H1, []⟩ ∧ n = x.early.length - i ∧ i ≤ x.early.length ∧ T.val 1 = .pointer (some ⟨p, 0, none⟩) ∧ T.val 5 = .int .i64 i ∧ ∀ j, j < i → EarlyAt x j) (n := x.early.length)
            ⟨_, 0, rfl, rfl, Nat.zero_le _, by simp [t1], by simp, by intro j hj; omega⟩ ?_
          rintro n s K ⟨T, i, rfl, rfl, hi, t1, t3, hall2⟩ hnext hexit
          by_cases hlt : i < x.early.length
          · obtain ⟨b, da, dc, rfl, l1, l2, _, hd⟩ := he1.at hlt
            have e3 : (i : Int) < x.early.length := by omega
            have bad : ¬ EarlyAt x i → ¬ EndOK x := fun h hE => h (hE.2.2.2.2 i)
            have e2 : IntKind.i64.wrap (x.got + 2) = x.got + 2 := i64_in _ (by omega)
            have e8' : IntKind.i64.wrap (x.got + 8) = x.got + 8 := i64_in _ (by omega)
            have hM : (if 60000 < x.got + 8 then 60000 else x.got + 8) = min (x.got + 8) 60000 := by omega
            simp [t1, t3, ld, e3, l1, e2, e8', hM]
            refine wpCall_mono (in_spec w x.early[i].1 (x.got + 2) (min (x.got + 8) 60000)) ?_
            rintro _ H1 ⟨rfl, rfl⟩
            by_cases hr : x.got + 2 ≤ x.early[i].1 ∧ x.early[i].1 ≤ min (x.got + 8) 60000
            · have er : (decide (x.got + 2 ≤ x.early[i].1) && decide (x.early[i].1 ≤ min (x.got + 8) 60000)) = true := by simp only [hr.1, hr.2, decide_true, Bool.and_self]
              by_cases h0 : i = 0
              · subst h0
                have ez : ¬ (0 : Int) < ((0 : Nat) : Int) := by omega
                simp only [Nat.zero_mul, Nat.zero_add] at l2
                simp [er, t1, t3, ld, hlt, l2]
                refine wpCall_mono (refFrame_spec w) ?_
                rintro _ H1 ⟨rfl, rfl⟩
                by_cases hf : FrameOK x.early[0].2
                · have e4 : (1 : Int) ≤ x.early[0].2.length := by have := hf.1; omega
                  have e5 : (x.early[0].2.length : Int) ≤ 400 := by have := hf.2; omega
                  simp [e4, e5, t1, t3]
                  refine hnext (x.early.length - 1) _ (by omega) ⟨_, 1, rfl, rfl, by omega, by simp [t1], by simp; rw [i64_in _ (by omega)], ?_⟩
                  intro j hj
                  have : j = 0 := by omega
                  subst this
                  exact fun h => ⟨hr.1, hr.2, fun h => absurd h (by omega), hf⟩
                · have e4 : (decide ((1 : Int) ≤ x.early[0].2.length) && decide ((x.early[0].2.length : Int) ≤ 400)) = false := by
                    simp only [FrameOK] at hf
                    simp
                    omega
                  simp [e4]
                  refine hexit _ _ (by simp) ?_
                  simp
                  exact ⟨hp.same, .no (bad fun h => hf (h hlt).2.2.2)⟩
              · obtain ⟨b', da', dc', he', m1, _, _, _⟩ := he1.at (i := i - 1) (by omega)
                cases he'
                have ez : 0 < i := by omega
                have ei : IntKind.i64.wrap ((i : Int) - 1) = ((i - 1 : Nat) : Int) := by rw [i64_in ((i : Int) - 1) (by omega)]; omega
                have ej : ((i - 1 : Nat) : Int) < x.early.length := by omega
                by_cases hlt2 : x.early[i - 1].1 < x.early[i].1
                · have el : ¬ x.early[i].1 ≤ x.early[i - 1].1 := by omega
                  simp [er, t1, t3, ld, e3, l1, l2, ez, ei, ej, m1, el]
                  refine wpCall_mono (refFrame_spec w) ?_
                  rintro _ H1 ⟨rfl, rfl⟩
                  by_cases hf : FrameOK x.early[i].2
                  · have e4 : (1 : Int) ≤ x.early[i].2.length := by have := hf.1; omega
                    have e5 : (x.early[i].2.length : Int) ≤ 400 := by have := hf.2; omega
                    simp [e4, e5, t1, t3]
                    refine hnext (x.early.length - (i + 1)) _ (by omega) ⟨_, i + 1, rfl, rfl, by omega, by simp [t1], by simp; rw [i64_in _ (by omega)], ?_⟩
                    intro j hj
                    by_cases hji : j = i
                    · subst hji
                      exact fun h => ⟨hr.1, hr.2, fun _ => hlt2, hf⟩
                    · exact hall2 j (by omega)
                  · have e4 : (decide ((1 : Int) ≤ x.early[i].2.length) && decide ((x.early[i].2.length : Int) ≤ 400)) = false := by
                      simp only [FrameOK] at hf
                      simp
                      omega
                    simp [e4]
                    refine hexit _ _ (by simp) ?_
                    simp
                    exact ⟨hp.same, .no (bad fun h => hf (h hlt).2.2.2)⟩
                · have el : x.early[i].1 ≤ x.early[i - 1].1 := by omega
                  simp [er, t1, t3, ld, e3, l1, l2, ez, ei, ej, m1, el]
                  refine hexit _ _ (by simp) ?_
                  simp
                  exact ⟨hp.same, .no (bad fun h => hlt2 ((h hlt).2.2.1 ez))⟩
            · have er : (decide (x.got + 2 ≤ x.early[i].1) && decide (x.early[i].1 ≤ min (x.got + 8) 60000)) = false := by
                simp only [Bool.and_eq_false_iff, decide_eq_false_iff_not]
                omega
              simp [er, absent]
              refine hexit _ _ (by simp) ?_
              simp
              exact ⟨hp.same, .no (bad fun h => hr ⟨(h hlt).1, (h hlt).2.1⟩)⟩
          · have : i = x.early.length := by omega
            subst this
            have hearly : ∀ j, EarlyAt x j := fun j h => hall2 j h h
            simp [t1, t3, ld]
            refine hexit _ _ (by simp) ?_
            simp
            exact ⟨hp.same, .yes ⟨hl, hg, h8, hopen, hearly⟩⟩
      · have e8 : (8 : Int) < x.opens.length := by omega
        simp [ld, hg, e8]
        exact ⟨hp.same, .no fun h => h8 h.2.2.1⟩
    · have : (decide (0 ≤ x.got) && decide (x.got ≤ 60000)) = false := by simp; omega
      simp [ld, this]
      exact ⟨hp.same, .no fun h => hg h.2.1⟩
  · have : (decide (0 ≤ x.last) && decide (x.last ≤ 60000)) = false := by simp; omega
    simp [ld, this]
    exact ⟨hp.same, .no fun h => hl h.1⟩
end Go.Ai.Wire
