/-
  Lines that are compared; where something is heard; beginnings.
-/
import Derived.Test.YtlikgpehalhgkaaGreatPWP
import Derived.Test.YtlikgpehalhgkaaGreatPWIr6
import Derived.Test.YtlikgpehalhgkaaGreatPWH
namespace Go.Ai.Wire
open Go.Proofs Go.IntWalk
attribute [local irreducible] Trie.put
attribute [-simp] wpO_toStr wpD_toStr
attribute [simp] bytesEq_dec

theorem lineA_ext {x y : LineA} (h1 : x.a = y.a) (h2 : x.b = y.b) (h3 : x.fly = y.fly) : x = y := by
  cases x; cases y
  simp only at h1 h2 h3
  rw [h1, h2, h3]

set_option maxHeartbeats 2000000 in
theorem sameLine_spec (w : World) {H : AHeap} (hw : WF H) {v u : Value} {x y : LineA} (hx : LineR (ctxW w) H x v) (hy : LineR (ctxW w) H y u) (hsm : LineS x) :
    wpCall (ctxW w) (.func (.func 12) #[] #[]) [v, u] H fun r H' => Same H H' ∧ Tells (x = y) r := by
  obtain ⟨o0, e0, o1, e1, f, rfl, h1, h2, h3, h4, h5⟩ := hx
  obtain ⟨a1, c1, rfl⟩ := h1.val
  obtain ⟨a2, c2, rfl⟩ := h2.val
  obtain ⟨a3, c3, rfl⟩ := h3.val
  obtain ⟨a4, c4, rfl⟩ := h4.val
  obtain ⟨a5, c5, rfl⟩ := h5.val
  obtain ⟨p0, q0, p1, q1, g, rfl, k1, k2, k3, k4, k5⟩ := hy
  obtain ⟨b1, d1, rfl⟩ := k1.val
  obtain ⟨b2, d2, rfl⟩ := k2.val
  obtain ⟨b3, d3, rfl⟩ := k3.val
  obtain ⟨b4, d4, rfl⟩ := k4.val
  obtain ⟨b5, d5, rfl⟩ := k5.val
  refine wpCall_fn rfl (get12 w) ?_
  simp [ir12]
  refine w_box (cs := lineCells x (.slice a1 x.a.opens.length c1) (.slice a2 x.a.early.length c2) (.slice a3 x.b.opens.length c3) (.slice a4 x.b.early.length c4) (.slice a5 x.fly.length c5)) hw (by simp [lineV, lineCells]) rfl (by simp [lineCells]) fun p H1 hp => ?_
  simp
  refine w_box (cs := lineCells y (.slice b1 y.a.opens.length d1) (.slice b2 y.a.early.length d2) (.slice b3 y.b.opens.length d3) (.slice b4 y.b.early.length d4) (.slice b5 y.fly.length d5)) hp.same.wf' (by simp [lineV, lineCells]) rfl (by simp [lineCells]) fun q H2 hq => ?_
  have hs2 := hp.same.trans hq.same
  have hpo := hp.obj.same hq.same
  have ldp := fun off n => Obj1.load (C := ctxW w) (off := off) (n := n) hpo
  have ldq := fun off n => Obj1.load (C := ctxW w) (off := off) (n := n) hq.obj
  have no : ∀ {H'}, Same H H' → x ≠ y → Same H H' ∧ Tells (x = y) (.bool false) := fun hs hn => ⟨hs, .no hn⟩
  simp [ldp, ldq, lineCells]
  have hcall := sameEnd_spec w hs2.wf' (x := x.a) (y := y.a) ⟨_, _, rfl, h1.same hs2, h2.same hs2⟩ ⟨_, _, rfl, k1.same hs2, k2.same hs2⟩ (by have := hsm.1.1.1; have := hsm.1.2.1; omega)
  simp only [endV] at hcall
  refine wpCall_mono hcall ?_
  rintro _ H3 ⟨hs3, b, rfl, hb⟩
  have hs03 := hs2.trans hs3
  cases b with
  | false =>
    simp
    exact no hs03 (fun h => by rw [h] at hb; simpa using hb.2 rfl)
  | true =>
    have ea := hb.1 rfl
    have ldp3 := fun off n => Obj1.load (C := ctxW w) (off := off) (n := n) (hpo.same hs3)
    have ldq3 := fun off n => Obj1.load (C := ctxW w) (off := off) (n := n) (hq.obj.same hs3)
    simp [ldp3, ldq3, lineCells]
    have hcall := sameEnd_spec w hs03.wf' (x := x.b) (y := y.b) ⟨_, _, rfl, h3.same hs03, h4.same hs03⟩ ⟨_, _, rfl, k3.same hs03, k4.same hs03⟩ (by have := hsm.2.1.1.1; have := hsm.2.1.2.1; omega)
    simp only [endV] at hcall
    refine wpCall_mono hcall ?_
    rintro _ H4 ⟨hs4, b, rfl, hb⟩
    have hs04 := hs03.trans hs4
    cases b with
    | false =>
      simp
      exact no hs04 (fun h => by rw [h] at hb; simpa using hb.2 rfl)
    | true =>
      have eb := hb.1 rfl
      have ldp4 := fun off n => Obj1.load (C := ctxW w) (off := off) (n := n) ((hpo.same hs3).same hs4)
      have ldq4 := fun off n => Obj1.load (C := ctxW w) (off := off) (n := n) ((hq.obj.same hs3).same hs4)
      by_cases hl : x.fly.length = y.fly.length
      · have hl' : (x.fly.length : Int) = y.fly.length := by omega
        have hfl := hsm.2.2.1
        simp [ldp4, ldq4, lineCells, hl']
        have h5' := h5.same hs04
        have k5' := k5.same hs04
        refine wp_loop' (fun n s => ∃ (T : Env) (i : Nat), s = ⟨T, H4, []⟩ ∧ n = x.fly.length - i ∧ i ≤ x.fly.length ∧ T.val 2 = .pointer (some ⟨p, 0, none⟩) ∧ T.val 3 = .pointer (some ⟨q, 0, none⟩) ∧ T.val 5 = .int .i64 i ∧ x.fly.take i = y.fly.take i) (n := x.fly.length)
          ⟨_, 0, rfl, rfl, Nat.zero_le _, by simp, by simp, by simp, by simp⟩ ?_
        rintro n s K ⟨T, i, rfl, rfl, hi, t2, t3, t5, heq⟩ hnext hexit
        by_cases hlt : i < x.fly.length
        · obtain ⟨b, da, dc, rfl, m1, m2, _, hd⟩ := h5'.at hlt
          obtain ⟨b2, db, dc2, rfl, m3, m4, _, hd2⟩ := k5'.at (i := i) (by omega)
          have e3 : (i : Int) < x.fly.length := by omega
          have e4 : (i : Int) < y.fly.length := by omega
          by_cases hn : x.fly[i].1 = y.fly[i].1
          · simp [t2, t3, t5, ldp4, ldq4, lineCells, e3, e4, m1, m3, hn, m2]
            refine d_toStr (bs := x.fly[i].2) (by simp; exact hd) (by simp) fun r1 => ?_
            simp [t3, t5, ldq4, lineCells, e4, m4]
            refine d_toStr (bs := y.fly[i].2) (by simp; exact hd2) (by simp) fun r2 => ?_
            by_cases hab : x.fly[i].2 = y.fly[i].2
            · simp [strV, hab, t5]
              refine hnext (x.fly.length - (i + 1)) _ (by omega) ⟨_, i + 1, rfl, rfl, by omega, by simp [t2], by simp [t3], by simp; rw [i64_in _ (by omega)], ?_⟩
              rw [List.take_succ_eq_append_getElem hlt, List.take_succ_eq_append_getElem (by omega), heq, show x.fly[i] = y.fly[i] from Prod.ext hn hab]
            · simp [strV, hab]
              refine hexit _ _ (by simp) ?_
              simp
              refine no hs04 fun h => hab ?_
              simp only [h]
          · simp [t2, t3, t5, ldp4, ldq4, lineCells, e3, e4, m1, m3, hn]
            refine hexit _ _ (by simp) ?_
            simp
            refine no hs04 fun h => hn ?_
            simp only [h]
        · have : i = x.fly.length := by omega
          subst this
          simp [t2, t5, ldp4, lineCells]
          refine hexit _ _ (by simp) ?_
          simp
          rw [List.take_length, hl, List.take_length] at heq
          exact ⟨hs04, .yes (lineA_ext ea eb heq)⟩
      · have hl' : ¬ (x.fly.length : Int) = y.fly.length := by omega
        simp [ldp4, ldq4, lineCells, hl']
        exact no hs04 fun h => hl (by rw [h])

/-- At which end an act can hand something on. -/
def hearsA (fly : List Itm) (a : ActA) : Int := if a.kind = 3 ∧ 0 ≤ a.n ∧ a.n < fly.length then (fly.getD a.n.toNat (0, [])).1 else 0

theorem hears_spec (w : World) {H : AHeap} (hw : WF H) {v : Value} {x : LineA} (hx : LineR (ctxW w) H x v) (hsm : x.fly.length ≤ 1000) {a : ActA} {da : Option Addr} {dl dc : Nat} :
    wpCall (ctxW w) (.func (.func 28) #[] #[]) [v, actV a (.slice da dl dc)] H fun r H' => Same H H' ∧ r = .int .i64 (hearsA x.fly a) := by
  obtain ⟨o0, e0, o1, e1, f, rfl, h1, h2, h3, h4, h5⟩ := hx
  obtain ⟨a1, c1, rfl⟩ := h1.val
  obtain ⟨a2, c2, rfl⟩ := h2.val
  obtain ⟨a3, c3, rfl⟩ := h3.val
  obtain ⟨a4, c4, rfl⟩ := h4.val
  obtain ⟨a5, c5, rfl⟩ := h5.val
  refine wpCall_fn rfl (get28 w) ?_
  simp [ir28]
  refine w_box (cs := lineCells x (.slice a1 x.a.opens.length c1) (.slice a2 x.a.early.length c2) (.slice a3 x.b.opens.length c3) (.slice a4 x.b.early.length c4) (.slice a5 x.fly.length c5)) hw (by simp [lineV, lineCells]) rfl (by simp [lineCells]) fun p H1 hp => ?_
  simp
  refine w_box (cs := actC a (.slice da dl dc)) hp.same.wf' (by simp [actV, actC]) rfl (by simp [actC]) fun q H2 hq => ?_
  have hs2 := hp.same.trans hq.same
  have ldp := fun off n => Obj1.load (C := ctxW w) (off := off) (n := n) (hp.obj.same hq.same)
  have ldq := fun off n => Obj1.load (C := ctxW w) (off := off) (n := n) hq.obj
  by_cases hk : a.kind = 3
  · have wl : IntKind.i64.wrap ((x.fly.length : Int) - 1) = (x.fly.length : Int) - 1 := i64_in _ (by omega)
    simp [ldp, ldq, lineCells, actC, hk, wl]
    refine wpCall_mono (in_spec w _ _ _) ?_
    rintro _ H3 ⟨rfl, rfl⟩
    by_cases hin : 0 ≤ a.n ∧ a.n ≤ (x.fly.length : Int) - 1
    · obtain ⟨N, hN⟩ : ∃ N : Nat, a.n = N := ⟨a.n.toNat, by omega⟩
      have hNl : N < x.fly.length := by omega
      obtain ⟨b, ya, yc, rfl, l1, _, _, _⟩ := (h5.same hs2).at hNl
      have hNl' : (N : Int) < x.fly.length := by omega
      have hNl2 : (N : Int) ≤ (x.fly.length : Int) - 1 := by omega
      simp [ldp, ldq, lineCells, actC, hN, hNl', hNl2, l1]
      refine ⟨hs2, ?_⟩
      unfold hearsA
      rw [if_pos ⟨hk, by omega, by omega⟩, hN, Int.toNat_natCast, List.getD_eq_getElem?_getD, List.getElem?_eq_getElem hNl]
      rfl
    · have e : (decide (0 ≤ a.n) && decide (a.n ≤ (x.fly.length : Int) - 1)) = false := by
        rw [← Bool.decide_and]
        exact decide_eq_false hin
      simp [e]
      refine ⟨hs2, ?_⟩
      unfold hearsA
      rw [if_neg (fun h => hin ⟨h.2.1, by have := h.2.2; omega⟩)]
  · simp [ldq, actC, hk]
    refine ⟨hs2, ?_⟩
    unfold hearsA
    rw [if_neg (fun h => hk h.1)]
end Go.Ai.Wire
