/-
  Copies of ends and lines; ends at work.
-/
import Derived.Test.YtlikgpehalhgkaaW19
namespace Go.Ai.Wire
open Go.Proofs Go.IntWalk
attribute [local irreducible] Trie.put

theorem ItsN.mod {C : Ctx} {H H' : AHeap} {q lo hi : Nat} {v : Value} {l : List Itm} (hm : Mod q H H') (h : ItsN C H lo hi v l) (hq : q < lo ∨ hi ≤ q) : ItsN C H' lo hi v l := by
  obtain ⟨g, cs, k1, k2, k3, k4⟩ := h
  refine ⟨g, cs, ?_, k2, ?_, k4⟩
  · rcases k1 with h | ⟨h0, hb⟩
    · exact .inl h
    · have hl : l ≠ [] := fun he => h0 (by rw [he]; rfl)
      have := k2 hl
      exact .inr ⟨h0, hb.mod hm (by omega)⟩
  · refine ItC.mod hm k3 fun v hv a n c he hn => ?_
    have := k4 v hv a n c he hn
    omega

/-- A copy of an end. -/
def EndN (C : Ctx) (H : AHeap) (lo hi : Nat) (x : EndA) (v : Value) : Prop := ∃ mid ov ev, v = endV x.last ov x.got ev ∧ lo ≤ mid ∧ mid ≤ hi ∧ ItsN C H lo mid ov x.opens ∧ ItsN C H mid hi ev x.early

theorem EndN.same {C : Ctx} {H H' : AHeap} (hs : Same H H') {lo hi : Nat} {x : EndA} {v : Value} (h : EndN C H lo hi x v) : EndN C H' lo hi x v := by
  obtain ⟨mid, ov, ev, h1, h2, h3, h4, h5⟩ := h
  exact ⟨mid, ov, ev, h1, h2, h3, h4.same hs, h5.same hs⟩
theorem EndN.mod {C : Ctx} {H H' : AHeap} {q : Nat} (hm : Mod q H H') {lo hi : Nat} {x : EndA} {v : Value} (h : EndN C H lo hi x v) (hq : q < lo ∨ hi ≤ q) : EndN C H' lo hi x v := by
  obtain ⟨mid, ov, ev, h1, h2, h3, h4, h5⟩ := h
  exact ⟨mid, ov, ev, h1, h2, h3, h4.mod hm (by omega), h5.mod hm (by omega)⟩
theorem EndN.mono {C : Ctx} {H : AHeap} {lo hi lo' hi' : Nat} (h1 : lo' ≤ lo) (h2 : hi ≤ hi') {x : EndA} {v : Value} (h : EndN C H lo hi x v) : EndN C H lo' hi' x v := by
  obtain ⟨mid, ov, ev, k1, k2, k3, k4, k5⟩ := h
  exact ⟨mid, ov, ev, k1, by omega, by omega, k4.mono h1 (Nat.le_refl _), k5.mono (Nat.le_refl _) h2⟩
theorem EndN.r {C : Ctx} {H : AHeap} {lo hi : Nat} {x : EndA} {v : Value} (h : EndN C H lo hi x v) : EndR C H x v := by
  obtain ⟨mid, ov, ev, k1, k2, k3, k4, k5⟩ := h
  exact ⟨ov, ev, k1, k4.its, k5.its⟩

/-- What copies of ends want. -/
def EndS (x : EndA) : Prop := (x.opens.length ≤ 1000 ∧ x.opens.all (short 500) = true) ∧ x.early.length ≤ 1000 ∧ x.early.all (short 500) = true

theorem copyEnd_spec (w : World) {H : AHeap} (hw : WF H) {x : EndA} {v : Value} (hx : EndR (ctxW w) H x v) (hsm : EndS x) : wpCall (ctxW w) (.func (.func 22) #[] #[]) [v] H fun r H' => Same H H' ∧ EndN (ctxW w) H' H.next H'.next x r := by
  obtain ⟨ov, ev, rfl, ho, he⟩ := hx
  obtain ⟨a1, c1, rfl⟩ := ho.val
  obtain ⟨a2, c2, rfl⟩ := he.val
  refine wpCall_fn rfl (get22 w) ?_
  simp [ir22]
  refine w_box (cs := [.int .i64 x.last, .slice a1 x.opens.length c1, .int .i64 x.got, .slice a2 x.early.length c2]) hw (by simp [endV]) rfl (by simp) fun p H1 hp => ?_
  refine w_mk hp.same.wf' fun q H2 hq => ?_
  have hs02 := hp.same.trans hq.same
  have hp2 := hp.obj.same hq.same
  have ld2 := fun off n => Obj1.load (C := ctxW w) (off := off) (n := n) hp2
  simp [ld2]
  refine wpCall_mono (copyItems_spec w hs02.wf' (ho.same hs02) hsm.1.1 hsm.1.2) ?_
  rintro r3 H3 ⟨hs3, hn3⟩
  have hp3 := hp2.same hs3
  have ld3 := fun off n => Obj1.load (C := ctxW w) (off := off) (n := n) hp3
  have f1 : free (ctxW w) (.call H2 H3) (.exp [p] []) = true := free_call_rd (eqbW w) hs3 (by simp; obtain ⟨e, h⟩ := hp2; rw [h]; simp)
  simp [ld3, f1]
  have hs03 := hs02.trans hs3
  refine wpCall_mono (copyItems_spec w hs03.wf' (he.same hs03) hsm.2.1 hsm.2.2) ?_
  rintro r4 H4 ⟨hs4, hn4⟩
  have hp4 := hp3.same hs4
  have ld4 := fun off n => Obj1.load (C := ctxW w) (off := off) (n := n) hp4
  have f2 : free (ctxW w) (.call H3 H4) (.exp [p] []) = true := free_call_rd (eqbW w) hs4 (by simp; obtain ⟨e, h⟩ := hp3; rw [h]; simp)
  obtain ⟨a3, c3, rfl⟩ := hn3.val
  obtain ⟨a4, c4, rfl⟩ := hn4.val
  simp [ld4, f1, f2]
  have hq4 := (hq.obj.same hs3).same hs4
  have hs04 := hs03.trans hs4
  have n2 := hq.next
  refine d_store (p := q) (off := 0) (xs := [.int .i64 x.last, .slice a3 x.opens.length c3, .int .i64 x.got, .slice a4 x.early.length c4]) hs04.wf' rfl hq4 (by simp) (by simp) rfl (by simp) (by simp) (by simp) fun H5 hm5 hn5 ho5 => ?_
  have ld5 := fun off n => Obj1.load (C := ctxW w) (off := off) (n := n) ho5
  simp [ld5]
  have n3 := hs3.grow.next
  have n4 := hs4.grow.next
  have n1 := hp.same.grow.next
  have n0 := hq.new
  have n6 : H5.next = H4.next := hn5
  refine ⟨hs04.then_mod hm5 (by omega), H3.next, _, _, rfl, by omega, by omega, ?_, ?_⟩
  · exact ((hn3.same hs4).mod hm5 (by omega)).mono (by omega) (Nat.le_refl _)
  · exact (hn4.mod hm5 (by omega)).mono (Nat.le_refl _) (by omega)

/-- A function that copies a frame with its number. -/
def CopyF (C : Ctx) (H0 : AHeap) (f : Value) : Prop :=
  ∀ H1, Same H0 H1 → ∀ n da dc d, Bs C H1 (.slice da (List.length d) dc) d → d.length ≤ 1000 → wpCall C f [itV n (.slice da d.length dc)] H1 fun r H2 => Same H1 H2 ∧ ∃ da' dc', r = itV n (.slice da' d.length dc') ∧ Bs C H2 (.slice da' d.length dc') d ∧ ∀ b, da' = some b → d.length ≠ 0 → H1.next ≤ b.block

theorem copyF_spec (w : World) {k : Nat} (hk : k = 95 ∨ k = 78) {H : AHeap} : CopyF (ctxW w) H (.func (.func k) #[] #[]) := by
  intro H1 hs n da dc d hd hl
  have main : ∀ {F : IFunc}, F = ir95 → (ctxW w).funcs.get k = some F → wpCall (ctxW w) (.func (.func k) #[] #[]) [itV n (.slice da d.length dc)] H1 fun r H2 => Same H1 H2 ∧ ∃ da' dc', r = itV n (.slice da' d.length dc') ∧ Bs (ctxW w) H2 (.slice da' d.length dc') d ∧ ∀ b, da' = some b → d.length ≠ 0 → H1.next ≤ b.block := by
    intro F hF hg
    refine wpCall_fn (by rcases hk with rfl | rfl <;> rfl) hg ?_
    subst hF
    simp [ir95]
    refine w_box (cs := [.int .i64 n, .slice da d.length dc]) hs.wf' (by simp [itV]) rfl (by simp) fun p H2 hp => ?_
    refine w_mk hp.same.wf' fun q H3 hq => ?_
    have hs13 := hp.same.trans hq.same
    have hp3 := hp.obj.same hq.same
    have ld3 := fun off n => Obj1.load (C := ctxW w) (off := off) (n := n) hp3
    simp [ld3]
    refine wpCall_mono (clone_spec w hs13.wf' (hd.same hs13) (by omega)) ?_
    rintro r4 H4 ⟨hs4, hb4, hoff4⟩
    obtain ⟨a4, c4, rfl⟩ := hb4.val
    simp
    have hs14 := hs13.trans hs4
    refine w_store (p := p) (off := 1) (xs := [.slice a4 d.length c4]) hs14.wf' (hp3.same hs4) (by simp) (by simp) rfl (by simp) (by simp) (by simp) fun H5 hm5 hn5 ho5 => ?_
    have ld5 := fun off n => Obj1.load (C := ctxW w) (off := off) (n := n) ho5
    simp [ld5]
    have n1 := hp.next
    have n2 := hp.new
    have n3 := hq.new
    have n3' := hq.next
    have hs15 : Same H1 H5 := hs14.then_mod hm5 (by omega)
    have hq5 : Obj1 H5 q _ := ((hq.obj.same hs4).mod hm5 (by omega))
    refine w_store (p := q) (off := 0) (xs := [.int .i64 n, .slice a4 d.length c4]) hs15.wf' hq5 (by simp) (by simp) rfl (by simp) (by simp) (by simp) fun H6 hm6 hn6 ho6 => ?_
    have ld6 := fun off n => Obj1.load (C := ctxW w) (off := off) (n := n) ho6
    simp [ld6]
    have hp4 := hoff4 p (by omega)
    have hq4 := hoff4 q (by omega)
    refine ⟨hs15.then_mod hm6 (by omega), a4, c4, rfl, Row.mod hm6 (Row.mod hm5 hb4 hp4) hq4, fun b hb hn => ?_⟩
    subst hb
    rcases Nat.lt_or_ge b.block H1.next with h | h
    · exact absurd rfl (hoff4 b.block (by omega) b _ _ rfl (fun h0 => hn (List.length_eq_zero_iff.1 h0)))
    · exact h
  rcases hk with rfl | rfl
  · exact main rfl (get95 w)
  · exact main rfl (get78 w)

theorem mapped_spec (w : World) {k : Nat} (hk : k = 94 ∨ k = 77) {H : AHeap} (hw : WF H) {v f : Value} {l : List Itm} (hv : Its (ctxW w) H v l) (hf : CopyF (ctxW w) H f) (hsm : l.length ≤ 1000) (hds : l.all (short 500) = true) :
    wpCall (ctxW w) (.func (.func k) #[] #[]) [v, f] H fun r H' => Same H H' ∧ ItsN (ctxW w) H' H.next H'.next r l := by
  obtain ⟨a, c, rfl⟩ := hv.val
  have main : ∀ {F : IFunc}, F = ir94 → (ctxW w).funcs.get k = some F → wpCall (ctxW w) (.func (.func k) #[] #[]) [.slice a l.length c, f] H fun r H' => Same H H' ∧ ItsN (ctxW w) H' H.next H'.next r l := by
    intro F hF hg
    refine wpCall_fn (by rcases hk with rfl | rfl <;> rfl) hg ?_
    subst hF
    simp [ir94]
    refine wp_loop' (fun n s => ∃ (T : Env) (H1 : AHeap) (i : Nat), s = ⟨T, H1, []⟩ ∧ n = l.length - i ∧ i ≤ l.length ∧ T.val 1 = f ∧ T.val 7 = .slice a l.length c ∧ T.val 8 = .int .i64 l.length ∧ T.val 9 = .int .i64 i ∧ Same H H1 ∧ ItsN (ctxW w) H1 H.next H1.next (T.val 4) (l.take i)) (n := l.length)
      ⟨_, H, 0, rfl, rfl, Nat.zero_le _, by simp, by simp, by simp, by simp, Same.refl hw, by simpa using ItsN.nil _ _ _ _⟩ ?_
    rintro n s K ⟨T, H1, i, rfl, rfl, hi, t1, t7, t8, t9, hs1, hn1⟩ hnext hexit
    have hw1 := hs1.wf'
    by_cases hlt : i < l.length
    · obtain ⟨b, da, dc, rfl, l1, l2, l3, hd⟩ := (hv.same hs1).at hlt
      have e3 : (i : Int) < l.length := by omega
      obtain ⟨g, cs, k1, k2, k3, k4⟩ := hn1
      have hdl : l[i].2.length ≤ 500 := by
        have := (List.all_eq_true.1 hds) l[i] (List.getElem_mem hlt)
        simpa [short] using this
      simp [t1, t7, t8, t9, e3, l3]
      refine w_mk hw1 fun q H2 hq => ?_
      refine w_store (p := q) (off := 0) (xs := [.int .i64 l[i].1, .slice da l[i].2.length dc]) hq.same.wf' hq.obj (by simp) (by simp) rfl (by simp) (by simp) (by simp) fun H3 hm3 hn3 ho3 => ?_
      have hs13 : Same H1 H3 := hq.same.then_mod hm3 (by have := hq.new; omega)
      have ld3 := fun off n => Obj1.load (C := ctxW w) (off := off) (n := n) ho3
      simp [t1, ld3]
      refine wpCall_mono (hf H3 (hs1.trans hs13) l[i].1 da dc l[i].2 (hd.same hs13) (by omega)) ?_
      rintro r4 H4 ⟨hs4, da4, dc4, rfl, hb4, hfr4⟩
      have hs14 := hs13.trans hs4
      simp
      refine w_bs (esz := 2) (cs := [.int .i64 l[i].1, .slice da4 l[i].2.length dc4]) hs14.wf' (by simp [itV]) (by simp) (by simp) fun q5 H5 hq5 hb5 => ?_
      have hs15 := hs14.trans hq5.same
      refine w_appN (g := g) (n := (l.take i).length) (m := 1) (cs := cs) (xs := [.int .i64 l[i].1, .slice da4 l[i].2.length dc4]) hs15.wf' (by simpa using k1.same hs15) (by simpa using hb5.row) (by simp) (by simp) (by simp [roomy]; omega) fun v6 H6 g6 hg6 hb6 => ?_
      simp [t1, t7, t8, t9]
      have hs16 : Same H H6 := by
        rcases hg6 with ⟨_, _, h⟩ | ⟨h0, rfl, _, h⟩
        · exact (hs1.trans hs15).trans h
        · refine (hs1.trans hs15).then_mod h (k2 fun he => h0 (by rw [he]; rfl)).1
      refine hnext (l.length - (i + 1)) _ (by omega) ⟨_, H6, i + 1, rfl, rfl, by omega, by simp [t1], by simp [t7], by simp [t8], by simp; rw [i64_in _ (by omega)], hs16, ?_⟩
      simp
      rw [List.take_succ_eq_append_getElem hlt]
      exact ItsN.snoc hw1 hs15 hs1.grow.next k2 k3 k4 (hb4.same hq5.same) (fun b hb hn => by have := hfr4 b hb hn; have := hs13.grow.next; omega) hg6 (by simpa using hb6)
    · have : i = l.length := by omega
      subst this
      rw [List.take_length] at hn1
      simp [t1, t7, t8, t9]
      refine hexit _ _ (by simp) ?_
      simp
      exact ⟨hs1, hn1⟩
  rcases hk with rfl | rfl
  · exact main rfl (get94 w)
  · exact main rfl (get77 w)
end Go.Ai.Wire
