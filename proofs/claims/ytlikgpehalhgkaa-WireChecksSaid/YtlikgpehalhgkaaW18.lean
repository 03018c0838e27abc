/-
  Which ends are right, by the program.
-/
import Derived.Test.YtlikgpehalhgkaaW17
namespace Go.Ai.Wire
open Go.Proofs Go.IntWalk
attribute [local irreducible] Trie.put

/-- Early frames' numbers rise, so they are few. -/
theorem early_few {x : EndA} (h : ∀ i, EarlyAt x i) (hlen : x.early.length ≤ 1000000) : x.early.length ≤ 8 := by
  have key : ∀ i (hi : i < x.early.length), x.got + 2 + i ≤ x.early[i].1 := by
    intro i
    induction i with
    | zero =>
      intro hi
      have := (h 0 hi).1
      omega
    | succ i ih =>
      intro hi
      have h1 := ih (by omega)
      have h2 := (h (i + 1) hi).2.2.1 (by omega)
      simp only [Nat.add_sub_cancel] at h2
      omega
  rcases Nat.lt_or_ge 8 x.early.length with h8 | h8
  · have h1 := key 8 h8
    have h2 := (h 8 h8).2.1
    omega
  · exact h8

theorem endOK_of {x : EndA} (hl : 0 ≤ x.last ∧ x.last ≤ 60000) (hg : 0 ≤ x.got ∧ x.got ≤ 60000) (ho : x.opens.length ≤ 8) (fo : x.opens.all frameB = true) (fe : x.early.all frameB = true)
    (no : ∀ j (h : j < x.opens.length), x.opens[j].1 = x.last - x.opens.length + 1 + j ∧ 1 ≤ x.opens[j].1) (ne : ∀ j (h : j < x.early.length), x.got + 2 ≤ x.early[j].1 ∧ x.early[j].1 ≤ min (x.got + 8) 60000 ∧ (∀ _ : 0 < j, x.early[j - 1].1 < x.early[j].1)) : EndOK x := by
  rw [List.all_eq_true] at fo fe
  refine ⟨hl, hg, ho, fun j h => ⟨(no j h).1, (no j h).2, (frameB_iff _).1 (fo _ (List.getElem_mem h))⟩, fun j h => ⟨(ne j h).1, (ne j h).2.1, (ne j h).2.2, (frameB_iff _).1 (fe _ (List.getElem_mem h))⟩⟩

theorem EndOK.opensB {x : EndA} (h : EndOK x) : x.opens.all frameB = true := by
  rw [List.all_eq_true]
  intro y hy
  obtain ⟨i, hi, rfl⟩ := List.getElem_of_mem hy
  exact (frameB_iff _).2 (h.2.2.2.1 i hi).2.2
theorem EndOK.earlyB {x : EndA} (h : EndOK x) : x.early.all frameB = true := by
  rw [List.all_eq_true]
  intro y hy
  obtain ⟨i, hi, rfl⟩ := List.getElem_of_mem hy
  exact (frameB_iff _).2 (h.2.2.2.2 i hi).2.2.2

set_option maxHeartbeats 1000000 in
theorem endRight_spec (w : World) {H : AHeap} (hw : WF H) {x : EndA} {v : Value} (hx : EndR (ctxW w) H x v) (hsm : x.opens.length ≤ 1000000 ∧ x.early.length ≤ 1000000) : wpCall (ctxW w) (.func (.func 72) #[] #[]) [v] H fun r H' => Same H H' ∧ Tells (EndOK x) r := by
  obtain ⟨ov, ev, rfl, ho, he⟩ := hx
  obtain ⟨a1, c1, rfl⟩ := ho.val
  obtain ⟨a2, c2, rfl⟩ := he.val
  refine wpCall_fn rfl (get72 w) ?_
  simp [ir72]
  refine w_box (cs := [.int .i64 x.last, .slice a1 x.opens.length c1, .int .i64 x.got, .slice a2 x.early.length c2]) hw (by simp [endV]) rfl (by simp) fun p H1 hp => ?_
  have ld := fun off n => Obj1.load (C := ctxW w) (off := off) (n := n) hp.obj
  have ho1 := ho.same hp.same
  have he1 := he.same hp.same
  simp [ld]
  refine wpCall_mono (isCount_spec w x.last) ?_
  rintro _ H1 ⟨rfl, rfl⟩
  by_cases hl : 0 ≤ x.last ∧ x.last ≤ 60000
  · simp [ld, hl]
    refine wpCall_mono (isCount_spec w x.got) ?_
    rintro _ H1 ⟨rfl, rfl⟩
    by_cases hg : 0 ≤ x.got ∧ x.got ≤ 60000
    · by_cases h8 : x.opens.length ≤ 8
      · have e8 : ¬ (8 : Int) < x.opens.length := by omega
        by_cases h9 : x.early.length ≤ 8
        · have e9 : ¬ (8 : Int) < x.early.length := by omega
          simp [ld, hg, e8, e9]
          refine wpCall_mono (allI_spec w (.inl rfl) hp.same.wf' ho1 (isItem_spec w) hsm.1) ?_
          rintro _ H2 ⟨hs2, rfl⟩
          have ld2 := fun off n => Obj1.load (C := ctxW w) (off := off) (n := n) (hp.obj.same hs2)
          cases fo : x.opens.all frameB with
          | false =>
            simp
            exact ⟨hp.same.trans hs2, .no fun h => by rw [h.opensB] at fo; cases fo⟩
          | true =>
            simp [ld2]
            refine wpCall_mono (allI_spec w (.inl rfl) (hp.same.trans hs2).wf' (he1.same hs2) (isItem_spec w) hsm.2) ?_
            rintro _ H3 ⟨hs3, rfl⟩
            have ho3 := (hp.obj.same hs2).same hs3
            have ld3 := fun off n => Obj1.load (C := ctxW w) (off := off) (n := n) ho3
            have hs03 := (hp.same.trans hs2).trans hs3
            cases fe : x.early.all frameB with
            | false =>
              simp
              exact ⟨hs03, .no fun h => by rw [h.earlyB] at fe; cases fe⟩
            | true =>
              have ew : IntKind.i64.wrap (IntKind.i64.wrap (x.last - x.opens.length) + 1) = x.last - x.opens.length + 1 := by
                rw [i64_in (x.last - x.opens.length) (by omega), i64_in (x.last - x.opens.length + 1) (by omega)]
              simp [ld3, ew]
              refine wp_loop' (fun n s => ∃ (T : Env) (H4 : AHeap) (i : Nat), s = ⟨T, H4, []⟩ ∧ n = x.opens.length - i ∧ i ≤ x.opens.length ∧ Same H3 H4 ∧ T.val 1 = .pointer (some ⟨p, 0, none⟩) ∧ T.val 4 = .int .i64 (x.last - x.opens.length + 1) ∧ T.val 54 = .slice a1 x.opens.length c1 ∧ T.val 55 = .int .i64 x.opens.length ∧ T.val 56 = .int .i64 i ∧
                ∀ j (h : j < x.opens.length), j < i → x.opens[j].1 = x.last - x.opens.length + 1 + j ∧ 1 ≤ x.opens[j].1) (n := x.opens.length)
                ⟨_, H3, 0, rfl, rfl, Nat.zero_le _, Same.refl hs03.wf', by simp, by simp, by simp, by simp, by simp, by intro j _ hj; omega⟩ ?_
              rintro n s K ⟨T, H4, i, rfl, rfl, hi, hs4, t1, t4, t54, t55, t56, hall⟩ hnext hexit
              have hs04 := hs03.trans hs4
              by_cases hlt : i < x.opens.length
              · obtain ⟨b, da, dc, rfl, _, _, l3, hd⟩ := (ho.same hs04).at hlt
                have e3 : (i : Int) < x.opens.length := by omega
                simp [t1, t4, t54, t55, t56, e3, l3]
                refine w_mk hs04.wf' fun q H5 hq => ?_
                simp
                refine w_store (p := q) (off := 0) (xs := [.int .i64 x.opens[i].1, .slice da x.opens[i].2.length dc]) hq.same.wf' hq.obj (by simp) (by simp) rfl (by simp) (by simp) (by simp) fun H6 hm6 hn6 ho6 => ?_
                have hs46 : Same H4 H6 := hq.same.then_mod hm6 (by have := hq.new; omega)
                have ld6 := fun off n => Obj1.load (C := ctxW w) (off := off) (n := n) ho6
                have ei : IntKind.i64.wrap (x.last - x.opens.length + 1 + i) = x.last - x.opens.length + 1 + i := by rw [i64_in _ (by omega)]
                have bad : ¬ OpenAt x i → ¬ EndOK x := fun h hE => h (hE.2.2.2.1 i)
                simp [t1, t4, ld6, ei]
                by_cases hn : x.opens[i].1 = x.last - x.opens.length + 1 + i
                · by_cases h1 : x.last - x.opens.length + 1 + i < 1
                  · simp [hn, h1, ld6]
                    refine hexit _ _ (by simp) ?_
                    simp
                    exact ⟨hs04.trans hs46, .no (bad fun h => by have := (h hlt).2.1; omega)⟩
                  · simp [hn, h1, ld6, t1, t4, t54, t55, t56]
                    refine hnext (x.opens.length - (i + 1)) _ (by omega) ⟨_, H6, i + 1, rfl, rfl, by omega, hs4.trans hs46, by simp [t1], by simp [t4], by simp [t54], by simp [t55], by simp; rw [i64_in _ (by omega)], ?_⟩
                    intro j hj hji
                    by_cases h : j = i
                    · subst h; exact ⟨hn, by omega⟩
                    · exact hall j hj (by omega)
                · simp [hn]
                  refine hexit _ _ (by simp) ?_
                  simp
                  exact ⟨hs04.trans hs46, .no (bad fun h => hn (h hlt).1)⟩
              · have : i = x.opens.length := by omega
                subst this
                have hopen := fun j (h : j < x.opens.length) => hall j h h
                have ld4 := fun off n => Obj1.load (C := ctxW w) (off := off) (n := n) (ho3.same hs4)
                have e2 : IntKind.i64.wrap (x.got + 2) = x.got + 2 := i64_in _ (by omega)
                simp [t1, t4, t54, t55, t56]
                refine hexit _ _ (by simp) ?_
                simp [t1, ld4, e2]
                refine wp_loop' (fun n s => ∃ (T : Env) (H5 : AHeap) (i : Nat), s = ⟨T, H5, []⟩ ∧ n = x.early.length - i ∧ i ≤ x.early.length ∧ Same H4 H5 ∧ T.val 1 = .pointer (some ⟨p, 0, none⟩) ∧ T.val 7 = .int .i64 (if h : 0 < i ∧ i ≤ x.early.length then x.early[i - 1].1 + 1 else x.got + 2) ∧ T.val 77 = .slice a2 x.early.length c2 ∧ T.val 78 = .int .i64 x.early.length ∧ T.val 79 = .int .i64 i ∧
                  ∀ j (h : j < x.early.length), j < i → x.got + 2 ≤ x.early[j].1 ∧ x.early[j].1 ≤ min (x.got + 8) 60000 ∧ (∀ _ : 0 < j, x.early[j - 1].1 < x.early[j].1)) (n := x.early.length)
                  ⟨_, H4, 0, rfl, rfl, Nat.zero_le _, Same.refl hs04.wf', by simp [t1], by simp, by simp, by simp, by simp, by intro j _ hj; omega⟩ ?_
                rintro n s K ⟨T, H5, i, rfl, rfl, hi, hs5, t1, t7, t77, t78, t79, hall2⟩ hnext hexit
                have hs05 := hs04.trans hs5
                by_cases hlt : i < x.early.length
                · obtain ⟨b, da, dc, rfl, _, _, l3, hd⟩ := (he.same hs05).at hlt
                  have e3 : (i : Int) < x.early.length := by omega
                  simp [t1, t7, t77, t78, t79, e3, l3]
                  refine w_mk hs05.wf' fun q H6 hq => ?_
                  refine w_store (p := q) (off := 0) (xs := [.int .i64 x.early[i].1, .slice da x.early[i].2.length dc]) hq.same.wf' hq.obj (by simp) (by simp) rfl (by simp) (by simp) (by simp) fun H7 hm7 hn7 ho7 => ?_
                  have hs57 : Same H5 H7 := hq.same.then_mod hm7 (by have := hq.new; omega)
                  have ld7 := fun off n => Obj1.load (C := ctxW w) (off := off) (n := n) ho7
                  have ldp := fun off n => Obj1.load (C := ctxW w) (off := off) (n := n) (((ho3.same hs4).same hs5).same hs57)
                  have e8' : IntKind.i64.wrap (x.got + 8) = x.got + 8 := i64_in _ (by omega)
                  have hM : (if 60000 < x.got + 8 then 60000 else x.got + 8) = min (x.got + 8) 60000 := by omega
                  obtain ⟨L, hL⟩ : ∃ L, L = (if h : 0 < i ∧ i ≤ x.early.length then x.early[i - 1].1 + 1 else x.got + 2) := ⟨_, rfl⟩
                  rw [← hL] at t7
                  have bad : ¬ EarlyAt x i → ¬ EndOK x := fun h hE => h (hE.2.2.2.2 i)
                  simp [t1, t7, ld7, ldp, e8', hM, ← hL]
                  refine wpCall_mono (within_spec w x.early[i].1 L (min (x.got + 8) 60000)) ?_
                  rintro _ H7 ⟨rfl, rfl⟩
                  have hLow : (i = 0 ∧ L = x.got + 2) ∨ ∃ h : 0 < i, L = x.early[i - 1].1 + 1 ∧ x.got + 2 ≤ x.early[i - 1].1 := by
                    by_cases h0 : 0 < i
                    · exact .inr ⟨h0, by rw [hL, dif_pos ⟨h0, by omega⟩], (hall2 (i - 1) (by omega) (by omega)).1⟩
                    · exact .inl ⟨by omega, by rw [hL, dif_neg (by omega)]⟩
                  by_cases hr : L ≤ x.early[i].1 ∧ x.early[i].1 ≤ min (x.got + 8) 60000
                  · have er : (decide (L ≤ x.early[i].1) && decide (x.early[i].1 ≤ min (x.got + 8) 60000)) = true := by simp only [hr.1, hr.2, decide_true, Bool.and_self]
                    have hz : x.got + 2 ≤ x.early[i].1 := by rcases hLow with ⟨_, h⟩ | ⟨_, h, h'⟩ <;> omega
                    have hzw : IntKind.i64.wrap (x.early[i].1 + 1) = x.early[i].1 + 1 := by
                      have h1 := hr.2
                      generalize x.early[i].1 = z at *
                      exact i64_in _ (by omega)
                    simp [er, ld7, t1, t77, t78, t79]
                    refine hnext (x.early.length - (i + 1)) _ (by omega) ⟨_, H7, i + 1, rfl, rfl, by omega, hs5.trans hs57, by simp [t1], ?_, by simp [t77], by simp [t78], by simp; rw [i64_in _ (by omega)], ?_⟩
                    · simp
                      rw [dif_pos (by omega), hzw]
                    · intro j hj hji
                      by_cases h : j = i
                      · subst h
                        refine ⟨?_, hr.2, fun h0 => ?_⟩
                        · rcases hLow with ⟨_, h⟩ | ⟨_, h, h'⟩ <;> omega
                        · rcases hLow with ⟨h, _⟩ | ⟨_, h, h'⟩ <;> omega
                      · exact hall2 j hj (by omega)
                  · have er : (decide (L ≤ x.early[i].1) && decide (x.early[i].1 ≤ min (x.got + 8) 60000)) = false := by
                      simp only [Bool.and_eq_false_iff, decide_eq_false_iff_not]
                      omega
                    simp [er]
                    refine hexit _ _ (by simp) ?_
                    simp
                    refine ⟨hs05.trans hs57, .no (bad fun h => ?_)⟩
                    have h1 := h hlt
                    refine hr ⟨?_, h1.2.1⟩
                    rcases hLow with ⟨_, h'⟩ | ⟨h0, h', _⟩
                    · have := h1.1; omega
                    · have := h1.2.2.1 h0; omega
                · have : i = x.early.length := by omega
                  subst this
                  simp [t1, t77, t78, t79]
                  refine hexit _ _ (by simp) ?_
                  simp
                  exact ⟨hs05, .yes (endOK_of hl hg h8 fo fe hopen fun j h => hall2 j h h)⟩
        · have e9 : (8 : Int) < x.early.length := by omega
          simp [ld, hg, e8, e9]
          exact ⟨hp.same, .no fun h => h9 (early_few h.2.2.2.2 hsm.2)⟩
      · have e8 : (8 : Int) < x.opens.length := by omega
        simp [ld, hg, e8]
        exact ⟨hp.same, .no fun h => h8 h.2.2.1⟩
    · have : (decide (0 ≤ x.got) && decide (x.got ≤ 60000)) = false := by simp; omega
      simp [ld, this]
      exact ⟨hp.same, .no fun h => hg h.2.1⟩
  · have : (decide (0 ≤ x.last) && decide (x.last ≤ 60000)) = false := by simp; omega
    simp [ld, this]
    exact ⟨hp.same, .no fun h => hl h.1⟩
end Go.Ai.Wire
