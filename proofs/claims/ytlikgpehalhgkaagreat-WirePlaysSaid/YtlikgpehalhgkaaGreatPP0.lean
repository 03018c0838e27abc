/-
  A copy of acts.
-/
import Derived.Test.YtlikgpehalhgkaaGreatPO1
import Derived.Test.YtlikgpehalhgkaaGreatPR8
namespace Go.Ai.Wire
open Go.Proofs Go.IntWalk
attribute [local irreducible] Trie.put

section
variable {C : Ctx} {H H' : AHeap} {col col' : Nat → Nat} {A : List Nat}
theorem AcC.scal {l : List ActA} {cs : List Value} (h : AcC C H l cs) : cs.all scalar = true := by
  induction h with
  | nil => rfl
  | cons h1 _ ih =>
    obtain ⟨_, _, rfl⟩ := h1.val
    simp [ih]
theorem AcC.step (hs : Step A H col H' col') (h0 : 0 ∉ A) {l : List ActA} {cs : List Value} (h : AcC C H l cs) (hp : Plain col cs) : AcC C H' l cs := by
  induction h with
  | nil => exact .nil
  | cons h1 _ ih =>
    refine .cons (Bs.step hs h0 h1 (hp _ (by simp))) (ih fun v hv => hp v ?_)
    simp [hv]
theorem AcC.keep (hs : Step A H col H' col') {l : List ActA} {cs : List Value} (h : AcC C H l cs) (hp : Plain col cs) : Plain col' cs := by
  induction h with
  | nil => exact fun v hv => by cases hv
  | @cons y dv l cs h1 _ ih =>
    intro u hu a m c he hm
    simp only [List.mem_cons] at hu
    rcases hu with rfl | rfl | rfl | rfl | rfl | rfl | hu
    · cases he
    · cases he
    · cases he
    · cases he
    · cases he
    · obtain ⟨_, a', c', he', _, h4⟩ := h1
      rw [he] at he'
      cases he'
      rw [hs.keep _ (load_lt hs.wf (h4 a rfl hm))]
      exact hp _ (by simp) a _ _ he hm
    · exact ih (fun v hv => hp v (by simp [hv])) u hu a m c he hm

/-- Acts at work, in a row of some colour. -/
def WActs (C : Ctx) (H : AHeap) (col : Nat → Nat) (k : Nat) (v : Value) (l : List ActA) : Prop :=
  ∃ g cs, NG H v g 6 l.length cs ∧ (v ≠ .slice none 0 0 → col g = k) ∧ AcC C H l cs ∧ Plain col cs
theorem WActs.acts {k : Nat} {v : Value} {l : List ActA} (h : WActs C H col k v l) : Acts C H v l := by
  obtain ⟨g, cs, k1, k2, k3, k4⟩ := h
  rcases k1 with ⟨rfl, hn, rfl⟩ | hb
  · have : l = [] := List.length_eq_zero_iff.1 hn
    subst this
    exact Acts.nil C H
  · exact ⟨cs, k3, hb.row⟩
theorem WActs.step (hs : Step A H col H' col') (h0 : 0 ∉ A) {k : Nat} (hk : k ∉ A) {v : Value} {l : List ActA} (h : WActs C H col k v l) : WActs C H' col' k v l := by
  obtain ⟨g, cs, k1, k2, k3, k4⟩ := h
  refine ⟨g, cs, ?_, ?_, k3.step hs h0 k4, k3.keep hs k4⟩
  · rcases k1 with h | hb
    · exact .inl h
    · exact .inr (hb.step hs (by rw [k2 hb.nn]; exact hk))
  · intro hv
    rcases k1 with h | hb
    · exact absurd h.1 hv
    · rw [hs.keep g (hb.lt hs.wf)]
      exact k2 hv
/-- One more. -/
theorem WActs.snoc {H2 H3 : AHeap} {g g' k : Nat} {v v' : Value} {l : List ActA} {cs : List Value} {a : ActA} {da : Option Addr} {dc : Nat} (hb2 : Bare col H2) (k0 : k ≠ 0) (k2 : v ≠ .slice none 0 0 → col g = k) (k3 : AcC C H2 l cs) (k4 : Plain col cs)
    (hd : Bs C H2 (.slice da a.data.length dc) a.data) (hdp : ∀ b, da = some b → a.data.length ≠ 0 → col b.block = 0) (hg : GrownG H2 H3 v g g') (hb : BufG H3 v' g' 6 (l.length + 1) (cs ++ actC a (.slice da a.data.length dc))) :
    ∃ col3, Step [k] H2 col H3 col3 ∧ WActs C H3 col3 k v' (l ++ [a]) := by
  have hp : Plain col (cs ++ actC a (.slice da a.data.length dc)) := by
    intro u hu a m c he hm
    rw [List.mem_append] at hu
    rcases hu with hu | hu
    · exact k4 u hu a m c he hm
    · simp only [actC, List.mem_cons, List.not_mem_nil, or_false] at hu
      rcases hu with hu | hu | hu | hu | hu | hu
      · rw [hu] at he; cases he
      · rw [hu] at he; cases he
      · rw [hu] at he; cases he
      · rw [hu] at he; cases he
      · rw [hu] at he; cases he
      · rw [hu] at he
        cases he
        exact hdp a rfl hm
  have hit : AcC C H2 (l ++ [a]) (cs ++ actC a (.slice da a.data.length dc)) := k3.app (.cons hd .nil)
  rcases hg with ⟨hvn, rfl, hs⟩ | ⟨hvn, rfl, hlt, hm⟩
  · have hgl := hb.lt hs.wf'
    have st : Step [k] H2 col H3 (paint col H2.next k) := Step.of_made hs hb2 (Nat.le_refl _) hgl
    exact ⟨_, st, H2.next, _, .inr (by simpa using hb), fun _ => by simp [paint], hit.same hs, hit.keep st hp⟩
  · have st : Step [k] H2 col H3 col := Step.of_mod hm hb2 (by rw [k2 hvn]; simp)
    exact ⟨col, st, g', _, .inr (by simpa using hb), fun _ => k2 hvn, hit.step st (by simp; omega) hp, hp⟩
end

set_option maxHeartbeats 1000000 in
theorem copyActs_spec (w : World) {H : AHeap} (hw : WF H) {v : Value} {l : List ActA} (hv : Acts (ctxW w) H v l) (hl : l.length ≤ 60) (hd : ∀ a ∈ l, a.data.length ≤ 500) : wpCall (ctxW w) (.func (.func 10) #[] #[]) [v] H fun r H' => Same H H' ∧ Acts (ctxW w) H' r l := by
  obtain ⟨a, c, rfl⟩ := hv.val
  refine wpCall_fn rfl (get10 w) ?_
  simp [ir10]
  refine wp_loop' (fun n s => ∃ (T : Env) (Hc : AHeap) (i : Nat) (col : Nat → Nat) (r : Value), s = ⟨T, Hc, []⟩ ∧ n = l.length - i ∧ i ≤ l.length ∧ T.val 0 = .slice a l.length c ∧ T.val 3 = r ∧ T.val 4 = .int .i64 i ∧ Step [8] H (fun _ => 0) Hc col ∧ WActs (ctxW w) Hc col 8 r (l.take i)) (n := l.length)
    ⟨_, H, 0, fun _ => 0, _, rfl, rfl, Nat.zero_le _, by simp, by simp, by simp, Step.of_same (Same.refl hw) (fun _ _ => rfl), ⟨0, [], .inl ⟨rfl, rfl, rfl⟩, fun h => absurd rfl h, .nil, fun v h => by cases h⟩⟩ ?_
  rintro n s K ⟨T, Hc, i, col, r, rfl, rfl, hi, t0, t3, t4, st, W⟩ hnext hexit
  have hlow : Same H Hc := ⟨hw, st.grow, fun b hb => st.same b hb (by simp)⟩
  by_cases hlt : i < l.length
  · have e1 : (i : Int) < l.length := by omega
    obtain ⟨b, da, dc, rfl, l1, hb⟩ := (hv.same hlow).at hlt
    have hdl := hd _ (List.getElem_mem hlt)
    simp [t0, t4, e1, l1]
    refine w_mk st.wf' fun t5 H1 ht5 => ?_
    have n5 := ht5.new
    have n5' := ht5.next
    refine w_store (p := t5) (off := 0) (xs := actC l[i] (.slice da l[i].data.length dc)) ht5.same.wf' ht5.obj (by simp) (by simp [actC]) (by simp [actC]) (by simp) (by simp) (by simp [actC]) fun H2 hm2 hn2 ho2 => ?_
    simp [actC] at ho2
    have hs2 : Same Hc H2 := ht5.same.then_mod hm2 (by omega)
    simp
    refine w_bs (esz := 1) (cs := []) hs2.wf' (by simp) (by simp) (by simp) fun q H3 hq hb3 => ?_
    have nq := hq.new
    have nq' := hq.next
    have ld3 := fun off n => Obj1.load (C := ctxW w) (off := off) (n := n) (ho2.same hq.same)
    simp [ld3]
    refine w_app (g := q) (n := 0) (m := l[i].data.length) (cs := []) (xs := l[i].data.map u8v) hq.same.wf' (by simpa using hb3) (by simp; exact hb.same (hs2.trans hq.same)) (u8_scalar _) (by simp [roomy]; omega) fun v4 H4 hm4 hb4 => ?_
    have hs4 : Same H2 H4 := hq.same.then_mod hm4 (by omega)
    have hd4 : Bs (ctxW w) H4 v4 l[i].data := by
      have := hb4.row (C := ctxW w)
      simpa [Bs] using this
    obtain ⟨va, hva, hvb, _⟩ := hb4.load (C := ctxW w)
    subst hva
    simp only [Nat.zero_add] at hd4
    have ho4 := ho2.same hs4
    simp
    refine w_store (p := t5) (off := 5) (xs := [.slice (some va) l[i].data.length l[i].data.length]) (hs2.trans hs4).wf' ho4 (by simp) (by simp) (by simp) (by simp) (by simp) (by simp) fun H5 hm5 hn5 ho5 => ?_
    simp at ho5
    have hs5 : Same Hc H5 := (hs2.trans hs4).then_mod hm5 (by omega)
    have hd5 : Bs (ctxW w) H5 (.slice (some va) l[i].data.length l[i].data.length) l[i].data := by
      have := (hb4.mod hm5 (by omega)).row (C := ctxW w)
      simpa [Bs] using this
    have ld5 := fun off n => Obj1.load (C := ctxW w) (off := off) (n := n) ho5
    simp [t3, ld5]
    refine w_bs (esz := 6) (cs := actC l[i] (.slice (some va) l[i].data.length l[i].data.length)) hs5.wf' (by simp [actC]) (by simp [actC]) (by simp [actC]) fun q6 H6 hq6 hb6 => ?_
    have hs6 := hs5.trans hq6.same
    have st6 : Step [] Hc col H6 col := Step.of_same hs6 st.bare
    obtain ⟨g, cs, k1, k2, k3, k4⟩ := W.step st6 (by simp) (by simp)
    have hr6 := hb6.row (C := ctxW w)
    have hlen : (l.take i).length = i := by rw [List.length_take]; omega
    simp
    refine w_appW (g := g) (n := (l.take i).length) (m := 1) (cs := cs) (xs := actC l[i] (.slice (some va) l[i].data.length l[i].data.length)) st6.wf' (by simpa [t3] using k1) (by omega) (by simpa using hr6) (by simp) (by simp [actC]) (by simp [roomy]; omega) fun v7 H7 g7 hg7 hb7 => ?_
    simp [t3] at hg7
    obtain ⟨col7, st7, W7⟩ := WActs.snoc (C := ctxW w) (k := 8) st6.bare (by omega) k2 k3 k4 (hd5.same hq6.same) (fun b hb _ => by cases hb; exact st.bare _ (by rw [hvb]; omega)) hg7 hb7
    simp [t4]
    refine hnext (l.length - (i + 1)) _ (by omega) ⟨_, H7, i + 1, col7, v7, rfl, rfl, by omega, by simp [t0], by simp, by simp; rw [i64_in _ (by omega)], st.trans ((st6.more (by simp)).trans st7), ?_⟩
    rw [List.take_succ_eq_append_getElem hlt]
    exact W7
  · have : i = l.length := by omega
    subst this
    rw [List.take_length] at W
    simp [t0, t4]
    refine hexit _ _ (by simp) ?_
    simp [t3]
    exact ⟨hlow, W.acts⟩
end Go.Ai.Wire
