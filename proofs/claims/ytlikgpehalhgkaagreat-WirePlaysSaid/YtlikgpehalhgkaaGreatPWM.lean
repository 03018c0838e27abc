/-
  A line that is opened: each packet on its way has own memory.
  A line at work, of eleven colours.
  A packet is put on a line.
  A packet is taken away from a line.
-/
import Derived.Test.YtlikgpehalhgkaaGreatPWD
import Derived.Test.YtlikgpehalhgkaaGreatPWK
import Derived.Test.YtlikgpehalhgkaaGreatPWIr5
namespace Go.Ai.Wire
open Go.Proofs Go.IntWalk
attribute [local irreducible] Trie.put

theorem clone_buf (w : World) {H : AHeap} (hw : WF H) {v : Value} {bs : List UInt8} (hb : Bs (ctxW w) H v bs) (hlen : bs.length ≤ 1000000) (hne : bs ≠ []) : wpCall (ctxW w) (.func (.func 73) #[] #[]) [v] H fun r H' => Same H H' ∧ ∃ g, H.next ≤ g ∧ Buf H' r g 1 bs.length (bs.map u8v) := by
  obtain ⟨a, c, rfl⟩ := hb.val
  refine wpCall_fn rfl (get73 w) ?_
  cases a with
  | none =>
    obtain ⟨h1, a', c', he, h3, h4⟩ := hb
    cases he
    exact absurd (List.length_eq_zero_iff.1 (h3 rfl).1) hne
  | some a =>
    simp [ir73]
    refine w_bs (esz := 1) (cs := []) hw (by simp) (by simp) (by simp) fun p H1 hp hbp => ?_
    simp
    refine w_app (m := bs.length) (n := 0) (xs := bs.map u8v) hp.same.wf' (by simpa using hbp) (by simp; exact hb.same hp.same) (u8_scalar bs) (by simp [roomy]; omega) fun v' H2 hm hb2 => ?_
    simp
    exact ⟨hp.same.then_mod hm (by have := hp.new; omega), p, by have := hp.new; omega, by simpa using hb2⟩

/-- The cells of packets on their way; each has a block of its own. -/
inductive FlC (H : AHeap) : List Itm → List Value → List Nat → Prop
  | nil : FlC H [] [] []
  | cons {n : Int} {d : List UInt8} {v : Value} {g : Nat} {l : List Itm} {cs : List Value} {gs : List Nat} : Buf H v g 1 d.length (d.map u8v) → FlC H l cs gs → FlC H ((n, d) :: l) (.int .i64 n :: v :: cs) (g :: gs)

section
variable {C : Ctx} {H H' : AHeap}
theorem FlC.same (hs : Same H H') {l : List Itm} {cs : List Value} {gs : List Nat} (h : FlC H l cs gs) : FlC H' l cs gs := by
  induction h with
  | nil => exact .nil
  | cons h1 _ ih => exact .cons (h1.same hs) ih
theorem FlC.mod {g : Nat} (hm : Mod g H H') {l : List Itm} {cs : List Value} {gs : List Nat} (h : FlC H l cs gs) (hg : g ∉ gs) : FlC H' l cs gs := by
  induction h with
  | nil => exact .nil
  | cons h1 _ ih =>
    simp only [List.mem_cons, not_or] at hg
    exact .cons (h1.mod hm (Ne.symm hg.1)) (ih hg.2)
theorem FlC.itc {l : List Itm} {cs : List Value} {gs : List Nat} (h : FlC H l cs gs) : ItC C H l cs := by
  induction h with
  | nil => exact .nil
  | cons h1 _ ih => exact .cons h1.row ih
theorem FlC.len {l : List Itm} {cs : List Value} {gs : List Nat} (h : FlC H l cs gs) : cs.length = l.length * 2 ∧ gs.length = l.length := by
  induction h with
  | nil => exact ⟨rfl, rfl⟩
  | cons _ _ ih => exact ⟨by rw [List.length_cons, List.length_cons, List.length_cons, ih.1]; omega, by rw [List.length_cons, List.length_cons, ih.2]⟩
theorem FlC.app {l l' : List Itm} {cs cs' : List Value} {gs gs' : List Nat} (h : FlC H l cs gs) (h' : FlC H l' cs' gs') : FlC H (l ++ l') (cs ++ cs') (gs ++ gs') := by
  induction h with
  | nil => exact h'
  | cons h1 _ ih => exact .cons h1 ih
theorem FlC.lt (hw : WF H) {l : List Itm} {cs : List Value} {gs : List Nat} (h : FlC H l cs gs) : ∀ g ∈ gs, g < H.next := by
  induction h with
  | nil => intro g hg; cases hg
  | cons h1 _ ih =>
    intro g hg
    rcases List.mem_cons.1 hg with rfl | hg
    · exact h1.lt hw
    · exact ih g hg

/-- Packets on their way in own memory, between two blocks. -/
def FlyN (H : AHeap) (lo hi : Nat) (v : Value) (l : List Itm) : Prop :=
  ∃ g cs gs, NB H v g 2 l.length cs ∧ (l ≠ [] → lo ≤ g ∧ g < hi) ∧ FlC H l cs gs ∧ (∀ b ∈ gs, lo ≤ b ∧ b < hi ∧ b ≠ g) ∧ gs.Nodup

theorem FlyN.nil (H : AHeap) (lo hi : Nat) : FlyN H lo hi (.slice none 0 0) [] := ⟨0, [], [], .inl ⟨rfl, rfl, rfl⟩, fun h => absurd rfl h, .nil, (fun b h => by cases h), .nil⟩
theorem FlyN.same (hs : Same H H') {lo hi : Nat} {v : Value} {l : List Itm} (h : FlyN H lo hi v l) : FlyN H' lo hi v l := by
  obtain ⟨g, cs, gs, h1, h2, h3, h4⟩ := h
  exact ⟨g, cs, gs, h1.same hs, h2, h3.same hs, h4⟩
theorem FlyN.its {lo hi : Nat} {v : Value} {l : List Itm} (h : FlyN H lo hi v l) : Its C H v l := by
  obtain ⟨g, cs, gs, k1, k2, k3, k4⟩ := h
  rcases k1 with ⟨rfl, hn, rfl⟩ | ⟨_, hb⟩
  · have : l = [] := List.length_eq_zero_iff.1 hn
    subst this
    exact Its.nil C H
  · exact ⟨cs, k3.itc, hb.row⟩

theorem FlyN.snoc {H1 H4 H5 : AHeap} {lo g g' q : Nat} {v' : Value} {l : List Itm} {cs : List Value} {gs : List Nat} {n : Int} {d : List UInt8} {v : Value} (hs : Same H1 H4) (hlo : lo ≤ H1.next) (k2 : l ≠ [] → lo ≤ g ∧ g < H1.next) (k3 : FlC H1 l cs gs) (k4 : ∀ b ∈ gs, lo ≤ b ∧ b < H1.next ∧ b ≠ g) (k5 : gs.Nodup)
    (hd : Buf H4 v q 1 d.length (d.map u8v)) (hq : H1.next ≤ q) (hg : Grown H4 H5 l.length g g') (hb : Buf H5 v' g' 2 (l.length + 1) (cs ++ [.int .i64 n, v])) : FlyN H5 lo H5.next v' (l ++ [(n, d)]) := by
  have hqlt := hd.lt hs.wf'
  have n14 := hs.grow.next
  have hqn : q ∉ gs := fun h => by have := k4 q h; omega
  have hnd : (gs ++ [q]).Nodup := by
    rw [List.nodup_append]
    refine ⟨k5, by simp, fun a ha b hb => ?_⟩
    simp at hb
    subst hb
    rintro rfl
    exact hqn ha
  have hfl : FlC H4 (l ++ [(n, d)]) (cs ++ [.int .i64 n, v]) (gs ++ [q]) := (k3.same hs).app (.cons hd .nil)
  rcases hg with ⟨h0, rfl, hs5⟩ | ⟨h0, rfl, hlt, hm5⟩
  · have n5 := hb.lt hs5.wf'
    refine ⟨H4.next, _, gs ++ [q], .inr ⟨by simp, by simpa using hb⟩, fun _ => ⟨by omega, n5⟩, hfl.same hs5, fun b hb' => ?_, hnd⟩
    rcases List.mem_append.1 hb' with h | h
    · have := k4 b h; omega
    · simp at h; omega
  · have hl : l ≠ [] := fun h => h0 (by rw [h]; rfl)
    have hgl := k2 hl
    have n5 := hm5.grow.next
    have key : ∀ b ∈ gs ++ [q], lo ≤ b ∧ b < H5.next ∧ b ≠ g' := by
      intro b hb'
      rcases List.mem_append.1 hb' with h | h
      · have := k4 b h; omega
      · simp at h; omega
    exact ⟨g', _, gs ++ [q], .inr ⟨by simp, by simpa using hb⟩, fun _ => ⟨hgl.1, by omega⟩, hfl.mod hm5 (fun h => (key g' h).2.2 rfl), key, hnd⟩
end

theorem copyFlight_buf (w : World) {H1 : AHeap} (hw : WF H1) {n : Int} {da : Option Addr} {dc : Nat} {d : List UInt8} (hd : Bs (ctxW w) H1 (.slice da d.length dc) d) (hl : d.length ≤ 1000) (hne : d ≠ []) :
    wpCall (ctxW w) (.func (.func 46) #[] #[]) [itV n (.slice da d.length dc)] H1 fun r H2 => Same H1 H2 ∧ ∃ v g, r = itV n v ∧ H1.next ≤ g ∧ Buf H2 v g 1 d.length (d.map u8v) := by
  refine wpCall_fn rfl (get46 w) ?_
  simp [ir46]
  refine w_box (cs := [.int .i64 n, .slice da d.length dc]) hw (by simp [itV]) rfl (by simp) fun p H2 hp => ?_
  refine w_mk hp.same.wf' fun q H3 hq => ?_
  have hs13 := hp.same.trans hq.same
  have hp3 := hp.obj.same hq.same
  have ld3 := fun off n => Obj1.load (C := ctxW w) (off := off) (n := n) hp3
  simp [ld3]
  refine wpCall_mono (clone_buf w hs13.wf' (hd.same hs13) (by omega) hne) ?_
  rintro r4 H4 ⟨hs4, g4, hg4, hb4⟩
  obtain ⟨a4, rfl, -, -⟩ := hb4.load (C := ctxW w)
  simp
  have hs14 := hs13.trans hs4
  refine w_store (p := p) (off := 1) (xs := [.slice (some a4) d.length d.length]) hs14.wf' (hp3.same hs4) (by simp) (by simp) rfl (by simp) (by simp) (by simp) fun H5 hm5 hn5 ho5 => ?_
  have ld5 := fun off n => Obj1.load (C := ctxW w) (off := off) (n := n) ho5
  simp [ld5]
  have n1 := hp.next
  have n2 := hp.new
  have n3 := hq.new
  have n3' := hq.next
  have hs15 : Same H1 H5 := hs14.then_mod hm5 (by omega)
  have hq5 : Obj1 H5 q _ := ((hq.obj.same hs4).mod hm5 (by omega))
  refine w_store (p := q) (off := 0) (xs := [.int .i64 n, .slice (some a4) d.length d.length]) hs15.wf' hq5 (by simp) (by simp) rfl (by simp) (by simp) (by simp) fun H6 hm6 hn6 ho6 => ?_
  have ld6 := fun off n => Obj1.load (C := ctxW w) (off := off) (n := n) ho6
  simp [ld6]
  exact ⟨hs15.then_mod hm6 (by omega), _, rfl, g4, by omega, (hb4.mod hm5 (by omega)).mod hm6 (by omega)⟩

theorem mappedF_spec (w : World) {H : AHeap} (hw : WF H) {v : Value} {l : List Itm} (hv : Its (ctxW w) H v l) (hsm : l.length ≤ 1000) (hds : l.all (short 500) = true) (hne : ∀ y ∈ l, y.2 ≠ []) :
    wpCall (ctxW w) (.func (.func 45) #[] #[]) [v, .func (.func 46) #[] #[]] H fun r H' => Same H H' ∧ FlyN H' H.next H'.next r l := by
  obtain ⟨a, c, rfl⟩ := hv.val
  refine wpCall_fn rfl (get45 w) ?_
  simp [ir45]
  refine wp_loop' (fun n s => ∃ (T : Env) (H1 : AHeap) (i : Nat), s = ⟨T, H1, []⟩ ∧ n = l.length - i ∧ i ≤ l.length ∧ T.val 1 = .func (.func 46) #[] #[] ∧ T.val 7 = .slice a l.length c ∧ T.val 8 = .int .i64 l.length ∧ T.val 9 = .int .i64 i ∧ Same H H1 ∧ FlyN H1 H.next H1.next (T.val 4) (l.take i)) (n := l.length)
    ⟨_, H, 0, rfl, rfl, Nat.zero_le _, by simp, by simp, by simp, by simp, Same.refl hw, by simpa using FlyN.nil _ _ _⟩ ?_
  rintro n s K ⟨T, H1, i, rfl, rfl, hi, t1, t7, t8, t9, hs1, hn1⟩ hnext hexit
  have hw1 := hs1.wf'
  by_cases hlt : i < l.length
  · obtain ⟨b, da, dc, rfl, l1, l2, l3, hd⟩ := (hv.same hs1).at hlt
    have e3 : (i : Int) < l.length := by omega
    obtain ⟨g, cs, gs, k1, k2, k3, k4, k5⟩ := hn1
    have hdl : l[i].2.length ≤ 500 := by
      have := (List.all_eq_true.1 hds) l[i] (List.getElem_mem hlt)
      simpa [short] using this
    simp [t7, t8, t9, e3, l3]
    refine w_mk hw1 fun q H2 hq => ?_
    refine w_store (p := q) (off := 0) (xs := [.int .i64 l[i].1, .slice da l[i].2.length dc]) hq.same.wf' hq.obj (by simp) (by simp) rfl (by simp) (by simp) (by simp) fun H3 hm3 hn3 ho3 => ?_
    have hs13 : Same H1 H3 := hq.same.then_mod hm3 (by have := hq.new; omega)
    have ld3 := fun off n => Obj1.load (C := ctxW w) (off := off) (n := n) ho3
    simp [t1, ld3]
    have hcall := copyFlight_buf w (H1 := H3) hs13.wf' (n := l[i].1) (hd.same hs13) (by omega) (hne _ (List.getElem_mem hlt))
    simp only [itV] at hcall
    refine wpCall_mono hcall ?_
    rintro r4 H4 ⟨hs4, v4, g4, rfl, hg4, hb4⟩
    obtain ⟨a4, rfl, -, -⟩ := hb4.load (C := ctxW w)
    have hs14 := hs13.trans hs4
    simp
    refine w_bs (esz := 2) (cs := [.int .i64 l[i].1, .slice (some a4) l[i].2.length l[i].2.length]) hs14.wf' (by simp) (by simp) (by simp) fun q5 H5 hq5 hb5 => ?_
    have hs15 := hs14.trans hq5.same
    refine w_appN (g := g) (n := (l.take i).length) (m := 1) (cs := cs) (xs := [.int .i64 l[i].1, .slice (some a4) l[i].2.length l[i].2.length]) hs15.wf' (by simpa using k1.same hs15) (by simpa using hb5.row) (by simp) (by simp) (by simp [roomy]; omega) fun v6 H6 g6 hg6 hb6 => ?_
    simp [t9]
    have hs16 : Same H H6 := by
      rcases hg6 with ⟨_, _, h⟩ | ⟨h0, rfl, _, h⟩
      · exact (hs1.trans hs15).trans h
      · refine (hs1.trans hs15).then_mod h (k2 fun he => h0 (by rw [he]; rfl)).1
    refine hnext (l.length - (i + 1)) _ (by omega) ⟨_, H6, i + 1, rfl, rfl, by omega, by simp [t1], by simp [t7], by simp [t8], by simp; rw [i64_in _ (by omega)], hs16, ?_⟩
    simp
    rw [List.take_succ_eq_append_getElem hlt]
    exact FlyN.snoc hs15 hs1.grow.next k2 k3 k4 k5 (hb4.same hq5.same) (by have := hs13.grow.next; omega) hg6 (by simpa using hb6)
  · have : i = l.length := by omega
    subst this
    rw [List.take_length] at hn1
    simp [t8, t9]
    refine hexit _ _ (by simp) ?_
    simp
    exact ⟨hs1, hn1⟩
end Go.Ai.Wire

namespace Go.Ai
open Go.Ai.Wire
section
variable {C : Ctx} {H H' : AHeap} {col col' : Nat → Nat} {A : List Nat}
theorem Buf.step (hs : Step A H col H' col') {v : Value} {g esz n : Nat} {cs : List Value} (h : Buf H v g esz n cs) (hg : col g ∉ A) : Buf H' v g esz n cs := by
  have hlt := h.lt hs.wf
  obtain ⟨k, vs, e, h1, h2, h3⟩ := h
  exact ⟨k, vs, e, h1, by rw [hs.same g hlt hg]; exact h2, h3⟩
theorem BufG.step (hs : Step A H col H' col') {v : Value} {g esz n : Nat} {cs : List Value} (h : BufG H v g esz n cs) (hg : col g ∉ A) : BufG H' v g esz n cs := by
  have hlt := h.lt hs.wf
  obtain ⟨k, off, c, vs, e, all, h1, h2, h3⟩ := h
  exact ⟨k, off, c, vs, e, all, h1, by rw [hs.same g hlt hg]; exact h2, h3⟩

end
end Go.Ai
namespace Go.Ai.Wire
open Go.Proofs Go.IntWalk
attribute [local irreducible] Trie.put

section
variable {C : Ctx} {H H' : AHeap} {col col' : Nat → Nat} {A : List Nat}

theorem FlC.step (hs : Step A H col H' col') {l : List Itm} {cs : List Value} {gs : List Nat} (h : FlC H l cs gs) (hg : ∀ b ∈ gs, col b ∉ A) : FlC H' l cs gs := by
  induction h with
  | nil => exact .nil
  | cons h1 _ ih => exact .cons (h1.step hs (hg _ (by simp))) (ih fun b hb => hg b (by simp [hb]))

/-- Packets on their way: the row, and a block for each. -/
def WFlyC (H : AHeap) (col : Nat → Nat) (v : Value) (l : List Itm) (g : Nat) (cs : List Value) (gs : List Nat) : Prop :=
  NG H v g 2 l.length cs ∧ (v ≠ .slice none 0 0 → col g = 8) ∧ FlC H l cs gs ∧ (∀ b ∈ gs, col b = 9) ∧ gs.Nodup
def WFly (H : AHeap) (col : Nat → Nat) (v : Value) (l : List Itm) : Prop := ∃ g cs gs, WFlyC H col v l g cs gs

theorem WFly.nil (H : AHeap) (col : Nat → Nat) : WFly H col (.slice none 0 0) [] := ⟨0, [], [], .inl ⟨rfl, rfl, rfl⟩, fun h => absurd rfl h, .nil, (fun b h => by cases h), .nil⟩

theorem WFlyC.step (hs : Step A H col H' col') (h8 : 8 ∉ A) (h9 : 9 ∉ A) {v : Value} {l : List Itm} {g : Nat} {cs : List Value} {gs : List Nat} (h : WFlyC H col v l g cs gs) : WFlyC H' col' v l g cs gs := by
  obtain ⟨k1, k2, k3, k4, k5⟩ := h
  refine ⟨?_, ?_, k3.step hs (fun b hb => by rw [k4 b hb]; exact h9), fun b hb => ?_, k5⟩
  · rcases k1 with h | hb
    · exact .inl h
    · exact .inr (hb.step hs (by rw [k2 hb.nn]; exact h8))
  · intro hv
    rcases k1 with h | hb
    · exact absurd h.1 hv
    · rw [hs.keep g (hb.lt hs.wf)]; exact k2 hv
  · rw [hs.keep b (k3.lt hs.wf b hb)]; exact k4 b hb

theorem WFly.step (hs : Step A H col H' col') (h8 : 8 ∉ A) (h9 : 9 ∉ A) {v : Value} {l : List Itm} (h : WFly H col v l) : WFly H' col' v l := by
  obtain ⟨g, cs, gs, k⟩ := h
  exact ⟨g, cs, gs, k.step hs h8 h9⟩

theorem WFly.its {v : Value} {l : List Itm} (h : WFly H col v l) : Its C H v l := by
  obtain ⟨g, cs, gs, k1, k2, k3, k4, k5⟩ := h
  rcases k1 with ⟨rfl, hn, rfl⟩ | hb
  · have : l = [] := List.length_eq_zero_iff.1 hn
    subst this
    exact Its.nil C H
  · exact ⟨cs, k3.itc, hb.row⟩
theorem WFly.val {v : Value} {l : List Itm} (h : WFly H col v l) : ∃ a c, v = .slice a l.length c := by
  obtain ⟨g, cs, gs, k1, _⟩ := h
  rcases k1 with ⟨rfl, hn, _⟩ | ⟨k, off, c, vs, e, all, rfl, _⟩
  · exact ⟨none, 0, by rw [hn]⟩
  · exact ⟨_, c, rfl⟩

/-- A row of bytes' slices that can grow. -/
def WRow (C : Ctx) (H : AHeap) (col : Nat → Nat) (k : Nat) (v : Value) (l : List (List UInt8)) : Prop :=
  ∃ g cs, NG H v g 1 l.length cs ∧ (v ≠ .slice none 0 0 → col g = k) ∧ FrC C H l cs ∧ Plain col cs

theorem WRow.nil (C : Ctx) (H : AHeap) (col : Nat → Nat) (k : Nat) : WRow C H col k (.slice none 0 0) [] := ⟨0, [], .inl ⟨rfl, rfl, rfl⟩, fun h => absurd rfl h, .nil, fun v h => by cases h⟩

theorem WRow.step (hs : Step A H col H' col') (h0 : 0 ∉ A) {k : Nat} (hk : k ∉ A) {v : Value} {l : List (List UInt8)} (h : WRow C H col k v l) : WRow C H' col' k v l := by
  obtain ⟨g, cs, k1, k2, k3, k4⟩ := h
  refine ⟨g, cs, ?_, ?_, k3.step hs h0 k4, k3.keep hs k4⟩
  · rcases k1 with h | hb
    · exact .inl h
    · exact .inr (hb.step hs (by rw [k2 hb.nn]; exact hk))
  · intro hv
    rcases k1 with h | hb
    · exact absurd h.1 hv
    · rw [hs.keep g (hb.lt hs.wf)]; exact k2 hv

theorem WRow.frs {k : Nat} {v : Value} {l : List (List UInt8)} (h : WRow C H col k v l) : Frs C H v l := by
  obtain ⟨g, cs, k1, k2, k3, k4⟩ := h
  rcases k1 with ⟨rfl, hn, rfl⟩ | hb
  · have : l = [] := List.length_eq_zero_iff.1 hn
    subst this
    exact Frs.nil C H
  · exact ⟨cs, k3, hb.row⟩
theorem WRow.row {k : Nat} {v : Value} {l : List (List UInt8)} (h : WRow C H col k v l) : ∃ cs, FrC C H l cs ∧ Row C H v 1 l.length cs ∧ Plain col cs := by
  obtain ⟨g, cs, k1, k2, k3, k4⟩ := h
  rcases k1 with ⟨rfl, hn, rfl⟩ | hb
  · have : l = [] := List.length_eq_zero_iff.1 hn
    subst this
    exact ⟨[], .nil, ⟨rfl, none, 0, rfl, by simp, by simp⟩, k4⟩
  · exact ⟨cs, k3, hb.row, k4⟩
theorem WRow.val {k : Nat} {v : Value} {l : List (List UInt8)} (h : WRow C H col k v l) : ∃ a c, v = .slice a l.length c := h.frs.val
end

/-- A line, and what was handed on at its ends. -/
structure LineW where
  x : LineA
  h0 : List (List UInt8)
  h1 : List (List UInt8)

/-- A line at work. -/
structure WL (C : Ctx) (H : AHeap) (col : Nat → Nat) (q qa qb : Nat) (fv s0 s1 : Value) (y : LineW) : Prop where
  obj : Obj1 H q [.pointer (some ⟨qa, 0, none⟩), .pointer (some ⟨qb, 0, none⟩), fv, s0, s1]
  c7 : col q = 7
  ea : WEnd C H col 1 qa y.x.a
  eb : WEnd C H col 4 qb y.x.b
  fl : WFly H col fv y.x.fly
  r0 : WRow C H col 10 s0 y.h0
  r1 : WRow C H col 11 s1 y.h1

def WLine (C : Ctx) (H : AHeap) (col : Nat → Nat) (q : Nat) (y : LineW) : Prop := ∃ qa qb fv s0 s1, WL C H col q qa qb fv s0 s1 y

section
variable {C : Ctx} {H H' : AHeap} {col col' : Nat → Nat} {A : List Nat}
theorem WL.step {q qa qb : Nat} {fv s0 s1 : Value} {y : LineW} (hs : Step A H col H' col') (hA : ∀ c ∈ A, 11 < c) (h : WL C H col q qa qb fv s0 s1 y) : WL C H' col' q qa qb fv s0 s1 y := by
  have no : ∀ c, c ≤ 11 → c ∉ A := fun c hc h => by have := hA c h; omega
  exact ⟨Obj1.step hs h.obj (by rw [h.c7]; exact no 7 (by omega)), by rw [hs.keep q (h.obj.lt hs.wf)]; exact h.c7, h.ea.step hs (no 0 (by omega)) ⟨no _ (by omega), no _ (by omega), no _ (by omega)⟩, h.eb.step hs (no 0 (by omega)) ⟨no _ (by omega), no _ (by omega), no _ (by omega)⟩,
    h.fl.step hs (no 8 (by omega)) (no 9 (by omega)), h.r0.step hs (no 0 (by omega)) (no 10 (by omega)), h.r1.step hs (no 0 (by omega)) (no 11 (by omega))⟩

theorem FlyN.w (hs : Same H H') (hb : Bare col H) {lo hi : Nat} (hlo : H.next ≤ lo) (hhi : hi ≤ H'.next) {v : Value} {l : List Itm} (h : FlyN H' lo hi v l) : ∃ col', Step [] H col H' col' ∧ WFly H' col' v l := by
  obtain ⟨g, cs, gs, h1, h2, h3, h4, h5⟩ := h
  rcases h1 with ⟨rfl, hn, rfl⟩ | ⟨hn, hbuf⟩
  · have : l = [] := List.length_eq_zero_iff.1 hn
    subst this
    exact ⟨col, Step.of_same hs hb, WFly.nil H' col⟩
  · have hg := h2 fun e => hn (by rw [e]; rfl)
    let col' : Nat → Nat := fun b => if b = g then 8 else if b ∈ gs then 9 else col b
    have st : Step [] H col H' col' := by
      refine ⟨hs.wf, hs.grow, fun b hb' => ?_, fun b hb' => ?_, fun b hb' _ => hs.same b hb'⟩
      · have hn : b ∉ gs := fun h => by have := h4 b h; omega
        simp only [col']
        rw [if_neg (by omega), if_neg hn]
        exact hb b (Nat.le_trans hs.grow.next hb')
      · have hn : b ∉ gs := fun h => by have := h4 b h; omega
        simp only [col']
        rw [if_neg (by omega), if_neg hn]
    refine ⟨col', st, g, cs, gs, .inr hbuf.g, fun _ => by simp [col'], h3, fun b hb' => ?_, h5⟩
    simp only [col']
    rw [if_neg (h4 b hb').2.2, if_pos hb']
end

def OpenW (C : Ctx) (H : AHeap) (col : Nat → Nat) (x : LineA) (r : Value) (H' : AHeap) : Prop :=
  (LineOK x ∧ ∃ q col', r = .tuple #[.pointer (some ⟨q, 0, none⟩), .int .i64 0] ∧ Same H H' ∧ Step [] H col H' col' ∧ WLine C H' col' q ⟨x, [], []⟩) ∨ (¬ LineOK x ∧ Same H H' ∧ r = .tuple #[.pointer none, .int .i64 4])

theorem openLineW_spec (w : World) {H : AHeap} (hw : WF H) {col : Nat → Nat} (hbare : Bare col H) {x : LineA} {v : Value} (hx : LineR (ctxW w) H x v) (hsm : LineS x) : wpCall (ctxW w) (.func (.func 23) #[] #[]) [v] H (OpenW (ctxW w) H col x) := by
  obtain ⟨o0, e0, o1, e1, f, rfl, h1, h2, h3, h4, h5⟩ := hx
  obtain ⟨a1, c1, rfl⟩ := h1.val
  obtain ⟨a2, c2, rfl⟩ := h2.val
  obtain ⟨a3, c3, rfl⟩ := h3.val
  obtain ⟨a4, c4, rfl⟩ := h4.val
  obtain ⟨a5, c5, rfl⟩ := h5.val
  refine wpCall_fn rfl (get23 w) ?_
  simp [ir23]
  refine w_box (cs := lineCells x (.slice a1 x.a.opens.length c1) (.slice a2 x.a.early.length c2) (.slice a3 x.b.opens.length c3) (.slice a4 x.b.early.length c4) (.slice a5 x.fly.length c5)) hw (by simp [lineV, lineCells]) rfl (by simp [lineCells]) fun p H1 hp => ?_
  have ld1 := fun off n => Obj1.load (C := ctxW w) (off := off) (n := n) hp.obj
  by_cases h6 : x.fly.length ≤ 60
  · have e6 : ¬ (60 : Int) < x.fly.length := by omega
    simp [ld1, e6, lineCells, bounds, bnd]
    refine wpCall_mono (allEnds_spec w hp.same.wf' hp.obj (h1.same hp.same) (h2.same hp.same) (h3.same hp.same) (h4.same hp.same) hsm.1 hsm.2.1) ?_
    rintro _ H2 ⟨hs2, b, rfl, hb⟩
    have hs02 := hp.same.trans hs2
    have ld2 := fun off n => Obj1.load (C := ctxW w) (off := off) (n := n) (hp.obj.same hs2)
    cases b with
    | false =>
      simp
      exact .inr ⟨fun h => by simpa using hb.2 ⟨h.1, h.2.1⟩, hs02, rfl⟩
    | true =>
      obtain ⟨hA, hB⟩ := hb.1 rfl
      simp [ld2, lineCells]
      refine wpCall_mono (allI_spec w (.inr rfl) hs02.wf' (h5.same hs02) (isFlight_spec w) (by omega)) ?_
      rintro _ H3 ⟨hs3, rfl⟩
      have hs03 := hs02.trans hs3
      have hp3 := (hp.obj.same hs2).same hs3
      have ld3 := fun off n => Obj1.load (C := ctxW w) (off := off) (n := n) hp3
      cases hF : x.fly.all flightB with
      | false =>
        simp
        exact .inr ⟨fun h => (by rw [(flights_iff _).2 h.2.2.2] at hF; cases hF), hs03, rfl⟩
      | true =>
        have hfl := (flights_iff _).1 hF
        have st3 : Step [] H col H3 col := Step.of_same hs03 hbare
        simp [ld3, lineCells]
        refine wpCall_mono (newEnd_spec w hs03.wf' (x := x.a) ⟨_, _, rfl, h1.same hs03, h2.same hs03⟩ hsm.1) ?_
        rintro _ H4 ⟨hs4, qa, rfl, hqa⟩
        have hs04 := hs03.trans hs4
        have hp4 := hp3.same hs4
        have ld4 := fun off n => Obj1.load (C := ctxW w) (off := off) (n := n) hp4
        have f1 : free (ctxW w) (.call H3 H4) (.exp [p] []) = true := free_call_rd (eqbW w) hs4 (by simp; obtain ⟨e, h⟩ := hp3; rw [h]; simp)
        simp [ld4, f1, lineCells]
        obtain ⟨col4, st4, wa⟩ := EndP.w (k := 1) hs4 st3.bare (Nat.le_refl _) (Nat.le_refl _) hqa
        refine wpCall_mono (newEnd_spec w hs04.wf' (x := x.b) ⟨_, _, rfl, h3.same hs04, h4.same hs04⟩ hsm.2.1) ?_
        rintro _ H5 ⟨hs5, qb, rfl, hqb⟩
        have hs05 := hs04.trans hs5
        have hp5 := hp4.same hs5
        have ld5 := fun off n => Obj1.load (C := ctxW w) (off := off) (n := n) hp5
        have f2 : free (ctxW w) (.call H4 H5) (.exp [p] []) = true := free_call_rd (eqbW w) hs5 (by simp; obtain ⟨e, h⟩ := hp4; rw [h]; simp)
        simp [ld5, f1, f2, lineCells]
        obtain ⟨col5, st5, wb⟩ := EndP.w (k := 4) hs5 st4.bare (Nat.le_refl _) (Nat.le_refl _) hqb
        refine wpCall_mono (mappedF_spec w hs05.wf' (h5.same hs05) hsm.2.2.1 hsm.2.2.2 (fun y hy => ?_)) ?_
        · obtain ⟨i, hi, rfl⟩ := List.mem_iff_getElem.1 hy
          intro h
          have := (hfl i hi).2.1
          rw [h] at this
          simp at this
        rintro r6 H6 ⟨hs6, hn6⟩
        obtain ⟨col6, st6, wf⟩ := hn6.w hs6 st5.bare (Nat.le_refl _) (Nat.le_refl _)
        obtain ⟨a6, c6, rfl⟩ := wf.val
        have hs06 := hs05.trans hs6
        simp
        refine d_box (cs := [.pointer (some ⟨qa, 0, none⟩), .pointer (some ⟨qb, 0, none⟩), .slice a6 x.fly.length c6, .slice none 0 0, .slice none 0 0]) hs06.wf' rfl (by simp) rfl (by simp) fun q H7 hq => ?_
        simp
        have st7 : Step [] H6 col6 H7 (paint col6 q 7) := Step.of_made hq.same st6.bare (by have := hq.new; omega) (by have := hq.next; omega)
        have no : ∀ c, c ∉ ([] : List Nat) := fun c h => by cases h
        refine .inl ⟨⟨hA, hB, h6, hfl⟩, q, _, rfl, hs06.trans hq.same, (((st3.trans st4).trans st5).trans st6).trans st7, qa, qb, _, _, _, ⟨hq.obj, by simp [paint], ?_, ?_, ?_, ?_, ?_⟩⟩
        · exact ((wa.step st5 (no _) ⟨no _, no _, no _⟩).step st6 (no _) ⟨no _, no _, no _⟩).step st7 (no _) ⟨no _, no _, no _⟩
        · exact (wb.step st6 (no _) ⟨no _, no _, no _⟩).step st7 (no _) ⟨no _, no _, no _⟩
        · exact wf.step st7 (no _) (no _)
        · exact WRow.nil _ _ _ _
        · exact WRow.nil _ _ _ _
  · have e6 : (60 : Int) < x.fly.length := by omega
    simp [ld1, e6, lineCells]
    exact .inr ⟨fun h => h6 h.2.2.1, hp.same, rfl⟩
end Go.Ai.Wire

namespace Go.Ai.Wire
open Go.Proofs Go.IntWalk
attribute [local irreducible] Trie.put

def putF (x : LineA) (to : Int) (d : List UInt8) : LineA := if x.fly.length < 60 then ⟨x.a, x.b, x.fly ++ [(to, d)]⟩ else x
def putW (y : LineW) (to : Int) (d : List UInt8) : LineW := ⟨putF y.x to d, y.h0, y.h1⟩

theorem WFly.snoc {H5 H6 : AHeap} {col5 : Nat → Nat} {g g' gb : Nat} {v v' bv : Value} {l : List Itm} {cs : List Value} {gs : List Nat} {n : Int} {d : List UInt8} (hw : WF H5) (hbare : Bare col5 H5) (k2 : v ≠ .slice none 0 0 → col5 g = 8) (k3 : FlC H5 l cs gs) (k4 : ∀ b ∈ gs, col5 b = 9) (k5 : gs.Nodup)
    (hb : Buf H5 bv gb 1 d.length (d.map u8v)) (hc : col5 gb = 9) (hn : gb ∉ gs) (hg : GrownG H5 H6 v g g') (hb' : BufG H6 v' g' 2 (l.length + 1) (cs ++ [.int .i64 n, bv])) : ∃ col6, Step [8] H5 col5 H6 col6 ∧ WFly H6 col6 v' (l ++ [(n, d)]) := by
  have hnd : (gs ++ [gb]).Nodup := by
    rw [List.nodup_append]
    refine ⟨k5, by simp, fun a ha b hb => ?_⟩
    simp at hb
    subst hb
    rintro rfl
    exact hn ha
  have k3' : FlC H5 (l ++ [(n, d)]) (cs ++ [.int .i64 n, bv]) (gs ++ [gb]) := k3.app (.cons hb .nil)
  have k4' : ∀ b ∈ gs ++ [gb], col5 b = 9 := by
    intro b h
    rcases List.mem_append.1 h with h | h
    · exact k4 b h
    · simp at h; rw [h]; exact hc
  rcases hg with ⟨hvn, rfl, hs⟩ | ⟨hvn, rfl, hlt, hm⟩
  · have hgl := hb'.lt hs.wf'
    have st : Step [] H5 col5 H6 (paint col5 H5.next 8) := Step.of_made hs hbare (Nat.le_refl _) hgl
    refine ⟨_, st.more (by simp), H5.next, _, gs ++ [gb], .inr (by simpa using hb'), fun _ => by simp [paint], k3'.step st (by simp), fun b h => ?_, hnd⟩
    rw [st.keep b (k3'.lt hw b h)]
    exact k4' b h
  · have st : Step [8] H5 col5 H6 col5 := Step.of_mod hm hbare (by rw [k2 hvn]; simp)
    exact ⟨col5, st, g', _, gs ++ [gb], .inr (by simpa using hb'), fun _ => k2 hvn, k3'.step st (fun b h => by rw [k4' b h]; simp), k4', hnd⟩

set_option maxHeartbeats 1000000 in
theorem put_spec (w : World) {H : AHeap} (hw : WF H) {col : Nat → Nat} (hbare : Bare col H) {q : Nat} {y : LineW} (hy : WLine (ctxW w) H col q y) {to : Int} {pv dv : Value} {d : List UInt8} (hp : Row (ctxW w) H pv 1 1 [dv]) (hd : Bs (ctxW w) H dv d) (hl : d.length ≤ 1000) (hne : d ≠ []) :
    wpCall (ctxW w) (.func (.func 84) #[] #[]) [.pointer (some ⟨q, 0, none⟩), .int .i64 to, pv] H fun _ H' => ∃ col', Step [7, 8] H col H' col' ∧ WLine (ctxW w) H' col' q (putW y to d) := by
  obtain ⟨qa, qb, fv, s0, s1, W⟩ := hy
  obtain ⟨fa, fc, rfl⟩ := W.fl.val
  obtain ⟨_, pa, pc, rfl, _, hpl⟩ := id hp
  obtain ⟨da, dc, rfl⟩ := hd.val
  have ldq := fun off n => Obj1.load (C := ctxW w) (off := off) (n := n) W.obj
  obtain ⟨pb, rfl, _, hpl0⟩ := Row.at hp (i := 0) (by simp)
  simp at hpl0
  refine wpCall_fn rfl (get84 w) ?_
  simp [ir84]
  refine wp_loop' (fun N s => ∃ (T : Env) (H1 : AHeap) (i : Nat), s = ⟨T, H1, []⟩ ∧ N = 1 - i ∧ i ≤ 1 ∧ T.val 0 = .pointer (some ⟨q, 0, none⟩) ∧ T.val 1 = .int .i64 to ∧ T.val 8 = .slice (some pb) 1 pc ∧ T.val 9 = .int .i64 1 ∧ T.val 10 = .int .i64 i ∧
    (i = 0 → H1 = H) ∧ (i = 1 → ∃ col', Step [7, 8] H col H1 col' ∧ WLine (ctxW w) H1 col' q (putW y to d))) (n := 1)
    ⟨_, H, 0, rfl, rfl, Nat.zero_le _, by simp, by simp, by simp, by simp, by simp, fun _ => rfl, fun h => by omega⟩ ?_
  rintro N s K ⟨T, H1, i, rfl, rfl, hi, t0, t1, t8, t9, t10, hi0, hi1⟩ hnext hexit
  by_cases h0 : i = 0
  · subst h0
    obtain rfl := hi0 rfl
    by_cases hlt : y.x.fly.length < 60
    · have e3 : (y.x.fly.length : Int) < 60 := by omega
      simp [t0, t8, t9, t10, hpl0, ldq, e3]
      refine wpCall_mono (clone_buf w hw hd (by omega) hne) ?_
      rintro r2 H2 ⟨hs2, gb, hgb, hb2⟩
      obtain ⟨a2, rfl, -, -⟩ := hb2.load (C := ctxW w)
      have hgb2 := hb2.lt hs2.wf'
      have W2obj := W.obj.same hs2
      have ldq2 := fun off n => Obj1.load (C := ctxW w) (off := off) (n := n) W2obj
      have f1 : free (ctxW w) (.call H1 H2) (.exp [q] []) = true := free_call_rd (eqbW w) hs2 (by simp; obtain ⟨e, h⟩ := W.obj; rw [h]; simp)
      have hqlt := W.obj.lt hw
      have n2 := hs2.grow.next
      have g3 : Nat.beq H2.next q = false := nbeq' (by omega)
      simp [t0, t1, ldq2, f1]
      refine d_bs (esz := 2) (cs := [.int .i64 to, .slice (some a2) d.length d.length]) hs2.wf' (by simp [g3]) (by simp) (by simp) (by simp) fun q5 H5 hq5 hb5 => ?_
      have hs5 := hs2.trans hq5.same
      have st5 : Step [] H1 col H5 (paint col gb 9) := Step.of_made hs5 hbare hgb (by have := hq5.same.grow.next; omega)
      have W5 := W.step st5 (by simp)
      obtain ⟨g, cs, gs, kk⟩ := W.fl
      have hgn : gb ∉ gs := fun h => by have := kk.2.2.1.lt hw gb h; omega
      obtain ⟨k1, k2, k3, k4, k5⟩ := kk.step st5 (by simp) (by simp)
      simp
      refine d_appW (g := g) (n := y.x.fly.length) (m := 1) (cs := cs) (xs := [.int .i64 to, .slice (some a2) d.length d.length]) st5.wf' (by simpa using k1) (by omega) (by simpa using hb5.row) (by simp) (by simp) (by simp [roomy]; omega) (by simp) fun v6 H6 rd6 md6 g6 hg6 hb6 => ?_
      simp at hg6
      obtain ⟨col6, st6, w6⟩ := WFly.snoc st5.wf' st5.bare k2 k3 k4 k5 (hb2.same hq5.same) (by simp [paint]) hgn hg6 hb6
      obtain ⟨a6, c6, rfl⟩ := w6.val
      have hq6 := Obj1.step st6 W5.obj (by rw [W5.c7]; simp)
      have hcq6 : col6 q = 7 := by rw [st6.keep q (W5.obj.lt st5.wf')]; exact W5.c7
      simp
      refine d_store (p := q) (off := 2) (xs := [.slice a6 (y.x.fly ++ [(to, d)]).length c6]) st6.wf' rfl hq6 (by simp) (by simp) rfl (by simp) (by simp) (by simp) fun H7 hm7 hn7 ho7 => ?_
      have st7 : Step [7] H6 col6 H7 col6 := Step.of_mod hm7 st6.bare (by rw [hcq6]; simp)
      have st57 : Step [7, 8] H5 (paint col gb 9) H7 col6 := (st6.more (by simp)).trans (st7.more (by simp))
      simp [t10]
      refine hnext 0 _ (by omega) ⟨_, H7, 1, rfl, rfl, by omega, by simp [t0], by simp [t1], by simp [t8], by simp [t9], by simp; rfl, fun h => by omega, fun _ => ⟨col6, (st5.more (by simp)).trans st57, qa, qb, _, s0, s1, ⟨by simpa using ho7, hcq6, ?_, ?_, ?_, ?_, ?_⟩⟩⟩
      · have := W5.ea.step st57 (by simp) (by simp)
        simpa [putW, putF, hlt] using this
      · have := W5.eb.step st57 (by simp) (by simp)
        simpa [putW, putF, hlt] using this
      · have := w6.step st7 (by simp) (by simp)
        simpa [putW, putF, hlt] using this
      · exact W5.r0.step st57 (by simp) (by simp)
      · exact W5.r1.step st57 (by simp) (by simp)
    · have e3 : ¬ (y.x.fly.length : Int) < 60 := by omega
      simp [t0, t8, t9, t10, hpl0, ldq, e3]
      refine hnext 0 _ (by omega) ⟨_, H1, 1, rfl, rfl, by omega, by simp [t0], by simp [t1], by simp [t8], by simp [t9], by simp; rfl, fun h => by omega, fun _ => ⟨col, Step.of_same (Same.refl hw) hbare, ?_⟩⟩
      have e : putW y to d = y := by simp [putW, putF, hlt]
      rw [e]
      exact ⟨qa, qb, _, s0, s1, W⟩
  · have : i = 1 := by omega
    subst this
    simp [t9, t10]
    refine hexit _ _ (by simp) ?_
    simp
    exact hi1 rfl
end Go.Ai.Wire

namespace Go.Ai
section
variable {C : Ctx} {H : AHeap} {T : Env} {d : Option Nat} {r : List IOper} {K : Env → AHeap → Prop} {rd : List (Nat × IOper × List Nat)} {log : List Info} {ix : Nat} {un : List Nat}

theorem bnd_some {T : Nat → Value} {x : IOpd} {dflt lim i : Nat} {k : IntKind} (hx : x.val T = .int k i) (h : i ≤ lim) : bnd T (some x) dflt lim = some i := by
  simp only [bnd, hx]
  rw [if_pos (by omega)]
  simp
theorem bounds_of {T : Nat → Value} {n c l h m : Nat} {lo hi mx : Option IOpd} (hm : bnd T mx c c = some m) (hh : bnd T hi n m = some h) (hl : bnd T lo 0 h = some l) (hle : h ≤ m) : bounds T n c lo hi mx = some (l, h, m) := by
  simp only [bounds, hm, hh, hl]
  rw [if_pos hle]

theorem evalOp_sliceM {M : Nat → Option AObj} {T : Nat → Value} {nid esz n c l h m : Nat} {x : IOpd} {lo hi mx : Option IOpd} {a : Addr} (hx : x.val T = .slice (some a) n c)
    (hsl : (M a.block = some .raw ∧ a.spot = none) ∨ ∃ vs v, M a.block = some (.cells vs) ∧ vs[ver a]? = some v ∧ (v.esz = 0 ∨ v.esz = esz)) (hb : bounds T n c lo hi mx = some (l, h, m)) :
    evalOp C M T nid (.sliceS esz x lo hi mx) = some { v := .slice (some (aadd a (l * esz))) (h - l) (m - l), rd := [a.block] } := by
  simp only [evalOp, hx, hb]
  rcases hsl with ⟨hM, hs⟩ | ⟨vs, v, hM, hv, he⟩
  · simp [hM, hs]
  · simp only [hM, hv]
    rw [if_pos he]

theorem w_sliceM {esz n c l h m : Nat} {x : IOpd} {lo hi mx : Option IOpd} {a : Addr} (hx : x.val T.val = .slice (some a) n c) (hsl : Slc H a esz) (hb : bounds T.val n c lo hi mx = some (l, h, m))
    (hk : wpO C r K (putDst T d (.slice (some (Ai.aadd a (l * esz))) (h - l) (m - l))) H) : wpO C (⟨d, .sliceS esz x lo hi mx, none⟩ :: r) K T H := by
  rw [wpO_sliceS, evalOp_sliceM hx hsl hb]
  exact hk

theorem d_sliceM {esz n c l h m : Nat} {x : IOpd} {lo hi mx : Option IOpd} {a : Addr} (hx : x.val T.val = .slice (some a) n c) (hsl : Slc H a esz) (hb : bounds T.val n c lo hi mx = some (l, h, m)) (hf : freeAll C log (.exp [a.block] []) un = true)
    (hk : wpD C rd (.exp [a.block] [] :: log) K (putDst T d (.slice (some (Ai.aadd a (l * esz))) (h - l) (m - l))) H) : wpD C ((ix, ⟨d, .sliceS esz x lo hi mx, none⟩, un) :: rd) log K T H := by
  rw [wpD_sliceS, evalOp_sliceM hx hsl hb]
  simp only [bindO_some, opKD_eq, AOut.mods, List.append_nil]
  rw [hf]
  exact hk

/-- 'append' where there is room. -/
theorem appendA_room {a : Addr} {c g esz n m bytes : Nat} {cs xs : List Value} {rd : List Nat} {nid : Nat} (hw : WF H) (hb : BufG H (.slice (some a) n c) g esz n cs) (he0 : 1 ≤ esz) (hx : xs.length = m * esz) (hs : xs.all scalar = true) (hr : n + m ≤ c) :
    ∃ put rd', appendA C H.get esz bytes (.slice (some a) n c) m xs rd nid = some ⟨.slice (some a) (n + m) c, put, none, rd'⟩ ∧ BufG (H.apply ⟨.slice (some a) (n + m) c, put, none, rd'⟩) (.slice (some a) (n + m) c) g esz (n + m) (cs ++ xs) ∧ Mod g H (H.apply ⟨.slice (some a) (n + m) c, put, none, rd'⟩) ∧ (∀ b x, put = some (b, x) → b = g) := by
  by_cases hm : m = 0
  · subst hm
    have hxs : xs = [] := by simpa using hx
    subst hxs
    refine ⟨none, rd, ?_, by simpa using hb, (Same.refl hw).mod, by simp⟩
    unfold appendA
    rw [if_pos ⟨hx, hs⟩]
    simp [show n ≤ c by omega]
  · have hle2 : n * esz + m * esz ≤ c * esz := by rw [← Nat.add_mul]; exact Nat.mul_le_mul_right _ hr
    have hm1 : m * esz ≠ 0 := by
      have := Nat.mul_pos (by omega : 0 < m) he0
      omega
    obtain ⟨vs, vs', hg, hbl, hst, hafter⟩ := storeN_bufG (i := n * esz) (xs := xs) hb (by omega) (by omega) hs
    refine ⟨some (g, .cells vs'), g :: rd, ?_, ?_, Mod.put hw _ hg, ?_⟩
    · unfold appendA
      rw [if_pos ⟨hx, hs⟩]
      dsimp only
      rw [if_pos hr, if_neg hm, hst, hbl]
    · obtain ⟨all', h1, h2, h3⟩ := hafter (H.put g (.cells vs')) (n + m) hr (get_put_same _ (base_le_of hg (by simp)))
      have e1 : (all'.take (n * esz) ++ (xs ++ all'.drop (n * esz + xs.length))).take ((n + m) * esz) = cs ++ xs := by
        rw [h2, List.take_append, List.length_take, List.take_append, Nat.add_mul, List.take_take]
        rw [Nat.min_eq_left (by omega : n * esz ≤ all'.length), show n * esz + m * esz - n * esz = m * esz from by omega, List.take_of_length_le (by omega : xs.length ≤ m * esz), hx, Nat.sub_self, List.take_zero, List.append_nil]
        congr 2
        omega
      rw [e1] at h3
      exact h3
    · rintro b x h; cases h; rfl

theorem d_appR {esz bytes g n m c : Nat} {s x : IOpd} {a : Addr} {cs xs : List Value} (hw : WF H) (hsv : s.val T.val = .slice (some a) n c) (hb : BufG H (.slice (some a) n c) g esz n cs) (he0 : 1 ≤ esz) (hx : Row C H (x.val T.val) esz m xs) (hs : xs.all scalar = true) (hr : n + m ≤ c)
    (hf : ∀ rd' md, (∀ x ∈ md, x = g) → freeAll C log (.exp rd' md) un = true)
    (hk : ∀ H' rd' md, Mod g H H' → BufG H' (.slice (some a) (n + m) c) g esz (n + m) (cs ++ xs) → (∀ x ∈ md, x = g) → wpD C rd (.exp rd' md :: log) K (putDst T d (.slice (some a) (n + m) c)) H') : wpD C ((ix, ⟨d, .append esz bytes s x, none⟩, un) :: rd) log K T H := by
  rw [wpD_append]
  obtain ⟨rd0, h1, h2, _⟩ := hx.src
  obtain ⟨put, rd', h3, h4, h5, h6⟩ := appendA_room (C := C) (bytes := bytes) (rd := rd0) (nid := H.next) hw hb he0 hx.1 hs hr
  have : evalOp C H.get T.val H.next (.append esz bytes s x) = some ⟨.slice (some a) (n + m) c, put, none, rd'⟩ := by
    simp only [evalOp, h2, h1, hsv]
    exact h3
  rw [this]
  simp only [bindO_some, opKD_eq]
  have hmd : ∀ x ∈ AOut.mods ⟨.slice (some a) (n + m) c, put, none, rd'⟩ H.next, x = g := by
    intro x hx
    cases put with
    | none => simp [AOut.mods] at hx
    | some p =>
      obtain ⟨b, o⟩ := p
      simp [AOut.mods] at hx
      rw [hx]
      exact h6 b o rfl
  rw [hf _ _ hmd]
  exact hk _ _ _ h5 h4 hmd

/-- What lies behind a row's end is cleared. -/
theorem w_clearX {g m c esz k c2 : Nat} {z : List Value} {x : IOpd} {b : Addr} {cs : List Value} (hw : WF H) (hb : BufG H (.slice (some b) m c) g esz m cs) (hx : x.val T.val = .slice (some (aadd b (m * esz))) k c2) (hz : z.length = esz) (he : 1 ≤ esz)
    (hl : m + k ≤ c) (hs : z.all scalar = true) (hk : ∀ H', Mod g H H' → BufG H' (.slice (some b) m c) g esz m cs → wpO C r K (putDst T d undef) H') : wpO C (⟨d, .clear z x, none⟩ :: r) K T H := by
  rw [wpO_clear]
  by_cases h0 : k = 0
  · subst h0
    have : evalOp C H.get T.val H.next (.clear z x) = some { v := undef } := by simp only [evalOp, hx]
    rw [this]
    exact hk _ (Same.refl hw).mod hb
  · have hlen : (List.replicate k z).flatten.length = k * esz := by simp [hz]
    have hall : (List.replicate k z).flatten.all scalar = true := by
      rw [List.all_eq_true] at hs ⊢
      intro u hu
      obtain ⟨l, hl1, hl2⟩ := List.mem_flatten.1 hu
      obtain ⟨_, rfl⟩ := List.mem_replicate.1 hl1
      exact hs u hl2
    have hk0 : k * esz ≠ 0 := Nat.mul_ne_zero h0 (by omega)
    have hmk : m * esz + k * esz ≤ c * esz := by rw [← Nat.add_mul]; exact Nat.mul_le_mul_right _ hl
    obtain ⟨vs, vs', hg, hbl, hst, hafter⟩ := storeN_bufG (i := m * esz) (xs := (List.replicate k z).flatten) hb (by omega) (by omega) hall
    have : evalOp C H.get T.val H.next (.clear z x) = some { v := undef, put := some (g, .cells vs'), rd := [g] } := by
      simp only [evalOp, hx]
      cases k with
      | zero => exact absurd rfl h0
      | succ k =>
        rw [hst]
        simp [Ai.aadd, hbl]
    rw [this]
    obtain ⟨all, h1, h2, h3⟩ := hafter (H.put g (.cells vs')) m (by omega) (get_put_same _ (base_le_of hg (by simp)))
    have e1 : (all.take (m * esz) ++ ((List.replicate k z).flatten ++ all.drop (m * esz + (List.replicate k z).flatten.length))).take (m * esz) = cs := by
      rw [List.take_append_of_le_length (by rw [List.length_take]; omega), List.take_take, Nat.min_self, h2]
    rw [e1] at h3
    exact hk _ (Mod.put hw _ hg) h3
end
end Go.Ai
namespace Go.Ai.Wire
open Go.Proofs Go.IntWalk
attribute [local irreducible] Trie.put

theorem FlC.take {H : AHeap} {l : List Itm} {cs : List Value} {gs : List Nat} (h : FlC H l cs gs) : ∀ i, FlC H (l.take i) (cs.take (i * 2)) (gs.take i) := by
  induction h with
  | nil => intro i; simp; exact .nil
  | cons h1 _ ih =>
    intro i
    cases i with
    | zero => simp; exact .nil
    | succ i =>
      rw [show (i + 1) * 2 = i * 2 + 1 + 1 by omega]
      simp only [List.take_succ_cons]
      exact .cons h1 (ih i)
theorem FlC.drop {H : AHeap} {l : List Itm} {cs : List Value} {gs : List Nat} (h : FlC H l cs gs) : ∀ i, FlC H (l.drop i) (cs.drop (i * 2)) (gs.drop i) := by
  induction h with
  | nil => intro i; simp; exact .nil
  | cons h1 h2 ih =>
    intro i
    cases i with
    | zero => simp; exact .cons h1 h2
    | succ i =>
      rw [show (i + 1) * 2 = i * 2 + 1 + 1 by omega]
      simp only [List.drop_succ_cons]
      exact ih i
theorem FlC.scal {H : AHeap} {l : List Itm} {cs : List Value} {gs : List Nat} (h : FlC H l cs gs) (C : Ctx) : cs.all scalar = true := (h.itc (C := C)).scal
theorem FlC.at {H : AHeap} {l : List Itm} {cs : List Value} {gs : List Nat} (h : FlC H l cs gs) : ∀ {i : Nat} (hi : i < l.length), ∃ v g, (cs.drop (i * 2)).take 2 = [.int .i64 l[i].1, v] ∧ gs[i]? = some g ∧ Buf H v g 1 l[i].2.length (l[i].2.map u8v) := by
  induction h with
  | nil => intro i hi; simp at hi
  | @cons n d v g l cs gs h1 _ ih =>
    intro i hi
    cases i with
    | zero => exact ⟨v, g, by simp, by simp, by simpa using h1⟩
    | succ i =>
      obtain ⟨u, g', h2, h3, h4⟩ := ih (i := i) (by simpa using hi)
      refine ⟨u, g', ?_, by simpa using h3, by simpa using h4⟩
      rw [show (i + 1) * 2 = i * 2 + 2 from by omega]
      simpa using h2

set_option maxHeartbeats 1000000 in
theorem delete_spec (w : World) {H : AHeap} (hw : WF H) {col : Nat → Nat} (hbare : Bare col H) {v : Value} {l : List Itm} (hv : WFly H col v l) {i : Nat} (hi : i < l.length) (hsm : l.length ≤ 1000) :
    wpCall (ctxW w) (.func (.func 96) #[] #[]) [v, .int .i64 i, .int .i64 (i + 1 : Nat)] H fun r H' => Step [8] H col H' col ∧ WFly H' col r (l.eraseIdx i) := by
  obtain ⟨a, c, rfl⟩ := hv.val
  obtain ⟨g, cs, gs, k1, k2, k3, k4, k5⟩ := hv
  rcases k1 with ⟨he, hn, _⟩ | hb
  · omega
  have hcg := k2 hb.nn
  obtain ⟨b, c', he, hnc, hblk, hcl, _⟩ := hb.load (C := ctxW w)
  cases he
  refine wpCall_fn rfl (get96 w) ?_
  have e1 : ¬ ((i : Int) = i + 1) := by omega
  simp [ir96]
  refine w_sliceM (a := b) (n := l.length) (c := c) (l := i) (h := i + 1) (m := l.length) (by simp) hb.slc (bounds_of (bnd_some (k := .i64) (by simp) hnc) (bnd_some (k := .i64) (by simp) (by omega)) (bnd_some (k := .i64) (by simp) (by omega)) (by omega)) ?_
  simp [e1]
  refine d_sliceM (a := b) (n := l.length) (c := c) (l := 0) (h := i) (m := c) (by simp) hb.slc (bounds_of rfl (bnd_some (k := .i64) (by simp) (by omega)) rfl (by omega)) (by simp) ?_
  simp
  refine d_sliceM (a := b) (n := l.length) (c := c) (l := i + 1) (h := l.length) (m := c) (by simp) hb.slc (bounds_of rfl rfl (bnd_some (k := .i64) (by simp) (by omega)) hnc) (by simp) ?_
  simp
  have hs1 := hb.sub (l := 0) (u := i) (by omega) (by omega)
  have hs2 := hb.sub (l := i + 1) (u := l.length) (by omega) (Nat.le_refl _)
  have e0 : cs.length = l.length * 2 := hcl
  have ex : (cs.drop ((i + 1) * 2)).take ((l.length - (i + 1)) * 2) = cs.drop ((i + 1) * 2) := List.take_of_length_le (by rw [List.length_drop]; omega)
  rw [ex] at hs2
  have hsc := k3.scal (ctxW w)
  have hscd : (cs.drop ((i + 1) * 2)).all scalar = true := by
    rw [List.all_eq_true] at hsc ⊢
    exact fun x hx => hsc x (List.mem_of_mem_drop hx)
  simp only [Nat.zero_mul, List.drop_zero, Nat.sub_zero] at hs1
  rw [aadd_zero] at hs1
  refine d_appR (a := b) (n := i) (c := c) (m := l.length - (i + 1)) (g := g) (cs := cs.take (i * 2)) (xs := cs.drop ((i + 1) * 2)) hw (by simp) hs1 (by omega) (by simpa using hs2.row (C := ctxW w)) hscd (by omega) (by simp) fun H2 rd2 md2 hm2 hb2 hmd2 => ?_
  have en : i + (l.length - (i + 1)) = l.length - 1 := by omega
  rw [en] at hb2 ⊢
  simp
  have hlen : (l.eraseIdx i).length = l.length - 1 := List.length_eraseIdx_of_lt hi
  refine w_sliceM (a := b) (n := l.length - 1) (c := c) (l := l.length - 1) (h := l.length) (m := c) (by simp) hb2.slc (bounds_of rfl (bnd_some (k := .i64) (by simp) (by omega)) (bnd_some (k := .i64) (by simp) (by omega)) (by omega)) ?_
  simp
  refine w_clearX (g := g) (m := l.length - 1) (c := c) (b := b) (k := l.length - (l.length - 1)) (c2 := c - (l.length - 1)) (cs := cs.take (i * 2) ++ cs.drop ((i + 1) * 2)) hm2.wf' hb2 (by simp) rfl (by omega) (by omega) (by simp [scalar]) fun H3 hm3 hb3 => ?_
  simp
  have st2 : Step [8] H col H2 col := Step.of_mod hm2 hbare (by rw [hcg]; simp)
  have st3 : Step [8] H col H3 col := st2.trans (Step.of_mod hm3 st2.bare (by rw [hcg]; simp))
  refine ⟨st3, g, _, gs.eraseIdx i, .inr (by rw [hlen]; exact hb3), fun _ => hcg, ?_, fun b hb' => k4 b (List.mem_of_mem_eraseIdx hb'), k5.sublist (List.eraseIdx_sublist _ _)⟩
  rw [List.eraseIdx_eq_take_drop_succ, List.eraseIdx_eq_take_drop_succ]
  exact ((k3.take i).app (k3.drop (i + 1))).step st3 (fun b hb' => by
    have : b ∈ gs := by
      rcases List.mem_append.1 hb' with h | h
      · exact List.mem_of_mem_take h
      · exact List.mem_of_mem_drop h
    rw [k4 b this]
    simp)

/-- A line without one packet. -/
def awayW (y : LineW) (i : Nat) : LineW := ⟨⟨y.x.a, y.x.b, y.x.fly.eraseIdx i⟩, y.h0, y.h1⟩

theorem WFlyC.at {C : Ctx} {H : AHeap} {col : Nat → Nat} {a : Option Addr} {n c : Nat} {l : List Itm} {g : Nat} {cs : List Value} {gs : List Nat} (h : WFlyC H col (.slice a n c) l g cs gs) {i : Nat} (hi : i < l.length) :
    ∃ b ba gb, a = some b ∧ b.block = g ∧ loadN C H.get (aadd b (i * 2)) 1 = some [.int .i64 l[i].1] ∧ loadN C H.get (aadd b (i * 2 + 1)) 1 = some [.slice (some ba) l[i].2.length l[i].2.length] ∧ loadN C H.get (aadd b (i * 2)) 2 = some [.int .i64 l[i].1, .slice (some ba) l[i].2.length l[i].2.length] ∧
      gs[i]? = some gb ∧ Buf H (.slice (some ba) l[i].2.length l[i].2.length) gb 1 l[i].2.length (l[i].2.map u8v) := by
  obtain ⟨k1, k2, k3, k4, k5⟩ := h
  rcases k1 with ⟨_, h0, _⟩ | hb
  · omega
  obtain ⟨b, c', he, _, hblk, hcl, hld⟩ := hb.load (C := C)
  cases he
  obtain ⟨v, gb, h1, h2, h3⟩ := k3.at hi
  obtain ⟨ba, rfl, _, _⟩ := h3.load (C := C)
  have e2 := loadN_sub hld (i := i * 2) (m := 2) (by omega)
  rw [h1] at e2
  have e1 := loadN_sub e2 (i := 0) (m := 1) (by omega)
  have e3 := loadN_sub e2 (i := 1) (m := 1) (by omega)
  rw [aadd_aadd] at e1 e3
  exact ⟨b, ba, gb, rfl, hblk, by simpa using e1, by simpa using e3, e2, h2, h3⟩

theorem away_spec (w : World) {H : AHeap} (hw : WF H) {col : Nat → Nat} (hbare : Bare col H) {q : Nat} {y : LineW} (hy : WLine (ctxW w) H col q y) {i : Nat} (hi : i < y.x.fly.length) (hsm : y.x.fly.length ≤ 1000) :
    wpCall (ctxW w) (.func (.func 82) #[] #[]) [.pointer (some ⟨q, 0, none⟩), .int .i64 i] H fun r H' => Step [7, 8] H col H' col ∧ WLine (ctxW w) H' col q (awayW y i) ∧ ∃ v g, r = itV y.x.fly[i].1 v ∧ Buf H' v g 1 y.x.fly[i].2.length (y.x.fly[i].2.map u8v) := by
  obtain ⟨qa, qb, fv, s0, s1, W⟩ := hy
  obtain ⟨fa, fc, rfl⟩ := W.fl.val
  obtain ⟨g, cs, gs, F⟩ := id W.fl
  obtain ⟨b, ba, gb, rfl, hblk, _, _, l3, hgi, hbuf⟩ := F.at (C := ctxW w) hi
  refine wpCall_fn rfl (get82 w) ?_
  simp [ir82]
  refine w_mk hw fun p4 H1 hp4 => ?_
  have ldq := fun off n => Obj1.load (C := ctxW w) (off := off) (n := n) (W.obj.same hp4.same)
  have l31 := loadN_same hp4.same l3
  have e3 : (i : Int) < y.x.fly.length := by omega
  have n1 := hp4.new
  have n1' := hp4.next
  simp [ldq, e3, l31]
  refine w_mk hp4.same.wf' fun p5 H2 hp5 => ?_
  have n2 := hp5.new
  have n2' := hp5.next
  refine w_store (p := p5) (off := 0) (xs := [.int .i64 y.x.fly[i].1, .slice (some ba) y.x.fly[i].2.length y.x.fly[i].2.length]) hp5.same.wf' hp5.obj (by simp) (by simp) rfl (by simp) (by simp) (by simp) fun H3 hm3 hn3 ho3 => ?_
  have hs3 : Same H H3 := hp4.same.trans (hp5.same.then_mod hm3 (by omega))
  have st3 : Step [] H col H3 col := Step.of_same hs3 hbare
  have W3 := W.step st3 (by simp)
  have ldq3 := fun off n => Obj1.load (C := ctxW w) (off := off) (n := n) W3.obj
  have wi : IntKind.i64.wrap ((i : Int) + 1) = ((i + 1 : Nat) : Int) := by rw [i64_in _ (by omega)]; simp
  simp [ldq3, wi]
  refine wpCall_mono (delete_spec w st3.wf' st3.bare W3.fl hi hsm) ?_
  rintro r4 H4 ⟨st4, wf4⟩
  have st04 : Step [8] H col H4 col := (st3.more (by simp)).trans st4
  obtain ⟨a4, c4, rfl⟩ := wf4.val
  have hq4 := Obj1.step st4 W3.obj (by rw [W3.c7]; simp)
  have hp54 := Obj1.step st4 ho3 (by rw [hbare p5 (by omega)]; simp)
  have hp44 := Obj1.step st4 ((hp4.obj.same hp5.same).mod hm3 (by omega)) (by rw [hbare p4 (by omega)]; simp)
  simp
  refine w_store (p := q) (off := 2) (xs := [.slice a4 (y.x.fly.eraseIdx i).length c4]) st4.wf' hq4 (by simp) (by simp) rfl (by simp) (by simp) (by simp) fun H5 hm5 hn5 ho5 => ?_
  have st5 : Step [7] H4 col H5 col := Step.of_mod hm5 st4.bare (by rw [W3.c7]; simp)
  have st05 : Step [7, 8] H col H5 col := (st04.more (by simp)).trans (st5.more (by simp))
  have ne4 : p4 ≠ q := by have := W.obj.lt hw; omega
  have ne5 : p5 ≠ q := by have := W.obj.lt hw; omega
  have ldp5 := fun off n => Obj1.load (C := ctxW w) (off := off) (n := n) (hp54.mod hm5 ne5)
  simp [ldp5]
  refine w_store (p := p4) (off := 0) (xs := [.int .i64 y.x.fly[i].1, .slice (some ba) y.x.fly[i].2.length y.x.fly[i].2.length]) st5.wf' (hp44.mod hm5 ne4) (by simp) (by simp) rfl (by simp) (by simp) (by simp) fun H6 hm6 hn6 ho6 => ?_
  have ldp6 := fun off n => Obj1.load (C := ctxW w) (off := off) (n := n) ho6
  simp [ldp6]
  have st6 : Step [0] H5 col H6 col := Step.of_mod hm6 st5.bare (by rw [hbare p4 (by omega)]; simp)
  have hs56 : ∀ b', b' < H.next → H6.get b' = H5.get b' := fun b' hb' => hm6.same b' (by have := st05.grow.next; omega) (by omega)
  have st06 : Step [7, 8] H col H6 col := ⟨hw, st05.grow.trans hm6.grow, st6.bare, fun _ _ => rfl, fun b' hb' hn => (hs56 b' hb').trans (st05.same b' hb' hn)⟩
  have wf6 : WFly H6 col (.slice a4 (y.x.fly.eraseIdx i).length c4) (y.x.fly.eraseIdx i) := by
    obtain ⟨g', cs', gs', j1, j2, j3, j4, j5⟩ := wf4.step st5 (by simp) (by simp)
    refine ⟨g', cs', gs', ?_, j2, j3.step st6 (fun b' hb' => by rw [j4 b' hb']; simp), j4, j5⟩
    rcases j1 with h | h
    · exact .inl h
    · exact .inr (h.step st6 (by rw [j2 h.nn]; simp))
  have hcgb : col gb = 9 := F.2.2.2.1 gb (List.mem_of_getElem? hgi)
  refine ⟨st06, ⟨qa, qb, _, s0, s1, ⟨?_, W.c7, W.ea.step st06 (by simp) (by simp), W.eb.step st06 (by simp) (by simp), wf6, W.r0.step st06 (by simp) (by simp), W.r1.step st06 (by simp) (by simp)⟩⟩, _, rfl, gb, hbuf.step st06 (by rw [hcgb]; simp)⟩
  have := ho5.mod hm6 (by omega)
  simpa using this
end Go.Ai.Wire
