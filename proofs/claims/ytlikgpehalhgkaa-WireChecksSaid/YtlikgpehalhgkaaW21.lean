/-
  Ends at work; lines that are right, by the program.
-/
import Derived.Test.YtlikgpehalhgkaaW20
namespace Go.Ai.Wire
open Go.Proofs Go.IntWalk
attribute [local irreducible] Trie.put

/-- An end at work. -/
def EndP (C : Ctx) (H : AHeap) (lo hi q : Nat) (x : EndA) : Prop :=
  ∃ m1 m2 ov ev, Obj1 H q [.int .i64 x.last, ov, .int .i64 x.got, ev] ∧ lo ≤ m1 ∧ m1 ≤ m2 ∧ m2 ≤ q ∧ q < hi ∧ ItsN C H lo m1 ov x.opens ∧ ItsN C H m1 m2 ev x.early

theorem EndP.same {C : Ctx} {H H' : AHeap} (hs : Same H H') {lo hi q : Nat} {x : EndA} (h : EndP C H lo hi q x) : EndP C H' lo hi q x := by
  obtain ⟨m1, m2, ov, ev, h1, h2, h3, h4, h5, h6, h7⟩ := h
  exact ⟨m1, m2, ov, ev, h1.same hs, h2, h3, h4, h5, h6.same hs, h7.same hs⟩
theorem EndP.mono {C : Ctx} {H : AHeap} {lo hi lo' hi' q : Nat} (h1 : lo' ≤ lo) (h2 : hi ≤ hi') {x : EndA} (h : EndP C H lo hi q x) : EndP C H lo' hi' q x := by
  obtain ⟨m1, m2, ov, ev, k1, k2, k3, k4, k5, k6, k7⟩ := h
  exact ⟨m1, m2, ov, ev, k1, by omega, k3, k4, by omega, k6.mono h1 (Nat.le_refl _), k7⟩

theorem newEnd_spec (w : World) {H : AHeap} (hw : WF H) {x : EndA} {v : Value} (hx : EndR (ctxW w) H x v) (hsm : EndS x) : wpCall (ctxW w) (.func (.func 73) #[] #[]) [v] H fun r H' => Same H H' ∧ ∃ q, r = .pointer (some ⟨q, 0, none⟩) ∧ EndP (ctxW w) H' H.next H'.next q x := by
  obtain ⟨ov, ev, rfl, ho, he⟩ := hx
  obtain ⟨a1, c1, rfl⟩ := ho.val
  obtain ⟨a2, c2, rfl⟩ := he.val
  refine wpCall_fn rfl (get73 w) ?_
  simp [ir73]
  refine w_box (cs := [.int .i64 x.last, .slice a1 x.opens.length c1, .int .i64 x.got, .slice a2 x.early.length c2]) hw (by simp [endV]) rfl (by simp) fun p H2 hp => ?_
  have hs02 := hp.same
  have ld2 := fun off n => Obj1.load (C := ctxW w) (off := off) (n := n) hp.obj
  simp [ld2]
  refine wpCall_mono (mapped_spec w (.inl rfl) hs02.wf' (ho.same hs02) (copyF_spec w (.inl rfl)) hsm.1.1 hsm.1.2) ?_
  rintro r3 H3 ⟨hs3, hn3⟩
  have hp3 := hp.obj.same hs3
  have ld3 := fun off n => Obj1.load (C := ctxW w) (off := off) (n := n) hp3
  have f1 : free (ctxW w) (.call H2 H3) (.exp [p] []) = true := free_call_rd (eqbW w) hs3 (by simp; obtain ⟨e, h⟩ := hp.obj; rw [h]; simp)
  simp [ld3, f1]
  have hs03 := hs02.trans hs3
  refine wpCall_mono (mapped_spec w (.inl rfl) hs03.wf' (he.same hs03) (copyF_spec w (.inl rfl)) hsm.2.1 hsm.2.2) ?_
  rintro r4 H4 ⟨hs4, hn4⟩
  have hp4 := hp3.same hs4
  obtain ⟨a3, c3, rfl⟩ := hn3.val
  obtain ⟨a4, c4, rfl⟩ := hn4.val
  simp
  have hs04 := hs03.trans hs4
  have n1 := hp.new
  have n2 := hp.next
  have n3 := hs3.grow.next
  have n4 := hs4.grow.next
  refine d_store (p := p) (off := 1) (xs := [.slice a3 x.opens.length c3]) hs04.wf' rfl hp4 (by simp) (by simp) rfl (by simp) (by simp) (by simp) fun H5 hm5 hn5 ho5 => ?_
  simp
  have hs05 : Same H H5 := hs04.then_mod hm5 (by omega)
  refine d_store (p := p) (off := 3) (xs := [.slice a4 x.early.length c4]) hs05.wf' rfl ho5 (by simp) (by simp) rfl (by simp) (by simp) (by simp) fun H6 hm6 hn6 ho6 => ?_
  have hs06 : Same H H6 := hs05.then_mod hm6 (by omega)
  have ld6 := fun off n => Obj1.load (C := ctxW w) (off := off) (n := n) ho6
  simp [ld6]
  refine w_box (cs := [.int .i64 x.last, .slice a3 x.opens.length c3, .int .i64 x.got, .slice a4 x.early.length c4]) hs06.wf' (by simp) rfl (by simp) fun q H7 hq => ?_
  simp
  have n7 := hq.new
  have n8 := hq.next
  refine ⟨hs06.trans hq.same, H3.next, H4.next, _, _, hq.obj, by omega, by omega, by omega, by omega, ?_, ?_⟩
  · exact ((((hn3.same hs4).mod hm5 (by omega)).mod hm6 (by omega)).same hq.same).mono (by omega) (Nat.le_refl _)
  · exact ((hn4.mod hm5 (by omega)).mod hm6 (by omega)).same hq.same

/-- What 'open' gives. -/
def OpenOut (C : Ctx) (H : AHeap) (x : EndA) (r : Value) (H' : AHeap) : Prop :=
  Same H H' ∧ ((EndOK x ∧ ∃ q, r = .tuple #[.pointer (some ⟨q, 0, none⟩), .int .i64 0] ∧ EndP C H' H.next H'.next q x) ∨ (¬ EndOK x ∧ r = .tuple #[.pointer none, .int .i64 4]))

theorem open_spec (w : World) {H : AHeap} (hw : WF H) {x : EndA} {v : Value} (hx : EndR (ctxW w) H x v) (hsm : EndS x) : wpCall (ctxW w) (.func (.func 53) #[] #[]) [v] H (OpenOut (ctxW w) H x) := by
  obtain ⟨ov, ev, rfl, ho, he⟩ := hx
  obtain ⟨a1, c1, rfl⟩ := ho.val
  obtain ⟨a2, c2, rfl⟩ := he.val
  refine wpCall_fn rfl (get53 w) ?_
  simp [ir53]
  refine w_box (cs := [.int .i64 x.last, .slice a1 x.opens.length c1, .int .i64 x.got, .slice a2 x.early.length c2]) hw (by simp [endV]) rfl (by simp) fun p H2 hp => ?_
  have ld2 := fun off n => Obj1.load (C := ctxW w) (off := off) (n := n) hp.obj
  simp [ld2]
  refine wpCall_mono (endRight_spec w hp.same.wf' (x := x) ⟨_, _, rfl, ho.same hp.same, he.same hp.same⟩ ⟨by have := hsm.1.1; omega, by have := hsm.2.1; omega⟩) ?_
  rintro _ H3 ⟨hs3, b, rfl, hb⟩
  have hs03 := hp.same.trans hs3
  have ld3 := fun off n => Obj1.load (C := ctxW w) (off := off) (n := n) (hp.obj.same hs3)
  cases b with
  | false =>
    simp
    exact ⟨hs03, .inr ⟨fun h => by simpa using hb.2 h, rfl⟩⟩
  | true =>
    simp [ld3]
    refine wpCall_mono (newEnd_spec w hs03.wf' (x := x) ⟨_, _, rfl, ho.same hs03, he.same hs03⟩ hsm) ?_
    rintro _ H4 ⟨hs4, q, rfl, hq⟩
    simp
    exact ⟨hs03.trans hs4, .inl ⟨hb.1 rfl, q, rfl, hq.mono (by have := hs03.grow.next; omega) (Nat.le_refl _)⟩⟩

/-- An answer that is an error or none. -/
def ErrOut (p : Prop) (r : Value) : Prop := (p ∧ r = .int .i64 0) ∨ (¬ p ∧ r = .int .i64 4)

theorem checkEnd_spec (w : World) {H : AHeap} (hw : WF H) {x : EndA} {v : Value} (hx : EndR (ctxW w) H x v) (hsm : EndS x) : wpCall (ctxW w) (.func (.func 21) #[] #[]) [v] H fun r H' => Same H H' ∧ ErrOut (EndOK x) r := by
  obtain ⟨ov, ev, rfl, ho, he⟩ := hx
  obtain ⟨a1, c1, rfl⟩ := ho.val
  obtain ⟨a2, c2, rfl⟩ := he.val
  refine wpCall_fn rfl (get21 w) ?_
  simp [ir21]
  refine w_box (cs := [.int .i64 x.last, .slice a1 x.opens.length c1, .int .i64 x.got, .slice a2 x.early.length c2]) hw (by simp [endV]) rfl (by simp) fun p H2 hp => ?_
  have ld2 := fun off n => Obj1.load (C := ctxW w) (off := off) (n := n) hp.obj
  simp [ld2]
  refine wpCall_mono (open_spec w hp.same.wf' (x := x) ⟨_, _, rfl, ho.same hp.same, he.same hp.same⟩ hsm) ?_
  rintro r H3 ⟨hs3, ⟨hok, q, rfl, _⟩ | ⟨hok, rfl⟩⟩
  · simp
    exact ⟨hp.same.trans hs3, .inl ⟨hok, rfl⟩⟩
  · simp
    exact ⟨hp.same.trans hs3, .inr ⟨hok, rfl⟩⟩

/-! ### both ends of a line -/
def lineCells (x : LineA) (o0 e0 o1 e1 f : Value) : List Value := [.int .i64 x.a.last, o0, .int .i64 x.a.got, e0, .int .i64 x.b.last, o1, .int .i64 x.b.got, e1, f]

theorem notE_spec (w : World) {H : AHeap} (hw : WF H) {q : Nat} (hq : Obj1 H q [.func (.func 72) #[] #[]]) {x : EndA} {v : Value} (hx : EndR (ctxW w) H x v) (hsm : EndS x) :
    wpCall (ctxW w) (.func (.func 97) #[] #[.pointer (some ⟨q, 0, none⟩)]) [v] H fun r H' => Same H H' ∧ ∃ b : Bool, r = .bool (!b) ∧ (b = true ↔ EndOK x) := by
  obtain ⟨ov, ev, rfl, ho, he⟩ := hx
  obtain ⟨a1, c1, rfl⟩ := ho.val
  obtain ⟨a2, c2, rfl⟩ := he.val
  refine wpCall_fn rfl (get97 w) ?_
  simp [ir97]
  refine w_box (cs := [.int .i64 x.last, .slice a1 x.opens.length c1, .int .i64 x.got, .slice a2 x.early.length c2]) hw (by simp [endV]) rfl (by simp) fun p H2 hp => ?_
  have ld2 := fun off n => Obj1.load (C := ctxW w) (off := off) (n := n) hp.obj
  have ldq := fun off n => Obj1.load (C := ctxW w) (off := off) (n := n) (hq.same hp.same)
  simp [ld2, ldq]
  refine wpCall_mono (endRight_spec w hp.same.wf' (x := x) ⟨_, _, rfl, ho.same hp.same, he.same hp.same⟩ ⟨by have := hsm.1.1; omega, by have := hsm.2.1; omega⟩) ?_
  rintro _ H3 ⟨hs3, b, rfl, hb⟩
  simp
  exact ⟨hp.same.trans hs3, by cases b <;> simp_all⟩

theorem allEnds_spec (w : World) {H : AHeap} (hw : WF H) {x : LineA} {o0 e0 o1 e1 f : Value} {p : Nat} (hp : Obj1 H p (lineCells x o0 e0 o1 e1 f)) (h1 : Its (ctxW w) H o0 x.a.opens) (h2 : Its (ctxW w) H e0 x.a.early) (h3 : Its (ctxW w) H o1 x.b.opens) (h4 : Its (ctxW w) H e1 x.b.early)
    (ha : EndS x.a) (hb : EndS x.b) : wpCall (ctxW w) (.func (.func 74) #[] #[]) [.slice (some ⟨p, 0, none⟩) 2 2, .func (.func 72) #[] #[]] H fun r H' => Same H H' ∧ Tells (EndOK x.a ∧ EndOK x.b) r := by
  refine wpCall_fn rfl (get74 w) ?_
  simp [ir74]
  refine w_box (cs := [.func (.func 72) #[] #[]]) hw (by simp) rfl (by simp) fun q H1 hq => ?_
  simp
  refine wpCall_fn rfl (get96 w) ?_
  simp [ir96]
  refine wpCall_fn rfl (get116 w) ?_
  simp [ir116]
  have ld1 := fun off n => Obj1.load (C := ctxW w) (off := off) (n := n) (hp.same hq.same)
  have hs01 := hq.same
  refine wp_loop' (fun n s => ∃ (T : Env) (H2 : AHeap) (i : Nat), s = ⟨T, H2, []⟩ ∧ n = 2 - i ∧ i ≤ 2 ∧ T.val 0 = .slice (some ⟨p, 0, none⟩) 2 2 ∧ T.val 1 = .func (.func 97) #[] #[.pointer (some ⟨q, 0, none⟩)] ∧ T.val 7 = .int .i64 2 ∧ T.val 8 = .int .i64 i ∧ Same H1 H2 ∧ (0 < i → EndOK x.a) ∧ (1 < i → EndOK x.b)) (n := 2)
    ⟨_, H1, 0, rfl, rfl, by omega, by simp, by simp, by simp, by simp, Same.refl hs01.wf', by omega, by omega⟩ ?_
  rintro n s K ⟨T, H2, i, rfl, rfl, hi, t0, t1, t7, t8, hs2, hA, hB⟩ hnext hexit
  have hs02 := hs01.trans hs2
  have ld2 := fun off n => Obj1.load (C := ctxW w) (off := off) (n := n) (hp.same hs02)
  have hcase : i = 0 ∨ i = 1 ∨ i = 2 := by omega
  rcases hcase with rfl | rfl | rfl
  · simp [t0, t1, t7, t8, ld2, lineCells]
    refine wpCall_mono (notE_spec w hs02.wf' (hq.obj.same hs2) (x := x.a) ⟨_, _, rfl, h1.same hs02, h2.same hs02⟩ ha) ?_
    rintro _ H3 ⟨hs3, b, rfl, hb'⟩
    simp
    cases b with
    | false =>
      simp
      refine hexit _ _ (by simp) ?_
      simp
      exact ⟨hs02.trans hs3, .no fun h => by simpa using hb'.2 h.1⟩
    | true =>
      simp [t0, t1, t7, t8]
      exact hnext 1 _ (by omega) ⟨_, H3, 1, rfl, rfl, by omega, by simp [t0], by simp [t1], by simp [t7], by simp [i64_in], hs2.trans hs3, fun _ => hb'.1 rfl, by omega⟩
  · simp [t0, t1, t7, t8, ld2, lineCells]
    refine wpCall_mono (notE_spec w hs02.wf' (hq.obj.same hs2) (x := x.b) ⟨_, _, rfl, h3.same hs02, h4.same hs02⟩ hb) ?_
    rintro _ H3 ⟨hs3, b, rfl, hb'⟩
    simp
    cases b with
    | false =>
      simp
      refine hexit _ _ (by simp) ?_
      simp
      exact ⟨hs02.trans hs3, .no fun h => by simpa using hb'.2 h.2⟩
    | true =>
      simp [t0, t1, t7, t8]
      exact hnext 0 _ (by omega) ⟨_, H3, 2, rfl, rfl, by omega, by simp [t0], by simp [t1], by simp [t7], by simp [i64_in], hs2.trans hs3, fun _ => hA (by omega), fun _ => hb'.1 rfl⟩
  · simp [t0, t1, t7, t8]
    refine hexit _ _ (by simp) ?_
    simp
    exact ⟨hs02, .yes ⟨hA (by omega), hB (by omega)⟩⟩
end Go.Ai.Wire
