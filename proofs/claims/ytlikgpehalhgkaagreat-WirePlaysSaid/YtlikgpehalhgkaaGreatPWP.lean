/-
  'plain': a line's copy.
  'slices.Concat' of what was handed on at both ends.
  An act on a right line leaves it right.
  'Do'.
-/
import Derived.Test.YtlikgpehalhgkaaGreatPWO
namespace Go.Ai.Wire
open Go.Proofs Go.IntWalk
attribute [local irreducible] Trie.put

theorem EndOK.small {x : EndA} (h : EndOK x) (hl : x.early.length ≤ 1000) : EndS x := by
  refine ⟨⟨by have := h.2.2.1; omega, ?_⟩, hl, ?_⟩
  · rw [List.all_eq_true]
    intro y hy
    obtain ⟨i, hi, rfl⟩ := List.mem_iff_getElem.1 hy
    have := (h.2.2.2.1 i hi).2.2.2
    simp [short]
    omega
  · rw [List.all_eq_true]
    intro y hy
    have := (h.early_mem hy).2.2.2.2
    simp [short]
    omega

theorem SmallL.small {y : LineW} (h : SmallL y) : LineS y.x := by
  refine ⟨h.2.2.1.small h.2.2.2.2.1, h.2.2.2.1.small h.2.2.2.2.2.1, by have := h.1; omega, ?_⟩
  rw [List.all_eq_true]
  intro f hf
  have := (h.2.1 f hf).2.2
  simp [short]
  omega

/-- Frames with their numbers in own memory, from a block on. -/
def ItsF (C : Ctx) (H : AHeap) (lo : Nat) (v : Value) (l : List Itm) : Prop := ∃ lo' hi, lo ≤ lo' ∧ ItsN C H lo' hi v l
theorem ItsF.its {C : Ctx} {H : AHeap} {lo : Nat} {v : Value} {l : List Itm} (h : ItsF C H lo v l) : Its C H v l := let ⟨_, _, _, h⟩ := h; h.its
theorem ItsF.same {C : Ctx} {H H' : AHeap} (hs : Same H H') {lo : Nat} {v : Value} {l : List Itm} (h : ItsF C H lo v l) : ItsF C H' lo v l := let ⟨a, b, c, h⟩ := h; ⟨a, b, c, h.same hs⟩
theorem ItsF.mod {C : Ctx} {H H' : AHeap} {q lo : Nat} (hm : Mod q H H') (hq : q < lo) {v : Value} {l : List Itm} (h : ItsF C H lo v l) : ItsF C H' lo v l := let ⟨a, b, c, h⟩ := h; ⟨a, b, c, h.mod hm (.inl (by omega))⟩
theorem ItsF.mono {C : Ctx} {H : AHeap} {lo lo' : Nat} (hl : lo' ≤ lo) {v : Value} {l : List Itm} (h : ItsF C H lo v l) : ItsF C H lo' v l := let ⟨a, b, c, h⟩ := h; ⟨a, b, by omega, h⟩

/-- A line's value in own memory. -/
def LineF (C : Ctx) (H : AHeap) (lo : Nat) (x : LineA) (v : Value) : Prop :=
  ∃ o0 e0 o1 e1 f, v = lineV x.a.last o0 x.a.got e0 x.b.last o1 x.b.got e1 f ∧ ItsF C H lo o0 x.a.opens ∧ ItsF C H lo e0 x.a.early ∧ ItsF C H lo o1 x.b.opens ∧ ItsF C H lo e1 x.b.early ∧ ItsF C H lo f x.fly
theorem LineF.r {C : Ctx} {H : AHeap} {lo : Nat} {x : LineA} {v : Value} (h : LineF C H lo x v) : LineR C H x v := let ⟨a, b, c, d, e, h0, h1, h2, h3, h4, h5⟩ := h; ⟨a, b, c, d, e, h0, h1.its, h2.its, h3.its, h4.its, h5.its⟩
theorem LineF.same {C : Ctx} {H H' : AHeap} (hs : Same H H') {lo : Nat} {x : LineA} {v : Value} (h : LineF C H lo x v) : LineF C H' lo x v := let ⟨a, b, c, d, e, h0, h1, h2, h3, h4, h5⟩ := h; ⟨a, b, c, d, e, h0, h1.same hs, h2.same hs, h3.same hs, h4.same hs, h5.same hs⟩
theorem LineF.mod {C : Ctx} {H H' : AHeap} {q lo : Nat} (hm : Mod q H H') (hq : q < lo) {x : LineA} {v : Value} (h : LineF C H lo x v) : LineF C H' lo x v := let ⟨a, b, c, d, e, h0, h1, h2, h3, h4, h5⟩ := h; ⟨a, b, c, d, e, h0, h1.mod hm hq, h2.mod hm hq, h3.mod hm hq, h4.mod hm hq, h5.mod hm hq⟩

theorem LineF.mono {C : Ctx} {H : AHeap} {lo lo' : Nat} (hl : lo' ≤ lo) {x : LineA} {v : Value} (h : LineF C H lo x v) : LineF C H lo' x v := let ⟨a, b, c, d, e, h0, h1, h2, h3, h4, h5⟩ := h; ⟨a, b, c, d, e, h0, h1.mono hl, h2.mono hl, h3.mono hl, h4.mono hl, h5.mono hl⟩

set_option maxHeartbeats 1000000 in
theorem plain_spec (w : World) {H : AHeap} (hw : WF H) {col : Nat → Nat} {q : Nat} {y : LineW} (hy : WLine (ctxW w) H col q y) (hsm : LineS y.x) :
    wpCall (ctxW w) (.func (.func 25) #[] #[]) [.pointer (some ⟨q, 0, none⟩)] H fun r H' => Same H H' ∧ LineF (ctxW w) H' H.next y.x r := by
  obtain ⟨qa, qb, fv, s0, s1, W⟩ := hy
  obtain ⟨fa, fc, rfl⟩ := W.fl.val
  obtain ⟨oa, ea, hoa, _, ia, ja⟩ := W.ea
  obtain ⟨ob, eb, hob, _, ib, jb⟩ := W.eb
  have ia := ia.its
  have ja := ja.its
  have ib := ib.its
  have jb := jb.its
  obtain ⟨a1, c1, rfl⟩ := ia.val
  obtain ⟨a2, c2, rfl⟩ := ja.val
  obtain ⟨a3, c3, rfl⟩ := ib.val
  obtain ⟨a4, c4, rfl⟩ := jb.val
  refine wpCall_fn rfl (get25 w) ?_
  simp [ir25]
  refine w_mk hw fun p2 H1 hp2 => ?_
  have hs1 := hp2.same
  have ldq := fun off n => Obj1.load (C := ctxW w) (off := off) (n := n) (W.obj.same hs1)
  have lda := fun off n => Obj1.load (C := ctxW w) (off := off) (n := n) (hoa.same hs1)
  simp [ldq, lda]
  have hcall := newEnd_spec w hs1.wf' (x := y.x.a) (v := .agg #[.int .i64 y.x.a.last, .slice a1 y.x.a.opens.length c1, .int .i64 y.x.a.got, .slice a2 y.x.a.early.length c2]) ⟨_, _, rfl, ia.same hs1, ja.same hs1⟩ hsm.1
  refine wpCall_mono hcall ?_
  rintro _ H2 ⟨hs2, na, rfl, hna⟩
  have hs02 := hs1.trans hs2
  have ldq2 := fun off n => Obj1.load (C := ctxW w) (off := off) (n := n) (W.obj.same hs02)
  have ldb2 := fun off n => Obj1.load (C := ctxW w) (off := off) (n := n) (hob.same hs02)
  have f1 : free (ctxW w) (.call H1 H2) (.exp [q] []) = true := free_call_rd (eqbW w) hs2 (by simp; obtain ⟨e, h⟩ := W.obj.same hs1; rw [h]; simp)
  have f2 : free (ctxW w) (.call H1 H2) (.exp [qb] []) = true := free_call_rd (eqbW w) hs2 (by simp; obtain ⟨e, h⟩ := hob.same hs1; rw [h]; simp)
  simp [ldq2, ldb2, f1, f2]
  have hcall := newEnd_spec w hs02.wf' (x := y.x.b) (v := .agg #[.int .i64 y.x.b.last, .slice a3 y.x.b.opens.length c3, .int .i64 y.x.b.got, .slice a4 y.x.b.early.length c4]) ⟨_, _, rfl, ib.same hs02, jb.same hs02⟩ hsm.2.1
  refine wpCall_mono hcall ?_
  rintro _ H3 ⟨hs3, nb, rfl, hnb⟩
  have hs03 := hs02.trans hs3
  have ldq3 := fun off n => Obj1.load (C := ctxW w) (off := off) (n := n) (W.obj.same hs03)
  have f3 : free (ctxW w) (.call H2 H3) (.exp [q] []) = true := free_call_rd (eqbW w) hs3 (by simp; obtain ⟨e, h⟩ := W.obj.same hs02; rw [h]; simp)
  simp [ldq3, f1, f3]
  refine wpCall_mono (mapped_spec w (.inr rfl) hs03.wf' (W.fl.its.same hs03) (copyF_spec w (.inr rfl)) hsm.2.2.1 hsm.2.2.2) ?_
  rintro r4 H4 ⟨hs4, hn4⟩
  obtain ⟨a5, c5, rfl⟩ := hn4.val
  have hs04 := hs03.trans hs4
  obtain ⟨m1, m2, oa', ea', k1, k2, k3, k4, k5, k6, k7⟩ := hna
  obtain ⟨m1', m2', ob', eb', j1, j2, j3, j4, j5, j6, j7⟩ := hnb
  obtain ⟨b1, d1, rfl⟩ := k6.val
  obtain ⟨b2, d2, rfl⟩ := k7.val
  obtain ⟨b3, d3, rfl⟩ := j6.val
  obtain ⟨b4, d4, rfl⟩ := j7.val
  have hs24 := hs3.trans hs4
  have lna := fun off n => Obj1.load (C := ctxW w) (off := off) (n := n) (k1.same hs24)
  have lnb := fun off n => Obj1.load (C := ctxW w) (off := off) (n := n) (j1.same hs4)
  have g1 : free (ctxW w) (.call H2 H3) (.exp [na] []) = true := free_call_rd (eqbW w) hs3 (by simp; obtain ⟨e, h⟩ := k1; rw [h]; simp)
  have g2 : free (ctxW w) (.call H3 H4) (.exp [na] []) = true := free_call_rd (eqbW w) hs4 (by simp; obtain ⟨e, h⟩ := k1.same hs3; rw [h]; simp)
  have g3 : free (ctxW w) (.call H3 H4) (.exp [nb] []) = true := free_call_rd (eqbW w) hs4 (by simp; obtain ⟨e, h⟩ := j1; rw [h]; simp)
  simp [lna, lnb, g1, g2, g3]
  have hp4 := ((hp2.obj.same hs2).same hs3).same hs4
  have n2 := hp2.new
  refine d_store (p := p2) (off := 0) (xs := lineCells y.x (.slice b1 y.x.a.opens.length d1) (.slice b2 y.x.a.early.length d2) (.slice b3 y.x.b.opens.length d3) (.slice b4 y.x.b.early.length d4) (.slice a5 y.x.fly.length c5)) hs04.wf' rfl hp4 (by simp) (by simp [lineCells]) rfl (by simp) (by simp) (by simp [lineCells]) fun H5 hm5 hn5 ho5 => ?_
  have ld5 := fun off n => Obj1.load (C := ctxW w) (off := off) (n := n) ho5
  simp [ld5, lineCells]
  have n01 := hp2.same.grow.next
  have hs12 := hp2.next
  have n12 := hs2.grow.next
  have n23 := hs3.grow.next
  refine ⟨hs04.then_mod hm5 (by omega), _, _, _, _, _, rfl, ?_, ?_, ?_, ?_, ?_⟩
  · exact ⟨_, _, by omega, (k6.same hs24).mod hm5 (.inl (by omega))⟩
  · exact ⟨_, _, by omega, (k7.same hs24).mod hm5 (.inl (by omega))⟩
  · exact ⟨_, _, by omega, (j6.same hs4).mod hm5 (.inl (by omega))⟩
  · exact ⟨_, _, by omega, (j7.same hs4).mod hm5 (.inl (by omega))⟩
  · exact ⟨_, _, by omega, hn4.mod hm5 (.inl (by omega))⟩
end Go.Ai.Wire

namespace Go.Ai.Wire
open Go.Proofs Go.IntWalk
attribute [local irreducible] Trie.put

/-- A row in own memory, of what lies there already; there may be room in it. -/
def RowG (C : Ctx) (H0 H : AHeap) (v : Value) (l : List (List UInt8)) (cs : List Value) : Prop :=
  Same H0 H ∧ ∃ g, NG H v g 1 l.length cs ∧ (v ≠ .slice none 0 0 → H0.next ≤ g) ∧ FrC C H0 l cs

section
variable {C : Ctx} {H0 H : AHeap}
theorem RowG.nil (hw : WF H) : RowG C H H (.slice none 0 0) [] [] := ⟨Same.refl hw, 0, .inl ⟨rfl, rfl, rfl⟩, fun h => absurd rfl h, .nil⟩
theorem RowG.frs {v : Value} {l : List (List UInt8)} {cs : List Value} (h : RowG C H0 H v l cs) : Frs C H v l := by
  obtain ⟨hs, g, k1, k2, k3⟩ := h
  rcases k1 with ⟨rfl, hn, rfl⟩ | hb
  · have : l = [] := List.length_eq_zero_iff.1 hn
    subst this
    exact Frs.nil C H
  · exact ⟨cs, k3.same hs, hb.row⟩

end

end Go.Ai.Wire

namespace Go.Ai.Wire

theorem sort_pw : ∀ {l : List Itm}, SortI l ↔ l.Pairwise fun a b => a.1 < b.1
  | [] => ⟨fun _ => .nil, fun _ i hi => by simp at hi⟩
  | y :: l => by
    have ih := sort_pw (l := l)
    rw [List.pairwise_cons]
    constructor
    · exact fun h => ⟨h.head, ih.1 h.tail⟩
    · rintro ⟨h1, h2⟩ i hi h0
      obtain ⟨j, rfl⟩ : ∃ j, i = j + 1 := ⟨i - 1, by omega⟩
      simp only [Nat.add_sub_cancel, List.getElem_cons_succ]
      cases j with
      | zero => exact h1 _ (List.getElem_mem _)
      | succ j =>
        have := (ih.2 h2) (j + 1) (by simpa using hi) (by omega)
        simpa using this

/-- What early frames are, behind a number. -/
def EarlyL (got : Int) (l : List Itm) : Prop := (∀ y ∈ l, got + 2 ≤ y.1 ∧ y.1 ≤ got + 8 ∧ y.1 ≤ 60000 ∧ FrameOK y.2) ∧ l.Pairwise fun a b => a.1 < b.1

theorem early_iff {x : EndA} : (∀ i, EarlyAt x i) ↔ EarlyL x.got x.early := by
  constructor
  · intro h
    refine ⟨fun y hy => ?_, sort_pw.1 fun i hi h0 => (h i hi).2.2.1 h0⟩
    obtain ⟨i, hi, rfl⟩ := List.mem_iff_getElem.1 hy
    have := h i hi
    exact ⟨this.1, by omega, by omega, this.2.2.2⟩
  · rintro ⟨h1, h2⟩ i hi
    have := h1 _ (List.getElem_mem hi)
    exact ⟨this.1, by omega, fun h0 => sort_pw.2 h2 i hi h0, this.2.2.2⟩

theorem ins_pw {y : Itm} : ∀ {l : List Itm}, (l.Pairwise fun a b => a.1 < b.1) → ((insI y l).Pairwise fun a b => a.1 < b.1)
  | [], _ => by simp [insI]
  | z :: r, h => by
    rw [List.pairwise_cons] at h
    unfold insI
    split
    · rename_i hz
      rw [List.pairwise_cons]
      refine ⟨fun u hu => ?_, ins_pw h.2⟩
      rcases mem_insI hu with rfl | hu
      · exact hz
      · exact h.1 u hu
    · split
      · exact List.pairwise_cons.2 h
      · rename_i h1 h2
        refine List.pairwise_cons.2 ⟨fun u hu => ?_, List.pairwise_cons.2 h⟩
        rcases List.mem_cons.1 hu with rfl | hu
        · omega
        · have := h.1 u hu; omega

theorem EarlyL.ins {got : Int} {l : List Itm} {n : Int} {d : List UInt8} (h : EarlyL got l) (h1 : got + 2 ≤ n ∧ n ≤ got + 8 ∧ n ≤ 60000) (hf : FrameOK d) : EarlyL got (insI (n, d) l) := by
  refine ⟨fun y hy => ?_, ins_pw h.2⟩
  rcases mem_insI hy with rfl | hy
  · exact ⟨h1.1, h1.2.1, h1.2.2, hf⟩
  · exact h.1 y hy

/-- What follows is handed on: what stays is early still. -/
theorem EarlyL.follow : ∀ {l : List Itm} {got : Int}, (∀ y ∈ l, got + 1 ≤ y.1 ∧ y.1 ≤ 60000 ∧ FrameOK y.2) → (l.Pairwise fun a b => a.1 < b.1) → (∀ y ∈ l.drop (follow got l), got + follow got l + 2 ≤ y.1)
  | [], _, _, _ => by intro y hy; simp at hy
  | z :: r, got, h, hp => by
    rw [List.pairwise_cons] at hp
    have hz := h z (by simp)
    unfold Wire.follow
    split
    · rename_i he
      have ih := EarlyL.follow (l := r) (got := got + 1) (fun y hy => by
        have h1 := h y (by simp [hy])
        have h2 := hp.1 y hy
        exact ⟨by omega, h1.2⟩) hp.2
      intro y hy
      simp only [List.drop_succ_cons] at hy
      have := ih y hy
      omega
    · rename_i hne
      intro y hy
      simp only [List.drop_zero] at hy
      rcases List.mem_cons.1 hy with rfl | hy
      · have := hz.1; simp; omega
      · have := hp.1 y hy; simp; omega

/-- What open frames are. -/
def OpensL (last : Int) (l : List Itm) : Prop := ∀ i (h : i < l.length), l[i].1 = last - l.length + 1 + i ∧ 1 ≤ l[i].1 ∧ FrameOK l[i].2

theorem opens_iff {x : EndA} : (∀ i, OpenAt x i) ↔ OpensL x.last x.opens := Iff.rfl

theorem OpensL.drop {last : Int} {l : List Itm} (h : OpensL last l) (j : Nat) : OpensL last (l.drop j) := by
  intro i hi
  have hi' : i < l.length - j := by rwa [List.length_drop] at hi
  have := h (j + i) (by omega)
  rw [List.getElem_drop, List.length_drop]
  exact ⟨by omega, this.2.1, this.2.2⟩

theorem OpensL.snoc {last : Int} {l : List Itm} {d : List UInt8} (h : OpensL last l) (hl : 0 ≤ last) (hf : FrameOK d) : OpensL (last + 1) (l ++ [(last + 1, d)]) := by
  intro i hi
  have e : (l ++ [(last + 1, d)]).length = l.length + 1 := by simp
  rw [List.getElem_append, e]
  split
  · rename_i hlt
    have := h i hlt
    exact ⟨by omega, this.2.1, this.2.2⟩
  · rename_i hge
    have : i = l.length := by omega
    simp only [List.getElem_singleton]
    exact ⟨by omega, by omega, hf⟩

theorem readB_frame {bs : List UInt8} {n g : Nat} {d : List UInt8} (h : readB bs = some (n, g, d)) : n ≤ 60000 ∧ g ≤ 60000 ∧ (n ≠ 0 → FrameOK d) ∧ (n = 0 → d = []) := by
  obtain ⟨h1, _⟩ := readB_inv h
  simp only [okP, decide_eq_true_eq] at h1
  obtain ⟨h2, h3, h4⟩ := h1
  refine ⟨by omega, by omega, fun h0 => ?_, fun h0 => ?_⟩
  · rw [if_neg (by omega)] at h4
    exact h4
  · rw [if_pos (by omega)] at h4
    exact List.length_eq_zero_iff.1 h4

theorem takeF_ok {x : EndA} (h : EndOK x) (bs : List UInt8) : EndOK (takeF x bs).1 := by
  obtain ⟨h1, h2, h3, h4, h5⟩ := id h
  have ho : ∀ g, OpensL x.last (still g x.opens) := fun g => by
    rw [← still_drop h.sortO]
    exact OpensL.drop (opens_iff.1 h4) _
  have hol : ∀ g, (still g x.opens).length ≤ 8 := fun g => Nat.le_trans (List.length_filter_le _ _) h3
  have he := early_iff.1 h5
  unfold takeF
  cases hr : readB bs with
  | none => exact h
  | some y =>
    obtain ⟨n, g, d⟩ := y
    obtain ⟨r1, r2, r3, r4⟩ := readB_frame hr
    dsimp only
    split
    · exact h
    · split
      · exact ⟨h1, h2, hol g, opens_iff.2 (ho g), h5⟩
      · rename_i hn
        split
        · rename_i h1'
          have hfg := follow_got (l := x.early) (got := x.got + 1) (fun y hy => (he.1 y hy).2.2.1) (by omega)
          refine ⟨h1, ⟨by dsimp only [handed]; omega, by dsimp only [handed]; omega⟩, hol g, opens_iff.2 (ho g), early_iff.2 ⟨fun y hy => ?_, ?_⟩⟩
          · dsimp only [handed] at hy ⊢
            have hm := he.1 y (List.mem_of_mem_drop hy)
            have := EarlyL.follow (l := x.early) (got := x.got + 1) (fun y hy => ⟨by have := he.1 y hy; omega, (he.1 y hy).2.2⟩) he.2 y hy
            exact ⟨by omega, by omega, hm.2.2.1, hm.2.2.2⟩
          · dsimp only [handed]
            exact he.2.sublist (List.drop_sublist _ _)
        · split
          · rename_i hh
            exact ⟨h1, h2, hol g, opens_iff.2 (ho g), early_iff.2 (he.ins (by omega) (r3 hn))⟩
          · exact ⟨h1, h2, hol g, opens_iff.2 (ho g), h5⟩

theorem sent_ok {x : EndA} (h : EndOK x) {d : List UInt8} (hf : FrameOK d) (hl : x.last ≠ 60000) (ho : x.opens.length ≠ 8) : EndOK (sent x d) := by
  obtain ⟨h1, h2, h3, h4, h5⟩ := h
  refine ⟨?_, h2, ?_, opens_iff.2 (OpensL.snoc (opens_iff.1 h4) (by omega) hf), h5⟩
  · dsimp only [sent]; omega
  · dsimp only [sent]; simp; omega

/-- A packet on its way. -/
def FlightOK (f : Itm) : Prop := (0 ≤ f.1 ∧ f.1 ≤ 1) ∧ 1 ≤ f.2.length ∧ f.2.length ≤ 408

theorem flights_mem {l : List Itm} : (∀ i, FlightAt l i) ↔ ∀ f ∈ l, FlightOK f := by
  constructor
  · intro h f hf
    obtain ⟨i, hi, rfl⟩ := List.mem_iff_getElem.1 hf
    exact h i hi
  · intro h i hi
    exact h _ (List.getElem_mem hi)

theorem putF_ok {x : LineA} (h : LineOK x) {to : Int} {d : List UInt8} (hf : FlightOK (to, d)) : LineOK (putF x to d) := by
  unfold putF
  split
  · refine ⟨h.1, h.2.1, ?_, flights_mem.2 fun f hm => ?_⟩
    · simp; omega
    · rcases List.mem_append.1 hm with hm | hm
      · exact flights_mem.1 h.2.2.2 f hm
      · simp at hm; rw [hm]; exact hf
  · exact h

theorem setE_ok {y : LineW} (h : LineOK y.x) {t : Nat} {e : EndA} (he : EndOK e) : LineOK (setE y t e).x := by
  unfold setE
  split
  · exact ⟨he, h.2.1, h.2.2⟩
  · exact ⟨h.1, he, h.2.2⟩
theorem hearW_x (y : LineW) (t : Nat) (l : List (List UInt8)) : (hearW y t l).x = y.x := by unfold hearW; split <;> rfl
theorem endW_ok {y : LineW} (h : LineOK y.x) (t : Nat) : EndOK (endW y t) := by
  unfold endW
  split
  · exact h.1
  · exact h.2.1

theorem takeF_rep {x : EndA} {bs : List UInt8} (h : (takeF x bs).2.2 ≠ []) : (takeF x bs).2.2.length = 8 := by
  unfold takeF at h ⊢
  cases hr : readB bs with
  | none => rw [hr] at h; exact absurd rfl h
  | some y =>
    obtain ⟨n, g, d⟩ := y
    rw [hr] at h
    dsimp only at h ⊢
    split
    · rename_i h1; rw [if_pos h1] at h; exact absurd rfl h
    · rename_i h1
      rw [if_neg h1] at h
      split
      · rename_i h2; rw [if_pos h2] at h; exact absurd rfl h
      · split
        · dsimp only; rw [enc_len]; simp
        · split
          · dsimp only; rw [enc_len]; simp
          · dsimp only; rw [enc_len]; simp

theorem arriveW_ok {y : LineW} (h : LineOK y.x) {t : Nat} (ht : t ≤ 1) (d : List UInt8) : LineOK (arriveW y t d).x := by
  have h1 : LineOK (hearW (setE y t (takeF (endW y t) d).1) t (takeF (endW y t) d).2.1).x := by
    rw [hearW_x]
    exact setE_ok h (takeF_ok (endW_ok h t) d)
  unfold arriveW
  split
  · exact h1
  · rename_i hr
    have := takeF_rep hr
    exact putF_ok h1 ⟨⟨by omega, by omega⟩, by dsimp only; omega, by dsimp only; omega⟩

theorem awayW_ok {y : LineW} (h : LineOK y.x) (i : Nat) : LineOK (awayW y i).x := by
  refine ⟨h.1, h.2.1, ?_, flights_mem.2 fun f hf => flights_mem.1 h.2.2.2 f (List.mem_of_mem_eraseIdx hf)⟩
  have := List.length_eraseIdx_le y.x.fly i
  have := h.2.2.1
  dsimp only [awayW]
  omega

theorem putsW_ok {to : Int} (ht : 0 ≤ to ∧ to ≤ 1) : ∀ {l : List (List UInt8)} {y : LineW}, LineOK y.x → (∀ b ∈ l, 1 ≤ b.length ∧ b.length ≤ 408) → LineOK (putsW y to l).x
  | [], y, h, _ => h
  | b :: l, y, h, hb => by
    unfold putsW
    rw [List.foldl_cons]
    exact putsW_ok ht (l := l) (y := putW y to b) (putF_ok h ⟨ht, hb b (by simp)⟩) fun c hc => hb c (by simp [hc])

theorem packets_len {x : EndA} (h : EndOK x) : ∀ b ∈ packets x, 1 ≤ b.length ∧ b.length ≤ 408 := by
  intro b hb
  obtain ⟨y, hy, rfl⟩ := List.mem_map.1 hb
  obtain ⟨i, hi, rfl⟩ := List.mem_iff_getElem.1 hy
  have := (h.2.2.2.1 i hi).2.2
  rw [enc_len]
  have := this.2
  omega

theorem actW_ok {y : LineW} (h : LineOK y.x) {a : ActA} (hf : FineA y.x.fly a) : LineOK (actW y a).1.x := by
  unfold actW
  rcases hf with ⟨hk, hfr, hwho, _⟩ | ⟨hk, _, hwho, _⟩ | ⟨hk, _, _, hat, _⟩ | ⟨hk, _, _, hat, _⟩
  · rw [if_pos hk]
    unfold sayW
    have hw1 := hwho.1
    have hw2 := hwho.2
    split
    · exact h
    · split
      · exact h
      · rename_i h1 h2
        have := hfr.2
        refine putF_ok (setE_ok h (sent_ok (endW_ok h _) hfr h1 h2)) ⟨⟨by dsimp only; omega, by dsimp only; omega⟩, ?_, ?_⟩
        · dsimp only; rw [enc_len]; omega
        · dsimp only; rw [enc_len]; omega
  · rw [if_neg (by omega), if_pos hk]
    have hw1 := hwho.1
    have hw2 := hwho.2
    exact putsW_ok ⟨by omega, by omega⟩ h (packets_len (endW_ok h _))
  · have hn2 : a.n.toNat < y.x.fly.length := by have := hat.1; have := hat.2; omega
    have hfl := h.2.2.2 a.n.toNat hn2
    rw [if_neg (by omega), if_neg (by omega), dif_pos hn2]
    split
    · exact arriveW_ok (awayW_ok h _) (by have := hfl.1; omega) _
    · split
      · exact awayW_ok h _
      · split
        · exact putF_ok h hfl
        · omega
  · have hn2 : a.n.toNat < y.x.fly.length := by have := hat.1; have := hat.2; omega
    have hfl := h.2.2.2 a.n.toNat hn2
    rw [if_neg (by omega), if_neg (by omega), dif_pos hn2, if_neg (by omega), if_neg (by omega), if_neg (by omega)]
    refine ⟨h.1, h.2.1, by dsimp only [spoilW]; rw [List.length_modify]; exact h.2.2.1, flights_mem.2 fun f hf => ?_⟩
    obtain ⟨i, hi, rfl⟩ := List.mem_iff_getElem.1 hf
    dsimp only [spoilW] at hi ⊢
    rw [List.length_modify] at hi
    rw [List.getElem_modify]
    have := h.2.2.2 i hi
    split
    · exact ⟨this.1, by dsimp only [spoilB]; rw [List.length_set]; exact this.2.1, by dsimp only [spoilB]; rw [List.length_set]; exact this.2.2⟩
    · exact this

theorem doW_ok {y : LineW} (h : LineOK y.x) (a : ActA) : LineOK (doW y a).1.x := by
  unfold doW
  split
  · exact actW_ok h ‹_›
  · exact h
end Go.Ai.Wire

namespace Go.Ai.Wire
open Go.Proofs Go.IntWalk
attribute [local irreducible] Trie.put

theorem early_len {x : EndA} (h : EndOK x) : x.early.length ≤ 7 := by
  have key : ∀ i (hi : i < x.early.length), x.got + 2 + i ≤ x.early[i].1 := by
    intro i
    induction i with
    | zero => intro hi; have := (h.2.2.2.2 0 hi).1; omega
    | succ i ih =>
      intro hi
      have h1 := ih (by omega)
      have h2 := (h.2.2.2.2 (i + 1) hi).2.2.1 (by omega)
      simp only [Nat.add_sub_cancel] at h2
      omega
  rcases Nat.lt_or_ge 7 x.early.length with h7 | h7
  · have h1 := key 7 h7
    have h2 := (h.2.2.2.2 7 h7).2.1
    omega
  · exact h7

theorem smallOK {y : LineW} (h : LineOK y.x) (h0 : y.h0.length ≤ 100000) (h1 : y.h1.length ≤ 100000) : SmallL y :=
  ⟨h.2.2.1, fun f hf => by
    have := flights_mem.1 h.2.2.2 f hf
    exact ⟨by have := this.1; omega, this.2⟩, h.1, h.2.1, by have := early_len h.1; omega, by have := early_len h.2.1; omega, h0, h1⟩

theorem putW_h (y : LineW) (to : Int) (d : List UInt8) : (putW y to d).h0 = y.h0 ∧ (putW y to d).h1 = y.h1 := ⟨rfl, rfl⟩
theorem putsW_h {to : Int} : ∀ (l : List (List UInt8)) (y : LineW), (putsW y to l).h0 = y.h0 ∧ (putsW y to l).h1 = y.h1
  | [], y => ⟨rfl, rfl⟩
  | b :: l, y => by
    unfold putsW
    rw [List.foldl_cons]
    exact putsW_h l (putW y to b)

theorem arriveW_h {y : LineW} (h : LineOK y.x) (t : Nat) (d : List UInt8) : (arriveW y t d).h0.length ≤ y.h0.length + 8 ∧ (arriveW y t d).h1.length ≤ y.h1.length + 8 := by
  have hs := (takeF_size (endW y t) d).2.2
  have hel := early_len (endW_ok h t)
  have key : (hearW (setE y t (takeF (endW y t) d).1) t (takeF (endW y t) d).2.1).h0.length ≤ y.h0.length + 8 ∧ (hearW (setE y t (takeF (endW y t) d).1) t (takeF (endW y t) d).2.1).h1.length ≤ y.h1.length + 8 := by
    unfold hearW setE
    split
    · dsimp only; rw [List.length_append]; omega
    · dsimp only; rw [List.length_append]; omega
  unfold arriveW
  split
  · exact key
  · exact key

theorem setE_h (y : LineW) (t : Nat) (e : EndA) : (setE y t e).h0 = y.h0 ∧ (setE y t e).h1 = y.h1 := by unfold setE; split <;> exact ⟨rfl, rfl⟩

theorem doW_h {y : LineW} (h : LineOK y.x) (a : ActA) : (doW y a).1.h0.length ≤ y.h0.length + 8 ∧ (doW y a).1.h1.length ≤ y.h1.length + 8 := by
  have triv : y.h0.length ≤ y.h0.length + 8 ∧ y.h1.length ≤ y.h1.length + 8 := ⟨by omega, by omega⟩
  unfold doW
  split
  · unfold actW
    split
    · unfold sayW
      split
      · exact triv
      · split
        · exact triv
        · rw [(putW_h _ _ _).1, (putW_h _ _ _).2, (setE_h _ _ _).1, (setE_h _ _ _).2]; exact triv
    · split
      · dsimp only [againW]; rw [(putsW_h _ _).1, (putsW_h _ _).2]; exact triv
      · split
        · split
          · exact arriveW_h (awayW_ok h _) _ _
          · split
            · exact triv
            · split
              · exact triv
              · exact triv
        · exact triv
  · exact triv

def zeroL : LineA := ⟨⟨0, [], 0, []⟩, ⟨0, [], 0, []⟩, []⟩

open Classical in
/-- What 'Do' gives. -/
noncomputable def doF (x : LineA) (a : ActA) : LineA × List (List UInt8) × Int :=
  if LineOK x then if (doW ⟨x, [], []⟩ a).2 = 0 then ((doW ⟨x, [], []⟩ a).1.x, (doW ⟨x, [], []⟩ a).1.h0 ++ (doW ⟨x, [], []⟩ a).1.h1, 0) else (zeroL, [], (doW ⟨x, [], []⟩ a).2) else (zeroL, [], 4)

/-- Bytes' slices in own memory. -/
def FrF (C : Ctx) (H : AHeap) (lo : Nat) (v : Value) (l : List (List UInt8)) : Prop :=
  ∃ cs, FrC C H l cs ∧ Row C H v 1 l.length cs ∧ (∀ u ∈ cs, ∀ a n c, u = .slice (some a) n c → n ≠ 0 → lo ≤ a.block) ∧ ∀ a n c, v = .slice (some a) n c → n ≠ 0 → lo ≤ a.block
theorem FrF.nil (C : Ctx) (H : AHeap) (lo : Nat) : FrF C H lo (.slice none 0 0) [] := ⟨[], .nil, ⟨rfl, none, 0, rfl, by simp, by simp⟩, (fun u h => by cases h), fun a n c h => by cases h⟩
theorem FrF.frs {C : Ctx} {H : AHeap} {lo : Nat} {v : Value} {l : List (List UInt8)} (h : FrF C H lo v l) : Frs C H v l := let ⟨cs, h1, h2, _⟩ := h; ⟨cs, h1, h2⟩
theorem FrF.same {C : Ctx} {H H' : AHeap} (hs : Same H H') {lo : Nat} {v : Value} {l : List (List UInt8)} (h : FrF C H lo v l) : FrF C H' lo v l := let ⟨cs, h1, h2, h3⟩ := h; ⟨cs, h1.same hs, Row.same hs h2, h3⟩

end Go.Ai.Wire
