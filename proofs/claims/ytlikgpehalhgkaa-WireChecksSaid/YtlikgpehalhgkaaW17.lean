/-
  Lists of frames that are looked through; which ends are right, by the program.
-/
import Derived.Test.YtlikgpehalhgkaaW16
namespace Go.Ai.Wire
open Go.Proofs Go.IntWalk
attribute [local irreducible] Trie.put

def itV (n : Int) (dv : Value) : Value := .agg #[.int .i64 n, dv]

/-- A function that tells of frames whether something is so. -/
def PredI (C : Ctx) (H0 : AHeap) (f : Value) (P : Itm → Bool) : Prop :=
  ∀ H1, Same H0 H1 → ∀ n da dc d, Bs C H1 (.slice da (List.length d) dc) d → wpCall C f [itV n (.slice da d.length dc)] H1 fun r H2 => Same H1 H2 ∧ r = .bool (P (n, d))

theorem PredI.same {C : Ctx} {H H' : AHeap} (hs : Same H H') {f : Value} {P : Itm → Bool} (h : PredI C H f P) : PredI C H' f P := fun H1 h1 => h H1 (hs.trans h1)

/-- The first place of which something is so, or -1. -/
def firstI (P : Itm → Bool) (l : List Itm) : Int := if l.findIdx P < l.length then (l.findIdx P : Int) else -1

theorem firstI_at {P : Itm → Bool} {l : List Itm} {i : Nat} (hi : i < l.length) (h : P l[i] = true) (hb : ∀ j (hj : j < l.length), j < i → P l[j] = false) : firstI P l = i := by
  have : l.findIdx P = i := (List.findIdx_eq hi).2 ⟨h, fun j hj => by simpa using hb j (by omega) hj⟩
  unfold firstI
  rw [this, if_pos hi]
theorem firstI_none {P : Itm → Bool} {l : List Itm} (hb : ∀ j (hj : j < l.length), P l[j] = false) : firstI P l = -1 := by
  unfold firstI
  rw [if_neg]
  intro h
  have h1 := List.findIdx_getElem (p := P) (w := h)
  rw [hb _ h] at h1
  cases h1
theorem firstI_any (P : Itm → Bool) (l : List Itm) : decide (0 ≤ firstI P l) = l.any P := by
  unfold firstI
  split
  · rename_i h
    have h1 := List.findIdx_getElem (p := P) (w := h)
    have : l.any P = true := List.any_eq_true.2 ⟨_, List.getElem_mem h, h1⟩
    rw [this]
    simp
  · rename_i h
    have : l.any P = false := by
      rw [List.any_eq_false]
      intro x hx hp
      exact h (List.findIdx_lt_length_of_exists ⟨x, hx, hp⟩)
    rw [this]
    rfl

theorem indexI_spec (w : World) {k : Nat} (hk : k = 100 ∨ k = 117) {H : AHeap} (hw : WF H) {v f : Value} {l : List Itm} {P : Itm → Bool} (hv : Its (ctxW w) H v l) (hf : PredI (ctxW w) H f P) (hsm : l.length ≤ 1000000) :
    wpCall (ctxW w) (.func (.func k) #[] #[]) [v, f] H fun r H' => Same H H' ∧ r = .int .i64 (firstI P l) := by
  obtain ⟨a, c, rfl⟩ := hv.val
  have main : ∀ {F : IFunc}, F = ir100 → (ctxW w).funcs.get k = some F → wpCall (ctxW w) (.func (.func k) #[] #[]) [.slice a l.length c, f] H fun r H' => Same H H' ∧ r = .int .i64 (firstI P l) := by
    intro F hF hg
    refine wpCall_fn (by rcases hk with rfl | rfl <;> rfl) hg ?_
    subst hF
    simp [ir100]
    refine wp_loop' (fun n s => ∃ (T : Env) (H1 : AHeap) (i : Nat), s = ⟨T, H1, []⟩ ∧ n = l.length - i ∧ i ≤ l.length ∧ T.val 0 = .slice a l.length c ∧ T.val 1 = f ∧ T.val 7 = .int .i64 l.length ∧ T.val 8 = .int .i64 i ∧ Same H H1 ∧ ∀ j (hj : j < l.length), j < i → P l[j] = false) (n := l.length)
      ⟨_, H, 0, rfl, rfl, Nat.zero_le _, by simp, by simp, by simp, by simp, Same.refl hw, by intro j hj h; omega⟩ ?_
    rintro n s K ⟨T, H1, i, rfl, rfl, hi, t0, t1, t7, t8, hs, hall⟩ hnext hexit
    by_cases hlt : i < l.length
    · obtain ⟨b, da, dc, rfl, _, _, l3, hd⟩ := (hv.same hs).at hlt
      have e3 : (i : Int) < l.length := by omega
      simp [t0, t1, t7, t8, e3, l3]
      refine wpCall_mono (hf H1 hs l[i].1 da dc l[i].2 hd) ?_
      rintro _ H2 ⟨hs2, rfl⟩
      simp
      cases hP : P l[i] with
      | true =>
        simp
        refine hexit _ _ (by simp) ?_
        simp
        exact ⟨hs.trans hs2, (firstI_at hlt hP hall).symm⟩
      | false =>
        simp [t0, t1, t7, t8]
        refine hnext (l.length - (i + 1)) _ (by omega) ⟨_, H2, i + 1, rfl, rfl, by omega, by simp [t0], by simp [t1], by simp [t7], by simp; rw [i64_in _ (by omega)], hs.trans hs2, ?_⟩
        intro j hj hji
        by_cases h : j = i
        · subst h; exact hP
        · exact hall j hj (by omega)
    · have : i = l.length := by omega
      subst this
      simp [t0, t1, t7, t8]
      refine hexit _ _ (by simp) ?_
      simp
      exact ⟨hs, (firstI_none fun j hj => hall j hj hj).symm⟩
  rcases hk with rfl | rfl
  · exact main rfl (get100 w)
  · exact main rfl (get117 w)

theorem containsI_spec (w : World) {k : Nat} (hk : k = 114 ∨ k = 98) {H : AHeap} (hw : WF H) {v f : Value} {l : List Itm} {P : Itm → Bool} (hv : Its (ctxW w) H v l) (hf : PredI (ctxW w) H f P) (hsm : l.length ≤ 1000000) :
    wpCall (ctxW w) (.func (.func k) #[] #[]) [v, f] H fun r H' => Same H H' ∧ r = .bool (l.any P) := by
  rcases hk with rfl | rfl
  · refine wpCall_fn rfl (get114 w) ?_
    simp [ir114]
    refine wpCall_mono (indexI_spec w (.inl rfl) hw hv hf hsm) ?_
    rintro _ H1 ⟨hs, rfl⟩
    simp
    exact ⟨hs, firstI_any P l⟩
  · refine wpCall_fn rfl (get98 w) ?_
    simp [ir98]
    refine wpCall_mono (indexI_spec w (.inr rfl) hw hv hf hsm) ?_
    rintro _ H1 ⟨hs, rfl⟩
    simp
    exact ⟨hs, firstI_any P l⟩

theorem notI_spec (w : World) {k : Nat} (hk : k = 115 ∨ k = 99) {H : AHeap} {f : Value} {P : Itm → Bool} {q : Nat} (hq : Obj1 H q [f]) (hf : PredI (ctxW w) H f P) :
    PredI (ctxW w) H (.func (.func k) #[] #[.pointer (some ⟨q, 0, none⟩)]) fun x => !P x := by
  intro H1 hs n da dc d hd
  rcases hk with rfl | rfl
  · refine wpCall_fn rfl (get115 w) ?_
    simp [ir115]
    refine w_box (cs := [.int .i64 n, .slice da d.length dc]) hs.wf' (by simp [itV]) rfl (by simp) fun p H2 hp => ?_
    have ldq := fun off n => Obj1.load (C := ctxW w) (off := off) (n := n) ((hq.same hs).same hp.same)
    have ld := fun off n => Obj1.load (C := ctxW w) (off := off) (n := n) hp.obj
    simp [ldq, ld]
    refine wpCall_mono (hf H2 (hs.trans hp.same) n da dc d (hd.same hp.same)) ?_
    rintro _ H3 ⟨hs3, rfl⟩
    simp
    exact hp.same.trans hs3
  · refine wpCall_fn rfl (get99 w) ?_
    simp [ir99]
    refine w_box (cs := [.int .i64 n, .slice da d.length dc]) hs.wf' (by simp [itV]) rfl (by simp) fun p H2 hp => ?_
    have ldq := fun off n => Obj1.load (C := ctxW w) (off := off) (n := n) ((hq.same hs).same hp.same)
    have ld := fun off n => Obj1.load (C := ctxW w) (off := off) (n := n) hp.obj
    simp [ldq, ld]
    refine wpCall_mono (hf H2 (hs.trans hp.same) n da dc d (hd.same hp.same)) ?_
    rintro _ H3 ⟨hs3, rfl⟩
    simp
    exact hp.same.trans hs3

theorem any_not_all {α : Type} (P : α → Bool) (l : List α) : (!l.any fun x => !P x) = l.all P := by
  induction l with
  | nil => rfl
  | cons a r ih => simp only [List.any_cons, List.all_cons, Bool.not_or, Bool.not_not, ih]

theorem allI_spec (w : World) {k : Nat} (hk : k = 93 ∨ k = 75) {H : AHeap} (hw : WF H) {v : Value} {fn : FuncId} {l : List Itm} {P : Itm → Bool} (hv : Its (ctxW w) H v l) (hf : PredI (ctxW w) H (.func (.func fn) #[] #[]) P) (hsm : l.length ≤ 1000000) :
    wpCall (ctxW w) (.func (.func k) #[] #[]) [v, .func (.func fn) #[] #[]] H fun r H' => Same H H' ∧ r = .bool (l.all P) := by
  rcases hk with rfl | rfl
  · refine wpCall_fn rfl (get93 w) ?_
    simp [ir93]
    refine w_box (cs := [.func (.func fn) #[] #[]]) hw (by simp) rfl (by simp) fun p H1 hp => ?_
    simp
    refine wpCall_mono (containsI_spec w (.inl rfl) hp.same.wf' (hv.same hp.same) (notI_spec w (.inl rfl) hp.obj (hf.same hp.same)) hsm) ?_
    rintro _ H2 ⟨hs2, rfl⟩
    simp
    refine ⟨hp.same.trans hs2, ?_⟩
    rw [← any_not_all, Bool.not_not]
  · refine wpCall_fn rfl (get75 w) ?_
    simp [ir75]
    refine w_box (cs := [.func (.func fn) #[] #[]]) hw (by simp) rfl (by simp) fun p H1 hp => ?_
    simp
    refine wpCall_mono (containsI_spec w (.inr rfl) hp.same.wf' (hv.same hp.same) (notI_spec w (.inr rfl) hp.obj (hf.same hp.same)) hsm) ?_
    rintro _ H2 ⟨hs2, rfl⟩
    simp
    refine ⟨hp.same.trans hs2, ?_⟩
    rw [← any_not_all, Bool.not_not]

def frameB (x : Itm) : Bool := decide ((1 : Int) ≤ x.2.length) && decide ((x.2.length : Int) ≤ 400)
theorem frameB_iff (x : Itm) : frameB x = true ↔ FrameOK x.2 := by
  simp only [frameB, FrameOK, Bool.and_eq_true, decide_eq_true_eq]
  omega

theorem isItem_spec (w : World) {H : AHeap} : PredI (ctxW w) H (.func (.func 92) #[] #[]) frameB := by
  intro H1 hs n da dc d hd
  refine wpCall_fn rfl (get92 w) ?_
  simp [ir92]
  refine w_box (cs := [.int .i64 n, .slice da d.length dc]) hs.wf' (by simp [itV]) rfl (by simp) fun p H2 hp => ?_
  have ld := fun off n => Obj1.load (C := ctxW w) (off := off) (n := n) hp.obj
  simp [ld]
  refine wpCall_mono (isFrame_spec w rfl) ?_
  rintro _ H3 ⟨rfl, rfl⟩
  simp
  exact ⟨hp.same, rfl⟩

def flightB (x : Itm) : Bool := (decide (0 ≤ x.1) && decide (x.1 ≤ 1)) && (decide ((1 : Int) ≤ x.2.length) && decide ((x.2.length : Int) ≤ 408))

theorem isFlight_spec (w : World) {H : AHeap} : PredI (ctxW w) H (.func (.func 76) #[] #[]) flightB := by
  intro H1 hs n da dc d hd
  refine wpCall_fn rfl (get76 w) ?_
  simp [ir76]
  refine w_box (cs := [.int .i64 n, .slice da d.length dc]) hs.wf' (by simp [itV]) rfl (by simp) fun p H2 hp => ?_
  have ld := fun off n => Obj1.load (C := ctxW w) (off := off) (n := n) hp.obj
  simp [ld]
  refine wpCall_mono (within_spec w n 0 1) ?_
  rintro _ H3 ⟨rfl, rfl⟩
  by_cases hn : 0 ≤ n ∧ n ≤ 1
  · simp [hn, ld]
    refine wpCall_mono (within_spec w d.length 1 408) ?_
    rintro _ H3 ⟨rfl, rfl⟩
    simp
    exact ⟨hp.same, by simp [flightB, hn]⟩
  · have e : (decide (0 ≤ n) && decide (n ≤ 1)) = false := by simp; omega
    simp [e]
    exact ⟨hp.same, by simp only [flightB, e, Bool.false_and]⟩
end Go.Ai.Wire
