/-
  What an end is behind bytes that come, as the reference has it.
  The reference puts an early frame among the others.
  'Take'.
-/
import Derived.Test.YtlikgpehalhgkaaQWJ
namespace Go.Ai.Wire
open Go.Proofs Go.IntWalk
attribute [local irreducible] Trie.put

/-- How many of the first frames the other end got. -/
def gone (g : Int) (l : List Itm) : Nat := (l.takeWhile fun y => decide (y.1 ≤ g)).length

theorem SortI.tail {y : Itm} {l : List Itm} (h : SortI (y :: l)) : SortI l := fun i hi h0 => by
  have := h (i + 1) (by simp; omega) (by omega)
  simp only [Nat.add_sub_cancel, List.getElem_cons_succ] at this
  obtain ⟨j, rfl⟩ : ∃ j, i = j + 1 := ⟨i - 1, by omega⟩
  simpa using this

theorem SortI.head {y : Itm} {l : List Itm} (h : SortI (y :: l)) : ∀ z ∈ l, y.1 < z.1 := by
  intro z hz
  obtain ⟨i, hi, rfl⟩ := List.mem_iff_getElem.1 hz
  have := h.lt (i + 1) 0 (by simp; omega) (by omega)
  simpa using this

theorem still_drop {g : Int} : ∀ {l : List Itm}, SortI l → l.drop (gone g l) = still g l
  | [], _ => rfl
  | y :: l, h => by
    have ih := still_drop (g := g) h.tail
    unfold gone still at *
    by_cases hy : y.1 ≤ g
    · simp only [List.takeWhile_cons, List.filter_cons, hy, decide_true, if_true, List.length_cons, List.drop_succ_cons, Bool.not_true, if_false, Bool.false_eq_true]
      exact ih
    · have : (l.filter fun y => !decide (y.1 ≤ g)) = l := by
        rw [List.filter_eq_self]
        intro z hz
        have := h.head z hz
        simp
        omega
      simp [hy, this]

theorem EndOK.sortO {x : EndA} (h : EndOK x) : SortI x.opens := fun i hi h0 => by
  have h1 := (h.2.2.2.1 i hi).1
  have h2 := (h.2.2.2.1 (i - 1) (by omega)).1
  omega

theorem mem_insI {y z : Itm} : ∀ {l : List Itm}, z ∈ insI y l → z = y ∨ z ∈ l
  | [], h => by simpa [insI] using h
  | u :: r, h => by
    unfold insI at h
    split at h
    · rcases List.mem_cons.1 h with h | h
      · exact .inr (by simp [h])
      · rcases mem_insI h with h | h
        · exact .inl h
        · exact .inr (by simp [h])
    · split at h
      · exact .inr h
      · rcases List.mem_cons.1 h with h | h
        · exact .inl h
        · exact .inr h

theorem EndOK.early_mem {x : EndA} (h : EndOK x) {y : Itm} (hy : y ∈ x.early) : x.got + 2 ≤ y.1 ∧ y.1 ≤ x.got + 8 ∧ y.1 ≤ 60000 ∧ FrameOK y.2 := by
  obtain ⟨i, hi, rfl⟩ := List.mem_iff_getElem.1 hy
  have := h.2.2.2.2 i hi
  exact ⟨this.1, by omega, by omega, this.2.2.2⟩

theorem insI_len (y : Itm) : ∀ l : List Itm, (insI y l).length ≤ l.length + 1
  | [] => by simp [insI]
  | z :: r => by
    unfold insI
    have := insI_len y r
    split
    · simp; omega
    · split <;> simp

theorem takeF_size (x : EndA) (bs : List UInt8) : (takeF x bs).1.opens.length ≤ x.opens.length ∧ (takeF x bs).1.early.length ≤ x.early.length + 1 ∧ (takeF x bs).2.1.length ≤ x.early.length + 1 := by
  have hs : ∀ g, (still g x.opens).length ≤ x.opens.length := fun g => List.length_filter_le _ _
  unfold takeF
  cases hr : readB bs with
  | none => simp
  | some y =>
    obtain ⟨n, g, d⟩ := y
    have h1 := hs g
    have h2 := insI_len ((n : Int), d) x.early
    dsimp only
    split
    · simp
    · split
      · dsimp only; simp; omega
      · split
        · simp only [handed, hands, List.length_drop, List.length_cons, List.length_map, List.length_take]
          omega
        · split
          · dsimp only; simp; omega
          · dsimp only; simp; omega

end Go.Ai.Wire

namespace Go.Ai
theorem loadN_same {C : Ctx} {H H' : AHeap} (hs : Same H H') {a : Addr} {n : Nat} {l : List Value} (h : loadN C H.get a n = some l) : loadN C H'.get a n = some l := by
  rw [loadN_congr (M := H.get) (hs.same _ (load_lt hs.wf h))]
  exact h
end Go.Ai
namespace Go.Ai.Wire
open Go.Proofs Go.IntWalk
attribute [local irreducible] Trie.put

/-- The frames so far: the new one is among them, or it has not come yet. -/
def SoFar (l : List Itm) (y : Itm) (i : Nat) (put : Bool) (m : List Itm) : Prop :=
  (put = false ∧ m = l.take i ∧ ∀ j (hj : j < l.length), j < i → l[j].1 < y.1) ∨
  (put = true ∧ ∃ t, t < i ∧ PosI l y.1 t ∧ (¬ ∃ h : t < l.length, l[t].1 = y.1) ∧ m = l.take t ++ y :: (l.take i).drop t)

theorem SoFar.len {l : List Itm} {y : Itm} {i : Nat} {put : Bool} {m : List Itm} (h : SoFar l y i put m) : m.length ≤ l.length + 1 := by
  rcases h with ⟨_, rfl, _⟩ | ⟨_, t, _, _, _, rfl⟩
  · simp; omega
  · simp; omega

/-- A new row of what lies there already. -/
def RowE (C : Ctx) (H0 H1 : AHeap) (col : Nat → Nat) (H : AHeap) (v : Value) (m : List Itm) : Prop :=
  Same H1 H ∧ ∃ g cs, NB H v g 2 m.length cs ∧ (m ≠ [] → H1.next ≤ g) ∧ ItC C H0 m cs ∧ Plain col cs

section
variable {C : Ctx} {H0 H1 H : AHeap} {col : Nat → Nat}
theorem RowE.nil (hw : WF H) : RowE C H0 H col H (.slice none 0 0) [] := ⟨Same.refl hw, 0, [], .inl ⟨rfl, rfl, rfl⟩, fun h => absurd rfl h, .nil, fun v hv => by cases hv⟩
theorem RowE.same {H' : AHeap} (hs : Same H H') {v : Value} {m : List Itm} (h : RowE C H0 H1 col H v m) : RowE C H0 H1 col H' v m := by
  obtain ⟨h1, g, cs, h2, h3⟩ := h
  exact ⟨h1.trans hs, g, cs, h2.same hs, h3⟩

theorem RowE.done (k : Nat) (h01 : Same H0 H1) (hb : Bare col H0) {v : Value} {m : List Itm} (h : RowE C H0 H1 col H v m) : ∃ col', Step [] H0 col H col' ∧ WIts C H col' k v m := by
  obtain ⟨hs, g, cs, hn, hg, hi, hp⟩ := h
  have hs := h01.trans hs
  rcases hn with ⟨h1, h2, h3⟩ | ⟨h1, h2⟩
  · have := List.length_eq_zero_iff.1 h2
    subst this h1 h3
    exact ⟨col, Step.of_same hs hb, 0, [], .inl ⟨rfl, rfl, rfl⟩, fun h => absurd rfl h, .nil, fun v hv => by cases hv⟩
  · have hg := hg (fun h => h1 (by rw [h]; rfl))
    have st : Step [] H0 col H (paint col g k) := Step.of_made hs hb (Nat.le_trans h01.grow.next hg) (h2.lt hs.wf')
    exact ⟨_, st, WIts.of h2.g (by simp [paint]) (hi.same hs) (Plain.keep st hi hp)⟩

end

end Go.Ai.Wire

namespace Go.Ai.Wire
open Go.Proofs Go.IntWalk
attribute [local irreducible] Trie.put

/-- What 'Take' gives. -/
def TakeRes (C : Ctx) (H : AHeap) (x : EndA) (bs : List UInt8) (r : Value) (H' : AHeap) : Prop :=
  Same H H' ∧ ∃ ev fv rv e, r = .tuple #[ev, fv, rv, .int .i64 e] ∧
    ((EndOK x ∧ e = 0 ∧ EndR C H' (takeF x bs).1 ev ∧ Frs C H' fv (takeF x bs).2.1 ∧ Bs C H' rv (takeF x bs).2.2) ∨ (¬ EndOK x ∧ e = 4 ∧ EndR C H' ⟨0, [], 0, []⟩ ev ∧ Frs C H' fv [] ∧ Bs C H' rv []))

theorem TakeRes.bad {C : Ctx} {H H' : AHeap} {x : EndA} {bs : List UInt8} (hs : Same H H') (h : ¬ EndOK x) : TakeRes C H x bs (.tuple #[.agg #[.int .i64 0, .slice none 0 0, .int .i64 0, .slice none 0 0], .slice none 0 0, .slice none 0 0, .int .i64 4]) H' :=
  ⟨hs, _, _, _, _, rfl, .inr ⟨h, rfl, zeroEnd C H', Frs.nil C H', Bs.nil C H'⟩⟩

end Go.Ai.Wire
