/-
  From the evaluator's fixed point to the model's call, from a memory in which all old blocks are untouched.
-/
import Derived.Test.YtlikgpehalhgkaaGreatPAiF
namespace Go.Ai
open Go.RowKit

def rawHeap (w : World) : AHeap := { base := w.heap.size, t := .leaf, cnt := 0 }

theorem rawHeap_wf (w : World) : WF (rawHeap w) := fun i _ => Trie.get_leaf i
theorem rawHeap_get {w : World} {b : Nat} (h : b < w.heap.size) : (rawHeap w).get b = some .raw := by
  unfold AHeap.get rawHeap
  rw [if_pos h]
theorem rawHeap_none {w : World} {b : Nat} (h : w.heap.size ≤ b) : (rawHeap w).get b = none := by
  unfold AHeap.get rawHeap
  dsimp only
  rw [if_neg (by omega)]
  exact Trie.get_leaf _

def rawPhi (w : World) : Phi := fun g k => if k = 0 ∧ g < w.heap.size then some (idLoc g) else none

theorem rawPhi_old (w : World) : Old (rawPhi w) w.heap.size := fun b hb => by simp [rawPhi, hb]

theorem rawR (P : Program) {C : Ctx} {w : World} (hC : C.w0 = w) : R P C (rawPhi w) (rawHeap w).get w := by
  have hφ : ∀ g k l, rawPhi w g k = some l → k = 0 ∧ g < w.heap.size ∧ l = idLoc g := by
    intro g k l h
    unfold rawPhi at h
    split at h
    · rename_i hc
      cases h
      exact ⟨hc.1, hc.2, rfl⟩
    · cases h
  subst hC
  refine ⟨rfl, rfl, rfl, Nat.le_refl _, fun g o hM => ?_, fun g g' o o' k k' l l' _ _ hl hl' hcb => ?_, fun g k l hl => ?_, fun g k l hl => ?_⟩
  · rcases Nat.lt_or_ge g C.w0.heap.size with h | h
    · rw [rawHeap_get h] at hM
      cases hM
      exact ⟨h, rawPhi_old _, rfl⟩
    · rw [rawHeap_none h] at hM
      cases hM
  · obtain ⟨_, _, rfl⟩ := hφ _ _ _ hl
    obtain ⟨_, _, rfl⟩ := hφ _ _ _ hl'
    exact hcb
  · obtain ⟨_, h, rfl⟩ := hφ _ _ _ hl
    exact h
  · obtain ⟨_, h, rfl⟩ := hφ _ _ _ hl
    rw [rawHeap_get h]
    simp

/-- **A CALL WITH OLD ARGUMENTS.** -/
theorem lift_true {P : Program} {C : Ctx} {w : World} (hC : C.w0 = w) (hE : ∀ a b, C.eqb a b = true → a = b) (hmo : P.follows .mixedOrders = true) (hfuncs : FuncsOK P C) (hknown : KnownOK P C) {k : FuncId} {args : List Value} {args' : Array Value}
    (ha : VsRel (rawPhi w) args args'.toList) (h : wpCall C (.func (.func k) #[] #[]) args (rawHeap w) fun r H' => r = .bool true) :
    Calls P k args' w fun e w' => e = .returned (.bool true) ∧ Below w.heap.size w w' := by
  unfold wpCall at h
  cases hc : (fixO C).call (.func (.func k) #[] #[]) args (rawHeap w) with
  | none => rw [hc] at h; exact h.elim
  | some r =>
    rw [hc] at h
    obtain ⟨v, H'⟩ := r
    have h : v = .bool true := h
    subst h
    have hs := fix_sound hE hmo hfuncs hknown _ _ _ _ _ hc (rawHeap_wf w)
    have hup := hs.2 (rawPhi w) (rawHeap w).get w (.func (.func k) #[] #[]) args' (fun _ _ => rfl) (fun b hb _ => rawHeap_none hb) (rawR P hC) (.func _ _ _ _ _ .nil .nil) ha
    obtain ⟨_, h2⟩ := hup
    rw [show (#[] ++ args' ++ #[] : Array Value) = args' by simp] at h2
    refine (calls_of_ret h2).mono fun e w' ⟨v, he, φ', hle, hv, hR⟩ => ?_
    refine ⟨by rw [he, bool_inv hv], ?_⟩
    subst hC
    refine ⟨hR.os, hR.tape, hR.output, hR.size, fun b hb => ?_⟩
    have hg : over H' (rawHeap C.w0).get b = some .raw := by
      have hb1 : b < H'.base := by rw [hs.1.base]; exact hb
      unfold over
      rw [if_pos (by have := base_le_next H'; omega)]
      unfold AHeap.get
      rw [if_pos hb1]
    exact (hR.obj _ _ hg).2.2

/-- Bytes that lie in an old block. -/
theorem raw_load {C : Ctx} {w : World} (hC : C.w0 = w) {b off n : Nat} {cs : Array Value} {e : TypeId} {fz : Nat × Nat} (hb : w.heap[b]? = some (.cells cs e fz)) (hl : off + n ≤ cs.size) :
    loadN C (rawHeap w).get ⟨b, off, none⟩ n = some (((cs.toList.drop off).take n).map (scrub w.heap.size)) := by
  have hlt := (Array.getElem?_eq_some_iff.1 hb).1
  unfold loadN cellsAt
  rw [show (⟨b, off, none⟩ : Addr).block = b from rfl, rawHeap_get hlt]
  simp only [hC, hb]
  simp only [Option.isNone_none, if_true]
  rw [if_pos (by simp; omega), List.map_take]

end Go.Ai
