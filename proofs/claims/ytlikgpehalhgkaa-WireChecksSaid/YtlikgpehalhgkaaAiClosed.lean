/-
  Closed calls: a function without parameters, run by the evaluator from an empty memory.
-/
import Derived.Test.YtlikgpehalhgkaaAiTop
import Derived.Below
namespace Go.Ai
open Go.RowKit

/-! ### a test of two objects -/
def natOptEqb : Option Nat → Option Nat → Bool
  | none, none => true
  | some a, some b => Nat.beq a b
  | _, _ => false

theorem natOptEqb_eq {a b : Option Nat} (h : natOptEqb a b = true) : a = b := by
  cases a <;> cases b <;> simp [natOptEqb] at h <;> simp [h]

def addrEqb : Option Addr → Option Addr → Bool
  | none, none => true
  | some a, some b => Nat.beq a.block b.block && (Nat.beq a.off b.off && natOptEqb a.spot b.spot)
  | _, _ => false

theorem addrEqb_eq {a b : Option Addr} (h : addrEqb a b = true) : a = b := by
  cases a with
  | none => cases b <;> simp [addrEqb] at h; rfl
  | some a => cases b with
    | none => simp [addrEqb] at h
    | some b =>
      obtain ⟨x, y, z⟩ := a
      obtain ⟨x', y', z'⟩ := b
      simp [addrEqb] at h
      obtain ⟨rfl, rfl, h⟩ := h
      rw [natOptEqb_eq h]

theorem bytesEq_eq : ∀ {a b : List UInt8}, bytesEq a b = true → a = b
  | [], [], _ => rfl
  | [], _ :: _, h => by simp [bytesEq] at h
  | _ :: _, [], h => by simp [bytesEq] at h
  | x :: r, y :: s, h => by
    simp [bytesEq] at h
    rw [bytesEq_eq h.2, UInt8.toNat_inj.1 h.1]

def kindEqb (a b : IntKind) : Bool := decide (a = b)

def valEqb : Value → Value → Bool
  | .bool a, .bool b => a == b
  | .int k n, .int l m => kindEqb k l && decide (n = m)
  | .string s, .string t => bytesEq s.data.toList t.data.toList
  | .pointer a, .pointer b => addrEqb a b
  | .slice a n c, .slice b m d => addrEqb a b && (Nat.beq n m && Nat.beq c d)
  | .map a, .map b => natOptEqb a b
  | .nilFunc, .nilFunc => true
  | .nilIface, .nilIface => true
  | .func (.func f) a b, .func (.func g) c d => Nat.beq f g && ((a.isEmpty && b.isEmpty) && (c.isEmpty && d.isEmpty))
  | _, _ => false

theorem valEqb_eq {a b : Value} (h : valEqb a b = true) : a = b := by
  unfold valEqb at h
  split at h
  · simp at h; rw [h]
  · simp [kindEqb] at h; rw [h.1, h.2]
  · rename_i s t
    obtain ⟨⟨s⟩⟩ := s
    obtain ⟨⟨t⟩⟩ := t
    rw [show s = t from bytesEq_eq h]
  · rw [addrEqb_eq h]
  · simp at h; rw [addrEqb_eq h.1, h.2.1, h.2.2]
  · rw [natOptEqb_eq h]
  · rfl
  · rfl
  · simp at h
    obtain ⟨rfl, ⟨rfl, rfl⟩, rfl, rfl⟩ := h
    rfl
  · cases h

def listEqb {α : Type} (f : α → α → Bool) : List α → List α → Bool
  | [], [] => true
  | a :: r, b :: s => f a b && listEqb f r s
  | _, _ => false

theorem listEqb_eq {α : Type} {f : α → α → Bool} (hf : ∀ a b, f a b = true → a = b) : ∀ {a b : List α}, listEqb f a b = true → a = b
  | [], [], _ => rfl
  | [], _ :: _, h => by simp [listEqb] at h
  | _ :: _, [], h => by simp [listEqb] at h
  | x :: r, y :: s, h => by
    simp [listEqb] at h
    rw [hf _ _ h.1, listEqb_eq hf h.2]

def verEqb (a b : AVer) : Bool := Nat.beq a.esz b.esz && listEqb valEqb a.cells b.cells

theorem verEqb_eq (a b : AVer) (h : verEqb a b = true) : a = b := by
  obtain ⟨x, y⟩ := a
  obtain ⟨x', y'⟩ := b
  simp [verEqb] at h
  rw [h.1, listEqb_eq (fun _ _ => valEqb_eq) h.2]

def objEqb : AObj → AObj → Bool
  | .raw, .raw => true
  | .cells a, .cells b => listEqb verEqb a b
  | .deferred a, .deferred b => a == b
  | .map a, .map b => listEqb (fun x y => valEqb x.1 y.1 && valEqb x.2 y.2) a b
  | _, _ => false

theorem objEqb_eq (a b : AObj) (h : objEqb a b = true) : a = b := by
  unfold objEqb at h
  split at h
  · rfl
  · rw [listEqb_eq verEqb_eq h]
  · simp at h; rw [h]
  · rw [listEqb_eq (fun x y h => by
      simp at h
      exact Prod.ext (valEqb_eq h.1) (valEqb_eq h.2)) h]
  · cases h

/-! ### the functions of a program -/
def funcsFrom (P : Program) : List Nat → Trie IFunc → Trie IFunc
  | [], t => t
  | k :: r, t => match (P.funcs[k]?).bind (compFunc P) with
    | some g => funcsFrom P r (t.put k g)
    | none => funcsFrom P r t

theorem funcsFrom_ok (P : Program) : ∀ (l : List Nat) (t : Trie IFunc), (∀ k F, t.get k = some F → ∃ fn, P.funcs[k]? = some fn ∧ compFunc P fn = some F) →
    ∀ k F, (funcsFrom P l t).get k = some F → ∃ fn, P.funcs[k]? = some fn ∧ compFunc P fn = some F
  | [], t, h => h
  | i :: r, t, h => by
    intro k F
    rw [funcsFrom]
    split
    · rename_i g hg
      refine funcsFrom_ok P r _ (fun k F hk => ?_) k F
      rw [Trie.get_put] at hk
      split at hk
      · rename_i he
        cases hk
        subst he
        simpa [Option.bind_eq_some_iff] using hg
      · exact h k F hk
    · exact funcsFrom_ok P r t h k F

/-- The context of a closed call. -/
def ctxOf (P : Program) (n : Nat) (known : FuncId → List Value → Option Value) (w : World) : Ctx := { funcs := funcsFrom P (List.range n) .leaf, w0 := w, known, eqb := objEqb }

theorem ctxOf_funcs (P : Program) (n : Nat) (known : FuncId → List Value → Option Value) (w : World) : FuncsOK P (ctxOf P n known w) := funcsFrom_ok P _ .leaf (by simp)

def isTrue : Option (Value × AHeap) → Bool
  | some (.bool b, _) => b
  | _ => false

def emptyHeap : AHeap := { base := 0, t := .leaf, cnt := 0 }

section
variable {P : Program} {C : Ctx} {φ : Phi} {M : Nat → Option AObj} {w w' : World}

/-- The relation abides where nothing old has turned. -/
theorem R.below (h : R P C φ M w) (hb : Below w.heap.size w w') : R P C φ M w' := by
  have hbl : ∀ g k l, φ g k = some l → w'.heap[l.cb]? = w.heap[l.cb]? := fun g k l hl => hb.block _ (h.bound g k l hl)
  refine ⟨hb.os.trans h.os, hb.tape.trans h.tape, hb.output.trans h.output, Nat.le_trans h.size hb.size, fun g o hM => ?_, h.inj, fun g k l hl => Nat.lt_of_lt_of_le (h.bound g k l hl) hb.size, h.dom⟩
  exact (h.obj g o hM).frame (Phi.le_refl φ) (fun _ => rfl) fun k l hl => hbl g k l hl

/-- A closed call that is known. -/
theorem known_of {k : FuncId} {v : Value} (hc : ∀ w : World, CallsIn Fence.wide 0 P k #[] w (retPost fun v' w' => v' = v ∧ Below w.heap.size w w')) (hcf : ∀ w, (callFunc k #[]).run P w = .ok (.enter k #[]) w) (hv : cleanS 0 v = true) {φ : Phi} {M : Nat → Option AObj} {w : World} (hR : R P C φ M w) :
    (callFunc k #[]).run P w = .ok (.enter k #[]) w ∧ CallsIn Fence.wide 0 P k #[] w (retPost fun v' w' => ∃ φ', φ.le φ' ∧ VRel φ' v v' ∧ R P C φ' M w') := by
  refine ⟨hcf w, (hc w).mono fun e w' he => ?_⟩
  cases e with
  | panicked _ => exact he
  | outgrown => exact he
  | returned v' =>
    obtain ⟨rfl, hb⟩ := he
    exact ⟨φ, Phi.le_refl φ, cleanS_rel (old_zero φ) hv, hR.below hb⟩

/-- **A CLOSED CALL.** -/
theorem closed_true (hmo : P.follows .mixedOrders = true) {n m : Nat} {k : FuncId} {known : FuncId → List Value → Option Value} (w : World) (hknown : KnownOK P (ctxOf P n known w))
    (h : isTrue (run (ctxOf P n known w) m k [] emptyHeap) = true) :
    (callFunc k #[]).run P w = .ok (.enter k #[]) w ∧ CallsIn Fence.wide 0 P k #[] w (retPost fun v w' => v = .bool true ∧ Below w.heap.size w w') := by
  obtain ⟨H', hrun⟩ : ∃ H', run (ctxOf P n known w) m k [] emptyHeap = some (.bool true, H') := by
    unfold isTrue at h
    split at h
    · rename_i b H' hr
      subst h
      exact ⟨H', hr⟩
    · cases h
  have hs := (all_sound (C := ctxOf P n known w) objEqb_eq hmo (ctxOf_funcs P n known w) hknown m).1 _ _ _ _ _ hrun (fun i _ => Trie.get_leaf i)
  let M0 : Nat → Option AObj := fun b => if b < H'.next then none else (w.heap[b - H'.next]?).map .exact
  let φ0 : Phi := fun g k => if k = 0 ∧ H'.next ≤ g ∧ g - H'.next < w.heap.size then some (idLoc (g - H'.next)) else none
  have hφ : ∀ g k l, φ0 g k = some l → k = 0 ∧ H'.next ≤ g ∧ g - H'.next < w.heap.size ∧ l = idLoc (g - H'.next) := by
    intro g k l hl
    simp only [φ0] at hl
    split at hl
    · rename_i hc
      cases hl
      exact ⟨hc.1, hc.2.1, hc.2.2, rfl⟩
    · cases hl
  have hR : R P (ctxOf P n known w) φ0 M0 w := by
    refine ⟨rfl, rfl, rfl, Nat.le_refl _, fun g o hM => ?_, fun g g' o o' k k' l l' hM hM' hl hl' hcb => ?_, fun g k l hl => ?_, fun g k l hl => ?_⟩
    · simp only [M0] at hM
      split at hM
      · cases hM
      · rename_i hlt
        simp only [Option.map_eq_some_iff] at hM
        obtain ⟨ob, hob, rfl⟩ := hM
        have hsz := (Array.getElem?_eq_some_iff.1 hob).1
        exact ⟨idLoc (g - H'.next), by show (if 0 = 0 ∧ H'.next ≤ g ∧ g - H'.next < w.heap.size then some (idLoc (g - H'.next)) else none) = _; rw [if_pos ⟨rfl, by omega, hsz⟩], hob⟩
    · obtain ⟨_, h2, _, rfl⟩ := hφ _ _ _ hl
      obtain ⟨_, g2, _, rfl⟩ := hφ _ _ _ hl'
      simp [idLoc] at hcb
      omega
    · obtain ⟨_, h2, h3, rfl⟩ := hφ _ _ _ hl
      exact h3
    · obtain ⟨_, h2, h3, rfl⟩ := hφ _ _ _ hl
      simp only [M0]
      rw [if_neg (by omega), Array.getElem?_eq_getElem h3]
      simp
  have hup := hs.2 φ0 M0 w (.func (.func k) #[] #[]) #[] (fun b hb => absurd hb (Nat.not_lt_zero b)) (fun b _ hb => by simp only [M0]; rw [if_pos hb]) hR (.func _ _ _ _ _ .nil .nil) .nil
  obtain ⟨h1, h2⟩ := hup
  refine ⟨by simpa using h1, ?_⟩
  rw [show (#[] ++ #[] ++ #[] : Array Value) = #[] from rfl] at h2
  refine h2.mono fun e w' he => ?_
  cases e with
  | panicked _ => exact he
  | outgrown => exact he
  | returned v =>
    obtain ⟨φ', hle, hv, hR'⟩ := he
    refine ⟨bool_inv hv, hR'.os, hR'.tape, hR'.output, hR'.size, fun b hb => ?_⟩
    have hg : over H' M0 (b + H'.next) = some (.exact w.heap[b]) := by
      unfold over
      rw [if_neg (by omega)]
      simp only [M0]
      rw [if_neg (by omega), Nat.add_sub_cancel, Array.getElem?_eq_getElem hb]
      rfl
    obtain ⟨l, q1, q2⟩ := hR'.obj _ _ hg
    have hl0 : φ0 (b + H'.next) 0 = some (idLoc b) := by
      show (if 0 = 0 ∧ H'.next ≤ b + H'.next ∧ b + H'.next - H'.next < w.heap.size then some (idLoc (b + H'.next - H'.next)) else none) = _
      rw [if_pos ⟨rfl, by omega, by omega⟩, Nat.add_sub_cancel]
    rw [hle _ _ _ hl0] at q1
    cases q1
    rw [show (idLoc b).cb = b from rfl] at q2
    rw [q2, Array.getElem?_eq_getElem hb]

theorem no_known (P : Program) (C : Ctx) (h : C.known = fun _ _ => none) : KnownOK P C := by
  intro k as v hk
  rw [h] at hk
  cases hk

theorem calls_of_ret {k : FuncId} {args : Array Value} {K : Value → World → Prop} (h : CallsIn Fence.wide 0 P k args w (retPost K)) : Calls P k args w fun e w' => ∃ v, e = .returned v ∧ K v w' :=
  (callsIn_wide.1 h).mono fun e w' he => by
    cases e with
    | panicked _ => exact he.elim
    | outgrown => exact he.elim
    | returned v => exact ⟨v, rfl, he⟩

end
end Go.Ai
