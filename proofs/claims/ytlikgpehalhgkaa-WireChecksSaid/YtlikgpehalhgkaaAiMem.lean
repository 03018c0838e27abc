/-
  What the operations on memory do to the relation between the abstract memory and the world.
-/
import Derived.Test.YtlikgpehalhgkaaAiRel
import Derived.Laws.CopyRow
import Derived.Laws.Append
namespace Go.Ai

def upd (M : Nat → Option AObj) (g : Nat) (o : AObj) : Nat → Option AObj := fun b => if b = g then some o else M b

section
variable {P : Program} {C : Ctx} {φ ψ : Phi} {M : Nat → Option AObj} {w w' : World}

theorem ORel.frame {g : Nat} {o : AObj} (h : ORel P C φ w g o) (hle : φ.le ψ) (hsame : ∀ k, ψ g k = φ g k)
    (hw : ∀ k l, φ g k = some l → w'.heap[l.cb]? = w.heap[l.cb]?) : ORel P C ψ w' g o := by
  cases o with
  | raw =>
    obtain ⟨h1, h2, h3⟩ := h
    exact ⟨h1, fun b hb => hle _ _ _ (h2 b hb), (hw 0 _ (h2 g h1)).trans h3⟩
  | exact o =>
    obtain ⟨l, h1, h2⟩ := h
    exact ⟨l, hle _ _ _ h1, (hw _ _ h1).trans h2⟩
  | cells vs =>
    obtain ⟨h1, h2, h3⟩ := h
    refine ⟨fun k v hv => ?_, fun k hk => by rw [hsame]; exact h2 k hk, fun i j vi vj li lj hij hi hj hli hlj hcb => ?_⟩
    · obtain ⟨l, cc, e, ha, hb, hc, hd, he⟩ := h1 k v hv
      exact ⟨l, cc, e, hle _ _ _ ha, (hw _ _ ha).trans hb, hc, hd, fun j x hx => let ⟨x', p, q⟩ := he j x hx; ⟨x', p, q.mono hle⟩⟩
    · rw [hsame] at hli hlj
      exact h3 i j vi vj li lj hij hi hj hli hlj hcb
  | map es =>
    obtain ⟨l, es', clk, h1, h0, h2, h3, h4⟩ := h
    exact ⟨l, es', clk, hle _ _ _ h1, fun k l' hl => h0 k l' (by rw [← hsame]; exact hl), (hw _ _ h1).trans h2, h3, fun i e he => let ⟨e', p, q, r⟩ := h4 i e he; ⟨e', p, q.mono hle, r.mono hle⟩⟩
  | loop L =>
    obtain ⟨l, L', h1, h0, h2, a, b, c, d, e, f⟩ := h
    exact ⟨l, L', hle _ _ _ h1, fun k l' hl => h0 k l' (by rw [← hsame]; exact hl), (hw _ _ h1).trans h2, a, b, c, d, e.mono hle, f⟩
  | deferred b =>
    obtain ⟨l, h1, h0, h2⟩ := h
    exact ⟨l, hle _ _ _ h1, fun k l' hl => h0 k l' (by rw [← hsame]; exact hl), (hw _ _ h1).trans h2⟩

/-- One object turns, or comes anew. -/
theorem R.upd (h : R P C φ M w) {g : Nat} {o' : AObj} (hle : φ.le ψ) (hsame : ∀ g', g' ≠ g → ∀ k, ψ g' k = φ g' k)
    (hos : w'.os = w.os) (htape : w'.tape = w.tape) (hout : w'.output = w.output) (hsize : w.heap.size ≤ w'.heap.size)
    (hheap : ∀ cb, cb < w.heap.size → (∀ k l, φ g k = some l → l.cb ≠ cb) → w'.heap[cb]? = w.heap[cb]?)
    (hnew : ∀ k l, ψ g k = some l → (∃ k0 l0, φ g k0 = some l0 ∧ l0.cb = l.cb) ∨ w.heap.size ≤ l.cb)
    (hb : ∀ k l, ψ g k = some l → l.cb < w'.heap.size) (ho : ORel P C ψ w' g o') : R P C ψ (upd M g o') w' := by
  have far : ∀ g' o k l, g' ≠ g → M g' = some o → φ g' k = some l → ∀ k' l', φ g k' = some l' → l'.cb ≠ l.cb := by
    intro g' o k l hne hM hl k' l' hl' hcb
    cases hMg : M g with
    | none => exact h.dom g k' l' hl' hMg
    | some og => exact hne (h.inj g' g o og k k' l l' hM hMg hl hl' hcb.symm)
  refine ⟨hos.trans h.os, htape.trans h.tape, hout.trans h.output, Nat.le_trans h.size hsize, ?_, ?_, ?_, ?_⟩
  · intro g' o hM
    by_cases hg : g' = g
    · subst hg
      simp [Ai.upd] at hM
      subst hM
      exact ho
    · simp [Ai.upd, hg] at hM
      refine (h.obj g' o hM).frame hle (hsame g' hg) fun k l hl => ?_
      exact hheap l.cb (h.bound _ _ _ hl) fun k' l' hl' => far g' o k l hg hM hl k' l' hl'
  · intro g1 g2 o1 o2 k1 k2 l1 l2 hM1 hM2 hl1 hl2 hcb
    have cross : ∀ g' o k l k' l', g' ≠ g → M g' = some o → ψ g' k = some l → ψ g k' = some l' → l.cb ≠ l'.cb := by
      intro g' o k l k' l' hne hM hl hl' he
      rw [hsame g' hne] at hl
      rcases hnew k' l' hl' with ⟨k0, l0, h0, hc0⟩ | hge
      · exact far g' o k l hne hM hl k0 l0 h0 (by rw [hc0, he])
      · have := h.bound _ _ _ hl; omega
    by_cases e1 : g1 = g <;> by_cases e2 : g2 = g
    · rw [e1, e2]
    · subst e1
      simp [Ai.upd, e2] at hM2
      exact absurd hcb.symm (cross g2 o2 k2 l2 k1 l1 e2 hM2 hl2 hl1)
    · subst e2
      simp [Ai.upd, e1] at hM1
      exact absurd hcb (cross g1 o1 k1 l1 k2 l2 e1 hM1 hl1 hl2)
    · simp [Ai.upd, e1] at hM1
      simp [Ai.upd, e2] at hM2
      rw [hsame g1 e1] at hl1
      rw [hsame g2 e2] at hl2
      exact h.inj g1 g2 o1 o2 k1 k2 l1 l2 hM1 hM2 hl1 hl2 hcb
  · intro g' k l hl
    by_cases hg : g' = g
    · subst hg; exact hb k l hl
    · rw [hsame g' hg] at hl
      exact Nat.lt_of_lt_of_le (h.bound _ _ _ hl) hsize
  · intro g' k l hl
    by_cases hg : g' = g
    · subst hg; simp [Ai.upd]
    · rw [hsame g' hg] at hl
      simp [Ai.upd, hg]
      exact h.dom g' k l hl

theorem R.drew (h : R P C φ M w) : R P C φ M w.drew :=
  ⟨h.os, h.tape, h.output, h.size, fun g o hM => (h.obj g o hM).frame (Phi.le_refl φ) (fun _ => rfl) (fun _ _ _ => rfl), h.inj, h.bound, h.dom⟩

/-- The world matters only by its memory. -/
theorem R.of_heap (h : R P C φ M w) (hos : w'.os = w.os) (htape : w'.tape = w.tape) (hout : w'.output = w.output) (hh : w'.heap = w.heap) : R P C φ M w' :=
  ⟨hos.trans h.os, htape.trans h.tape, hout.trans h.output, by rw [hh]; exact h.size, fun g o hM => (h.obj g o hM).frame (Phi.le_refl φ) (fun _ => rfl) (fun _ _ _ => by rw [hh]),
    h.inj, fun g k l hl => by rw [hh]; exact h.bound g k l hl, h.dom⟩

theorem heap_alloc_self (w : World) (o : Obj) : (w.alloc o).heap[w.heap.size]? = some o := by
  show (w.heap.push o)[w.heap.size]? = some o
  simp
theorem heap_alloc_below (w : World) (o : Obj) {k : Nat} (h : k < w.heap.size) : (w.alloc o).heap[k]? = w.heap[k]? := by
  show (w.heap.push o)[k]? = w.heap[k]?
  rw [Array.getElem?_push, if_neg (by omega)]

/-- A new object at a free number, in a new block. -/
theorem R.new (h : R P C φ M w) {g : Nat} (hg : M g = none) {o' : AObj} (ob : Obj) (lim esz : Nat)
    (ho : φ.le (φ.set g 0 ⟨w.heap.size, 0, lim, esz⟩) → (∀ k l', φ.set g 0 ⟨w.heap.size, 0, lim, esz⟩ g k = some l' → l' = ⟨w.heap.size, 0, lim, esz⟩) → ORel P C (φ.set g 0 ⟨w.heap.size, 0, lim, esz⟩) (w.alloc ob) g o') :
    φ.le (φ.set g 0 ⟨w.heap.size, 0, lim, esz⟩) ∧ R P C (φ.set g 0 ⟨w.heap.size, 0, lim, esz⟩) (Ai.upd M g o') (w.alloc ob) := by
  have hnone : ∀ k, φ g k = none := fun k => by
    cases hk : φ g k with
    | none => rfl
    | some l => exact absurd hg (h.dom g k l hk)
  have hle : φ.le (φ.set g 0 ⟨w.heap.size, 0, lim, esz⟩) := Phi.le_set φ _ (hnone 0)
  refine ⟨hle, h.upd hle (fun g' hne k => Phi.set_other φ _ (fun e => hne e.1)) rfl rfl rfl (by simp) ?_ ?_ ?_ (ho hle fun k l' hl => by
    by_cases hk : k = 0
    · subst hk
      rw [Phi.set_self] at hl
      cases hl
      rfl
    · rw [Phi.set_other φ _ (fun e => hk e.2), hnone k] at hl
      cases hl)⟩
  · intro cb hcb _
    exact heap_alloc_below w ob hcb
  · intro k l hl
    by_cases hk : k = 0
    · subst hk
      rw [Phi.set_self] at hl
      cases hl
      exact .inr (Nat.le_refl _)
    · rw [Phi.set_other φ _ (fun e => hk e.2), hnone k] at hl
      cases hl
  · intro k l hl
    by_cases hk : k = 0
    · subst hk
      rw [Phi.set_self] at hl
      cases hl
      simp
    · rw [Phi.set_other φ _ (fun e => hk e.2), hnone k] at hl
      cases hl


/-- A new row of cells. -/
theorem R.new_cells (h : R P C φ M w) {g : Nat} (hg : M g = none) (xs : List Value) (cc : Array Value) (e : TypeId) (esz : Nat)
    (hx : ∀ (j : Nat) (x : Value), xs[j]? = some x → ∃ x', cc[j]? = some x' ∧ VRel φ x x') :
    φ.le (φ.set g 0 ⟨w.heap.size, 0, cc.size, esz⟩) ∧ R P C (φ.set g 0 ⟨w.heap.size, 0, cc.size, esz⟩) (Ai.upd M g (.cells [⟨esz, xs⟩])) (w.alloc (.cells cc e)) := by
  refine h.new hg _ cc.size esz fun hle _ => ⟨fun k v hv => ?_, fun k hk => ?_, fun i j vi vj li lj hij hi hj => ?_⟩
  · cases k with
    | succ k => simp at hv
    | zero =>
      simp at hv
      subst hv
      refine ⟨_, cc, e, Phi.set_self φ _ _ _, heap_alloc_self w _, rfl, rfl, fun j x hj => ?_⟩
      obtain ⟨x', p, q⟩ := hx j x hj
      exact ⟨x', by simpa using p, q.mono hle⟩
  · simp at hk
    rw [Phi.set_other φ _ (fun e => by omega)]
    cases hk' : φ g k with
    | none => rfl
    | some l => exact absurd hg (h.dom g k l hk')
  · have h1 : i < 1 := by simpa using (List.getElem?_eq_some_iff.1 hi).1
    have h2 : j < 1 := by simpa using (List.getElem?_eq_some_iff.1 hj).1
    omega

/-! ### reading -/
theorem addr_add (b o i : Nat) : (⟨b, o, none⟩ : Addr).add i = ⟨b, o + i, none⟩ := by unfold Addr.add; split <;> simp_all

theorem cell_at {b o : Nat} {cc : Array Value} {e : TypeId} {f : Nat × Nat} (h : w.heap[b]? = some (.cells cc e f)) : w.cell? ⟨b, o, none⟩ = cc[o]? := by simp [World.cell?, h]

theorem cellsAt_rel (h : R P C φ M w) {a a' : Addr} (ha : ARel φ a a') {l : List Value} (hl : cellsAt C M a = some l) :
    ∀ (j : Nat) (x : Value), l[j]? = some x → ∃ x', w.cell? (a'.add j) = some x' ∧ VRel φ x x' := by
  intro j x hx
  obtain ⟨loc, h1, rfl⟩ := ha
  rw [addr_add]
  unfold cellsAt at hl
  split at hl
  · rename_i hM
    obtain ⟨hlt, hold, hheap⟩ := h.obj _ _ hM
    split at hl
    · rename_i c e f hc
      split at hl
      · rename_i hs
        cases hl
        have hv : ver a = 0 := by unfold ver; cases hsp : a.spot <;> simp_all
        rw [hv, hold _ hlt] at h1
        cases h1
        rw [List.getElem?_map, List.getElem?_drop] at hx
        rw [show (idLoc a.block).cb = a.block from rfl, cell_at (hheap.trans hc)]
        cases hcj : c.toList[a.off + j]? with
        | none => rw [hcj] at hx; cases hx
        | some y =>
          rw [hcj] at hx
          cases hx
          exact ⟨y, by simpa [idLoc] using hcj, scrub_rel hold y⟩
      · cases hl
    · cases hl
  · rename_i vs hM
    obtain ⟨h2, _, _⟩ := h.obj _ _ hM
    split at hl
    · rename_i v hv
      cases hl
      obtain ⟨loc', cc, e, ha, hb, hc, hd, he⟩ := h2 _ v hv
      rw [h1] at ha
      cases ha
      rw [List.getElem?_drop] at hx
      obtain ⟨x', p, q⟩ := he _ x hx
      refine ⟨x', ?_, q⟩
      rw [cell_at hb, ← p]
      congr 1
      omega
    · cases hl
  · cases hl

theorem loadN_rel (h : R P C φ M w) {a a' : Addr} (ha : ARel φ a a') {n : Nat} {xs : List Value} (hl : loadN C M a n = some xs) :
    xs.length = n ∧ ∃ xs', (∀ (j : Nat) (v : Value), xs'[j]? = some v → w.cell? (a'.add j) = some v) ∧ xs'.length = n ∧ VsRel φ xs xs' ∧ (loadCells a' n).run P w = .ok xs'.toArray w := by
  unfold loadN at hl
  split at hl
  · rename_i l hc
    split at hl
    · rename_i hn
      cases hl
      have hlen : (l.take n).length = n := by simp; omega
      have key : ∀ j, j < n → ∃ x', w.cell? (a'.add j) = some x' ∧ ∀ x, l[j]? = some x → VRel φ x x' := by
        intro j hj
        have hj' : j < l.length := by omega
        obtain ⟨x', p, q⟩ := cellsAt_rel h ha hc j l[j] (List.getElem?_eq_getElem hj')
        exact ⟨x', p, fun x hx => by rw [List.getElem?_eq_getElem hj'] at hx; cases hx; exact q⟩
      have ys : ∃ ys : List Value, ys.length = n ∧ ∀ j, j < n → w.cell? (a'.add j) = some (ys.getD j undef) ∧ ∀ x, l[j]? = some x → VRel φ x (ys.getD j undef) := by
        refine ⟨(List.range n).map fun j => (w.cell? (a'.add j)).getD undef, by simp, fun j hj => ?_⟩
        obtain ⟨x', p, q⟩ := key j hj
        have e : ((List.range n).map fun j => (w.cell? (a'.add j)).getD undef).getD j undef = x' := by
          simp [List.getD, hj, p]
        rw [e]
        exact ⟨p, q⟩
      obtain ⟨ys, hy, hys⟩ := ys
      have hcell : ∀ (j : Nat) (v : Value), ys[j]? = some v → w.cell? (a'.add j) = some v := by
        intro j v hv
        have hj : j < n := by rw [← hy]; exact (List.getElem?_eq_some_iff.1 hv).1
        have := (hys j hj).1
        rw [this]
        simp [List.getD, hv]
      refine ⟨hlen, ys, hcell, hy, VsRel.of_get (by rw [hlen, hy]) fun i v hi => ?_, ?_⟩
      · have hi' : i < n := by rw [← hlen]; exact (List.getElem?_eq_some_iff.1 hi).1
        rw [List.getElem?_take, if_pos hi'] at hi
        refine ⟨ys.getD i undef, ?_, (hys i hi').2 v hi⟩
        have : i < ys.length := by omega
        simp [List.getD, List.getElem?_eq_getElem this]
      · have := run_loadCells_list (P := P) w a' ys hcell
        rwa [hy] at this
    · cases hl
  · cases hl

/-! ### writing -/
theorem getElem?_setVer (vs : List AVer) (k : Nat) (c : List Value) (i : Nat) :
    (setVer vs k c)[i]? = (vs[i]?).map fun v => if i = k then { v with cells := c } else v.dead := by
  induction vs generalizing k i with
  | nil => simp [setVer]
  | cons v r ih =>
    cases k with
    | zero => cases i <;> simp [setVer]
    | succ k => cases i <;> simp [setVer, ih]

theorem length_setVer (vs : List AVer) (k : Nat) (c : List Value) : (setVer vs k c).length = vs.length := by
  induction vs generalizing k with
  | nil => simp [setVer]
  | cons v r ih => cases k <;> simp [setVer, ih]

theorem getElem?_killAfter (vs : List AVer) (k : Nat) (i : Nat) : (killAfter vs k)[i]? = (vs[i]?).map fun v => if i ≤ k then v else v.dead := by
  induction vs generalizing k i with
  | nil => simp [killAfter]
  | cons v r ih =>
    cases k with
    | zero => cases i <;> simp [killAfter]
    | succ k => cases i <;> simp [killAfter, ih]

theorem length_killAfter (vs : List AVer) (k : Nat) : (killAfter vs k).length = vs.length := by
  induction vs generalizing k with
  | nil => simp [killAfter]
  | cons v r ih => cases k <;> simp [killAfter, ih]

theorem setRow_at (w : World) {g : Nat} {cc : Array Value} {e : TypeId} {f : Nat × Nat} (h : w.heap[g]? = some (.cells cc e f)) (new : Array Value) :
    (w.setRow g new).heap[g]? = some (.cells new e f) := by
  simp [World.setRow, Array.getElem?_modify, h]
theorem setRow_ne (w : World) {g k : Nat} (new : Array Value) (h : k ≠ g) : (w.setRow g new).heap[k]? = w.heap[k]? := by
  simp [World.setRow, Array.getElem?_modify, Ne.symm h]
@[simp] theorem size_setRow (w : World) (g : Nat) (new : Array Value) : (w.setRow g new).heap.size = w.heap.size := by simp [World.setRow]

theorem seg_get (l vs : List Value) (o j : Nat) (h : o + vs.length ≤ l.length) :
    (l.take o ++ vs ++ l.drop (o + vs.length))[j]? = if o ≤ j ∧ j < o + vs.length then vs[j - o]? else l[j]? := by
  have ht : (l.take o).length = o := by simp; omega
  by_cases h1 : j < o
  · rw [List.append_assoc, List.getElem?_append_left (by omega), List.getElem?_take, if_pos h1, if_neg (by omega)]
  · by_cases h2 : j < o + vs.length
    · rw [List.append_assoc, List.getElem?_append_right (by omega), List.getElem?_append_left (by omega), if_pos ⟨by omega, h2⟩, ht]
    · rw [List.getElem?_append_right (by simp; omega), List.getElem?_drop, if_neg (by omega)]
      congr 1
      simp
      omega

theorem seg_get' (l vs : List Value) (o j : Nat) (h : o + vs.length ≤ l.length) :
    (l.take o ++ (vs ++ l.drop (o + vs.length)))[j]? = if o ≤ j ∧ j < o + vs.length then vs[j - o]? else l[j]? := by
  rw [← List.append_assoc]; exact seg_get l vs o j h

/-- The new row stands to the new cells. -/
theorem seg_rel {cs xs xs' : List Value} {cc : Array Value} {o sh : Nat} (hx : VsRel φ xs xs') (h0 : xs.length ≠ 0) (ho : o + xs.length ≤ cs.length)
    (hc : ∀ (j : Nat) (x : Value), cs[j]? = some x → ∃ x', cc[j + sh]? = some x' ∧ VRel φ x x') :
    o + sh + xs'.length ≤ cc.size ∧
    ∀ (j : Nat) (x : Value), (cs.take o ++ (xs ++ cs.drop (o + xs.length)))[j]? = some x →
      ∃ x', (cc.toList.take (o + sh) ++ xs' ++ cc.toList.drop (o + sh + xs'.length)).toArray[j + sh]? = some x' ∧ VRel φ x x' := by
  have hlen := hx.length
  have hsz : o + sh + xs'.length ≤ cc.size := by
    have hj : o + xs.length - 1 < cs.length := by omega
    obtain ⟨x', p, _⟩ := hc _ _ (List.getElem?_eq_getElem hj)
    have := (Array.getElem?_eq_some_iff.1 p).1
    omega
  refine ⟨hsz, fun j x hj => ?_⟩
  rw [seg_get' cs xs o j ho] at hj
  have hg := seg_get cc.toList xs' (o + sh) (j + sh) (by simpa using hsz)
  rw [List.getElem?_toArray, hg]
  by_cases hin : o ≤ j ∧ j < o + xs.length
  · rw [if_pos hin] at hj
    rw [if_pos (by omega)]
    obtain ⟨x', p, q⟩ := hx.get hj
    refine ⟨x', ?_, q⟩
    rw [← p]
    congr 1
    omega
  · rw [if_neg hin] at hj
    rw [if_neg (by omega)]
    obtain ⟨x', p, q⟩ := hc j x hj
    exact ⟨x', by simpa using p, q⟩

theorem seg_size {cc : Array Value} {xs' : List Value} {o : Nat} (h : o + xs'.length ≤ cc.size) :
    (cc.toList.take o ++ xs' ++ cc.toList.drop (o + xs'.length)).toArray.size = cc.size := by
  simp; omega

theorem dead_cells {v : AVer} {j : Nat} {x : Value} (h : v.dead.cells[j]? = some x) : False := by simp [AVer.dead] at h

/-- Cells are stored. -/
theorem storeN_rel (h : R P C φ M w) {a a' : Addr} (ha : ARel φ a a') {xs xs' : List Value} (hx : VsRel φ xs xs') {o' : AObj} (ho : storeN M a xs = some o') :
    ∃ w', (storeCells a' xs').run P w = .ok () w' ∧ R P C φ (Ai.upd M a.block o') w' := by
  unfold storeN at ho
  split at ho
  · rename_i vs hM
    split at ho
    · rename_i v hv
      split at ho
      · rename_i hcond
        obtain ⟨h0, hle, hsc⟩ := hcond
        cases ho
        obtain ⟨hvers, hdom, hends⟩ := h.obj _ _ hM
        obtain ⟨loc, cc, e, h1, h2, h3, h4, h5⟩ := hvers _ v hv
        obtain ⟨loc', h1', rfl⟩ := ha
        rw [h1] at h1'
        cases h1'
        obtain ⟨hsz, hseg⟩ := seg_rel hx h0 hle h5
        refine ⟨_, run_storeCells_at P loc.cb (a.off + loc.sh) e xs' 0 cc w h2 (by simpa using hsz) (scalars_rel hx hsc), ?_⟩
        simp only [Nat.add_zero]
        have hnew := setRow_at w h2 (cc.toList.take (a.off + loc.sh) ++ xs' ++ cc.toList.drop (a.off + loc.sh + xs'.length)).toArray
        refine h.upd (Phi.le_refl φ) (fun _ _ _ => rfl) rfl rfl rfl (by simp) ?_ (fun k l hl => .inl ⟨k, l, hl, rfl⟩) ?_ ⟨fun k u hu => ?_, fun k hk => ?_, fun i j vi vj li lj hij hi hj hli hlj hcb => ?_⟩
        · intro cb _ hcb
          exact setRow_ne w _ (fun e => hcb _ loc h1 e.symm)
        · intro k l hl
          rw [size_setRow]
          exact h.bound _ _ _ hl
        · rw [getElem?_setVer] at hu
          cases hvk : vs[k]? with
          | none => rw [hvk] at hu; cases hu
          | some vk =>
            rw [hvk] at hu
            simp only [Option.map_some, Option.some.injEq] at hu
            by_cases hk : k = ver a
            · subst hk
              rw [if_pos rfl] at hu
              subst hu
              rw [hv] at hvk
              cases hvk
              exact ⟨loc, _, e, h1, hnew, by rw [seg_size hsz, h3], h4, hseg⟩
            · rw [if_neg hk] at hu
              subst hu
              obtain ⟨l2, c2, e2, g1, g2, g3, g4, _⟩ := hvers k vk hvk
              by_cases hcb : l2.cb = loc.cb
              · refine ⟨l2, _, e, g1, by rw [hcb]; exact hnew, ?_, g4, fun j x hj => (dead_cells hj).elim⟩
                rw [seg_size hsz]
                rw [hcb, h2] at g2
                simp only [Option.some.injEq, Obj.cells.injEq] at g2
                rw [g2.1, g3]
              · exact ⟨l2, c2, e2, g1, by rw [setRow_ne w _ hcb]; exact g2, g3, g4, fun j x hj => (dead_cells hj).elim⟩
        · rw [length_setVer] at hk
          exact hdom k hk
        · rw [getElem?_setVer] at hi hj
          cases hvi : vs[i]? with
          | none => rw [hvi] at hi; cases hi
          | some a1 =>
            cases hvj : vs[j]? with
            | none => rw [hvj] at hj; cases hj
            | some a2 =>
              rw [hvi] at hi
              rw [hvj] at hj
              simp only [Option.map_some, Option.some.injEq] at hi hj
              by_cases hik : i = ver a
              · rw [if_neg (by omega)] at hj
                subst hj
                exact .inr (.inl rfl)
              · rw [if_neg hik] at hi
                subst hi
                exact .inl rfl
      · cases ho
    · cases ho
  · cases ho
end
end Go.Ai
