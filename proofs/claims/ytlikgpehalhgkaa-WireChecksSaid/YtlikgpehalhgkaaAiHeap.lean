/-
  The abstract memory in proofs: what stays, what is read, what 'append' does to a row that is at its own end.
-/
import Derived.Test.YtlikgpehalhgkaaAiWp
namespace Go.Ai

theorem Grow.base_le {H H' : AHeap} (h : Grow H H') : H'.base = H.base := h.base

theorem base_le_next (H : AHeap) : H.base ≤ H.next := by unfold AHeap.next; omega
@[simp] theorem next_push (H : AHeap) (o : AObj) : (H.push o).next = H.next + 1 := rfl
@[simp] theorem next_put (H : AHeap) (b : Nat) (o : AObj) : (H.put b o).next = H.next := rfl
@[simp] theorem base_push (H : AHeap) (o : AObj) : (H.push o).base = H.base := rfl
@[simp] theorem base_put (H : AHeap) (b : Nat) (o : AObj) : (H.put b o).base = H.base := rfl

@[simp] theorem get_push_same (H : AHeap) (o : AObj) : (H.push o).get H.next = some o := by
  unfold AHeap.get AHeap.push AHeap.next
  dsimp only
  rw [if_neg (by omega), Trie.get_put, if_pos (by omega)]
theorem get_push_other {H : AHeap} (o : AObj) {b : Nat} (h : b < H.next) : (H.push o).get b = H.get b := by
  unfold AHeap.next at h
  unfold AHeap.get AHeap.push
  dsimp only
  split
  · rfl
  · rw [Trie.get_put, if_neg (by omega)]
theorem get_put_same {H : AHeap} (o : AObj) {b : Nat} (h : H.base ≤ b) : (H.put b o).get b = some o := by
  unfold AHeap.get AHeap.put
  dsimp only
  rw [if_neg (by omega), Trie.get_put, if_pos rfl]
theorem get_put_other {H : AHeap} (o : AObj) {b c : Nat} (hc : H.base ≤ c) (h : b ≠ c) : (H.put c o).get b = H.get b := by
  unfold AHeap.get AHeap.put
  dsimp only
  split
  · rfl
  · rw [Trie.get_put, if_neg (by omega)]

theorem WF.push {H : AHeap} (h : WF H) (o : AObj) : WF (H.push o) := (push_spec H o h).1.wf h
theorem base_le_of {H : AHeap} {b : Nat} {x : AObj} (h : H.get b = some x) (hx : x ≠ .raw) : H.base ≤ b := by
  unfold AHeap.get at h
  split at h
  · cases h; exact absurd rfl hx
  · omega
theorem WF.put {H : AHeap} (h : WF H) {b : Nat} {vs : List AVer} (o : AObj) (hb : H.get b = some (.cells vs)) : WF (H.put b o) := (put_spec o h hb (by simp)).1.wf h

/-- All that was there is there. -/
structure Same (H H' : AHeap) : Prop where
  wf : WF H
  grow : Grow H H'
  same : ∀ b, b < H.next → H'.get b = H.get b

/-- All that was there is there, but for one object. -/
structure Mod (g : Nat) (H H' : AHeap) : Prop where
  wf : WF H
  grow : Grow H H'
  same : ∀ b, b < H.next → b ≠ g → H'.get b = H.get b

theorem Same.wf' {H H' : AHeap} (h : Same H H') : WF H' := h.grow.wf h.wf
theorem Mod.wf' {g : Nat} {H H' : AHeap} (h : Mod g H H') : WF H' := h.grow.wf h.wf
theorem Same.refl {H : AHeap} (h : WF H) : Same H H := ⟨h, .refl _, fun _ _ => rfl⟩
theorem Same.trans {a b c : AHeap} (h : Same a b) (k : Same b c) : Same a c := ⟨h.wf, h.grow.trans k.grow, fun i hi => (k.same i (Nat.lt_of_lt_of_le hi h.grow.next)).trans (h.same i hi)⟩
theorem Same.mod {g : Nat} {H H' : AHeap} (h : Same H H') : Mod g H H' := ⟨h.wf, h.grow, fun b hb _ => h.same b hb⟩
theorem Mod.trans {g : Nat} {a b c : AHeap} (h : Mod g a b) (k : Mod g b c) : Mod g a c := ⟨h.wf, h.grow.trans k.grow, fun i hi hg => (k.same i (Nat.lt_of_lt_of_le hi h.grow.next) hg).trans (h.same i hi hg)⟩
/-- What turned is new. -/
theorem Mod.same_of {g : Nat} {H H' : AHeap} (h : Mod g H H') (hg : H.next ≤ g) : Same H H' := ⟨h.wf, h.grow, fun b hb => h.same b hb (by omega)⟩
theorem Same.then_mod {g : Nat} {a b c : AHeap} (h : Same a b) (k : Mod g b c) (hg : a.next ≤ g) : Same a c :=
  ⟨h.wf, h.grow.trans k.grow, fun i hi => (k.same i (Nat.lt_of_lt_of_le hi h.grow.next) (by omega)).trans (h.same i hi)⟩
theorem Same.push {H : AHeap} (h : WF H) (o : AObj) : Same H (H.push o) := ⟨h, (push_spec H o h).1, fun b hb => get_push_other o hb⟩
theorem Mod.put {H : AHeap} (h : WF H) {b : Nat} {vs : List AVer} (o : AObj) (hb : H.get b = some (.cells vs)) : Mod b H (H.put b o) :=
  ⟨h, (put_spec o h hb (by simp)).1, fun c _ hc => get_put_other o (base_le_of hb (by simp)) hc⟩

section
variable {C : Ctx} {H H' : AHeap}

theorem load_lt (h : WF H) {a : Addr} {n : Nat} {l : List Value} (hl : loadN C H.get a n = some l) : a.block < H.next := get_lt h (loadN_there hl)
theorem Same.load (h : Same H H') {a : Addr} {n : Nat} {l : List Value} (hl : loadN C H.get a n = some l) : loadN C H'.get a n = some l := by
  rw [loadN_congr (M := H.get) (h.same _ (load_lt h.wf hl))]
  exact hl
theorem Mod.load {g : Nat} (h : Mod g H H') {a : Addr} {n : Nat} {l : List Value} (hl : loadN C H.get a n = some l) (hg : a.block ≠ g) : loadN C H'.get a n = some l := by
  rw [loadN_congr (M := H.get) (h.same _ (load_lt h.wf hl) hg)]
  exact hl

/-- A row that is at its own end: what is appended goes behind. -/
def Buf (H : AHeap) (v : Value) (g esz n : Nat) (cs : List Value) : Prop :=
  ∃ k vs e, v = .slice (some (mkAddr g k 0)) n n ∧ H.get g = some (.cells vs) ∧ vs.length = k + 1 ∧ vs[k]? = some ⟨e, cs⟩ ∧ (e = 0 ∨ e = esz) ∧ cs.length = n * esz ∧ cs.all scalar = true

theorem ver_mkAddr (g k off : Nat) : ver (mkAddr g k off) = k := by cases k <;> rfl
theorem block_mkAddr (g k off : Nat) : (mkAddr g k off).block = g := rfl
theorem off_mkAddr (g k off : Nat) : (mkAddr g k off).off = off := rfl

theorem Buf.load {v : Value} {g esz n : Nat} {cs : List Value} (h : Buf H v g esz n cs) : ∃ a, v = .slice (some a) n n ∧ a.block = g ∧ loadN C H.get a (n * esz) = some cs := by
  obtain ⟨k, vs, e, rfl, hg, hl, hk, he, hlen, hs⟩ := h
  refine ⟨_, rfl, rfl, ?_⟩
  unfold loadN cellsAt
  rw [block_mkAddr, hg, ver_mkAddr]
  dsimp only
  rw [hk]
  dsimp only
  rw [off_mkAddr, List.drop_zero, if_pos (by omega), List.take_of_length_le (by omega)]

theorem Buf.lt (hw : WF H) {v : Value} {g esz n : Nat} {cs : List Value} (h : Buf H v g esz n cs) : g < H.next := by
  obtain ⟨k, vs, e, rfl, hg, _⟩ := h
  exact get_lt hw (by rw [hg]; simp)

theorem Buf.same (h : Same H H') {v : Value} {g esz n : Nat} {cs : List Value} (hb : Buf H v g esz n cs) : Buf H' v g esz n cs := by
  obtain ⟨k, vs, e, h1, hg, h2⟩ := hb
  exact ⟨k, vs, e, h1, by rw [h.same g (get_lt h.wf (by rw [hg]; simp))]; exact hg, h2⟩
theorem Buf.mod {g' : Nat} (h : Mod g' H H') {v : Value} {g esz n : Nat} {cs : List Value} (hb : Buf H v g esz n cs) (hne : g ≠ g') : Buf H' v g esz n cs := by
  obtain ⟨k, vs, e, h1, hg, h2⟩ := hb
  exact ⟨k, vs, e, h1, by rw [h.same g (get_lt h.wf (by rw [hg]; simp)) hne]; exact hg, h2⟩

/-- A new row. -/
theorem Buf.push (H : AHeap) {esz n e : Nat} {cs : List Value} (he : e = 0 ∨ e = esz) (hl : cs.length = n * esz) (hs : cs.all scalar = true) :
    Buf (H.push (.cells [⟨e, cs⟩])) (.slice (some ⟨H.next, 0, none⟩) n n) H.next esz n cs := ⟨0, _, e, rfl, get_push_same H _, rfl, rfl, he, hl, hs⟩

theorem roomy_of {n b : Nat} (hn : n ≤ 4611686018427387904) (h : n * b ≤ 140737488355328) : roomy n b = true := by simp [roomy, hn, h]

/-- What 'append' does to a row at its end. -/
theorem appendA_buf {s : Value} {g esz n m bytes : Nat} {cs xs : List Value} {rd : List Nat} {nid : Nat} (hw : WF H) (hb : Buf H s g esz n cs) (hx : xs.length = m * esz) (hs : xs.all scalar = true) (hr : roomy (n + m) bytes = true) :
    ∃ v put rd', appendA C H.get esz bytes s m xs rd nid = some ⟨v, put, none, rd'⟩ ∧ Buf (H.apply ⟨v, put, none, rd'⟩) v g esz (n + m) (cs ++ xs) ∧ Mod g H (H.apply ⟨v, put, none, rd'⟩) ∧ (∀ x ∈ rd', x = g ∨ x ∈ rd) ∧
      (∀ b x, put = some (b, x) → b = g) := by
  obtain ⟨k, vs, e, rfl, hg, hl, hk, he, hlen, hsc⟩ := hb
  by_cases hm : m = 0
  · subst hm
    have hxs : xs = [] := by simpa using hx
    subst hxs
    refine ⟨_, none, rd, ?_, ⟨k, vs, e, rfl, hg, hl, by simpa using hk, he, by simpa using hlen, by simpa using hsc⟩, (Same.refl hw).mod, fun x hx => .inr hx, by simp⟩
    unfold appendA
    rw [if_pos ⟨hx, hs⟩]
    simp
  · have hE : (mkAddr g k 0).off + n * esz = cs.length := by rw [off_mkAddr, hlen]; omega
    refine ⟨.slice (some (mkAddr g vs.length 0)) (n + m) (n + m), some (g, .cells ((if cs.length = cs.length ∧ cs ≠ [] then killAfter vs k else setVer vs k (cs.take cs.length)) ++ [⟨esz, cs ++ xs⟩])), g :: rd, ?_, ?_, ?_, ?_, ?_⟩
    · unfold appendA
      rw [if_pos ⟨hx, hs⟩]
      dsimp only
      rw [if_neg (by omega), if_pos hr, block_mkAddr, hg]
      dsimp only
      rw [ver_mkAddr, hk]
      dsimp only
      rw [hE, if_pos ⟨he, Nat.le_refl _, by rw [off_mkAddr, List.drop_zero, ← hlen, List.take_length]; exact hsc⟩, off_mkAddr, List.drop_zero, ← hlen, List.take_length]
    · refine ⟨vs.length, _, esz, rfl, get_put_same _ (base_le_of hg (by simp)), ?_, ?_, .inr rfl, ?_, ?_⟩
      · split <;> simp [length_killAfter, length_setVer]
      · split
        · rw [List.getElem?_append_right (by simp [length_killAfter])]; simp [length_killAfter]
        · rw [List.getElem?_append_right (by simp [length_setVer])]; simp [length_setVer]
      · rw [List.length_append, hlen, hx, Nat.add_mul]
      · rw [List.all_append, hsc, hs]; rfl
    · exact Mod.put hw _ hg
    · intro x hx; simpa using hx
    · rintro b x h; cases h; rfl

end
end Go.Ai
