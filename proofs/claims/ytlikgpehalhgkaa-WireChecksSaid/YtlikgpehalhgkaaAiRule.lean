/-
  Rules for the operations that make or turn objects: the memory behind them is a new name, with what is known of it.
-/
import Derived.Test.YtlikgpehalhgkaaAiHeap
namespace Go.Ai

section
variable {C : Ctx} {H : AHeap} {T : Env} {d : Option Nat} {r : List IOper} {K : Env → AHeap → Prop}

/-! ### loads of an object of one version -/
def objLoad : Option AObj → Nat → Nat → Option (List Value)
  | some (.cells (v :: _)), off, n => if n ≤ (v.cells.drop off).length then some ((v.cells.drop off).take n) else none
  | _, _, _ => none

@[simp] theorem objLoad_cells (e : Nat) (cs : List Value) (vs : List AVer) (off n : Nat) : objLoad (some (.cells (⟨e, cs⟩ :: vs))) off n = if n ≤ (cs.drop off).length then some ((cs.drop off).take n) else none := rfl

theorem loadN_obj {M : Nat → Option AObj} {p off n : Nat} {v : AVer} {vs : List AVer} (h : M p = some (.cells (v :: vs))) : loadN C M ⟨p, off, none⟩ n = objLoad (M p) off n := by
  unfold loadN cellsAt
  simp only [h, ver]
  rfl

@[simp] theorem aadd_mk (p off n : Nat) (sp : Option Nat) : aadd ⟨p, off, sp⟩ n = ⟨p, off + n, sp⟩ := rfl
@[simp] theorem aadd_aadd (a : Addr) (m n : Nat) : aadd (aadd a m) n = aadd a (m + n) := by simp [aadd, Nat.add_assoc]
@[simp] theorem aadd_zero (a : Addr) : aadd a 0 = a := rfl

/-- A one-version object. -/
def Obj1 (H : AHeap) (p : Nat) (cs : List Value) : Prop := ∃ e, H.get p = some (.cells [⟨e, cs⟩])

theorem Obj1.lt (hw : WF H) {p : Nat} {cs : List Value} (h : Obj1 H p cs) : p < H.next := by obtain ⟨e, h⟩ := h; exact get_lt hw (by rw [h]; simp)
theorem Obj1.same {H' : AHeap} (hs : Same H H') {p : Nat} {cs : List Value} (h : Obj1 H p cs) : Obj1 H' p cs := by
  obtain ⟨e, h⟩ := h
  exact ⟨e, by rw [hs.same p (get_lt hs.wf (by rw [h]; simp))]; exact h⟩
theorem Obj1.mod {g : Nat} {H' : AHeap} (hs : Mod g H H') {p : Nat} {cs : List Value} (h : Obj1 H p cs) (hne : p ≠ g) : Obj1 H' p cs := by
  obtain ⟨e, h⟩ := h
  exact ⟨e, by rw [hs.same p (get_lt hs.wf (by rw [h]; simp)) hne]; exact h⟩
theorem Obj1.load {p off n : Nat} {cs : List Value} (h : Obj1 H p cs) : loadN C H.get ⟨p, off, none⟩ n = if n ≤ (cs.drop off).length then some ((cs.drop off).take n) else none := by
  obtain ⟨e, h⟩ := h
  rw [loadN_obj h, h]
  rfl

/-- What a rule for a new object tells. -/
structure Made (H H' : AHeap) (p : Nat) (cs : List Value) : Prop where
  same : Same H H'
  new : p = H.next
  next : H'.next = p + 1
  obj : Obj1 H' p cs

theorem Made.push (hw : WF H) (e : Nat) (cs : List Value) : Made H (H.push (.cells [⟨e, cs⟩])) H.next cs := ⟨.push hw _, rfl, rfl, e, get_push_same H _⟩

theorem w_box {n : Nat} {x : IOpd} {cs : List Value} (hw : WF H) (hx : vcells (x.val T.val) = some cs) (hn : cs.length = n) (hs : cs.all scalar = true)
    (hk : ∀ p H', Made H H' p cs → wpO C r K (putDst T d (.pointer (some ⟨p, 0, none⟩))) H') : wpO C (⟨d, .box n x, none⟩ :: r) K T H := by
  rw [wpO_box]
  have : evalOp C H.get T.val H.next (.box n x) = some { v := .pointer (some ⟨H.next, 0, none⟩), new := some (.cells [⟨0, cs⟩]) } := by
    simp only [evalOp, hx]
    rw [if_pos ⟨hn, hs⟩]
  rw [this]
  exact hk _ _ (Made.push hw 0 cs)

theorem w_mk {cs : List Value} (hw : WF H) (hk : ∀ p H', Made H H' p cs → wpO C r K (putDst T d (.pointer (some ⟨p, 0, none⟩))) H') : wpO C (⟨d, .mk cs, none⟩ :: r) K T H := by
  rw [wpO_mk]
  exact hk _ _ (Made.push hw 0 cs)

theorem w_bs {len esz : Nat} {z cs : List Value} {ps : List (Nat × Nat × IOpd)} (hw : WF H) (hx : fillA T.val z ps = some cs) (hl : cs.length = len * esz) (hs : cs.all scalar = true)
    (hk : ∀ p H', Made H H' p cs → Buf H' (.slice (some ⟨p, 0, none⟩) len len) p esz len cs → wpO C r K (putDst T d (.slice (some ⟨p, 0, none⟩) len len)) H') : wpO C (⟨d, .buildSlice len z ps, none⟩ :: r) K T H := by
  rw [wpO_buildSlice]
  have : evalOp C H.get T.val H.next (.buildSlice len z ps) = some { v := .slice (some ⟨H.next, 0, none⟩) len len, new := some (.cells [⟨0, cs⟩]) } := by
    simp only [evalOp, hx]
    rw [if_pos hs]
  rw [this]
  exact hk _ _ (Made.push hw 0 cs) (Buf.push H (.inl rfl) hl hs)

/-- A store into an object of one version. -/
theorem storeN_obj {p off e : Nat} {cs xs : List Value} (h : H.get p = some (.cells [⟨e, cs⟩])) (hx : xs.length ≠ 0) (hl : off + xs.length ≤ cs.length) (hs : xs.all scalar = true) :
    storeN H.get ⟨p, off, none⟩ xs = some (.cells [⟨e, cs.take off ++ (xs ++ cs.drop (off + xs.length))⟩]) := by
  unfold storeN
  simp only [h, ver]
  simp only [List.getElem?_cons_zero]
  rw [if_pos ⟨hx, hl, hs⟩]
  rfl

theorem w_store {n p off : Nat} {a x : IOpd} {cs xs : List Value} (hw : WF H) (ho : Obj1 H p cs) (ha : a.val T.val = .pointer (some ⟨p, off, none⟩)) (hx : vcells (x.val T.val) = some xs) (hn : xs.length = n) (h0 : n ≠ 0) (hl : off + n ≤ cs.length)
    (hs : xs.all scalar = true) (hk : ∀ H', Mod p H H' → H'.next = H.next → Obj1 H' p (cs.take off ++ (xs ++ cs.drop (off + n))) → wpO C r K (putDst T d undef) H') : wpO C (⟨d, .store n a x, none⟩ :: r) K T H := by
  rw [wpO_store]
  obtain ⟨e, ho⟩ := ho
  subst hn
  have : evalOp C H.get T.val H.next (.store xs.length a x) = some { v := undef, put := some (p, .cells [⟨e, cs.take off ++ (xs ++ cs.drop (off + xs.length))⟩]), rd := [p] } := by
    simp only [evalOp, ha, hx, asCell_ptr]
    rw [if_pos trivial, storeN_obj ho h0 hl hs]
  rw [this]
  exact hk _ (Mod.put hw _ ho) rfl ⟨e, get_put_same _ (base_le_of ho (by simp))⟩

/-- A row that is read. -/
def Row (C : Ctx) (H : AHeap) (v : Value) (esz m : Nat) (xs : List Value) : Prop :=
  xs.length = m * esz ∧ ∃ a c, v = .slice a m c ∧ (a = none → m = 0 ∧ c = 0) ∧ ∀ b, a = some b → m ≠ 0 → loadN C H.get b (m * esz) = some xs

theorem Row.same {H' : AHeap} (hs : Same H H') {v : Value} {esz m : Nat} {xs : List Value} (h : Row C H v esz m xs) : Row C H' v esz m xs := by
  obtain ⟨h1, a, c, h2, h3, h4⟩ := h
  exact ⟨h1, a, c, h2, h3, fun b hb hm => hs.load (h4 b hb hm)⟩
/-- The object behind a row, if there is one, is another one. -/
def Off (g : Nat) (v : Value) : Prop := ∀ a n c, v = .slice (some a) n c → n ≠ 0 → a.block ≠ g
theorem Row.mod {g : Nat} {H' : AHeap} (hs : Mod g H H') {v : Value} {esz m : Nat} {xs : List Value} (h : Row C H v esz m xs) (hg : Off g v) : Row C H' v esz m xs := by
  obtain ⟨h1, a, c, rfl, h3, h4⟩ := h
  exact ⟨h1, a, c, rfl, h3, fun b hb hm => hs.load (h4 b hb hm) (by subst hb; exact hg b m c rfl hm)⟩
theorem Row.off (hw : WF H) {v : Value} {esz m : Nat} {xs : List Value} (h : Row C H v esz m xs) {g : Nat} (hg : H.next ≤ g) : Off g v := by
  obtain ⟨h1, a, c, rfl, h3, h4⟩ := h
  intro b n c' he hn
  cases he
  have := load_lt hw (h4 b rfl hn)
  omega
theorem Buf.row {v : Value} {g esz n : Nat} {cs : List Value} (h : Buf H v g esz n cs) : Row C H v esz n cs := by
  have hl : cs.length = n * esz := by obtain ⟨_, _, _, _, _, _, _, _, h, _⟩ := h; exact h
  obtain ⟨a, rfl, _, h1⟩ := h.load (C := C)
  exact ⟨hl, some a, n, rfl, by simp, fun b hb _ => by cases hb; exact h1⟩
theorem Buf.off {v : Value} {g g' esz n : Nat} {cs : List Value} (h : Buf H v g esz n cs) (hne : g ≠ g') : Off g' v := by
  obtain ⟨k, vs, e, rfl, _⟩ := h
  intro b n c he hn
  cases he
  exact hne

theorem Row.src {v : Value} {esz m : Nat} {xs : List Value} (h : Row C H v esz m xs) : ∃ rd, srcCells C H.get esz m v = some (xs, rd) ∧ lenA v = some m ∧ ∀ g, Off g v → ∀ x ∈ rd, x ≠ g := by
  obtain ⟨h1, a, c, rfl, h3, h4⟩ := h
  by_cases hm : m = 0
  · subst hm
    have : xs = [] := by simpa using h1
    subst this
    refine ⟨[], ?_, rfl, by simp⟩
    cases a <;> simp [srcCells]
  · cases a with
    | none => exact absurd (h3 rfl).1 hm
    | some b =>
      refine ⟨[b.block], ?_, rfl, fun g hg x hx => ?_⟩
      · simp [srcCells, hm, h4 b rfl hm]
      · simp at hx
        subst hx
        exact hg b m c rfl hm

theorem w_app {esz bytes g n m : Nat} {s x : IOpd} {cs xs : List Value} (hw : WF H) (hb : Buf H (s.val T.val) g esz n cs) (hx : Row C H (x.val T.val) esz m xs) (hs : xs.all scalar = true) (hr : roomy (n + m) bytes = true)
    (hk : ∀ v H', Mod g H H' → Buf H' v g esz (n + m) (cs ++ xs) → wpO C r K (putDst T d v) H') : wpO C (⟨d, .append esz bytes s x, none⟩ :: r) K T H := by
  rw [wpO_append]
  obtain ⟨rd, h1, h2, _⟩ := hx.src
  obtain ⟨v, put, rd', h3, h4, h5, _, _⟩ := appendA_buf (C := C) (bytes := bytes) (rd := rd) (nid := H.next) hw hb hx.1 hs hr
  have : evalOp C H.get T.val H.next (.append esz bytes s x) = some ⟨v, put, none, rd'⟩ := by
    simp only [evalOp, h2, h1]
    exact h3
  rw [this]
  exact hk v _ h5 h4

/-- 'append' to the nil slice. -/
theorem w_app0 {esz bytes m : Nat} {s x : IOpd} {xs : List Value} (hw : WF H) (hs0 : s.val T.val = .slice none 0 0) (hx : Row C H (x.val T.val) esz m xs) (hm : m ≠ 0) (hs : xs.all scalar = true) (hr : roomy m bytes = true)
    (hk : ∀ v H', Same H H' → Buf H' v H.next esz m xs → wpO C r K (putDst T d v) H') : wpO C (⟨d, .append esz bytes s x, none⟩ :: r) K T H := by
  rw [wpO_append]
  obtain ⟨rd, h1, h2, _⟩ := hx.src
  have : evalOp C H.get T.val H.next (.append esz bytes s x) = some ⟨.slice (some ⟨H.next, 0, none⟩) m m, none, some (.cells [⟨esz, xs⟩]), rd⟩ := by
    simp only [evalOp, h2, h1, hs0]
    unfold appendA
    rw [if_pos ⟨hx.1, hs⟩]
    simp [hm, hr]
  rw [this]
  exact hk _ _ (Same.push hw _) (Buf.push H (.inr rfl) hx.1 hs)

theorem w_call {f : IOpd} {as : List IOpd} {Φ : Value → AHeap → Prop} (hs : wpCall C (f.val T.val) (as.map (·.val T.val)) H Φ) (hk : ∀ v H', Φ v H' → wpO C r K (putDst T d v) H') : wpO C (⟨d, .call f as, none⟩ :: r) K T H := by
  rw [wpO_call]
  exact wpCall_mono hs hk

theorem cellsAt_aadd {M : Nat → Option AObj} (a : Addr) (i : Nat) : cellsAt C M (aadd a i) = (cellsAt C M a).map (List.drop i) := by
  obtain ⟨b, off, sp⟩ := a
  show cellsAt C M ⟨b, off + i, sp⟩ = _
  unfold cellsAt
  dsimp only
  cases M b with
  | none => rfl
  | some o =>
    cases o with
    | raw =>
      dsimp only
      cases C.w0.heap[b]? with
      | none => rfl
      | some ob =>
        cases ob with
        | cells c e f =>
          dsimp only
          cases sp with
          | none => simp [List.drop_drop, Nat.add_comm]
          | some k => simp
        | _ => rfl
    | cells vs =>
      dsimp only [ver]
      generalize vs[(match sp with | none => 0 | some k => k + 1)]? = q
      cases q with
      | none => rfl
      | some v => simp [List.drop_drop, Nat.add_comm]
    | _ => rfl

theorem load_get {M : Nat → Option AObj} {a : Addr} {n : Nat} {l : List Value} (h : loadN C M a n = some l) {i : Nat} (hi : i < l.length) : loadN C M (aadd a i) 1 = some [l[i]] := by
  unfold loadN at h ⊢
  rw [cellsAt_aadd]
  split at h
  · rename_i cs hcs
    rw [hcs]
    split at h
    · rename_i hn
      cases h
      simp only [List.length_take] at hi
      simp only [Option.map_some, List.length_drop]
      rw [if_pos (by omega), List.take_one, List.head?_drop]
      simp
    · cases h
  · cases h

theorem Row.at {a : Option Addr} {n c esz m : Nat} {xs : List Value} (h : Row C H (.slice a n c) esz m xs) {i : Nat} (hi : i < m * esz) : ∃ b, a = some b ∧ n = m ∧ loadN C H.get (aadd b i) 1 = some [xs[i]'(by rw [h.1]; exact hi)] := by
  obtain ⟨h1, a', c', he, h3, h4⟩ := h
  cases he
  have hm : n ≠ 0 := by rintro rfl; simp at hi
  cases a with
  | none => exact absurd (h3 rfl).1 hm
  | some b => exact ⟨b, rfl, rfl, load_get (h4 b rfl hm) (by rw [h1]; exact hi)⟩

/-- A row has grown. -/
structure Grew (H : AHeap) (g : Nat) (esz n : Nat) (cs : List Value) (r : Value) (H' : AHeap) : Prop where
  mod : Mod g H H'
  buf : ∃ g', (g' = g ∨ H.next ≤ g') ∧ Buf H' r g' esz n cs

theorem Mod.after {g g' : Nat} {a b c : AHeap} (h : Mod g a b) (k : Mod g' b c) (hg : g' = g ∨ a.next ≤ g') : Mod g a c :=
  ⟨h.wf, h.grow.trans k.grow, fun i hi hne => (k.same i (Nat.lt_of_lt_of_le hi h.grow.next) (by omega)).trans (h.same i hi hne)⟩

/-! ### the same in a region whose order is open -/
section
variable {rd : List (Nat × IOper × List Nat)} {log : List Info} {i : Nat} {un : List Nat}

theorem d_mk {cs : List Value} (hw : WF H) (hf : freeAll C log (.exp [] [H.next]) un = true) (hk : ∀ p H', Made H H' p cs → wpD C rd (.exp [] [p] :: log) K (putDst T d (.pointer (some ⟨p, 0, none⟩))) H') :
    wpD C ((i, ⟨d, .mk cs, none⟩, un) :: rd) log K T H := by
  rw [wpD_mk]
  simp only [evalOp, bindO_some, opKD_eq, AOut.mods, List.nil_append]
  rw [hf]
  exact hk _ _ (Made.push hw 0 cs)

theorem d_bs {len esz : Nat} {z cs : List Value} {ps : List (Nat × Nat × IOpd)} (hw : WF H) (hf : freeAll C log (.exp [] [H.next]) un = true) (hx : fillA T.val z ps = some cs) (hl : cs.length = len * esz) (hs : cs.all scalar = true)
    (hk : ∀ p H', Made H H' p cs → Buf H' (.slice (some ⟨p, 0, none⟩) len len) p esz len cs → wpD C rd (.exp [] [p] :: log) K (putDst T d (.slice (some ⟨p, 0, none⟩) len len)) H') : wpD C ((i, ⟨d, .buildSlice len z ps, none⟩, un) :: rd) log K T H := by
  rw [wpD_buildSlice]
  have : evalOp C H.get T.val H.next (.buildSlice len z ps) = some { v := .slice (some ⟨H.next, 0, none⟩) len len, new := some (.cells [⟨0, cs⟩]) } := by
    simp only [evalOp, hx]
    rw [if_pos hs]
  rw [this]
  simp only [bindO_some, opKD_eq, AOut.mods, List.nil_append]
  rw [hf]
  exact hk _ _ (Made.push hw 0 cs) (Buf.push H (.inl rfl) hl hs)

theorem d_store {n p off : Nat} {a x : IOpd} {cs xs : List Value} (hw : WF H) (hf : freeAll C log (.exp [p] [p]) un = true) (ho : Obj1 H p cs) (ha : a.val T.val = .pointer (some ⟨p, off, none⟩)) (hx : vcells (x.val T.val) = some xs) (hn : xs.length = n) (h0 : n ≠ 0)
    (hl : off + n ≤ cs.length) (hs : xs.all scalar = true) (hk : ∀ H', Mod p H H' → H'.next = H.next → Obj1 H' p (cs.take off ++ (xs ++ cs.drop (off + n))) → wpD C rd (.exp [p] [p] :: log) K (putDst T d undef) H') :
    wpD C ((i, ⟨d, .store n a x, none⟩, un) :: rd) log K T H := by
  rw [wpD_store]
  obtain ⟨e, ho⟩ := ho
  subst hn
  have : evalOp C H.get T.val H.next (.store xs.length a x) = some { v := undef, put := some (p, .cells [⟨e, cs.take off ++ (xs ++ cs.drop (off + xs.length))⟩]), rd := [p] } := by
    simp only [evalOp, ha, hx, asCell_ptr]
    rw [if_pos trivial, storeN_obj ho h0 hl hs]
  rw [this]
  simp only [bindO_some, opKD_eq, AOut.mods, List.append_nil]
  rw [hf]
  exact hk _ (Mod.put hw _ ho) rfl ⟨e, get_put_same _ (base_le_of ho (by simp))⟩

theorem d_app {esz bytes g n m : Nat} {s x : IOpd} {cs xs : List Value} (hw : WF H) (hb : Buf H (s.val T.val) g esz n cs) (hx : Row C H (x.val T.val) esz m xs) (hs : xs.all scalar = true) (hr : roomy (n + m) bytes = true)
    (hf : ∀ rd' md, (∀ x ∈ md, x = g) → freeAll C log (.exp rd' md) un = true)
    (hk : ∀ v H' rd' md, Mod g H H' → Buf H' v g esz (n + m) (cs ++ xs) → (∀ x ∈ md, x = g) → wpD C rd (.exp rd' md :: log) K (putDst T d v) H') : wpD C ((i, ⟨d, .append esz bytes s x, none⟩, un) :: rd) log K T H := by
  rw [wpD_append]
  obtain ⟨rd0, h1, h2, _⟩ := hx.src
  obtain ⟨v, put, rd', h3, h4, h5, _, h6⟩ := appendA_buf (C := C) (bytes := bytes) (rd := rd0) (nid := H.next) hw hb hx.1 hs hr
  have : evalOp C H.get T.val H.next (.append esz bytes s x) = some ⟨v, put, none, rd'⟩ := by
    simp only [evalOp, h2, h1]
    exact h3
  rw [this]
  simp only [bindO_some, opKD_eq]
  have hmd : ∀ x ∈ AOut.mods ⟨v, put, none, rd'⟩ H.next, x = g := by
    intro x hx
    cases put with
    | none => simp [AOut.mods] at hx
    | some p =>
      obtain ⟨b, o⟩ := p
      simp [AOut.mods] at hx
      rw [hx]
      exact h6 b o rfl
  rw [hf _ _ hmd]
  exact hk v _ _ _ h5 h4 hmd

theorem d_call {f : IOpd} {as : List IOpd} {Φ : Value → AHeap → Prop} (hs : wpCall C (f.val T.val) (as.map (·.val T.val)) H Φ) (hf : ∀ H', freeAll C log (.call H H') un = true) (hk : ∀ v H', Φ v H' → wpD C rd (.call H H' :: log) K (putDst T d v) H') :
    wpD C ((i, ⟨d, .call f as, none⟩, un) :: rd) log K T H := by
  rw [wpD_call]
  refine wpCall_mono hs fun v H' hv => ?_
  rw [callKD_eq, hf]
  exact hk v H' hv
end

/-! ### which pairs are free -/
theorem nbeq {x y : Nat} (h : x ≠ y) : (!Nat.beq x y) = true := by
  cases hb : Nat.beq x y with
  | false => rfl
  | true => exact absurd (Nat.eq_of_beq_eq_true hb) h
theorem same_refl (hE : ∀ a : AObj, C.eqb a a = true) {a : Option AObj} (h : a ≠ none) : same C a a = true := by
  cases a with
  | none => exact absurd rfl h
  | some a => exact hE a
theorem free_nil (a : Info) (h : ∃ rk mk, a = .exp rk mk) (h' : ∀ rk mk, a = .exp rk mk → True) : free C a (.exp [] []) = true := by
  obtain ⟨rk, mk, rfl⟩ := h
  simp [free, disj]
/-- A reading behind a call that left all as it was. -/
theorem free_call_rd (hE : ∀ a : AObj, C.eqb a a = true) {Hb Ha : AHeap} (h : Same Hb Ha) {ri : List Nat} (hr : ∀ b ∈ ri, Ha.next ≤ b ∨ Hb.get b ≠ none) : free C (.call Hb Ha) (.exp ri []) = true := by
  simp only [free, List.all_nil, Bool.and_true, List.all_eq_true, Bool.or_eq_true, Bool.and_eq_true, Nat.ble_eq, Nat.blt_eq]
  intro b hb
  rcases hr b hb with h1 | h1
  · exact .inl h1
  · have hlt := get_lt h.wf h1
    refine .inr ⟨hlt, ?_⟩
    rw [h.same b hlt]
    exact same_refl hE h1
theorem free_call_new {Hb Ha : AHeap} {p : Nat} (h : Ha.next ≤ p) : free C (.call Hb Ha) (.exp [] [p]) = true := by simp [free, h]
theorem free_exp_rd {rk mk ri : List Nat} (h : ∀ x ∈ mk, x ∉ ri) : free C (.exp rk mk) (.exp ri []) = true := by
  simp only [free, disj, Bool.and_eq_true, List.all_eq_true]
  refine ⟨fun x hx y hy => ?_, by simp, by simp⟩
  exact nbeq fun e => h x hx (e ▸ hy)
theorem free_exp_new {rk mk : List Nat} {p : Nat} (h1 : ∀ x ∈ mk, x ≠ p) (h2 : ∀ x ∈ rk, x ≠ p) : free C (.exp rk mk) (.exp [] [p]) = true := by
  simp only [free, disj, Bool.and_eq_true, List.all_eq_true]
  refine ⟨by simp, fun x hx y hy => ?_, fun x hx y hy => ?_⟩
  · simp at hy; subst hy; exact nbeq (h1 x hx)
  · simp at hx; subst hx; exact nbeq (Ne.symm (h2 y hy))

theorem nbeq' {x y : Nat} (h : x ≠ y) : Nat.beq x y = false := by simpa using nbeq h
@[simp] theorem free_dry (rk ri : List Nat) : free C (.exp rk []) (.exp ri []) = true := by simp [free, disj]
@[simp] theorem free_none (rk mk : List Nat) : free C (.exp rk mk) (.exp [] []) = true := by simp [free, disj]
@[simp] theorem free_call_none (a b : AHeap) : free C (.call a b) (.exp [] []) = true := by simp [free]
@[simp] theorem free_none_any (ri mi : List Nat) : free C (.exp [] []) (.exp ri mi) = true := by simp [free, disj]
@[simp] theorem free_new_rd (rk : List Nat) (q p : Nat) : free C (.exp rk [q]) (.exp [p] []) = !Nat.beq q p := by simp [free, disj]
@[simp] theorem free_rd_new (p q : Nat) : free C (.exp [p] []) (.exp [] [q]) = !Nat.beq q p := by simp [free, disj]
@[simp] theorem free_new_new (p q : Nat) : free C (.exp [] [p]) (.exp [] [q]) = !Nat.beq p q := by simp [free, disj]

/-! ### slices of slices -/
/-- What lies behind an address can be cut. -/
def Slc (H : AHeap) (a : Addr) (esz : Nat) : Prop := (H.get a.block = some .raw ∧ a.spot = none) ∨ ∃ vs v, H.get a.block = some (.cells vs) ∧ vs[ver a]? = some v ∧ (v.esz = 0 ∨ v.esz = esz)

theorem Slc.ne {a : Addr} {esz : Nat} (h : Slc H a esz) : H.get a.block ≠ none := by
  rcases h with ⟨h, _⟩ | ⟨vs, v, h, _⟩ <;> rw [h] <;> simp
theorem Slc.same {H' : AHeap} (hs : Same H H') {a : Addr} {esz : Nat} (h : Slc H a esz) : Slc H' a esz := by
  have := get_lt hs.wf h.ne
  unfold Slc
  rw [hs.same _ this]
  exact h
theorem Slc.mod {g : Nat} {H' : AHeap} (hs : Mod g H H') {a : Addr} {esz : Nat} (h : Slc H a esz) (hne : a.block ≠ g) : Slc H' a esz := by
  have := get_lt hs.wf h.ne
  unfold Slc
  rw [hs.same _ this hne]
  exact h
theorem Slc.aadd {a : Addr} {esz : Nat} (h : Slc H a esz) (n : Nat) : Slc H (aadd a n) esz := h
theorem Buf.slc {a : Addr} {g esz n m c : Nat} {cs : List Value} (h : Buf H (.slice (some a) n c) g esz m cs) : Slc H a esz := by
  obtain ⟨k, vs, e, he, hg, hl, hk, h1, _⟩ := h
  cases he
  exact .inr ⟨vs, _, hg, by rw [ver_mkAddr]; exact hk, h1⟩

theorem evalOp_sliceS {M : Nat → Option AObj} {T : Nat → Value} {nid esz n c : Nat} {x lo hi : IOpd} {a : Addr} {k1 k2 : IntKind} {l h : Nat} (hx : x.val T = .slice (some a) n c)
    (hsl : (M a.block = some .raw ∧ a.spot = none) ∨ ∃ vs v, M a.block = some (.cells vs) ∧ vs[ver a]? = some v ∧ (v.esz = 0 ∨ v.esz = esz)) (hlo : lo.val T = .int k1 l) (hhi : hi.val T = .int k2 h) (h1 : l ≤ h) (h2 : h ≤ c) :
    evalOp C M T nid (.sliceS esz x (some lo) (some hi) none) = some { v := .slice (some (aadd a (l * esz))) (h - l) (c - l), rd := [a.block] } := by
  have hb : bounds T n c (some lo) (some hi) none = some (l, h, c) := by
    simp only [bounds, bnd, hlo, hhi]
    rw [if_pos (by omega)]
    simp only [Int.toNat_natCast]
    rw [if_pos (by omega)]
    simp [h2]
  simp only [evalOp, hx, hb]
  rcases hsl with ⟨hM, hs⟩ | ⟨vs, v, hM, hv, he⟩
  · simp [hM, hs]
  · simp only [hM, hv]
    rw [if_pos he]

theorem d_sliceS {i : Nat} {un : List Nat} {rd : List (Nat × IOper × List Nat)} {log : List Info} {esz n c : Nat} {x lo hi : IOpd} {a : Addr} {k1 k2 : IntKind} {l h : Nat} (hx : x.val T.val = .slice (some a) n c) (hsl : Slc H a esz)
    (hlo : lo.val T.val = .int k1 l) (hhi : hi.val T.val = .int k2 h) (h1 : l ≤ h) (h2 : h ≤ c) (hf : freeAll C log (.exp [a.block] []) un = true)
    (hk : wpD C rd (.exp [a.block] [] :: log) K (putDst T d (.slice (some (aadd a (l * esz))) (h - l) (c - l))) H) : wpD C ((i, ⟨d, .sliceS esz x (some lo) (some hi) none, none⟩, un) :: rd) log K T H := by
  rw [wpD_sliceS, evalOp_sliceS hx hsl hlo hhi h1 h2]
  simp only [bindO_some, opKD_eq, AOut.mods, List.append_nil]
  rw [hf]
  exact hk

theorem w_sliceS {esz n c : Nat} {x lo hi : IOpd} {a : Addr} {k1 k2 : IntKind} {l h : Nat} (hx : x.val T.val = .slice (some a) n c) (hsl : Slc H a esz)
    (hlo : lo.val T.val = .int k1 l) (hhi : hi.val T.val = .int k2 h) (h1 : l ≤ h) (h2 : h ≤ c)
    (hk : wpO C r K (putDst T d (.slice (some (Ai.aadd a (l * esz))) (h - l) (c - l))) H) : wpO C (⟨d, .sliceS esz x (some lo) (some hi) none, none⟩ :: r) K T H := by
  rw [wpO_sliceS, evalOp_sliceS hx hsl hlo hhi h1 h2]
  exact hk

theorem loadN_sub {M : Nat → Option AObj} {a : Addr} {n : Nat} {l : List Value} (h : loadN C M a n = some l) {i m : Nat} (hi : i + m ≤ n) : loadN C M (Ai.aadd a i) m = some ((l.drop i).take m) := by
  unfold loadN at h ⊢
  rw [cellsAt_aadd]
  split at h
  · rename_i cs hcs
    rw [hcs]
    split at h
    · rename_i hn
      cases h
      simp only [Option.map_some, List.length_drop]
      rw [if_pos (by omega), List.drop_take, List.take_take, Nat.min_eq_left (by omega)]
    · cases h
  · cases h

theorem Row.sub {a : Addr} {n c c' esz : Nat} {xs : List Value} (hr : Row C H (.slice (some a) n c) esz n xs) {l h : Nat} (h1 : l ≤ h) (h2 : h ≤ n) :
    Row C H (.slice (some (Ai.aadd a (l * esz))) (h - l) c') esz (h - l) ((xs.drop (l * esz)).take ((h - l) * esz)) := by
  obtain ⟨e1, a', c0, he, h3, h4⟩ := hr
  cases he
  have hle : l * esz + (h - l) * esz ≤ n * esz := by rw [← Nat.add_mul]; exact Nat.mul_le_mul_right _ (by omega)
  refine ⟨?_, some _, _, rfl, by simp, fun b hb hm => ?_⟩
  · simp only [List.length_take, List.length_drop, e1]
    omega
  · cases hb
    exact loadN_sub (h4 a rfl (by omega)) hle

end
end Go.Ai
