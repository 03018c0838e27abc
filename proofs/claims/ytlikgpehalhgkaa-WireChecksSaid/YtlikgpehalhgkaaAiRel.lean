/-
  How an abstract memory stands to a world of the model: each object's versions lie somewhere; values stand to values; nothing else is said.
-/
import Derived.Test.YtlikgpehalhgkaaAiComp
import Derived.RangeFuncOwn
namespace Go.Ai

/-- Where a version of an object lies: block, place, the block's size, and the size of an element if there may be spare room behind (0: there is none). -/
structure Loc where
  cb : Nat
  sh : Nat
  lim : Nat
  esz : Nat

abbrev Phi := Nat → Nat → Option Loc

def idLoc (b : Nat) : Loc := { cb := b, sh := 0, lim := 0, esz := 0 }

def Phi.le (φ ψ : Phi) : Prop := ∀ g k l, φ g k = some l → ψ g k = some l

theorem Phi.le_refl (φ : Phi) : φ.le φ := fun _ _ _ h => h
theorem Phi.le_trans {a b c : Phi} (h : a.le b) (k : b.le c) : a.le c := fun g i l x => k g i l (h g i l x)

def Phi.set (φ : Phi) (g k : Nat) (l : Loc) : Phi := fun g' k' => if g' = g ∧ k' = k then some l else φ g' k'

theorem Phi.set_self (φ : Phi) (g k : Nat) (l : Loc) : φ.set g k l g k = some l := by simp [Phi.set]
theorem Phi.set_other (φ : Phi) {g k g' k' : Nat} (l : Loc) (h : ¬ (g' = g ∧ k' = k)) : φ.set g k l g' k' = φ g' k' := by simp [Phi.set, h]
theorem Phi.le_set (φ : Phi) {g k : Nat} (l : Loc) (h : φ g k = none) : φ.le (φ.set g k l) := by
  intro g' k' l' h'
  rw [Phi.set_other]
  · exact h'
  · rintro ⟨rfl, rfl⟩; rw [h] at h'; cases h'

def ARel (φ : Phi) (a a' : Addr) : Prop := ∃ l, φ a.block (ver a) = some l ∧ a' = ⟨l.cb, a.off + l.sh, none⟩

/-- What is said of the concrete capacity c' beside the abstract one. -/
def CapRel (l : Loc) (off c c' : Nat) : Prop := c' = c ∨ (0 < l.esz ∧ c ≤ c' ∧ off + l.sh + c' * l.esz ≤ l.lim)

mutual
inductive VRel (φ : Phi) : Value → Value → Prop
  | undef (v : Value) : VRel φ (.tuple #[]) v
  | absent : VRel φ (.tuple #[.tuple #[]]) (.tuple #[])
  | bool (b : Bool) : VRel φ (.bool b) (.bool b)
  | int (k : IntKind) (n : Int) : VRel φ (.int k n) (.int k n)
  | string (s : ByteArray) : VRel φ (.string s) (.string s)
  | ptrNil : VRel φ (.pointer none) (.pointer none)
  | ptr (a a' : Addr) : ARel φ a a' → VRel φ (.pointer (some a)) (.pointer (some a'))
  | sliceNil : VRel φ (.slice none 0 0) (.slice none 0 0)
  | slice (a : Addr) (l : Loc) (n c c' : Nat) : φ a.block (ver a) = some l → CapRel l a.off c c' → VRel φ (.slice (some a) n c) (.slice (some ⟨l.cb, a.off + l.sh, none⟩) n c')
  | slice0 (a a' : Addr) : VRel φ (.slice (some a) 0 0) (.slice (some a') 0 0)
  | mapNil : VRel φ (.map none) (.map none)
  | map (r : Nat) (l : Loc) : φ r 0 = some l → VRel φ (.map (some r)) (.map (some l.cb))
  | nilFunc : VRel φ .nilFunc .nilFunc
  | func (f : FuncId) (a b a' b' : Array Value) : VsRel φ a.toList a'.toList → VsRel φ b.toList b'.toList → VRel φ (.func (.func f) a b) (.func (.func f) a' b')
  | yield (r : Nat) (l : Loc) (a b : Array Value) : φ r 0 = some l → a.toList = [] → b.toList = [] → VRel φ (.func (.yield r) a b) (.func (.yield l.cb) #[] #[])
  | nilIface : VRel φ .nilIface .nilIface
  | iface (t : TypeId) (v v' : Value) : VRel φ v v' → VRel φ (.iface t v) (.iface t v')
  | agg (a a' : Array Value) : VsRel φ a.toList a'.toList → VRel φ (.agg a) (.agg a')
  | tup (a a' : Array Value) : 2 ≤ a.size → VsRel φ a.toList a'.toList → VRel φ (.tuple a) (.tuple a')
inductive VsRel (φ : Phi) : List Value → List Value → Prop
  | nil : VsRel φ [] []
  | cons (v v' : Value) (vs vs' : List Value) : VRel φ v v' → VsRel φ vs vs' → VsRel φ (v :: vs) (v' :: vs')
end

mutual
theorem VRel.mono {φ ψ : Phi} (h : φ.le ψ) : ∀ {v v' : Value}, VRel φ v v' → VRel ψ v v'
  | _, _, .undef v => .undef v
  | _, _, .absent => .absent
  | _, _, .bool b => .bool b
  | _, _, .int k n => .int k n
  | _, _, .string s => .string s
  | _, _, .ptrNil => .ptrNil
  | _, _, .ptr a a' ⟨l, h1, h2⟩ => .ptr a a' ⟨l, h _ _ _ h1, h2⟩
  | _, _, .sliceNil => .sliceNil
  | _, _, .slice a l n c c' h1 h2 => .slice a l n c c' (h _ _ _ h1) h2
  | _, _, .slice0 a a' => .slice0 a a'
  | _, _, .mapNil => .mapNil
  | _, _, .map r l h1 => .map r l (h _ _ _ h1)
  | _, _, .nilFunc => .nilFunc
  | _, _, .func f a b a' b' h1 h2 => .func f a b a' b' (VsRel.mono h h1) (VsRel.mono h h2)
  | _, _, .yield r l a b h1 h2 h3 => .yield r l a b (h _ _ _ h1) h2 h3
  | _, _, .nilIface => .nilIface
  | _, _, .iface t v v' h1 => .iface t v v' (VRel.mono h h1)
  | _, _, .agg a a' h1 => .agg a a' (VsRel.mono h h1)
  | _, _, .tup a a' h0 h1 => .tup a a' h0 (VsRel.mono h h1)
theorem VsRel.mono {φ ψ : Phi} (h : φ.le ψ) : ∀ {v v' : List Value}, VsRel φ v v' → VsRel ψ v v'
  | _, _, .nil => .nil
  | _, _, .cons v v' vs vs' h1 h2 => .cons v v' vs vs' (VRel.mono h h1) (VsRel.mono h h2)
end

/-! ### lists of values -/
section lists
variable {φ : Phi}

theorem VsRel.length {a b : List Value} (h : VsRel φ a b) : a.length = b.length := by
  induction a generalizing b with
  | nil => cases h; rfl
  | cons x r ih => cases h with | cons _ v' _ vs' h1 h2 => simp [ih h2]

theorem VsRel.get {a b : List Value} (h : VsRel φ a b) {i : Nat} {v : Value} (hv : a[i]? = some v) : ∃ v', b[i]? = some v' ∧ VRel φ v v' := by
  induction a generalizing b i with
  | nil => simp at hv
  | cons x r ih =>
    cases h with
    | cons _ v' _ vs' h1 h2 =>
      cases i with
      | zero => simp at hv; subst hv; exact ⟨v', rfl, h1⟩
      | succ i => simp at hv; simpa using ih h2 hv

theorem VsRel.of_get : ∀ {a b : List Value}, a.length = b.length → (∀ (i : Nat) (v : Value), a[i]? = some v → ∃ v', b[i]? = some v' ∧ VRel φ v v') → VsRel φ a b
  | [], [], _, _ => .nil
  | [], _ :: _, h, _ => by simp at h
  | _ :: _, [], h, _ => by simp at h
  | x :: r, y :: s, hl, h => by
    obtain ⟨v', hv, hx⟩ := h 0 x rfl
    simp at hv
    subst hv
    exact .cons _ _ _ _ hx (VsRel.of_get (by simpa using hl) fun i v hi => h (i + 1) v (by simpa using hi))

theorem VsRel.append {a b c d : List Value} (h : VsRel φ a b) (k : VsRel φ c d) : VsRel φ (a ++ c) (b ++ d) := by
  induction a generalizing b with
  | nil => cases h; exact k
  | cons x r ih => cases h with | cons _ v' _ vs' h1 h2 => exact .cons _ _ _ _ h1 (ih h2)

theorem VsRel.take {a b : List Value} (h : VsRel φ a b) (n : Nat) : VsRel φ (a.take n) (b.take n) := by
  induction n generalizing a b with
  | zero => exact .nil
  | succ n ih => cases h with
    | nil => exact .nil
    | cons _ v' _ vs' h1 h2 => exact .cons _ _ _ _ h1 (ih h2)

theorem VsRel.drop {a b : List Value} (h : VsRel φ a b) (n : Nat) : VsRel φ (a.drop n) (b.drop n) := by
  induction n generalizing a b with
  | zero => exact h
  | succ n ih => cases h with
    | nil => exact .nil
    | cons _ v' _ vs' h1 h2 => exact ih h2

theorem VsRel.map {f g : Value → Value} {l : List Value} (h : ∀ v ∈ l, VRel φ (f v) (g v)) : VsRel φ (l.map f) (l.map g) := by
  induction l with
  | nil => exact .nil
  | cons x r ih => exact .cons _ _ _ _ (h x (by simp)) (ih fun v hv => h v (by simp [hv]))

/-- The values that stand to themselves. -/
theorem VsRel.refl {l : List Value} (h : ∀ v ∈ l, VRel φ v v) : VsRel φ l l := by
  induction l with
  | nil => exact .nil
  | cons x r ih => exact .cons _ _ _ _ (h x (by simp)) (ih fun v hv => h v (by simp [hv]))

theorem scalar_rel {v v' : Value} (h : VRel φ v v') (hs : scalar v = true) : v'.oneCell' = true := by
  cases h <;> simp_all [scalar, Value.oneCell']

theorem scalars_rel {a b : List Value} (h : VsRel φ a b) (hs : a.all scalar = true) : ∀ v ∈ b, v.oneCell' = true := by
  induction a generalizing b with
  | nil => cases h; simp
  | cons x r ih =>
    cases h with
    | cons _ v' _ vs' h1 h2 =>
      simp at hs
      intro v hv
      rcases List.mem_cons.1 hv with rfl | hv
      · exact scalar_rel h1 hs.1
      · exact ih h2 (by simpa using hs.2) v hv

theorem vcells_rel {v v' : Value} {cs : List Value} (h : VRel φ v v') (hc : vcells v = some cs) : VsRel φ cs v'.cells.toList := by
  cases h <;> simp [vcells] at hc <;> (try subst hc) <;> simp only [Value.cells] <;> first
    | assumption
    | exact .cons _ _ _ _ (by constructor <;> assumption) .nil
    | exact .cons _ _ _ _ (by constructor) .nil
end lists

/-! ### values without addresses, or with old ones -/
def Old (φ : Phi) (n : Nat) : Prop := ∀ b, b < n → φ b 0 = some (idLoc b)

theorem cleanS_rel {φ : Phi} {n : Nat} (ho : Old φ n) {v : Value} (h : cleanS n v = true) : VRel φ v v := by
  cases v with
  | bool b => exact .bool b
  | int k n => exact .int k n
  | string s => exact .string s
  | nilFunc => exact .nilFunc
  | nilIface => exact .nilIface
  | pointer a =>
    cases a with
    | none => exact .ptrNil
    | some a =>
      obtain ⟨b, off, sp⟩ := a
      simp [cleanS] at h
      obtain ⟨h1, rfl⟩ := h
      exact .ptr _ _ ⟨idLoc b, ho b h1, by simp [idLoc]⟩
  | slice a l c =>
    cases a with
    | none =>
      simp [cleanS] at h
      obtain ⟨rfl, rfl⟩ := h
      exact .sliceNil
    | some a =>
      obtain ⟨b, off, sp⟩ := a
      simp [cleanS] at h
      rcases h with ⟨h1, rfl⟩ | ⟨rfl, rfl⟩
      rotate_left
      · exact .slice0 _ _
      have := VRel.slice (φ := φ) ⟨b, off, none⟩ (idLoc b) l c c (ho b h1) (.inl rfl)
      simpa [idLoc] using this
  | map r => cases r with
    | none => exact .mapNil
    | some r => simp [cleanS] at h
  | func fn a b =>
    cases fn <;> simp [cleanS] at h
    obtain ⟨rfl, rfl⟩ := h
    exact .func _ _ _ _ _ .nil .nil
  | float k b => simp [cleanS] at h
  | complex k a b => simp [cleanS] at h
  | chan r => simp [cleanS] at h
  | iface t v => simp [cleanS] at h
  | agg cs => simp [cleanS] at h
  | tuple cs => simp [cleanS] at h

theorem clean_rel {φ : Phi} {n : Nat} (ho : Old φ n) {v : Value} (h : clean n v = true) : VRel φ v v := by
  unfold clean at h
  split at h
  · rename_i cs
    refine .agg _ _ (VsRel.refl fun v hv => cleanS_rel ho ?_)
    exact (List.all_eq_true.1 h) v hv
  · exact cleanS_rel ho h

theorem old_zero (φ : Phi) : Old φ 0 := fun b h => absurd h (Nat.not_lt_zero b)

theorem scrub_rel {φ : Phi} {n : Nat} (ho : Old φ n) (v : Value) : VRel φ (scrub n v) v := by
  unfold scrub
  split
  · exact cleanS_rel ho (by assumption)
  · exact .undef v

theorem cleanS_scalar {n : Nat} {v : Value} (h : cleanS n v = true) : scalar v = true := by
  cases v <;> first | rfl | simp [cleanS] at h

/-! ### the memory -/
def exitCode : AExit → Option Code
  | .normal => none
  | .exit id => some (.exit id)
  | .ret => some .ret

/-- The temporaries. -/
def TRel (φ : Phi) (T : Nat → Value) (tmps : Array Value) : Prop := ∀ i, VRel φ (T i) (tmps.getD i undef)

theorem TRel.mono {φ ψ : Phi} (h : φ.le ψ) {T : Nat → Value} {tmps : Array Value} (k : TRel φ T tmps) : TRel ψ T tmps := fun i => (k i).mono h

section mem
variable (P : Program) (C : Ctx)

def VerRel (φ : Phi) (w : World) (g k : Nat) (v : AVer) : Prop :=
  ∃ l cc e, φ g k = some l ∧ w.heap[l.cb]? = some (.cells cc e (0, 0)) ∧ cc.size = l.lim ∧ l.esz = v.esz ∧
    ∀ (j : Nat) (x : Value), v.cells[j]? = some x → ∃ x', cc[j + l.sh]? = some x' ∧ VRel φ x x'

def Ends (φ : Phi) (g : Nat) (vs : List AVer) : Prop :=
  ∀ (i j : Nat) (vi vj : AVer) (li lj : Loc), i < j → vs[i]? = some vi → vs[j]? = some vj → φ g i = some li → φ g j = some lj → li.cb = lj.cb →
    vi.cells = [] ∨ vj.cells = [] ∨ li.sh + vi.cells.length ≤ lj.sh + vj.cells.length

def LoopRel (φ : Phi) (L : ALoop) (L' : Loop) : Prop :=
  L'.state = L.state ∧ L'.pending = L.pending.bind exitCode ∧ (∀ e, L.pending = some e → e ≠ .normal) ∧ L'.params.toList = L.params ∧ TRel φ L.T.val L'.tmps ∧
    ∃ nt, nt ≤ L'.tmps.size ∧ (∀ p ∈ L.params, p < nt) ∧ compCode P nt L'.assign = L.assign ∧ compCode P nt L'.body = L.body

/-- What is said of an object. -/
def ORel (φ : Phi) (w : World) (g : Nat) : AObj → Prop
  | .raw => g < C.w0.heap.size ∧ Old φ C.w0.heap.size ∧ w.heap[g]? = C.w0.heap[g]?
  | .exact o => ∃ l, φ g 0 = some l ∧ w.heap[l.cb]? = some o
  | .cells vs => (∀ k v, vs[k]? = some v → VerRel φ w g k v) ∧ (∀ k, vs.length ≤ k → φ g k = none) ∧ Ends φ g vs
  | .map es => ∃ l es' clk, φ g 0 = some l ∧ (∀ k l', φ g k = some l' → l' = l) ∧ w.heap[l.cb]? = some (.map es' clk) ∧ es'.size = es.length ∧
      ∀ (i : Nat) (e : Value × Value), es[i]? = some e → ∃ e', es'[i]? = some e' ∧ VRel φ e.1 e'.key ∧ VRel φ e.2 e'.val
  | .loop L => ∃ l L', φ g 0 = some l ∧ (∀ k l', φ g k = some l' → l' = l) ∧ w.heap[l.cb]? = some (.loop L') ∧ LoopRel P φ L L'
  | .deferred b => ∃ l, φ g 0 = some l ∧ (∀ k l', φ g k = some l' → l' = l) ∧ w.heap[l.cb]? = some (.deferred (if b then some [] else none))

structure R (φ : Phi) (M : Nat → Option AObj) (w : World) : Prop where
  os : w.os = C.w0.os
  tape : w.tape = C.w0.tape
  output : w.output = C.w0.output
  size : C.w0.heap.size ≤ w.heap.size
  obj : ∀ g o, M g = some o → ORel P C φ w g o
  inj : ∀ g g' o o' k k' l l', M g = some o → M g' = some o' → φ g k = some l → φ g' k' = some l' → l.cb = l'.cb → g = g'
  bound : ∀ g k l, φ g k = some l → l.cb < w.heap.size
  dom : ∀ g k l, φ g k = some l → M g ≠ none

end mem
end Go.Ai
