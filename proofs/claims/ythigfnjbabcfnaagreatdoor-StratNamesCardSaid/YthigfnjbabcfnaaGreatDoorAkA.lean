/-
  An abstract evaluator for Go functions, over an own intermediate form: the definitions.
  Values are the model's own; the abstract memory is a table of objects by number; an 'append' that may or may not grow makes a new version of its object.
  The own intermediate form of a function of the model, made by program: sizes, places and zeros are looked up once; a region whose order is open gets one order, with the pairs that must be free of each other.
  How an abstract memory stands to a world of the model: each object's versions lie somewhere; values stand to values; nothing else is said.
  What the operations on memory do to the relation between the abstract memory and the world.
  'append' to a slice: whether it grows or not, the new slice is a new version.
-/
import Derived.RangeFuncLeaves
import Derived.OrdersIn
import Derived.Below
import Derived.RangeFuncOwn
import Derived.Laws.CopyRow
import Derived.Laws.Append
namespace Go.Ak

/-! ### tables -/
inductive Trie (α : Type) where
  | leaf
  | node (l : Trie α) (v : Option α) (r : Trie α)

def Trie.get {α : Type} : Trie α → Nat → Option α
  | .leaf, _ => none
  | .node _ v _, 0 => v
  | .node l _ r, n + 1 => cond (Nat.beq (n % 2) 0) (l.get (n / 2)) (r.get (n / 2))

def Trie.set {α : Type} : Nat → Trie α → Nat → α → Trie α
  | 0, t, _, _ => t
  | _ + 1, .leaf, 0, a => .node .leaf (some a) .leaf
  | f + 1, .leaf, n + 1, a => cond (Nat.beq (n % 2) 0) (.node (Trie.set f .leaf (n / 2) a) none .leaf) (.node .leaf none (Trie.set f .leaf (n / 2) a))
  | _ + 1, .node l _ r, 0, a => .node l (some a) r
  | f + 1, .node l v r, n + 1, a => cond (Nat.beq (n % 2) 0) (.node (Trie.set f l (n / 2) a) v r) (.node l v (Trie.set f r (n / 2) a))

def Trie.put {α : Type} (t : Trie α) (n : Nat) (a : α) : Trie α := Trie.set (n + 1) t n a

theorem half_eq {m n : Nat} (h : m % 2 = n % 2) : (m / 2 = n / 2) = (m = n) := by
  apply propext; constructor <;> intro h' <;> omega

theorem Trie.get_set {α : Type} (a : α) : ∀ (f : Nat) (t : Trie α) (n m : Nat), n < f → (Trie.set f t n a).get m = if m = n then some a else t.get m := by
  intro f
  induction f with
  | zero => intro t n m h; omega
  | succ f ih =>
    intro t n m h
    cases t with
    | leaf =>
      cases n with
      | zero => cases m <;> simp [Trie.set, Trie.get]
      | succ n =>
        have ih' := fun m => ih .leaf (n / 2) m (by omega)
        rcases Nat.mod_two_eq_zero_or_one n with hn | hn <;> cases m with
        | zero => simp [Trie.set, Trie.get, hn, show Nat.beq 1 0 = false from rfl]
        | succ m =>
          rcases Nat.mod_two_eq_zero_or_one m with hm | hm <;> simp [Trie.set, Trie.get, hn, hm, ih', show Nat.beq 1 0 = false from rfl] <;>
            first | (simp only [half_eq (show m % 2 = n % 2 by omega)]) | (intro h'; omega)
    | node l v r =>
      cases n with
      | zero => cases m <;> simp [Trie.set, Trie.get]
      | succ n =>
        have ihl := fun m => ih l (n / 2) m (by omega)
        have ihr := fun m => ih r (n / 2) m (by omega)
        rcases Nat.mod_two_eq_zero_or_one n with hn | hn <;> cases m with
        | zero => simp [Trie.set, Trie.get, hn, show Nat.beq 1 0 = false from rfl]
        | succ m =>
          rcases Nat.mod_two_eq_zero_or_one m with hm | hm <;> simp [Trie.set, Trie.get, hn, hm, ihl, ihr, show Nat.beq 1 0 = false from rfl] <;>
            first | (simp only [half_eq (show m % 2 = n % 2 by omega)]) | (intro h'; omega)

theorem Trie.get_put {α : Type} (t : Trie α) (n m : Nat) (a : α) : (t.put n a).get m = if m = n then some a else t.get m := Trie.get_set a _ _ _ _ (Nat.lt_succ_self n)

@[simp] theorem Trie.get_leaf {α : Type} (n : Nat) : (Trie.leaf : Trie α).get n = none := by cases n <;> rfl

/-! ### the intermediate form -/
inductive IOpd where
  | t (n : Nat)
  | c (v : Value)

def IOpd.val (T : Nat → Value) : IOpd → Value
  | .t n => T n
  | .c v => v

/-- Of what kind are two operands that are compared. -/
inductive BK where
  | num | boo | str | ptr | slc | mp | fn | ifc
  deriving DecidableEq

/-- How two cells are held against each other; how two values are. -/
inductive CK where
  | num | str | boo

inductive KPlan where
  | sc (c : CK)
  | ag (l : List (Nat × CK))

inductive IOp where
  | mv (x : IOpd)
  | pick (c a b : IOpd)
  | mk (ty : TypeId) (cells : List Value)
  | box (n : Nat) (x : IOpd)
  | build (zero : List Value) (parts : List (Nat × Nat × IOpd))
  | buildSlice (len : Nat) (zero : List Value) (parts : List (Nat × Nat × IOpd))
  | load1 (x : IOpd)
  | loadN (n : Nat) (x : IOpd)
  | store (n : Nat) (a x : IOpd)
  | nilCheck (x : IOpd)
  | bin (k : BK) (op : BinOp) (x y : IOpd)
  | not (x : IOpd)
  | neg (x : IOpd)
  | conv (k : IntKind) (x : IOpd)
  | toStr (x : IOpd)
  | faddr (off : Nat) (x : IOpd)
  | field (off n : Nat) (agg : Bool) (x : IOpd)
  | idxS (esz : Nat) (x i : IOpd)
  | idxA (len esz : Nat) (x i : IOpd)
  | idxV (len esz : Nat) (agg : Bool) (x i : IOpd)
  | idxStr (x i : IOpd)
  | sliceS (esz : Nat) (x : IOpd) (lo hi mx : Option IOpd)
  | sliceA (n esz : Nat) (x : IOpd) (lo hi mx : Option IOpd)
  | sliceStr (x : IOpd) (lo hi : Option IOpd)
  | lenC (n : Nat)
  | len (x : IOpd)
  | lenStr (x : IOpd)
  | lenM (x : IOpd)
  | cap (x : IOpd)
  | append (ty : TypeId) (esz bytes : Nat) (s x : IOpd)
  | appendZ (bytes : Nat) (zero : List Value) (s n : IOpd)
  | copy (esz : Nat) (d s : IOpd)
  | clear (zero : List Value) (x : IOpd)
  | mkSlice (bytes : Nat) (zero : List Value) (n c : IOpd)
  | minI (x y : IOpd)
  | maxI (x y : IOpd)
  | extract (k : Nat) (x : IOpd)
  | mkfn (fn : Fn) (first captured : List IOpd)
  | call (f : IOpd) (args : List IOpd)
  | mkmap
  | mrange (x : IOpd)
  | mnext (x : IOpd)
  | insert (kp : KPlan) (m k v : IOpd)
  | lookup (kp : KPlan) (zero : Value) (ok : Bool) (m k : IOpd)
  | eqF (kp : KPlan) (neg : Bool) (x y : IOpd)
  | rune (x : IOpd)
  | sdata (x : IOpd)
  | ustr (u : TypeId) (x n : IOpd)
  | toU (x : IOpd)
  | frU (u : TypeId) (n : Nat) (x : IOpd)
  | mentry (kp : KPlan) (zero : Value) (m k : IOpd)
  | mstore (m k v : IOpd)
  | mkiface (t : TypeId) (x : IOpd)
  | bad

structure IOper where
  dst : Option Nat
  op : IOp
  g : Option (Nat × Bool)

inductive ICode where
  | skip
  | region (ops : List IOper)
  | dregion (ops : List (Nat × IOper × List Nat))
  | seq (a b : ICode)
  | cond (x : IOpd) (a b : ICode)
  | block (id : Nat) (c : ICode)
  | loop (c : ICode)
  | exit (id : Nat)
  | ret
  | rangeFunc (f : IOpd) (params : List Nat) (assign body : ICode)
  | bad

inductive IRes where
  | tmp (t : Nat)
  | cell1 (t : Nat)
  | cellN (t n : Nat)

structure IFunc where
  results : List IRes
  body : ICode

/-! ### the abstract memory -/
structure AVer where
  esz : Nat
  cells : List Value
  ty : Option TypeId

/-! ### the temporaries: two levels of sixteen, and a table for what is beyond -/
structure E16 (α : Type) where
  xa : α
  xb : α
  xc : α
  xd : α
  xe : α
  xf : α
  xg : α
  xh : α
  xi : α
  xj : α
  xk : α
  xl : α
  xm : α
  xn : α
  xo : α
  xp : α

inductive D16 where
  | d0 | d1 | d2 | d3 | d4 | d5 | d6 | d7 | d8 | d9 | d10 | d11 | d12 | d13 | d14 | d15
  deriving DecidableEq

def dg : Nat → D16
  | 0 => .d0
  | 1 => .d1
  | 2 => .d2
  | 3 => .d3
  | 4 => .d4
  | 5 => .d5
  | 6 => .d6
  | 7 => .d7
  | 8 => .d8
  | 9 => .d9
  | 10 => .d10
  | 11 => .d11
  | 12 => .d12
  | 13 => .d13
  | 14 => .d14
  | _ => .d15

def E16.get {α : Type} : D16 → E16 α → α
  | .d0, t => t.xa
  | .d1, t => t.xb
  | .d2, t => t.xc
  | .d3, t => t.xd
  | .d4, t => t.xe
  | .d5, t => t.xf
  | .d6, t => t.xg
  | .d7, t => t.xh
  | .d8, t => t.xi
  | .d9, t => t.xj
  | .d10, t => t.xk
  | .d11, t => t.xl
  | .d12, t => t.xm
  | .d13, t => t.xn
  | .d14, t => t.xo
  | .d15, t => t.xp

def E16.set {α : Type} : D16 → E16 α → α → E16 α
  | .d0, ⟨_, xb, xc, xd, xe, xf, xg, xh, xi, xj, xk, xl, xm, xn, xo, xp⟩, y => ⟨y, xb, xc, xd, xe, xf, xg, xh, xi, xj, xk, xl, xm, xn, xo, xp⟩
  | .d1, ⟨xa, _, xc, xd, xe, xf, xg, xh, xi, xj, xk, xl, xm, xn, xo, xp⟩, y => ⟨xa, y, xc, xd, xe, xf, xg, xh, xi, xj, xk, xl, xm, xn, xo, xp⟩
  | .d2, ⟨xa, xb, _, xd, xe, xf, xg, xh, xi, xj, xk, xl, xm, xn, xo, xp⟩, y => ⟨xa, xb, y, xd, xe, xf, xg, xh, xi, xj, xk, xl, xm, xn, xo, xp⟩
  | .d3, ⟨xa, xb, xc, _, xe, xf, xg, xh, xi, xj, xk, xl, xm, xn, xo, xp⟩, y => ⟨xa, xb, xc, y, xe, xf, xg, xh, xi, xj, xk, xl, xm, xn, xo, xp⟩
  | .d4, ⟨xa, xb, xc, xd, _, xf, xg, xh, xi, xj, xk, xl, xm, xn, xo, xp⟩, y => ⟨xa, xb, xc, xd, y, xf, xg, xh, xi, xj, xk, xl, xm, xn, xo, xp⟩
  | .d5, ⟨xa, xb, xc, xd, xe, _, xg, xh, xi, xj, xk, xl, xm, xn, xo, xp⟩, y => ⟨xa, xb, xc, xd, xe, y, xg, xh, xi, xj, xk, xl, xm, xn, xo, xp⟩
  | .d6, ⟨xa, xb, xc, xd, xe, xf, _, xh, xi, xj, xk, xl, xm, xn, xo, xp⟩, y => ⟨xa, xb, xc, xd, xe, xf, y, xh, xi, xj, xk, xl, xm, xn, xo, xp⟩
  | .d7, ⟨xa, xb, xc, xd, xe, xf, xg, _, xi, xj, xk, xl, xm, xn, xo, xp⟩, y => ⟨xa, xb, xc, xd, xe, xf, xg, y, xi, xj, xk, xl, xm, xn, xo, xp⟩
  | .d8, ⟨xa, xb, xc, xd, xe, xf, xg, xh, _, xj, xk, xl, xm, xn, xo, xp⟩, y => ⟨xa, xb, xc, xd, xe, xf, xg, xh, y, xj, xk, xl, xm, xn, xo, xp⟩
  | .d9, ⟨xa, xb, xc, xd, xe, xf, xg, xh, xi, _, xk, xl, xm, xn, xo, xp⟩, y => ⟨xa, xb, xc, xd, xe, xf, xg, xh, xi, y, xk, xl, xm, xn, xo, xp⟩
  | .d10, ⟨xa, xb, xc, xd, xe, xf, xg, xh, xi, xj, _, xl, xm, xn, xo, xp⟩, y => ⟨xa, xb, xc, xd, xe, xf, xg, xh, xi, xj, y, xl, xm, xn, xo, xp⟩
  | .d11, ⟨xa, xb, xc, xd, xe, xf, xg, xh, xi, xj, xk, _, xm, xn, xo, xp⟩, y => ⟨xa, xb, xc, xd, xe, xf, xg, xh, xi, xj, xk, y, xm, xn, xo, xp⟩
  | .d12, ⟨xa, xb, xc, xd, xe, xf, xg, xh, xi, xj, xk, xl, _, xn, xo, xp⟩, y => ⟨xa, xb, xc, xd, xe, xf, xg, xh, xi, xj, xk, xl, y, xn, xo, xp⟩
  | .d13, ⟨xa, xb, xc, xd, xe, xf, xg, xh, xi, xj, xk, xl, xm, _, xo, xp⟩, y => ⟨xa, xb, xc, xd, xe, xf, xg, xh, xi, xj, xk, xl, xm, y, xo, xp⟩
  | .d14, ⟨xa, xb, xc, xd, xe, xf, xg, xh, xi, xj, xk, xl, xm, xn, _, xp⟩, y => ⟨xa, xb, xc, xd, xe, xf, xg, xh, xi, xj, xk, xl, xm, xn, y, xp⟩
  | .d15, ⟨xa, xb, xc, xd, xe, xf, xg, xh, xi, xj, xk, xl, xm, xn, xo, _⟩, y => ⟨xa, xb, xc, xd, xe, xf, xg, xh, xi, xj, xk, xl, xm, xn, xo, y⟩

def E16.rep {α : Type} (v : α) : E16 α := ⟨v, v, v, v, v, v, v, v, v, v, v, v, v, v, v, v⟩

theorem dg_inj : ∀ a, a < 16 → ∀ b, b < 16 → dg a = dg b → a = b := by decide

theorem E16.get_set {α : Type} (i j : D16) (t : E16 α) (y : α) : E16.get i (E16.set j t y) = if i = j then y else E16.get i t := by
  cases j <;> cases i <;> rfl

theorem E16.get_rep {α : Type} (i : D16) (v : α) : E16.get i (E16.rep v) = v := by cases i <;> rfl

structure Env where
  e : E16 (E16 Value)
  r : Trie Value

def Env.empty : Env := ⟨E16.rep (E16.rep undef), .leaf⟩

def Env.val (T : Env) (n : Nat) : Value := cond (Nat.blt n 256) (E16.get (dg (n % 16)) (E16.get (dg (n / 16)) T.e)) ((T.r.get n).getD undef)

def Env.put (T : Env) (n : Nat) (v : Value) : Env :=
  cond (Nat.blt n 256) ⟨E16.set (dg (n / 16)) T.e (E16.set (dg (n % 16)) (E16.get (dg (n / 16)) T.e) v), T.r⟩ ⟨T.e, T.r.put n v⟩

theorem Env.val_empty (n : Nat) : Env.empty.val n = undef := by
  unfold Env.val Env.empty
  cases Nat.blt n 256
  · simp
  · simp [E16.get_rep]

theorem Env.val_put (T : Env) (n m : Nat) (v : Value) : (T.put n v).val m = if m = n then v else T.val m := by
  unfold Env.val Env.put
  cases hn : Nat.blt n 256 <;> cases hm : Nat.blt m 256 <;> simp only [cond_true, cond_false]
  · rw [Trie.get_put]
    by_cases h : m = n <;> simp [h]
  · rw [if_neg]
    intro h
    rw [h, hn] at hm
    cases hm
  · rw [if_neg]
    intro h
    rw [h, hn] at hm
    cases hm
  · have h1 : n < 256 := by simpa [Nat.blt_eq] using hn
    have h2 : m < 256 := by simpa [Nat.blt_eq] using hm
    rw [E16.get_set]
    by_cases hd : m / 16 = n / 16
    · rw [hd, if_pos rfl, E16.get_set]
      by_cases he : m % 16 = n % 16
      · rw [he, if_pos rfl, if_pos (by omega)]
      · rw [if_neg (fun h => he (dg_inj _ (by omega) _ (by omega) h)), if_neg (by omega)]
    · rw [if_neg (fun h => hd (dg_inj _ (by omega) _ (by omega) h)), if_neg (by omega)]

/-! ### the memory's table: four levels of sixteen, and a table for what is beyond -/
structure Tab (α : Type) where
  e : E16 (E16 (E16 (E16 (Option α))))
  r : Trie α

def Tab.leaf {α : Type} : Tab α := ⟨E16.rep (E16.rep (E16.rep (E16.rep none))), .leaf⟩

def Tab.get {α : Type} (t : Tab α) (n : Nat) : Option α :=
  cond (Nat.blt n 65536) (E16.get (dg (n % 16)) (E16.get (dg (n / 16 % 16)) (E16.get (dg (n / 256 % 16)) (E16.get (dg (n / 4096)) t.e)))) (t.r.get n)

def Tab.put {α : Type} (t : Tab α) (n : Nat) (a : α) : Tab α :=
  cond (Nat.blt n 65536)
    ⟨E16.set (dg (n / 4096)) t.e (E16.set (dg (n / 256 % 16)) (E16.get (dg (n / 4096)) t.e)
      (E16.set (dg (n / 16 % 16)) (E16.get (dg (n / 256 % 16)) (E16.get (dg (n / 4096)) t.e))
        (E16.set (dg (n % 16)) (E16.get (dg (n / 16 % 16)) (E16.get (dg (n / 256 % 16)) (E16.get (dg (n / 4096)) t.e))) (some a)))), t.r⟩
    ⟨t.e, t.r.put n a⟩

@[simp] theorem Tab.get_leaf {α : Type} (n : Nat) : (Tab.leaf : Tab α).get n = none := by
  unfold Tab.get Tab.leaf
  cases Nat.blt n 65536
  · simp
  · simp [E16.get_rep]

theorem E16.get_dg {α : Type} {a b : Nat} (ha : a < 16) (hb : b < 16) (t : E16 α) (y : α) : E16.get (dg a) (E16.set (dg b) t y) = if a = b then y else E16.get (dg a) t := by
  rw [E16.get_set]
  by_cases h : a = b
  · rw [if_pos h, if_pos (by rw [h])]
  · rw [if_neg h, if_neg (fun e => h (dg_inj a ha b hb e))]

theorem Tab.get_put {α : Type} (t : Tab α) (n m : Nat) (a : α) : (t.put n a).get m = if m = n then some a else t.get m := by
  unfold Tab.get Tab.put
  cases hn : Nat.blt n 65536 <;> cases hm : Nat.blt m 65536 <;> simp only [cond_true, cond_false]
  · rw [Trie.get_put]
  · rw [if_neg]
    intro h
    rw [h, hn] at hm
    cases hm
  · rw [if_neg]
    intro h
    rw [h, hn] at hm
    cases hm
  · have h1 : n < 65536 := by simpa [Nat.blt_eq] using hn
    have h2 : m < 65536 := by simpa [Nat.blt_eq] using hm
    rw [E16.get_dg (a := m / 4096) (by omega) (by omega)]
    by_cases d1 : m / 4096 = n / 4096
    · rw [if_pos d1, E16.get_dg (a := m / 256 % 16) (by omega) (by omega)]
      by_cases d2 : m / 256 % 16 = n / 256 % 16
      · rw [if_pos d2, E16.get_dg (a := m / 16 % 16) (by omega) (by omega)]
        by_cases d3 : m / 16 % 16 = n / 16 % 16
        · rw [if_pos d3, E16.get_dg (a := m % 16) (by omega) (by omega)]
          by_cases d4 : m % 16 = n % 16
          · rw [if_pos d4, if_pos (by omega)]
          · rw [if_neg d4, if_neg (by omega), d1, d2, d3]
        · rw [if_neg d3, if_neg (by omega), d1, d2]
      · rw [if_neg d2, if_neg (by omega), d1]
    · rw [if_neg d1, if_neg (by omega)]

inductive AExit where
  | normal
  | exit (id : Nat)
  | ret
  deriving DecidableEq

structure ALoop where
  state : LoopState
  pending : Option AExit
  T : Env
  params : List Nat
  assign : ICode
  body : ICode

inductive AObj where
  | raw
  | exact (o : Obj)
  | cells (vs : List AVer)
  | map (es : List (Value × Value))
  | loop (l : ALoop)
  | deferred (opn : Bool)
  | gone
  | iter

structure AHeap where
  base : Nat
  t : Tab AObj
  cnt : Nat

def AHeap.get (H : AHeap) (b : Nat) : Option AObj := if b < H.base then some .raw else H.t.get (b - H.base)
def AHeap.next (H : AHeap) : Nat := H.base + H.cnt
def AHeap.put (H : AHeap) (b : Nat) (o : AObj) : AHeap := { H with t := H.t.put (b - H.base) o }
def AHeap.push (H : AHeap) (o : AObj) : AHeap := { H with t := H.t.put H.cnt o, cnt := H.cnt + 1 }

def WF (H : AHeap) : Prop := ∀ i, H.cnt ≤ i → H.t.get i = none

/-- An abstract memory has become more. -/
structure Grow (H H' : AHeap) : Prop where
  base : H'.base = H.base
  cnt : H.cnt ≤ H'.cnt
  wf : WF H → WF H'

/-- The context: the functions, the world at the beginning, calls whose answer is known (with the memory behind them, which has become more), a test of two objects. -/
structure Ctx where
  funcs : Trie IFunc
  w0 : World
  known : FuncId → List Value → AHeap → Option (Value × AHeap)
  kgrow : ∀ k as H v H', known k as H = some (v, H') → WF H → Grow H H'
  eqb : AObj → AObj → Bool
  old : Nat

/-- A value of one cell. -/
def scalar : Value → Bool
  | .agg _ | .tuple _ => false
  | _ => true

/-- A scalar whose addresses lie below a block. -/
def cleanS (n : Nat) : Value → Bool
  | .bool _ | .int _ _ | .string _ | .nilFunc | .nilIface | .pointer none | .map none => true
  | .pointer (some a) => a.block < n && a.spot.isNone
  | .slice none l c => l == 0 && c == 0
  | .slice (some a) l c => (a.block < n && a.spot.isNone) || (l == 0 && c == 0)
  | .func (.func _) first captured => first.isEmpty && captured.isEmpty
  | _ => false

def clean (n : Nat) : Value → Bool
  | .agg cs => cs.toList.all (cleanS n)
  | v => cleanS n v

def scrub (n : Nat) (v : Value) : Value := if cleanS n v then v else undef

def ver (a : Addr) : Nat := match a.spot with
  | none => 0
  | some k => k + 1
def mkAddr (g k off : Nat) : Addr := { block := g, off, spot := match k with | 0 => none | k + 1 => some k }
def aadd (a : Addr) (n : Nat) : Addr := { block := a.block, off := a.off + n, spot := a.spot }

/-- What an operation that is no call gives: its value, an object that it turns, an object that it makes, the objects that it looks at (those that it turns among them). -/
structure AOut where
  v : Value
  put : Option (Nat × AObj) := none
  new : Option AObj := none
  rd : List Nat := []
  lk : Option (Addr × List Value) := none

section ops
variable (C : Ctx) (M : Nat → Option AObj)

/-- The cells from an address on. -/
def cellsAt (a : Addr) : Option (List Value) :=
  match M a.block with
  | some .raw =>
    match C.w0.heap[a.block]? with
    | some (.cells c _ _) => if a.spot.isNone then some ((c.toList.drop a.off).map (scrub C.old)) else none
    | _ => none
  | some (.cells vs) =>
    match vs[ver a]? with
    | some v => some (v.cells.drop a.off)
    | none => none
  | _ => none

def loadN (a : Addr) (n : Nat) : Option (List Value) :=
  match cellsAt C M a with
  | some l => if n ≤ l.length then some (l.take n) else none
  | none => none

def AVer.dead (v : AVer) : AVer := { v with cells := [] }

/-- One version gets other cells, and no other one holds any more. -/
def setVer : List AVer → Nat → List Value → List AVer
  | [], _, _ => []
  | v :: r, 0, c => { v with cells := c } :: r.map AVer.dead
  | v :: r, k + 1, c => v.dead :: setVer r k c

/-- The versions behind one hold no more. -/
def killAfter : List AVer → Nat → List AVer
  | [], _ => []
  | v :: r, 0 => v :: r.map AVer.dead
  | v :: r, k + 1 => v :: killAfter r k

def storeN (a : Addr) (xs : List Value) : Option AObj :=
  match M a.block with
  | some (.cells vs) =>
    match vs[ver a]? with
    | some v =>
      if xs.length ≠ 0 ∧ a.off + xs.length ≤ v.cells.length ∧ xs.all scalar then
        some (.cells (setVer vs (ver a) (v.cells.take a.off ++ (xs ++ v.cells.drop (a.off + xs.length)))))
      else none
    | none => none
  | _ => none

/-- The cells of a value. -/
def vcells : Value → Option (List Value)
  | .agg cs => some cs.toList
  | .tuple _ => none
  | v => some [v]

def fillA (T : Nat → Value) : List Value → List (Nat × Nat × IOpd) → Option (List Value)
  | cells, [] => some cells
  | cells, (off, size, x) :: r =>
    match vcells (x.val T) with
    | some vs => if vs.length = size ∧ off + size ≤ cells.length then fillA T (cells.take off ++ (vs ++ cells.drop (off + size))) r else none
    | none => none

def asCell : Value → Option Addr
  | .pointer (some a) => some a
  | _ => none

def bnd (T : Nat → Value) (x : Option IOpd) (dflt lim : Nat) : Option Nat :=
  match x with
  | none => some dflt
  | some x => match x.val T with
    | .int _ i => if 0 ≤ i ∧ i ≤ lim then some i.toNat else none
    | _ => none

/-- The three bounds of a slice expression. -/
def bounds (T : Nat → Value) (len cap : Nat) (lo hi mx : Option IOpd) : Option (Nat × Nat × Nat) :=
  match bnd T mx cap cap with
  | none => none
  | some m => match bnd T hi len m with
    | none => none
    | some h => match bnd T lo 0 h with
      | none => none
      | some l => if h ≤ m then some (l, h, m) else none

def roomy (need bytes : Nat) : Bool := Nat.ble need 4611686018427387904 && Nat.ble (need * bytes) 140737488355328

/-- What is appended or copied: n elements. -/
def srcCells (esz n : Nat) : Value → Option (List Value × List Nat)
  | .slice (some b) _ _ => if n = 0 then some ([], []) else match loadN C M b (n * esz) with
    | some l => some (l, [b.block])
    | none => none
  | .slice none _ _ => if n = 0 then some ([], []) else none
  | .string s => some ((s.data.toList.take n).map fun b => .int .u8 b.toNat, [])
  | _ => none

def lenA : Value → Option Nat
  | .slice _ n _ => some n
  | .string s => some s.size
  | _ => none

/-- 'append' of m elements, whose cells are xs. -/
def appendA (ty : Option TypeId) (esz bytes : Nat) (s : Value) (m : Nat) (xs : List Value) (rd : List Nat) (nid : Nat) : Option AOut :=
  if xs.length = m * esz ∧ xs.all scalar then
    match s with
    | .slice none len cap =>
      if len = 0 ∧ cap = 0 then
        if m = 0 then some { v := s, rd } else
        if roomy m bytes then some { v := .slice (some ⟨nid, 0, none⟩) m m, new := some (.cells [⟨esz, xs, ty⟩]), rd } else none
      else none
    | .slice (some a) len cap =>
      if len + m ≤ cap then
        if m = 0 then some { v := s, rd } else
        match storeN M (aadd a (len * esz)) xs with
        | some o => some { v := .slice (some a) (len + m) cap, put := some (a.block, o), rd := a.block :: rd }
        | none => none
      else
        if roomy (len + m) bytes then
          match M a.block with
          | some .raw =>
            match loadN C M a (len * esz) with
            | some old => if old.all scalar then some { v := .slice (some ⟨nid, 0, none⟩) (len + m) (len + m), new := some (.cells [⟨esz, old ++ xs, ty⟩]), rd := a.block :: rd } else none
            | none => none
          | some (.cells vs) =>
            match vs[ver a]? with
            | some v =>
              if v.esz = 0 ∧ a.spot.isSome = true then
                match loadN C M a (len * esz) with
                | some old => if old.all scalar then some { v := .slice (some ⟨nid, 0, none⟩) (len + m) (len + m), new := some (.cells [⟨esz, old ++ xs, ty⟩]), rd := a.block :: rd } else none
                | none => none
              else
              let e := a.off + len * esz
              if (v.esz = 0 ∨ v.esz = esz) ∧ e ≤ v.cells.length ∧ ((v.cells.drop a.off).take (len * esz)).all scalar then
                some { v := .slice (some (mkAddr a.block vs.length 0)) (len + m) (len + m),
                       put := some (a.block, .cells ((if e = v.cells.length ∧ v.cells ≠ [] then killAfter vs (ver a) else setVer vs (ver a) (v.cells.take e)) ++
                         [⟨esz, (v.cells.drop a.off).take (len * esz) ++ xs, if a.off = 0 ∧ v.ty = ty then ty else none⟩])),
                       rd := a.block :: rd }
              else none
            | none => none
          | _ => none
        else none
    | _ => none
  else none

def cmpNum : BinOp → Int → Int → Option Bool
  | .eql, x, y => some (x == y)
  | .neq, x, y => some (x != y)
  | .lss, x, y => some (x < y)
  | .leq, x, y => some (x ≤ y)
  | .gtr, x, y => some (x > y)
  | .geq, x, y => some (x ≥ y)
  | _, _, _ => none

def binNum (op : BinOp) (k : IntKind) (x y : Int) : Option Value :=
  match op with
  | .add => some (.int k (k.wrap (x + y)))
  | .sub => some (.int k (k.wrap (x - y)))
  | .mul => some (.int k (k.wrap (x * y)))
  | .quo => if y = 0 then none else some (.int k (k.wrap (x.tdiv y)))
  | .rem => if y = 0 then none else some (.int k (x.tmod y))
  | .and => some (.int k (k.wrap (BitVec.ofInt k.bits x &&& BitVec.ofInt k.bits y).toNat))
  | .or => some (.int k (k.wrap (BitVec.ofInt k.bits x ||| BitVec.ofInt k.bits y).toNat))
  | .xor => some (.int k (k.wrap (BitVec.ofInt k.bits x ^^^ BitVec.ofInt k.bits y).toNat))
  | .andNot => some (.int k (k.wrap (BitVec.ofInt k.bits x &&& ~~~BitVec.ofInt k.bits y).toNat))
  | op => (cmpNum op x y).map .bool

def bytesEq : List UInt8 → List UInt8 → Bool
  | [], [] => true
  | a :: x, b :: y => Nat.beq a.toNat b.toNat && bytesEq x y
  | _, _ => false

def isNil : BK → Value → Option Bool
  | .ptr, .pointer a => some a.isNone
  | .slc, .slice a _ _ => some a.isNone
  | .mp, .map r => some r.isNone
  | .fn, .nilFunc => some true
  | .fn, .func _ _ _ => some false
  | .ifc, .nilIface => some true
  | .ifc, .iface _ _ => some false
  | _, _ => none

def refA (op : BinOp) (x y : Option Bool) : Option Value :=
  match op, x, y with
  | .eql, some true, some b => some (.bool b)
  | .eql, some false, some true => some (.bool false)
  | .neq, some true, some b => some (.bool !b)
  | .neq, some false, some true => some (.bool true)
  | _, _, _ => none

def binA (k : BK) (op : BinOp) (x y : Value) : Option Value :=
  match k with
  | .num =>
    match x, y with
    | .int k a, .int k' b =>
      match op with
      | .shl => if b < 0 then none else some (.int k (k.wrap (a * 2 ^ min b.toNat k.bits)))
      | .shr => if b < 0 then none else some (.int k (a.fdiv (2 ^ min b.toNat k.bits)))
      | op => if k = k' then binNum op k a b else none
    | _, _ => none
  | .boo =>
    match op, x, y with
    | .eql, .bool a, .bool b => some (.bool (a == b))
    | .neq, .bool a, .bool b => some (.bool (!(a == b)))
    | _, _, _ => none
  | .str =>
    match op, x, y with
    | .eql, .string a, .string b => some (.bool (bytesEq a.data.toList b.data.toList))
    | .neq, .string a, .string b => some (.bool (!(bytesEq a.data.toList b.data.toList)))
    | .add, .string a, .string b => if Nat.ble (a.data.toList ++ b.data.toList).length 4611686018427387904 then some (.string ⟨(a.data.toList ++ b.data.toList).toArray⟩) else none
    | _, _, _ => none
  | .ptr =>
    match op, x, y with
    | .eql, .pointer (some a), .pointer (some b) => if a.block = b.block ∧ ver a = ver b ∧ a.off = b.off then some (.bool true) else none
    | .neq, .pointer (some a), .pointer (some b) => if a.block = b.block ∧ ver a = ver b ∧ a.off = b.off then some (.bool false) else none
    | _, _, _ => refA op (isNil .ptr x) (isNil .ptr y)
  | k => refA op (isNil k x) (isNil k y)

def toBytes : List Value → Option (List UInt8)
  | [] => some []
  | .int .u8 n :: r => (toBytes r).map (UInt8.ofNat n.toNat :: ·)
  | _ => none

/-- Two cells, held against each other. -/
def eqS (c : CK) (x y : Value) : Option Bool := match c, x, y with
  | .num, .int k a, .int k' b => if k = k' then some (a == b) else none
  | .str, .string a, .string b => some (bytesEq a.data.toList b.data.toList)
  | .boo, .bool a, .bool b => some (a == b)
  | _, _, _ => none

def eqOffs (xs ys : List Value) : List (Nat × CK) → Option Bool
  | [] => some true
  | (o, c) :: r => match xs[o]?, ys[o]? with
    | some x, some y => match eqS c x y, eqOffs xs ys r with
      | some a, some b => some (a && b)
      | _, _ => none
    | _, _ => none

/-- Two values, held against each other at the cells that count. -/
def keyEq (kp : KPlan) (x y : Value) : Option Bool := match kp, x, y with
  | .sc c, x, y => eqS c x y
  | .ag l, .agg a, .agg b => eqOffs a.toList b.toList l
  | .ag _, _, _ => none

/-- The place and the value of a key. -/
def findA (kp : KPlan) (k : Value) : List (Value × Value) → Nat → Option (Option (Nat × Value × Value))
  | [], _ => some none
  | e :: es, i =>
    match keyEq kp k e.1 with
    | some true => some (some (i, e))
    | some false => findA kp k es (i + 1)
    | none => none

/-- A key: its cells count, each of them. -/
def isKey (kp : KPlan) (k : Value) : Bool := (keyEq kp k k).isSome

def sameCell : Value → Value → Bool
  | .int k a, .int k' b => decide (k = k') && a == b
  | .string a, .string b => bytesEq a.data.toList b.data.toList
  | .bool a, .bool b => a == b
  | _, _ => false

def sameAll : List Value → List Value → Bool
  | [], [] => true
  | x :: r, y :: s => sameCell x y && sameAll r s
  | _, _ => false

/-- The same to the last cell. -/
def sameKey : Value → Value → Bool
  | .agg a, .agg b => sameAll a.toList b.toList
  | x, y => sameCell x y

/-- An operation that is no call. 'nid': the number of the object that it makes, if it makes one. -/
def evalOp (T : Nat → Value) (nid : Nat) : IOp → Option AOut
  | .mv x => some { v := x.val T }
  | .pick c a b => match c.val T with
    | .bool t => some { v := if t then a.val T else b.val T }
    | _ => none
  | .mk ty cells => some { v := .pointer (some ⟨nid, 0, none⟩), new := some (.cells [⟨0, cells, some ty⟩]) }
  | .box n x => match vcells (x.val T) with
    | some cs => if cs.length = n ∧ cs.all scalar then some { v := .pointer (some ⟨nid, 0, none⟩), new := some (.cells [⟨0, cs, none⟩]) } else none
    | none => none
  | .build zero parts => (fillA T zero parts).map fun cs => { v := .agg cs.toArray }
  | .buildSlice len zero parts => match fillA T zero parts with
    | some cs => if cs.all scalar then some { v := .slice (some ⟨nid, 0, none⟩) len len, new := some (.cells [⟨0, cs, none⟩]) } else none
    | none => none
  | .load1 x => match asCell (x.val T) with
    | some a => match loadN C M a 1 with
      | some [v] => some { v, rd := [a.block], lk := some (a, [v]) }
      | _ => none
    | none => none
  | .loadN n x => match asCell (x.val T) with
    | some a => (loadN C M a n).map fun l => { v := .agg l.toArray, rd := [a.block], lk := some (a, l) }
    | none => none
  | .store n a x => match asCell (a.val T), vcells (x.val T) with
    | some a, some cs => if cs.length = n then match storeN M a cs with
      | some o => some { v := undef, put := some (a.block, o), rd := [a.block] }
      | none => none
      else none
    | _, _ => none
  | .nilCheck x => match x.val T with
    | .pointer (some a) => some { v := .pointer (some a) }
    | .func (.func f) first captured => some { v := .func (.func f) first captured }
    | _ => none
  | .bin k op x y => (binA k op (x.val T) (y.val T)).map fun v => { v }
  | .not x => match x.val T with
    | .bool b => some { v := .bool (!b) }
    | _ => none
  | .neg x => match x.val T with
    | .int k n => some { v := .int k (k.wrap (0 - n)) }
    | _ => none
  | .conv k x => match x.val T with
    | .int _ n => some { v := .int k (k.wrap n) }
    | _ => none
  | .toStr x => match x.val T with
    | .slice none _ _ => some { v := .string .empty }
    | .slice (some a) n _ => if n = 0 then some { v := .string .empty } else match loadN C M a n with
      | some l => (toBytes l).map fun bs => { v := .string ⟨bs.toArray⟩, rd := [a.block] }
      | none => none
    | _ => none
  | .faddr off x => match asCell (x.val T) with
    | some a => some { v := .pointer (some (aadd a off)) }
    | none => none
  | .field off n agg x => match x.val T with
    | .agg cs => if agg then some { v := .agg (cs.extract off (off + n)) } else (cs[off]?).map fun v => { v }
    | _ => none
  | .idxS esz x i => match x.val T, i.val T with
    | .slice (some a) len _, .int _ i => if 0 ≤ i ∧ i < len then some { v := .pointer (some (aadd a (i.toNat * esz))) } else none
    | _, _ => none
  | .idxA len esz x i => match asCell (x.val T), i.val T with
    | some a, .int _ i => if 0 ≤ i ∧ i < len then some { v := .pointer (some (aadd a (i.toNat * esz))) } else none
    | _, _ => none
  | .idxV len esz agg x i => match x.val T, i.val T with
    | .agg cs, .int _ i => if 0 ≤ i ∧ i < len then (if agg then some { v := .agg (cs.extract (i.toNat * esz) (i.toNat * esz + esz)) } else (cs[i.toNat * esz]?).map fun v => { v }) else none
    | _, _ => none
  | .idxStr x i => match x.val T, i.val T with
    | .string s, .int _ i => if 0 ≤ i then (s.data.toList[i.toNat]?).map fun b => { v := .int .u8 b.toNat } else none
    | _, _ => none
  | .sliceS esz x lo hi mx => match x.val T with
    | .slice none len cap => if len = 0 ∧ cap = 0 then (bounds T 0 0 lo hi mx).map fun _ => { v := .slice none 0 0 } else none
    | .slice (some a) len cap =>
      match bounds T len cap lo hi mx with
      | none => none
      | some (l, h, m) =>
        let out : AOut := { v := .slice (some (aadd a (l * esz))) (h - l) (m - l), rd := [a.block] }
        match M a.block with
        | some .raw => if a.spot.isNone then some out else none
        | some (.cells vs) => match vs[ver a]? with
          | some v => if v.esz = 0 ∨ v.esz = esz then some out else none
          | none => none
        | _ => none
    | _ => none
  | .sliceA n esz x lo hi mx => match asCell (x.val T) with
    | some a => (bounds T n n lo hi mx).map fun (l, h, m) => { v := .slice (some (aadd a (l * esz))) (h - l) (m - l) }
    | none => none
  | .sliceStr x lo hi => match x.val T with
    | .string s => (bounds T s.size s.size lo hi none).map fun (l, h, _) => { v := .string (s.extract l h) }
    | _ => none
  | .lenC n => some { v := .int .i64 n }
  | .len x => match x.val T with
    | .slice _ n _ => some { v := .int .i64 n }
    | _ => none
  | .lenStr x => match x.val T with
    | .string s => some { v := .int .i64 s.size }
    | _ => none
  | .lenM x => match x.val T with
    | .map none => some { v := .int .i64 0 }
    | .map (some r) => match M r with
      | some (.map es) => some { v := .int .i64 es.length, rd := [r] }
      | _ => none
    | _ => none
  | .cap x => match x.val T with
    | .slice none _ c => some { v := .int .i64 c }
    | .slice (some a) _ c => match M a.block with
      | some .raw => if a.spot.isNone then some { v := .int .i64 c, rd := [a.block] } else none
      | some (.cells vs) => match vs[ver a]? with
        | some v => if v.esz = 0 then some { v := .int .i64 c, rd := [a.block] } else none
        | none => none
      | _ => none
    | _ => none
  | .append ty esz bytes s x => match lenA (x.val T) with
    | some m => match srcCells C M esz m (x.val T) with
      | some (xs, rd) => appendA C M (some ty) esz bytes (s.val T) m xs rd nid
      | none => none
    | none => none
  | .appendZ bytes zero s n => match n.val T with
    | .int _ i => if 0 ≤ i ∧ i < 1099511627776 ∧ i * bytes ≤ 281474976710656 then
        appendA C M none zero.length bytes (s.val T) i.toNat (List.replicate i.toNat zero).flatten [] nid
      else none
    | _ => none
  | .copy esz d s => match d.val T, lenA (s.val T) with
    | .slice base dl _, some sl =>
      let n := Nat.min sl dl
      if n = 0 then some { v := .int .i64 0 } else
      match base, srcCells C M esz n (s.val T) with
      | some a, some (xs, rd) => match storeN M a xs with
        | some o => if xs.length = n * esz then some { v := .int .i64 n, put := some (a.block, o), rd := a.block :: rd } else none
        | none => none
      | _, _ => none
    | _, _ => none
  | .clear zero x => match x.val T with
    | .slice _ 0 _ => some { v := undef }
    | .slice (some a) n _ => match storeN M a (List.replicate n zero).flatten with
      | some o => some { v := undef, put := some (a.block, o), rd := [a.block] }
      | none => none
    | _ => none
  | .mkSlice bytes zero n c => match n.val T, c.val T with
    | .int _ n, .int _ c => if 0 ≤ n ∧ n ≤ c ∧ c < 1099511627776 ∧ bytes * c ≤ 281474976710656 ∧ zero.all scalar then
        some { v := .slice (some ⟨nid, 0, none⟩) n.toNat c.toNat, new := some (.cells [⟨0, (List.replicate c.toNat zero).flatten, none⟩]) }
      else none
    | _, _ => none
  | .minI x y => match x.val T, y.val T with
    | .int k a, .int _ b => some { v := .int k (if b < a then b else a) }
    | _, _ => none
  | .maxI x y => match x.val T, y.val T with
    | .int k a, .int _ b => some { v := .int k (if b > a then b else a) }
    | _, _ => none
  | .extract k x => match x.val T with
    | .tuple vs => if 2 ≤ vs.size then (vs.toList[k]?).map fun v => { v } else match k, vs.toList with
      | 0, [.bool false] => some { v := .bool false }
      | _, _ => none
    | _ => none
  | .mkfn fn first captured => some { v := .func fn (first.map (·.val T)).toArray (captured.map (·.val T)).toArray }
  | .call _ _ => none
  | .mkmap => some { v := .map (some nid), new := some (.map []) }
  | .mrange x => match x.val T with
    | .map none => some { v := .pointer (some ⟨nid, 0, none⟩), new := some .iter }
    | _ => none
  | .mnext x => match x.val T with
    | .pointer (some a) => match M a.block with
      | some .iter => if a.off = 0 ∧ a.spot.isNone then some { v := .tuple #[.bool false], rd := [a.block] } else none
      | _ => none
    | _ => none
  | .insert kp m k x => match m.val T with
    | .map (some r) => match M r with
      | some (.map es) =>
        if isKey kp (k.val T) then
          match findA kp (k.val T) es 0 with
          | some (some (i, e)) => if sameKey e.1 (k.val T) then some { v := undef, put := some (r, .map (es.set i (k.val T, x.val T))), rd := [r] } else none
          | some none => some { v := undef, put := some (r, .map (es ++ [(k.val T, x.val T)])), rd := [r] }
          | none => none
        else none
      | _ => none
    | _ => none
  | .lookup kp zero ok m k => match m.val T with
    | .map (some r) => match M r with
      | some (.map es) =>
        if isKey kp (k.val T) then
          match findA kp (k.val T) es 0 with
          | some (some (_, e)) => some { v := if ok then .tuple #[e.2, .bool true] else e.2, rd := [r] }
          | some none => some { v := if ok then .tuple #[zero, .bool false] else zero, rd := [r] }
          | none => none
        else none
      | _ => none
    | _ => none
  | .mentry kp zero m k => match m.val T with
    | .map (some r) => match M r with
      | some (.map es) =>
        if isKey kp (k.val T) then
          match findA kp (k.val T) es 0 with
          | some (some (i, e)) => if sameKey e.1 (k.val T) then some { v := .tuple #[e.2, .int .i64 i], put := some (r, .map (es.set i (k.val T, e.2))), rd := [r] } else none
          | some none => some { v := .tuple #[zero, .int .i64 es.length], put := some (r, .map (es ++ [(k.val T, zero)])), rd := [r] }
          | none => none
        else none
      | _ => none
    | _ => none
  | .mstore m k v => match m.val T, k.val T with
    | .map (some r), .int .i64 i => match M r with
      | some (.map es) => if 0 ≤ i then
          match es[i.toNat]? with
          | some e => some { v := undef, put := some (r, .map (es.set i.toNat (e.1, v.val T))), rd := [r] }
          | none => none
        else none
      | _ => none
    | _, _ => none
  | .eqF kp neg x y => (keyEq kp (x.val T) (y.val T)).map fun b => { v := .bool (if neg then !b else b) }
  | .rune x => match x.val T with
    | .int _ i => some { v := .string (Utf8.encode i) }
    | _ => none
  | .sdata x => match x.val T with
    | .slice none 0 0 => some { v := .pointer none }
    | .slice (some a) _ (_ + 1) => some { v := .pointer (some a) }
    | _ => none
  | .ustr u x n => match x.val T, n.val T with
    | .pointer none, .int .i64 0 => some { v := .string ⟨#[]⟩ }
    | .pointer (some a), .int .i64 n => match M a.block with
      | some (.cells vs) => match vs[ver a]? with
        | some v => if v.ty = some u ∧ 1 ≤ n ∧ n < 1099511627776 ∧ a.off = 0 ∧ n.toNat ≤ v.cells.length then
            (toBytes (v.cells.take n.toNat)).map fun b => { v := .string ⟨b.toArray⟩, put := some (a.block, .gone), rd := [a.block] }
          else none
        | none => none
      | _ => none
    | _, _ => none
  | .toU x => match x.val T with
    | .pointer (some a) => match M a.block with
      | some (.cells vs) => match vs[ver a]? with
        | some v => if a.off < v.cells.length then some { v := .pointer (some a), rd := [a.block] } else none
        | none => none
      | _ => none
    | _ => none
  | .frU u n x => match x.val T with
    | .pointer (some a) => match M a.block with
      | some (.cells vs) => match vs[ver a]? with
        | some v => if v.ty = some u ∧ a.off = 0 ∧ n ≤ v.cells.length then some { v := .pointer (some a), rd := [a.block] } else none
        | none => none
      | _ => none
    | _ => none
  | .mkiface t x => some { v := .iface t (x.val T) }
  | .bad => none

end ops

/-! ### the evaluator -/
/-- What stands for a value that was not wanted. -/
def absent : Value := .tuple #[.tuple #[]]

def putDst (T : Env) (dst : Option Nat) (v : Value) : Env := match dst with
  | some d => T.put d v
  | none => T

def AHeap.apply (H : AHeap) (o : AOut) : AHeap :=
  let H1 := match o.put with | some (b, x) => H.put b x | none => H
  match o.new with | some x => H1.push x | none => H1

/-- What is remembered of an operation of a region: which objects it looked at, which it turned or made; of a call the memory before and behind it. -/
inductive Info where
  | exp (rd md : List Nat)
  | call (b a : AHeap)
  | look (a : Addr) (l : List Value)

def AOut.mods (o : AOut) (nid : Nat) : List Nat :=
  (match o.put with | some (b, _) => [b] | none => []) ++ (match o.new with | some _ => [nid] | none => [])

def AOut.info (o : AOut) (nid : Nat) : Info := match o.lk with
  | some (a, l) => .look a l
  | none => .exp o.rd (o.mods nid)

def same (C : Ctx) (a b : Option AObj) : Bool := match a, b with
  | some a, some b => C.eqb a b
  | _, _ => false

def disj (a b : List Nat) : Bool := a.all fun x => b.all fun y => !Nat.beq x y

/-- Do the cells from an address on read so? -/
def reads (C : Ctx) (H : AHeap) (a : Addr) (l : List Value) : Bool := match loadN C H.get a l.length with
  | some l' => C.eqb (.cells [⟨0, l', none⟩]) (.cells [⟨0, l, none⟩])
  | none => false

/-- May two operations whose order is open change places? (The one ahead, the one behind.) -/
def free (C : Ctx) : Info → Info → Bool
  | .exp rk mk, .exp ri mi => disj mk ri && (disj mk mi && disj mi rk)
  | .call Hb Ha, .exp ri mi => (ri.all fun b => Nat.ble Ha.next b || (Nat.blt b Hb.next && same C (Hb.get b) (Ha.get b))) && mi.all fun b => Nat.ble Ha.next b
  | .exp _ mk, .look a _ => disj mk [a.block]
  | .look a _, .exp _ mi => disj mi [a.block]
  | .look _ _, .look _ _ => true
  | .call Hb Ha, .look a l => Nat.ble Ha.next a.block || (Nat.blt a.block Hb.next && reads C Hb a l)
  | _, .call _ _ => false

structure St where
  T : Env
  H : AHeap
  ds : List Nat

structure Orc where
  call : Value → List Value → AHeap → Option (Value × AHeap)
  loop : Option Nat → ICode → St → Option (AExit × St)

/-- Is an operation wanted? none: not known. -/
def wantedA (T : Nat → Value) : Option (Nat × Bool) → Option Bool
  | none => some true
  | some (t, b) => match T t with
    | .bool x => some (x == b)
    | .tuple vs => match vs.toList with
      | [.tuple _] => some false
      | _ => none
    | _ => none

section eval
variable (C : Ctx) (o : Orc)

def stepA (x : IOper) (T : Env) (H : AHeap) : Option (Env × AHeap × Info) :=
  match wantedA T.val x.g with
  | none => none
  | some false => some (putDst T x.dst absent, H, .exp [] [])
  | some true =>
    match x.op with
    | .call f args => match o.call (f.val T.val) (args.map (·.val T.val)) H with
      | some (v, H') => some (putDst T x.dst v, H', .call H H')
      | none => none
    | op => match evalOp C H.get T.val H.next op with
      | some out => some (putDst T x.dst out.v, H.apply out, out.info H.next)
      | none => none

def opsA : List IOper → Env → AHeap → Option (Env × AHeap)
  | [], T, H => some (T, H)
  | x :: r, T, H => match stepA C o x T H with
    | some (T', H', _) => opsA r T' H'
    | none => none

def freeAll (log : List Info) (i : Info) : List Nat → Bool
  | [] => true
  | d :: r => match log[d]? with
    | some k => free C k i && freeAll log i r
    | none => false

def dopsA : List (Nat × IOper × List Nat) → List Info → Env → AHeap → Option (Env × AHeap)
  | [], _, T, H => some (T, H)
  | (_, x, un) :: r, log, T, H => match stepA C o x T H with
    | some (T', H', i) => if freeAll C log i un then dopsA r (i :: log) T' H' else none
    | none => none

def setParams (T : Env) : List Nat → List Value → Env
  | p :: ps, v :: vs => setParams (T.put p v) ps vs
  | _, _ => T

def isFn : Value → Bool
  | .func (.func _) _ _ => true
  | _ => false

def inLoop (ro : Option Nat) (H : AHeap) : Bool := match ro with
  | none => true
  | some l => match H.get l with
    | some (.loop _) => true
    | _ => false

def codeA (ro : Option Nat) : ICode → St → Option (AExit × St)
  | .skip, s => some (.normal, s)
  | .region ops, s => match opsA C o ops s.T s.H with
    | some (T, H) => some (.normal, ⟨T, H, s.ds⟩)
    | none => none
  | .dregion ops, s => match dopsA C o ops [] s.T s.H with
    | some (T, H) => some (.normal, ⟨T, H, s.ds⟩)
    | none => none
  | .seq a b, s => match codeA ro a s with
    | some (.normal, s') => codeA ro b s'
    | r => r
  | .cond x a b, s => match x.val s.T.val with
    | .bool true => codeA ro a s
    | .bool false => codeA ro b s
    | _ => none
  | .block id c, s => match codeA ro c s with
    | some (.exit i, s') => if i = id then some (.normal, s') else some (.exit i, s')
    | r => r
  | .loop c, s => o.loop ro c s
  | .exit id, s => some (.exit id, s)
  | .ret, s => some (.ret, s)
  | .bad, _ => none
  | .rangeFunc f ps assign body, s =>
    match isFn (f.val s.T.val) && inLoop ro s.H with
    | false => none
    | true =>
    let H1 := match ro with | none => s.H.push (.deferred true) | some _ => s.H
    let ds := match ro with | none => s.H.next :: s.ds | some _ => s.ds
    let l := H1.next
    let H2 := H1.push (.loop { state := .ready, pending := none, T := s.T, params := ps, assign, body })
    match o.call (f.val s.T.val) [.func (.yield l) #[] #[]] H2 with
    | none => none
    | some (_, H3) =>
      match H3.get l with
      | some (.loop L) =>
        if L.state = .busy then none else
        some (L.pending.getD .normal, ⟨s.T, H3.put l (.loop { L with state := .exhausted }), ds⟩)
      | _ => none

/-- The results of a function. -/
def resA (T : Nat → Value) (M : Nat → Option AObj) : IRes → Option Value
  | .tmp t => some (T t)
  | .cell1 t => match asCell (T t) with
    | some a => match loadN C M a 1 with
      | some [v] => some v
      | _ => none
    | none => none
  | .cellN t n => match asCell (T t) with
    | some a => (loadN C M a n).map fun l => .agg l.toArray
    | none => none

def resAll (T : Nat → Value) (M : Nat → Option AObj) : List IRes → Option (List Value)
  | [] => some []
  | r :: rs => match resA C T M r, resAll T M rs with
    | some v, some vs => some (v :: vs)
    | _, _ => none

def oneOrTuple : List Value → Value
  | [v] => v
  | vs => .tuple vs.toArray

/-- The marks of the loops over functions are shut. -/
def shut : List Nat → AHeap → Option AHeap
  | [], H => some H
  | d :: ds, H => match H.get d with
    | some (.deferred true) => shut ds (H.put d (.deferred false))
    | _ => none

def ofArgs : List Value → Nat → Env → Env
  | [], _, T => T
  | v :: vs, i, T => ofArgs vs (i + 1) (T.put i v)

/-- A function of the table is called. -/
def callFn (F : IFunc) (as : List Value) (H : AHeap) : Option (Value × AHeap) :=
  match codeA C o none F.body ⟨ofArgs as 0 .empty, H, []⟩ with
  | none => none
  | some (e, s) =>
    match e with
    | .exit _ => none
    | _ =>
      match shut s.ds s.H with
      | none => none
      | some H' => match resAll C s.T.val H'.get F.results with
        | some vs => some (oneOrTuple vs, H')
        | none => none

/-- A round ends. -/
def endRound (l : Nat) (e : AExit) (s : St) : Option (Value × AHeap) :=
  match s.H.get l with
  | some (.loop L) =>
    if s.ds.isEmpty then
      if e = .normal then some (.bool true, s.H.put l (.loop { L with state := .ready, pending := none }))
      else some (.bool false, s.H.put l (.loop { L with state := .done, pending := some e }))
    else none
  | _ => none

/-- A round's body. -/
def bodyRound (l : Nat) (body : ICode) (s : St) : Option (Value × AHeap) :=
  match s.H.get l with
  | some (.loop L) =>
    if L.state = .ready then
      match codeA C o (some l) body ⟨s.T, s.H.put l (.loop { L with state := .busy }), s.ds⟩ with
      | some (e, s') => endRound l e s'
      | none => none
    else none
  | _ => none

/-- 'yield' is called: a round of a loop over a function. -/
def callYield (l : Nat) (args : List Value) (H : AHeap) : Option (Value × AHeap) :=
  match H.get l with
  | some (.loop L) =>
    if L.state = .ready ∧ args.length = L.params.length then
      match codeA C o (some l) L.assign ⟨setParams L.T L.params args, H, []⟩ with
      | some (e, s) => if e = .normal then bodyRound C o l L.body s else none
      | none => none
    else none
  | _ => none

def callA (f : Value) (args : List Value) (H : AHeap) : Option (Value × AHeap) :=
  match f with
  | .func fn first captured =>
    match fn with
    | .func k =>
      match C.known k (first.toList ++ (args ++ captured.toList)) H with
      | some r => some r
      | none =>
        match C.funcs.get k with
        | none => none
        | some F => callFn C o F (first.toList ++ (args ++ captured.toList)) H
    | .yield l => if first.isEmpty && captured.isEmpty then callYield C o l args H else none
    | _ => none
  | _ => none

/-- A loop: its body, and on. -/
def loopA (ro : Option Nat) (c : ICode) (s : St) : Option (AExit × St) :=
  match codeA C o ro c s with
  | some (.normal, s') => o.loop ro c s'
  | r => r
end eval

def orc (C : Ctx) : Nat → Orc
  | 0 => { call := fun _ _ _ => none, loop := fun _ _ _ => none }
  | n + 1 => { call := callA C (orc C n), loop := loopA C (orc C n) }

/-- A function's call. -/
def run (C : Ctx) (n : Nat) (f : FuncId) (args : List Value) (H : AHeap) : Option (Value × AHeap) := (orc C n).call (.func (.func f) #[] #[]) args H

end Go.Ak

namespace Go.Ak

section comp
variable (P : Program)

def opd : Operand → Option IOpd
  | .tmp t => some (.t t)
  | .const v => if clean 0 v then some (.c v) else none
  | .func f => some (.c (.func (.func f) #[] #[]))
  | .global _ => none

def opds : List Operand → Option (List IOpd)
  | [] => some []
  | x :: r => match opd x, opds r with
    | some y, some ys => some (y :: ys)
    | _, _ => none

def isAggT (t : TypeId) : Option Bool := match P.underlying t with
  | some (.struct _) | some (.array _ _) => some true
  | some _ => some false
  | none => none

/-- The cells of a type's zero value. -/
def zeroOf (t : TypeId) : Option (List Value) := match P.info? t with
  | some i => match i.zero with
    | some z => if z.cells.toList.all (cleanS 0) then some z.cells.toList else none
    | none => none
  | none => none

def zeroVal (t : TypeId) : Option Value := match P.info? t with
  | some i => match i.zero with
    | some z => if clean 0 z then some z else none
    | none => none
  | none => none

def sizeT (t : TypeId) : Option Nat := (P.info? t).map (·.size)
def bytesT (t : TypeId) : Option Nat := (P.info? t).map (·.bytes)

/-- Where a field or an element of a type lies. -/
def placeOf (t : TypeId) (i : Nat) : Option (Nat × Nat) := match P.underlying t with
  | some (.struct fs) => match fs[i]? with
    | some f => (sizeT P f.type).map fun n => (f.offset, n)
    | none => none
  | some (.array _ e) => (sizeT P e).map fun n => (i * n, n)
  | _ => none

def partsOf (place : Nat → Option (Nat × Nat)) : List (Nat × Operand) → Option (List (Nat × Nat × IOpd))
  | [] => some []
  | (i, x) :: r => match place i, opd x, partsOf place r with
    | some (off, n), some y, some ps => some ((off, n, y) :: ps)
    | _, _, _ => none

def bkOf (t : TypeId) : Option BK := match P.underlying t with
  | some (.int _) => some .num
  | some .bool => some .boo
  | some .string => some .str
  | some (.pointer e) => if (P.info? e).isSome then some .ptr else none
  | some (.slice _) => some .slc
  | some (.map _ _) => some .mp
  | some (.func _ _ _) => some .fn
  | some (.interface _) => some .ifc
  | _ => none

/-- A struct or an array. -/
def aggT (t : TypeId) : Bool := match P.underlying t with
  | some (.struct _) | some (.array _ _) => true
  | _ => false

def isConstO : Operand → Bool
  | .const _ => true
  | _ => false

def optOpd : Option Operand → Option (Option IOpd)
  | none => some none
  | some x => (opd x).map some

/-- The cells of a value of a type that count where two are held against each other (all of them numbers, strings, truths). -/
def offsAll {α : Type} (f : α → Option (List (Nat × CK))) : List α → Option (List (Nat × CK))
  | [] => some []
  | i :: r => match f i, offsAll f r with
    | some a, some b => some (a ++ b)
    | _, _ => none

def shiftOffs (off n : Nat) (l : List (Nat × CK)) : Option (List (Nat × CK)) := if l.all fun x => Nat.blt x.1 n then some (l.map fun x => (off + x.1, x.2)) else none

def ckT (t : TypeId) : Option CK := match P.underlying t with
  | some (.int _) => some .num
  | some .string => some .str
  | some .bool => some .boo
  | _ => none

def offsT : Nat → TypeId → Option (List (Nat × CK))
  | 0, _ => none
  | d + 1, t => match P.underlying t with
    | some (.int _) => some [(0, .num)]
    | some .string => some [(0, .str)]
    | some .bool => some [(0, .boo)]
    | some (.struct fs) => if P.stoodInHeld t then none else offsAll (fun f : Field => if f.name = "_" then none else match sizeT P f.type, offsT d f.type with
          | some n, some l => shiftOffs f.offset n l
          | _, _ => none) fs.toList
    | some (.array len e) => match sizeT P e, offsT d e with
      | some n, some l => offsAll (fun i => shiftOffs (i * n) n l) (List.range len)
      | _, _ => none
    | _ => none

def keyT (t : TypeId) : Option KPlan := match ckT P t with
  | some c => some (.sc c)
  | none => (offsT P 8 t).map .ag

/-- All fields have some size. -/
def fieldsOK (t : TypeId) : Bool := match P.underlying t with
  | some (.struct fs) => fs.toList.all fun f => (sizeT P f.type).isSome
  | some (.array _ e) => (sizeT P e).isSome
  | _ => false

def compBuiltin (b : Builtin) (ts : Array TypeId) (args : List Operand) : Option IOp :=
  match b, ts.toList, args with
  | .len, t :: _, [x] => match P.underlying t, opd x with
    | some .string, some y => some (.lenStr y)
    | some (.slice _), some y => some (.len y)
    | some (.array n _), some _ => some (.lenC n)
    | some (.map _ _), some y => some (.lenM y)
    | some (.pointer e), some _ => match P.underlying e with
      | some (.array n _) => some (.lenC n)
      | _ => none
    | _, _ => none
  | .cap, t :: _, [x] => match P.underlying t, opd x with
    | some (.slice _), some y => some (.cap y)
    | some (.array n _), some _ => some (.lenC n)
    | _, _ => none
  | .append, t :: u :: _, [x, y] => match P.underlying t, opd x, opd y with
    | some (.slice e), some a, some b =>
      match sizeT P e, bytesT P e, P.underlying u with
      | some n, some m, some d =>
        if 1 ≤ n then
          match zeroOf P e with
          | some z =>
            if z.length = n then
              match d with
              | .int _ => some (.appendZ m z a b)
              | .slice _ => some (.append e n m a b)
              | .string => some (.append e n m a b)
              | _ => none
            else none
          | none => none
        else none
      | _, _, _ => none
    | _, _, _ => none
  | .copy, t :: _, [x, y] => match P.underlying t, opd x, opd y with
    | some (.slice e), some a, some b => match sizeT P e with
      | some n => if 1 ≤ n then some (.copy n a b) else none
      | none => none
    | _, _, _ => none
  | .clear, t :: _, [x] => match P.underlying t, opd x with
    | some (.slice e), some a => match zeroOf P e with
      | some z => some (.clear z a)
      | none => none
    | _, _ => none
  | .min, _, [x, y] => match opd x, opd y with
    | some a, some b => some (.minI a b)
    | _, _ => none
  | .max, _, [x, y] => match opd x, opd y with
    | some a, some b => some (.maxI a b)
    | _, _ => none
  | .unsafeSliceData, _, [x] => (opd x).map .sdata
  | .unsafeString, t :: _, [x, y] => match P.underlying t, opd x, opd y with
    | some (.pointer u), some a, some b => if Nat.beq (P.cellsOf u) 1 then some (.ustr u a b) else none
    | _, _, _ => none
  | _, _, _ => none

def compOp? : Op → Option IOp
  | .move x | .assign x => (opd x).map .mv
  | .pick c a b => match opd c, opd a, opd b with
    | some c, some a, some b => some (.pick c a b)
    | _, _, _ => none
  | .alloc e => (zeroOf P e).map (.mk e)
  | .box e x => match sizeT P e, opd x with
    | some n, some y => some (.box n y)
    | _, _ => none
  | .build t ps => match zeroOf P t, partsOf (placeOf P t) ps.toList with
    | some z, some qs => if fieldsOK P t then some (.build z qs) else none
    | _, _ => none
  | .buildSlice t len ps => match P.underlying t with
    | some (.slice e) => match sizeT P e, zeroOf P e with
      | some n, some z =>
        if len * n ≤ 16777216 ∧ z.length = n then
          match partsOf (fun i => some (i * n, n)) ps.toList with
          | some qs => some (.buildSlice len (List.replicate len z).flatten qs)
          | none => none
        else none
      | _, _ => none
    | _ => none
  | .load t x => match isAggT P t, sizeT P t, opd x with
    | some true, some n, some y => some (.loadN n y)
    | some false, some _, some y => some (.load1 y)
    | _, _, _ => none
  | .store t a x => match sizeT P t, opd a, opd x with
    | some n, some b, some y => some (.store n b y)
    | _, _, _ => none
  | .nilCheck x => (opd x).map .nilCheck
  | .binOp op t x y _ => if aggT P t then (match op, offsT P 8 t, opd x, opd y with
      | .eql, some offs, some a, some b => if P.eqGuardType P.depth t then none else some (.eqF (.ag offs) false a b)
      | .neq, some offs, some a, some b => if P.eqGuardType P.depth t then none else some (.eqF (.ag offs) true a b)
      | _, _, _, _ => none) else match bkOf P t, opd x, opd y with
    | some k, some a, some b => if k = .ifc then (if isConstO x || isConstO y then some (.bin k op a b) else none) else some (.bin k op a b)
    | _, _, _ => none
  | .unOp .not _ x => (opd x).map .not
  | .unOp .neg _ x => (opd x).map .neg
  | .convert s d x => match P.underlying s, P.underlying d, opd x with
    | some (.int _), some (.int k), some y => some (.conv k y)
    | some (.slice e), some .string, some y => match P.underlying e with
      | some (.int .u8) => some (.toStr y)
      | _ => none
    | some (.int _), some .string, some y => some (.rune y)
    | some (.pointer u), some .unsafePointer, some y => match sizeT P u with
      | some n => if n = 0 then none else some (.toU y)
      | none => none
    | some .unsafePointer, some (.pointer u), some y => match sizeT P u with
      | some n => if n = 0 then none else some (.frU u n y)
      | none => none
    | _, _, _ => none
  | .fieldAddr s x f => match P.underlying s, opd x with
    | some (.struct fs), some y => match fs[f]? with
      | some g => match sizeT P g.type with
        | some n => if n = 0 then none else some (.faddr g.offset y)
        | none => none
      | none => none
    | _, _ => none
  | .field s x f => match P.underlying s, opd x with
    | some (.struct fs), some y => match fs[f]? with
      | some g => match sizeT P g.type, isAggT P g.type with
        | some n, some b => some (.field g.offset n b y)
        | _, _ => none
      | none => none
    | _, _ => none
  | .indexAddr t x i => match P.underlying t, opd x, opd i with
    | some (.slice e), some y, some j => (sizeT P e).map fun n => .idxS n y j
    | some (.array len e), some y, some j => (sizeT P e).map fun n => .idxA len n y j
    | _, _, _ => none
  | .index t x i => match P.underlying t, opd x, opd i with
    | some (.array len e), some y, some j => match sizeT P e, isAggT P e with
      | some n, some b => some (.idxV len n b y j)
      | _, _ => none
    | some .string, some y, some j => some (.idxStr y j)
    | _, _, _ => none
  | .slice t x lo hi mx => match P.underlying t, opd x, optOpd lo, optOpd hi, optOpd mx with
    | some (.slice e), some y, some l, some h, some m => if hi.isNone && mx.isSome then none else (sizeT P e).map fun n => .sliceS n y l h m
    | some (.array k e), some y, some l, some h, some m => if hi.isNone && mx.isSome then none else (sizeT P e).map fun n => .sliceA k n y l h m
    | some .string, some y, some l, some h, some _ => if mx.isSome then none else some (.sliceStr y l h)
    | _, _, _, _, _ => none
  | .extract x k => (opd x).map (.extract k)
  | .makeFunc fn first captured => match fn, opds first.toList, opds captured.toList with
    | .func f, some a, some b => some (.mkfn (.func f) a b)
    | _, _, _ => none
  | .makeMap _ none => some .mkmap
  | .range t x => match P.underlying t with
    | some (.map _ _) => (opd x).map .mrange
    | _ => none
  | .next x false => (opd x).map .mnext
  | .insert t m k x | .mapUpdate t m k x => match P.underlying t, opd m, opd k, opd x with
    | some (.map kt _), some a, some b, some c => (keyT P kt).map fun offs => .insert offs a b c
    | _, _, _, _ => none
  | .lookup t m k ok => match P.underlying t, opd m, opd k with
    | some (.map kt e), some a, some b => match zeroVal P e with
      | some z => (keyT P kt).map fun offs => .lookup offs z ok a b
      | none => none
    | _, _, _ => none
  | .mapEntry t m k => match P.underlying t, opd m, opd k with
    | some (.map kt e), some a, some b => match zeroVal P e with
      | some z => (keyT P kt).map fun offs => .mentry offs z a b
      | none => none
    | _, _, _ => none
  | .entryStore _ m k v => match opd m, opd k, opd v with
    | some a, some b, some c => some (.mstore a b c)
    | _, _, _ => none
  | .makeSlice t n c => match P.underlying t, opd n, opd c with
    | some (.slice e), some a, some b => match bytesT P e, zeroOf P e, sizeT P e with
      | some m, some z, some k => if z.length = k then some (.mkSlice m z a b) else none
      | _, _, _ => none
    | _, _, _ => none
  | .call c => match c.callee with
    | .builtin b => compBuiltin P b c.argTypes c.args.toList
    | .value f => match opd f, opds c.args.toList with
      | some g, some as => some (.call g as)
      | _, _ => none
    | .invoke _ _ => none
  | _ => none

def compOp (o : Op) : IOp := (compOp? P o).getD .bad

def compOper (ntmps : Nat) (ops : Array Oper) (o : Oper) : IOper :=
  match (match o.dst with | some d => decide (d < ntmps) | none => true) with
  | false => { dst := none, op := .bad, g := none }
  | true => match o.guard with
    | none => { dst := o.dst, op := compOp P o.op, g := none }
    | some (j, b) => match (ops[j]?).bind (·.dst) with
      | some t => { dst := o.dst, op := compOp P o.op, g := some (t, b) }
      | none => { dst := none, op := .bad, g := none }

/-! ### a region whose order is open -/
def hard (e : Edge) : Bool := match e.ground with
  | .textOnly _ | .gcOnly _ => false
  | _ => true

/-- Which operations come ahead of each one, in whatever order. -/
def maskOf (acc : List Nat) : List Edge → Nat
  | [] => 0
  | e :: r => if hard e then (2 ^ e.on ||| acc.getD e.on 0) ||| maskOf acc r else maskOf acc r

def masks : List Oper → List Nat → List Nat
  | [], acc => acc
  | o :: r, acc => masks r (acc ++ [maskOf acc o.after.toList])

def isCall : IOp → Bool
  | .call _ _ => true
  | _ => false

def isPure : IOp → Bool
  | .mv _ | .pick _ _ _ | .build _ _ | .nilCheck _ | .bin _ _ _ _ | .not _ | .neg _ | .conv _ _ | .faddr _ _ | .field _ _ _ _ | .idxS _ _ _ | .idxA _ _ _ _ | .idxV _ _ _ _ _
  | .idxStr _ _ | .sliceA _ _ _ _ _ _ | .sliceStr _ _ _ | .lenC _ | .len _ | .lenStr _ | .minI _ _ | .maxI _ _ | .extract _ _ | .mkfn _ _ _ | .mkiface _ _ | .eqF _ _ _ _ | .rune _ | .sdata _ => true
  | _ => false

def IOpd.uses : IOpd → List Nat
  | .t n => [n]
  | .c _ => []

def optUses : Option IOpd → List Nat
  | some x => x.uses
  | none => []

def IOp.uses : IOp → List Nat
  | .mv x | .box _ x | .load1 x | .loadN _ x | .nilCheck x | .not x | .neg x | .conv _ x | .toStr x | .faddr _ x | .field _ _ _ x | .len x | .lenStr x | .lenM x | .cap x | .clear _ x | .extract _ x | .mkiface _ x | .rune x | .sdata x | .toU x | .frU _ _ x | .mrange x | .mnext x => x.uses
  | .pick a b c | .insert _ a b c | .mstore a b c => a.uses ++ (b.uses ++ c.uses)
  | .mk _ _ | .lenC _ | .mkmap | .bad => []
  | .build _ ps | .buildSlice _ _ ps => ps.flatMap fun p => p.2.2.uses
  | .store _ a b | .bin _ _ a b | .idxS _ a b | .idxA _ _ a b | .idxV _ _ _ a b | .idxStr a b | .append _ _ _ a b | .appendZ _ _ a b | .copy _ a b | .mkSlice _ _ a b | .minI a b | .maxI a b | .lookup _ _ _ a b | .eqF _ _ a b | .ustr _ a b | .mentry _ _ a b => a.uses ++ b.uses
  | .sliceS _ x a b c | .sliceA _ _ x a b c => x.uses ++ (optUses a ++ (optUses b ++ optUses c))
  | .sliceStr x a b => x.uses ++ (optUses a ++ optUses b)
  | .mkfn _ a b => (a ++ b).flatMap IOpd.uses
  | .call f as => f.uses ++ as.flatMap IOpd.uses

def IOper.uses (x : IOper) : List Nat := x.op.uses ++ (match x.g with | some (t, _) => [t] | none => [])

def notIn (d : Option Nat) (l : List Nat) : Bool := match d with
  | some d => l.all fun x => !Nat.beq x d
  | none => true

def clash (a b : Option Nat) : Bool := match a, b with
  | some a, some b => Nat.beq a b
  | _, _ => false

/-- Two operations whose order is open, the one ahead being d places back. -/
def pairOK (ms : List Nat) (d : Nat) (k e : Nat × IOper × List Nat) : Bool :=
  !Nat.beq k.1 e.1 && ((ms.getD e.1 0).testBit k.1 ||
  (notIn k.2.1.dst e.2.1.uses && (notIn e.2.1.dst k.2.1.uses && (!clash k.2.1.dst e.2.1.dst && (isPure k.2.1.op || (isPure e.2.1.op || e.2.2.any (Nat.beq d)))))))

def pairsOK (ms : List Nat) (e : Nat × IOper × List Nat) : Nat → List (Nat × IOper × List Nat) → Bool
  | _, [] => true
  | d, k :: r => pairOK ms d k e && pairsOK ms e (d + 1) r

def planFrom (ms : List Nat) : List (Nat × IOper × List Nat) → List (Nat × IOper × List Nat) → Bool
  | _, [] => true
  | done, e :: r => pairsOK ms e 0 done && planFrom ms (e :: done) r

/-- Calls as early as can be: what is ahead of each call, then the call. -/
def orderOf (ms : List Nat) (xs : List IOper) : List Nat :=
  let n := xs.length
  let calls := (List.range n).filter fun i => match xs[i]? with | some x => isCall x.op | none => false
  let rec go : List Nat → List Nat → List Nat
    | [], r => r ++ (List.range n).filter fun i => !r.contains i
    | c :: cs, r => go cs (r ++ ((List.range n).filter fun i => !r.contains i && ((ms.getD c 0).testBit i || i == c)))
  go calls []

/-- Which earlier operations must be found free: how many places back. -/
def unOf (ms : List Nat) (e : Nat) (x : IOper) : Nat → List (Nat × IOper) → List Nat
  | _, [] => []
  | d, k :: r => if (ms.getD e 0).testBit k.1 || isPure k.2.op || isPure x.op then unOf ms e x (d + 1) r else d :: unOf ms e x (d + 1) r

def planOf (ms : List Nat) (xs : List IOper) : List Nat → List (Nat × IOper) → List (Nat × IOper × List Nat)
  | [], _ => []
  | i :: r, done => match xs[i]? with
    | some x => (i, x, unOf ms i x 0 done) :: planOf ms xs r ((i, x) :: done)
    | none => planOf ms xs r done

def planOK (ms : List Nat) (xs : List IOper) (es : List (Nat × IOper × List Nat)) : Bool :=
  Nat.beq es.length xs.length && ((List.range xs.length).all fun i => es.any fun e => Nat.beq e.1 i) && planFrom ms [] es

/-- Each operation waits for earlier ones alone. -/
def edgesOK : Nat → List Oper → Bool
  | _, [] => true
  | i, o :: r => (o.after.toList.all fun e => !hard e || Nat.blt e.on i) && edgesOK (i + 1) r

def compRegion (ntmps : Nat) (ops : Array Oper) (draw : Bool) : ICode :=
  let xs := ops.toList.map (compOper P ntmps ops)
  if draw then
    let ms := masks ops.toList []
    let es := planOf ms xs (orderOf ms xs) []
    if planOK ms xs es && edgesOK 0 ops.toList then .dregion es else .bad
  else .region xs

def compCode (ntmps : Nat) : Code → ICode
  | .skip => .skip
  | .region _ ops draw => compRegion P ntmps ops draw
  | .seq a b => .seq (compCode ntmps a) (compCode ntmps b)
  | .cond x a b => match opd x with
    | some y => .cond y (compCode ntmps a) (compCode ntmps b)
    | none => .bad
  | .block id c => .block id (compCode ntmps c)
  | .loop c => .loop (compCode ntmps c)
  | .exit id => .exit id
  | .ret => .ret
  | .rangeFunc f ps a b => match opd f with
    | some g => if ps.all (fun p => decide (p < ntmps)) then .rangeFunc g ps.toList (compCode ntmps a) (compCode ntmps b) else .bad
    | none => .bad
  | _ => .bad

def compRes : List ResultVar → Option (List IRes)
  | [] => some []
  | .tmp t :: r => (compRes r).map (.tmp t :: ·)
  | .cell a t :: r => match isAggT P t, sizeT P t, compRes r with
    | some true, some n, some rs => some (.cellN a n :: rs)
    | some false, some _, some rs => some (.cell1 a :: rs)
    | _, _, _ => none

/-- A function of the program in the own form. -/
def compFunc (f : Func) : Option IFunc :=
  if f.name = "runtime.NumGoroutine" then none else
  match f.body, compRes P f.results.toList with
  | some c, some rs => some { results := rs, body := compCode P f.ntmps c }
  | _, _ => none

end comp
end Go.Ak

namespace Go.Ak

/-- Where a version of an object lies: block, place, the block's size, and the size of an element if there may be spare room behind (0: there is none). -/
structure Loc where
  cb : Nat
  sh : Nat
  lim : Nat
  esz : Nat

abbrev Phi := Nat → Nat → Option Loc

def idLoc (b : Nat) : Loc := { cb := b, sh := 0, lim := 0, esz := 0 }

def Phi.le (φ ψ : Phi) : Prop := ∀ g k l, φ g k = some l → ψ g k = some l

theorem Phi.le_refl (φ : Phi) : φ.le φ := fun _ _ _ h => h
theorem Phi.le_trans {a b c : Phi} (h : a.le b) (k : b.le c) : a.le c := fun g i l x => k g i l (h g i l x)

def Phi.set (φ : Phi) (g k : Nat) (l : Loc) : Phi := fun g' k' => if g' = g ∧ k' = k then some l else φ g' k'

theorem Phi.set_self (φ : Phi) (g k : Nat) (l : Loc) : φ.set g k l g k = some l := by simp [Phi.set]
theorem Phi.set_other (φ : Phi) {g k g' k' : Nat} (l : Loc) (h : ¬ (g' = g ∧ k' = k)) : φ.set g k l g' k' = φ g' k' := by simp [Phi.set, h]
theorem Phi.le_set (φ : Phi) {g k : Nat} (l : Loc) (h : φ g k = none) : φ.le (φ.set g k l) := by
  intro g' k' l' h'
  rw [Phi.set_other]
  · exact h'
  · rintro ⟨rfl, rfl⟩; rw [h] at h'; cases h'

def ARel (φ : Phi) (a a' : Addr) : Prop := ∃ l, φ a.block (ver a) = some l ∧ a' = ⟨l.cb, a.off + l.sh, none⟩

/-- What is said of the concrete capacity c' beside the abstract one. -/
def CapRel (l : Loc) (off c c' : Nat) : Prop := c' = c ∨ (0 < l.esz ∧ c ≤ c' ∧ off + l.sh + c' * l.esz ≤ l.lim)

mutual
inductive VRel (φ : Phi) : Value → Value → Prop
  | undef (v : Value) : VRel φ (.tuple #[]) v
  | absent : VRel φ (.tuple #[.tuple #[]]) (.tuple #[])
  | bool (b : Bool) : VRel φ (.bool b) (.bool b)
  | int (k : IntKind) (n : Int) : VRel φ (.int k n) (.int k n)
  | string (s : ByteArray) : VRel φ (.string s) (.string s)
  | ptrNil : VRel φ (.pointer none) (.pointer none)
  | ptr (a a' : Addr) : ARel φ a a' → VRel φ (.pointer (some a)) (.pointer (some a'))
  | sliceNil : VRel φ (.slice none 0 0) (.slice none 0 0)
  | slice (a : Addr) (l : Loc) (n c c' : Nat) : φ a.block (ver a) = some l → CapRel l a.off c c' → VRel φ (.slice (some a) n c) (.slice (some ⟨l.cb, a.off + l.sh, none⟩) n c')
  | slice0 (a a' : Addr) : VRel φ (.slice (some a) 0 0) (.slice (some a') 0 0)
  | mapNil : VRel φ (.map none) (.map none)
  | map (r : Nat) (l : Loc) : φ r 0 = some l → VRel φ (.map (some r)) (.map (some l.cb))
  | nilFunc : VRel φ .nilFunc .nilFunc
  | func (f : FuncId) (a b a' b' : Array Value) : VsRel φ a.toList a'.toList → VsRel φ b.toList b'.toList → VRel φ (.func (.func f) a b) (.func (.func f) a' b')
  | yield (r : Nat) (l : Loc) (a b : Array Value) : φ r 0 = some l → a.toList = [] → b.toList = [] → VRel φ (.func (.yield r) a b) (.func (.yield l.cb) #[] #[])
  | nilIface : VRel φ .nilIface .nilIface
  | iface (t : TypeId) (v v' : Value) : VRel φ v v' → VRel φ (.iface t v) (.iface t v')
  | agg (a a' : Array Value) : VsRel φ a.toList a'.toList → VRel φ (.agg a) (.agg a')
  | tup (a a' : Array Value) : 2 ≤ a.size → VsRel φ a.toList a'.toList → VRel φ (.tuple a) (.tuple a')
  | over : VRel φ (.tuple #[.bool false]) (.tuple #[.bool false])
inductive VsRel (φ : Phi) : List Value → List Value → Prop
  | nil : VsRel φ [] []
  | cons (v v' : Value) (vs vs' : List Value) : VRel φ v v' → VsRel φ vs vs' → VsRel φ (v :: vs) (v' :: vs')
end

mutual
theorem VRel.mono {φ ψ : Phi} (h : φ.le ψ) : ∀ {v v' : Value}, VRel φ v v' → VRel ψ v v'
  | _, _, .undef v => .undef v
  | _, _, .absent => .absent
  | _, _, .bool b => .bool b
  | _, _, .int k n => .int k n
  | _, _, .string s => .string s
  | _, _, .ptrNil => .ptrNil
  | _, _, .ptr a a' ⟨l, h1, h2⟩ => .ptr a a' ⟨l, h _ _ _ h1, h2⟩
  | _, _, .sliceNil => .sliceNil
  | _, _, .slice a l n c c' h1 h2 => .slice a l n c c' (h _ _ _ h1) h2
  | _, _, .slice0 a a' => .slice0 a a'
  | _, _, .mapNil => .mapNil
  | _, _, .map r l h1 => .map r l (h _ _ _ h1)
  | _, _, .nilFunc => .nilFunc
  | _, _, .func f a b a' b' h1 h2 => .func f a b a' b' (VsRel.mono h h1) (VsRel.mono h h2)
  | _, _, .yield r l a b h1 h2 h3 => .yield r l a b (h _ _ _ h1) h2 h3
  | _, _, .nilIface => .nilIface
  | _, _, .iface t v v' h1 => .iface t v v' (VRel.mono h h1)
  | _, _, .agg a a' h1 => .agg a a' (VsRel.mono h h1)
  | _, _, .tup a a' h0 h1 => .tup a a' h0 (VsRel.mono h h1)
  | _, _, .over => .over
theorem VsRel.mono {φ ψ : Phi} (h : φ.le ψ) : ∀ {v v' : List Value}, VsRel φ v v' → VsRel ψ v v'
  | _, _, .nil => .nil
  | _, _, .cons v v' vs vs' h1 h2 => .cons v v' vs vs' (VRel.mono h h1) (VsRel.mono h h2)
end

/-! ### lists of values -/
section lists
variable {φ : Phi}

theorem VsRel.length {a b : List Value} (h : VsRel φ a b) : a.length = b.length := by
  induction a generalizing b with
  | nil => cases h; rfl
  | cons x r ih => cases h with | cons _ v' _ vs' h1 h2 => simp [ih h2]

theorem VsRel.get {a b : List Value} (h : VsRel φ a b) {i : Nat} {v : Value} (hv : a[i]? = some v) : ∃ v', b[i]? = some v' ∧ VRel φ v v' := by
  induction a generalizing b i with
  | nil => simp at hv
  | cons x r ih =>
    cases h with
    | cons _ v' _ vs' h1 h2 =>
      cases i with
      | zero => simp at hv; subst hv; exact ⟨v', rfl, h1⟩
      | succ i => simp at hv; simpa using ih h2 hv

theorem VsRel.of_get : ∀ {a b : List Value}, a.length = b.length → (∀ (i : Nat) (v : Value), a[i]? = some v → ∃ v', b[i]? = some v' ∧ VRel φ v v') → VsRel φ a b
  | [], [], _, _ => .nil
  | [], _ :: _, h, _ => by simp at h
  | _ :: _, [], h, _ => by simp at h
  | x :: r, y :: s, hl, h => by
    obtain ⟨v', hv, hx⟩ := h 0 x rfl
    simp at hv
    subst hv
    exact .cons _ _ _ _ hx (VsRel.of_get (by simpa using hl) fun i v hi => h (i + 1) v (by simpa using hi))

theorem VsRel.append {a b c d : List Value} (h : VsRel φ a b) (k : VsRel φ c d) : VsRel φ (a ++ c) (b ++ d) := by
  induction a generalizing b with
  | nil => cases h; exact k
  | cons x r ih => cases h with | cons _ v' _ vs' h1 h2 => exact .cons _ _ _ _ h1 (ih h2)

theorem VsRel.take {a b : List Value} (h : VsRel φ a b) (n : Nat) : VsRel φ (a.take n) (b.take n) := by
  induction n generalizing a b with
  | zero => exact .nil
  | succ n ih => cases h with
    | nil => exact .nil
    | cons _ v' _ vs' h1 h2 => exact .cons _ _ _ _ h1 (ih h2)

theorem VsRel.drop {a b : List Value} (h : VsRel φ a b) (n : Nat) : VsRel φ (a.drop n) (b.drop n) := by
  induction n generalizing a b with
  | zero => exact h
  | succ n ih => cases h with
    | nil => exact .nil
    | cons _ v' _ vs' h1 h2 => exact ih h2

theorem VsRel.map {f g : Value → Value} {l : List Value} (h : ∀ v ∈ l, VRel φ (f v) (g v)) : VsRel φ (l.map f) (l.map g) := by
  induction l with
  | nil => exact .nil
  | cons x r ih => exact .cons _ _ _ _ (h x (by simp)) (ih fun v hv => h v (by simp [hv]))

/-- The values that stand to themselves. -/
theorem VsRel.refl {l : List Value} (h : ∀ v ∈ l, VRel φ v v) : VsRel φ l l := by
  induction l with
  | nil => exact .nil
  | cons x r ih => exact .cons _ _ _ _ (h x (by simp)) (ih fun v hv => h v (by simp [hv]))

theorem scalar_rel {v v' : Value} (h : VRel φ v v') (hs : scalar v = true) : v'.oneCell' = true := by
  cases h <;> simp_all [scalar, Value.oneCell']

theorem scalars_rel {a b : List Value} (h : VsRel φ a b) (hs : a.all scalar = true) : ∀ v ∈ b, v.oneCell' = true := by
  induction a generalizing b with
  | nil => cases h; simp
  | cons x r ih =>
    cases h with
    | cons _ v' _ vs' h1 h2 =>
      simp at hs
      intro v hv
      rcases List.mem_cons.1 hv with rfl | hv
      · exact scalar_rel h1 hs.1
      · exact ih h2 (by simpa using hs.2) v hv

theorem vcells_rel {v v' : Value} {cs : List Value} (h : VRel φ v v') (hc : vcells v = some cs) : VsRel φ cs v'.cells.toList := by
  cases h <;> simp [vcells] at hc <;> (try subst hc) <;> simp only [Value.cells] <;> first
    | assumption
    | exact .cons _ _ _ _ (by constructor <;> assumption) .nil
    | exact .cons _ _ _ _ (by constructor) .nil
end lists

/-! ### values without addresses, or with old ones -/
def Old (φ : Phi) (n : Nat) : Prop := ∀ b, b < n → φ b 0 = some (idLoc b)

theorem cleanS_rel {φ : Phi} {n : Nat} (ho : Old φ n) {v : Value} (h : cleanS n v = true) : VRel φ v v := by
  cases v with
  | bool b => exact .bool b
  | int k n => exact .int k n
  | string s => exact .string s
  | nilFunc => exact .nilFunc
  | nilIface => exact .nilIface
  | pointer a =>
    cases a with
    | none => exact .ptrNil
    | some a =>
      obtain ⟨b, off, sp⟩ := a
      simp [cleanS] at h
      obtain ⟨h1, rfl⟩ := h
      exact .ptr _ _ ⟨idLoc b, ho b h1, by simp [idLoc]⟩
  | slice a l c =>
    cases a with
    | none =>
      simp [cleanS] at h
      obtain ⟨rfl, rfl⟩ := h
      exact .sliceNil
    | some a =>
      obtain ⟨b, off, sp⟩ := a
      simp [cleanS] at h
      rcases h with ⟨h1, rfl⟩ | ⟨rfl, rfl⟩
      rotate_left
      · exact .slice0 _ _
      have := VRel.slice (φ := φ) ⟨b, off, none⟩ (idLoc b) l c c (ho b h1) (.inl rfl)
      simpa [idLoc] using this
  | map r => cases r with
    | none => exact .mapNil
    | some r => simp [cleanS] at h
  | func fn a b =>
    cases fn <;> simp [cleanS] at h
    obtain ⟨rfl, rfl⟩ := h
    exact .func _ _ _ _ _ .nil .nil
  | float k b => simp [cleanS] at h
  | complex k a b => simp [cleanS] at h
  | chan r => simp [cleanS] at h
  | iface t v => simp [cleanS] at h
  | agg cs => simp [cleanS] at h
  | tuple cs => simp [cleanS] at h

theorem clean_rel {φ : Phi} {n : Nat} (ho : Old φ n) {v : Value} (h : clean n v = true) : VRel φ v v := by
  unfold clean at h
  split at h
  · rename_i cs
    refine .agg _ _ (VsRel.refl fun v hv => cleanS_rel ho ?_)
    exact (List.all_eq_true.1 h) v hv
  · exact cleanS_rel ho h

theorem old_zero (φ : Phi) : Old φ 0 := fun b h => absurd h (Nat.not_lt_zero b)

theorem scrub_rel {φ : Phi} {n : Nat} (ho : Old φ n) (v : Value) : VRel φ (scrub n v) v := by
  unfold scrub
  split
  · exact cleanS_rel ho (by assumption)
  · exact .undef v

theorem cleanS_scalar {n : Nat} {v : Value} (h : cleanS n v = true) : scalar v = true := by
  cases v <;> first | rfl | simp [cleanS] at h

/-! ### the memory -/
def exitCode : AExit → Option Code
  | .normal => none
  | .exit id => some (.exit id)
  | .ret => some .ret

/-- The temporaries. -/
def TRel (φ : Phi) (T : Nat → Value) (tmps : Array Value) : Prop := ∀ i, VRel φ (T i) (tmps.getD i undef)

theorem TRel.mono {φ ψ : Phi} (h : φ.le ψ) {T : Nat → Value} {tmps : Array Value} (k : TRel φ T tmps) : TRel ψ T tmps := fun i => (k i).mono h

section mem
variable (P : Program) (C : Ctx)

def VerRel (φ : Phi) (w : World) (g k : Nat) (v : AVer) : Prop :=
  ∃ l cc e, φ g k = some l ∧ w.heap[l.cb]? = some (.cells cc e (0, 0)) ∧ cc.size = l.lim ∧ (l.esz = v.esz ∧ ∀ t, v.ty = some t → e = t ∧ l.sh = 0) ∧
    ∀ (j : Nat) (x : Value), v.cells[j]? = some x → ∃ x', cc[j + l.sh]? = some x' ∧ VRel φ x x'

def Ends (φ : Phi) (g : Nat) (vs : List AVer) : Prop :=
  ∀ (i j : Nat) (vi vj : AVer) (li lj : Loc), i < j → vs[i]? = some vi → vs[j]? = some vj → φ g i = some li → φ g j = some lj → li.cb = lj.cb →
    vi.cells = [] ∨ vj.cells = [] ∨ li.sh + vi.cells.length ≤ lj.sh + vj.cells.length

def LoopRel (φ : Phi) (L : ALoop) (L' : Loop) : Prop :=
  L'.state = L.state ∧ L'.pending = L.pending.bind exitCode ∧ (∀ e, L.pending = some e → e ≠ .normal) ∧ L'.params.toList = L.params ∧ TRel φ L.T.val L'.tmps ∧
    ∃ nt, nt ≤ L'.tmps.size ∧ (∀ p ∈ L.params, p < nt) ∧ compCode P nt L'.assign = L.assign ∧ compCode P nt L'.body = L.body

/-- What is said of an object. -/
def ORel (φ : Phi) (w : World) (g : Nat) : AObj → Prop
  | .raw => g < C.old ∧ Old φ C.old ∧ w.heap[g]? = C.w0.heap[g]?
  | .exact o => ∃ l, φ g 0 = some l ∧ w.heap[l.cb]? = some o
  | .cells vs => (∀ k v, vs[k]? = some v → VerRel φ w g k v) ∧ (∀ k, vs.length ≤ k → φ g k = none) ∧ Ends φ g vs
  | .map es => ∃ l es' clk, φ g 0 = some l ∧ (∀ k l', φ g k = some l' → l' = l) ∧ w.heap[l.cb]? = some (.map es' clk) ∧ (es'.size = es.length ∧ clk = es.length) ∧
      ∀ (i : Nat) (e : Value × Value), es[i]? = some e → ∃ e', es'[i]? = some e' ∧ VRel φ e.1 e'.key ∧ VRel φ e.2 e'.val ∧ e'.born = i
  | .loop L => ∃ l L', φ g 0 = some l ∧ (∀ k l', φ g k = some l' → l' = l) ∧ w.heap[l.cb]? = some (.loop L') ∧ LoopRel P φ L L'
  | .gone => True
  | .iter => ∃ l, φ g 0 = some l ∧ l.sh = 0 ∧ w.heap[l.cb]? = some (.mapIter none 0 #[] 0)
  | .deferred b => ∃ l, φ g 0 = some l ∧ (∀ k l', φ g k = some l' → l' = l) ∧ w.heap[l.cb]? = some (.deferred (if b then some [] else none))

structure R (φ : Phi) (M : Nat → Option AObj) (w : World) : Prop where
  os : w.os = C.w0.os
  tape : w.tape = C.w0.tape
  output : w.output = C.w0.output
  size : C.w0.heap.size ≤ w.heap.size
  obj : ∀ g o, M g = some o → ORel P C φ w g o
  inj : ∀ g g' o o' k k' l l', M g = some o → M g' = some o' → φ g k = some l → φ g' k' = some l' → l.cb = l'.cb → g = g'
  bound : ∀ g k l, φ g k = some l → l.cb < w.heap.size
  dom : ∀ g k l, φ g k = some l → M g ≠ none

end mem
end Go.Ak

namespace Go.Ak

def upd (M : Nat → Option AObj) (g : Nat) (o : AObj) : Nat → Option AObj := fun b => if b = g then some o else M b

section
variable {P : Program} {C : Ctx} {φ ψ : Phi} {M : Nat → Option AObj} {w w' : World}

theorem ORel.frame {g : Nat} {o : AObj} (h : ORel P C φ w g o) (hle : φ.le ψ) (hsame : ∀ k, ψ g k = φ g k)
    (hw : ∀ k l, φ g k = some l → w'.heap[l.cb]? = w.heap[l.cb]?) : ORel P C ψ w' g o := by
  cases o with
  | raw =>
    obtain ⟨h1, h2, h3⟩ := h
    exact ⟨h1, fun b hb => hle _ _ _ (h2 b hb), (hw 0 _ (h2 g h1)).trans h3⟩
  | exact o =>
    obtain ⟨l, h1, h2⟩ := h
    exact ⟨l, hle _ _ _ h1, (hw _ _ h1).trans h2⟩
  | cells vs =>
    obtain ⟨h1, h2, h3⟩ := h
    refine ⟨fun k v hv => ?_, fun k hk => by rw [hsame]; exact h2 k hk, fun i j vi vj li lj hij hi hj hli hlj hcb => ?_⟩
    · obtain ⟨l, cc, e, ha, hb, hc, hd, he⟩ := h1 k v hv
      exact ⟨l, cc, e, hle _ _ _ ha, (hw _ _ ha).trans hb, hc, hd, fun j x hx => let ⟨x', p, q⟩ := he j x hx; ⟨x', p, q.mono hle⟩⟩
    · rw [hsame] at hli hlj
      exact h3 i j vi vj li lj hij hi hj hli hlj hcb
  | map es =>
    obtain ⟨l, es', clk, h1, h0, h2, h3, h4⟩ := h
    exact ⟨l, es', clk, hle _ _ _ h1, fun k l' hl => h0 k l' (by rw [← hsame]; exact hl), (hw _ _ h1).trans h2, h3, fun i e he => let ⟨e', p, q, r, b⟩ := h4 i e he; ⟨e', p, q.mono hle, r.mono hle, b⟩⟩
  | gone => trivial
  | iter =>
    obtain ⟨l, h1, h2, h3⟩ := h
    exact ⟨l, hle _ _ _ h1, h2, (hw _ _ h1).trans h3⟩
  | loop L =>
    obtain ⟨l, L', h1, h0, h2, a, b, c, d, e, f⟩ := h
    exact ⟨l, L', hle _ _ _ h1, fun k l' hl => h0 k l' (by rw [← hsame]; exact hl), (hw _ _ h1).trans h2, a, b, c, d, e.mono hle, f⟩
  | deferred b =>
    obtain ⟨l, h1, h0, h2⟩ := h
    exact ⟨l, hle _ _ _ h1, fun k l' hl => h0 k l' (by rw [← hsame]; exact hl), (hw _ _ h1).trans h2⟩

/-- One object turns, or comes anew. -/
theorem R.upd (h : R P C φ M w) {g : Nat} {o' : AObj} (hle : φ.le ψ) (hsame : ∀ g', g' ≠ g → ∀ k, ψ g' k = φ g' k)
    (hos : w'.os = w.os) (htape : w'.tape = w.tape) (hout : w'.output = w.output) (hsize : w.heap.size ≤ w'.heap.size)
    (hheap : ∀ cb, cb < w.heap.size → (∀ k l, φ g k = some l → l.cb ≠ cb) → w'.heap[cb]? = w.heap[cb]?)
    (hnew : ∀ k l, ψ g k = some l → (∃ k0 l0, φ g k0 = some l0 ∧ l0.cb = l.cb) ∨ w.heap.size ≤ l.cb)
    (hb : ∀ k l, ψ g k = some l → l.cb < w'.heap.size) (ho : ORel P C ψ w' g o') : R P C ψ (upd M g o') w' := by
  have far : ∀ g' o k l, g' ≠ g → M g' = some o → φ g' k = some l → ∀ k' l', φ g k' = some l' → l'.cb ≠ l.cb := by
    intro g' o k l hne hM hl k' l' hl' hcb
    cases hMg : M g with
    | none => exact h.dom g k' l' hl' hMg
    | some og => exact hne (h.inj g' g o og k k' l l' hM hMg hl hl' hcb.symm)
  refine ⟨hos.trans h.os, htape.trans h.tape, hout.trans h.output, Nat.le_trans h.size hsize, ?_, ?_, ?_, ?_⟩
  · intro g' o hM
    by_cases hg : g' = g
    · subst hg
      simp [Ak.upd] at hM
      subst hM
      exact ho
    · simp [Ak.upd, hg] at hM
      refine (h.obj g' o hM).frame hle (hsame g' hg) fun k l hl => ?_
      exact hheap l.cb (h.bound _ _ _ hl) fun k' l' hl' => far g' o k l hg hM hl k' l' hl'
  · intro g1 g2 o1 o2 k1 k2 l1 l2 hM1 hM2 hl1 hl2 hcb
    have cross : ∀ g' o k l k' l', g' ≠ g → M g' = some o → ψ g' k = some l → ψ g k' = some l' → l.cb ≠ l'.cb := by
      intro g' o k l k' l' hne hM hl hl' he
      rw [hsame g' hne] at hl
      rcases hnew k' l' hl' with ⟨k0, l0, h0, hc0⟩ | hge
      · exact far g' o k l hne hM hl k0 l0 h0 (by rw [hc0, he])
      · have := h.bound _ _ _ hl; omega
    by_cases e1 : g1 = g <;> by_cases e2 : g2 = g
    · rw [e1, e2]
    · subst e1
      simp [Ak.upd, e2] at hM2
      exact absurd hcb.symm (cross g2 o2 k2 l2 k1 l1 e2 hM2 hl2 hl1)
    · subst e2
      simp [Ak.upd, e1] at hM1
      exact absurd hcb (cross g1 o1 k1 l1 k2 l2 e1 hM1 hl1 hl2)
    · simp [Ak.upd, e1] at hM1
      simp [Ak.upd, e2] at hM2
      rw [hsame g1 e1] at hl1
      rw [hsame g2 e2] at hl2
      exact h.inj g1 g2 o1 o2 k1 k2 l1 l2 hM1 hM2 hl1 hl2 hcb
  · intro g' k l hl
    by_cases hg : g' = g
    · subst hg; exact hb k l hl
    · rw [hsame g' hg] at hl
      exact Nat.lt_of_lt_of_le (h.bound _ _ _ hl) hsize
  · intro g' k l hl
    by_cases hg : g' = g
    · subst hg; simp [Ak.upd]
    · rw [hsame g' hg] at hl
      simp [Ak.upd, hg]
      exact h.dom g' k l hl

theorem R.drew (h : R P C φ M w) : R P C φ M w.drew :=
  ⟨h.os, h.tape, h.output, h.size, fun g o hM => (h.obj g o hM).frame (Phi.le_refl φ) (fun _ => rfl) (fun _ _ _ => rfl), h.inj, h.bound, h.dom⟩

/-- The world matters only by its memory. -/
theorem R.of_heap (h : R P C φ M w) (hos : w'.os = w.os) (htape : w'.tape = w.tape) (hout : w'.output = w.output) (hh : w'.heap = w.heap) : R P C φ M w' :=
  ⟨hos.trans h.os, htape.trans h.tape, hout.trans h.output, by rw [hh]; exact h.size, fun g o hM => (h.obj g o hM).frame (Phi.le_refl φ) (fun _ => rfl) (fun _ _ _ => by rw [hh]),
    h.inj, fun g k l hl => by rw [hh]; exact h.bound g k l hl, h.dom⟩

theorem heap_alloc_self (w : World) (o : Obj) : (w.alloc o).heap[w.heap.size]? = some o := by
  show (w.heap.push o)[w.heap.size]? = some o
  simp
theorem heap_alloc_below (w : World) (o : Obj) {k : Nat} (h : k < w.heap.size) : (w.alloc o).heap[k]? = w.heap[k]? := by
  show (w.heap.push o)[k]? = w.heap[k]?
  rw [Array.getElem?_push, if_neg (by omega)]

/-- A new object at a free number, in a new block. -/
theorem R.new (h : R P C φ M w) {g : Nat} (hg : M g = none) {o' : AObj} (ob : Obj) (lim esz : Nat)
    (ho : φ.le (φ.set g 0 ⟨w.heap.size, 0, lim, esz⟩) → (∀ k l', φ.set g 0 ⟨w.heap.size, 0, lim, esz⟩ g k = some l' → l' = ⟨w.heap.size, 0, lim, esz⟩) → ORel P C (φ.set g 0 ⟨w.heap.size, 0, lim, esz⟩) (w.alloc ob) g o') :
    φ.le (φ.set g 0 ⟨w.heap.size, 0, lim, esz⟩) ∧ R P C (φ.set g 0 ⟨w.heap.size, 0, lim, esz⟩) (Ak.upd M g o') (w.alloc ob) := by
  have hnone : ∀ k, φ g k = none := fun k => by
    cases hk : φ g k with
    | none => rfl
    | some l => exact absurd hg (h.dom g k l hk)
  have hle : φ.le (φ.set g 0 ⟨w.heap.size, 0, lim, esz⟩) := Phi.le_set φ _ (hnone 0)
  refine ⟨hle, h.upd hle (fun g' hne k => Phi.set_other φ _ (fun e => hne e.1)) rfl rfl rfl (by simp) ?_ ?_ ?_ (ho hle fun k l' hl => by
    by_cases hk : k = 0
    · subst hk
      rw [Phi.set_self] at hl
      cases hl
      rfl
    · rw [Phi.set_other φ _ (fun e => hk e.2), hnone k] at hl
      cases hl)⟩
  · intro cb hcb _
    exact heap_alloc_below w ob hcb
  · intro k l hl
    by_cases hk : k = 0
    · subst hk
      rw [Phi.set_self] at hl
      cases hl
      exact .inr (Nat.le_refl _)
    · rw [Phi.set_other φ _ (fun e => hk e.2), hnone k] at hl
      cases hl
  · intro k l hl
    by_cases hk : k = 0
    · subst hk
      rw [Phi.set_self] at hl
      cases hl
      simp
    · rw [Phi.set_other φ _ (fun e => hk e.2), hnone k] at hl
      cases hl


/-- A new row of cells. -/
theorem R.new_cells (h : R P C φ M w) {g : Nat} (hg : M g = none) (xs : List Value) (cc : Array Value) (e : TypeId) (esz : Nat) (ty : Option TypeId) (hty : ∀ t, ty = some t → e = t)
    (hx : ∀ (j : Nat) (x : Value), xs[j]? = some x → ∃ x', cc[j]? = some x' ∧ VRel φ x x') :
    φ.le (φ.set g 0 ⟨w.heap.size, 0, cc.size, esz⟩) ∧ R P C (φ.set g 0 ⟨w.heap.size, 0, cc.size, esz⟩) (Ak.upd M g (.cells [⟨esz, xs, ty⟩])) (w.alloc (.cells cc e)) := by
  refine h.new hg _ cc.size esz fun hle _ => ⟨fun k v hv => ?_, fun k hk => ?_, fun i j vi vj li lj hij hi hj => ?_⟩
  · cases k with
    | succ k => simp at hv
    | zero =>
      simp at hv
      subst hv
      refine ⟨_, cc, e, Phi.set_self φ _ _ _, heap_alloc_self w _, rfl, ⟨rfl, fun t ht => ⟨hty t ht, rfl⟩⟩, fun j x hj => ?_⟩
      obtain ⟨x', p, q⟩ := hx j x hj
      exact ⟨x', by simpa using p, q.mono hle⟩
  · simp at hk
    rw [Phi.set_other φ _ (fun e => by omega)]
    cases hk' : φ g k with
    | none => rfl
    | some l => exact absurd hg (h.dom g k l hk')
  · have h1 : i < 1 := by simpa using (List.getElem?_eq_some_iff.1 hi).1
    have h2 : j < 1 := by simpa using (List.getElem?_eq_some_iff.1 hj).1
    omega

/-! ### reading -/
theorem addr_add (b o i : Nat) : (⟨b, o, none⟩ : Addr).add i = ⟨b, o + i, none⟩ := by unfold Addr.add; split <;> simp_all

theorem cell_at {b o : Nat} {cc : Array Value} {e : TypeId} {f : Nat × Nat} (h : w.heap[b]? = some (.cells cc e f)) : w.cell? ⟨b, o, none⟩ = cc[o]? := by simp [World.cell?, h]

theorem cellsAt_rel (h : R P C φ M w) {a a' : Addr} (ha : ARel φ a a') {l : List Value} (hl : cellsAt C M a = some l) :
    ∀ (j : Nat) (x : Value), l[j]? = some x → ∃ x', w.cell? (a'.add j) = some x' ∧ VRel φ x x' := by
  intro j x hx
  obtain ⟨loc, h1, rfl⟩ := ha
  rw [addr_add]
  unfold cellsAt at hl
  split at hl
  · rename_i hM
    obtain ⟨hlt, hold, hheap⟩ := h.obj _ _ hM
    split at hl
    · rename_i c e f hc
      split at hl
      · rename_i hs
        cases hl
        have hv : ver a = 0 := by unfold ver; cases hsp : a.spot <;> simp_all
        rw [hv, hold _ hlt] at h1
        cases h1
        rw [List.getElem?_map, List.getElem?_drop] at hx
        rw [show (idLoc a.block).cb = a.block from rfl, cell_at (hheap.trans hc)]
        cases hcj : c.toList[a.off + j]? with
        | none => rw [hcj] at hx; cases hx
        | some y =>
          rw [hcj] at hx
          cases hx
          exact ⟨y, by simpa [idLoc] using hcj, scrub_rel hold y⟩
      · cases hl
    · cases hl
  · rename_i vs hM
    obtain ⟨h2, _, _⟩ := h.obj _ _ hM
    split at hl
    · rename_i v hv
      cases hl
      obtain ⟨loc', cc, e, ha, hb, hc, hd, he⟩ := h2 _ v hv
      rw [h1] at ha
      cases ha
      rw [List.getElem?_drop] at hx
      obtain ⟨x', p, q⟩ := he _ x hx
      refine ⟨x', ?_, q⟩
      rw [cell_at hb, ← p]
      congr 1
      omega
    · cases hl
  · cases hl

theorem loadN_rel (h : R P C φ M w) {a a' : Addr} (ha : ARel φ a a') {n : Nat} {xs : List Value} (hl : loadN C M a n = some xs) :
    xs.length = n ∧ ∃ xs', (∀ (j : Nat) (v : Value), xs'[j]? = some v → w.cell? (a'.add j) = some v) ∧ xs'.length = n ∧ VsRel φ xs xs' ∧ (loadCells a' n).run P w = .ok xs'.toArray w := by
  unfold loadN at hl
  split at hl
  · rename_i l hc
    split at hl
    · rename_i hn
      cases hl
      have hlen : (l.take n).length = n := by simp; omega
      have key : ∀ j, j < n → ∃ x', w.cell? (a'.add j) = some x' ∧ ∀ x, l[j]? = some x → VRel φ x x' := by
        intro j hj
        have hj' : j < l.length := by omega
        obtain ⟨x', p, q⟩ := cellsAt_rel h ha hc j l[j] (List.getElem?_eq_getElem hj')
        exact ⟨x', p, fun x hx => by rw [List.getElem?_eq_getElem hj'] at hx; cases hx; exact q⟩
      have ys : ∃ ys : List Value, ys.length = n ∧ ∀ j, j < n → w.cell? (a'.add j) = some (ys.getD j undef) ∧ ∀ x, l[j]? = some x → VRel φ x (ys.getD j undef) := by
        refine ⟨(List.range n).map fun j => (w.cell? (a'.add j)).getD undef, by simp, fun j hj => ?_⟩
        obtain ⟨x', p, q⟩ := key j hj
        have e : ((List.range n).map fun j => (w.cell? (a'.add j)).getD undef).getD j undef = x' := by
          simp [List.getD, hj, p]
        rw [e]
        exact ⟨p, q⟩
      obtain ⟨ys, hy, hys⟩ := ys
      have hcell : ∀ (j : Nat) (v : Value), ys[j]? = some v → w.cell? (a'.add j) = some v := by
        intro j v hv
        have hj : j < n := by rw [← hy]; exact (List.getElem?_eq_some_iff.1 hv).1
        have := (hys j hj).1
        rw [this]
        simp [List.getD, hv]
      refine ⟨hlen, ys, hcell, hy, VsRel.of_get (by rw [hlen, hy]) fun i v hi => ?_, ?_⟩
      · have hi' : i < n := by rw [← hlen]; exact (List.getElem?_eq_some_iff.1 hi).1
        rw [List.getElem?_take, if_pos hi'] at hi
        refine ⟨ys.getD i undef, ?_, (hys i hi').2 v hi⟩
        have : i < ys.length := by omega
        simp [List.getD, List.getElem?_eq_getElem this]
      · have := run_loadCells_list (P := P) w a' ys hcell
        rwa [hy] at this
    · cases hl
  · cases hl

/-! ### writing -/
theorem getElem?_setVer (vs : List AVer) (k : Nat) (c : List Value) (i : Nat) :
    (setVer vs k c)[i]? = (vs[i]?).map fun v => if i = k then { v with cells := c } else v.dead := by
  induction vs generalizing k i with
  | nil => simp [setVer]
  | cons v r ih =>
    cases k with
    | zero => cases i <;> simp [setVer]
    | succ k => cases i <;> simp [setVer, ih]

theorem length_setVer (vs : List AVer) (k : Nat) (c : List Value) : (setVer vs k c).length = vs.length := by
  induction vs generalizing k with
  | nil => simp [setVer]
  | cons v r ih => cases k <;> simp [setVer, ih]

theorem getElem?_killAfter (vs : List AVer) (k : Nat) (i : Nat) : (killAfter vs k)[i]? = (vs[i]?).map fun v => if i ≤ k then v else v.dead := by
  induction vs generalizing k i with
  | nil => simp [killAfter]
  | cons v r ih =>
    cases k with
    | zero => cases i <;> simp [killAfter]
    | succ k => cases i <;> simp [killAfter, ih]

theorem length_killAfter (vs : List AVer) (k : Nat) : (killAfter vs k).length = vs.length := by
  induction vs generalizing k with
  | nil => simp [killAfter]
  | cons v r ih => cases k <;> simp [killAfter, ih]

theorem setRow_at (w : World) {g : Nat} {cc : Array Value} {e : TypeId} {f : Nat × Nat} (h : w.heap[g]? = some (.cells cc e f)) (new : Array Value) :
    (w.setRow g new).heap[g]? = some (.cells new e f) := by
  simp [World.setRow, Array.getElem?_modify, h]
theorem setRow_ne (w : World) {g k : Nat} (new : Array Value) (h : k ≠ g) : (w.setRow g new).heap[k]? = w.heap[k]? := by
  simp [World.setRow, Array.getElem?_modify, Ne.symm h]
@[simp] theorem size_setRow (w : World) (g : Nat) (new : Array Value) : (w.setRow g new).heap.size = w.heap.size := by simp [World.setRow]

theorem seg_get (l vs : List Value) (o j : Nat) (h : o + vs.length ≤ l.length) :
    (l.take o ++ vs ++ l.drop (o + vs.length))[j]? = if o ≤ j ∧ j < o + vs.length then vs[j - o]? else l[j]? := by
  have ht : (l.take o).length = o := by simp; omega
  by_cases h1 : j < o
  · rw [List.append_assoc, List.getElem?_append_left (by omega), List.getElem?_take, if_pos h1, if_neg (by omega)]
  · by_cases h2 : j < o + vs.length
    · rw [List.append_assoc, List.getElem?_append_right (by omega), List.getElem?_append_left (by omega), if_pos ⟨by omega, h2⟩, ht]
    · rw [List.getElem?_append_right (by simp; omega), List.getElem?_drop, if_neg (by omega)]
      congr 1
      simp
      omega

theorem seg_get' (l vs : List Value) (o j : Nat) (h : o + vs.length ≤ l.length) :
    (l.take o ++ (vs ++ l.drop (o + vs.length)))[j]? = if o ≤ j ∧ j < o + vs.length then vs[j - o]? else l[j]? := by
  rw [← List.append_assoc]; exact seg_get l vs o j h

/-- The new row stands to the new cells. -/
theorem seg_rel {cs xs xs' : List Value} {cc : Array Value} {o sh : Nat} (hx : VsRel φ xs xs') (h0 : xs.length ≠ 0) (ho : o + xs.length ≤ cs.length)
    (hc : ∀ (j : Nat) (x : Value), cs[j]? = some x → ∃ x', cc[j + sh]? = some x' ∧ VRel φ x x') :
    o + sh + xs'.length ≤ cc.size ∧
    ∀ (j : Nat) (x : Value), (cs.take o ++ (xs ++ cs.drop (o + xs.length)))[j]? = some x →
      ∃ x', (cc.toList.take (o + sh) ++ xs' ++ cc.toList.drop (o + sh + xs'.length)).toArray[j + sh]? = some x' ∧ VRel φ x x' := by
  have hlen := hx.length
  have hsz : o + sh + xs'.length ≤ cc.size := by
    have hj : o + xs.length - 1 < cs.length := by omega
    obtain ⟨x', p, _⟩ := hc _ _ (List.getElem?_eq_getElem hj)
    have := (Array.getElem?_eq_some_iff.1 p).1
    omega
  refine ⟨hsz, fun j x hj => ?_⟩
  rw [seg_get' cs xs o j ho] at hj
  have hg := seg_get cc.toList xs' (o + sh) (j + sh) (by simpa using hsz)
  rw [List.getElem?_toArray, hg]
  by_cases hin : o ≤ j ∧ j < o + xs.length
  · rw [if_pos hin] at hj
    rw [if_pos (by omega)]
    obtain ⟨x', p, q⟩ := hx.get hj
    refine ⟨x', ?_, q⟩
    rw [← p]
    congr 1
    omega
  · rw [if_neg hin] at hj
    rw [if_neg (by omega)]
    obtain ⟨x', p, q⟩ := hc j x hj
    exact ⟨x', by simpa using p, q⟩

theorem seg_size {cc : Array Value} {xs' : List Value} {o : Nat} (h : o + xs'.length ≤ cc.size) :
    (cc.toList.take o ++ xs' ++ cc.toList.drop (o + xs'.length)).toArray.size = cc.size := by
  simp; omega

theorem dead_cells {v : AVer} {j : Nat} {x : Value} (h : v.dead.cells[j]? = some x) : False := by simp [AVer.dead] at h

/-- Cells are stored. -/
theorem storeN_rel (h : R P C φ M w) {a a' : Addr} (ha : ARel φ a a') {xs xs' : List Value} (hx : VsRel φ xs xs') {o' : AObj} (ho : storeN M a xs = some o') :
    ∃ w', (storeCells a' xs').run P w = .ok () w' ∧ R P C φ (Ak.upd M a.block o') w' := by
  unfold storeN at ho
  split at ho
  · rename_i vs hM
    split at ho
    · rename_i v hv
      split at ho
      · rename_i hcond
        obtain ⟨h0, hle, hsc⟩ := hcond
        cases ho
        obtain ⟨hvers, hdom, hends⟩ := h.obj _ _ hM
        obtain ⟨loc, cc, e, h1, h2, h3, h4, h5⟩ := hvers _ v hv
        obtain ⟨loc', h1', rfl⟩ := ha
        rw [h1] at h1'
        cases h1'
        obtain ⟨hsz, hseg⟩ := seg_rel hx h0 hle h5
        refine ⟨_, run_storeCells_at P loc.cb (a.off + loc.sh) e xs' 0 cc w h2 (by simpa using hsz) (scalars_rel hx hsc), ?_⟩
        simp only [Nat.add_zero]
        have hnew := setRow_at w h2 (cc.toList.take (a.off + loc.sh) ++ xs' ++ cc.toList.drop (a.off + loc.sh + xs'.length)).toArray
        refine h.upd (Phi.le_refl φ) (fun _ _ _ => rfl) rfl rfl rfl (by simp) ?_ (fun k l hl => .inl ⟨k, l, hl, rfl⟩) ?_ ⟨fun k u hu => ?_, fun k hk => ?_, fun i j vi vj li lj hij hi hj hli hlj hcb => ?_⟩
        · intro cb _ hcb
          exact setRow_ne w _ (fun e => hcb _ loc h1 e.symm)
        · intro k l hl
          rw [size_setRow]
          exact h.bound _ _ _ hl
        · rw [getElem?_setVer] at hu
          cases hvk : vs[k]? with
          | none => rw [hvk] at hu; cases hu
          | some vk =>
            rw [hvk] at hu
            simp only [Option.map_some, Option.some.injEq] at hu
            by_cases hk : k = ver a
            · subst hk
              rw [if_pos rfl] at hu
              subst hu
              rw [hv] at hvk
              cases hvk
              exact ⟨loc, _, e, h1, hnew, by rw [seg_size hsz, h3], h4, hseg⟩
            · rw [if_neg hk] at hu
              subst hu
              obtain ⟨l2, c2, e2, g1, g2, g3, g4, _⟩ := hvers k vk hvk
              by_cases hcb : l2.cb = loc.cb
              · rw [hcb, h2] at g2
                simp only [Option.some.injEq, Obj.cells.injEq] at g2
                refine ⟨l2, _, e, g1, by rw [hcb]; exact hnew, ?_, by rw [g2.2.1]; exact g4, fun j x hj => (dead_cells hj).elim⟩
                rw [seg_size hsz]
                rw [g2.1, g3]
              · exact ⟨l2, c2, e2, g1, by rw [setRow_ne w _ hcb]; exact g2, g3, g4, fun j x hj => (dead_cells hj).elim⟩
        · rw [length_setVer] at hk
          exact hdom k hk
        · rw [getElem?_setVer] at hi hj
          cases hvi : vs[i]? with
          | none => rw [hvi] at hi; cases hi
          | some a1 =>
            cases hvj : vs[j]? with
            | none => rw [hvj] at hj; cases hj
            | some a2 =>
              rw [hvi] at hi
              rw [hvj] at hj
              simp only [Option.map_some, Option.some.injEq] at hi hj
              by_cases hik : i = ver a
              · rw [if_neg (by omega)] at hj
                subst hj
                exact .inr (.inl rfl)
              · rw [if_neg hik] at hi
                subst hi
                exact .inl rfl
      · cases ho
    · cases ho
  · cases ho
end
end Go.Ak

namespace Go.Ak

def patch (M : Nat → Option AObj) (nid : Nat) (o : AOut) : Nat → Option AObj :=
  let M1 := match o.put with | some (b, x) => upd M b x | none => M
  match o.new with | some x => upd M1 nid x | none => M1

section
variable {P : Program} {C : Ctx} {φ : Phi} {M : Nat → Option AObj} {w : World}

theorem aadd_rel {a a' : Addr} (h : ARel φ a a') (n : Nat) : ARel φ (aadd a n) (a'.add n) := by
  obtain ⟨l, h1, rfl⟩ := h
  refine ⟨l, h1, ?_⟩
  rw [addr_add]
  simp [aadd]
  omega

theorem ver_aadd (a : Addr) (n : Nat) : ver (aadd a n) = ver a := rfl

theorem ver_mk (g k off : Nat) : ver (mkAddr g k off) = k := by cases k <;> rfl

theorem grownCap_ge' (w : World) (need old : Nat) (e : TypeId) : need ≤ grownCap w need old e := by
  simp [grownCap, Question.cut]

theorem firstCells_zero (size : Nat) {v : Value} (hv : ∃ a n c, v = .slice a n c) (w : World) : (Builtin.firstCells size 0 v).run P w = .ok #[] w := by
  obtain ⟨a, n, c, rfl⟩ := hv
  cases a <;> simp [Builtin.firstCells, loadCells, loadCellsFrom]

/-- The old cells of a slice. -/
theorem old_rel (h : R P C φ M w) {a : Addr} {l : Loc} (hl : φ a.block (ver a) = some l) {esz len n c : Nat} {old : List Value} (ho : loadN C M a (len * esz) = some old) :
    ∃ old', VsRel φ old old' ∧ old'.length = len * esz ∧ ∀ W : World, W.heap = w.heap → (Builtin.firstCells esz len (.slice (some ⟨l.cb, a.off + l.sh, none⟩) n c)).run P W = .ok old'.toArray W := by
  obtain ⟨h1, old', hc, h2, h3, _⟩ := loadN_rel h (a' := ⟨l.cb, a.off + l.sh, none⟩) ⟨l, hl, rfl⟩ ho
  refine ⟨old', h3, h2, fun W hW => ?_⟩
  refine run_firstCells_some W esz len _ n c old' h2 fun j v hv => ?_
  have := hc j v hv
  rw [addr_add] at this ⊢
  simpa [World.cell?, hW] using this

/-- The new version of an object, made where the spare room bore it or in a new block. -/
theorem R.version (h : R P C φ M w) {g k : Nat} {vs : List AVer} {v : AVer} (hM : M g = some (.cells vs)) (hv : vs[k]? = some v) {e : Nat}
    {us : List AVer} (hus : us = if e = v.cells.length ∧ v.cells ≠ [] then killAfter vs k else setVer vs k (v.cells.take e))
    {w' : World} {nl : Loc} {nv : AVer}
    (hos : w'.os = w.os) (htape : w'.tape = w.tape) (hout : w'.output = w.output) (hsize : w.heap.size ≤ w'.heap.size)
    (hnl : nl.cb < w'.heap.size)
    (hcase : (w.heap.size ≤ nl.cb ∧ ∀ cb, cb < w.heap.size → w'.heap[cb]? = w.heap[cb]?) ∨
      (∃ l cc cc' t, φ g k = some l ∧ l.cb = nl.cb ∧ l.lim = nl.lim ∧ w.heap[l.cb]? = some (.cells cc t (0, 0)) ∧ w'.heap[l.cb]? = some (.cells cc' t (0, 0)) ∧ cc'.size = cc.size ∧
        (∀ j, j < e + l.sh → cc'[j]? = cc[j]?) ∧ (∀ cb, cb ≠ l.cb → w'.heap[cb]? = w.heap[cb]?) ∧ l.sh + e ≤ nl.sh + nv.cells.length))
    (hnv : ∀ ψ : Phi, φ.le ψ → ψ g vs.length = some nl → VerRel ψ w' g vs.length nv) :
    φ.le (φ.set g vs.length nl) ∧ R P C (φ.set g vs.length nl) (Ak.upd M g (.cells (us ++ [nv]))) w' := by
  obtain ⟨hvers, hdom, hends⟩ := h.obj _ _ hM
  have hle : φ.le (φ.set g vs.length nl) := Phi.le_set φ nl (hdom _ (Nat.le_refl _))
  have hk : k < vs.length := (List.getElem?_eq_some_iff.1 hv).1
  have hlen : us.length = vs.length := by
    rw [hus]; split
    · exact length_killAfter vs k
    · exact length_setVer vs k _
  -- what each version has become
  have hu : ∀ i u, us[i]? = some u → ∃ vi, vs[i]? = some vi ∧ (u.esz = vi.esz ∧ u.ty = vi.ty) ∧ (u.cells = [] ∨ (u.cells = vi.cells ∧ i < k ∧ e = v.cells.length ∧ v.cells ≠ []) ∨ (i = k ∧ u.cells = vi.cells.take e)) := by
    intro i u hiu
    rw [hus] at hiu
    split at hiu
    · rename_i hcond
      rw [getElem?_killAfter] at hiu
      cases hvi : vs[i]? with
      | none => rw [hvi] at hiu; cases hiu
      | some vi =>
        rw [hvi] at hiu
        simp only [Option.map_some, Option.some.injEq] at hiu
        by_cases hik : i ≤ k
        · rw [if_pos hik] at hiu
          subst hiu
          refine ⟨vi, rfl, ⟨rfl, rfl⟩, .inr ?_⟩
          rcases Nat.lt_or_eq_of_le hik with hlt | rfl
          · exact .inl ⟨rfl, hlt, hcond.1, hcond.2⟩
          · rw [hv] at hvi
            cases hvi
            exact .inr ⟨rfl, by rw [hcond.1, List.take_length]⟩
        · rw [if_neg hik] at hiu
          subst hiu
          exact ⟨vi, rfl, ⟨rfl, rfl⟩, .inl rfl⟩
    · rw [getElem?_setVer] at hiu
      cases hvi : vs[i]? with
      | none => rw [hvi] at hiu; cases hiu
      | some vi =>
        rw [hvi] at hiu
        simp only [Option.map_some, Option.some.injEq] at hiu
        by_cases hik : i = k
        · subst hik
          rw [if_pos rfl] at hiu
          subst hiu
          rw [hv] at hvi
          cases hvi
          exact ⟨v, rfl, ⟨rfl, rfl⟩, .inr (.inr ⟨rfl, rfl⟩)⟩
        · rw [if_neg hik] at hiu
          subst hiu
          exact ⟨vi, rfl, ⟨rfl, rfl⟩, .inl rfl⟩
  have hnth : ∀ i, i ≠ vs.length → (φ.set g vs.length nl) g i = φ g i := fun i hi => Phi.set_other φ nl (fun e => hi e.2)
  refine ⟨hle, h.upd hle (fun g' hne i => Phi.set_other φ nl (fun e => hne e.1)) hos htape hout hsize ?_ ?_ ?_ ⟨?_, ?_, ?_⟩⟩
  · intro cb hcb hfar
    rcases hcase with ⟨_, hh⟩ | ⟨l, cc, cc', t, hl, _, _, _, _, _, _, hh, _⟩
    · exact hh cb hcb
    · exact hh cb (fun e => hfar k l hl e.symm)
  · intro i l hl
    by_cases hi : i = vs.length
    · subst hi
      rw [Phi.set_self] at hl
      cases hl
      rcases hcase with ⟨hh, _⟩ | ⟨l, cc, cc', t, hl, hcb, _⟩
      · exact .inr hh
      · exact .inl ⟨k, l, hl, hcb⟩
    · rw [hnth i hi] at hl
      exact .inl ⟨i, l, hl, rfl⟩
  · intro i l hl
    by_cases hi : i = vs.length
    · subst hi
      rw [Phi.set_self] at hl
      cases hl
      exact hnl
    · rw [hnth i hi] at hl
      exact Nat.lt_of_lt_of_le (h.bound _ _ _ hl) hsize
  · -- each version
    intro i u hiu
    by_cases hi : i < vs.length
    · rw [List.getElem?_append_left (by omega)] at hiu
      obtain ⟨vi, hvi, hesz, hcells⟩ := hu i u hiu
      obtain ⟨li, ci, ei, g1, g2, g3, g4, g5⟩ := hvers i vi hvi
      have hg1 := hle _ _ _ g1
      rcases hcase with ⟨_, hh⟩ | ⟨l, cc, cc', t, hl, hcb, hlim, hcc, hcc', hsz, hkeep, hh, hend⟩
      · refine ⟨li, ci, ei, hg1, (hh _ (h.bound _ _ _ g1)).trans g2, g3, by rw [hesz.1, hesz.2]; exact g4, fun j x hj => ?_⟩
        rcases hcells with h0 | ⟨h0, _⟩ | ⟨_, h0⟩
        · rw [h0] at hj; simp at hj
        · rw [h0] at hj
          obtain ⟨x', p, q⟩ := g5 j x hj
          exact ⟨x', p, q.mono hle⟩
        · rw [h0, List.getElem?_take] at hj
          split at hj
          · obtain ⟨x', p, q⟩ := g5 j x hj
            exact ⟨x', p, q.mono hle⟩
          · cases hj
      · by_cases hsame : li.cb = l.cb
        · rw [hsame, hcc] at g2
          simp only [Option.some.injEq, Obj.cells.injEq] at g2
          obtain ⟨rfl, rfl, _⟩ := g2
          refine ⟨li, cc', t, hg1, by rw [hsame]; exact hcc', by rw [hsz]; exact g3, by rw [hesz.1, hesz.2]; exact g4, fun j x hj => ?_⟩
          rcases hcells with h0 | ⟨h0, hik, hee, hne⟩ | ⟨hik, h0⟩
          · rw [h0] at hj; simp at hj
          · rw [h0] at hj
            have hjl : j < vi.cells.length := (List.getElem?_eq_some_iff.1 hj).1
            have := hends i k vi v li l hik hvi hv g1 hl hsame
            rcases this with h1 | h1 | h1
            · rw [h1] at hjl; simp at hjl
            · exact absurd h1 hne
            · obtain ⟨x', p, q⟩ := g5 j x hj
              exact ⟨x', by rw [hkeep _ (by omega)]; exact p, q.mono hle⟩
          · subst hik
            rw [g1] at hl
            cases hl
            rw [h0, List.getElem?_take] at hj
            split at hj
            · rename_i hje
              obtain ⟨x', p, q⟩ := g5 j x hj
              exact ⟨x', by rw [hkeep _ (by omega)]; exact p, q.mono hle⟩
            · cases hj
        · refine ⟨li, ci, ei, hg1, (hh _ hsame).trans g2, g3, by rw [hesz.1, hesz.2]; exact g4, fun j x hj => ?_⟩
          rcases hcells with h0 | ⟨h0, _⟩ | ⟨_, h0⟩
          · rw [h0] at hj; simp at hj
          · rw [h0] at hj
            obtain ⟨x', p, q⟩ := g5 j x hj
            exact ⟨x', p, q.mono hle⟩
          · rw [h0, List.getElem?_take] at hj
            split at hj
            · obtain ⟨x', p, q⟩ := g5 j x hj
              exact ⟨x', p, q.mono hle⟩
            · cases hj
    · have hi2 : i = vs.length := by
        have := (List.getElem?_eq_some_iff.1 hiu).1
        simp at this; omega
      subst hi2
      rw [List.getElem?_append_right (by omega)] at hiu
      simp [hlen] at hiu
      subst hiu
      exact hnv _ hle (Phi.set_self φ g _ nl)
  · intro i hi
    simp [hlen] at hi
    rw [hnth i (by omega)]
    exact hdom i (by omega)
  · -- the ends
    intro i j ui uj li lj hij hi hj hli hlj hcb
    have hil : i < vs.length := by
      have := (List.getElem?_eq_some_iff.1 hj).1
      simp at this; omega
    rw [hnth i (by omega)] at hli
    rw [List.getElem?_append_left (by omega)] at hi
    obtain ⟨vi, hvi, _, hcells⟩ := hu i ui hi
    by_cases hjl : j < vs.length
    · rw [hnth j (by omega)] at hlj
      rw [List.getElem?_append_left (by omega)] at hj
      obtain ⟨vj, hvj, _, hcellsj⟩ := hu j uj hj
      have hE := hends i j vi vj li lj hij hvi hvj hli hlj hcb
      rcases hcells with h0 | ⟨h0, hik, hee, _⟩ | ⟨hik, h0⟩
      · exact .inl h0
      · rcases hcellsj with h1 | ⟨h1, _⟩ | ⟨hjk, h1⟩
        · exact .inr (.inl h1)
        · rw [h0, h1]; exact hE
        · subst hjk
          rw [hv] at hvj
          cases hvj
          rw [hee, List.take_length] at h1
          rw [h0, h1]; exact hE
      · rcases hcellsj with h1 | ⟨h1, hjk, _⟩ | ⟨hjk, h1⟩
        · exact .inr (.inl h1)
        · omega
        · omega
    · have hj2 : j = vs.length := by
        have := (List.getElem?_eq_some_iff.1 hj).1
        simp at this; omega
      subst hj2
      rw [Phi.set_self] at hlj
      cases hlj
      rw [List.getElem?_append_right (by omega)] at hj
      simp [hlen] at hj
      subst hj
      rcases hcase with ⟨hge, _⟩ | ⟨l, cc, cc', t, hl, hcb', hlim, hcc, hcc', hsz, hkeep, hh, hend⟩
      · have := h.bound _ _ _ hli; omega
      · rcases hcells with h0 | ⟨h0, hik, hee, hne⟩ | ⟨hik, h0⟩
        · exact .inl h0
        · rcases hends i k vi v li l hik hvi hv hli hl (by rw [hcb, hcb']) with h1 | h1 | h1
          · exact .inl (by rw [h0, h1])
          · exact absurd h1 hne
          · right; right
            rw [h0]; omega
        · subst hik
          rw [hli] at hl
          cases hl
          right; right
          rw [h0, List.length_take]
          omega

/-- What is asked of the concrete 'append': what it does where there is room, and where there is none. -/
structure AppSem (P : Program) (w : World) (X : Sem Value) (esz bytes : Nat) (e : TypeId) (z : Array Value) (m : Nat) (s' : Value) (xs' : List Value) : Prop where
  fits : ∀ b len cap w', s' = .slice b len cap → len + m ≤ cap → (match b with | some a => (storeCells (a.add (len * esz)) xs').run P w = .ok () w' | none => w' = w) →
    X.run P w = .ok (.slice b (len + m) cap) w'
  grows : ∀ b len cap old, s' = .slice b len cap → cap < len + m → len + m ≤ 4611686018427387904 → (len + m) * bytes ≤ 140737488355328 →
    (Builtin.firstCells esz len s').run P w.drew = .ok old w.drew →
    X.run P w = .ok (.slice (some ⟨w.heap.size, 0, none⟩) (len + m) (grownCap w (len + m) cap e))
      (w.drew.alloc (.cells (old ++ xs'.toArray ++ Builtin.zeroCells z (grownCap w (len + m) cap e - (len + m))) e))

theorem zc_size (z : Array Value) (n : Nat) : (Builtin.zeroCells z n).size = n * z.size := by simp [Builtin.zeroCells]

theorem pre_rel {old old' xs xs' : List Value} (z : Array Value) (ho : VsRel φ old old') (hx : VsRel φ xs xs') (j : Nat) (x : Value) (h : (old ++ xs)[j]? = some x) :
    ∃ x', (old'.toArray ++ xs'.toArray ++ z)[j]? = some x' ∧ VRel φ x x' := by
  obtain ⟨x', p, q⟩ := (ho.append hx).get h
  refine ⟨x', ?_, q⟩
  have hj : j < (old' ++ xs').length := (List.getElem?_eq_some_iff.1 p).1
  have e : old'.toArray ++ xs'.toArray = (old' ++ xs').toArray := by simp
  rw [e, Array.getElem?_append_left (by simpa using hj)]
  simpa using p

theorem load_raw {a : Addr} {n : Nat} {l : List Value} (hM : M a.block = some .raw) (h : loadN C M a n = some l) : ver a = 0 := by
  unfold ver
  cases hsp : a.spot with
  | none => rfl
  | some k =>
    unfold loadN at h
    have : cellsAt C M a = none := by
      unfold cellsAt
      rw [hM]
      simp only [hsp]
      split <;> rfl
    rw [this] at h
    cases h

theorem tyIf {c : Prop} [Decidable c] {ty : Option TypeId} {e t : TypeId} (hty : ∀ t, ty = some t → e = t) (h : (if c then ty else none) = some t) : e = t := by
  split at h
  · exact hty t h
  · cases h

theorem appendA_rel (h : R P C φ M w) {nid : Nat} {out : AOut} (hn : out.new ≠ none → M nid = none) {ty : Option TypeId} {esz bytes : Nat} (hpos : 1 ≤ esz) {e : TypeId} (hty : ∀ t, ty = some t → e = t) {z : Array Value} (hz : z.size = esz) {m : Nat} {s s' : Value} (hs : VRel φ s s')
    {xs xs' : List Value} (hx : VsRel φ xs xs') {rd : List Nat} {X : Sem Value} (hX : AppSem P w X esz bytes e z m s' xs') (ho : appendA C M ty esz bytes s m xs rd nid = some out) :
    ∃ v' w' φ', X.run P w = .ok v' w' ∧ φ.le φ' ∧ VRel φ' out.v v' ∧ R P C φ' (patch M nid out) w' := by
  unfold appendA at ho
  split at ho
  case isFalse => cases ho
  rename_i hlx
  obtain ⟨hlx, hscal⟩ := hlx
  have hlx' : xs'.length = m * esz := by rw [← hx.length, hlx]
  -- where a new block is made with what was there and what comes
  have fresh : ∀ (b' : Option Addr) (len cap' : Nat) (old old' : List Value) (rd2 : List Nat), s' = .slice b' len cap' → cap' < len + m → roomy (len + m) bytes = true → VsRel φ old old' → old'.length = len * esz →
      (Builtin.firstCells esz len s').run P w.drew = .ok old'.toArray w.drew → out = { v := .slice (some ⟨nid, 0, none⟩) (len + m) (len + m), new := some (.cells [⟨esz, old ++ xs, ty⟩]), rd := rd2 } →
      ∃ v' w' φ', X.run P w = .ok v' w' ∧ φ.le φ' ∧ VRel φ' out.v v' ∧ R P C φ' (patch M nid out) w' := by
    intro b' len cap' old old' rd2 hs' hcap hroom hold hol hfc hout
    have hn := hn (by rw [hout]; simp)
    simp [roomy] at hroom
    have hrun := hX.grows b' len cap' old'.toArray hs' hcap hroom.1 hroom.2 hfc
    have hge := grownCap_ge' w (len + m) cap' e
    obtain ⟨hle, hR⟩ := h.drew.new_cells hn (old ++ xs) (old'.toArray ++ xs'.toArray ++ Builtin.zeroCells z (grownCap w (len + m) cap' e - (len + m))) e esz ty hty (fun j x hj => pre_rel _ hold hx j x hj)
    subst hout
    refine ⟨_, _, _, hrun, hle, ?_, hR⟩
    have hsz : (old'.toArray ++ xs'.toArray ++ Builtin.zeroCells z (grownCap w (len + m) cap' e - (len + m))).size = grownCap w (len + m) cap' e * esz := by
      simp only [Array.size_append, List.size_toArray, zc_size, hz, hol, hlx', ← Nat.add_mul]
      congr 1
      omega
    refine VRel.slice ⟨nid, 0, none⟩ _ _ _ _ (Phi.set_self φ nid 0 _) (.inr ⟨hpos, hge, ?_⟩)
    exact (show 0 + 0 + grownCap w (len + m) cap' e * esz ≤ (old'.toArray ++ xs'.toArray ++ Builtin.zeroCells z (grownCap w (len + m) cap' e - (len + m))).size by rw [hsz]; omega)
  split at ho
  · -- the nil slice
    rename_i len cap
    split at ho
    case isFalse => cases ho
    rename_i h0
    obtain ⟨rfl, rfl⟩ := h0
    have hs' : s' = .slice none 0 0 := by cases hs; rfl
    subst hs'
    split at ho
    · rename_i hm
      subst hm
      cases ho
      exact ⟨_, _, φ, hX.fits none 0 0 w rfl (by omega) rfl, Phi.le_refl φ, .sliceNil, h⟩
    · rename_i hm
      split at ho
      case isFalse => cases ho
      rename_i hroom
      cases ho
      refine fresh none 0 0 [] [] rd rfl (by omega) (by simpa using hroom) .nil (by simp) (firstCells_zero esz ⟨_, _, _, rfl⟩ _) (by simp)
  · rename_i a len cap
    split at ho
    · -- there is room
      rename_i hfit
      split at ho
      · rename_i hm
        subst hm
        cases ho
        have hx0 : xs' = [] := List.eq_nil_of_length_eq_zero (by simpa using hlx')
        subst hx0
        cases hs with
        | slice _ l _ _ c' hl hc =>
          exact ⟨_, _, φ, hX.fits _ _ _ w rfl (by rcases hc with rfl | ⟨_, h2, _⟩ <;> omega) rfl, Phi.le_refl φ, .slice _ l _ _ _ hl hc, h⟩
        | slice0 _ a' => exact ⟨_, _, φ, hX.fits _ _ _ w rfl (by omega) rfl, Phi.le_refl φ, .slice0 _ _, h⟩
      · rename_i hm
        split at ho
        case h_2 => cases ho
        rename_i o hst
        cases ho
        cases hs with
        | slice _ l _ _ c' hl hc =>
          have ha : ARel φ (aadd a (len * esz)) ((⟨l.cb, a.off + l.sh, none⟩ : Addr).add (len * esz)) := aadd_rel ⟨l, hl, rfl⟩ _
          obtain ⟨w', hrun, hR⟩ := storeN_rel h ha hx hst
          exact ⟨_, w', φ, hX.fits _ _ _ w' rfl (by rcases hc with rfl | ⟨_, h2, _⟩ <;> omega) hrun, Phi.le_refl φ, .slice _ l _ _ _ hl hc, hR⟩
        | slice0 _ a' => omega
    · -- there may be none
      rename_i hfit
      split at ho
      case isFalse => cases ho
      rename_i hroom
      split at ho
      · -- an object that was there ahead of all
        rename_i hM
        split at ho
        case h_2 => cases ho
        rename_i old hold
        split at ho
        case isFalse => cases ho
        cases ho
        obtain ⟨hlt, hOld, _⟩ := h.obj _ _ hM
        cases hs with
        | slice _ l _ _ c' hl hc =>
          have hl0 : l.esz = 0 := by
            have hv : ver a = 0 := load_raw hM hold
            rw [hv, hOld _ hlt] at hl
            cases hl
            rfl
          have hcc : c' = cap := by rcases hc with h1 | ⟨h1, _⟩ <;> omega
          subst hcc
          obtain ⟨old', h1, h2, h3⟩ := old_rel h hl hold (n := len) (c := c')
          exact fresh _ len c' old old' _ rfl (by omega) hroom h1 h2 (h3 w.drew rfl) rfl
        | slice0 _ a' =>
          have h0 : old = [] := by
            unfold loadN at hold
            split at hold
            · split at hold
              · cases hold; simp
              · cases hold
            · cases hold
          subst h0
          exact fresh _ 0 0 [] [] _ rfl (by omega) hroom .nil (by simp) (firstCells_zero esz ⟨_, _, _, rfl⟩ _) rfl
      · -- an object of cells: a new version
        rename_i vs hM
        split at ho
        case h_2 => cases ho
        rename_i v hv
        split at ho
        · -- no spare room, for sure
          rename_i hex
          split at ho
          case h_2 => cases ho
          rename_i old hold
          split at ho
          case isFalse => cases ho
          cases ho
          obtain ⟨hvers, _, _⟩ := h.obj _ _ hM
          cases hs with
          | slice _ l _ _ c' hl hc =>
            have hl0 : l.esz = 0 := by
              obtain ⟨l', _, _, g1, _, _, g4, _⟩ := hvers _ v hv
              rw [hl] at g1
              cases g1
              rw [g4.1, hex.1]
            have hcc : c' = cap := by rcases hc with h1 | ⟨h1, _⟩ <;> omega
            subst hcc
            obtain ⟨old', h1, h2, h3⟩ := old_rel h hl hold (n := len) (c := c')
            exact fresh _ len c' old old' _ rfl (by omega) hroom h1 h2 (h3 w.drew rfl) rfl
          | slice0 _ a' =>
            have h0 : old = [] := by
              unfold loadN at hold
              split at hold
              · split at hold
                · cases hold; simp
                · cases hold
              · cases hold
            subst h0
            exact fresh _ 0 0 [] [] _ rfl (by omega) hroom .nil (by simp) (firstCells_zero esz ⟨_, _, _, rfl⟩ _) rfl
        dsimp only at ho
        split at ho
        case isFalse => cases ho
        rename_i hcond
        obtain ⟨hesz, he, hsc⟩ := hcond
        cases ho
        simp [roomy] at hroom
        have hoA : (v.cells.drop a.off).length = v.cells.length - a.off := by simp
        have hload : loadN C M a (len * esz) = some ((v.cells.drop a.off).take (len * esz)) := by
          unfold loadN cellsAt
          rw [hM]
          simp only [hv]
          rw [if_pos (by rw [hoA]; omega)]
        have hle0 : ((v.cells.drop a.off).take (len * esz)).length = len * esz := by rw [List.length_take, hoA]; omega
        obtain ⟨hvers, hdom, hends⟩ := h.obj _ _ hM
        -- the case in which a new block is made
        have grow : ∀ (b' : Option Addr) (cap' : Nat) (old' : List Value), s' = .slice b' len cap' → cap' < len + m → VsRel φ ((v.cells.drop a.off).take (len * esz)) old' → old'.length = len * esz →
            (Builtin.firstCells esz len s').run P w.drew = .ok old'.toArray w.drew →
            ∃ v' w' φ', X.run P w = .ok v' w' ∧ φ.le φ' ∧ VRel φ' (.slice (some (mkAddr a.block vs.length 0)) (len + m) (len + m)) v' ∧
              R P C φ' (Ak.upd M a.block (.cells ((if a.off + len * esz = v.cells.length ∧ v.cells ≠ [] then killAfter vs (ver a) else setVer vs (ver a) (v.cells.take (a.off + len * esz))) ++ [⟨esz, (v.cells.drop a.off).take (len * esz) ++ xs, if a.off = 0 ∧ v.ty = ty then ty else none⟩]))) w' := by
          intro b' cap' old' hs' hcap hold hol hfc
          have hrun := hX.grows b' len cap' old'.toArray hs' hcap hroom.1 hroom.2 hfc
          have hge := grownCap_ge' w (len + m) cap' e
          have hsz : (old'.toArray ++ xs'.toArray ++ Builtin.zeroCells z (grownCap w (len + m) cap' e - (len + m))).size = grownCap w (len + m) cap' e * esz := by
            simp only [Array.size_append, List.size_toArray, zc_size, hz, hol, hlx', ← Nat.add_mul]
            congr 1
            omega
          obtain ⟨hle, hR⟩ := h.drew.version hM hv (e := a.off + len * esz) rfl
            (w' := w.drew.alloc (.cells (old'.toArray ++ xs'.toArray ++ Builtin.zeroCells z (grownCap w (len + m) cap' e - (len + m))) e))
            (nl := ⟨w.heap.size, 0, (old'.toArray ++ xs'.toArray ++ Builtin.zeroCells z (grownCap w (len + m) cap' e - (len + m))).size, esz⟩)
            (nv := ⟨esz, (v.cells.drop a.off).take (len * esz) ++ xs, if a.off = 0 ∧ v.ty = ty then ty else none⟩) rfl rfl rfl (by simp) (by simp) (.inl ⟨Nat.le_refl _, fun cb hcb => heap_alloc_below w.drew _ hcb⟩)
            (fun ψ hψ hl => ⟨_, _, e, hl, heap_alloc_self w.drew _, rfl, ⟨rfl, fun t ht => ⟨tyIf hty ht, rfl⟩⟩, fun j x hj => by
              obtain ⟨x', p, q⟩ := pre_rel (Builtin.zeroCells z (grownCap w (len + m) cap' e - (len + m))) hold hx j x hj
              exact ⟨x', p, q.mono hψ⟩⟩)
          refine ⟨_, _, _, hrun, hle, ?_, hR⟩
          have hmk : (⟨w.heap.size, 0, none⟩ : Addr) = ⟨w.heap.size, (mkAddr a.block vs.length 0).off + 0, none⟩ := rfl
          rw [hmk]
          refine VRel.slice (mkAddr a.block vs.length 0) ⟨w.heap.size, 0, _, esz⟩ _ _ _ (by rw [ver_mk]; exact Phi.set_self φ _ _ _) (.inr ⟨hpos, hge, ?_⟩)
          exact (show 0 + 0 + grownCap w (len + m) cap' e * esz ≤ (old'.toArray ++ xs'.toArray ++ Builtin.zeroCells z (grownCap w (len + m) cap' e - (len + m))).size by rw [hsz]; omega)
        cases hs with
        | slice0 _ a' =>
          have h0 : (v.cells.drop a.off).take (0 * esz) = [] := by simp
          obtain ⟨v', w', φ', r1, r2, r3, r4⟩ := grow _ 0 [] rfl (by omega) (by rw [h0]; exact .nil) (by simp) (firstCells_zero esz ⟨_, _, _, rfl⟩ _)
          exact ⟨v', w', φ', r1, r2, r3, r4⟩
        | slice _ l _ _ c' hl hc =>
          obtain ⟨old', h1, h2, h3⟩ := old_rel h hl hload (n := len) (c := c')
          by_cases hroomy : len + m ≤ c'
          · -- the spare room bears it
            have hb : 0 < l.esz ∧ cap ≤ c' ∧ a.off + l.sh + c' * l.esz ≤ l.lim := by
              rcases hc with h4 | h4
              · omega
              · exact h4
            obtain ⟨l', cc, t, g1, g2, g3, g4, g5⟩ := hvers _ v hv
            rw [hl] at g1
            cases g1
            have hle' : l.esz = esz := by rcases hesz with h5 | h5 <;> omega
            have hmul : (len + m) * esz ≤ c' * esz := Nat.mul_le_mul_right _ hroomy
            have hsplit : (len + m) * esz = len * esz + m * esz := Nat.add_mul _ _ _
            have hin : a.off + l.sh + len * esz + xs'.length ≤ cc.size := by
              rw [g3, hlx']
              have := hb.2.2
              rw [hle'] at this
              omega
            have hst := run_storeCells_at P l.cb (a.off + l.sh + len * esz) t xs' 0 cc w g2 (by simpa using hin) (scalars_rel hx hscal)
            simp only [Nat.add_zero] at hst
            have hnew := setRow_at w g2 (cc.toList.take (a.off + l.sh + len * esz) ++ xs' ++ cc.toList.drop (a.off + l.sh + len * esz + xs'.length)).toArray
            have hsegsz := seg_size hin
            have hget : ∀ j, (cc.toList.take (a.off + l.sh + len * esz) ++ xs' ++ cc.toList.drop (a.off + l.sh + len * esz + xs'.length)).toArray[j]? =
                if a.off + l.sh + len * esz ≤ j ∧ j < a.off + l.sh + len * esz + xs'.length then xs'[j - (a.off + l.sh + len * esz)]? else cc[j]? := by
              intro j
              have := seg_get cc.toList xs' (a.off + l.sh + len * esz) j (by simpa using hin)
              rw [List.getElem?_toArray, this]
              simp
            obtain ⟨hle, hR⟩ := h.version hM hv (e := a.off + len * esz) rfl
              (w' := w.setRow l.cb (cc.toList.take (a.off + l.sh + len * esz) ++ xs' ++ cc.toList.drop (a.off + l.sh + len * esz + xs'.length)).toArray)
              (nl := ⟨l.cb, a.off + l.sh, l.lim, esz⟩)
              (nv := ⟨esz, (v.cells.drop a.off).take (len * esz) ++ xs, if a.off = 0 ∧ v.ty = ty then ty else none⟩) rfl rfl rfl (by simp) (by simpa using h.bound _ _ _ hl)
              (.inr ⟨l, cc, _, t, hl, rfl, rfl, g2, hnew, hsegsz, fun j hj => by rw [hget, if_neg (by omega)], fun cb hcb => setRow_ne w _ hcb, by
                simp only [List.length_append, hle0]
                omega⟩)
              (fun ψ hψ hl2 => ⟨_, _, t, hl2, hnew, by rw [hsegsz]; exact g3, ⟨rfl, fun t' ht' => by
                  dsimp only at ht'
                  split at ht'
                  case isFalse => cases ht'
                  rename_i hcd
                  obtain ⟨z1, z2⟩ := g4.2 t' (by rw [hcd.2]; exact ht')
                  exact ⟨z1, by show a.off + l.sh = 0; omega⟩⟩, fun j x hj => by
                show ∃ x', (cc.toList.take (a.off + l.sh + len * esz) ++ xs' ++ cc.toList.drop (a.off + l.sh + len * esz + xs'.length)).toArray[j + (a.off + l.sh)]? = some x' ∧ VRel ψ x x'
                rw [hget]
                by_cases hjl : j < len * esz
                · rw [if_neg (by omega)]
                  rw [List.getElem?_append_left (by omega), List.getElem?_take, if_pos hjl, List.getElem?_drop] at hj
                  obtain ⟨x', p, q⟩ := g5 _ x hj
                  exact ⟨x', by rw [← p]; congr 1; omega, q.mono hψ⟩
                · rw [List.getElem?_append_right (by omega), hle0] at hj
                  obtain ⟨x', p, q⟩ := hx.get hj
                  have hjx : j - len * esz < xs'.length := (List.getElem?_eq_some_iff.1 p).1
                  refine ⟨x', ?_, q.mono hψ⟩
                  rw [if_pos (by omega), ← p]
                  congr 1
                  omega⟩)
            have hrun := hX.fits (some ⟨l.cb, a.off + l.sh, none⟩) len c' _ rfl hroomy (show (storeCells ((⟨l.cb, a.off + l.sh, none⟩ : Addr).add (len * esz)) xs').run P w = _ by rw [addr_add]; exact hst)
            refine ⟨_, _, _, hrun, hle, ?_, hR⟩
            have hmk : (⟨l.cb, a.off + l.sh, none⟩ : Addr) = ⟨l.cb, (mkAddr a.block vs.length 0).off + (a.off + l.sh), none⟩ := by simp [mkAddr]
            rw [hmk]
            refine VRel.slice (mkAddr a.block vs.length 0) ⟨l.cb, a.off + l.sh, l.lim, esz⟩ _ _ _ (by rw [ver_mk]; exact Phi.set_self φ _ _ _) (.inr ⟨hpos, hroomy, ?_⟩)
            have := hb.2.2
            rw [hle'] at this
            simp [mkAddr]
            omega
          · exact grow _ c' old' rfl (by omega) h1 h2 (h3 w.drew rfl)
      · cases ho
  · cases ho
end
end Go.Ak
