/-
  An abstract evaluator for Go functions, over an own intermediate form: the definitions.
  Values are the model's own; the abstract memory is a table of objects by number; an 'append' that may or may not grow makes a new version of its object.
-/
import Derived.RangeFuncLeaves
import Derived.OrdersIn
import Derived.Below
namespace Go.Ai

/-! ### tables -/
inductive Trie (α : Type) where
  | leaf
  | node (l : Trie α) (v : Option α) (r : Trie α)

def Trie.get {α : Type} : Trie α → Nat → Option α
  | .leaf, _ => none
  | .node _ v _, 0 => v
  | .node l _ r, n + 1 => cond (Nat.beq (n % 2) 0) (l.get (n / 2)) (r.get (n / 2))

def Trie.set {α : Type} : Nat → Trie α → Nat → α → Trie α
  | 0, t, _, _ => t
  | _ + 1, .leaf, 0, a => .node .leaf (some a) .leaf
  | f + 1, .leaf, n + 1, a => cond (Nat.beq (n % 2) 0) (.node (Trie.set f .leaf (n / 2) a) none .leaf) (.node .leaf none (Trie.set f .leaf (n / 2) a))
  | _ + 1, .node l _ r, 0, a => .node l (some a) r
  | f + 1, .node l v r, n + 1, a => cond (Nat.beq (n % 2) 0) (.node (Trie.set f l (n / 2) a) v r) (.node l v (Trie.set f r (n / 2) a))

def Trie.put {α : Type} (t : Trie α) (n : Nat) (a : α) : Trie α := Trie.set (n + 1) t n a

theorem half_eq {m n : Nat} (h : m % 2 = n % 2) : (m / 2 = n / 2) = (m = n) := by
  apply propext; constructor <;> intro h' <;> omega

theorem Trie.get_set {α : Type} (a : α) : ∀ (f : Nat) (t : Trie α) (n m : Nat), n < f → (Trie.set f t n a).get m = if m = n then some a else t.get m := by
  intro f
  induction f with
  | zero => intro t n m h; omega
  | succ f ih =>
    intro t n m h
    cases t with
    | leaf =>
      cases n with
      | zero => cases m <;> simp [Trie.set, Trie.get]
      | succ n =>
        have ih' := fun m => ih .leaf (n / 2) m (by omega)
        rcases Nat.mod_two_eq_zero_or_one n with hn | hn <;> cases m with
        | zero => simp [Trie.set, Trie.get, hn, show Nat.beq 1 0 = false from rfl]
        | succ m =>
          rcases Nat.mod_two_eq_zero_or_one m with hm | hm <;> simp [Trie.set, Trie.get, hn, hm, ih', show Nat.beq 1 0 = false from rfl] <;>
            first | (simp only [half_eq (show m % 2 = n % 2 by omega)]) | (intro h'; omega)
    | node l v r =>
      cases n with
      | zero => cases m <;> simp [Trie.set, Trie.get]
      | succ n =>
        have ihl := fun m => ih l (n / 2) m (by omega)
        have ihr := fun m => ih r (n / 2) m (by omega)
        rcases Nat.mod_two_eq_zero_or_one n with hn | hn <;> cases m with
        | zero => simp [Trie.set, Trie.get, hn, show Nat.beq 1 0 = false from rfl]
        | succ m =>
          rcases Nat.mod_two_eq_zero_or_one m with hm | hm <;> simp [Trie.set, Trie.get, hn, hm, ihl, ihr, show Nat.beq 1 0 = false from rfl] <;>
            first | (simp only [half_eq (show m % 2 = n % 2 by omega)]) | (intro h'; omega)

theorem Trie.get_put {α : Type} (t : Trie α) (n m : Nat) (a : α) : (t.put n a).get m = if m = n then some a else t.get m := Trie.get_set a _ _ _ _ (Nat.lt_succ_self n)

@[simp] theorem Trie.get_leaf {α : Type} (n : Nat) : (Trie.leaf : Trie α).get n = none := by cases n <;> rfl

/-! ### the intermediate form -/
inductive IOpd where
  | t (n : Nat)
  | c (v : Value)

def IOpd.val (T : Nat → Value) : IOpd → Value
  | .t n => T n
  | .c v => v

/-- Of what kind are two operands that are compared. -/
inductive BK where
  | num | boo | str | ptr | slc | mp | fn | ifc
  deriving DecidableEq

inductive IOp where
  | mv (x : IOpd)
  | pick (c a b : IOpd)
  | mk (cells : List Value)
  | box (n : Nat) (x : IOpd)
  | build (zero : List Value) (parts : List (Nat × Nat × IOpd))
  | buildSlice (len : Nat) (zero : List Value) (parts : List (Nat × Nat × IOpd))
  | load1 (x : IOpd)
  | loadN (n : Nat) (x : IOpd)
  | store (n : Nat) (a x : IOpd)
  | nilCheck (x : IOpd)
  | bin (k : BK) (op : BinOp) (x y : IOpd)
  | not (x : IOpd)
  | neg (x : IOpd)
  | conv (k : IntKind) (x : IOpd)
  | toStr (x : IOpd)
  | faddr (off : Nat) (x : IOpd)
  | field (off n : Nat) (agg : Bool) (x : IOpd)
  | idxS (esz : Nat) (x i : IOpd)
  | idxA (len esz : Nat) (x i : IOpd)
  | idxV (len esz : Nat) (agg : Bool) (x i : IOpd)
  | idxStr (x i : IOpd)
  | sliceS (esz : Nat) (x : IOpd) (lo hi mx : Option IOpd)
  | sliceA (n esz : Nat) (x : IOpd) (lo hi mx : Option IOpd)
  | sliceStr (x : IOpd) (lo hi : Option IOpd)
  | lenC (n : Nat)
  | len (x : IOpd)
  | lenStr (x : IOpd)
  | lenM (x : IOpd)
  | cap (x : IOpd)
  | append (esz bytes : Nat) (s x : IOpd)
  | appendZ (bytes : Nat) (zero : List Value) (s n : IOpd)
  | copy (esz : Nat) (d s : IOpd)
  | clear (zero : List Value) (x : IOpd)
  | mkSlice (bytes : Nat) (zero : List Value) (n c : IOpd)
  | minI (x y : IOpd)
  | maxI (x y : IOpd)
  | extract (k : Nat) (x : IOpd)
  | mkfn (fn : Fn) (first captured : List IOpd)
  | call (f : IOpd) (args : List IOpd)
  | mkmap
  | insert (m k v : IOpd)
  | lookup (zero : Value) (ok : Bool) (m k : IOpd)
  | mkiface (t : TypeId) (x : IOpd)
  | bad

structure IOper where
  dst : Option Nat
  op : IOp
  g : Option (Nat × Bool)

inductive ICode where
  | skip
  | region (ops : List IOper)
  | dregion (ops : List (Nat × IOper × List Nat))
  | seq (a b : ICode)
  | cond (x : IOpd) (a b : ICode)
  | block (id : Nat) (c : ICode)
  | loop (c : ICode)
  | exit (id : Nat)
  | ret
  | rangeFunc (f : IOpd) (params : List Nat) (assign body : ICode)
  | bad

inductive IRes where
  | tmp (t : Nat)
  | cell1 (t : Nat)
  | cellN (t n : Nat)

structure IFunc where
  results : List IRes
  body : ICode

/-! ### the abstract memory -/
structure AVer where
  esz : Nat
  cells : List Value

abbrev Env := Trie Value

def Env.val (T : Env) (n : Nat) : Value := (T.get n).getD undef

inductive AExit where
  | normal
  | exit (id : Nat)
  | ret
  deriving DecidableEq

structure ALoop where
  state : LoopState
  pending : Option AExit
  T : Env
  params : List Nat
  assign : ICode
  body : ICode

inductive AObj where
  | raw
  | exact (o : Obj)
  | cells (vs : List AVer)
  | map (es : List (Value × Value))
  | loop (l : ALoop)
  | deferred (opn : Bool)

structure AHeap where
  base : Nat
  t : Trie AObj
  cnt : Nat

def AHeap.get (H : AHeap) (b : Nat) : Option AObj := if b < H.base then some .raw else H.t.get (b - H.base)
def AHeap.next (H : AHeap) : Nat := H.base + H.cnt
def AHeap.put (H : AHeap) (b : Nat) (o : AObj) : AHeap := { H with t := H.t.put (b - H.base) o }
def AHeap.push (H : AHeap) (o : AObj) : AHeap := { H with t := H.t.put H.cnt o, cnt := H.cnt + 1 }

/-- The context: the functions, the world at the beginning, calls that are known to answer without touching what was there, a test of two objects. -/
structure Ctx where
  funcs : Trie IFunc
  w0 : World
  known : FuncId → List Value → Option Value
  eqb : AObj → AObj → Bool

/-- A value of one cell. -/
def scalar : Value → Bool
  | .agg _ | .tuple _ => false
  | _ => true

/-- A scalar whose addresses lie below a block. -/
def cleanS (n : Nat) : Value → Bool
  | .bool _ | .int _ _ | .string _ | .nilFunc | .nilIface | .pointer none | .map none => true
  | .pointer (some a) => a.block < n && a.spot.isNone
  | .slice none l c => l == 0 && c == 0
  | .slice (some a) l c => (a.block < n && a.spot.isNone) || (l == 0 && c == 0)
  | .func (.func _) first captured => first.isEmpty && captured.isEmpty
  | _ => false

def clean (n : Nat) : Value → Bool
  | .agg cs => cs.toList.all (cleanS n)
  | v => cleanS n v

def scrub (n : Nat) (v : Value) : Value := if cleanS n v then v else undef

def ver (a : Addr) : Nat := match a.spot with
  | none => 0
  | some k => k + 1
def mkAddr (g k off : Nat) : Addr := { block := g, off, spot := match k with | 0 => none | k + 1 => some k }
def aadd (a : Addr) (n : Nat) : Addr := { block := a.block, off := a.off + n, spot := a.spot }

/-- What an operation that is no call gives: its value, an object that it turns, an object that it makes, the objects that it looks at (those that it turns among them). -/
structure AOut where
  v : Value
  put : Option (Nat × AObj) := none
  new : Option AObj := none
  rd : List Nat := []

section ops
variable (C : Ctx) (M : Nat → Option AObj)

/-- The cells from an address on. -/
def cellsAt (a : Addr) : Option (List Value) :=
  match M a.block with
  | some .raw =>
    match C.w0.heap[a.block]? with
    | some (.cells c _ _) => if a.spot.isNone then some ((c.toList.drop a.off).map (scrub C.w0.heap.size)) else none
    | _ => none
  | some (.cells vs) =>
    match vs[ver a]? with
    | some v => some (v.cells.drop a.off)
    | none => none
  | _ => none

def loadN (a : Addr) (n : Nat) : Option (List Value) :=
  match cellsAt C M a with
  | some l => if n ≤ l.length then some (l.take n) else none
  | none => none

def AVer.dead (v : AVer) : AVer := { v with cells := [] }

/-- One version gets other cells, and no other one holds any more. -/
def setVer : List AVer → Nat → List Value → List AVer
  | [], _, _ => []
  | v :: r, 0, c => { v with cells := c } :: r.map AVer.dead
  | v :: r, k + 1, c => v.dead :: setVer r k c

/-- The versions behind one hold no more. -/
def killAfter : List AVer → Nat → List AVer
  | [], _ => []
  | v :: r, 0 => v :: r.map AVer.dead
  | v :: r, k + 1 => v :: killAfter r k

def storeN (a : Addr) (xs : List Value) : Option AObj :=
  match M a.block with
  | some (.cells vs) =>
    match vs[ver a]? with
    | some v =>
      if xs.length ≠ 0 ∧ a.off + xs.length ≤ v.cells.length ∧ xs.all scalar then
        some (.cells (setVer vs (ver a) (v.cells.take a.off ++ (xs ++ v.cells.drop (a.off + xs.length)))))
      else none
    | none => none
  | _ => none

/-- The cells of a value. -/
def vcells : Value → Option (List Value)
  | .agg cs => some cs.toList
  | .tuple _ => none
  | v => some [v]

def fillA (T : Nat → Value) : List Value → List (Nat × Nat × IOpd) → Option (List Value)
  | cells, [] => some cells
  | cells, (off, size, x) :: r =>
    match vcells (x.val T) with
    | some vs => if vs.length = size ∧ off + size ≤ cells.length then fillA T (cells.take off ++ (vs ++ cells.drop (off + size))) r else none
    | none => none

def asCell : Value → Option Addr
  | .pointer (some a) => some a
  | _ => none

def bnd (T : Nat → Value) (x : Option IOpd) (dflt lim : Nat) : Option Nat :=
  match x with
  | none => some dflt
  | some x => match x.val T with
    | .int _ i => if 0 ≤ i ∧ i ≤ lim then some i.toNat else none
    | _ => none

/-- The three bounds of a slice expression. -/
def bounds (T : Nat → Value) (len cap : Nat) (lo hi mx : Option IOpd) : Option (Nat × Nat × Nat) :=
  match bnd T mx cap cap with
  | none => none
  | some m => match bnd T hi len m with
    | none => none
    | some h => match bnd T lo 0 h with
      | none => none
      | some l => if h ≤ m then some (l, h, m) else none

def roomy (need bytes : Nat) : Bool := Nat.ble need 4611686018427387904 && Nat.ble (need * bytes) 140737488355328

/-- What is appended or copied: n elements. -/
def srcCells (esz n : Nat) : Value → Option (List Value × List Nat)
  | .slice (some b) _ _ => if n = 0 then some ([], []) else match loadN C M b (n * esz) with
    | some l => some (l, [b.block])
    | none => none
  | .slice none _ _ => if n = 0 then some ([], []) else none
  | .string s => some ((s.data.toList.take n).map fun b => .int .u8 b.toNat, [])
  | _ => none

def lenA : Value → Option Nat
  | .slice _ n _ => some n
  | .string s => some s.size
  | _ => none

/-- 'append' of m elements, whose cells are xs. -/
def appendA (esz bytes : Nat) (s : Value) (m : Nat) (xs : List Value) (rd : List Nat) (nid : Nat) : Option AOut :=
  if xs.length = m * esz ∧ xs.all scalar then
    match s with
    | .slice none len cap =>
      if len = 0 ∧ cap = 0 then
        if m = 0 then some { v := s, rd } else
        if roomy m bytes then some { v := .slice (some ⟨nid, 0, none⟩) m m, new := some (.cells [⟨esz, xs⟩]), rd } else none
      else none
    | .slice (some a) len cap =>
      if len + m ≤ cap then
        if m = 0 then some { v := s, rd } else
        match storeN M (aadd a (len * esz)) xs with
        | some o => some { v := .slice (some a) (len + m) cap, put := some (a.block, o), rd := a.block :: rd }
        | none => none
      else
        if roomy (len + m) bytes then
          match M a.block with
          | some .raw =>
            match loadN C M a (len * esz) with
            | some old => if old.all scalar then some { v := .slice (some ⟨nid, 0, none⟩) (len + m) (len + m), new := some (.cells [⟨esz, old ++ xs⟩]), rd := a.block :: rd } else none
            | none => none
          | some (.cells vs) =>
            match vs[ver a]? with
            | some v =>
              let e := a.off + len * esz
              if (v.esz = 0 ∨ v.esz = esz) ∧ e ≤ v.cells.length ∧ ((v.cells.drop a.off).take (len * esz)).all scalar then
                some { v := .slice (some (mkAddr a.block vs.length 0)) (len + m) (len + m),
                       put := some (a.block, .cells ((if e = v.cells.length ∧ v.cells ≠ [] then killAfter vs (ver a) else setVer vs (ver a) (v.cells.take e)) ++
                         [⟨esz, (v.cells.drop a.off).take (len * esz) ++ xs⟩])),
                       rd := a.block :: rd }
              else none
            | none => none
          | _ => none
        else none
    | _ => none
  else none

def cmpNum : BinOp → Int → Int → Option Bool
  | .eql, x, y => some (x == y)
  | .neq, x, y => some (x != y)
  | .lss, x, y => some (x < y)
  | .leq, x, y => some (x ≤ y)
  | .gtr, x, y => some (x > y)
  | .geq, x, y => some (x ≥ y)
  | _, _, _ => none

def binNum (op : BinOp) (k : IntKind) (x y : Int) : Option Value :=
  match op with
  | .add => some (.int k (k.wrap (x + y)))
  | .sub => some (.int k (k.wrap (x - y)))
  | .mul => some (.int k (k.wrap (x * y)))
  | .quo => if y = 0 then none else some (.int k (k.wrap (x.tdiv y)))
  | .rem => if y = 0 then none else some (.int k (x.tmod y))
  | .and => some (.int k (k.wrap (BitVec.ofInt k.bits x &&& BitVec.ofInt k.bits y).toNat))
  | .or => some (.int k (k.wrap (BitVec.ofInt k.bits x ||| BitVec.ofInt k.bits y).toNat))
  | .xor => some (.int k (k.wrap (BitVec.ofInt k.bits x ^^^ BitVec.ofInt k.bits y).toNat))
  | .andNot => some (.int k (k.wrap (BitVec.ofInt k.bits x &&& ~~~BitVec.ofInt k.bits y).toNat))
  | op => (cmpNum op x y).map .bool

def bytesEq : List UInt8 → List UInt8 → Bool
  | [], [] => true
  | a :: x, b :: y => Nat.beq a.toNat b.toNat && bytesEq x y
  | _, _ => false

def isNil : BK → Value → Option Bool
  | .ptr, .pointer a => some a.isNone
  | .slc, .slice a _ _ => some a.isNone
  | .mp, .map r => some r.isNone
  | .fn, .nilFunc => some true
  | .fn, .func _ _ _ => some false
  | .ifc, .nilIface => some true
  | .ifc, .iface _ _ => some false
  | _, _ => none

def refA (op : BinOp) (x y : Option Bool) : Option Value :=
  match op, x, y with
  | .eql, some true, some b => some (.bool b)
  | .eql, some false, some true => some (.bool false)
  | .neq, some true, some b => some (.bool !b)
  | .neq, some false, some true => some (.bool true)
  | _, _, _ => none

def binA (k : BK) (op : BinOp) (x y : Value) : Option Value :=
  match k with
  | .num =>
    match x, y with
    | .int k a, .int k' b =>
      match op with
      | .shl => if b < 0 then none else some (.int k (k.wrap (a * 2 ^ min b.toNat k.bits)))
      | .shr => if b < 0 then none else some (.int k (a.fdiv (2 ^ min b.toNat k.bits)))
      | op => if k = k' then binNum op k a b else none
    | _, _ => none
  | .boo =>
    match op, x, y with
    | .eql, .bool a, .bool b => some (.bool (a == b))
    | .neq, .bool a, .bool b => some (.bool (!(a == b)))
    | _, _, _ => none
  | .str =>
    match op, x, y with
    | .eql, .string a, .string b => some (.bool (bytesEq a.data.toList b.data.toList))
    | .neq, .string a, .string b => some (.bool (!(bytesEq a.data.toList b.data.toList)))
    | _, _, _ => none
  | k => refA op (isNil k x) (isNil k y)

def toBytes : List Value → Option (List UInt8)
  | [] => some []
  | .int .u8 n :: r => (toBytes r).map (UInt8.ofNat n.toNat :: ·)
  | _ => none

def keyEq : Value → Value → Option Bool
  | .int k a, .int k' b => if k = k' then some (a == b) else none
  | _, _ => none

/-- The place and the value of a key. -/
def findA (k : Value) : List (Value × Value) → Nat → Option (Option (Nat × Value))
  | [], _ => some none
  | e :: es, i =>
    match keyEq k e.1 with
    | some true => some (some (i, e.2))
    | some false => findA k es (i + 1)
    | none => none

def isKey : Value → Bool
  | .int _ _ => true
  | _ => false

/-- An operation that is no call. 'nid': the number of the object that it makes, if it makes one. -/
def evalOp (T : Nat → Value) (nid : Nat) : IOp → Option AOut
  | .mv x => some { v := x.val T }
  | .pick c a b => match c.val T with
    | .bool t => some { v := if t then a.val T else b.val T }
    | _ => none
  | .mk cells => some { v := .pointer (some ⟨nid, 0, none⟩), new := some (.cells [⟨0, cells⟩]) }
  | .box n x => match vcells (x.val T) with
    | some cs => if cs.length = n ∧ cs.all scalar then some { v := .pointer (some ⟨nid, 0, none⟩), new := some (.cells [⟨0, cs⟩]) } else none
    | none => none
  | .build zero parts => (fillA T zero parts).map fun cs => { v := .agg cs.toArray }
  | .buildSlice len zero parts => match fillA T zero parts with
    | some cs => if cs.all scalar then some { v := .slice (some ⟨nid, 0, none⟩) len len, new := some (.cells [⟨0, cs⟩]) } else none
    | none => none
  | .load1 x => match asCell (x.val T) with
    | some a => match loadN C M a 1 with
      | some [v] => some { v, rd := [a.block] }
      | _ => none
    | none => none
  | .loadN n x => match asCell (x.val T) with
    | some a => (loadN C M a n).map fun l => { v := .agg l.toArray, rd := [a.block] }
    | none => none
  | .store n a x => match asCell (a.val T), vcells (x.val T) with
    | some a, some cs => if cs.length = n then match storeN M a cs with
      | some o => some { v := undef, put := some (a.block, o), rd := [a.block] }
      | none => none
      else none
    | _, _ => none
  | .nilCheck x => match x.val T with
    | .pointer (some a) => some { v := .pointer (some a) }
    | .func (.func f) first captured => some { v := .func (.func f) first captured }
    | _ => none
  | .bin k op x y => (binA k op (x.val T) (y.val T)).map fun v => { v }
  | .not x => match x.val T with
    | .bool b => some { v := .bool (!b) }
    | _ => none
  | .neg x => match x.val T with
    | .int k n => some { v := .int k (k.wrap (0 - n)) }
    | _ => none
  | .conv k x => match x.val T with
    | .int _ n => some { v := .int k (k.wrap n) }
    | _ => none
  | .toStr x => match x.val T with
    | .slice none _ _ => some { v := .string .empty }
    | .slice (some a) n _ => if n = 0 then some { v := .string .empty } else match loadN C M a n with
      | some l => (toBytes l).map fun bs => { v := .string ⟨bs.toArray⟩, rd := [a.block] }
      | none => none
    | _ => none
  | .faddr off x => match asCell (x.val T) with
    | some a => some { v := .pointer (some (aadd a off)) }
    | none => none
  | .field off n agg x => match x.val T with
    | .agg cs => if agg then some { v := .agg (cs.extract off (off + n)) } else (cs[off]?).map fun v => { v }
    | _ => none
  | .idxS esz x i => match x.val T, i.val T with
    | .slice (some a) len _, .int _ i => if 0 ≤ i ∧ i < len then some { v := .pointer (some (aadd a (i.toNat * esz))) } else none
    | _, _ => none
  | .idxA len esz x i => match asCell (x.val T), i.val T with
    | some a, .int _ i => if 0 ≤ i ∧ i < len then some { v := .pointer (some (aadd a (i.toNat * esz))) } else none
    | _, _ => none
  | .idxV len esz agg x i => match x.val T, i.val T with
    | .agg cs, .int _ i => if 0 ≤ i ∧ i < len then (if agg then some { v := .agg (cs.extract (i.toNat * esz) (i.toNat * esz + esz)) } else (cs[i.toNat * esz]?).map fun v => { v }) else none
    | _, _ => none
  | .idxStr x i => match x.val T, i.val T with
    | .string s, .int _ i => if 0 ≤ i then (s.data.toList[i.toNat]?).map fun b => { v := .int .u8 b.toNat } else none
    | _, _ => none
  | .sliceS esz x lo hi mx => match x.val T with
    | .slice none len cap => if len = 0 ∧ cap = 0 then (bounds T 0 0 lo hi mx).map fun _ => { v := .slice none 0 0 } else none
    | .slice (some a) len cap =>
      match bounds T len cap lo hi mx with
      | none => none
      | some (l, h, m) =>
        let out : AOut := { v := .slice (some (aadd a (l * esz))) (h - l) (m - l), rd := [a.block] }
        match M a.block with
        | some .raw => if a.spot.isNone then some out else none
        | some (.cells vs) => match vs[ver a]? with
          | some v => if v.esz = 0 ∨ v.esz = esz then some out else none
          | none => none
        | _ => none
    | _ => none
  | .sliceA n esz x lo hi mx => match asCell (x.val T) with
    | some a => (bounds T n n lo hi mx).map fun (l, h, m) => { v := .slice (some (aadd a (l * esz))) (h - l) (m - l) }
    | none => none
  | .sliceStr x lo hi => match x.val T with
    | .string s => (bounds T s.size s.size lo hi none).map fun (l, h, _) => { v := .string (s.extract l h) }
    | _ => none
  | .lenC n => some { v := .int .i64 n }
  | .len x => match x.val T with
    | .slice _ n _ => some { v := .int .i64 n }
    | _ => none
  | .lenStr x => match x.val T with
    | .string s => some { v := .int .i64 s.size }
    | _ => none
  | .lenM x => match x.val T with
    | .map none => some { v := .int .i64 0 }
    | .map (some r) => match M r with
      | some (.map es) => some { v := .int .i64 es.length, rd := [r] }
      | _ => none
    | _ => none
  | .cap x => match x.val T with
    | .slice none _ c => some { v := .int .i64 c }
    | .slice (some a) _ c => match M a.block with
      | some .raw => if a.spot.isNone then some { v := .int .i64 c, rd := [a.block] } else none
      | some (.cells vs) => match vs[ver a]? with
        | some v => if v.esz = 0 then some { v := .int .i64 c, rd := [a.block] } else none
        | none => none
      | _ => none
    | _ => none
  | .append esz bytes s x => match lenA (x.val T) with
    | some m => match srcCells C M esz m (x.val T) with
      | some (xs, rd) => appendA C M esz bytes (s.val T) m xs rd nid
      | none => none
    | none => none
  | .appendZ bytes zero s n => match n.val T with
    | .int _ i => if 0 ≤ i ∧ i < 1099511627776 ∧ i * bytes ≤ 281474976710656 then
        appendA C M zero.length bytes (s.val T) i.toNat (List.replicate i.toNat zero).flatten [] nid
      else none
    | _ => none
  | .copy esz d s => match d.val T, lenA (s.val T) with
    | .slice base dl _, some sl =>
      let n := Nat.min sl dl
      if n = 0 then some { v := .int .i64 0 } else
      match base, srcCells C M esz n (s.val T) with
      | some a, some (xs, rd) => match storeN M a xs with
        | some o => if xs.length = n * esz then some { v := .int .i64 n, put := some (a.block, o), rd := a.block :: rd } else none
        | none => none
      | _, _ => none
    | _, _ => none
  | .clear zero x => match x.val T with
    | .slice _ 0 _ => some { v := undef }
    | .slice (some a) n _ => match storeN M a (List.replicate n zero).flatten with
      | some o => some { v := undef, put := some (a.block, o), rd := [a.block] }
      | none => none
    | _ => none
  | .mkSlice bytes zero n c => match n.val T, c.val T with
    | .int _ n, .int _ c => if 0 ≤ n ∧ n ≤ c ∧ c < 1099511627776 ∧ bytes * c ≤ 281474976710656 ∧ zero.all scalar then
        some { v := .slice (some ⟨nid, 0, none⟩) n.toNat c.toNat, new := some (.cells [⟨0, (List.replicate c.toNat zero).flatten⟩]) }
      else none
    | _, _ => none
  | .minI x y => match x.val T, y.val T with
    | .int k a, .int _ b => some { v := .int k (if b < a then b else a) }
    | _, _ => none
  | .maxI x y => match x.val T, y.val T with
    | .int k a, .int _ b => some { v := .int k (if b > a then b else a) }
    | _, _ => none
  | .extract k x => match x.val T with
    | .tuple vs => if 2 ≤ vs.size then (vs.toList[k]?).map fun v => { v } else none
    | _ => none
  | .mkfn fn first captured => some { v := .func fn (first.map (·.val T)).toArray (captured.map (·.val T)).toArray }
  | .call _ _ => none
  | .mkmap => some { v := .map (some nid), new := some (.map []) }
  | .insert m k x => match m.val T with
    | .map (some r) => match M r with
      | some (.map es) =>
        if isKey (k.val T) then
          match findA (k.val T) es 0 with
          | some (some (i, _)) => some { v := undef, put := some (r, .map (es.set i (k.val T, x.val T))), rd := [r] }
          | some none => some { v := undef, put := some (r, .map (es ++ [(k.val T, x.val T)])), rd := [r] }
          | none => none
        else none
      | _ => none
    | _ => none
  | .lookup zero ok m k => match m.val T with
    | .map (some r) => match M r with
      | some (.map es) =>
        if isKey (k.val T) then
          match findA (k.val T) es 0 with
          | some (some (_, v)) => some { v := if ok then .tuple #[v, .bool true] else v, rd := [r] }
          | some none => some { v := if ok then .tuple #[zero, .bool false] else zero, rd := [r] }
          | none => none
        else none
      | _ => none
    | _ => none
  | .mkiface t x => some { v := .iface t (x.val T) }
  | .bad => none

end ops

/-! ### the evaluator -/
/-- What stands for a value that was not wanted. -/
def absent : Value := .tuple #[.tuple #[]]

def putDst (T : Env) (dst : Option Nat) (v : Value) : Env := match dst with
  | some d => T.put d v
  | none => T

def AHeap.apply (H : AHeap) (o : AOut) : AHeap :=
  let H1 := match o.put with | some (b, x) => H.put b x | none => H
  match o.new with | some x => H1.push x | none => H1

/-- What is remembered of an operation of a region: which objects it looked at, which it turned or made; of a call the memory before and behind it. -/
inductive Info where
  | exp (rd md : List Nat)
  | call (b a : AHeap)

def AOut.mods (o : AOut) (nid : Nat) : List Nat :=
  (match o.put with | some (b, _) => [b] | none => []) ++ (match o.new with | some _ => [nid] | none => [])

def same (C : Ctx) (a b : Option AObj) : Bool := match a, b with
  | some a, some b => C.eqb a b
  | _, _ => false

def disj (a b : List Nat) : Bool := a.all fun x => b.all fun y => !Nat.beq x y

/-- May two operations whose order is open change places? (The one ahead, the one behind.) -/
def free (C : Ctx) : Info → Info → Bool
  | .exp rk mk, .exp ri mi => disj mk ri && (disj mk mi && disj mi rk)
  | .call Hb Ha, .exp ri mi => (ri.all fun b => Nat.ble Ha.next b || (Nat.blt b Hb.next && same C (Hb.get b) (Ha.get b))) && mi.all fun b => Nat.ble Ha.next b
  | _, .call _ _ => false

structure St where
  T : Env
  H : AHeap
  ds : List Nat

structure Orc where
  call : Value → List Value → AHeap → Option (Value × AHeap)
  loop : Option Nat → ICode → St → Option (AExit × St)

/-- Is an operation wanted? none: not known. -/
def wantedA (T : Nat → Value) : Option (Nat × Bool) → Option Bool
  | none => some true
  | some (t, b) => match T t with
    | .bool x => some (x == b)
    | .tuple vs => if vs.toList.length = 1 then some false else none
    | _ => none

section eval
variable (C : Ctx) (o : Orc)

def stepA (x : IOper) (T : Env) (H : AHeap) : Option (Env × AHeap × Info) :=
  match wantedA T.val x.g with
  | none => none
  | some false => some (putDst T x.dst absent, H, .exp [] [])
  | some true =>
    match x.op with
    | .call f args => match o.call (f.val T.val) (args.map (·.val T.val)) H with
      | some (v, H') => some (putDst T x.dst v, H', .call H H')
      | none => none
    | op => match evalOp C H.get T.val H.next op with
      | some out => some (putDst T x.dst out.v, H.apply out, .exp out.rd (out.mods H.next))
      | none => none

def opsA : List IOper → Env → AHeap → Option (Env × AHeap)
  | [], T, H => some (T, H)
  | x :: r, T, H => match stepA C o x T H with
    | some (T', H', _) => opsA r T' H'
    | none => none

def freeAll (log : List Info) (i : Info) : List Nat → Bool
  | [] => true
  | d :: r => match log[d]? with
    | some k => free C k i && freeAll log i r
    | none => false

def dopsA : List (Nat × IOper × List Nat) → List Info → Env → AHeap → Option (Env × AHeap)
  | [], _, T, H => some (T, H)
  | (_, x, un) :: r, log, T, H => match stepA C o x T H with
    | some (T', H', i) => if freeAll C log i un then dopsA r (i :: log) T' H' else none
    | none => none

def setParams (T : Env) : List Nat → List Value → Env
  | p :: ps, v :: vs => setParams (T.put p v) ps vs
  | _, _ => T

def isFn : Value → Bool
  | .func (.func _) _ _ => true
  | _ => false

def inLoop (ro : Option Nat) (H : AHeap) : Bool := match ro with
  | none => true
  | some l => match H.get l with
    | some (.loop _) => true
    | _ => false

def codeA (ro : Option Nat) : ICode → St → Option (AExit × St)
  | .skip, s => some (.normal, s)
  | .region ops, s => match opsA C o ops s.T s.H with
    | some (T, H) => some (.normal, ⟨T, H, s.ds⟩)
    | none => none
  | .dregion ops, s => match dopsA C o ops [] s.T s.H with
    | some (T, H) => some (.normal, ⟨T, H, s.ds⟩)
    | none => none
  | .seq a b, s => match codeA ro a s with
    | some (.normal, s') => codeA ro b s'
    | r => r
  | .cond x a b, s => match x.val s.T.val with
    | .bool true => codeA ro a s
    | .bool false => codeA ro b s
    | _ => none
  | .block id c, s => match codeA ro c s with
    | some (.exit i, s') => if i = id then some (.normal, s') else some (.exit i, s')
    | r => r
  | .loop c, s => o.loop ro c s
  | .exit id, s => some (.exit id, s)
  | .ret, s => some (.ret, s)
  | .bad, _ => none
  | .rangeFunc f ps assign body, s =>
    match isFn (f.val s.T.val) && inLoop ro s.H with
    | false => none
    | true =>
    let H1 := match ro with | none => s.H.push (.deferred true) | some _ => s.H
    let ds := match ro with | none => s.H.next :: s.ds | some _ => s.ds
    let l := H1.next
    let H2 := H1.push (.loop { state := .ready, pending := none, T := s.T, params := ps, assign, body })
    match o.call (f.val s.T.val) [.func (.yield l) #[] #[]] H2 with
    | none => none
    | some (_, H3) =>
      match H3.get l with
      | some (.loop L) =>
        if L.state = .busy then none else
        some (L.pending.getD .normal, ⟨s.T, H3.put l (.loop { L with state := .exhausted }), ds⟩)
      | _ => none

/-- The results of a function. -/
def resA (T : Nat → Value) (M : Nat → Option AObj) : IRes → Option Value
  | .tmp t => some (T t)
  | .cell1 t => match asCell (T t) with
    | some a => match loadN C M a 1 with
      | some [v] => some v
      | _ => none
    | none => none
  | .cellN t n => match asCell (T t) with
    | some a => (loadN C M a n).map fun l => .agg l.toArray
    | none => none

def resAll (T : Nat → Value) (M : Nat → Option AObj) : List IRes → Option (List Value)
  | [] => some []
  | r :: rs => match resA C T M r, resAll T M rs with
    | some v, some vs => some (v :: vs)
    | _, _ => none

def oneOrTuple : List Value → Value
  | [v] => v
  | vs => .tuple vs.toArray

/-- The marks of the loops over functions are shut. -/
def shut : List Nat → AHeap → Option AHeap
  | [], H => some H
  | d :: ds, H => match H.get d with
    | some (.deferred true) => shut ds (H.put d (.deferred false))
    | _ => none

def ofArgs : List Value → Nat → Env → Env
  | [], _, T => T
  | v :: vs, i, T => ofArgs vs (i + 1) (T.put i v)

/-- A function of the table is called. -/
def callFn (F : IFunc) (as : List Value) (H : AHeap) : Option (Value × AHeap) :=
  match codeA C o none F.body ⟨ofArgs as 0 .leaf, H, []⟩ with
  | none => none
  | some (e, s) =>
    match e with
    | .exit _ => none
    | _ =>
      match shut s.ds s.H with
      | none => none
      | some H' => match resAll C s.T.val H'.get F.results with
        | some vs => some (oneOrTuple vs, H')
        | none => none

/-- A round ends. -/
def endRound (l : Nat) (e : AExit) (s : St) : Option (Value × AHeap) :=
  match s.H.get l with
  | some (.loop L) =>
    if s.ds.isEmpty then
      if e = .normal then some (.bool true, s.H.put l (.loop { L with state := .ready, pending := none }))
      else some (.bool false, s.H.put l (.loop { L with state := .done, pending := some e }))
    else none
  | _ => none

/-- A round's body. -/
def bodyRound (l : Nat) (body : ICode) (s : St) : Option (Value × AHeap) :=
  match s.H.get l with
  | some (.loop L) =>
    if L.state = .ready then
      match codeA C o (some l) body ⟨s.T, s.H.put l (.loop { L with state := .busy }), s.ds⟩ with
      | some (e, s') => endRound l e s'
      | none => none
    else none
  | _ => none

/-- 'yield' is called: a round of a loop over a function. -/
def callYield (l : Nat) (args : List Value) (H : AHeap) : Option (Value × AHeap) :=
  match H.get l with
  | some (.loop L) =>
    if L.state = .ready ∧ args.length = L.params.length then
      match codeA C o (some l) L.assign ⟨setParams L.T L.params args, H, []⟩ with
      | some (e, s) => if e = .normal then bodyRound C o l L.body s else none
      | none => none
    else none
  | _ => none

def callA (f : Value) (args : List Value) (H : AHeap) : Option (Value × AHeap) :=
  match f with
  | .func fn first captured =>
    match fn with
    | .func k =>
      match C.known k (first.toList ++ (args ++ captured.toList)) with
      | some v => some (v, H)
      | none =>
        match C.funcs.get k with
        | none => none
        | some F => callFn C o F (first.toList ++ (args ++ captured.toList)) H
    | .yield l => if first.isEmpty && captured.isEmpty then callYield C o l args H else none
    | _ => none
  | _ => none

/-- A loop: its body, and on. -/
def loopA (ro : Option Nat) (c : ICode) (s : St) : Option (AExit × St) :=
  match codeA C o ro c s with
  | some (.normal, s') => o.loop ro c s'
  | r => r
end eval

def orc (C : Ctx) : Nat → Orc
  | 0 => { call := fun _ _ _ => none, loop := fun _ _ _ => none }
  | n + 1 => { call := callA C (orc C n), loop := loopA C (orc C n) }

/-- A function's call. -/
def run (C : Ctx) (n : Nat) (f : FuncId) (args : List Value) (H : AHeap) : Option (Value × AHeap) := (orc C n).call (.func (.func f) #[] #[]) args H

end Go.Ai
