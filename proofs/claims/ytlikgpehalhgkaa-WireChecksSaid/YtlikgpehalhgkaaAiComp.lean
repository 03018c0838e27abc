/-
  The own intermediate form of a function of the model, made by program: sizes, places and zeros are looked up once; a region whose order is open gets one order, with the pairs that must be free of each other.
-/
import Derived.Test.YtlikgpehalhgkaaAiBase
namespace Go.Ai

section comp
variable (P : Program)

def opd : Operand → Option IOpd
  | .tmp t => some (.t t)
  | .const v => if clean 0 v then some (.c v) else none
  | .func f => some (.c (.func (.func f) #[] #[]))
  | .global _ => none

def opds : List Operand → Option (List IOpd)
  | [] => some []
  | x :: r => match opd x, opds r with
    | some y, some ys => some (y :: ys)
    | _, _ => none

def isAggT (t : TypeId) : Option Bool := match P.underlying t with
  | some (.struct _) | some (.array _ _) => some true
  | some _ => some false
  | none => none

/-- The cells of a type's zero value. -/
def zeroOf (t : TypeId) : Option (List Value) := match P.info? t with
  | some i => match i.zero with
    | some z => if z.cells.toList.all (cleanS 0) then some z.cells.toList else none
    | none => none
  | none => none

def zeroVal (t : TypeId) : Option Value := match P.info? t with
  | some i => match i.zero with
    | some z => if clean 0 z then some z else none
    | none => none
  | none => none

def sizeT (t : TypeId) : Option Nat := (P.info? t).map (·.size)
def bytesT (t : TypeId) : Option Nat := (P.info? t).map (·.bytes)

/-- Where a field or an element of a type lies. -/
def placeOf (t : TypeId) (i : Nat) : Option (Nat × Nat) := match P.underlying t with
  | some (.struct fs) => match fs[i]? with
    | some f => (sizeT P f.type).map fun n => (f.offset, n)
    | none => none
  | some (.array _ e) => (sizeT P e).map fun n => (i * n, n)
  | _ => none

def partsOf (place : Nat → Option (Nat × Nat)) : List (Nat × Operand) → Option (List (Nat × Nat × IOpd))
  | [] => some []
  | (i, x) :: r => match place i, opd x, partsOf place r with
    | some (off, n), some y, some ps => some ((off, n, y) :: ps)
    | _, _, _ => none

def bkOf (t : TypeId) : Option BK := match P.underlying t with
  | some (.int _) => some .num
  | some .bool => some .boo
  | some .string => some .str
  | some (.pointer _) => some .ptr
  | some (.slice _) => some .slc
  | some (.map _ _) => some .mp
  | some (.func _ _ _) => some .fn
  | some (.interface _) => some .ifc
  | _ => none

def isConstO : Operand → Bool
  | .const _ => true
  | _ => false

def optOpd : Option Operand → Option (Option IOpd)
  | none => some none
  | some x => (opd x).map some

def keyT (t : TypeId) : Bool := match P.underlying t with
  | some (.int _) => true
  | _ => false

/-- All fields have some size. -/
def fieldsOK (t : TypeId) : Bool := match P.underlying t with
  | some (.struct fs) => fs.toList.all fun f => (sizeT P f.type).isSome
  | some (.array _ e) => (sizeT P e).isSome
  | _ => false

def compBuiltin (b : Builtin) (ts : Array TypeId) (args : List Operand) : Option IOp :=
  match b, ts.toList, args with
  | .len, t :: _, [x] => match P.underlying t, opd x with
    | some .string, some y => some (.lenStr y)
    | some (.slice _), some y => some (.len y)
    | some (.array n _), some _ => some (.lenC n)
    | some (.map _ _), some y => some (.lenM y)
    | some (.pointer e), some _ => match P.underlying e with
      | some (.array n _) => some (.lenC n)
      | _ => none
    | _, _ => none
  | .cap, t :: _, [x] => match P.underlying t, opd x with
    | some (.slice _), some y => some (.cap y)
    | some (.array n _), some _ => some (.lenC n)
    | _, _ => none
  | .append, t :: u :: _, [x, y] => match P.underlying t, opd x, opd y with
    | some (.slice e), some a, some b =>
      match sizeT P e, bytesT P e, P.underlying u with
      | some n, some m, some d =>
        if 1 ≤ n then
          match zeroOf P e with
          | some z =>
            if z.length = n then
              match d with
              | .int _ => some (.appendZ m z a b)
              | .slice _ => some (.append n m a b)
              | .string => some (.append n m a b)
              | _ => none
            else none
          | none => none
        else none
      | _, _, _ => none
    | _, _, _ => none
  | .copy, t :: _, [x, y] => match P.underlying t, opd x, opd y with
    | some (.slice e), some a, some b => match sizeT P e with
      | some n => if 1 ≤ n then some (.copy n a b) else none
      | none => none
    | _, _, _ => none
  | .clear, t :: _, [x] => match P.underlying t, opd x with
    | some (.slice e), some a => match zeroOf P e with
      | some z => some (.clear z a)
      | none => none
    | _, _ => none
  | .min, _, [x, y] => match opd x, opd y with
    | some a, some b => some (.minI a b)
    | _, _ => none
  | .max, _, [x, y] => match opd x, opd y with
    | some a, some b => some (.maxI a b)
    | _, _ => none
  | _, _, _ => none

def compOp? : Op → Option IOp
  | .move x | .assign x => (opd x).map .mv
  | .pick c a b => match opd c, opd a, opd b with
    | some c, some a, some b => some (.pick c a b)
    | _, _, _ => none
  | .alloc e => (zeroOf P e).map .mk
  | .box e x => match sizeT P e, opd x with
    | some n, some y => some (.box n y)
    | _, _ => none
  | .build t ps => match zeroOf P t, partsOf (placeOf P t) ps.toList with
    | some z, some qs => if fieldsOK P t then some (.build z qs) else none
    | _, _ => none
  | .buildSlice t len ps => match P.underlying t with
    | some (.slice e) => match sizeT P e, zeroOf P e with
      | some n, some z =>
        if len * n ≤ 16777216 ∧ z.length = n then
          match partsOf (fun i => some (i * n, n)) ps.toList with
          | some qs => some (.buildSlice len (List.replicate len z).flatten qs)
          | none => none
        else none
      | _, _ => none
    | _ => none
  | .load t x => match isAggT P t, sizeT P t, opd x with
    | some true, some n, some y => some (.loadN n y)
    | some false, some _, some y => some (.load1 y)
    | _, _, _ => none
  | .store t a x => match sizeT P t, opd a, opd x with
    | some n, some b, some y => some (.store n b y)
    | _, _, _ => none
  | .nilCheck x => (opd x).map .nilCheck
  | .binOp op t x y _ => match bkOf P t, opd x, opd y with
    | some k, some a, some b => if k = .ifc then (if isConstO x || isConstO y then some (.bin k op a b) else none) else some (.bin k op a b)
    | _, _, _ => none
  | .unOp .not _ x => (opd x).map .not
  | .unOp .neg _ x => (opd x).map .neg
  | .convert s d x => match P.underlying s, P.underlying d, opd x with
    | some (.int _), some (.int k), some y => some (.conv k y)
    | some (.slice e), some .string, some y => match P.underlying e with
      | some (.int .u8) => some (.toStr y)
      | _ => none
    | _, _, _ => none
  | .fieldAddr s x f => match P.underlying s, opd x with
    | some (.struct fs), some y => match fs[f]? with
      | some g => match sizeT P g.type with
        | some n => if n = 0 then none else some (.faddr g.offset y)
        | none => none
      | none => none
    | _, _ => none
  | .field s x f => match P.underlying s, opd x with
    | some (.struct fs), some y => match fs[f]? with
      | some g => match sizeT P g.type, isAggT P g.type with
        | some n, some b => some (.field g.offset n b y)
        | _, _ => none
      | none => none
    | _, _ => none
  | .indexAddr t x i => match P.underlying t, opd x, opd i with
    | some (.slice e), some y, some j => (sizeT P e).map fun n => .idxS n y j
    | some (.array len e), some y, some j => (sizeT P e).map fun n => .idxA len n y j
    | _, _, _ => none
  | .index t x i => match P.underlying t, opd x, opd i with
    | some (.array len e), some y, some j => match sizeT P e, isAggT P e with
      | some n, some b => some (.idxV len n b y j)
      | _, _ => none
    | some .string, some y, some j => some (.idxStr y j)
    | _, _, _ => none
  | .slice t x lo hi mx => match P.underlying t, opd x, optOpd lo, optOpd hi, optOpd mx with
    | some (.slice e), some y, some l, some h, some m => if hi.isNone && mx.isSome then none else (sizeT P e).map fun n => .sliceS n y l h m
    | some (.array k e), some y, some l, some h, some m => if hi.isNone && mx.isSome then none else (sizeT P e).map fun n => .sliceA k n y l h m
    | some .string, some y, some l, some h, some _ => if mx.isSome then none else some (.sliceStr y l h)
    | _, _, _, _, _ => none
  | .extract x k => (opd x).map (.extract k)
  | .makeFunc fn first captured => match fn, opds first.toList, opds captured.toList with
    | .func f, some a, some b => some (.mkfn (.func f) a b)
    | _, _, _ => none
  | .makeMap _ none => some .mkmap
  | .insert t m k x | .mapUpdate t m k x => match P.underlying t, opd m, opd k, opd x with
    | some (.map kt _), some a, some b, some c => if keyT P kt then some (.insert a b c) else none
    | _, _, _, _ => none
  | .lookup t m k ok => match P.underlying t, opd m, opd k with
    | some (.map kt e), some a, some b => match zeroVal P e with
      | some z => if keyT P kt then some (.lookup z ok a b) else none
      | none => none
    | _, _, _ => none
  | .makeSlice t n c => match P.underlying t, opd n, opd c with
    | some (.slice e), some a, some b => match bytesT P e, zeroOf P e, sizeT P e with
      | some m, some z, some k => if z.length = k then some (.mkSlice m z a b) else none
      | _, _, _ => none
    | _, _, _ => none
  | .call c => match c.callee with
    | .builtin b => compBuiltin P b c.argTypes c.args.toList
    | .value f => match opd f, opds c.args.toList with
      | some g, some as => some (.call g as)
      | _, _ => none
    | .invoke _ _ => none
  | _ => none

def compOp (o : Op) : IOp := (compOp? P o).getD .bad

def compOper (ntmps : Nat) (ops : Array Oper) (o : Oper) : IOper :=
  match (match o.dst with | some d => decide (d < ntmps) | none => true) with
  | false => { dst := none, op := .bad, g := none }
  | true => match o.guard with
    | none => { dst := o.dst, op := compOp P o.op, g := none }
    | some (j, b) => match (ops[j]?).bind (·.dst) with
      | some t => { dst := o.dst, op := compOp P o.op, g := some (t, b) }
      | none => { dst := none, op := .bad, g := none }

/-! ### a region whose order is open -/
def hard (e : Edge) : Bool := match e.ground with
  | .textOnly _ | .gcOnly _ => false
  | _ => true

/-- Which operations come ahead of each one, in whatever order. -/
def maskOf (acc : List Nat) : List Edge → Nat
  | [] => 0
  | e :: r => if hard e then (2 ^ e.on ||| acc.getD e.on 0) ||| maskOf acc r else maskOf acc r

def masks : List Oper → List Nat → List Nat
  | [], acc => acc
  | o :: r, acc => masks r (acc ++ [maskOf acc o.after.toList])

def isCall : IOp → Bool
  | .call _ _ => true
  | _ => false

def isPure : IOp → Bool
  | .mv _ | .pick _ _ _ | .build _ _ | .nilCheck _ | .bin _ _ _ _ | .not _ | .neg _ | .conv _ _ | .faddr _ _ | .field _ _ _ _ | .idxS _ _ _ | .idxA _ _ _ _ | .idxV _ _ _ _ _
  | .idxStr _ _ | .sliceA _ _ _ _ _ _ | .sliceStr _ _ _ | .lenC _ | .len _ | .lenStr _ | .minI _ _ | .maxI _ _ | .extract _ _ | .mkfn _ _ _ | .mkiface _ _ => true
  | _ => false

def IOpd.uses : IOpd → List Nat
  | .t n => [n]
  | .c _ => []

def optUses : Option IOpd → List Nat
  | some x => x.uses
  | none => []

def IOp.uses : IOp → List Nat
  | .mv x | .box _ x | .load1 x | .loadN _ x | .nilCheck x | .not x | .neg x | .conv _ x | .toStr x | .faddr _ x | .field _ _ _ x | .len x | .lenStr x | .lenM x | .cap x | .clear _ x | .extract _ x | .mkiface _ x => x.uses
  | .pick a b c | .insert a b c => a.uses ++ (b.uses ++ c.uses)
  | .mk _ | .lenC _ | .mkmap | .bad => []
  | .build _ ps | .buildSlice _ _ ps => ps.flatMap fun p => p.2.2.uses
  | .store _ a b | .bin _ _ a b | .idxS _ a b | .idxA _ _ a b | .idxV _ _ _ a b | .idxStr a b | .append _ _ a b | .appendZ _ _ a b | .copy _ a b | .mkSlice _ _ a b | .minI a b | .maxI a b | .lookup _ _ a b => a.uses ++ b.uses
  | .sliceS _ x a b c | .sliceA _ _ x a b c => x.uses ++ (optUses a ++ (optUses b ++ optUses c))
  | .sliceStr x a b => x.uses ++ (optUses a ++ optUses b)
  | .mkfn _ a b => (a ++ b).flatMap IOpd.uses
  | .call f as => f.uses ++ as.flatMap IOpd.uses

def IOper.uses (x : IOper) : List Nat := x.op.uses ++ (match x.g with | some (t, _) => [t] | none => [])

def notIn (d : Option Nat) (l : List Nat) : Bool := match d with
  | some d => l.all fun x => !Nat.beq x d
  | none => true

def clash (a b : Option Nat) : Bool := match a, b with
  | some a, some b => Nat.beq a b
  | _, _ => false

/-- Two operations whose order is open, the one ahead being d places back. -/
def pairOK (ms : List Nat) (d : Nat) (k e : Nat × IOper × List Nat) : Bool :=
  !Nat.beq k.1 e.1 && ((ms.getD e.1 0).testBit k.1 ||
  (notIn k.2.1.dst e.2.1.uses && (notIn e.2.1.dst k.2.1.uses && (!clash k.2.1.dst e.2.1.dst && (isPure k.2.1.op || (isPure e.2.1.op || e.2.2.any (Nat.beq d)))))))

def pairsOK (ms : List Nat) (e : Nat × IOper × List Nat) : Nat → List (Nat × IOper × List Nat) → Bool
  | _, [] => true
  | d, k :: r => pairOK ms d k e && pairsOK ms e (d + 1) r

def planFrom (ms : List Nat) : List (Nat × IOper × List Nat) → List (Nat × IOper × List Nat) → Bool
  | _, [] => true
  | done, e :: r => pairsOK ms e 0 done && planFrom ms (e :: done) r

/-- Calls as early as can be: what is ahead of each call, then the call. -/
def orderOf (ms : List Nat) (xs : List IOper) : List Nat :=
  let n := xs.length
  let calls := (List.range n).filter fun i => match xs[i]? with | some x => isCall x.op | none => false
  let rec go : List Nat → List Nat → List Nat
    | [], r => r ++ (List.range n).filter fun i => !r.contains i
    | c :: cs, r => go cs (r ++ ((List.range n).filter fun i => !r.contains i && ((ms.getD c 0).testBit i || i == c)))
  go calls []

/-- Which earlier operations must be found free: how many places back. -/
def unOf (ms : List Nat) (e : Nat) (x : IOper) : Nat → List (Nat × IOper) → List Nat
  | _, [] => []
  | d, k :: r => if (ms.getD e 0).testBit k.1 || isPure k.2.op || isPure x.op then unOf ms e x (d + 1) r else d :: unOf ms e x (d + 1) r

def planOf (ms : List Nat) (xs : List IOper) : List Nat → List (Nat × IOper) → List (Nat × IOper × List Nat)
  | [], _ => []
  | i :: r, done => match xs[i]? with
    | some x => (i, x, unOf ms i x 0 done) :: planOf ms xs r ((i, x) :: done)
    | none => planOf ms xs r done

def planOK (ms : List Nat) (xs : List IOper) (es : List (Nat × IOper × List Nat)) : Bool :=
  Nat.beq es.length xs.length && ((List.range xs.length).all fun i => es.any fun e => Nat.beq e.1 i) && planFrom ms [] es

/-- Each operation waits for earlier ones alone. -/
def edgesOK : Nat → List Oper → Bool
  | _, [] => true
  | i, o :: r => (o.after.toList.all fun e => !hard e || Nat.blt e.on i) && edgesOK (i + 1) r

def compRegion (ntmps : Nat) (ops : Array Oper) (draw : Bool) : ICode :=
  let xs := ops.toList.map (compOper P ntmps ops)
  if draw then
    let ms := masks ops.toList []
    let es := planOf ms xs (orderOf ms xs) []
    if planOK ms xs es && edgesOK 0 ops.toList then .dregion es else .bad
  else .region xs

def compCode (ntmps : Nat) : Code → ICode
  | .skip => .skip
  | .region _ ops draw => compRegion P ntmps ops draw
  | .seq a b => .seq (compCode ntmps a) (compCode ntmps b)
  | .cond x a b => match opd x with
    | some y => .cond y (compCode ntmps a) (compCode ntmps b)
    | none => .bad
  | .block id c => .block id (compCode ntmps c)
  | .loop c => .loop (compCode ntmps c)
  | .exit id => .exit id
  | .ret => .ret
  | .rangeFunc f ps a b => match opd f with
    | some g => if ps.all (fun p => decide (p < ntmps)) then .rangeFunc g ps.toList (compCode ntmps a) (compCode ntmps b) else .bad
    | none => .bad
  | _ => .bad

def compRes : List ResultVar → Option (List IRes)
  | [] => some []
  | .tmp t :: r => (compRes r).map (.tmp t :: ·)
  | .cell a t :: r => match isAggT P t, sizeT P t, compRes r with
    | some true, some n, some rs => some (.cellN a n :: rs)
    | some false, some _, some rs => some (.cell1 a :: rs)
    | _, _, _ => none

/-- A function of the program in the own form. -/
def compFunc (f : Func) : Option IFunc :=
  if f.name = "runtime.NumGoroutine" then none else
  match f.body, compRes P f.results.toList with
  | some c, some rs => some { results := rs, body := compCode P f.ntmps c }
  | _, _ => none

end comp
end Go.Ai
