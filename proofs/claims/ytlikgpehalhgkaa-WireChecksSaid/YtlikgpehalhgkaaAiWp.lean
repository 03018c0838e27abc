/-
  Weakest preconditions of the evaluator's fixed point: the rules for proofs about functions with parameters.
-/
import Derived.Test.YtlikgpehalhgkaaAiFix
namespace Go.Ai

def bindO {α : Type} (e : Option α) (k : α → Prop) : Prop := match e with
  | some a => k a
  | none => False

@[simp] theorem bindO_some {α : Type} (a : α) (k : α → Prop) : bindO (some a) k ↔ k a := Iff.rfl
@[simp] theorem bindO_none {α : Type} (k : α → Prop) : bindO none k ↔ False := Iff.rfl
@[simp] theorem bindO_map {α β : Type} (f : α → β) (e : Option α) (k : β → Prop) : bindO (e.map f) k ↔ bindO e fun a => k (f a) := by cases e <;> exact Iff.rfl
@[congr] theorem bindO_congr {α : Type} {e e' : Option α} {k : α → Prop} (h : e = e') : bindO e k = bindO e' k := by rw [h]
theorem bindO_of {α : Type} {e : Option α} {k : α → Prop} {a : α} (h : e = some a) (hk : k a) : bindO e k := by rw [h]; exact hk
theorem bindO_mono {α : Type} {e : Option α} {k k' : α → Prop} (h : bindO e k) (hk : ∀ a, k a → k' a) : bindO e k' := by cases e <;> first | exact h.elim | exact hk _ h

/-- A choice whose branches are looked at only when it is known. -/
def condB (b : Bool) (x y : Prop) : Prop := match b with
  | true => x
  | false => y
@[simp] theorem condB_true (x y : Prop) : condB true x y ↔ x := Iff.rfl
@[simp] theorem condB_false (x y : Prop) : condB false x y ↔ y := Iff.rfl
@[congr] theorem condB_congr {b b' : Bool} {x y : Prop} (h : b = b') : condB b x y = condB b' x y := by rw [h]

def condV (v : Value) (x y : Prop) : Prop := match v with
  | .bool b => condB b x y
  | _ => False
@[simp] theorem condV_bool (b : Bool) (x y : Prop) : condV (.bool b) x y ↔ condB b x y := Iff.rfl
@[congr] theorem condV_congr {b b' : Value} {x y : Prop} (h : b = b') : condV b x y = condV b' x y := by rw [h]

/-! ### the environment, the memory -/
@[simp] theorem Env.val_put (T : Env) (d : Nat) (v : Value) (i : Nat) : Env.val (Trie.put T d v) i = if i = d then v else T.val i := by
  show ((Trie.put T d v).get i).getD undef = _
  rw [Trie.get_put]
  split <;> rfl
@[simp] theorem putDst_some (T : Env) (d : Nat) (v : Value) : putDst T (some d) v = T.put d v := rfl
@[simp] theorem putDst_none (T : Env) (v : Value) : putDst T none v = T := rfl
@[simp] theorem apply_dry (H : AHeap) (v : Value) (rd : List Nat) : H.apply ⟨v, none, none, rd⟩ = H := rfl
@[simp] theorem apply_put (H : AHeap) (v : Value) (rd : List Nat) (b : Nat) (x : AObj) : H.apply ⟨v, some (b, x), none, rd⟩ = H.put b x := rfl
@[simp] theorem apply_new (H : AHeap) (v : Value) (rd : List Nat) (x : AObj) : H.apply ⟨v, none, some x, rd⟩ = H.push x := rfl
@[simp] theorem IOpd.val_t (T : Nat → Value) (n : Nat) : IOpd.val T (.t n) = T n := rfl
@[simp] theorem IOpd.val_c (T : Nat → Value) (v : Value) : IOpd.val T (.c v) = v := rfl
@[simp] theorem asCell_ptr (a : Addr) : asCell (.pointer (some a)) = some a := rfl

section
variable (C : Ctx)

def wpC (ro : Option Nat) (c : ICode) (Q : AExit → St → Prop) (s : St) : Prop := bindO (codeA C (fixO C) ro c s) fun r => Q r.1 r.2
def wpO (xs : List IOper) (K : Env → AHeap → Prop) (T : Env) (H : AHeap) : Prop := bindO (opsA C (fixO C) xs T H) fun r => K r.1 r.2
def wpD (es : List (Nat × IOper × List Nat)) (log : List Info) (K : Env → AHeap → Prop) (T : Env) (H : AHeap) : Prop := bindO (dopsA C (fixO C) es log T H) fun r => K r.1 r.2
def wpCall (f : Value) (as : List Value) (H : AHeap) (K : Value → AHeap → Prop) : Prop := bindO ((fixO C).call f as H) fun r => K r.1 r.2

@[congr] theorem wpC_congr {ro : Option Nat} {c : ICode} {Q : AExit → St → Prop} {s s' : St} (h : s = s') : wpC C ro c Q s = wpC C ro c Q s' := by rw [h]
@[congr] theorem wpO_congr {xs : List IOper} {K : Env → AHeap → Prop} {T T' : Env} {H H' : AHeap} (h : T = T') (k : H = H') : wpO C xs K T H = wpO C xs K T' H' := by rw [h, k]
@[congr] theorem wpD_congr {es : List (Nat × IOper × List Nat)} {log log' : List Info} {K : Env → AHeap → Prop} {T T' : Env} {H H' : AHeap} (l : log = log') (h : T = T') (k : H = H') : wpD C es log K T H = wpD C es log' K T' H' := by rw [h, k, l]
@[congr] theorem wpCall_congr {f f' : Value} {as as' : List Value} {H H' : AHeap} {K : Value → AHeap → Prop} (h : f = f') (k : as = as') (l : H = H') : wpCall C f as H K = wpCall C f' as' H' K := by rw [h, k, l]

variable {C}

/-! ### continuations: looked into only when they are reached -/
def callK (C : Ctx) (r : List IOper) (K : Env → AHeap → Prop) (T : Env) (d : Option Nat) : Value → AHeap → Prop := fun v H' => wpO C r K (putDst T d v) H'
def opK (C : Ctx) (r : List IOper) (K : Env → AHeap → Prop) (T : Env) (d : Option Nat) (H : AHeap) : AOut → Prop := fun out => wpO C r K (putDst T d out.v) (H.apply out)
def guardK (C : Ctx) (w : Option Bool) (d : Option Nat) (op : IOp) (r : List IOper) (K : Env → AHeap → Prop) (T : Env) (H : AHeap) : Prop := match w with
  | some true => wpO C (⟨d, op, none⟩ :: r) K T H
  | some false => wpO C r K (putDst T d absent) H
  | none => False
def freeW (C : Ctx) (b : Bool) (r : List (Nat × IOper × List Nat)) (log : List Info) (K : Env → AHeap → Prop) (T : Env) (H : AHeap) : Prop := match b with
  | true => wpD C r log K T H
  | false => False
def callKD (C : Ctx) (un : List Nat) (r : List (Nat × IOper × List Nat)) (log : List Info) (K : Env → AHeap → Prop) (T : Env) (d : Option Nat) (H : AHeap) : Value → AHeap → Prop :=
  fun v H' => freeW C (freeAll C log (.call H H') un) r (.call H H' :: log) K (putDst T d v) H'
def opKD (C : Ctx) (un : List Nat) (r : List (Nat × IOper × List Nat)) (log : List Info) (K : Env → AHeap → Prop) (T : Env) (d : Option Nat) (H : AHeap) : AOut → Prop :=
  fun out => freeW C (freeAll C log (.exp out.rd (out.mods H.next)) un) r (.exp out.rd (out.mods H.next) :: log) K (putDst T d out.v) (H.apply out)
def guardKD (C : Ctx) (w : Option Bool) (i : Nat) (un : List Nat) (d : Option Nat) (op : IOp) (r : List (Nat × IOper × List Nat)) (log : List Info) (K : Env → AHeap → Prop) (T : Env) (H : AHeap) : Prop := match w with
  | some true => wpD C ((i, ⟨d, op, none⟩, un) :: r) log K T H
  | some false => freeW C (freeAll C log (.exp [] []) un) r (.exp [] [] :: log) K (putDst T d absent) H
  | none => False
def condW (C : Ctx) (ro : Option Nat) (v : Value) (a b : ICode) (Q : AExit → St → Prop) (s : St) : Prop := match v with
  | .bool true => wpC C ro a Q s
  | .bool false => wpC C ro b Q s
  | _ => False

@[simp] theorem callK_eq (r : List IOper) (K : Env → AHeap → Prop) (T : Env) (d : Option Nat) (v : Value) (H' : AHeap) : callK C r K T d v H' ↔ wpO C r K (putDst T d v) H' := Iff.rfl
@[simp] theorem opK_eq (r : List IOper) (K : Env → AHeap → Prop) (T : Env) (d : Option Nat) (H : AHeap) (out : AOut) : opK C r K T d H out ↔ wpO C r K (putDst T d out.v) (H.apply out) := Iff.rfl
@[simp] theorem guardK_true (d : Option Nat) (op : IOp) (r : List IOper) (K : Env → AHeap → Prop) (T : Env) (H : AHeap) : guardK C (some true) d op r K T H ↔ wpO C (⟨d, op, none⟩ :: r) K T H := Iff.rfl
@[simp] theorem guardK_false (d : Option Nat) (op : IOp) (r : List IOper) (K : Env → AHeap → Prop) (T : Env) (H : AHeap) : guardK C (some false) d op r K T H ↔ wpO C r K (putDst T d absent) H := Iff.rfl
@[simp] theorem freeW_true (r : List (Nat × IOper × List Nat)) (log : List Info) (K : Env → AHeap → Prop) (T : Env) (H : AHeap) : freeW C true r log K T H ↔ wpD C r log K T H := Iff.rfl
@[simp] theorem callKD_eq (un : List Nat) (r : List (Nat × IOper × List Nat)) (log : List Info) (K : Env → AHeap → Prop) (T : Env) (d : Option Nat) (H : AHeap) (v : Value) (H' : AHeap) :
    callKD C un r log K T d H v H' ↔ freeW C (freeAll C log (.call H H') un) r (.call H H' :: log) K (putDst T d v) H' := Iff.rfl
@[simp] theorem opKD_eq (un : List Nat) (r : List (Nat × IOper × List Nat)) (log : List Info) (K : Env → AHeap → Prop) (T : Env) (d : Option Nat) (H : AHeap) (out : AOut) :
    opKD C un r log K T d H out ↔ freeW C (freeAll C log (.exp out.rd (out.mods H.next)) un) r (.exp out.rd (out.mods H.next) :: log) K (putDst T d out.v) (H.apply out) := Iff.rfl
@[simp] theorem guardKD_true (i : Nat) (un : List Nat) (d : Option Nat) (op : IOp) (r : List (Nat × IOper × List Nat)) (log : List Info) (K : Env → AHeap → Prop) (T : Env) (H : AHeap) :
    guardKD C (some true) i un d op r log K T H ↔ wpD C ((i, ⟨d, op, none⟩, un) :: r) log K T H := Iff.rfl
@[simp] theorem guardKD_false (i : Nat) (un : List Nat) (d : Option Nat) (op : IOp) (r : List (Nat × IOper × List Nat)) (log : List Info) (K : Env → AHeap → Prop) (T : Env) (H : AHeap) :
    guardKD C (some false) i un d op r log K T H ↔ freeW C (freeAll C log (.exp [] []) un) r (.exp [] [] :: log) K (putDst T d absent) H := Iff.rfl
@[simp] theorem condW_true (ro : Option Nat) (a b : ICode) (Q : AExit → St → Prop) (s : St) : condW C ro (.bool true) a b Q s ↔ wpC C ro a Q s := Iff.rfl
@[simp] theorem condW_false (ro : Option Nat) (a b : ICode) (Q : AExit → St → Prop) (s : St) : condW C ro (.bool false) a b Q s ↔ wpC C ro b Q s := Iff.rfl

/-! ### code -/
def seqK (C : Ctx) (ro : Option Nat) (b : ICode) (Q : AExit → St → Prop) : AExit → St → Prop
  | .normal, s => wpC C ro b Q s
  | e, s => Q e s
def blockK (id : Nat) (Q : AExit → St → Prop) : AExit → St → Prop
  | .exit i, s => if i = id then Q .normal s else Q (.exit i) s
  | e, s => Q e s
def regK (Q : AExit → St → Prop) (ds : List Nat) (T : Env) (H : AHeap) : Prop := Q .normal ⟨T, H, ds⟩

@[simp] theorem seqK_normal (ro : Option Nat) (b : ICode) (Q : AExit → St → Prop) (s : St) : seqK C ro b Q .normal s ↔ wpC C ro b Q s := Iff.rfl
@[simp] theorem seqK_exit (ro : Option Nat) (b : ICode) (Q : AExit → St → Prop) (s : St) (i : Nat) : seqK C ro b Q (.exit i) s ↔ Q (.exit i) s := Iff.rfl
@[simp] theorem seqK_ret (ro : Option Nat) (b : ICode) (Q : AExit → St → Prop) (s : St) : seqK C ro b Q .ret s ↔ Q .ret s := Iff.rfl
@[simp] theorem blockK_normal (id : Nat) (Q : AExit → St → Prop) (s : St) : blockK id Q .normal s ↔ Q .normal s := Iff.rfl
@[simp] theorem blockK_ret (id : Nat) (Q : AExit → St → Prop) (s : St) : blockK id Q .ret s ↔ Q .ret s := Iff.rfl
@[simp] theorem blockK_exit (id : Nat) (Q : AExit → St → Prop) (s : St) : blockK id Q (.exit id) s ↔ Q .normal s := by simp [blockK]
theorem blockK_other (id i : Nat) (Q : AExit → St → Prop) (s : St) (h : i ≠ id) : blockK id Q (.exit i) s ↔ Q (.exit i) s := by simp [blockK, h]
@[simp] theorem regK_eq (Q : AExit → St → Prop) (ds : List Nat) (T : Env) (H : AHeap) : regK Q ds T H ↔ Q .normal ⟨T, H, ds⟩ := Iff.rfl

@[simp↓] theorem wpC_skip (ro : Option Nat) (Q : AExit → St → Prop) (s : St) : wpC C ro .skip Q s ↔ Q .normal s := Iff.rfl
@[simp↓] theorem wpC_exit (ro : Option Nat) (i : Nat) (Q : AExit → St → Prop) (s : St) : wpC C ro (.exit i) Q s ↔ Q (.exit i) s := Iff.rfl
@[simp↓] theorem wpC_ret (ro : Option Nat) (Q : AExit → St → Prop) (s : St) : wpC C ro .ret Q s ↔ Q .ret s := Iff.rfl
@[simp↓] theorem wpC_seq (ro : Option Nat) (a b : ICode) (Q : AExit → St → Prop) (s : St) : wpC C ro (.seq a b) Q s ↔ wpC C ro a (seqK C ro b Q) s := by
  unfold wpC
  simp only [codeA]
  cases h : codeA C (fixO C) ro a s with
  | none => exact Iff.rfl
  | some r =>
    obtain ⟨e, s1⟩ := r
    cases e <;> exact Iff.rfl
@[simp↓] theorem wpC_block (ro : Option Nat) (id : Nat) (c : ICode) (Q : AExit → St → Prop) (s : St) : wpC C ro (.block id c) Q s ↔ wpC C ro c (blockK id Q) s := by
  unfold wpC
  simp only [codeA]
  cases h : codeA C (fixO C) ro c s with
  | none => exact Iff.rfl
  | some r =>
    obtain ⟨e, s1⟩ := r
    cases e with
    | normal => exact Iff.rfl
    | ret => exact Iff.rfl
    | exit i =>
      show bindO (if i = id then some (AExit.normal, s1) else some (AExit.exit i, s1)) (fun r => Q r.1 r.2) ↔ (if i = id then Q .normal s1 else Q (.exit i) s1)
      split <;> exact Iff.rfl
@[simp↓] theorem wpC_cond (ro : Option Nat) (x : IOpd) (a b : ICode) (Q : AExit → St → Prop) (s : St) : wpC C ro (.cond x a b) Q s ↔ condW C ro (x.val s.T.val) a b Q s := by
  unfold condW wpC
  simp only [codeA]
  generalize x.val s.T.val = v
  cases v with
  | bool b => cases b <;> exact Iff.rfl
  | _ => exact Iff.rfl
@[simp↓] theorem wpC_region (ro : Option Nat) (xs : List IOper) (Q : AExit → St → Prop) (s : St) : wpC C ro (.region xs) Q s ↔ wpO C xs (regK Q s.ds) s.T s.H := by
  unfold wpC wpO
  simp only [codeA]
  cases h : opsA C (fixO C) xs s.T s.H with
  | none => exact Iff.rfl
  | some r => exact Iff.rfl
@[simp↓] theorem wpC_dregion (ro : Option Nat) (es : List (Nat × IOper × List Nat)) (Q : AExit → St → Prop) (s : St) : wpC C ro (.dregion es) Q s ↔ wpD C es [] (regK Q s.ds) s.T s.H := by
  unfold wpC wpD
  simp only [codeA]
  cases h : dopsA C (fixO C) es [] s.T s.H with
  | none => exact Iff.rfl
  | some r => exact Iff.rfl

/-! ### operations -/
@[simp↓] theorem wpO_nil (K : Env → AHeap → Prop) (T : Env) (H : AHeap) : wpO C [] K T H ↔ K T H := Iff.rfl
@[simp↓] theorem wpO_call (d : Option Nat) (f : IOpd) (as : List IOpd) (r : List IOper) (K : Env → AHeap → Prop) (T : Env) (H : AHeap) :
    wpO C (⟨d, .call f as, none⟩ :: r) K T H ↔ wpCall C (f.val T.val) (as.map (·.val T.val)) H (callK C r K T d) := by
  unfold wpCall callK wpO
  simp only [opsA, stepA, wantedA]
  cases h : (fixO C).call (f.val T.val) (as.map (·.val T.val)) H with
  | none => exact Iff.rfl
  | some p => exact Iff.rfl
theorem stepA_exp {op : IOp} (hc : isCall op = false) (d : Option Nat) (T : Env) (H : AHeap) :
    stepA C (fixO C) ⟨d, op, none⟩ T H = (evalOp C H.get T.val H.next op).map fun out => (putDst T d out.v, H.apply out, Info.exp out.rd (out.mods H.next)) := by
  cases op with
  | call f as => cases hc
  | _ =>
    dsimp only [stepA, wantedA]
    split
    · rename_i h; rw [h]; rfl
    · rename_i h; rw [h]; rfl
theorem wpO_op {op : IOp} (hc : isCall op = false) (d : Option Nat) (r : List IOper) (K : Env → AHeap → Prop) (T : Env) (H : AHeap) :
    wpO C (⟨d, op, none⟩ :: r) K T H ↔ bindO (evalOp C H.get T.val H.next op) (opK C r K T d H) := by
  unfold opK wpO
  simp only [opsA, stepA_exp hc]
  cases evalOp C H.get T.val H.next op <;> exact Iff.rfl
/-- With a guard. -/
@[simp↓] theorem wpO_guard (d : Option Nat) (op : IOp) (t : Nat) (b : Bool) (r : List IOper) (K : Env → AHeap → Prop) (T : Env) (H : AHeap) :
    wpO C (⟨d, op, some (t, b)⟩ :: r) K T H ↔ guardK C (wantedA T.val (some (t, b))) d op r K T H := by
  unfold guardK wpO
  simp only [opsA, stepA]
  cases h : wantedA T.val (some (t, b)) with
  | none => exact Iff.rfl
  | some w => cases w <;> exact Iff.rfl

/-! ### operations of a region whose order is open -/
@[simp↓] theorem wpD_nil (log : List Info) (K : Env → AHeap → Prop) (T : Env) (H : AHeap) : wpD C [] log K T H ↔ K T H := Iff.rfl
@[simp↓] theorem wpD_call (i : Nat) (un : List Nat) (d : Option Nat) (f : IOpd) (as : List IOpd) (r : List (Nat × IOper × List Nat)) (log : List Info) (K : Env → AHeap → Prop) (T : Env) (H : AHeap) :
    wpD C ((i, ⟨d, .call f as, none⟩, un) :: r) log K T H ↔ wpCall C (f.val T.val) (as.map (·.val T.val)) H (callKD C un r log K T d H) := by
  unfold wpCall callKD freeW wpD
  simp only [dopsA, stepA, wantedA]
  cases h : (fixO C).call (f.val T.val) (as.map (·.val T.val)) H with
  | none => exact Iff.rfl
  | some p =>
    simp only [bindO_some]
    cases h2 : freeAll C log (.call H p.2) un with
    | true => exact Iff.rfl
    | false => exact Iff.rfl
theorem wpD_op {op : IOp} (hc : isCall op = false) (i : Nat) (un : List Nat) (d : Option Nat) (r : List (Nat × IOper × List Nat)) (log : List Info) (K : Env → AHeap → Prop) (T : Env) (H : AHeap) :
    wpD C ((i, ⟨d, op, none⟩, un) :: r) log K T H ↔ bindO (evalOp C H.get T.val H.next op) (opKD C un r log K T d H) := by
  unfold opKD freeW wpD
  simp only [dopsA, stepA_exp hc]
  cases evalOp C H.get T.val H.next op with
  | none => exact Iff.rfl
  | some out =>
    simp only [Option.map_some, bindO_some]
    cases h2 : freeAll C log (.exp out.rd (out.mods H.next)) un with
    | true => exact Iff.rfl
    | false => exact Iff.rfl
@[simp↓] theorem wpD_guard (i : Nat) (un : List Nat) (d : Option Nat) (op : IOp) (t : Nat) (b : Bool) (r : List (Nat × IOper × List Nat)) (log : List Info) (K : Env → AHeap → Prop) (T : Env) (H : AHeap) :
    wpD C ((i, ⟨d, op, some (t, b)⟩, un) :: r) log K T H ↔ guardKD C (wantedA T.val (some (t, b))) i un d op r log K T H := by
  unfold guardKD freeW wpD
  simp only [dopsA, stepA]
  cases h : wantedA T.val (some (t, b)) with
  | none => exact Iff.rfl
  | some w =>
    cases w with
    | true => exact Iff.rfl
    | false =>
      dsimp only
      cases h2 : freeAll C log (.exp [] []) un with
      | true => exact Iff.rfl
      | false => exact Iff.rfl

/-! ### each operation (printed by program) -/
@[simp↓] theorem wpO_mv (x : IOpd) (d : Option Nat) (r : List IOper) (K : Env → AHeap → Prop) (T : Env) (H : AHeap) : wpO C (⟨d, .mv x, none⟩ :: r) K T H ↔ bindO (evalOp C H.get T.val H.next (.mv x)) (opK C r K T d H) := wpO_op rfl d r K T H
@[simp↓] theorem wpD_mv (x : IOpd) (ix : Nat) (un : List Nat) (d : Option Nat) (r : List (Nat × IOper × List Nat)) (log : List Info) (K : Env → AHeap → Prop) (T : Env) (H : AHeap) : wpD C ((ix, ⟨d, .mv x, none⟩, un) :: r) log K T H ↔ bindO (evalOp C H.get T.val H.next (.mv x)) (opKD C un r log K T d H) := wpD_op rfl ix un d r log K T H
@[simp↓] theorem wpO_pick (c a b : IOpd) (d : Option Nat) (r : List IOper) (K : Env → AHeap → Prop) (T : Env) (H : AHeap) : wpO C (⟨d, .pick c a b, none⟩ :: r) K T H ↔ bindO (evalOp C H.get T.val H.next (.pick c a b)) (opK C r K T d H) := wpO_op rfl d r K T H
@[simp↓] theorem wpD_pick (c a b : IOpd) (ix : Nat) (un : List Nat) (d : Option Nat) (r : List (Nat × IOper × List Nat)) (log : List Info) (K : Env → AHeap → Prop) (T : Env) (H : AHeap) : wpD C ((ix, ⟨d, .pick c a b, none⟩, un) :: r) log K T H ↔ bindO (evalOp C H.get T.val H.next (.pick c a b)) (opKD C un r log K T d H) := wpD_op rfl ix un d r log K T H
theorem wpO_mk (cells : List Value) (d : Option Nat) (r : List IOper) (K : Env → AHeap → Prop) (T : Env) (H : AHeap) : wpO C (⟨d, .mk cells, none⟩ :: r) K T H ↔ bindO (evalOp C H.get T.val H.next (.mk cells)) (opK C r K T d H) := wpO_op rfl d r K T H
theorem wpD_mk (cells : List Value) (ix : Nat) (un : List Nat) (d : Option Nat) (r : List (Nat × IOper × List Nat)) (log : List Info) (K : Env → AHeap → Prop) (T : Env) (H : AHeap) : wpD C ((ix, ⟨d, .mk cells, none⟩, un) :: r) log K T H ↔ bindO (evalOp C H.get T.val H.next (.mk cells)) (opKD C un r log K T d H) := wpD_op rfl ix un d r log K T H
theorem wpO_box (n : Nat) (x : IOpd) (d : Option Nat) (r : List IOper) (K : Env → AHeap → Prop) (T : Env) (H : AHeap) : wpO C (⟨d, .box n x, none⟩ :: r) K T H ↔ bindO (evalOp C H.get T.val H.next (.box n x)) (opK C r K T d H) := wpO_op rfl d r K T H
theorem wpD_box (n : Nat) (x : IOpd) (ix : Nat) (un : List Nat) (d : Option Nat) (r : List (Nat × IOper × List Nat)) (log : List Info) (K : Env → AHeap → Prop) (T : Env) (H : AHeap) : wpD C ((ix, ⟨d, .box n x, none⟩, un) :: r) log K T H ↔ bindO (evalOp C H.get T.val H.next (.box n x)) (opKD C un r log K T d H) := wpD_op rfl ix un d r log K T H
@[simp↓] theorem wpO_build (z : List Value) (ps : List (Nat × Nat × IOpd)) (d : Option Nat) (r : List IOper) (K : Env → AHeap → Prop) (T : Env) (H : AHeap) : wpO C (⟨d, .build z ps, none⟩ :: r) K T H ↔ bindO (evalOp C H.get T.val H.next (.build z ps)) (opK C r K T d H) := wpO_op rfl d r K T H
@[simp↓] theorem wpD_build (z : List Value) (ps : List (Nat × Nat × IOpd)) (ix : Nat) (un : List Nat) (d : Option Nat) (r : List (Nat × IOper × List Nat)) (log : List Info) (K : Env → AHeap → Prop) (T : Env) (H : AHeap) : wpD C ((ix, ⟨d, .build z ps, none⟩, un) :: r) log K T H ↔ bindO (evalOp C H.get T.val H.next (.build z ps)) (opKD C un r log K T d H) := wpD_op rfl ix un d r log K T H
theorem wpO_buildSlice (len : Nat) (z : List Value) (ps : List (Nat × Nat × IOpd)) (d : Option Nat) (r : List IOper) (K : Env → AHeap → Prop) (T : Env) (H : AHeap) : wpO C (⟨d, .buildSlice len z ps, none⟩ :: r) K T H ↔ bindO (evalOp C H.get T.val H.next (.buildSlice len z ps)) (opK C r K T d H) := wpO_op rfl d r K T H
theorem wpD_buildSlice (len : Nat) (z : List Value) (ps : List (Nat × Nat × IOpd)) (ix : Nat) (un : List Nat) (d : Option Nat) (r : List (Nat × IOper × List Nat)) (log : List Info) (K : Env → AHeap → Prop) (T : Env) (H : AHeap) : wpD C ((ix, ⟨d, .buildSlice len z ps, none⟩, un) :: r) log K T H ↔ bindO (evalOp C H.get T.val H.next (.buildSlice len z ps)) (opKD C un r log K T d H) := wpD_op rfl ix un d r log K T H
@[simp↓] theorem wpO_load1 (x : IOpd) (d : Option Nat) (r : List IOper) (K : Env → AHeap → Prop) (T : Env) (H : AHeap) : wpO C (⟨d, .load1 x, none⟩ :: r) K T H ↔ bindO (evalOp C H.get T.val H.next (.load1 x)) (opK C r K T d H) := wpO_op rfl d r K T H
@[simp↓] theorem wpD_load1 (x : IOpd) (ix : Nat) (un : List Nat) (d : Option Nat) (r : List (Nat × IOper × List Nat)) (log : List Info) (K : Env → AHeap → Prop) (T : Env) (H : AHeap) : wpD C ((ix, ⟨d, .load1 x, none⟩, un) :: r) log K T H ↔ bindO (evalOp C H.get T.val H.next (.load1 x)) (opKD C un r log K T d H) := wpD_op rfl ix un d r log K T H
@[simp↓] theorem wpO_loadN (n : Nat) (x : IOpd) (d : Option Nat) (r : List IOper) (K : Env → AHeap → Prop) (T : Env) (H : AHeap) : wpO C (⟨d, .loadN n x, none⟩ :: r) K T H ↔ bindO (evalOp C H.get T.val H.next (.loadN n x)) (opK C r K T d H) := wpO_op rfl d r K T H
@[simp↓] theorem wpD_loadN (n : Nat) (x : IOpd) (ix : Nat) (un : List Nat) (d : Option Nat) (r : List (Nat × IOper × List Nat)) (log : List Info) (K : Env → AHeap → Prop) (T : Env) (H : AHeap) : wpD C ((ix, ⟨d, .loadN n x, none⟩, un) :: r) log K T H ↔ bindO (evalOp C H.get T.val H.next (.loadN n x)) (opKD C un r log K T d H) := wpD_op rfl ix un d r log K T H
theorem wpO_store (n : Nat) (a x : IOpd) (d : Option Nat) (r : List IOper) (K : Env → AHeap → Prop) (T : Env) (H : AHeap) : wpO C (⟨d, .store n a x, none⟩ :: r) K T H ↔ bindO (evalOp C H.get T.val H.next (.store n a x)) (opK C r K T d H) := wpO_op rfl d r K T H
theorem wpD_store (n : Nat) (a x : IOpd) (ix : Nat) (un : List Nat) (d : Option Nat) (r : List (Nat × IOper × List Nat)) (log : List Info) (K : Env → AHeap → Prop) (T : Env) (H : AHeap) : wpD C ((ix, ⟨d, .store n a x, none⟩, un) :: r) log K T H ↔ bindO (evalOp C H.get T.val H.next (.store n a x)) (opKD C un r log K T d H) := wpD_op rfl ix un d r log K T H
@[simp↓] theorem wpO_nilCheck (x : IOpd) (d : Option Nat) (r : List IOper) (K : Env → AHeap → Prop) (T : Env) (H : AHeap) : wpO C (⟨d, .nilCheck x, none⟩ :: r) K T H ↔ bindO (evalOp C H.get T.val H.next (.nilCheck x)) (opK C r K T d H) := wpO_op rfl d r K T H
@[simp↓] theorem wpD_nilCheck (x : IOpd) (ix : Nat) (un : List Nat) (d : Option Nat) (r : List (Nat × IOper × List Nat)) (log : List Info) (K : Env → AHeap → Prop) (T : Env) (H : AHeap) : wpD C ((ix, ⟨d, .nilCheck x, none⟩, un) :: r) log K T H ↔ bindO (evalOp C H.get T.val H.next (.nilCheck x)) (opKD C un r log K T d H) := wpD_op rfl ix un d r log K T H
@[simp↓] theorem wpO_bin (k : BK) (op : BinOp) (x y : IOpd) (d : Option Nat) (r : List IOper) (K : Env → AHeap → Prop) (T : Env) (H : AHeap) : wpO C (⟨d, .bin k op x y, none⟩ :: r) K T H ↔ bindO (evalOp C H.get T.val H.next (.bin k op x y)) (opK C r K T d H) := wpO_op rfl d r K T H
@[simp↓] theorem wpD_bin (k : BK) (op : BinOp) (x y : IOpd) (ix : Nat) (un : List Nat) (d : Option Nat) (r : List (Nat × IOper × List Nat)) (log : List Info) (K : Env → AHeap → Prop) (T : Env) (H : AHeap) : wpD C ((ix, ⟨d, .bin k op x y, none⟩, un) :: r) log K T H ↔ bindO (evalOp C H.get T.val H.next (.bin k op x y)) (opKD C un r log K T d H) := wpD_op rfl ix un d r log K T H
@[simp↓] theorem wpO_not (x : IOpd) (d : Option Nat) (r : List IOper) (K : Env → AHeap → Prop) (T : Env) (H : AHeap) : wpO C (⟨d, .not x, none⟩ :: r) K T H ↔ bindO (evalOp C H.get T.val H.next (.not x)) (opK C r K T d H) := wpO_op rfl d r K T H
@[simp↓] theorem wpD_not (x : IOpd) (ix : Nat) (un : List Nat) (d : Option Nat) (r : List (Nat × IOper × List Nat)) (log : List Info) (K : Env → AHeap → Prop) (T : Env) (H : AHeap) : wpD C ((ix, ⟨d, .not x, none⟩, un) :: r) log K T H ↔ bindO (evalOp C H.get T.val H.next (.not x)) (opKD C un r log K T d H) := wpD_op rfl ix un d r log K T H
@[simp↓] theorem wpO_neg (x : IOpd) (d : Option Nat) (r : List IOper) (K : Env → AHeap → Prop) (T : Env) (H : AHeap) : wpO C (⟨d, .neg x, none⟩ :: r) K T H ↔ bindO (evalOp C H.get T.val H.next (.neg x)) (opK C r K T d H) := wpO_op rfl d r K T H
@[simp↓] theorem wpD_neg (x : IOpd) (ix : Nat) (un : List Nat) (d : Option Nat) (r : List (Nat × IOper × List Nat)) (log : List Info) (K : Env → AHeap → Prop) (T : Env) (H : AHeap) : wpD C ((ix, ⟨d, .neg x, none⟩, un) :: r) log K T H ↔ bindO (evalOp C H.get T.val H.next (.neg x)) (opKD C un r log K T d H) := wpD_op rfl ix un d r log K T H
@[simp↓] theorem wpO_conv (k : IntKind) (x : IOpd) (d : Option Nat) (r : List IOper) (K : Env → AHeap → Prop) (T : Env) (H : AHeap) : wpO C (⟨d, .conv k x, none⟩ :: r) K T H ↔ bindO (evalOp C H.get T.val H.next (.conv k x)) (opK C r K T d H) := wpO_op rfl d r K T H
@[simp↓] theorem wpD_conv (k : IntKind) (x : IOpd) (ix : Nat) (un : List Nat) (d : Option Nat) (r : List (Nat × IOper × List Nat)) (log : List Info) (K : Env → AHeap → Prop) (T : Env) (H : AHeap) : wpD C ((ix, ⟨d, .conv k x, none⟩, un) :: r) log K T H ↔ bindO (evalOp C H.get T.val H.next (.conv k x)) (opKD C un r log K T d H) := wpD_op rfl ix un d r log K T H
@[simp↓] theorem wpO_toStr (x : IOpd) (d : Option Nat) (r : List IOper) (K : Env → AHeap → Prop) (T : Env) (H : AHeap) : wpO C (⟨d, .toStr x, none⟩ :: r) K T H ↔ bindO (evalOp C H.get T.val H.next (.toStr x)) (opK C r K T d H) := wpO_op rfl d r K T H
@[simp↓] theorem wpD_toStr (x : IOpd) (ix : Nat) (un : List Nat) (d : Option Nat) (r : List (Nat × IOper × List Nat)) (log : List Info) (K : Env → AHeap → Prop) (T : Env) (H : AHeap) : wpD C ((ix, ⟨d, .toStr x, none⟩, un) :: r) log K T H ↔ bindO (evalOp C H.get T.val H.next (.toStr x)) (opKD C un r log K T d H) := wpD_op rfl ix un d r log K T H
@[simp↓] theorem wpO_faddr (off : Nat) (x : IOpd) (d : Option Nat) (r : List IOper) (K : Env → AHeap → Prop) (T : Env) (H : AHeap) : wpO C (⟨d, .faddr off x, none⟩ :: r) K T H ↔ bindO (evalOp C H.get T.val H.next (.faddr off x)) (opK C r K T d H) := wpO_op rfl d r K T H
@[simp↓] theorem wpD_faddr (off : Nat) (x : IOpd) (ix : Nat) (un : List Nat) (d : Option Nat) (r : List (Nat × IOper × List Nat)) (log : List Info) (K : Env → AHeap → Prop) (T : Env) (H : AHeap) : wpD C ((ix, ⟨d, .faddr off x, none⟩, un) :: r) log K T H ↔ bindO (evalOp C H.get T.val H.next (.faddr off x)) (opKD C un r log K T d H) := wpD_op rfl ix un d r log K T H
@[simp↓] theorem wpO_field (off n : Nat) (agg : Bool) (x : IOpd) (d : Option Nat) (r : List IOper) (K : Env → AHeap → Prop) (T : Env) (H : AHeap) : wpO C (⟨d, .field off n agg x, none⟩ :: r) K T H ↔ bindO (evalOp C H.get T.val H.next (.field off n agg x)) (opK C r K T d H) := wpO_op rfl d r K T H
@[simp↓] theorem wpD_field (off n : Nat) (agg : Bool) (x : IOpd) (ix : Nat) (un : List Nat) (d : Option Nat) (r : List (Nat × IOper × List Nat)) (log : List Info) (K : Env → AHeap → Prop) (T : Env) (H : AHeap) : wpD C ((ix, ⟨d, .field off n agg x, none⟩, un) :: r) log K T H ↔ bindO (evalOp C H.get T.val H.next (.field off n agg x)) (opKD C un r log K T d H) := wpD_op rfl ix un d r log K T H
@[simp↓] theorem wpO_idxS (esz : Nat) (x i : IOpd) (d : Option Nat) (r : List IOper) (K : Env → AHeap → Prop) (T : Env) (H : AHeap) : wpO C (⟨d, .idxS esz x i, none⟩ :: r) K T H ↔ bindO (evalOp C H.get T.val H.next (.idxS esz x i)) (opK C r K T d H) := wpO_op rfl d r K T H
@[simp↓] theorem wpD_idxS (esz : Nat) (x i : IOpd) (ix : Nat) (un : List Nat) (d : Option Nat) (r : List (Nat × IOper × List Nat)) (log : List Info) (K : Env → AHeap → Prop) (T : Env) (H : AHeap) : wpD C ((ix, ⟨d, .idxS esz x i, none⟩, un) :: r) log K T H ↔ bindO (evalOp C H.get T.val H.next (.idxS esz x i)) (opKD C un r log K T d H) := wpD_op rfl ix un d r log K T H
@[simp↓] theorem wpO_idxA (len esz : Nat) (x i : IOpd) (d : Option Nat) (r : List IOper) (K : Env → AHeap → Prop) (T : Env) (H : AHeap) : wpO C (⟨d, .idxA len esz x i, none⟩ :: r) K T H ↔ bindO (evalOp C H.get T.val H.next (.idxA len esz x i)) (opK C r K T d H) := wpO_op rfl d r K T H
@[simp↓] theorem wpD_idxA (len esz : Nat) (x i : IOpd) (ix : Nat) (un : List Nat) (d : Option Nat) (r : List (Nat × IOper × List Nat)) (log : List Info) (K : Env → AHeap → Prop) (T : Env) (H : AHeap) : wpD C ((ix, ⟨d, .idxA len esz x i, none⟩, un) :: r) log K T H ↔ bindO (evalOp C H.get T.val H.next (.idxA len esz x i)) (opKD C un r log K T d H) := wpD_op rfl ix un d r log K T H
@[simp↓] theorem wpO_idxV (len esz : Nat) (agg : Bool) (x i : IOpd) (d : Option Nat) (r : List IOper) (K : Env → AHeap → Prop) (T : Env) (H : AHeap) : wpO C (⟨d, .idxV len esz agg x i, none⟩ :: r) K T H ↔ bindO (evalOp C H.get T.val H.next (.idxV len esz agg x i)) (opK C r K T d H) := wpO_op rfl d r K T H
@[simp↓] theorem wpD_idxV (len esz : Nat) (agg : Bool) (x i : IOpd) (ix : Nat) (un : List Nat) (d : Option Nat) (r : List (Nat × IOper × List Nat)) (log : List Info) (K : Env → AHeap → Prop) (T : Env) (H : AHeap) : wpD C ((ix, ⟨d, .idxV len esz agg x i, none⟩, un) :: r) log K T H ↔ bindO (evalOp C H.get T.val H.next (.idxV len esz agg x i)) (opKD C un r log K T d H) := wpD_op rfl ix un d r log K T H
@[simp↓] theorem wpO_idxStr (x i : IOpd) (d : Option Nat) (r : List IOper) (K : Env → AHeap → Prop) (T : Env) (H : AHeap) : wpO C (⟨d, .idxStr x i, none⟩ :: r) K T H ↔ bindO (evalOp C H.get T.val H.next (.idxStr x i)) (opK C r K T d H) := wpO_op rfl d r K T H
@[simp↓] theorem wpD_idxStr (x i : IOpd) (ix : Nat) (un : List Nat) (d : Option Nat) (r : List (Nat × IOper × List Nat)) (log : List Info) (K : Env → AHeap → Prop) (T : Env) (H : AHeap) : wpD C ((ix, ⟨d, .idxStr x i, none⟩, un) :: r) log K T H ↔ bindO (evalOp C H.get T.val H.next (.idxStr x i)) (opKD C un r log K T d H) := wpD_op rfl ix un d r log K T H
theorem wpO_sliceS (esz : Nat) (x : IOpd) (lo hi mx : Option IOpd) (d : Option Nat) (r : List IOper) (K : Env → AHeap → Prop) (T : Env) (H : AHeap) : wpO C (⟨d, .sliceS esz x lo hi mx, none⟩ :: r) K T H ↔ bindO (evalOp C H.get T.val H.next (.sliceS esz x lo hi mx)) (opK C r K T d H) := wpO_op rfl d r K T H
theorem wpD_sliceS (esz : Nat) (x : IOpd) (lo hi mx : Option IOpd) (ix : Nat) (un : List Nat) (d : Option Nat) (r : List (Nat × IOper × List Nat)) (log : List Info) (K : Env → AHeap → Prop) (T : Env) (H : AHeap) : wpD C ((ix, ⟨d, .sliceS esz x lo hi mx, none⟩, un) :: r) log K T H ↔ bindO (evalOp C H.get T.val H.next (.sliceS esz x lo hi mx)) (opKD C un r log K T d H) := wpD_op rfl ix un d r log K T H
@[simp↓] theorem wpO_sliceA (n esz : Nat) (x : IOpd) (lo hi mx : Option IOpd) (d : Option Nat) (r : List IOper) (K : Env → AHeap → Prop) (T : Env) (H : AHeap) : wpO C (⟨d, .sliceA n esz x lo hi mx, none⟩ :: r) K T H ↔ bindO (evalOp C H.get T.val H.next (.sliceA n esz x lo hi mx)) (opK C r K T d H) := wpO_op rfl d r K T H
@[simp↓] theorem wpD_sliceA (n esz : Nat) (x : IOpd) (lo hi mx : Option IOpd) (ix : Nat) (un : List Nat) (d : Option Nat) (r : List (Nat × IOper × List Nat)) (log : List Info) (K : Env → AHeap → Prop) (T : Env) (H : AHeap) : wpD C ((ix, ⟨d, .sliceA n esz x lo hi mx, none⟩, un) :: r) log K T H ↔ bindO (evalOp C H.get T.val H.next (.sliceA n esz x lo hi mx)) (opKD C un r log K T d H) := wpD_op rfl ix un d r log K T H
@[simp↓] theorem wpO_sliceStr (x : IOpd) (lo hi : Option IOpd) (d : Option Nat) (r : List IOper) (K : Env → AHeap → Prop) (T : Env) (H : AHeap) : wpO C (⟨d, .sliceStr x lo hi, none⟩ :: r) K T H ↔ bindO (evalOp C H.get T.val H.next (.sliceStr x lo hi)) (opK C r K T d H) := wpO_op rfl d r K T H
@[simp↓] theorem wpD_sliceStr (x : IOpd) (lo hi : Option IOpd) (ix : Nat) (un : List Nat) (d : Option Nat) (r : List (Nat × IOper × List Nat)) (log : List Info) (K : Env → AHeap → Prop) (T : Env) (H : AHeap) : wpD C ((ix, ⟨d, .sliceStr x lo hi, none⟩, un) :: r) log K T H ↔ bindO (evalOp C H.get T.val H.next (.sliceStr x lo hi)) (opKD C un r log K T d H) := wpD_op rfl ix un d r log K T H
@[simp↓] theorem wpO_lenC (n : Nat) (d : Option Nat) (r : List IOper) (K : Env → AHeap → Prop) (T : Env) (H : AHeap) : wpO C (⟨d, .lenC n, none⟩ :: r) K T H ↔ bindO (evalOp C H.get T.val H.next (.lenC n)) (opK C r K T d H) := wpO_op rfl d r K T H
@[simp↓] theorem wpD_lenC (n : Nat) (ix : Nat) (un : List Nat) (d : Option Nat) (r : List (Nat × IOper × List Nat)) (log : List Info) (K : Env → AHeap → Prop) (T : Env) (H : AHeap) : wpD C ((ix, ⟨d, .lenC n, none⟩, un) :: r) log K T H ↔ bindO (evalOp C H.get T.val H.next (.lenC n)) (opKD C un r log K T d H) := wpD_op rfl ix un d r log K T H
@[simp↓] theorem wpO_len (x : IOpd) (d : Option Nat) (r : List IOper) (K : Env → AHeap → Prop) (T : Env) (H : AHeap) : wpO C (⟨d, .len x, none⟩ :: r) K T H ↔ bindO (evalOp C H.get T.val H.next (.len x)) (opK C r K T d H) := wpO_op rfl d r K T H
@[simp↓] theorem wpD_len (x : IOpd) (ix : Nat) (un : List Nat) (d : Option Nat) (r : List (Nat × IOper × List Nat)) (log : List Info) (K : Env → AHeap → Prop) (T : Env) (H : AHeap) : wpD C ((ix, ⟨d, .len x, none⟩, un) :: r) log K T H ↔ bindO (evalOp C H.get T.val H.next (.len x)) (opKD C un r log K T d H) := wpD_op rfl ix un d r log K T H
@[simp↓] theorem wpO_lenStr (x : IOpd) (d : Option Nat) (r : List IOper) (K : Env → AHeap → Prop) (T : Env) (H : AHeap) : wpO C (⟨d, .lenStr x, none⟩ :: r) K T H ↔ bindO (evalOp C H.get T.val H.next (.lenStr x)) (opK C r K T d H) := wpO_op rfl d r K T H
@[simp↓] theorem wpD_lenStr (x : IOpd) (ix : Nat) (un : List Nat) (d : Option Nat) (r : List (Nat × IOper × List Nat)) (log : List Info) (K : Env → AHeap → Prop) (T : Env) (H : AHeap) : wpD C ((ix, ⟨d, .lenStr x, none⟩, un) :: r) log K T H ↔ bindO (evalOp C H.get T.val H.next (.lenStr x)) (opKD C un r log K T d H) := wpD_op rfl ix un d r log K T H
@[simp↓] theorem wpO_lenM (x : IOpd) (d : Option Nat) (r : List IOper) (K : Env → AHeap → Prop) (T : Env) (H : AHeap) : wpO C (⟨d, .lenM x, none⟩ :: r) K T H ↔ bindO (evalOp C H.get T.val H.next (.lenM x)) (opK C r K T d H) := wpO_op rfl d r K T H
@[simp↓] theorem wpD_lenM (x : IOpd) (ix : Nat) (un : List Nat) (d : Option Nat) (r : List (Nat × IOper × List Nat)) (log : List Info) (K : Env → AHeap → Prop) (T : Env) (H : AHeap) : wpD C ((ix, ⟨d, .lenM x, none⟩, un) :: r) log K T H ↔ bindO (evalOp C H.get T.val H.next (.lenM x)) (opKD C un r log K T d H) := wpD_op rfl ix un d r log K T H
@[simp↓] theorem wpO_cap (x : IOpd) (d : Option Nat) (r : List IOper) (K : Env → AHeap → Prop) (T : Env) (H : AHeap) : wpO C (⟨d, .cap x, none⟩ :: r) K T H ↔ bindO (evalOp C H.get T.val H.next (.cap x)) (opK C r K T d H) := wpO_op rfl d r K T H
@[simp↓] theorem wpD_cap (x : IOpd) (ix : Nat) (un : List Nat) (d : Option Nat) (r : List (Nat × IOper × List Nat)) (log : List Info) (K : Env → AHeap → Prop) (T : Env) (H : AHeap) : wpD C ((ix, ⟨d, .cap x, none⟩, un) :: r) log K T H ↔ bindO (evalOp C H.get T.val H.next (.cap x)) (opKD C un r log K T d H) := wpD_op rfl ix un d r log K T H
theorem wpO_append (esz bytes : Nat) (s x : IOpd) (d : Option Nat) (r : List IOper) (K : Env → AHeap → Prop) (T : Env) (H : AHeap) : wpO C (⟨d, .append esz bytes s x, none⟩ :: r) K T H ↔ bindO (evalOp C H.get T.val H.next (.append esz bytes s x)) (opK C r K T d H) := wpO_op rfl d r K T H
theorem wpD_append (esz bytes : Nat) (s x : IOpd) (ix : Nat) (un : List Nat) (d : Option Nat) (r : List (Nat × IOper × List Nat)) (log : List Info) (K : Env → AHeap → Prop) (T : Env) (H : AHeap) : wpD C ((ix, ⟨d, .append esz bytes s x, none⟩, un) :: r) log K T H ↔ bindO (evalOp C H.get T.val H.next (.append esz bytes s x)) (opKD C un r log K T d H) := wpD_op rfl ix un d r log K T H
theorem wpO_appendZ (bytes : Nat) (z : List Value) (s n : IOpd) (d : Option Nat) (r : List IOper) (K : Env → AHeap → Prop) (T : Env) (H : AHeap) : wpO C (⟨d, .appendZ bytes z s n, none⟩ :: r) K T H ↔ bindO (evalOp C H.get T.val H.next (.appendZ bytes z s n)) (opK C r K T d H) := wpO_op rfl d r K T H
theorem wpD_appendZ (bytes : Nat) (z : List Value) (s n : IOpd) (ix : Nat) (un : List Nat) (d : Option Nat) (r : List (Nat × IOper × List Nat)) (log : List Info) (K : Env → AHeap → Prop) (T : Env) (H : AHeap) : wpD C ((ix, ⟨d, .appendZ bytes z s n, none⟩, un) :: r) log K T H ↔ bindO (evalOp C H.get T.val H.next (.appendZ bytes z s n)) (opKD C un r log K T d H) := wpD_op rfl ix un d r log K T H
theorem wpO_copy (esz : Nat) (dd s : IOpd) (d : Option Nat) (r : List IOper) (K : Env → AHeap → Prop) (T : Env) (H : AHeap) : wpO C (⟨d, .copy esz dd s, none⟩ :: r) K T H ↔ bindO (evalOp C H.get T.val H.next (.copy esz dd s)) (opK C r K T d H) := wpO_op rfl d r K T H
theorem wpD_copy (esz : Nat) (dd s : IOpd) (ix : Nat) (un : List Nat) (d : Option Nat) (r : List (Nat × IOper × List Nat)) (log : List Info) (K : Env → AHeap → Prop) (T : Env) (H : AHeap) : wpD C ((ix, ⟨d, .copy esz dd s, none⟩, un) :: r) log K T H ↔ bindO (evalOp C H.get T.val H.next (.copy esz dd s)) (opKD C un r log K T d H) := wpD_op rfl ix un d r log K T H
theorem wpO_clear (z : List Value) (x : IOpd) (d : Option Nat) (r : List IOper) (K : Env → AHeap → Prop) (T : Env) (H : AHeap) : wpO C (⟨d, .clear z x, none⟩ :: r) K T H ↔ bindO (evalOp C H.get T.val H.next (.clear z x)) (opK C r K T d H) := wpO_op rfl d r K T H
theorem wpD_clear (z : List Value) (x : IOpd) (ix : Nat) (un : List Nat) (d : Option Nat) (r : List (Nat × IOper × List Nat)) (log : List Info) (K : Env → AHeap → Prop) (T : Env) (H : AHeap) : wpD C ((ix, ⟨d, .clear z x, none⟩, un) :: r) log K T H ↔ bindO (evalOp C H.get T.val H.next (.clear z x)) (opKD C un r log K T d H) := wpD_op rfl ix un d r log K T H
theorem wpO_mkSlice (bytes : Nat) (z : List Value) (n c : IOpd) (d : Option Nat) (r : List IOper) (K : Env → AHeap → Prop) (T : Env) (H : AHeap) : wpO C (⟨d, .mkSlice bytes z n c, none⟩ :: r) K T H ↔ bindO (evalOp C H.get T.val H.next (.mkSlice bytes z n c)) (opK C r K T d H) := wpO_op rfl d r K T H
theorem wpD_mkSlice (bytes : Nat) (z : List Value) (n c : IOpd) (ix : Nat) (un : List Nat) (d : Option Nat) (r : List (Nat × IOper × List Nat)) (log : List Info) (K : Env → AHeap → Prop) (T : Env) (H : AHeap) : wpD C ((ix, ⟨d, .mkSlice bytes z n c, none⟩, un) :: r) log K T H ↔ bindO (evalOp C H.get T.val H.next (.mkSlice bytes z n c)) (opKD C un r log K T d H) := wpD_op rfl ix un d r log K T H
@[simp↓] theorem wpO_minI (x y : IOpd) (d : Option Nat) (r : List IOper) (K : Env → AHeap → Prop) (T : Env) (H : AHeap) : wpO C (⟨d, .minI x y, none⟩ :: r) K T H ↔ bindO (evalOp C H.get T.val H.next (.minI x y)) (opK C r K T d H) := wpO_op rfl d r K T H
@[simp↓] theorem wpD_minI (x y : IOpd) (ix : Nat) (un : List Nat) (d : Option Nat) (r : List (Nat × IOper × List Nat)) (log : List Info) (K : Env → AHeap → Prop) (T : Env) (H : AHeap) : wpD C ((ix, ⟨d, .minI x y, none⟩, un) :: r) log K T H ↔ bindO (evalOp C H.get T.val H.next (.minI x y)) (opKD C un r log K T d H) := wpD_op rfl ix un d r log K T H
@[simp↓] theorem wpO_maxI (x y : IOpd) (d : Option Nat) (r : List IOper) (K : Env → AHeap → Prop) (T : Env) (H : AHeap) : wpO C (⟨d, .maxI x y, none⟩ :: r) K T H ↔ bindO (evalOp C H.get T.val H.next (.maxI x y)) (opK C r K T d H) := wpO_op rfl d r K T H
@[simp↓] theorem wpD_maxI (x y : IOpd) (ix : Nat) (un : List Nat) (d : Option Nat) (r : List (Nat × IOper × List Nat)) (log : List Info) (K : Env → AHeap → Prop) (T : Env) (H : AHeap) : wpD C ((ix, ⟨d, .maxI x y, none⟩, un) :: r) log K T H ↔ bindO (evalOp C H.get T.val H.next (.maxI x y)) (opKD C un r log K T d H) := wpD_op rfl ix un d r log K T H
@[simp↓] theorem wpO_extract (k : Nat) (x : IOpd) (d : Option Nat) (r : List IOper) (K : Env → AHeap → Prop) (T : Env) (H : AHeap) : wpO C (⟨d, .extract k x, none⟩ :: r) K T H ↔ bindO (evalOp C H.get T.val H.next (.extract k x)) (opK C r K T d H) := wpO_op rfl d r K T H
@[simp↓] theorem wpD_extract (k : Nat) (x : IOpd) (ix : Nat) (un : List Nat) (d : Option Nat) (r : List (Nat × IOper × List Nat)) (log : List Info) (K : Env → AHeap → Prop) (T : Env) (H : AHeap) : wpD C ((ix, ⟨d, .extract k x, none⟩, un) :: r) log K T H ↔ bindO (evalOp C H.get T.val H.next (.extract k x)) (opKD C un r log K T d H) := wpD_op rfl ix un d r log K T H
@[simp↓] theorem wpO_mkfn (fn : Fn) (first captured : List IOpd) (d : Option Nat) (r : List IOper) (K : Env → AHeap → Prop) (T : Env) (H : AHeap) : wpO C (⟨d, .mkfn fn first captured, none⟩ :: r) K T H ↔ bindO (evalOp C H.get T.val H.next (.mkfn fn first captured)) (opK C r K T d H) := wpO_op rfl d r K T H
@[simp↓] theorem wpD_mkfn (fn : Fn) (first captured : List IOpd) (ix : Nat) (un : List Nat) (d : Option Nat) (r : List (Nat × IOper × List Nat)) (log : List Info) (K : Env → AHeap → Prop) (T : Env) (H : AHeap) : wpD C ((ix, ⟨d, .mkfn fn first captured, none⟩, un) :: r) log K T H ↔ bindO (evalOp C H.get T.val H.next (.mkfn fn first captured)) (opKD C un r log K T d H) := wpD_op rfl ix un d r log K T H
theorem wpO_mkmap  (d : Option Nat) (r : List IOper) (K : Env → AHeap → Prop) (T : Env) (H : AHeap) : wpO C (⟨d, .mkmap, none⟩ :: r) K T H ↔ bindO (evalOp C H.get T.val H.next (.mkmap)) (opK C r K T d H) := wpO_op rfl d r K T H
theorem wpD_mkmap  (ix : Nat) (un : List Nat) (d : Option Nat) (r : List (Nat × IOper × List Nat)) (log : List Info) (K : Env → AHeap → Prop) (T : Env) (H : AHeap) : wpD C ((ix, ⟨d, .mkmap, none⟩, un) :: r) log K T H ↔ bindO (evalOp C H.get T.val H.next (.mkmap)) (opKD C un r log K T d H) := wpD_op rfl ix un d r log K T H
theorem wpO_insert (m k v : IOpd) (d : Option Nat) (r : List IOper) (K : Env → AHeap → Prop) (T : Env) (H : AHeap) : wpO C (⟨d, .insert m k v, none⟩ :: r) K T H ↔ bindO (evalOp C H.get T.val H.next (.insert m k v)) (opK C r K T d H) := wpO_op rfl d r K T H
theorem wpD_insert (m k v : IOpd) (ix : Nat) (un : List Nat) (d : Option Nat) (r : List (Nat × IOper × List Nat)) (log : List Info) (K : Env → AHeap → Prop) (T : Env) (H : AHeap) : wpD C ((ix, ⟨d, .insert m k v, none⟩, un) :: r) log K T H ↔ bindO (evalOp C H.get T.val H.next (.insert m k v)) (opKD C un r log K T d H) := wpD_op rfl ix un d r log K T H
theorem wpO_lookup (z : Value) (ok : Bool) (m k : IOpd) (d : Option Nat) (r : List IOper) (K : Env → AHeap → Prop) (T : Env) (H : AHeap) : wpO C (⟨d, .lookup z ok m k, none⟩ :: r) K T H ↔ bindO (evalOp C H.get T.val H.next (.lookup z ok m k)) (opK C r K T d H) := wpO_op rfl d r K T H
theorem wpD_lookup (z : Value) (ok : Bool) (m k : IOpd) (ix : Nat) (un : List Nat) (d : Option Nat) (r : List (Nat × IOper × List Nat)) (log : List Info) (K : Env → AHeap → Prop) (T : Env) (H : AHeap) : wpD C ((ix, ⟨d, .lookup z ok m k, none⟩, un) :: r) log K T H ↔ bindO (evalOp C H.get T.val H.next (.lookup z ok m k)) (opKD C un r log K T d H) := wpD_op rfl ix un d r log K T H

/-! ### loops, functions -/
theorem wpC_mono {ro : Option Nat} {c : ICode} {Q Q' : AExit → St → Prop} {s : St} (h : wpC C ro c Q s) (hq : ∀ e s, Q e s → Q' e s) : wpC C ro c Q' s := bindO_mono h fun r hr => hq _ _ hr
theorem wpCall_mono {f : Value} {as : List Value} {H : AHeap} {K K' : Value → AHeap → Prop} (h : wpCall C f as H K) (hk : ∀ v H', K v H' → K' v H') : wpCall C f as H K' := bindO_mono h fun r hr => hk _ _ hr

/-- A loop, with a number that falls. -/
theorem wp_loop {ro : Option Nat} {c : ICode} {Q : AExit → St → Prop} (I : Nat → St → Prop) (h : ∀ n s, I n s → wpC C ro c (fun e s' => match e with | .normal => ∃ m, m < n ∧ I m s' | e => Q e s') s) :
    ∀ n s, I n s → wpC C ro (.loop c) Q s := by
  intro n
  induction n using Nat.strongRecOn with
  | _ n ih =>
    intro s hs
    have h1 := h n s hs
    unfold wpC at h1 ⊢
    cases hc : codeA C (fixO C) ro c s with
    | none => rw [hc] at h1; exact h1.elim
    | some r =>
      rw [hc] at h1
      obtain ⟨e, s1⟩ := r
      simp only [codeA]
      cases e with
      | normal =>
        obtain ⟨m, hm, hI⟩ := h1
        have h2 := ih m hm s1 hI
        unfold wpC at h2
        simp only [codeA] at h2
        cases hl : (fixO C).loop ro c s1 with
        | none => rw [hl] at h2; exact h2.elim
        | some r2 =>
          rw [hl] at h2
          have : (fixO C).loop ro c s = some r2 := fix_loopA (by unfold loopA; rw [hc]; exact hl)
          rw [this]
          exact h2
      | exit i =>
        have : (fixO C).loop ro c s = some (.exit i, s1) := fix_loopA (by unfold loopA; rw [hc])
        rw [this]
        exact h1
      | ret =>
        have : (fixO C).loop ro c s = some (.ret, s1) := fix_loopA (by unfold loopA; rw [hc])
        rw [this]
        exact h1

/-- The same, with a continuation that is not looked into. -/
theorem wp_loop' {ro : Option Nat} {c : ICode} {Q : AExit → St → Prop} (I : Nat → St → Prop) {n : Nat} {s : St} (h0 : I n s)
    (h : ∀ n s (K : AExit → St → Prop), I n s → (∀ m s', m < n → I m s' → K .normal s') → (∀ e s', e ≠ .normal → Q e s' → K e s') → wpC C ro c K s) : wpC C ro (.loop c) Q s := by
  refine wp_loop I (fun n s hI => h n s _ hI (fun m s' hm hI' => ⟨m, hm, hI'⟩) fun e s' hne hq => ?_) n s h0
  cases e with
  | normal => exact absurd rfl hne
  | exit i => exact hq
  | ret => exact hq

def finK (C : Ctx) (rs : List IRes) (K : Value → AHeap → Prop) : AExit → St → Prop
  | .exit _, _ => False
  | _, s => bindO (shut s.ds s.H) fun H' => bindO (resAll C s.T.val H'.get rs) fun vs => K (oneOrTuple vs) H'

@[simp] theorem finK_ret (rs : List IRes) (K : Value → AHeap → Prop) (T : Env) (H : AHeap) : finK C rs K .ret ⟨T, H, []⟩ ↔ bindO (resAll C T.val H.get rs) fun vs => K (oneOrTuple vs) H := Iff.rfl
@[simp] theorem finK_normal (rs : List IRes) (K : Value → AHeap → Prop) (T : Env) (H : AHeap) : finK C rs K .normal ⟨T, H, []⟩ ↔ bindO (resAll C T.val H.get rs) fun vs => K (oneOrTuple vs) H := Iff.rfl

theorem wpCall_fn {k : FuncId} {first cap : Array Value} {as : List Value} {H : AHeap} {F : IFunc} {K : Value → AHeap → Prop} (hk : C.known k (first.toList ++ (as ++ cap.toList)) = none) (hF : C.funcs.get k = some F)
    (h : wpC C none F.body (finK C F.results K) ⟨ofArgs (first.toList ++ (as ++ cap.toList)) 0 .leaf, H, []⟩) : wpCall C (.func (.func k) first cap) as H K := by
  unfold wpC at h
  unfold wpCall
  cases hc : codeA C (fixO C) none F.body ⟨ofArgs (first.toList ++ (as ++ cap.toList)) 0 .leaf, H, []⟩ with
  | none => rw [hc] at h; exact h.elim
  | some r =>
    rw [hc] at h
    obtain ⟨e, s⟩ := r
    have key : ∃ r, callFn C (fixO C) F (first.toList ++ (as ++ cap.toList)) H = some r ∧ K r.1 r.2 := by
      unfold callFn
      rw [hc]
      have h' : e ≠ .exit 0 → True := fun _ => trivial
      cases e with
      | exit i => exact h.elim
      | normal =>
        have h : bindO (shut s.ds s.H) fun H' => bindO (resAll C s.T.val H'.get F.results) fun vs => K (oneOrTuple vs) H' := h
        dsimp only
        cases h1 : shut s.ds s.H with
        | none => rw [h1] at h; exact h.elim
        | some H1 =>
          rw [h1] at h
          simp only [bindO_some] at h
          dsimp only
          cases h2 : resAll C s.T.val H1.get F.results with
          | none => rw [h2] at h; exact h.elim
          | some vs => rw [h2] at h; exact ⟨_, rfl, h⟩
      | ret =>
        have h : bindO (shut s.ds s.H) fun H' => bindO (resAll C s.T.val H'.get F.results) fun vs => K (oneOrTuple vs) H' := h
        dsimp only
        cases h1 : shut s.ds s.H with
        | none => rw [h1] at h; exact h.elim
        | some H1 =>
          rw [h1] at h
          simp only [bindO_some] at h
          dsimp only
          cases h2 : resAll C s.T.val H1.get F.results with
          | none => rw [h2] at h; exact h.elim
          | some vs => rw [h2] at h; exact ⟨_, rfl, h⟩
    obtain ⟨r, h1, h2⟩ := key
    have : (fixO C).call (.func (.func k) first cap) as H = some r := fix_callA (by unfold callA; dsimp only; rw [hk]; dsimp only; rw [hF]; exact h1)
    rw [this]
    exact h2

end
end Go.Ai
