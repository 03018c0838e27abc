/-
  Each operation, against the model's: those that look at no memory.
  Each operation, against the model's: numbers, places, bounds.
  Each operation, against the model's: literals, memory.
  Each operation, against the model's: reading and writing memory, slices.
  Each operation, against the model's: append, copy, clear, make, maps.
-/
import Derived.Test.YthigfnjbabcfnaaGreatDoorAkA
import Derived.Laws.Entries
import Derived.Laws.BytesString
import Derived.Lib.Builder
namespace Go.Ak

/-- An operation's run gives a value (or none), and the relation goes on. -/
def Good (P : Program) (C : Ctx) (φ : Phi) (M : Nat → Option AObj) (w : World) (nid : Nat) (s : Sem Next) (out : AOut) : Prop :=
  ∃ v' w' φ', (s.run P w = .ok (.value v') w' ∨ (s.run P w = .ok .skip w' ∧ v' = undef)) ∧ φ.le φ' ∧ VRel φ' out.v v' ∧ R P C φ' (patch M nid out) w'

section
variable {P : Program} {C : Ctx} {φ : Phi} {M : Nat → Option AObj} {w : World} {T : Nat → Value} {nid : Nat} {ρ : Operand → Value} {out : AOut}

/-- The operands. -/
def Opds (φ : Phi) (T : Nat → Value) (ρ : Operand → Value) : Prop := ∀ x y, opd x = some y → VRel φ (y.val T) (ρ x)

theorem opds_of {a : Act} (hT : TRel φ T a.tmps) : Opds φ T a.eval := by
  intro x y h
  cases x with
  | tmp t => simp [opd] at h; subst h; exact hT t
  | const v =>
    simp [opd] at h
    obtain ⟨h1, rfl⟩ := h
    exact clean_rel (old_zero φ) h1
  | global g => simp [opd] at h
  | func f => simp [opd] at h; subst h; exact .func _ _ _ _ _ .nil .nil

theorem good_pure (h : R P C φ M w) {s : Sem Next} {v v' : Value} (hs : s.run P w = .ok (.value v') w) (hv : VRel φ v v') : Good P C φ M w nid s { v } :=
  ⟨v', w, φ, .inl hs, Phi.le_refl φ, hv, h⟩

theorem good_rd {lk : Option (Addr × List Value)} (h : R P C φ M w) {s : Sem Next} {v v' : Value} {rd : List Nat} (hs : s.run P w = .ok (.value v') w) (hv : VRel φ v v') : Good P C φ M w nid s { v, rd, lk } :=
  ⟨v', w, φ, .inl hs, Phi.le_refl φ, hv, h⟩

theorem bool_inv {v' : Value} {b : Bool} (h : VRel φ (.bool b) v') : v' = .bool b := by cases h; rfl
theorem int_inv {v' : Value} {k : IntKind} {n : Int} (h : VRel φ (.int k n) v') : v' = .int k n := by cases h; rfl
theorem str_inv {v' : Value} {s : ByteArray} (h : VRel φ (.string s) v') : v' = .string s := by cases h; rfl
theorem ptr_inv {v' : Value} {a : Addr} (h : VRel φ (.pointer (some a)) v') : ∃ a', v' = .pointer (some a') ∧ ARel φ a a' := by cases h with | ptr _ a' h => exact ⟨a', rfl, h⟩
theorem agg_inv {v' : Value} {cs : Array Value} (h : VRel φ (.agg cs) v') : ∃ cs', v' = .agg cs' ∧ VsRel φ cs.toList cs'.toList := by cases h with | agg _ a' h => exact ⟨a', rfl, h⟩
theorem nilsl_inv {v' : Value} {l c : Nat} (h : VRel φ (.slice none l c) v') : v' = .slice none l c := by cases h; rfl
theorem asCell_inv {v : Value} {a : Addr} (h : asCell v = some a) : v = .pointer (some a) := by
  cases v with
  | pointer x => cases x <;> simp [asCell] at h; subst h; rfl
  | _ => simp [asCell] at h

/-- A slice that leads somewhere. -/
theorem sl_inv {v' : Value} {a : Addr} {n c : Nat} (h : VRel φ (.slice (some a) n c) v') :
    ∃ a' c', v' = .slice (some a') n c' ∧ c ≤ c' ∧ (ARel φ a a' ∨ (n = 0 ∧ c = 0 ∧ c' = 0)) := by
  cases h with
  | slice _ l _ _ c' h1 h2 => exact ⟨_, c', rfl, by rcases h2 with rfl | ⟨_, h, _⟩ <;> omega, .inl ⟨l, h1, rfl⟩⟩
  | slice0 _ a' => exact ⟨a', 0, rfl, Nat.le_refl _, .inr ⟨rfl, rfl, rfl⟩⟩

variable {o : Oper}

theorem good_move {x : Operand} {y : IOpd} (ho : o.op = .move x ∨ o.op = .assign x) (hx : opd x = some y) (hT : Opds φ T ρ) (h : R P C φ M w) : Good P C φ M w nid (execOp ρ o) { v := y.val T } := by
  refine good_pure h (v' := ρ x) ?_ (hT x y hx)
  rcases ho with ho | ho <;> simp [execOp, ho]

theorem good_pick {c a b : Operand} {c' a' b' : IOpd} (ho : o.op = .pick c a b) (hc : opd c = some c') (ha : opd a = some a') (hb : opd b = some b') (hT : Opds φ T ρ) (h : R P C φ M w)
    (he : evalOp C M T nid (.pick c' a' b') = some out) : Good P C φ M w nid (execOp ρ o) out := by
  simp only [evalOp] at he
  split at he
  · rename_i t ht
    cases he
    have h1 := hT c c' hc
    rw [ht] at h1
    have h2 := bool_inv h1
    refine good_pure h (v' := if t then ρ a else ρ b) ?_ ?_
    · simp only [execOp, ho, h2, asBool]
      cases t <;> simp
    · cases t
      · exact hT b b' hb
      · exact hT a a' ha
  · cases he

theorem good_nilCheck {x : Operand} {y : IOpd} (ho : o.op = .nilCheck x) (hx : opd x = some y) (hT : Opds φ T ρ) (h : R P C φ M w)
    (he : evalOp C M T nid (.nilCheck y) = some out) : Good P C φ M w nid (execOp ρ o) out := by
  simp only [evalOp] at he
  have h1 := hT x y hx
  split at he
  · rename_i a ha
    cases he
    rw [ha] at h1
    obtain ⟨a', h2, h3⟩ := ptr_inv h1
    exact good_pure h (by simp [execOp, ho, h2]) (.ptr _ _ h3)
  · rename_i f a b hf
    cases he
    rw [hf] at h1
    generalize hr : ρ x = r at h1
    cases h1 with
    | func _ _ _ a' b' h2 h3 =>
      refine good_pure h (v' := .func (.func f) a' b') ?_ (.func _ _ _ _ _ h2 h3)
      simp [execOp, ho, hr]
  · cases he

theorem good_extract {x : Operand} {y : IOpd} {k : Nat} (ho : o.op = .extract x k) (hx : opd x = some y) (hT : Opds φ T ρ) (h : R P C φ M w)
    (he : evalOp C M T nid (.extract k y) = some out) : Good P C φ M w nid (execOp ρ o) out := by
  simp only [evalOp] at he
  have h1 := hT x y hx
  split at he
  · rename_i vs hvs
    split at he
    · rename_i h2
      cases hk : vs.toList[k]? with
      | none => rw [hk] at he; cases he
      | some v =>
        rw [hk] at he
        cases he
        rw [hvs] at h1
        generalize hr : ρ x = r at h1
        cases h1 with
        | undef => simp at h2
        | absent => simp at h2
        | tup _ vs' _ hh =>
          obtain ⟨v', p, q⟩ := hh.get hk
          refine good_pure h (v' := v') ?_ q
          simp only [execOp, ho, hr, Instr.extract]
          simp at p
          simp [p]
        | over => simp at h2
    · split at he
      · rename_i hl
        cases he
        rw [hvs] at h1
        generalize hr : ρ x = r at h1
        cases h1 with
        | undef => simp at hl
        | absent => simp at hl
        | tup _ _ h2 _ => rw [← Array.length_toList, hl] at h2; simp at h2
        | over => exact good_pure h (v' := .bool false) (by simp [execOp, ho, hr, Instr.extract]) (.bool _)
      · cases he
  · cases he

theorem good_num {op : BinOp} {t yt : TypeId} {x y : Operand} {x' y' : IOpd} (ho : o.op = .binOp op t x y yt) (hx : opd x = some x') (hy : opd y = some y') (hT : Opds φ T ρ) (h : R P C φ M w)
    (he : evalOp C M T nid (.bin .num op x' y') = some out) : Good P C φ M w nid (execOp ρ o) out := by
  have h1 := hT x x' hx
  have h2 := hT y y' hy
  simp only [evalOp, binA] at he
  split at he
  · rename_i k a k' b hxa hyb
    rw [hxa] at h1
    rw [hyb] at h2
    have e1 := int_inv h1
    have e2 := int_inv h2
    have hg : eqGuard op t x y (.int k a) (.int k' b) = pure () := eqGuard_at_int ..
    have key : ∀ v, (binOp op t (.int k a) (.int k' b)).run P w = .ok v w → VRel φ out.v v → out = { v := out.v } → Good P C φ M w nid (execOp ρ o) out := by
      intro v hv hr hout
      rw [hout]
      refine good_pure h (v' := v) ?_ hr
      simp [execOp, ho, e1, e2, hg, hv]
    cases op with
    | shl =>
      simp only at he
      split at he
      · cases he
      · rename_i hb
        cases he
        refine key _ ?_ (.int _ _) rfl
        simp [binOp, Op.shift, hb]
    | shr =>
      simp only at he
      split at he
      · cases he
      · rename_i hb
        cases he
        refine key _ ?_ (.int _ _) rfl
        simp [binOp, Op.shift, hb]
    | quo =>
      simp only at he
      split at he
      case isFalse => cases he
      rename_i hk
      subst hk
      simp only [binNum] at he
      split at he
      · cases he
      · rename_i hb
        cases he
        refine key _ ?_ (.int _ _) rfl
        simp [binOp, Op.intDiv, hb]
    | rem =>
      simp only at he
      split at he
      case isFalse => cases he
      rename_i hk
      subst hk
      simp only [binNum] at he
      split at he
      · cases he
      · rename_i hb
        cases he
        refine key _ ?_ (.int _ _) rfl
        simp [binOp, Op.intDiv, hb]
    | _ =>
      simp only at he
      split at he
      case isFalse => cases he
      rename_i hk
      subst hk
      simp only [binNum, cmpNum, Option.map_some] at he
      cases he
      refine key _ ?_ (by constructor) rfl
      simp [binOp, Op.intArith, Op.intBits, Op.intCmp]
  · cases he

theorem bytesEq_iff : ∀ (a b : List UInt8), bytesEq a b = true ↔ a = b
  | [], [] => by simp [bytesEq]
  | [], _ :: _ => by simp [bytesEq]
  | _ :: _, [] => by simp [bytesEq]
  | x :: a, y :: b => by
    have ih := bytesEq_iff a b
    constructor
    · intro h
      simp only [bytesEq, Bool.and_eq_true] at h
      have h1 := Nat.eq_of_beq_eq_true h.1
      rw [ih.1 h.2, UInt8.toNat_inj.1 h1]
    · intro h
      cases h
      simp only [bytesEq, Bool.and_eq_true]
      exact ⟨Nat.beq_refl _, ih.2 rfl⟩

theorem bytesEq_of (a b : ByteArray) : bytesEq a.data.toList b.data.toList = (a.toList == b.toList) := by
  rw [Bool.eq_iff_iff, bytesEq_iff]
  simp [ByteArray.toList_eq]


theorem equalIn_bool (n : Nat) {t : TypeId} (ht : P.underlying t = some .bool) (a b : Bool) (w : World) : (Op.equalIn (n + 1) t (.bool a) (.bool b)).run P w = .ok (a == b) w := by
  simp [Op.equalIn, run_underlying ht]
theorem equal_bool {t : TypeId} (ht : P.underlying t = some .bool) (a b : Bool) (w : World) : (Op.equal t (.bool a) (.bool b)).run P w = .ok (a == b) w := equalIn_bool 9999 ht a b w

theorem good_boo {op : BinOp} {t yt : TypeId} {x y : Operand} {x' y' : IOpd} (ho : o.op = .binOp op t x y yt) (ht : P.underlying t = some .bool) (hx : opd x = some x') (hy : opd y = some y') (hT : Opds φ T ρ) (h : R P C φ M w)
    (he : evalOp C M T nid (.bin .boo op x' y') = some out) : Good P C φ M w nid (execOp ρ o) out := by
  have h1 := hT x x' hx
  have h2 := hT y y' hy
  simp only [evalOp, binA] at he
  split at he
  · rename_i a b hxa hyb
    cases he
    rw [hxa] at h1
    rw [hyb] at h2
    refine good_pure h (v' := .bool (a == b)) ?_ (.bool _)
    have hg : eqGuard .eql t x y (.bool a) (.bool b) = pure () := eqGuard_at_bool ..
    simp [execOp, ho, bool_inv h1, bool_inv h2, hg, binOp, equal_bool ht]
  · rename_i a b hxa hyb
    cases he
    rw [hxa] at h1
    rw [hyb] at h2
    refine good_pure h (v' := .bool (!(a == b))) ?_ (.bool _)
    have hg : eqGuard .neq t x y (.bool a) (.bool b) = pure () := eqGuard_at_bool ..
    simp [execOp, ho, bool_inv h1, bool_inv h2, hg, binOp, equal_bool ht]
  · cases he

theorem good_str {op : BinOp} {t yt : TypeId} {x y : Operand} {x' y' : IOpd} (ho : o.op = .binOp op t x y yt) (hx : opd x = some x') (hy : opd y = some y') (hT : Opds φ T ρ) (h : R P C φ M w)
    (he : evalOp C M T nid (.bin .str op x' y') = some out) : Good P C φ M w nid (execOp ρ o) out := by
  have h1 := hT x x' hx
  have h2 := hT y y' hy
  simp only [evalOp, binA] at he
  split at he
  · rename_i a b hxa hyb
    cases he
    rw [hxa] at h1
    rw [hyb] at h2
    refine good_pure h (v' := .bool (a.toList == b.toList)) ?_ (by rw [bytesEq_of]; exact .bool _)
    have hg : eqGuard .eql t x y (.string a) (.string b) = pure () := eqGuard_at_string ..
    simp [execOp, ho, str_inv h1, str_inv h2, hg, binOp, Op.stringOp]
  · rename_i a b hxa hyb
    cases he
    rw [hxa] at h1
    rw [hyb] at h2
    refine good_pure h (v' := .bool (!(a.toList == b.toList))) ?_ (by rw [bytesEq_of]; exact .bool _)
    have hg : eqGuard .neq t x y (.string a) (.string b) = pure () := eqGuard_at_string ..
    simp [execOp, ho, str_inv h1, str_inv h2, hg, binOp, Op.stringOp]
  · rename_i a b hxa hyb
    split at he
    case isFalse => cases he
    rename_i hsz
    cases he
    rw [hxa] at h1
    rw [hyb] at h2
    have hsz' : ¬ (9223372036854775807 < (a.size : Int) + (b.size : Int)) := by
      have h1 := Nat.le_of_ble_eq_true hsz
      simp at h1
      omega
    have hab : (⟨(a.data.toList ++ b.data.toList).toArray⟩ : ByteArray) = a ++ b := by
      apply ByteArray.ext
      apply Array.ext'
      simp
    refine good_pure h (v' := .string (a ++ b)) ?_ (by rw [hab]; exact .string _)
    have hg : eqGuard .add t x y (.string a) (.string b) = pure () := eqGuard_at_string ..
    simp [execOp, ho, str_inv h1, str_inv h2, hg, binOp, Op.stringOp, hsz']
  · cases he

theorem isNil_rel {k : BK} {v v' : Value} {b : Bool} (h : VRel φ v v') (hb : isNil k v = some b) : isNil k v' = some b := by
  cases h <;> cases k <;> simp_all [isNil]

/-- A type whose values can be held against nil. -/
def RefDesc : BK → TypeDesc → Prop
  | .ptr, .pointer _ | .slc, .slice _ | .mp, .map _ _ | .fn, .func _ _ _ | .ifc, .interface _ => True
  | _, _ => False

theorem equalIn_nil (n : Nat) {k : BK} {t : TypeId} {d : TypeDesc} (ht : P.underlying t = some d) (hd : RefDesc k d) {x y : Value} {b c : Bool} (hx : isNil k x = some b) (hy : isNil k y = some c) (hbc : b = true ∨ c = true) (w : World) :
    (Op.equalIn (n + 1) t x y).run P w = .ok (b && c) w := by
  simp only [Op.equalIn, Sem.run_bind, run_underlying ht, Result.andThen_ok]
  cases k <;> cases d <;> simp only [RefDesc] at hd
  · cases x <;> simp only [isNil, reduceCtorEq, Option.some.injEq] at hx
    cases y <;> simp only [isNil, reduceCtorEq, Option.some.injEq] at hy
    rename_i a1 a2
    subst hx hy
    cases a1 <;> cases a2 <;> simp_all
  · cases x <;> simp only [isNil, reduceCtorEq, Option.some.injEq] at hx
    cases y <;> simp only [isNil, reduceCtorEq, Option.some.injEq] at hy
    rename_i a1 _ _ a2 _ _
    subst hx hy
    cases a1 <;> cases a2 <;> simp_all
  · cases x <;> simp only [isNil, reduceCtorEq, Option.some.injEq] at hx
    cases y <;> simp only [isNil, reduceCtorEq, Option.some.injEq] at hy
    rename_i a1 a2
    subst hx hy
    cases a1 <;> cases a2 <;> simp_all
  · cases x <;> simp only [isNil, reduceCtorEq, Option.some.injEq] at hx <;> cases y <;> simp only [isNil, reduceCtorEq, Option.some.injEq] at hy <;> subst hx hy <;> simp_all
  · cases x <;> simp only [isNil, reduceCtorEq, Option.some.injEq] at hx <;> cases y <;> simp only [isNil, reduceCtorEq, Option.some.injEq] at hy <;> subst hx hy <;> simp_all

theorem equal_nil {k : BK} {t : TypeId} {d : TypeDesc} (ht : P.underlying t = some d) (hd : RefDesc k d) {x y : Value} {b c : Bool} (hx : isNil k x = some b) (hy : isNil k y = some c) (hbc : b = true ∨ c = true) (w : World) :
    (Op.equal t x y).run P w = .ok (b && c) w := equalIn_nil 9999 ht hd hx hy hbc w

theorem binA_ref {k : BK} {d : TypeDesc} (hd : RefDesc k d) (op : BinOp) (x y : Value) :
    binA k op x y = refA op (isNil k x) (isNil k y) ∨ binA k op x y = none ∨
      (k = .ptr ∧ ∃ a b, x = .pointer (some a) ∧ y = .pointer (some b) ∧ a.block = b.block ∧ ver a = ver b ∧ a.off = b.off ∧
        ((op = .eql ∧ binA k op x y = some (.bool true)) ∨ (op = .neq ∧ binA k op x y = some (.bool false)))) := by
  cases k <;> simp only [RefDesc] at hd
  case ptr =>
    unfold binA
    dsimp only
    split
    · rename_i a b
      split
      · rename_i hh
        exact .inr (.inr ⟨rfl, a, b, rfl, rfl, hh.1, hh.2.1, hh.2.2, .inl ⟨rfl, rfl⟩⟩)
      · exact .inr (.inl rfl)
    · rename_i a b
      split
      · rename_i hh
        exact .inr (.inr ⟨rfl, a, b, rfl, rfl, hh.1, hh.2.1, hh.2.2, .inr ⟨rfl, rfl⟩⟩)
      · exact .inr (.inl rfl)
    · exact .inl rfl
  all_goals exact .inl rfl

theorem run_eql_ptr_same (w : World) {tp te : TypeId} {j : TypeInfo} (a : Addr) (hp : P.underlying tp = some (.pointer te)) (hte : P.info? te = some j) :
    (binOp .eql tp (.pointer (some a)) (.pointer (some a))).run P w = .ok (.bool true) w := by
  have h : ∀ d : Nat, (Op.equalIn (d + 1) tp (.pointer (some a)) (.pointer (some a))).run P w = .ok true w := fun d => by
    simp [Op.equalIn, run_underlying hp, sizeOf, typeInfo, hte, run_sameAddr_same]
  simp only [binOp]
  simp [Op.equal, Op.maxDepth, h 9999]

theorem good_ref {k : BK} {op : BinOp} {t yt : TypeId} {d : TypeDesc} {x y : Operand} {x' y' : IOpd} (ho : o.op = .binOp op t x y yt) (ht : P.underlying t = some d) (hd : RefDesc k d) (hptr : k = .ptr → ∀ e, d = .pointer e → ∃ j, P.info? e = some j) (hc : k = .ifc → isConstO x = true ∨ isConstO y = true)
    (hx : opd x = some x') (hy : opd y = some y') (hT : Opds φ T ρ) (h : R P C φ M w)
    (he : evalOp C M T nid (.bin k op x' y') = some out) : Good P C φ M w nid (execOp ρ o) out := by
  have h1 := hT x x' hx
  have h2 := hT y y' hy
  rcases binA_ref hd op (x'.val T) (y'.val T) with hk | hk | ⟨rfl, a, b, hxa, hyb, b1, b2, b3, hk⟩
  rotate_left
  · simp [evalOp, hk] at he
  · rw [hxa] at h1
    rw [hyb] at h2
    obtain ⟨a1, e1, l1, g1, rfl⟩ := ptr_inv h1
    obtain ⟨a2, e2, l2, g2, rfl⟩ := ptr_inv h2
    rw [b1, b2, g2] at g1
    cases g1
    rw [← b3] at e2
    cases d <;> simp only [RefDesc] at hd
    rename_i te
    obtain ⟨j, hj⟩ := hptr rfl te rfl
    have hg : eqGuard op t x y (.pointer (some ⟨l1.cb, a.off + l1.sh, none⟩)) (.pointer (some ⟨l1.cb, a.off + l1.sh, none⟩)) = pure () := eqGuard_at_pointer ..
    rcases hk with ⟨rfl, hk⟩ | ⟨rfl, hk⟩
    · simp [evalOp, hk] at he
      subst he
      refine good_pure h (v' := .bool true) ?_ (.bool _)
      simp [execOp, ho, e1, e2, hg, run_eql_ptr_same w _ ht hj]
    · simp [evalOp, hk] at he
      subst he
      refine good_pure h (v' := .bool false) ?_ (.bool _)
      simp [execOp, ho, e1, e2, hg, Lib.run_neq_ptr_same w _ ht hj]
  simp only [evalOp, hk, refA] at he
  have hg : ∀ b c, isNil k (ρ x) = some b → isNil k (ρ y) = some c → (eqGuard op t x y (ρ x) (ρ y)).run P w = .ok () w := by
    intro b c hb hc'
    generalize ρ x = vx at hb
    generalize ρ y = vy at hc'
    cases k <;> simp only [RefDesc] at hd
    all_goals (cases vx <;> simp only [isNil, reduceCtorEq] at hb)
    · rw [eqGuard_at_pointer]; rfl
    · rw [eqGuard_at_slice]; rfl
    · rw [eqGuard_at_map]; rfl
    · rw [eqGuard_at_func]; rfl
    · rw [eqGuard_at_nilFunc]; rfl
    · rw [eqGuard_at_iface]; rfl
    cases vy <;> simp only [isNil, reduceCtorEq] at hc'
    · rw [eqGuard_nil_iface]; rfl
    · rcases hc rfl with hh | hh
      · cases x <;> simp only [isConstO, Bool.false_eq_true] at hh
        rw [eqGuard_nil_constL]; rfl
      · cases y <;> simp only [isConstO, Bool.false_eq_true] at hh
        rw [eqGuard_nil_constR]; rfl
  have run : ∀ b c, isNil k (ρ x) = some b → isNil k (ρ y) = some c → (b = true ∨ c = true) → (op = .eql → (binOp op t (ρ x) (ρ y)).run P w = .ok (.bool (b && c)) w) ∧ (op = .neq → (binOp op t (ρ x) (ρ y)).run P w = .ok (.bool (!(b && c))) w) := by
    intro b c hb hc' hbc
    have heq := equal_nil ht hd hb hc' hbc w
    constructor <;> intro hop <;> subst hop
    all_goals
      generalize ρ x = vx at hb heq
      generalize ρ y = vy at hc' heq
      cases k <;> simp only [RefDesc] at hd <;> cases vx <;> simp only [isNil, reduceCtorEq] at hb <;> cases vy <;> simp only [isNil, reduceCtorEq] at hc' <;> simp [binOp, heq]
  have fin : ∀ r : Bool, (binOp op t (ρ x) (ρ y)).run P w = .ok (.bool r) w → (∃ b c, isNil k (ρ x) = some b ∧ isNil k (ρ y) = some c) → out = { v := .bool r } → Good P C φ M w nid (execOp ρ o) out := by
    intro r hr ⟨b, c, hb, hc'⟩ hout
    subst hout
    refine good_pure h (v' := .bool r) ?_ (.bool _)
    simp [execOp, ho, hg b c hb hc', hr]
  split at he
  · rename_i b hxa hyb
    cases he
    have a1 := isNil_rel h1 hxa
    have a2 := isNil_rel h2 hyb
    exact fin b (by simpa using (run _ _ a1 a2 (.inl rfl)).1 rfl) ⟨_, _, a1, a2⟩ rfl
  · rename_i hxa hyb
    cases he
    have a1 := isNil_rel h1 hxa
    have a2 := isNil_rel h2 hyb
    exact fin false (by simpa using (run _ _ a1 a2 (.inr rfl)).1 rfl) ⟨_, _, a1, a2⟩ rfl
  · rename_i b hxa hyb
    cases he
    have a1 := isNil_rel h1 hxa
    have a2 := isNil_rel h2 hyb
    exact fin (!b) (by simpa using (run _ _ a1 a2 (.inl rfl)).2 rfl) ⟨_, _, a1, a2⟩ rfl
  · rename_i hxa hyb
    cases he
    have a1 := isNil_rel h1 hxa
    have a2 := isNil_rel h2 hyb
    exact fin true (by simpa using (run _ _ a1 a2 (.inr rfl)).2 rfl) ⟨_, _, a1, a2⟩ rfl
  · cases he
end
end Go.Ak

namespace Go.Ak
section
variable {P : Program} {C : Ctx} {φ : Phi} {M : Nat → Option AObj} {w : World} {T : Nat → Value} {nid : Nat} {ρ : Operand → Value} {out : AOut} {o : Oper}

theorem good_not {t : TypeId} {x : Operand} {y : IOpd} (ho : o.op = .unOp .not t x) (hx : opd x = some y) (hT : Opds φ T ρ) (h : R P C φ M w)
    (he : evalOp C M T nid (.not y) = some out) : Good P C φ M w nid (execOp ρ o) out := by
  simp only [evalOp] at he
  have h1 := hT x y hx
  split at he
  · rename_i b hb
    cases he
    rw [hb] at h1
    exact good_pure h (v' := .bool (!b)) (by simp [execOp, ho, bool_inv h1, Op.unary]) (.bool _)
  · cases he

theorem good_neg {t : TypeId} {x : Operand} {y : IOpd} (ho : o.op = .unOp .neg t x) (hx : opd x = some y) (hT : Opds φ T ρ) (h : R P C φ M w)
    (he : evalOp C M T nid (.neg y) = some out) : Good P C φ M w nid (execOp ρ o) out := by
  simp only [evalOp] at he
  have h1 := hT x y hx
  split at he
  · rename_i k n hb
    cases he
    rw [hb] at h1
    exact good_pure h (v' := .int k (k.wrap (0 - n))) (by simp [execOp, ho, int_inv h1, Op.unary, Op.intArith]) (.int _ _)
  · cases he

theorem good_conv {s d : TypeId} {k ks : IntKind} {x : Operand} {y : IOpd} (ho : o.op = .convert s d x) (hs : P.underlying s = some (.int ks)) (hd : P.underlying d = some (.int k)) (hx : opd x = some y) (hT : Opds φ T ρ) (h : R P C φ M w)
    (he : evalOp C M T nid (.conv k y) = some out) : Good P C φ M w nid (execOp ρ o) out := by
  simp only [evalOp] at he
  have h1 := hT x y hx
  split at he
  · rename_i k0 n hb
    cases he
    rw [hb] at h1
    exact good_pure h (v' := .int k (k.wrap n)) (by simp [execOp, ho, int_inv h1, convert, run_underlying hs, run_underlying hd, Conv.intToInt]) (.int _ _)
  · cases he

theorem good_faddr {s : TypeId} {fs : Array Field} {g : Field} {f n : Nat} {x : Operand} {y : IOpd} (ho : o.op = .fieldAddr s x f) (hs : P.underlying s = some (.struct fs)) (hf : fs[f]? = some g) (hn : sizeT P g.type = some n) (h0 : n ≠ 0) (hx : opd x = some y)
    (hT : Opds φ T ρ) (h : R P C φ M w) (he : evalOp C M T nid (.faddr g.offset y) = some out) : Good P C φ M w nid (execOp ρ o) out := by
  simp only [evalOp] at he
  have h1 := hT x y hx
  split at he
  · rename_i a ha
    cases he
    rw [asCell_inv ha] at h1
    obtain ⟨a', h2, h3⟩ := ptr_inv h1
    refine good_pure h (v' := .pointer (some (a'.add g.offset))) ?_ (.ptr _ _ (aadd_rel h3 _))
    simp only [sizeT, Option.map_eq_some_iff] at hn
    obtain ⟨i, hi, hin⟩ := hn
    simp [execOp, ho, h2, Instr.fieldAt, run_underlying hs, hf, Instr.sureAddr, fieldPlace, sizeOf, typeInfo, hi, hin, h0]
  · cases he

theorem run_isAgg {t : TypeId} {b : Bool} (h : isAggT P t = some b) (w : World) : (isAgg t).run P w = .ok b w := by
  unfold isAggT at h
  cases hd : P.underlying t with
  | none => rw [hd] at h; cases h
  | some d =>
    rw [hd] at h
    cases d <;> simp only [Option.some.injEq] at h <;> subst h <;> simp [isAgg, run_underlying hd]

theorem run_sizeOf {t : TypeId} {n : Nat} (h : sizeT P t = some n) (w : World) : (sizeOf t).run P w = .ok n w := by
  simp only [sizeT, Option.map_eq_some_iff] at h
  obtain ⟨i, hi, hin⟩ := h
  simp [sizeOf, typeInfo, hi, hin]

/-- A part of a struct or an array. -/
theorem part_rel {t : TypeId} {n off : Nat} {b : Bool} {cs cs' : Array Value} (hn : sizeT P t = some n) (hb : isAggT P t = some b) (hcs : VsRel φ cs.toList cs'.toList) {v : Value}
    (hv : (if b then some (.agg (cs.extract off (off + n))) else cs[off]?) = some v) (w : World) : ∃ v', (part t cs' off).run P w = .ok v' w ∧ VRel φ v v' := by
  cases b with
  | true =>
    simp only [if_true, Option.some.injEq] at hv
    subst hv
    refine ⟨.agg (cs'.extract off (off + n)), ?_, .agg _ _ ?_⟩
    · simp [part, run_isAgg hb, run_sizeOf hn]
    · simp only [Array.toList_extract, List.extract_eq_take_drop]
      exact (hcs.drop off).take _
  | false =>
    simp only [Bool.false_eq_true, if_false] at hv
    obtain ⟨v', p, q⟩ := hcs.get (i := off) (v := v) (by simpa using hv)
    refine ⟨v', ?_, q⟩
    simp at p
    simp [part, run_isAgg hb, p]

theorem good_field {s : TypeId} {fs : Array Field} {g : Field} {f n : Nat} {b : Bool} {x : Operand} {y : IOpd} (ho : o.op = .field s x f) (hs : P.underlying s = some (.struct fs)) (hf : fs[f]? = some g) (hn : sizeT P g.type = some n) (hb : isAggT P g.type = some b) (hx : opd x = some y)
    (hT : Opds φ T ρ) (h : R P C φ M w) (he : evalOp C M T nid (.field g.offset n b y) = some out) : Good P C φ M w nid (execOp ρ o) out := by
  simp only [evalOp] at he
  have h1 := hT x y hx
  split at he
  · rename_i cs hcs
    rw [hcs] at h1
    obtain ⟨cs', h2, h3⟩ := agg_inv h1
    have key : ∃ v, (if b then some (.agg (cs.extract g.offset (g.offset + n))) else cs[g.offset]?) = some v ∧ out = { v } := by
      cases b with
      | true => simp at he; exact ⟨_, rfl, he.symm⟩
      | false =>
        simp only [Bool.false_eq_true, if_false, Option.map_eq_some_iff] at he
        obtain ⟨v, hv, rfl⟩ := he
        exact ⟨v, by simpa using hv, rfl⟩
    obtain ⟨v, hv, rfl⟩ := key
    obtain ⟨v', p, q⟩ := part_rel hn hb h3 hv w
    exact good_pure h (v' := v') (by simp [execOp, ho, h2, Instr.field, run_underlying hs, hf, asAgg, p]) q
  · cases he

theorem good_idxS {t e : TypeId} {n : Nat} {x i : Operand} {y j : IOpd} (ho : o.op = .indexAddr t x i) (ht : P.underlying t = some (.slice e)) (hn : sizeT P e = some n) (hx : opd x = some y) (hi : opd i = some j)
    (hT : Opds φ T ρ) (h : R P C φ M w) (he : evalOp C M T nid (.idxS n y j) = some out) : Good P C φ M w nid (execOp ρ o) out := by
  simp only [evalOp] at he
  have h1 := hT x y hx
  have h2 := hT i j hi
  split at he
  · rename_i a len cap k ix ha hb
    split at he
    · rename_i hlt
      cases he
      rw [ha] at h1
      rw [hb] at h2
      obtain ⟨a', c', h3, _, h4⟩ := sl_inv h1
      have h4 := h4.resolve_right (by omega)
      refine good_pure h (v' := .pointer (some (a'.add (ix.toNat * n)))) ?_ (.ptr _ _ (aadd_rel h4 _))
      simp [execOp, ho, h3, int_inv h2, Instr.indexAt, asIntOf, run_underlying ht, hlt, run_sizeOf hn]
    · cases he
  · cases he

theorem good_idxA {t e : TypeId} {len n : Nat} {x i : Operand} {y j : IOpd} (ho : o.op = .indexAddr t x i) (ht : P.underlying t = some (.array len e)) (hn : sizeT P e = some n) (hx : opd x = some y) (hi : opd i = some j)
    (hT : Opds φ T ρ) (h : R P C φ M w) (he : evalOp C M T nid (.idxA len n y j) = some out) : Good P C φ M w nid (execOp ρ o) out := by
  simp only [evalOp] at he
  have h1 := hT x y hx
  have h2 := hT i j hi
  split at he
  · rename_i a k ix ha hb
    split at he
    · rename_i hlt
      cases he
      rw [asCell_inv ha] at h1
      rw [hb] at h2
      obtain ⟨a', h3, h4⟩ := ptr_inv h1
      refine good_pure h (v' := .pointer (some (a'.add (ix.toNat * n)))) ?_ (.ptr _ _ (aadd_rel h4 _))
      simp [execOp, ho, h3, int_inv h2, Instr.indexAt, asIntOf, run_underlying ht, Instr.sureAddr, hlt, run_sizeOf hn]
    · cases he
  · cases he

theorem good_idxV {t e : TypeId} {len n : Nat} {b : Bool} {x i : Operand} {y j : IOpd} (ho : o.op = .index t x i) (ht : P.underlying t = some (.array len e)) (hn : sizeT P e = some n) (hb : isAggT P e = some b) (hx : opd x = some y) (hi : opd i = some j)
    (hT : Opds φ T ρ) (h : R P C φ M w) (he : evalOp C M T nid (.idxV len n b y j) = some out) : Good P C φ M w nid (execOp ρ o) out := by
  simp only [evalOp] at he
  have h1 := hT x y hx
  have h2 := hT i j hi
  split at he
  · rename_i cs k ix hcs hix
    split at he
    · rename_i hlt
      rw [hcs] at h1
      rw [hix] at h2
      obtain ⟨cs', h3, h4⟩ := agg_inv h1
      have key : ∃ v, (if b then some (.agg (cs.extract (ix.toNat * n) (ix.toNat * n + n))) else cs[ix.toNat * n]?) = some v ∧ out = { v } := by
        cases b with
        | true => simp at he; exact ⟨_, rfl, he.symm⟩
        | false =>
          simp only [Bool.false_eq_true, if_false, Option.map_eq_some_iff] at he
          obtain ⟨v, hv, rfl⟩ := he
          exact ⟨v, by simpa using hv, rfl⟩
      obtain ⟨v, hv, rfl⟩ := key
      obtain ⟨v', p, q⟩ := part_rel hn hb h4 hv w
      exact good_pure h (v' := v') (by simp [execOp, ho, h3, int_inv h2, Instr.index, asIntOf, run_underlying ht, hlt, run_sizeOf hn, p]) q
    · cases he
  · cases he

theorem good_idxStr {t : TypeId} {x i : Operand} {y j : IOpd} (ho : o.op = .index t x i) (ht : P.underlying t = some .string) (hx : opd x = some y) (hi : opd i = some j)
    (hT : Opds φ T ρ) (h : R P C φ M w) (he : evalOp C M T nid (.idxStr y j) = some out) : Good P C φ M w nid (execOp ρ o) out := by
  simp only [evalOp] at he
  have h1 := hT x y hx
  have h2 := hT i j hi
  split at he
  · rename_i s k ix hs hix
    split at he
    · rename_i h0
      rw [hs] at h1
      rw [hix] at h2
      simp only [Option.map_eq_some_iff] at he
      obtain ⟨c, hc, rfl⟩ := he
      refine good_pure h (v' := .int .u8 c.toNat) ?_ (.int _ _)
      have hc' : s[ix.toNat]? = some c := by
        have hlt : ix.toNat < s.data.toList.length := (List.getElem?_eq_some_iff.1 hc).1
        have hsz : ix.toNat < s.size := by simpa using hlt
        rw [getElem?_pos s ix.toNat hsz]
        rw [List.getElem?_eq_getElem hlt] at hc
        simp at hc
        exact congrArg some hc
      simp [execOp, ho, str_inv h1, int_inv h2, Instr.index, asIntOf, run_underlying ht, h0, hc']
    · cases he
  · cases he

theorem good_lenC {s : Sem Next} {n : Nat} (hs : s.run P w = .ok (.value (.int .i64 n)) w) (h : R P C φ M w) (he : evalOp C M T nid (.lenC n) = some out) : Good P C φ M w nid s out := by
  simp only [evalOp] at he
  cases he
  exact good_pure h hs (.int _ _)

/-- A bound of a slice expression. -/
theorem bnd_run {x : Option Operand} {y : Option IOpd} (hx : optOpd x = some y) (hT : Opds φ T ρ) {dflt lim n : Nat} (hb : bnd T y dflt lim = some n) :
    (x = none ∧ n = dflt) ∨ ∃ x0, x = some x0 ∧ n ≤ lim ∧ ∃ k i, ρ x0 = .int k i ∧ 0 ≤ i ∧ i.toNat = n := by
  cases x with
  | none =>
    simp [optOpd] at hx
    subst hx
    simp [bnd] at hb
    exact .inl ⟨rfl, hb.symm⟩
  | some x0 =>
    simp only [optOpd, Option.map_eq_some_iff] at hx
    obtain ⟨y0, hy0, rfl⟩ := hx
    simp only [bnd] at hb
    split at hb
    · rename_i k i hv
      split at hb
      · rename_i hc
        cases hb
        have h1 := hT x0 y0 hy0
        rw [hv] at h1
        exact .inr ⟨x0, rfl, by omega, k, i, int_inv h1, hc.1, rfl⟩
      · cases hb
    · cases hb

theorem run_sliceBound {k : IntKind} {i : Int} {y : Nat} (code : BoundsCode) (h0 : 0 ≤ i) (h : i.toNat ≤ y) (w : World) : (Instr.sliceBound (.int k i) y code).run P w = .ok i.toNat w := by
  have : i ≤ (y : Int) := by omega
  simp [Instr.sliceBound, asIntOf, h0, this]

/-- The bounds of a slice expression; a capacity that is greater changes nothing but the third. -/
theorem bounds_run {lo hi mx : Option Operand} {lo' hi' mx' : Option IOpd} (h1 : optOpd lo = some lo') (h2 : optOpd hi = some hi') (h3 : optOpd mx = some mx') (hm : (hi.isNone && mx.isSome) = false) (hT : Opds φ T ρ)
    {len cap c' l hh m : Nat} (hc : cap ≤ c') (hb : bounds T len cap lo' hi' mx' = some (l, hh, m)) (isS : Bool) (w : World) :
    l ≤ hh ∧ hh ≤ m ∧ ∃ m', (Instr.sliceBounds isS len c' (lo.map ρ) (hi.map ρ) (mx.map ρ)).run P w = .ok (l, hh, m') w ∧ ((m = cap ∧ m' = c') ∨ (m' = m ∧ m ≤ cap)) := by
  unfold bounds at hb
  split at hb
  · cases hb
  rename_i m0 hm0
  split at hb
  · cases hb
  rename_i h0 hh0
  split at hb
  · cases hb
  rename_i l0 hl0
  split at hb
  case isFalse => cases hb
  rename_i hhm
  cases hb
  rcases bnd_run h3 hT hm0 with ⟨rfl, rfl⟩ | ⟨x3, rfl, hle3, k3, i3, e3, p3, q3⟩
  · -- no maximum
    rcases bnd_run h2 hT hh0 with ⟨rfl, rfl⟩ | ⟨x2, rfl, hle2, k2, i2, e2, p2, q2⟩
    · rcases bnd_run h1 hT hl0 with ⟨rfl, rfl⟩ | ⟨x1, rfl, hle1, k1, i1, e1, p1, q1⟩
      · exact ⟨Nat.zero_le _, hhm, c', by simp [Instr.sliceBounds], .inl ⟨rfl, rfl⟩⟩
      · refine ⟨hle1, hhm, c', ?_, .inl ⟨rfl, rfl⟩⟩
        simp [Instr.sliceBounds, e1, run_sliceBound _ p1 (show i1.toNat ≤ hh by omega), q1]
    · rcases bnd_run h1 hT hl0 with ⟨rfl, rfl⟩ | ⟨x1, rfl, hle1, k1, i1, e1, p1, q1⟩
      · refine ⟨Nat.zero_le _, hhm, c', ?_, .inl ⟨rfl, rfl⟩⟩
        cases isS <;> simp [Instr.sliceBounds, e2, run_sliceBound _ p2 (show i2.toNat ≤ c' by omega), q2]
      · refine ⟨hle1, hhm, c', ?_, .inl ⟨rfl, rfl⟩⟩
        cases isS <;> simp [Instr.sliceBounds, e2, run_sliceBound _ p2 (show i2.toNat ≤ c' by omega), q2, e1, run_sliceBound _ p1 (show i1.toNat ≤ hh by omega), q1]
  · -- a maximum
    rcases bnd_run h2 hT hh0 with ⟨rfl, rfl⟩ | ⟨x2, rfl, hle2, k2, i2, e2, p2, q2⟩
    · simp at hm
    · rcases bnd_run h1 hT hl0 with ⟨rfl, rfl⟩ | ⟨x1, rfl, hle1, k1, i1, e1, p1, q1⟩
      · refine ⟨Nat.zero_le _, hhm, m, ?_, .inr ⟨rfl, hle3⟩⟩
        cases isS <;> simp [Instr.sliceBounds, e3, run_sliceBound _ p3 (show i3.toNat ≤ c' by omega), q3, e2, run_sliceBound _ p2 (show i2.toNat ≤ m by omega), q2]
      · refine ⟨hle1, hhm, m, ?_, .inr ⟨rfl, hle3⟩⟩
        cases isS <;> simp [Instr.sliceBounds, e3, run_sliceBound _ p3 (show i3.toNat ≤ c' by omega), q3, e2, run_sliceBound _ p2 (show i2.toNat ≤ m by omega), q2, e1, run_sliceBound _ p1 (show i1.toNat ≤ hh by omega), q1]

theorem good_sliceA {t e : TypeId} {k n : Nat} {x : Operand} {lo hi mx : Option Operand} {y : IOpd} {lo' hi' mx' : Option IOpd} (ho : o.op = .slice t x lo hi mx) (ht : P.underlying t = some (.array k e)) (hn : sizeT P e = some n) (hx : opd x = some y)
    (h1 : optOpd lo = some lo') (h2 : optOpd hi = some hi') (h3 : optOpd mx = some mx') (hm : (hi.isNone && mx.isSome) = false)
    (hT : Opds φ T ρ) (h : R P C φ M w) (he : evalOp C M T nid (.sliceA k n y lo' hi' mx') = some out) : Good P C φ M w nid (execOp ρ o) out := by
  simp only [evalOp] at he
  have hv := hT x y hx
  split at he
  · rename_i a ha
    simp only [Option.map_eq_some_iff] at he
    obtain ⟨⟨l, hh, m⟩, hb, rfl⟩ := he
    rw [asCell_inv ha] at hv
    obtain ⟨a', e1, e2⟩ := ptr_inv hv
    obtain ⟨g1, g2, m', g3, g4⟩ := bounds_run (P := P) h1 h2 h3 hm hT (Nat.le_refl k) hb false w
    have hmm : m' = m := by omega
    subst hmm
    refine good_pure h (v' := .slice (some (if m' = l then a' else a'.add (l * n))) (hh - l) (m' - l)) ?_ ?_
    · simp [execOp, ho, e1, Instr.sliceAt, run_underlying ht, Instr.sureAddr, g3, run_sizeOf hn]
    · by_cases hml : m' = l
      · rw [if_pos hml]
        have z1 : hh - l = 0 := by omega
        have z2 : m' - l = 0 := by omega
        rw [z1, z2]
        exact .slice0 _ _
      · rw [if_neg hml]
        obtain ⟨loc, p, q⟩ := aadd_rel e2 (l * n)
        rw [q]
        exact .slice _ loc _ _ _ p (.inl rfl)
  · cases he

theorem good_sliceStr {t : TypeId} {x : Operand} {lo hi : Option Operand} {y : IOpd} {lo' hi' : Option IOpd} (ho : o.op = .slice t x lo hi none) (ht : P.underlying t = some .string) (hx : opd x = some y)
    (h1 : optOpd lo = some lo') (h2 : optOpd hi = some hi')
    (hT : Opds φ T ρ) (h : R P C φ M w) (he : evalOp C M T nid (.sliceStr y lo' hi') = some out) : Good P C φ M w nid (execOp ρ o) out := by
  simp only [evalOp] at he
  have hv := hT x y hx
  split at he
  · rename_i s hs
    simp only [Option.map_eq_some_iff] at he
    obtain ⟨⟨l, hh, m⟩, hb, rfl⟩ := he
    rw [hs] at hv
    obtain ⟨g1, g2, m', g3, g4⟩ := bounds_run (P := P) h1 h2 (mx := none) (mx' := none) rfl (by simp) hT (Nat.le_refl s.size) hb false w
    refine good_pure h (v' := .string (s.extract l hh)) ?_ (.string _)
    simp only [Option.map_none] at g3
    simp [execOp, ho, str_inv hv, Instr.sliceAt, Instr.slice, run_underlying ht, g3]
  · cases he

theorem good_sliceS {t e : TypeId} {n : Nat} {x : Operand} {lo hi mx : Option Operand} {y : IOpd} {lo' hi' mx' : Option IOpd} (ho : o.op = .slice t x lo hi mx) (ht : P.underlying t = some (.slice e)) (hn : sizeT P e = some n) (hx : opd x = some y)
    (h1 : optOpd lo = some lo') (h2 : optOpd hi = some hi') (h3 : optOpd mx = some mx') (hm : (hi.isNone && mx.isSome) = false)
    (hT : Opds φ T ρ) (h : R P C φ M w) (he : evalOp C M T nid (.sliceS n y lo' hi' mx') = some out) : Good P C φ M w nid (execOp ρ o) out := by
  simp only [evalOp] at he
  have hv := hT x y hx
  split at he
  · rename_i len cap hy
    split at he
    case isFalse => cases he
    rename_i h0
    obtain ⟨rfl, rfl⟩ := h0
    simp only [Option.map_eq_some_iff] at he
    obtain ⟨⟨l, hh, m⟩, hb, rfl⟩ := he
    rw [hy] at hv
    have e1 := nilsl_inv hv
    obtain ⟨g1, g2, m', g3, g4⟩ := bounds_run (P := P) h1 h2 h3 hm hT (Nat.le_refl 0) hb true w
    refine good_pure h (v' := .slice none 0 0) ?_ .sliceNil
    have z : m' = 0 ∧ l = 0 ∧ hh = 0 := by omega
    obtain ⟨rfl, rfl, rfl⟩ := z
    simp [execOp, ho, e1, Instr.sliceAt, Instr.slice, run_underlying ht, g3, run_sizeOf hn]
  · rename_i a len cap hy
    split at he
    · cases he
    rename_i l hh m hb
    rw [hy] at hv
    have hout : out = { v := .slice (some (aadd a (l * n))) (hh - l) (m - l), rd := [a.block] } ∧
        (∀ loc, φ a.block (ver a) = some loc → loc.esz = 0 ∨ loc.esz = n) := by
      split at he
      · rename_i hM
        split at he
        case isFalse => cases he
        rename_i hsp
        cases he
        refine ⟨rfl, fun loc hl => ?_⟩
        obtain ⟨hlt, hOld, _⟩ := h.obj _ _ hM
        have hva : ver a = 0 := by unfold ver; cases hs : a.spot <;> simp_all
        rw [hva, hOld _ hlt] at hl
        cases hl
        exact .inl rfl
      · rename_i vs hM
        split at he
        · rename_i v hvv
          split at he
          · rename_i hesz
            cases he
            refine ⟨rfl, fun loc hl => ?_⟩
            obtain ⟨l', cc, tt, q1, q2, q3, q4, q5⟩ := (h.obj _ _ hM).1 _ v hvv
            rw [hl] at q1
            cases q1
            omega
          · cases he
        · cases he
      · cases he
    obtain ⟨rfl, hez⟩ := hout
    generalize hr : ρ x = r at hv
    cases hv with
    | slice0 _ a' =>
      obtain ⟨g1, g2, m', g3, g4⟩ := bounds_run (P := P) h1 h2 h3 hm hT (Nat.le_refl 0) hb true w
      have z : m' = 0 ∧ l = 0 ∧ hh = 0 ∧ m = 0 := by omega
      obtain ⟨rfl, rfl, rfl, rfl⟩ := z
      refine good_rd h (v' := .slice (some a') 0 0) ?_ (.slice0 _ _)
      simp [execOp, ho, hr, Instr.sliceAt, Instr.slice, run_underlying ht, g3, run_sizeOf hn]
    | slice _ loc _ _ c' hl hc =>
      have hcc : cap ≤ c' := by rcases hc with rfl | ⟨_, h, _⟩ <;> omega
      obtain ⟨g1, g2, m', g3, g4⟩ := bounds_run (P := P) h1 h2 h3 hm hT hcc hb true w
      refine good_rd h (v' := .slice (some (if m' = l then ⟨loc.cb, a.off + loc.sh, none⟩ else (⟨loc.cb, a.off + loc.sh, none⟩ : Addr).add (l * n))) (hh - l) (m' - l)) ?_ ?_
      · have : (if m' = l then some (⟨loc.cb, a.off + loc.sh, none⟩ : Addr) else some ((⟨loc.cb, a.off + loc.sh, none⟩ : Addr).add (l * n))) = some (if m' = l then ⟨loc.cb, a.off + loc.sh, none⟩ else (⟨loc.cb, a.off + loc.sh, none⟩ : Addr).add (l * n)) := by split <;> rfl
        simp [execOp, ho, hr, Instr.sliceAt, Instr.slice, run_underlying ht, g3, run_sizeOf hn, this]
      · by_cases hml : m' = l
        · rw [if_pos hml]
          have z1 : hh - l = 0 := by omega
          have z2 : m' - l = 0 := by omega
          have z3 : m - l = 0 := by omega
          rw [z1, z2, z3]
          exact .slice0 _ _
        · rw [if_neg hml, addr_add]
          have hmk : (⟨loc.cb, a.off + loc.sh + l * n, none⟩ : Addr) = ⟨loc.cb, (aadd a (l * n)).off + loc.sh, none⟩ := by simp [aadd]; omega
          rw [hmk]
          refine .slice (aadd a (l * n)) loc _ _ _ hl ?_
          rcases g4 with ⟨rfl, rfl⟩ | ⟨rfl, _⟩
          · rcases hc with rfl | ⟨c1, c2, c3⟩
            · exact .inl rfl
            · have hn2 : loc.esz = n := by rcases hez loc hl with q | q <;> omega
              refine .inr ⟨c1, by omega, ?_⟩
              rw [hn2] at c3 ⊢
              have : (m' - l) * n + l * n = m' * n := by rw [← Nat.add_mul]; congr 1; omega
              simp only [aadd]
              omega
          · exact .inl rfl
  · cases he

theorem good_minI {c : Call} {x y : Operand} {x' y' : IOpd} (ho : o.op = .call c) (hc : c.callee = .builtin .min) (ha : c.args.toList = [x, y]) (hx : opd x = some x') (hy : opd y = some y') (hT : Opds φ T ρ) (h : R P C φ M w)
    (he : evalOp C M T nid (.minI x' y') = some out) : Good P C φ M w nid (execOp ρ o) out := by
  have h1 := hT x x' hx
  have h2 := hT y y' hy
  have hargs : c.args = #[x, y] := by rw [← ha]
  simp only [evalOp] at he
  split at he
  · rename_i k a k' b hxa hyb
    cases he
    rw [hxa] at h1
    rw [hyb] at h2
    refine good_pure h (v' := .int k (if b < a then b else a)) ?_ (.int _ _)
    simp [execOp, ho, resolve, hc, hargs, invoke, builtin, Builtin.min_, Builtin.min2, int_inv h1, int_inv h2]
  · cases he

theorem good_maxI {c : Call} {x y : Operand} {x' y' : IOpd} (ho : o.op = .call c) (hc : c.callee = .builtin .max) (ha : c.args.toList = [x, y]) (hx : opd x = some x') (hy : opd y = some y') (hT : Opds φ T ρ) (h : R P C φ M w)
    (he : evalOp C M T nid (.maxI x' y') = some out) : Good P C φ M w nid (execOp ρ o) out := by
  have h1 := hT x x' hx
  have h2 := hT y y' hy
  have hargs : c.args = #[x, y] := by rw [← ha]
  simp only [evalOp] at he
  split at he
  · rename_i k a k' b hxa hyb
    cases he
    rw [hxa] at h1
    rw [hyb] at h2
    refine good_pure h (v' := .int k (if b > a then b else a)) ?_ (.int _ _)
    simp [execOp, ho, resolve, hc, hargs, invoke, builtin, Builtin.max_, Builtin.max2, int_inv h1, int_inv h2]
  · cases he

theorem opds_rel {xs : List Operand} {ys : List IOpd} (h : opds xs = some ys) (hT : Opds φ T ρ) : VsRel φ (ys.map (·.val T)) (xs.map ρ) := by
  induction xs generalizing ys with
  | nil => simp [opds] at h; subst h; exact .nil
  | cons x r ih =>
    simp only [opds] at h
    split at h
    · rename_i y ys' h1 h2
      cases h
      exact .cons _ _ _ _ (hT x y h1) (ih h2)
    · cases h

theorem good_mkfn {f : FuncId} {first captured : Array Operand} {a b : List IOpd} (ho : o.op = .makeFunc (.func f) first captured) (ha : opds first.toList = some a) (hb : opds captured.toList = some b) (hT : Opds φ T ρ) (h : R P C φ M w)
    (he : evalOp C M T nid (.mkfn (.func f) a b) = some out) : Good P C φ M w nid (execOp ρ o) out := by
  simp only [evalOp] at he
  cases he
  refine good_pure h (v' := .func (.func f) (first.map ρ) (captured.map ρ)) (by simp [execOp, ho, Instr.makeFunc]) (.func _ _ _ _ _ ?_ ?_)
  · simpa using opds_rel ha hT
  · simpa using opds_rel hb hT
end
end Go.Ak

namespace Go.Ak

/-! ### filling -/
theorem fold_set (off : Nat) : ∀ (l : List Value) (k : Nat) (cs : Array Value), off + k + l.length ≤ cs.size →
    ((l.zipIdx k).foldl (fun (cs : Array Value) (x : Value × Nat) => cs.setIfInBounds (off + x.2) x.1) cs).toList = cs.toList.take (off + k) ++ l ++ cs.toList.drop (off + k + l.length)
  | [], k, cs, _ => by simp
  | v :: r, k, cs, h => by
    simp only [List.zipIdx_cons, List.foldl_cons]
    simp only [List.length_cons] at h
    rw [fold_set off r (k + 1) _ (by simp; omega)]
    have := list_seg_step cs.toList (off + k) v r (by simp; omega)
    simp only [Array.toList_setIfInBounds, List.length_cons]
    rw [show off + (k + 1) = off + k + 1 by omega]
    exact this.trans (by rw [show off + k + (r.length + 1) = off + k + (r.length + 1) from rfl])

section
variable {P : Program} {C : Ctx} {φ : Phi} {M : Nat → Option AObj} {w : World} {T : Nat → Value} {nid : Nat} {ρ : Operand → Value} {out : AOut} {o : Oper}

theorem fill_rel {place : Nat → Option (Nat × Nat)} (hT : Opds φ T ρ) : ∀ {ps : List (Nat × Operand)} {qs : List (Nat × Nat × IOpd)} {cells cs : List Value} {cells' : Array Value},
    partsOf place ps = some qs → VsRel φ cells cells'.toList → fillA T cells qs = some cs →
    ∃ cs' : Array Value, Instr.fill place cells' (ps.map fun p => (p.1, ρ p.2)) = some cs' ∧ VsRel φ cs cs'.toList
  | [], qs, cells, cs, cells', hp, hc, hf => by
    simp [partsOf] at hp
    subst hp
    simp [fillA] at hf
    subst hf
    exact ⟨cells', rfl, hc⟩
  | (i, x) :: r, qs, cells, cs, cells', hp, hc, hf => by
    simp only [partsOf] at hp
    split at hp
    · rename_i off n y qs' h1 h2 h3
      cases hp
      simp only [fillA] at hf
      split at hf
      · rename_i vs hvs
        split at hf
        · rename_i hcond
          have hv := vcells_rel (hT x y h2) hvs
          have hlen := hv.length
          have hclen := hc.length
          have hsz : (ρ x).cells.size = n := by have := hcond.1; simp at hlen; omega
          have hnew : VsRel φ (cells.take off ++ (vs ++ cells.drop (off + n))) (((ρ x).cells.zipIdx.foldl (fun (cs : Array Value) (x : Value × Nat) => cs.setIfInBounds (off + x.2) x.1) cells').toList) := by
            rw [← Array.foldl_toList, Array.toList_zipIdx, fold_set off _ 0 _ (by simp at hlen hclen ⊢; omega)]
            simp only [Nat.add_zero]
            rw [List.append_assoc, Array.length_toList, hsz]
            exact (hc.take off).append (hv.append (hc.drop _))
          obtain ⟨cs', h4, h5⟩ := fill_rel hT h3 hnew hf
          refine ⟨cs', ?_, h5⟩
          simp only [List.map_cons, Instr.fill, h1]
          have hno : ¬ ((ρ x).cells.size ≠ n ∨ off + (ρ x).cells.size > cells'.size) := by
            simp at hclen
            omega
          simp only [ne_eq, Bool.or_eq_true, decide_eq_true_eq] at hno ⊢
          rw [if_neg hno]
          exact h4
        · cases hf
      · cases hf
    · cases hp

theorem zeroOf_inv {t : TypeId} {z : List Value} (h : zeroOf P t = some z) : ∃ i v, P.info? t = some i ∧ i.zero = some v ∧ v.cells.toList = z ∧ ∀ x ∈ z, cleanS 0 x = true := by
  unfold zeroOf at h
  split at h
  · rename_i i hi
    split at h
    · rename_i v hv
      split at h
      · rename_i hall
        cases h
        exact ⟨i, v, hi, hv, rfl, fun x hx => List.all_eq_true.1 hall x hx⟩
      · cases h
    · cases h
  · cases h

theorem run_zero {t : TypeId} {i : TypeInfo} {v : Value} (hi : P.info? t = some i) (hz : i.zero = some v) (w : World) : (zeroValue t).run P w = .ok v w := by
  simp [zeroValue, typeInfo, hi, hz]

theorem zero_rel {z : List Value} (h : ∀ x ∈ z, cleanS 0 x = true) : VsRel φ z z := VsRel.refl fun x hx => cleanS_rel (old_zero φ) (h x hx)
theorem zero_scal {z : List Value} (h : ∀ x ∈ z, cleanS 0 x = true) : z.all scalar = true := List.all_eq_true.2 fun x hx => cleanS_scalar (h x hx)

theorem run_mapM_sizes (fs : List Field) (h : ∀ f ∈ fs, (sizeT P f.type).isSome = true) (w : World) :
    (fs.mapM fun f => (do pure (f.offset, ← sizeOf f.type) : Sem (Nat × Nat))).run P w = .ok (fs.map fun f => (f.offset, (sizeT P f.type).getD 0)) w := by
  induction fs with
  | nil => rfl
  | cons f r ih =>
    have h1 := h f (by simp)
    cases hs : sizeT P f.type with
    | none => rw [hs] at h1; cases h1
    | some n =>
      have ih' := ih fun f hf => h f (by simp [hf])
      simp only [bind_pure_comp] at ih' ⊢
      simp [List.mapM_cons, run_sizeOf hs, ih', hs]

theorem good_build {t : TypeId} {ps : Array (Nat × Operand)} {z : List Value} {qs : List (Nat × Nat × IOpd)} (ho : o.op = .build t ps) (hz : zeroOf P t = some z) (hp : partsOf (placeOf P t) ps.toList = some qs) (hf : fieldsOK P t = true)
    (hT : Opds φ T ρ) (h : R P C φ M w) (he : evalOp C M T nid (.build z qs) = some out) : Good P C φ M w nid (execOp ρ o) out := by
  simp only [evalOp, Option.map_eq_some_iff] at he
  obtain ⟨cs, hcs, rfl⟩ := he
  obtain ⟨i, v, hi, hv, hvz, hclean⟩ := zeroOf_inv hz
  have hzr : VsRel φ z v.cells.toList := by rw [hvz]; exact zero_rel hclean
  have hmap : (ps.map fun x => (x.1, ρ x.2)).toList = ps.toList.map fun p => (p.1, ρ p.2) := by simp
  cases hd : P.underlying t with
  | none => simp [fieldsOK, hd] at hf
  | some d =>
    cases d with
    | struct fs =>
      simp only [fieldsOK, hd, List.all_eq_true] at hf
      have hm := run_mapM_sizes fs.toList hf w
      have hplace : ∀ i, (((fs.toList.map fun f => (f.offset, (sizeT P f.type).getD 0)).toArray)[i]? : Option (Nat × Nat)) = placeOf P t i := by
        intro i
        simp only [placeOf, hd, List.getElem?_toArray, List.getElem?_map]
        cases hi2 : fs[i]? with
        | none =>
          have : fs.toList[i]? = none := by simpa using hi2
          simp [this]
        | some f =>
          have h2 : fs.toList[i]? = some f := by simpa using hi2
          have h3 := hf f (List.mem_of_getElem? h2)
          cases hs : sizeT P f.type with
          | none => rw [hs] at h3; cases h3
          | some n => simp [h2, hs]
      obtain ⟨cs', h1, h2⟩ := fill_rel hT hp hzr hcs
      rw [← funext hplace] at h1
      refine good_pure h (v' := .agg cs') ?_ (.agg _ _ (by simpa using h2))
      simp only [bind_pure_comp] at hm
      simp only [execOp, ho, Instr.build, Sem.run_bind, run_zero hi hv, Result.andThen_ok, run_underlying hd, Array.mapM_eq_mapM_toList, Sem.run_map, hm, hmap, bind_pure_comp]
      rw [h1]
      simp
    | array len e =>
      simp only [fieldsOK, hd] at hf
      cases hs : sizeT P e with
      | none => rw [hs] at hf; cases hf
      | some n =>
        have hplace : (fun i => some (i * n, n)) = placeOf P t := by
          funext i
          simp [placeOf, hd, hs]
        obtain ⟨cs', h1, h2⟩ := fill_rel hT hp hzr hcs
        rw [← hplace] at h1
        refine good_pure h (v' := .agg cs') ?_ (.agg _ _ (by simpa using h2))
        simp only [execOp, ho, Instr.build, Sem.run_bind, run_zero hi hv, Result.andThen_ok, run_underlying hd, hmap, run_sizeOf hs]
        rw [h1]
        simp
    | _ => simp [fieldsOK, hd] at hf

theorem good_mk {e : TypeId} {z : List Value} (ho : o.op = .alloc e) (hz : zeroOf P e = some z) (h : R P C φ M w) (hn : M nid = none) (he : evalOp C M T nid (.mk e z) = some out) : Good P C φ M w nid (execOp ρ o) out := by
  simp only [evalOp] at he
  cases he
  obtain ⟨i, v, hi, hv, hvz, hclean⟩ := zeroOf_inv hz
  obtain ⟨hle, hR⟩ := h.new_cells hn z v.cells e 0 (some e) (fun t ht => by cases ht; rfl) (fun j x hx => by
    obtain ⟨x', p, q⟩ := (zero_rel (φ := φ) hclean).get hx
    exact ⟨x', by rw [← hvz] at p; simpa using p, q⟩)
  refine ⟨.pointer (some ⟨w.heap.size, 0, none⟩), _, _, .inl ?_, hle, .ptr _ _ ⟨_, Phi.set_self φ nid 0 _, rfl⟩, hR⟩
  simp [execOp, ho, Instr.alloc, run_zero hi hv, newVar, newRow]

theorem good_box {e : TypeId} {n : Nat} {x : Operand} {y : IOpd} (ho : o.op = .box e x) (hx : opd x = some y) (hT : Opds φ T ρ) (h : R P C φ M w) (hn : M nid = none) (he : evalOp C M T nid (.box n y) = some out) : Good P C φ M w nid (execOp ρ o) out := by
  simp only [evalOp] at he
  split at he
  · rename_i cs hcs
    split at he
    · rename_i hcond
      cases he
      have hv := vcells_rel (hT x y hx) hcs
      obtain ⟨hle, hR⟩ := h.new_cells hn cs (ρ x).cells e 0 none (fun t ht => by cases ht) (fun j x hx => by
        obtain ⟨x', p, q⟩ := hv.get hx
        exact ⟨x', by simpa using p, q⟩)
      refine ⟨.pointer (some ⟨w.heap.size, 0, none⟩), _, _, .inl ?_, hle, .ptr _ _ ⟨_, Phi.set_self φ nid 0 _, rfl⟩, hR⟩
      simp [execOp, ho, Instr.box, newVar, newRow]
    · cases he
  · cases he

/-- Zeros, one after the other. -/
theorem reps (z : Array Value) (n : Nat) : ((Array.range (n * z.size)).map (z[· % z.size]!)).toList = (List.replicate n z.toList).flatten := by
  simp only [Array.toList_map, Array.toList_range]
  induction n with
  | zero => simp
  | succ n ih =>
    rw [Nat.succ_mul, List.range_add, List.map_append, ih, List.replicate_succ', List.flatten_append]
    congr 1
    simp only [List.flatten_singleton, List.map_map]
    apply List.ext_getElem?
    intro j
    by_cases hj : j < z.size
    · simp [hj, Nat.add_mod, Nat.mod_eq_of_lt hj]
    · simp [hj]

theorem good_buildSlice {t e : TypeId} {len n : Nat} {ps : Array (Nat × Operand)} {z : List Value} {qs : List (Nat × Nat × IOpd)} (ho : o.op = .buildSlice t len ps) (ht : P.underlying t = some (.slice e)) (hn : sizeT P e = some n) (hz : zeroOf P e = some z)
    (hsmall : len * n ≤ 16777216) (hzl : z.length = n) (hp : partsOf (fun i => some (i * n, n)) ps.toList = some qs)
    (hT : Opds φ T ρ) (h : R P C φ M w) (hnid : M nid = none) (he : evalOp C M T nid (.buildSlice len (List.replicate len z).flatten qs) = some out) : Good P C φ M w nid (execOp ρ o) out := by
  simp only [evalOp] at he
  split at he
  case h_2 => cases he
  rename_i cs hcs
  split at he
  case isFalse => cases he
  cases he
  obtain ⟨i, v, hi, hv, hvz, hclean⟩ := zeroOf_inv hz
  have hmap : (ps.map fun x => (x.1, ρ x.2)).toList = ps.toList.map fun p => (p.1, ρ p.2) := by simp
  have hvs : v.cells.size = n := by rw [← hzl, ← hvz]; simp
  -- the zeros, as the model lays them
  obtain ⟨zz, hrun, hzz⟩ : ∃ zz : Array Value, ((if len * n = 0 then pure #[] else (do pure (← zeroValue e).cells) : Sem (Array Value)).run P w = .ok zz w) ∧
      VsRel φ (List.replicate len z).flatten ((Array.range (len * n)).map (zz[· % zz.size]!)).toList := by
    by_cases h0 : len * n = 0
    · refine ⟨#[], by rw [if_pos h0]; rfl, ?_⟩
      have : (List.replicate len z).flatten = [] := by
        rcases Nat.mul_eq_zero.1 h0 with hl | hl
        · simp [hl]
        · have hz0 : z = [] := List.eq_nil_of_length_eq_zero (by omega)
          simp [hz0]
      rw [this, h0]
      simp
      exact .nil
    · refine ⟨v.cells, by rw [if_neg h0]; simp [run_zero hi hv], ?_⟩
      have := reps v.cells len
      rw [hvs] at this ⊢
      rw [this, hvz]
      refine zero_rel fun x hx => ?_
      obtain ⟨l, hl, hxl⟩ := List.mem_flatten.1 hx
      rw [(List.mem_replicate.1 hl).2] at hxl
      exact hclean x hxl
  obtain ⟨cs', h1, h2⟩ := fill_rel hT hp hzz hcs
  obtain ⟨hle, hR⟩ := h.new_cells hnid cs cs' e 0 none (fun t ht => by cases ht) (fun j x hx => by
    obtain ⟨x', p, q⟩ := h2.get hx
    exact ⟨x', by simpa using p, q⟩)
  refine ⟨.slice (some ⟨w.heap.size, 0, none⟩) len len, _, _, .inl ?_, hle, .slice ⟨nid, 0, none⟩ ⟨w.heap.size, 0, _, 0⟩ _ _ _ (Phi.set_self φ nid 0 _) (.inl rfl), hR⟩
  have hno : ¬ (len * n > 2 ^ 24) := by omega
  rw [← hmap] at h1
  by_cases h0 : len * n = 0
  · simp [h0, Array.range_zero'] at h1
    simp [execOp, ho, Instr.buildSlice, run_underlying ht, run_sizeOf hn, h0, newRow, h1, Array.range_zero']
  · rw [if_neg h0] at hrun
    simp [run_zero hi hv] at hrun
    subst hrun
    simp at h1
    simp [execOp, ho, Instr.buildSlice, run_underlying ht, run_sizeOf hn, h0, hno, run_zero hi hv, newRow, h1]
end
end Go.Ak

namespace Go.Ak
section
variable {P : Program} {C : Ctx} {φ : Phi} {M : Nat → Option AObj} {w : World} {T : Nat → Value} {nid : Nat} {ρ : Operand → Value} {out : AOut} {o : Oper}

theorem good_load1 {t : TypeId} {x : Operand} {y : IOpd} (ho : o.op = .load t x) (hb : isAggT P t = some false) (hx : opd x = some y) (hT : Opds φ T ρ) (h : R P C φ M w) (he : evalOp C M T nid (.load1 y) = some out) : Good P C φ M w nid (execOp ρ o) out := by
  simp only [evalOp] at he
  split at he
  · rename_i a ha
    split at he
    · rename_i v hv
      cases he
      have h1 := hT x y hx
      rw [asCell_inv ha] at h1
      obtain ⟨a', h2, h3⟩ := ptr_inv h1
      obtain ⟨_, xs', hc, hl, hr, _⟩ := loadN_rel h h3 hv
      obtain ⟨v', p, q⟩ := hr.get (i := 0) (v := v) rfl
      have hcell := hc 0 v' p
      rw [show a'.add 0 = a' from by simp [Addr.add]] at hcell
      exact good_rd h (v' := v') (by simp [execOp, ho, h2, Instr.loadAt, Instr.sureAddr, loadVar, run_isAgg hb, hcell]) q
    · cases he
  · cases he

theorem good_loadN {t : TypeId} {n : Nat} {x : Operand} {y : IOpd} (ho : o.op = .load t x) (hb : isAggT P t = some true) (hn : sizeT P t = some n) (hx : opd x = some y) (hT : Opds φ T ρ) (h : R P C φ M w) (he : evalOp C M T nid (.loadN n y) = some out) :
    Good P C φ M w nid (execOp ρ o) out := by
  simp only [evalOp] at he
  split at he
  · rename_i a ha
    simp only [Option.map_eq_some_iff] at he
    obtain ⟨l, hl, rfl⟩ := he
    have h1 := hT x y hx
    rw [asCell_inv ha] at h1
    obtain ⟨a', h2, h3⟩ := ptr_inv h1
    obtain ⟨_, xs', hc, hln, hr, hrun⟩ := loadN_rel h h3 hl
    exact good_rd h (v' := .agg xs'.toArray) (by simp [execOp, ho, h2, Instr.loadAt, Instr.sureAddr, loadVar, run_isAgg hb, run_sizeOf hn, hrun]) (.agg _ _ (by simpa using hr))
  · cases he

theorem good_store {t : TypeId} {n : Nat} {a x : Operand} {b y : IOpd} (ho : o.op = .store t a x) (hn : sizeT P t = some n) (ha : opd a = some b) (hx : opd x = some y) (hT : Opds φ T ρ) (h : R P C φ M w) (he : evalOp C M T nid (.store n b y) = some out) :
    Good P C φ M w nid (execOp ρ o) out := by
  simp only [evalOp] at he
  split at he
  · rename_i ad cs had hcs
    split at he
    · rename_i hlen
      split at he
      · rename_i ob hst
        cases he
        have h1 := hT a b ha
        rw [asCell_inv had] at h1
        obtain ⟨a', h2, h3⟩ := ptr_inv h1
        have hv := vcells_rel (hT x y hx) hcs
        obtain ⟨w', hrun, hR⟩ := storeN_rel h h3 hv hst
        refine ⟨undef, w', φ, .inr ⟨?_, rfl⟩, Phi.le_refl φ, .undef _, hR⟩
        have hsz : (ρ x).cells.size = n := by have := hv.length; simp at this; omega
        simp [execOp, ho, h2, Instr.storeAt, Instr.sureAddr, storeVar, run_sizeOf hn, hsz, hrun]
      · cases he
    · cases he
  · cases he

theorem toBytes_inv : ∀ {l : List Value} {bs : List UInt8}, toBytes l = some bs → ∃ ns : List Int, l = ns.map (Value.int .u8) ∧ bs = ns.map fun n => UInt8.ofNat n.toNat
  | [], bs, h => by simp [toBytes] at h; subst h; exact ⟨[], rfl, rfl⟩
  | v :: r, bs, h => by
    unfold toBytes at h
    split at h
    · rename_i heq; simp at heq
    · rename_i n r' heq
      simp only [List.cons.injEq] at heq
      obtain ⟨rfl, rfl⟩ := heq
      simp only [Option.map_eq_some_iff] at h
      obtain ⟨bs', hbs, rfl⟩ := h
      obtain ⟨ns, rfl, rfl⟩ := toBytes_inv hbs
      exact ⟨n :: ns, rfl, rfl⟩
    · cases h

theorem ints_inv : ∀ {ns : List Int} {l : List Value}, VsRel φ (ns.map (Value.int .u8)) l → l = ns.map (Value.int .u8)
  | [], l, h => by cases h; rfl
  | n :: r, l, h => by
    cases h with
    | cons _ v' _ vs' h1 h2 => rw [int_inv h1, ints_inv h2]; rfl

theorem push_bytes (ns : List Int) : ∀ b : ByteArray, ns.foldl (fun (r : ByteArray) n => r.push (UInt8.ofNat n.toNat)) b = ⟨(b.data.toList ++ ns.map fun n => UInt8.ofNat n.toNat).toArray⟩ := by
  induction ns with
  | nil => intro b; cases b; simp
  | cons n r ih =>
    intro b
    simp only [List.foldl_cons, ih, List.map_cons]
    cases b
    simp [ByteArray.push]

theorem good_toStr {s d e : TypeId} {x : Operand} {y : IOpd} (ho : o.op = .convert s d x) (hs : P.underlying s = some (.slice e)) (hd : P.underlying d = some .string) (hu : P.underlying e = some (.int .u8)) (hx : opd x = some y) (hT : Opds φ T ρ) (h : R P C φ M w)
    (he : evalOp C M T nid (.toStr y) = some out) : Good P C φ M w nid (execOp ρ o) out := by
  simp only [evalOp] at he
  have h1 := hT x y hx
  have conv : ∀ a l c (r : Value), ρ x = .slice a l c → (Conv.bytesToString (.slice a l c)).run P w = .ok r w → (execOp ρ o).run P w = .ok (.value r) w := by
    intro a l c r hr hb
    simp [execOp, ho, hr, convert, run_underlying hs, run_underlying hd, run_underlying hu, hb]
  split at he
  · rename_i l c hv
    cases he
    rw [hv] at h1
    have h2 := nilsl_inv h1
    exact good_pure h (v' := .string .empty) (conv _ _ _ _ h2 (by simp [Conv.bytesToString])) (.string _)
  · rename_i a n c hv
    rw [hv] at h1
    obtain ⟨a', c', h2, _, h4⟩ := sl_inv h1
    split at he
    · rename_i h0
      subst h0
      cases he
      refine good_pure h (v' := .string .empty) (conv _ _ _ _ h2 ?_) (.string _)
      have := run_bytesToString (P := P) w a' 0 c' [] (by simp [loadCells, loadCellsFrom])
      simpa using this
    · rename_i h0
      split at he
      · rename_i l hl
        simp only [Option.map_eq_some_iff] at he
        obtain ⟨bs, hbs, rfl⟩ := he
        obtain ⟨ns, rfl, rfl⟩ := toBytes_inv hbs
        have ha := h4.resolve_right (by omega)
        obtain ⟨_, xs', hc, hln, hr, hrun⟩ := loadN_rel h ha hl
        rw [ints_inv hr] at hrun
        refine good_rd h (v' := .string ⟨(ns.map fun n => UInt8.ofNat n.toNat).toArray⟩) (conv _ _ _ _ h2 ?_) (.string _)
        rw [run_bytesToString (P := P) w a' n c' ns hrun, push_bytes]
        rfl
      · cases he
  · cases he

/-! ### builtins -/
theorem builtin_op {c : Call} {b : Builtin} (ho : o.op = .call c) (hc : c.callee = .builtin b) :
    execOp ρ o = builtin b c.argTypes o.type (c.args.map fun | .const _ => true | _ => false) (c.args.map ρ) := by
  simp only [execOp, ho, resolve, hc]
  rfl

theorem args_one {c : Call} {x : Operand} (ha : c.args.toList = [x]) : c.args = #[x] := by rw [← ha]
theorem args_two {c : Call} {x y : Operand} (ha : c.args.toList = [x, y]) : c.args = #[x, y] := by rw [← ha]
theorem type_first {c : Call} {t : TypeId} {ts : List TypeId} (hts : c.argTypes.toList = t :: ts) : c.argTypes[0]? = some t := by
  have : c.argTypes.toList[0]? = some t := by rw [hts]; rfl
  simpa using this
theorem type_second {c : Call} {t u : TypeId} {ts : List TypeId} (hts : c.argTypes.toList = t :: u :: ts) : c.argTypes[1]? = some u := by
  have : c.argTypes.toList[1]? = some u := by rw [hts]; rfl
  simpa using this

section
variable {c : Call} {x : Operand} {y : IOpd} {t : TypeId} {ts : List TypeId}

theorem good_len {e : TypeId} (ho : o.op = .call c) (hc : c.callee = .builtin .len) (hts : c.argTypes.toList = t :: ts) (ha : c.args.toList = [x]) (hx : opd x = some y) (ht : P.underlying t = some (.slice e))
    (hT : Opds φ T ρ) (h : R P C φ M w) (he : evalOp C M T nid (.len y) = some out) : Good P C φ M w nid (execOp ρ o) out := by
  simp only [evalOp] at he
  have h1 := hT x y hx
  split at he
  · rename_i a n cp hv
    cases he
    rw [hv] at h1
    refine good_pure h (v' := .int .i64 n) ?_ (.int _ _)
    rw [builtin_op ho hc, args_one ha]
    cases a with
    | none => simp [builtin, Builtin.len_, type_first hts, nilsl_inv h1, run_underlying ht, goInt]
    | some a =>
      obtain ⟨a', c', h2, _, _⟩ := sl_inv h1
      simp [builtin, Builtin.len_, type_first hts, h2, run_underlying ht, goInt]
  · cases he

theorem good_lenStr (ho : o.op = .call c) (hc : c.callee = .builtin .len) (hts : c.argTypes.toList = t :: ts) (ha : c.args.toList = [x]) (hx : opd x = some y) (ht : P.underlying t = some .string)
    (hT : Opds φ T ρ) (h : R P C φ M w) (he : evalOp C M T nid (.lenStr y) = some out) : Good P C φ M w nid (execOp ρ o) out := by
  simp only [evalOp] at he
  have h1 := hT x y hx
  split at he
  · rename_i s hv
    cases he
    rw [hv] at h1
    refine good_pure h (v' := .int .i64 s.size) ?_ (.int _ _)
    rw [builtin_op ho hc, args_one ha]
    simp [builtin, Builtin.len_, type_first hts, str_inv h1, run_underlying ht, goInt]
  · cases he

theorem good_lenArr {n : Nat} {e : TypeId} (ho : o.op = .call c) (hc : c.callee = .builtin .len) (hts : c.argTypes.toList = t :: ts) (ha : c.args.toList = [x]) (ht : P.underlying t = some (.array n e))
    (h : R P C φ M w) (he : evalOp C M T nid (.lenC n) = some out) : Good P C φ M w nid (execOp ρ o) out := by
  refine good_lenC ?_ h he
  rw [builtin_op ho hc, args_one ha]
  simp [builtin, Builtin.len_, type_first hts, run_underlying ht, goInt]

theorem good_lenPtr {n : Nat} {e a : TypeId} (ho : o.op = .call c) (hc : c.callee = .builtin .len) (hts : c.argTypes.toList = t :: ts) (ha : c.args.toList = [x]) (ht : P.underlying t = some (.pointer a)) (hta : P.underlying a = some (.array n e))
    (h : R P C φ M w) (he : evalOp C M T nid (.lenC n) = some out) : Good P C φ M w nid (execOp ρ o) out := by
  refine good_lenC ?_ h he
  rw [builtin_op ho hc, args_one ha]
  simp [builtin, Builtin.len_, type_first hts, run_underlying ht, run_underlying hta, goInt]

theorem good_capArr {n : Nat} {e : TypeId} (ho : o.op = .call c) (hc : c.callee = .builtin .cap) (hts : c.argTypes.toList = t :: ts) (ha : c.args.toList = [x]) (ht : P.underlying t = some (.array n e))
    (h : R P C φ M w) (he : evalOp C M T nid (.lenC n) = some out) : Good P C φ M w nid (execOp ρ o) out := by
  refine good_lenC ?_ h he
  rw [builtin_op ho hc, args_one ha]
  simp [builtin, Builtin.cap_, type_first hts, run_underlying ht, goInt]

theorem good_cap {e : TypeId} (ho : o.op = .call c) (hc : c.callee = .builtin .cap) (hts : c.argTypes.toList = t :: ts) (ha : c.args.toList = [x]) (hx : opd x = some y) (ht : P.underlying t = some (.slice e))
    (hT : Opds φ T ρ) (h : R P C φ M w) (he : evalOp C M T nid (.cap y) = some out) : Good P C φ M w nid (execOp ρ o) out := by
  simp only [evalOp] at he
  have h1 := hT x y hx
  split at he
  · rename_i l cp hv
    cases he
    rw [hv] at h1
    refine good_pure h (v' := .int .i64 cp) ?_ (.int _ _)
    rw [builtin_op ho hc, args_one ha]
    simp [builtin, Builtin.cap_, type_first hts, nilsl_inv h1, run_underlying ht, goInt]
  · rename_i a l cp hv
    rw [hv] at h1
    have key : out = { v := .int .i64 cp, rd := [a.block] } ∧ ∀ loc, φ a.block (ver a) = some loc → loc.esz = 0 := by
      split at he
      · rename_i hM
        split at he
        case isFalse => cases he
        rename_i hsp
        cases he
        refine ⟨rfl, fun loc hl => ?_⟩
        obtain ⟨hlt, hOld, _⟩ := h.obj _ _ hM
        have hva : ver a = 0 := by unfold ver; cases hs : a.spot <;> simp_all
        rw [hva, hOld _ hlt] at hl
        cases hl
        rfl
      · rename_i vs hM
        split at he
        · rename_i v hvv
          split at he
          · rename_i hesz
            cases he
            refine ⟨rfl, fun loc hl => ?_⟩
            obtain ⟨l', cc, tt, q1, q2, q3, q4, q5⟩ := (h.obj _ _ hM).1 _ v hvv
            rw [hl] at q1
            cases q1
            omega
          · cases he
        · cases he
      · cases he
    obtain ⟨rfl, hz⟩ := key
    refine good_rd h (v' := .int .i64 cp) ?_ (.int _ _)
    rw [builtin_op ho hc, args_one ha]
    generalize hr : ρ x = r at h1
    cases h1 with
    | slice _ loc _ _ c' hl hcr =>
      have : c' = cp := by
        rcases hcr with q | ⟨q, _⟩
        · exact q
        · have := hz loc hl; omega
      subst this
      simp [builtin, Builtin.cap_, type_first hts, hr, run_underlying ht, goInt]
    | slice0 _ a' => simp [builtin, Builtin.cap_, type_first hts, hr, run_underlying ht, goInt]
  · cases he

theorem good_lenM {k e : TypeId} (ho : o.op = .call c) (hc : c.callee = .builtin .len) (hts : c.argTypes.toList = t :: ts) (ha : c.args.toList = [x]) (hx : opd x = some y) (ht : P.underlying t = some (.map k e))
    (hT : Opds φ T ρ) (h : R P C φ M w) (he : evalOp C M T nid (.lenM y) = some out) : Good P C φ M w nid (execOp ρ o) out := by
  simp only [evalOp] at he
  have h1 := hT x y hx
  split at he
  · rename_i hv
    cases he
    rw [hv] at h1
    refine good_pure h (v' := .int .i64 0) ?_ (.int _ _)
    rw [builtin_op ho hc, args_one ha]
    have h2 : ρ x = .map none := by generalize ρ x = r at h1; cases h1; rfl
    simp [builtin, Builtin.len_, type_first hts, h2, run_underlying ht, goInt]
  · rename_i r hv
    rw [hv] at h1
    split at he
    · rename_i es hM
      cases he
      obtain ⟨l, es', clk, q1, _, q2, q3, q4⟩ := h.obj _ _ hM
      have h2 : ρ x = .map (some l.cb) := by
        generalize ρ x = v at h1
        cases h1 with
        | map _ l' hl => rw [hl] at q1; cases q1; rfl
      refine good_rd h (v' := .int .i64 es.length) ?_ (.int _ _)
      rw [builtin_op ho hc, args_one ha]
      have hget : (getObj l.cb).run P w = .ok (.map es' clk) w := by simp [getObj, Sem.run, q2]
      simp [builtin, Builtin.len_, type_first hts, h2, run_underlying ht, hget, goInt, q3]
    · cases he
  · cases he
end
end
end Go.Ak

namespace Go.Ak
section
variable {P : Program} {C : Ctx} {φ : Phi} {M : Nat → Option AObj} {w : World} {T : Nat → Value} {nid : Nat} {ρ : Operand → Value} {out : AOut} {o : Oper}

theorem extract_take (s : ByteArray) (n : Nat) : (s.extract 0 n).data.toList = s.data.toList.take n := by
  simp [ByteArray.data_extract, List.extract_eq_take_drop]

/-- What is appended or copied. -/
theorem src_rel (h : R P C φ M w) {x x' : Value} (hx : VRel φ x x') {esz n m : Nat} (hm : lenA x = some m) (hnm : n ≤ m) {xs : List Value} {rd : List Nat} (hs : srcCells C M esz n x = some (xs, rd)) :
    ∃ xs', VsRel φ xs xs' ∧ (∀ W, (Builtin.lenOf x').run P W = .ok m W) ∧ ∀ W : World, W.heap = w.heap → (Builtin.firstCells esz n x').run P W = .ok xs'.toArray W := by
  unfold srcCells at hs
  split at hs
  · rename_i b l c
    simp only [lenA, Option.some.injEq] at hm
    subst hm
    obtain ⟨a', c', h2, _, h4⟩ := sl_inv hx
    subst h2
    split at hs
    · rename_i h0
      subst h0
      cases hs
      exact ⟨[], .nil, fun W => by simp [Builtin.lenOf], fun W _ => firstCells_zero esz ⟨_, _, _, rfl⟩ W⟩
    · rename_i h0
      split at hs
      · rename_i l' hl
        cases hs
        have ha := h4.resolve_right (by omega)
        obtain ⟨_, xs', hc, hln, hr, _⟩ := loadN_rel h ha hl
        refine ⟨xs', hr, fun W => by simp [Builtin.lenOf], fun W hW => ?_⟩
        obtain ⟨loc, _, rfl⟩ := ha
        refine run_firstCells_some W esz n _ l c' xs' hln fun j v hv => ?_
        have := hc j v hv
        rw [addr_add] at this ⊢
        simpa [World.cell?, hW] using this
      · cases hs
  · rename_i l c
    simp only [lenA, Option.some.injEq] at hm
    subst hm
    have h2 := nilsl_inv hx
    subst h2
    split at hs
    · rename_i h0
      subst h0
      cases hs
      exact ⟨[], .nil, fun W => by simp [Builtin.lenOf], fun W _ => firstCells_zero esz ⟨_, _, _, rfl⟩ W⟩
    · cases hs
  · rename_i s
    cases hs
    have h2 := str_inv hx
    subst h2
    simp only [lenA, Option.some.injEq] at hm
    subst hm
    refine ⟨(s.data.toList.take n).map fun b => .int .u8 b.toNat, VsRel.refl fun v hv => ?_, fun W => by simp [Builtin.lenOf], fun W _ => ?_⟩
    · obtain ⟨b, _, rfl⟩ := List.mem_map.1 hv
      exact .int _ _
    · simp only [Builtin.firstCells, Sem.run_pure]
      congr 1
      apply Array.ext'
      simp
  · cases hs

section
variable {c : Call} {t u e : TypeId} {ts : List TypeId} {x1 x2 : Operand} {y1 y2 : IOpd} {n bytes : Nat} {z : List Value}

theorem good_append {d : TypeDesc} (ho : o.op = .call c) (hc : c.callee = .builtin .append) (hts : c.argTypes.toList = t :: u :: ts) (ha : c.args.toList = [x1, x2]) (h1 : opd x1 = some y1) (h2 : opd x2 = some y2)
    (ht : P.underlying t = some (.slice e)) (hu : P.underlying u = some d) (hd : (∃ e', d = .slice e') ∨ d = .string) (hn : sizeT P e = some n) (hb : bytesT P e = some bytes) (hz : zeroOf P e = some z) (hzl : z.length = n) (hpos : 1 ≤ n)
    (hT : Opds φ T ρ) (h : R P C φ M w) (hnid : out.new ≠ none → M nid = none) (he : evalOp C M T nid (.append e n bytes y1 y2) = some out) : Good P C φ M w nid (execOp ρ o) out := by
  simp only [evalOp] at he
  split at he
  case h_2 => cases he
  rename_i m hm
  split at he
  case h_2 => cases he
  rename_i xs rd hsrc
  have hv1 := hT x1 y1 h1
  have hv2 := hT x2 y2 h2
  obtain ⟨xs', hxr, hlen, hfc⟩ := src_rel h hv2 hm (Nat.le_refl m) hsrc
  obtain ⟨i, v, hi, hv, hvz, hclean⟩ := zeroOf_inv hz
  have hib : i.bytes = bytes := by simp only [bytesT, hi, Option.map_some, Option.some.injEq] at hb; exact hb
  have hvs : v.cells.size = n := by rw [← hzl, ← hvz]; simp
  have hlx : xs'.length = m * n := by
    have := hxr.length
    unfold appendA at he
    split at he
    · rename_i hc; omega
    · cases he
  have hX : AppSem P w (Builtin.append_ c.argTypes o.type #[ρ x1, ρ x2]) n bytes e v.cells m (ρ x1) xs' := by
    refine ⟨fun b len cap w' hs hfit hst => ?_, fun b len cap old hs hcap h62 hby hold => ?_⟩
    · have hw := hfc w rfl
      cases b with
      | none =>
        subst hst
        rcases hd with ⟨e', rfl⟩ | rfl <;> simp [Builtin.append_, type_first hts, type_second hts, hs, run_underlying ht, run_underlying hu, run_sizeOf hn, hlen, hfit, hw]
      | some a =>
        rcases hd with ⟨e', rfl⟩ | rfl <;> simp [Builtin.append_, type_first hts, type_second hts, hs, run_underlying ht, run_underlying hu, run_sizeOf hn, hlen, hfit, hw, hst]
    · have hno : ¬ (len + m ≤ cap) := by omega
      have h48 : ¬ (281474976710656 < Builtin.nextslicecap (len + m) cap * bytes) := by have := growslice_fits (bytes := bytes) hcap hby; omega
      have h63 : ¬ (9223372036854775807 < ((len : Int) + (m : Int))) := by omega
      rw [hs] at hold
      have hfd := hfc w.drew rfl
      rcases hd with ⟨e', rfl⟩ | rfl <;>
        simp [Builtin.append_, type_first hts, type_second hts, hs, run_underlying ht, run_underlying hu, run_sizeOf hn, hlen, hno, typeInfo, hi, hib, h48, h63, Question.forced, hold, hfd, run_zero hi hv, newRow, grownCap]
  obtain ⟨v', w', φ', r1, r2, r3, r4⟩ := appendA_rel h hnid hpos (fun t ht => by cases ht; rfl) hvs hv1 hxr hX he
  refine ⟨v', w', φ', .inl ?_, r2, r3, r4⟩
  rw [builtin_op ho hc, args_two ha]
  simp [builtin, r1]


theorem wrap_small {m : Nat} (h : m < 1099511627776) : IntKind.i64.wrap (m : Int) = m := by
  have h1 : (2 : Int) ^ IntKind.i64.bits = 18446744073709551616 := by decide
  have h2 : (2 : Int) ^ (IntKind.i64.bits - 1) = 9223372036854775808 := by decide
  have h3 : (m : Int) % 18446744073709551616 = m := by omega
  simp only [IntKind.wrap, h1, h2, h3]
  rw [if_neg]
  simp
  omega

theorem good_appendZ {k : IntKind} (ho : o.op = .call c) (hc : c.callee = .builtin .append) (hts : c.argTypes.toList = t :: u :: ts) (ha : c.args.toList = [x1, x2]) (h1 : opd x1 = some y1) (h2 : opd x2 = some y2)
    (ht : P.underlying t = some (.slice e)) (hu : P.underlying u = some (.int k)) (hn : sizeT P e = some n) (hb : bytesT P e = some bytes) (hz : zeroOf P e = some z) (hzl : z.length = n) (hpos : 1 ≤ n)
    (hT : Opds φ T ρ) (h : R P C φ M w) (hnid : out.new ≠ none → M nid = none) (he : evalOp C M T nid (.appendZ bytes z y1 y2) = some out) : Good P C φ M w nid (execOp ρ o) out := by
  simp only [evalOp] at he
  split at he
  case h_2 => cases he
  rename_i k' mi hm
  split at he
  case isFalse => cases he
  rename_i hcond
  obtain ⟨hm0, hmlt, hmb⟩ := hcond
  obtain ⟨m, rfl⟩ := Int.eq_ofNat_of_zero_le hm0
  have hv1 := hT x1 y1 h1
  have hv2 := hT x2 y2 h2
  rw [hm] at hv2
  have e2 := int_inv hv2
  obtain ⟨i, v, hi, hv, hvz, hclean⟩ := zeroOf_inv hz
  have hib : i.bytes = bytes := by simp only [bytesT, hi, Option.map_some, Option.some.injEq] at hb; exact hb
  have hvs : v.cells.size = n := by rw [← hzl, ← hvz]; simp
  have hn0 : n ≠ 0 := by omega
  simp only [Int.toNat_natCast] at he
  have hxr : VsRel φ (List.replicate m z).flatten (List.replicate m z).flatten := by
    refine zero_rel fun x hx => ?_
    obtain ⟨l, hl, hxl⟩ := List.mem_flatten.1 hx
    rw [(List.mem_replicate.1 hl).2] at hxl
    exact hclean x hxl
  have hwrap : IntKind.i64.wrap (m : Int) = m := wrap_small (by omega)
  have hneg : ¬ ((m : Int) < 0) := by omega
  have hwrap0 : IntKind.i64.wrap 0 = 0 := by decide
  have hbig : ¬ (281474976710656 < (m : Int) * (bytes : Int)) := by omega
  have hzc : Builtin.zeroCells v.cells m = (List.replicate m z).flatten.toArray := by
    apply Array.ext'
    have := reps v.cells m
    rw [hvz] at this
    simpa [Builtin.zeroCells] using this
  have hX : AppSem P w (Builtin.append_ c.argTypes o.type #[ρ x1, ρ x2]) n bytes e v.cells m (ρ x1) (List.replicate m z).flatten := by
    refine ⟨fun b len cap w' hs hfit hst => ?_, fun b len cap old hs hcap h62 hby hold => ?_⟩
    · by_cases hm00 : m = 0
      · subst hm00
        cases b with
        | none =>
          subst hst
          simp [Builtin.append_, type_first hts, type_second hts, hs, run_underlying ht, run_underlying hu, run_sizeOf hn, e2, asInt, asIntOf, hwrap0, typeInfo, hi, hib] at hfit ⊢
          intro hh
          omega
        | some a =>
          simp only [List.replicate_zero, List.flatten_nil] at hst
          simp [Builtin.append_, type_first hts, type_second hts, hs, run_underlying ht, run_underlying hu, run_sizeOf hn, e2, asInt, asIntOf, hwrap0, typeInfo, hi, hib] at hfit ⊢
          simp [hfit, hst]
      · have hmn : ¬ (m * n = 0) := fun q => by rcases Nat.mul_eq_zero.1 q with q | q <;> omega
        cases b with
        | none =>
          subst hst
          simp [Builtin.append_, type_first hts, type_second hts, hs, run_underlying ht, run_underlying hu, run_sizeOf hn, e2, asInt, asIntOf, hwrap, hneg, typeInfo, hi, hib, hbig, hfit, run_zero hi hv]
        | some a =>
          simp [Builtin.append_, type_first hts, type_second hts, hs, run_underlying ht, run_underlying hu, run_sizeOf hn, e2, asInt, asIntOf, hwrap, hneg, typeInfo, hi, hib, hbig, hfit, hmn, run_zero hi hv, hzc, hst]
    · have hno : ¬ (len + m ≤ cap) := by omega
      have h48 : ¬ (281474976710656 < Builtin.nextslicecap (len + m) cap * bytes) := by have := growslice_fits (bytes := bytes) hcap hby; omega
      have h63 : ¬ (9223372036854775807 < ((len : Int) + (m : Int))) := by omega
      rw [hs] at hold
      by_cases hm00 : m = 0
      · subst hm00
        have hno' : ¬ (len ≤ cap) := by omega
        have h48' : ¬ (281474976710656 < Builtin.nextslicecap len cap * bytes) := by simpa using h48
        have h63' : ¬ (9223372036854775807 < (len : Int)) := by omega
        simp [Builtin.append_, type_first hts, type_second hts, hs, run_underlying ht, run_underlying hu, run_sizeOf hn, e2, asInt, asIntOf, hwrap0, typeInfo, hi, hib, hno', h48', h63', Question.forced, hold, newRow, grownCap, run_zero hi hv]
      · have hmn : ¬ (m * n = 0) := fun q => by rcases Nat.mul_eq_zero.1 q with q | q <;> omega
        simp [Builtin.append_, type_first hts, type_second hts, hs, run_underlying ht, run_underlying hu, run_sizeOf hn, e2, asInt, asIntOf, hwrap, hneg, typeInfo, hi, hib, hbig, hno, h48, h63, Question.forced, hold, newRow, grownCap, run_zero hi hv, hmn, hzc]
  obtain ⟨v', w', φ', r1, r2, r3, r4⟩ := appendA_rel h hnid hpos (ty := none) (fun t ht => by cases ht) hvs hv1 hxr hX (by rw [hzl] at he; exact he)
  refine ⟨v', w', φ', .inl ?_, r2, r3, r4⟩
  rw [builtin_op ho hc, args_two ha]
  simp [builtin, r1]

theorem good_copy (ho : o.op = .call c) (hc : c.callee = .builtin .copy) (hts : c.argTypes.toList = t :: ts) (ha : c.args.toList = [x1, x2]) (h1 : opd x1 = some y1) (h2 : opd x2 = some y2)
    (ht : P.underlying t = some (.slice e)) (hn : sizeT P e = some n)
    (hT : Opds φ T ρ) (h : R P C φ M w) (he : evalOp C M T nid (.copy n y1 y2) = some out) : Good P C φ M w nid (execOp ρ o) out := by
  simp only [evalOp] at he
  have hv1 := hT x1 y1 h1
  have hv2 := hT x2 y2 h2
  split at he
  case h_2 => cases he
  rename_i base dl cp sl hd hsl
  have hl2 : ∀ W, (Builtin.lenOf (ρ x2)).run P W = .ok sl W := by
    generalize y2.val T = q at hsl hv2
    generalize ρ x2 = q' at hv2
    intro W
    cases hv2 <;> simp_all [lenA, Builtin.lenOf]
  have hshape : ∃ a n0 c0, ρ x2 = .slice a n0 c0 ∨ ∃ s, ρ x2 = .string s := by
    generalize y2.val T = q at hsl hv2
    generalize ρ x2 = q' at hv2
    cases hv2 <;> simp_all [lenA]
  split at he
  · rename_i h0
    cases he
    refine good_pure h (v' := .int .i64 0) ?_ (.int _ _)
    rw [builtin_op ho hc, args_two ha]
    have hf0 : (Builtin.firstCells n 0 (ρ x2)).run P w = .ok #[] w := by
      obtain ⟨a, n0, c0, hq | ⟨s, hq⟩⟩ := hshape
      · exact firstCells_zero n ⟨a, n0, c0, hq⟩ w
      · rw [hq]
        simp only [Builtin.firstCells, Sem.run_pure]
        congr 1
        apply Array.ext'
        simp
    rw [hd] at hv1
    cases base with
    | none =>
      simp [builtin, Builtin.copy_, type_first hts, nilsl_inv hv1, run_underlying ht, hl2, h0, run_sizeOf hn, hf0, goInt]
    | some a =>
      obtain ⟨a', c', q1, _, _⟩ := sl_inv hv1
      simp [builtin, Builtin.copy_, type_first hts, q1, run_underlying ht, hl2, h0, run_sizeOf hn, hf0, goInt, storeCells]
  · rename_i h0
    split at he
    case h_2 => cases he
    rename_i a xs rd hsrc
    split at he
    case h_2 => cases he
    rename_i ob hst
    split at he
    case isFalse => cases he
    rename_i hlen
    cases he
    rw [hd] at hv1
    obtain ⟨a', c', q1, _, q2⟩ := sl_inv hv1
    have hmin : Nat.min sl dl ≤ sl := Nat.min_le_left sl dl
    have hmin2 : Nat.min sl dl ≤ dl := Nat.min_le_right sl dl
    have ha' := q2.resolve_right (fun q => h0 (by have := q.1; omega))
    obtain ⟨xs', hxr, _, hfc⟩ := src_rel h hv2 hsl hmin hsrc
    obtain ⟨w', hrun, hR⟩ := storeN_rel h ha' hxr hst
    refine ⟨.int .i64 (Nat.min sl dl), w', φ, .inl ?_, Phi.le_refl φ, .int _ _, hR⟩
    rw [builtin_op ho hc, args_two ha]
    simp [builtin, Builtin.copy_, type_first hts, q1, run_underlying ht, hl2, run_sizeOf hn, hfc w rfl, hrun, goInt]

theorem good_clear (ho : o.op = .call c) (hc : c.callee = .builtin .clear) (hts : c.argTypes.toList = t :: ts) (ha : c.args.toList = [x1]) (h1 : opd x1 = some y1)
    (ht : P.underlying t = some (.slice e)) (hz : zeroOf P e = some z)
    (hT : Opds φ T ρ) (h : R P C φ M w) (he : evalOp C M T nid (.clear z y1) = some out) : Good P C φ M w nid (execOp ρ o) out := by
  simp only [evalOp] at he
  have hv1 := hT x1 y1 h1
  obtain ⟨i, v, hi, hv, hvz, hclean⟩ := zeroOf_inv hz
  split at he
  · rename_i a cp hd
    cases he
    refine good_pure h (v' := .tuple #[]) ?_ (.undef _)
    rw [builtin_op ho hc, args_one ha]
    rw [hd] at hv1
    cases a with
    | none => simp [builtin, Builtin.clear_, type_first hts, nilsl_inv hv1, run_underlying ht]
    | some a =>
      obtain ⟨a', c', q1, _, _⟩ := sl_inv hv1
      simp [builtin, Builtin.clear_, type_first hts, q1, run_underlying ht]
  · rename_i a m cp hne hd
    split at he
    case h_2 => cases he
    rename_i ob hst
    cases he
    rw [hd] at hv1
    have hm : m ≠ 0 := fun q => hne (by rw [q])
    obtain ⟨a', c', q1, _, q2⟩ := sl_inv hv1
    have ha' := q2.resolve_right (fun q => hm q.1)
    have hxr : VsRel φ (List.replicate m z).flatten (List.replicate m z).flatten := by
      refine zero_rel fun x hx => ?_
      obtain ⟨l, hl, hxl⟩ := List.mem_flatten.1 hx
      rw [(List.mem_replicate.1 hl).2] at hxl
      exact hclean x hxl
    obtain ⟨w', hrun, hR⟩ := storeN_rel h ha' hxr hst
    have hzc : (Builtin.zeroCells v.cells m).toList = (List.replicate m z).flatten := by
      have := reps v.cells m
      rw [hvz] at this
      simpa [Builtin.zeroCells] using this
    refine ⟨.tuple #[], w', φ, .inl ?_, Phi.le_refl φ, .undef _, hR⟩
    rw [builtin_op ho hc, args_one ha]
    obtain ⟨m', rfl⟩ : ∃ m', m = m' + 1 := ⟨m - 1, by omega⟩
    simp [builtin, Builtin.clear_, type_first hts, q1, run_underlying ht, run_zero hi hv, hzc, hrun]
  · cases he

theorem good_mkSlice {_x3 : Operand} (ho : o.op = .makeSlice t x1 x2) (h1 : opd x1 = some y1) (h2 : opd x2 = some y2) (ht : P.underlying t = some (.slice e)) (hn : sizeT P e = some n) (hb : bytesT P e = some bytes) (hz : zeroOf P e = some z) (hzl : z.length = n)
    (hT : Opds φ T ρ) (h : R P C φ M w) (hnid : M nid = none) (he : evalOp C M T nid (.mkSlice bytes z y1 y2) = some out) : Good P C φ M w nid (execOp ρ o) out := by
  simp only [evalOp] at he
  have hv1 := hT x1 y1 h1
  have hv2 := hT x2 y2 h2
  split at he
  case h_2 => cases he
  rename_i k1 l k2 cp hq1 hq2
  split at he
  case isFalse => cases he
  rename_i hcond
  obtain ⟨hl0, hlc, hc1, hc2, hsc⟩ := hcond
  cases he
  rw [hq1] at hv1
  rw [hq2] at hv2
  obtain ⟨l, rfl⟩ := Int.eq_ofNat_of_zero_le hl0
  obtain ⟨cp, rfl⟩ := Int.eq_ofNat_of_zero_le (show 0 ≤ cp by omega)
  obtain ⟨i, v, hi, hv, hvz, hclean⟩ := zeroOf_inv hz
  have hib : i.bytes = bytes := by simp only [bytesT, hi, Option.map_some, Option.some.injEq] at hb; exact hb
  have hvs : v.cells.size = n := by rw [← hzl, ← hvz]; simp
  have w1 : IntKind.i64.wrap (l : Int) = l := wrap_small (by omega)
  have w2 : IntKind.i64.wrap (cp : Int) = cp := wrap_small (by omega)
  have hc2' : ¬ (281474976710656 < (bytes : Int) * (cp : Int)) := by omega
  have hlc' : ¬ ((cp : Int) < (l : Int)) := by omega
  have hlc2 : ¬ (cp < l) := by omega
  have n1 : ¬ ((l : Int) < 0) := by omega
  have n2 : ¬ ((cp : Int) < 0) := by omega
  simp only [Int.toNat_natCast] at *
  -- the zeros, as the model lays them
  obtain ⟨zz, hrun, hzz⟩ : ∃ zz : Array Value, ((if cp * n = 0 then pure #[] else (do pure (← zeroValue e).cells) : Sem (Array Value)).run P w = .ok zz w) ∧
      VsRel φ (List.replicate cp z).flatten ((Array.range (cp * n)).map (zz[· % zz.size]!)).toList := by
    by_cases h0 : cp * n = 0
    · refine ⟨#[], by rw [if_pos h0]; rfl, ?_⟩
      have : (List.replicate cp z).flatten = [] := by
        rcases Nat.mul_eq_zero.1 h0 with hl | hl
        · simp [hl]
        · have hz0 : z = [] := List.eq_nil_of_length_eq_zero (by omega)
          simp [hz0]
      rw [this, h0]
      simp
      exact .nil
    · refine ⟨v.cells, by rw [if_neg h0]; simp [run_zero hi hv], ?_⟩
      have := reps v.cells cp
      rw [hvs] at this ⊢
      rw [this, hvz]
      refine zero_rel fun x hx => ?_
      obtain ⟨l, hl, hxl⟩ := List.mem_flatten.1 hx
      rw [(List.mem_replicate.1 hl).2] at hxl
      exact hclean x hxl
  obtain ⟨hle, hR⟩ := h.new_cells hnid (List.replicate cp z).flatten ((Array.range (cp * n)).map (zz[· % zz.size]!)) e 0 none (fun t ht => by cases ht) (fun j x hx => by
    obtain ⟨x', p, q⟩ := hzz.get hx
    exact ⟨x', by rwa [← Array.getElem?_toList], q⟩)
  refine ⟨.slice (some ⟨w.heap.size, 0, none⟩) l cp, _, _, .inl ?_, hle, .slice ⟨nid, 0, none⟩ ⟨w.heap.size, 0, _, 0⟩ _ _ _ (Phi.set_self φ nid 0 _) (.inl rfl), hR⟩
  by_cases h0 : cp * n = 0
  · simp [execOp, ho, Instr.makeSlice, run_underlying ht, int_inv hv1, int_inv hv2, asInt, asIntOf, typeInfo, hi, hib, w1, w2, hc2', hlc', n1, n2, run_sizeOf hn, h0, newRow, Array.range_zero']
  · rw [if_neg h0] at hrun
    simp [run_zero hi hv] at hrun
    subst hrun
    simp [execOp, ho, Instr.makeSlice, run_underlying ht, int_inv hv1, int_inv hv2, asInt, asIntOf, typeInfo, hi, hib, w1, w2, hc2', hlc', n1, n2, run_sizeOf hn, h0, newRow, run_zero hi hv]

theorem good_mkmap (ho : o.op = .makeMap t none) (h : R P C φ M w) (hnid : M nid = none) (he : evalOp C M T nid .mkmap = some out) : Good P C φ M w nid (execOp ρ o) out := by
  simp only [evalOp] at he
  cases he
  obtain ⟨hle, hR⟩ := h.new hnid (o' := .map []) (.map #[] 0) 0 0 (fun hle hs => ⟨_, #[], 0, Phi.set_self φ nid 0 _, hs, heap_alloc_self w _, ⟨rfl, rfl⟩, fun i e he => by simp at he⟩)
  exact ⟨.map (some w.heap.size), _, _, .inl (by simp [execOp, ho, Instr.makeMap]), hle, .map nid ⟨w.heap.size, 0, 0, 0⟩ (Phi.set_self φ nid 0 _), hR⟩

/-- A loop over no map begins. -/
theorem good_mrange {x : Operand} {y : IOpd} {t k e : TypeId} (ho : o.op = .range t x) (ht : P.underlying t = some (.map k e)) (hx : opd x = some y) (hT : Opds φ T ρ) (h : R P C φ M w) (hn : out.new ≠ none → M nid = none)
    (he : evalOp C M T nid (.mrange y) = some out) : Good P C φ M w nid (execOp ρ o) out := by
  simp only [evalOp] at he
  have h1 := hT x y hx
  split at he
  · rename_i hv
    cases he
    rw [hv] at h1
    generalize hr : ρ x = r at h1
    cases h1 with
    | mapNil =>
      obtain ⟨hle, hR⟩ := h.new (hn (by simp)) (o' := .iter) (.mapIter none 0 #[] 0) 0 0 (fun _ _ => ⟨_, Phi.set_self φ nid 0 _, rfl, heap_alloc_self w _⟩)
      exact ⟨.pointer (some ⟨w.heap.size, 0, none⟩), _, _, .inl (by simp [execOp, ho, hr, Instr.range, run_underlying ht]), hle, .ptr _ _ ⟨_, Phi.set_self φ nid 0 _, rfl⟩, hR⟩
  · cases he

/-- It ends. -/
theorem good_mnext {x : Operand} {y : IOpd} (ho : o.op = .next x false) (hx : opd x = some y) (hT : Opds φ T ρ) (h : R P C φ M w) (he : evalOp C M T nid (.mnext y) = some out) : Good P C φ M w nid (execOp ρ o) out := by
  simp only [evalOp] at he
  have h1 := hT x y hx
  split at he
  · rename_i a hv
    split at he
    · rename_i hM
      split at he
      · rename_i hc
        cases he
        rw [hv] at h1
        generalize hr : ρ x = r at h1
        cases h1 with
        | ptr _ a' ha =>
          obtain ⟨l, h2, rfl⟩ := ha
          obtain ⟨l', h3, h4, h5⟩ := h.obj _ _ hM
          have hver : ver a = 0 := by
            unfold ver
            cases hs : a.spot with
            | none => rfl
            | some _ => rw [hs] at hc; simp at hc
          rw [hver, h3] at h2
          cases h2
          refine good_rd h (v' := .tuple #[.bool false]) ?_ .over
          simp [execOp, ho, hr, Instr.next, h4, hc.1, getObj, h5, Sem.run, Result.andThen]
      · cases he
    · cases he
  · cases he
end
end
end Go.Ak
