/-
  Each operation, against the model's: those that look at no memory.
-/
import Derived.Test.YtlikgpehalhgkaaAiApp
import Derived.Laws.Entries
import Derived.Laws.BytesString
namespace Go.Ai

/-- An operation's run gives a value (or none), and the relation goes on. -/
def Good (P : Program) (C : Ctx) (φ : Phi) (M : Nat → Option AObj) (w : World) (nid : Nat) (s : Sem Next) (out : AOut) : Prop :=
  ∃ v' w' φ', (s.run P w = .ok (.value v') w' ∨ (s.run P w = .ok .skip w' ∧ v' = undef)) ∧ φ.le φ' ∧ VRel φ' out.v v' ∧ R P C φ' (patch M nid out) w'

section
variable {P : Program} {C : Ctx} {φ : Phi} {M : Nat → Option AObj} {w : World} {T : Nat → Value} {nid : Nat} {ρ : Operand → Value} {out : AOut}

/-- The operands. -/
def Opds (φ : Phi) (T : Nat → Value) (ρ : Operand → Value) : Prop := ∀ x y, opd x = some y → VRel φ (y.val T) (ρ x)

theorem opds_of {a : Act} (hT : TRel φ T a.tmps) : Opds φ T a.eval := by
  intro x y h
  cases x with
  | tmp t => simp [opd] at h; subst h; exact hT t
  | const v =>
    simp [opd] at h
    obtain ⟨h1, rfl⟩ := h
    exact clean_rel (old_zero φ) h1
  | global g => simp [opd] at h
  | func f => simp [opd] at h; subst h; exact .func _ _ _ _ _ .nil .nil

theorem good_pure (h : R P C φ M w) {s : Sem Next} {v v' : Value} (hs : s.run P w = .ok (.value v') w) (hv : VRel φ v v') : Good P C φ M w nid s { v } :=
  ⟨v', w, φ, .inl hs, Phi.le_refl φ, hv, h⟩

theorem good_rd (h : R P C φ M w) {s : Sem Next} {v v' : Value} {rd : List Nat} (hs : s.run P w = .ok (.value v') w) (hv : VRel φ v v') : Good P C φ M w nid s { v, rd } :=
  ⟨v', w, φ, .inl hs, Phi.le_refl φ, hv, h⟩

theorem bool_inv {v' : Value} {b : Bool} (h : VRel φ (.bool b) v') : v' = .bool b := by cases h; rfl
theorem int_inv {v' : Value} {k : IntKind} {n : Int} (h : VRel φ (.int k n) v') : v' = .int k n := by cases h; rfl
theorem str_inv {v' : Value} {s : ByteArray} (h : VRel φ (.string s) v') : v' = .string s := by cases h; rfl
theorem ptr_inv {v' : Value} {a : Addr} (h : VRel φ (.pointer (some a)) v') : ∃ a', v' = .pointer (some a') ∧ ARel φ a a' := by cases h with | ptr _ a' h => exact ⟨a', rfl, h⟩
theorem agg_inv {v' : Value} {cs : Array Value} (h : VRel φ (.agg cs) v') : ∃ cs', v' = .agg cs' ∧ VsRel φ cs.toList cs'.toList := by cases h with | agg _ a' h => exact ⟨a', rfl, h⟩
theorem nilsl_inv {v' : Value} {l c : Nat} (h : VRel φ (.slice none l c) v') : v' = .slice none l c := by cases h; rfl
theorem asCell_inv {v : Value} {a : Addr} (h : asCell v = some a) : v = .pointer (some a) := by
  cases v with
  | pointer x => cases x <;> simp [asCell] at h; subst h; rfl
  | _ => simp [asCell] at h

/-- A slice that leads somewhere. -/
theorem sl_inv {v' : Value} {a : Addr} {n c : Nat} (h : VRel φ (.slice (some a) n c) v') :
    ∃ a' c', v' = .slice (some a') n c' ∧ c ≤ c' ∧ (ARel φ a a' ∨ (n = 0 ∧ c = 0 ∧ c' = 0)) := by
  cases h with
  | slice _ l _ _ c' h1 h2 => exact ⟨_, c', rfl, by rcases h2 with rfl | ⟨_, h, _⟩ <;> omega, .inl ⟨l, h1, rfl⟩⟩
  | slice0 _ a' => exact ⟨a', 0, rfl, Nat.le_refl _, .inr ⟨rfl, rfl, rfl⟩⟩

variable {o : Oper}

theorem good_move {x : Operand} {y : IOpd} (ho : o.op = .move x ∨ o.op = .assign x) (hx : opd x = some y) (hT : Opds φ T ρ) (h : R P C φ M w) : Good P C φ M w nid (execOp ρ o) { v := y.val T } := by
  refine good_pure h (v' := ρ x) ?_ (hT x y hx)
  rcases ho with ho | ho <;> simp [execOp, ho]

theorem good_pick {c a b : Operand} {c' a' b' : IOpd} (ho : o.op = .pick c a b) (hc : opd c = some c') (ha : opd a = some a') (hb : opd b = some b') (hT : Opds φ T ρ) (h : R P C φ M w)
    (he : evalOp C M T nid (.pick c' a' b') = some out) : Good P C φ M w nid (execOp ρ o) out := by
  simp only [evalOp] at he
  split at he
  · rename_i t ht
    cases he
    have h1 := hT c c' hc
    rw [ht] at h1
    have h2 := bool_inv h1
    refine good_pure h (v' := if t then ρ a else ρ b) ?_ ?_
    · simp only [execOp, ho, h2, asBool]
      cases t <;> simp
    · cases t
      · exact hT b b' hb
      · exact hT a a' ha
  · cases he

theorem good_nilCheck {x : Operand} {y : IOpd} (ho : o.op = .nilCheck x) (hx : opd x = some y) (hT : Opds φ T ρ) (h : R P C φ M w)
    (he : evalOp C M T nid (.nilCheck y) = some out) : Good P C φ M w nid (execOp ρ o) out := by
  simp only [evalOp] at he
  have h1 := hT x y hx
  split at he
  · rename_i a ha
    cases he
    rw [ha] at h1
    obtain ⟨a', h2, h3⟩ := ptr_inv h1
    exact good_pure h (by simp [execOp, ho, h2]) (.ptr _ _ h3)
  · rename_i f a b hf
    cases he
    rw [hf] at h1
    generalize hr : ρ x = r at h1
    cases h1 with
    | func _ _ _ a' b' h2 h3 =>
      refine good_pure h (v' := .func (.func f) a' b') ?_ (.func _ _ _ _ _ h2 h3)
      simp [execOp, ho, hr]
  · cases he

theorem good_extract {x : Operand} {y : IOpd} {k : Nat} (ho : o.op = .extract x k) (hx : opd x = some y) (hT : Opds φ T ρ) (h : R P C φ M w)
    (he : evalOp C M T nid (.extract k y) = some out) : Good P C φ M w nid (execOp ρ o) out := by
  simp only [evalOp] at he
  have h1 := hT x y hx
  split at he
  · rename_i vs hvs
    split at he
    · rename_i h2
      cases hk : vs.toList[k]? with
      | none => rw [hk] at he; cases he
      | some v =>
        rw [hk] at he
        cases he
        rw [hvs] at h1
        generalize hr : ρ x = r at h1
        cases h1 with
        | undef => simp at h2
        | absent => simp at h2
        | tup _ vs' _ hh =>
          obtain ⟨v', p, q⟩ := hh.get hk
          refine good_pure h (v' := v') ?_ q
          simp only [execOp, ho, hr, Instr.extract]
          simp at p
          simp [p]
    · cases he
  · cases he

theorem good_num {op : BinOp} {t yt : TypeId} {x y : Operand} {x' y' : IOpd} (ho : o.op = .binOp op t x y yt) (hx : opd x = some x') (hy : opd y = some y') (hT : Opds φ T ρ) (h : R P C φ M w)
    (he : evalOp C M T nid (.bin .num op x' y') = some out) : Good P C φ M w nid (execOp ρ o) out := by
  have h1 := hT x x' hx
  have h2 := hT y y' hy
  simp only [evalOp, binA] at he
  split at he
  · rename_i k a k' b hxa hyb
    rw [hxa] at h1
    rw [hyb] at h2
    have e1 := int_inv h1
    have e2 := int_inv h2
    have hg : eqGuard op t x y (.int k a) (.int k' b) = pure () := eqGuard_at_int ..
    have key : ∀ v, (binOp op t (.int k a) (.int k' b)).run P w = .ok v w → VRel φ out.v v → out = { v := out.v } → Good P C φ M w nid (execOp ρ o) out := by
      intro v hv hr hout
      rw [hout]
      refine good_pure h (v' := v) ?_ hr
      simp [execOp, ho, e1, e2, hg, hv]
    cases op with
    | shl =>
      simp only at he
      split at he
      · cases he
      · rename_i hb
        cases he
        refine key _ ?_ (.int _ _) rfl
        simp [binOp, Op.shift, hb]
    | shr =>
      simp only at he
      split at he
      · cases he
      · rename_i hb
        cases he
        refine key _ ?_ (.int _ _) rfl
        simp [binOp, Op.shift, hb]
    | quo =>
      simp only at he
      split at he
      case isFalse => cases he
      rename_i hk
      subst hk
      simp only [binNum] at he
      split at he
      · cases he
      · rename_i hb
        cases he
        refine key _ ?_ (.int _ _) rfl
        simp [binOp, Op.intDiv, hb]
    | rem =>
      simp only at he
      split at he
      case isFalse => cases he
      rename_i hk
      subst hk
      simp only [binNum] at he
      split at he
      · cases he
      · rename_i hb
        cases he
        refine key _ ?_ (.int _ _) rfl
        simp [binOp, Op.intDiv, hb]
    | _ =>
      simp only at he
      split at he
      case isFalse => cases he
      rename_i hk
      subst hk
      simp only [binNum, cmpNum, Option.map_some] at he
      cases he
      refine key _ ?_ (by constructor) rfl
      simp [binOp, Op.intArith, Op.intBits, Op.intCmp]
  · cases he

theorem bytesEq_iff : ∀ (a b : List UInt8), bytesEq a b = true ↔ a = b
  | [], [] => by simp [bytesEq]
  | [], _ :: _ => by simp [bytesEq]
  | _ :: _, [] => by simp [bytesEq]
  | x :: a, y :: b => by
    have ih := bytesEq_iff a b
    constructor
    · intro h
      simp only [bytesEq, Bool.and_eq_true] at h
      have h1 := Nat.eq_of_beq_eq_true h.1
      rw [ih.1 h.2, UInt8.toNat_inj.1 h1]
    · intro h
      cases h
      simp only [bytesEq, Bool.and_eq_true]
      exact ⟨Nat.beq_refl _, ih.2 rfl⟩

theorem bytesEq_of (a b : ByteArray) : bytesEq a.data.toList b.data.toList = (a.toList == b.toList) := by
  rw [Bool.eq_iff_iff, bytesEq_iff]
  simp [ByteArray.toList_eq]


theorem equalIn_bool (n : Nat) {t : TypeId} (ht : P.underlying t = some .bool) (a b : Bool) (w : World) : (Op.equalIn (n + 1) t (.bool a) (.bool b)).run P w = .ok (a == b) w := by
  simp [Op.equalIn, run_underlying ht]
theorem equal_bool {t : TypeId} (ht : P.underlying t = some .bool) (a b : Bool) (w : World) : (Op.equal t (.bool a) (.bool b)).run P w = .ok (a == b) w := equalIn_bool 9999 ht a b w

theorem good_boo {op : BinOp} {t yt : TypeId} {x y : Operand} {x' y' : IOpd} (ho : o.op = .binOp op t x y yt) (ht : P.underlying t = some .bool) (hx : opd x = some x') (hy : opd y = some y') (hT : Opds φ T ρ) (h : R P C φ M w)
    (he : evalOp C M T nid (.bin .boo op x' y') = some out) : Good P C φ M w nid (execOp ρ o) out := by
  have h1 := hT x x' hx
  have h2 := hT y y' hy
  simp only [evalOp, binA] at he
  split at he
  · rename_i a b hxa hyb
    cases he
    rw [hxa] at h1
    rw [hyb] at h2
    refine good_pure h (v' := .bool (a == b)) ?_ (.bool _)
    have hg : eqGuard .eql t x y (.bool a) (.bool b) = pure () := eqGuard_at_bool ..
    simp [execOp, ho, bool_inv h1, bool_inv h2, hg, binOp, equal_bool ht]
  · rename_i a b hxa hyb
    cases he
    rw [hxa] at h1
    rw [hyb] at h2
    refine good_pure h (v' := .bool (!(a == b))) ?_ (.bool _)
    have hg : eqGuard .neq t x y (.bool a) (.bool b) = pure () := eqGuard_at_bool ..
    simp [execOp, ho, bool_inv h1, bool_inv h2, hg, binOp, equal_bool ht]
  · cases he

theorem good_str {op : BinOp} {t yt : TypeId} {x y : Operand} {x' y' : IOpd} (ho : o.op = .binOp op t x y yt) (hx : opd x = some x') (hy : opd y = some y') (hT : Opds φ T ρ) (h : R P C φ M w)
    (he : evalOp C M T nid (.bin .str op x' y') = some out) : Good P C φ M w nid (execOp ρ o) out := by
  have h1 := hT x x' hx
  have h2 := hT y y' hy
  simp only [evalOp, binA] at he
  split at he
  · rename_i a b hxa hyb
    cases he
    rw [hxa] at h1
    rw [hyb] at h2
    refine good_pure h (v' := .bool (a.toList == b.toList)) ?_ (by rw [bytesEq_of]; exact .bool _)
    have hg : eqGuard .eql t x y (.string a) (.string b) = pure () := eqGuard_at_string ..
    simp [execOp, ho, str_inv h1, str_inv h2, hg, binOp, Op.stringOp]
  · rename_i a b hxa hyb
    cases he
    rw [hxa] at h1
    rw [hyb] at h2
    refine good_pure h (v' := .bool (!(a.toList == b.toList))) ?_ (by rw [bytesEq_of]; exact .bool _)
    have hg : eqGuard .neq t x y (.string a) (.string b) = pure () := eqGuard_at_string ..
    simp [execOp, ho, str_inv h1, str_inv h2, hg, binOp, Op.stringOp]
  · cases he

theorem isNil_rel {k : BK} {v v' : Value} {b : Bool} (h : VRel φ v v') (hb : isNil k v = some b) : isNil k v' = some b := by
  cases h <;> cases k <;> simp_all [isNil]

/-- A type whose values can be held against nil. -/
def RefDesc : BK → TypeDesc → Prop
  | .ptr, .pointer _ | .slc, .slice _ | .mp, .map _ _ | .fn, .func _ _ _ | .ifc, .interface _ => True
  | _, _ => False

theorem equalIn_nil (n : Nat) {k : BK} {t : TypeId} {d : TypeDesc} (ht : P.underlying t = some d) (hd : RefDesc k d) {x y : Value} {b c : Bool} (hx : isNil k x = some b) (hy : isNil k y = some c) (hbc : b = true ∨ c = true) (w : World) :
    (Op.equalIn (n + 1) t x y).run P w = .ok (b && c) w := by
  simp only [Op.equalIn, Sem.run_bind, run_underlying ht, Result.andThen_ok]
  cases k <;> cases d <;> simp only [RefDesc] at hd
  · cases x <;> simp only [isNil, reduceCtorEq, Option.some.injEq] at hx
    cases y <;> simp only [isNil, reduceCtorEq, Option.some.injEq] at hy
    rename_i a1 a2
    subst hx hy
    cases a1 <;> cases a2 <;> simp_all
  · cases x <;> simp only [isNil, reduceCtorEq, Option.some.injEq] at hx
    cases y <;> simp only [isNil, reduceCtorEq, Option.some.injEq] at hy
    rename_i a1 _ _ a2 _ _
    subst hx hy
    cases a1 <;> cases a2 <;> simp_all
  · cases x <;> simp only [isNil, reduceCtorEq, Option.some.injEq] at hx
    cases y <;> simp only [isNil, reduceCtorEq, Option.some.injEq] at hy
    rename_i a1 a2
    subst hx hy
    cases a1 <;> cases a2 <;> simp_all
  · cases x <;> simp only [isNil, reduceCtorEq, Option.some.injEq] at hx <;> cases y <;> simp only [isNil, reduceCtorEq, Option.some.injEq] at hy <;> subst hx hy <;> simp_all
  · cases x <;> simp only [isNil, reduceCtorEq, Option.some.injEq] at hx <;> cases y <;> simp only [isNil, reduceCtorEq, Option.some.injEq] at hy <;> subst hx hy <;> simp_all

theorem equal_nil {k : BK} {t : TypeId} {d : TypeDesc} (ht : P.underlying t = some d) (hd : RefDesc k d) {x y : Value} {b c : Bool} (hx : isNil k x = some b) (hy : isNil k y = some c) (hbc : b = true ∨ c = true) (w : World) :
    (Op.equal t x y).run P w = .ok (b && c) w := equalIn_nil 9999 ht hd hx hy hbc w

theorem good_ref {k : BK} {op : BinOp} {t yt : TypeId} {d : TypeDesc} {x y : Operand} {x' y' : IOpd} (ho : o.op = .binOp op t x y yt) (ht : P.underlying t = some d) (hd : RefDesc k d) (hc : k = .ifc → isConstO x = true ∨ isConstO y = true)
    (hx : opd x = some x') (hy : opd y = some y') (hT : Opds φ T ρ) (h : R P C φ M w)
    (he : evalOp C M T nid (.bin k op x' y') = some out) : Good P C φ M w nid (execOp ρ o) out := by
  have h1 := hT x x' hx
  have h2 := hT y y' hy
  have hk : binA k op (x'.val T) (y'.val T) = refA op (isNil k (x'.val T)) (isNil k (y'.val T)) := by
    cases k <;> simp only [RefDesc] at hd <;> rfl
  simp only [evalOp, hk, refA] at he
  have hg : ∀ b c, isNil k (ρ x) = some b → isNil k (ρ y) = some c → (eqGuard op t x y (ρ x) (ρ y)).run P w = .ok () w := by
    intro b c hb hc'
    generalize ρ x = vx at hb
    generalize ρ y = vy at hc'
    cases k <;> simp only [RefDesc] at hd
    all_goals (cases vx <;> simp only [isNil, reduceCtorEq] at hb)
    · rw [eqGuard_at_pointer]; rfl
    · rw [eqGuard_at_slice]; rfl
    · rw [eqGuard_at_map]; rfl
    · rw [eqGuard_at_func]; rfl
    · rw [eqGuard_at_nilFunc]; rfl
    · rw [eqGuard_at_iface]; rfl
    cases vy <;> simp only [isNil, reduceCtorEq] at hc'
    · rw [eqGuard_nil_iface]; rfl
    · rcases hc rfl with hh | hh
      · cases x <;> simp only [isConstO, Bool.false_eq_true] at hh
        rw [eqGuard_nil_constL]; rfl
      · cases y <;> simp only [isConstO, Bool.false_eq_true] at hh
        rw [eqGuard_nil_constR]; rfl
  have run : ∀ b c, isNil k (ρ x) = some b → isNil k (ρ y) = some c → (b = true ∨ c = true) → (op = .eql → (binOp op t (ρ x) (ρ y)).run P w = .ok (.bool (b && c)) w) ∧ (op = .neq → (binOp op t (ρ x) (ρ y)).run P w = .ok (.bool (!(b && c))) w) := by
    intro b c hb hc' hbc
    have heq := equal_nil ht hd hb hc' hbc w
    constructor <;> intro hop <;> subst hop
    all_goals
      generalize ρ x = vx at hb heq
      generalize ρ y = vy at hc' heq
      cases k <;> simp only [RefDesc] at hd <;> cases vx <;> simp only [isNil, reduceCtorEq] at hb <;> cases vy <;> simp only [isNil, reduceCtorEq] at hc' <;> simp [binOp, heq]
  have fin : ∀ r : Bool, (binOp op t (ρ x) (ρ y)).run P w = .ok (.bool r) w → (∃ b c, isNil k (ρ x) = some b ∧ isNil k (ρ y) = some c) → out = { v := .bool r } → Good P C φ M w nid (execOp ρ o) out := by
    intro r hr ⟨b, c, hb, hc'⟩ hout
    subst hout
    refine good_pure h (v' := .bool r) ?_ (.bool _)
    simp [execOp, ho, hg b c hb hc', hr]
  split at he
  · rename_i b hxa hyb
    cases he
    have a1 := isNil_rel h1 hxa
    have a2 := isNil_rel h2 hyb
    exact fin b (by simpa using (run _ _ a1 a2 (.inl rfl)).1 rfl) ⟨_, _, a1, a2⟩ rfl
  · rename_i hxa hyb
    cases he
    have a1 := isNil_rel h1 hxa
    have a2 := isNil_rel h2 hyb
    exact fin false (by simpa using (run _ _ a1 a2 (.inr rfl)).1 rfl) ⟨_, _, a1, a2⟩ rfl
  · rename_i b hxa hyb
    cases he
    have a1 := isNil_rel h1 hxa
    have a2 := isNil_rel h2 hyb
    exact fin (!b) (by simpa using (run _ _ a1 a2 (.inl rfl)).2 rfl) ⟨_, _, a1, a2⟩ rfl
  · rename_i hxa hyb
    cases he
    have a1 := isNil_rel h1 hxa
    have a2 := isNil_rel h2 hyb
    exact fin true (by simpa using (run _ _ a1 a2 (.inr rfl)).2 rfl) ⟨_, _, a1, a2⟩ rfl
  · cases he
end
end Go.Ai
