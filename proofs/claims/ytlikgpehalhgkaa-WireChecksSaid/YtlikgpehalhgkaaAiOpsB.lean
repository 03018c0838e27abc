/-
  Each operation, against the model's: numbers, places, bounds.
-/
import Derived.Test.YtlikgpehalhgkaaAiOpsA
namespace Go.Ai
section
variable {P : Program} {C : Ctx} {φ : Phi} {M : Nat → Option AObj} {w : World} {T : Nat → Value} {nid : Nat} {ρ : Operand → Value} {out : AOut} {o : Oper}

theorem good_not {t : TypeId} {x : Operand} {y : IOpd} (ho : o.op = .unOp .not t x) (hx : opd x = some y) (hT : Opds φ T ρ) (h : R P C φ M w)
    (he : evalOp C M T nid (.not y) = some out) : Good P C φ M w nid (execOp ρ o) out := by
  simp only [evalOp] at he
  have h1 := hT x y hx
  split at he
  · rename_i b hb
    cases he
    rw [hb] at h1
    exact good_pure h (v' := .bool (!b)) (by simp [execOp, ho, bool_inv h1, Op.unary]) (.bool _)
  · cases he

theorem good_neg {t : TypeId} {x : Operand} {y : IOpd} (ho : o.op = .unOp .neg t x) (hx : opd x = some y) (hT : Opds φ T ρ) (h : R P C φ M w)
    (he : evalOp C M T nid (.neg y) = some out) : Good P C φ M w nid (execOp ρ o) out := by
  simp only [evalOp] at he
  have h1 := hT x y hx
  split at he
  · rename_i k n hb
    cases he
    rw [hb] at h1
    exact good_pure h (v' := .int k (k.wrap (0 - n))) (by simp [execOp, ho, int_inv h1, Op.unary, Op.intArith]) (.int _ _)
  · cases he

theorem good_conv {s d : TypeId} {k ks : IntKind} {x : Operand} {y : IOpd} (ho : o.op = .convert s d x) (hs : P.underlying s = some (.int ks)) (hd : P.underlying d = some (.int k)) (hx : opd x = some y) (hT : Opds φ T ρ) (h : R P C φ M w)
    (he : evalOp C M T nid (.conv k y) = some out) : Good P C φ M w nid (execOp ρ o) out := by
  simp only [evalOp] at he
  have h1 := hT x y hx
  split at he
  · rename_i k0 n hb
    cases he
    rw [hb] at h1
    exact good_pure h (v' := .int k (k.wrap n)) (by simp [execOp, ho, int_inv h1, convert, run_underlying hs, run_underlying hd, Conv.intToInt]) (.int _ _)
  · cases he

theorem good_faddr {s : TypeId} {fs : Array Field} {g : Field} {f n : Nat} {x : Operand} {y : IOpd} (ho : o.op = .fieldAddr s x f) (hs : P.underlying s = some (.struct fs)) (hf : fs[f]? = some g) (hn : sizeT P g.type = some n) (h0 : n ≠ 0) (hx : opd x = some y)
    (hT : Opds φ T ρ) (h : R P C φ M w) (he : evalOp C M T nid (.faddr g.offset y) = some out) : Good P C φ M w nid (execOp ρ o) out := by
  simp only [evalOp] at he
  have h1 := hT x y hx
  split at he
  · rename_i a ha
    cases he
    rw [asCell_inv ha] at h1
    obtain ⟨a', h2, h3⟩ := ptr_inv h1
    refine good_pure h (v' := .pointer (some (a'.add g.offset))) ?_ (.ptr _ _ (aadd_rel h3 _))
    simp only [sizeT, Option.map_eq_some_iff] at hn
    obtain ⟨i, hi, hin⟩ := hn
    simp [execOp, ho, h2, Instr.fieldAt, run_underlying hs, hf, Instr.sureAddr, fieldPlace, sizeOf, typeInfo, hi, hin, h0]
  · cases he

theorem run_isAgg {t : TypeId} {b : Bool} (h : isAggT P t = some b) (w : World) : (isAgg t).run P w = .ok b w := by
  unfold isAggT at h
  cases hd : P.underlying t with
  | none => rw [hd] at h; cases h
  | some d =>
    rw [hd] at h
    cases d <;> simp only [Option.some.injEq] at h <;> subst h <;> simp [isAgg, run_underlying hd]

theorem run_sizeOf {t : TypeId} {n : Nat} (h : sizeT P t = some n) (w : World) : (sizeOf t).run P w = .ok n w := by
  simp only [sizeT, Option.map_eq_some_iff] at h
  obtain ⟨i, hi, hin⟩ := h
  simp [sizeOf, typeInfo, hi, hin]

/-- A part of a struct or an array. -/
theorem part_rel {t : TypeId} {n off : Nat} {b : Bool} {cs cs' : Array Value} (hn : sizeT P t = some n) (hb : isAggT P t = some b) (hcs : VsRel φ cs.toList cs'.toList) {v : Value}
    (hv : (if b then some (.agg (cs.extract off (off + n))) else cs[off]?) = some v) (w : World) : ∃ v', (part t cs' off).run P w = .ok v' w ∧ VRel φ v v' := by
  cases b with
  | true =>
    simp only [if_true, Option.some.injEq] at hv
    subst hv
    refine ⟨.agg (cs'.extract off (off + n)), ?_, .agg _ _ ?_⟩
    · simp [part, run_isAgg hb, run_sizeOf hn]
    · simp only [Array.toList_extract, List.extract_eq_take_drop]
      exact (hcs.drop off).take _
  | false =>
    simp only [Bool.false_eq_true, if_false] at hv
    obtain ⟨v', p, q⟩ := hcs.get (i := off) (v := v) (by simpa using hv)
    refine ⟨v', ?_, q⟩
    simp at p
    simp [part, run_isAgg hb, p]

theorem good_field {s : TypeId} {fs : Array Field} {g : Field} {f n : Nat} {b : Bool} {x : Operand} {y : IOpd} (ho : o.op = .field s x f) (hs : P.underlying s = some (.struct fs)) (hf : fs[f]? = some g) (hn : sizeT P g.type = some n) (hb : isAggT P g.type = some b) (hx : opd x = some y)
    (hT : Opds φ T ρ) (h : R P C φ M w) (he : evalOp C M T nid (.field g.offset n b y) = some out) : Good P C φ M w nid (execOp ρ o) out := by
  simp only [evalOp] at he
  have h1 := hT x y hx
  split at he
  · rename_i cs hcs
    rw [hcs] at h1
    obtain ⟨cs', h2, h3⟩ := agg_inv h1
    have key : ∃ v, (if b then some (.agg (cs.extract g.offset (g.offset + n))) else cs[g.offset]?) = some v ∧ out = { v } := by
      cases b with
      | true => simp at he; exact ⟨_, rfl, he.symm⟩
      | false =>
        simp only [Bool.false_eq_true, if_false, Option.map_eq_some_iff] at he
        obtain ⟨v, hv, rfl⟩ := he
        exact ⟨v, by simpa using hv, rfl⟩
    obtain ⟨v, hv, rfl⟩ := key
    obtain ⟨v', p, q⟩ := part_rel hn hb h3 hv w
    exact good_pure h (v' := v') (by simp [execOp, ho, h2, Instr.field, run_underlying hs, hf, asAgg, p]) q
  · cases he

theorem good_idxS {t e : TypeId} {n : Nat} {x i : Operand} {y j : IOpd} (ho : o.op = .indexAddr t x i) (ht : P.underlying t = some (.slice e)) (hn : sizeT P e = some n) (hx : opd x = some y) (hi : opd i = some j)
    (hT : Opds φ T ρ) (h : R P C φ M w) (he : evalOp C M T nid (.idxS n y j) = some out) : Good P C φ M w nid (execOp ρ o) out := by
  simp only [evalOp] at he
  have h1 := hT x y hx
  have h2 := hT i j hi
  split at he
  · rename_i a len cap k ix ha hb
    split at he
    · rename_i hlt
      cases he
      rw [ha] at h1
      rw [hb] at h2
      obtain ⟨a', c', h3, _, h4⟩ := sl_inv h1
      have h4 := h4.resolve_right (by omega)
      refine good_pure h (v' := .pointer (some (a'.add (ix.toNat * n)))) ?_ (.ptr _ _ (aadd_rel h4 _))
      simp [execOp, ho, h3, int_inv h2, Instr.indexAt, asIntOf, run_underlying ht, hlt, run_sizeOf hn]
    · cases he
  · cases he

theorem good_idxA {t e : TypeId} {len n : Nat} {x i : Operand} {y j : IOpd} (ho : o.op = .indexAddr t x i) (ht : P.underlying t = some (.array len e)) (hn : sizeT P e = some n) (hx : opd x = some y) (hi : opd i = some j)
    (hT : Opds φ T ρ) (h : R P C φ M w) (he : evalOp C M T nid (.idxA len n y j) = some out) : Good P C φ M w nid (execOp ρ o) out := by
  simp only [evalOp] at he
  have h1 := hT x y hx
  have h2 := hT i j hi
  split at he
  · rename_i a k ix ha hb
    split at he
    · rename_i hlt
      cases he
      rw [asCell_inv ha] at h1
      rw [hb] at h2
      obtain ⟨a', h3, h4⟩ := ptr_inv h1
      refine good_pure h (v' := .pointer (some (a'.add (ix.toNat * n)))) ?_ (.ptr _ _ (aadd_rel h4 _))
      simp [execOp, ho, h3, int_inv h2, Instr.indexAt, asIntOf, run_underlying ht, Instr.sureAddr, hlt, run_sizeOf hn]
    · cases he
  · cases he

theorem good_idxV {t e : TypeId} {len n : Nat} {b : Bool} {x i : Operand} {y j : IOpd} (ho : o.op = .index t x i) (ht : P.underlying t = some (.array len e)) (hn : sizeT P e = some n) (hb : isAggT P e = some b) (hx : opd x = some y) (hi : opd i = some j)
    (hT : Opds φ T ρ) (h : R P C φ M w) (he : evalOp C M T nid (.idxV len n b y j) = some out) : Good P C φ M w nid (execOp ρ o) out := by
  simp only [evalOp] at he
  have h1 := hT x y hx
  have h2 := hT i j hi
  split at he
  · rename_i cs k ix hcs hix
    split at he
    · rename_i hlt
      rw [hcs] at h1
      rw [hix] at h2
      obtain ⟨cs', h3, h4⟩ := agg_inv h1
      have key : ∃ v, (if b then some (.agg (cs.extract (ix.toNat * n) (ix.toNat * n + n))) else cs[ix.toNat * n]?) = some v ∧ out = { v } := by
        cases b with
        | true => simp at he; exact ⟨_, rfl, he.symm⟩
        | false =>
          simp only [Bool.false_eq_true, if_false, Option.map_eq_some_iff] at he
          obtain ⟨v, hv, rfl⟩ := he
          exact ⟨v, by simpa using hv, rfl⟩
      obtain ⟨v, hv, rfl⟩ := key
      obtain ⟨v', p, q⟩ := part_rel hn hb h4 hv w
      exact good_pure h (v' := v') (by simp [execOp, ho, h3, int_inv h2, Instr.index, asIntOf, run_underlying ht, hlt, run_sizeOf hn, p]) q
    · cases he
  · cases he

theorem good_idxStr {t : TypeId} {x i : Operand} {y j : IOpd} (ho : o.op = .index t x i) (ht : P.underlying t = some .string) (hx : opd x = some y) (hi : opd i = some j)
    (hT : Opds φ T ρ) (h : R P C φ M w) (he : evalOp C M T nid (.idxStr y j) = some out) : Good P C φ M w nid (execOp ρ o) out := by
  simp only [evalOp] at he
  have h1 := hT x y hx
  have h2 := hT i j hi
  split at he
  · rename_i s k ix hs hix
    split at he
    · rename_i h0
      rw [hs] at h1
      rw [hix] at h2
      simp only [Option.map_eq_some_iff] at he
      obtain ⟨c, hc, rfl⟩ := he
      refine good_pure h (v' := .int .u8 c.toNat) ?_ (.int _ _)
      have hc' : s[ix.toNat]? = some c := by
        have hlt : ix.toNat < s.data.toList.length := (List.getElem?_eq_some_iff.1 hc).1
        have hsz : ix.toNat < s.size := by simpa using hlt
        rw [getElem?_pos s ix.toNat hsz]
        rw [List.getElem?_eq_getElem hlt] at hc
        simp at hc
        exact congrArg some hc
      simp [execOp, ho, str_inv h1, int_inv h2, Instr.index, asIntOf, run_underlying ht, h0, hc']
    · cases he
  · cases he

theorem good_lenC {s : Sem Next} {n : Nat} (hs : s.run P w = .ok (.value (.int .i64 n)) w) (h : R P C φ M w) (he : evalOp C M T nid (.lenC n) = some out) : Good P C φ M w nid s out := by
  simp only [evalOp] at he
  cases he
  exact good_pure h hs (.int _ _)

/-- A bound of a slice expression. -/
theorem bnd_run {x : Option Operand} {y : Option IOpd} (hx : optOpd x = some y) (hT : Opds φ T ρ) {dflt lim n : Nat} (hb : bnd T y dflt lim = some n) :
    (x = none ∧ n = dflt) ∨ ∃ x0, x = some x0 ∧ n ≤ lim ∧ ∃ k i, ρ x0 = .int k i ∧ 0 ≤ i ∧ i.toNat = n := by
  cases x with
  | none =>
    simp [optOpd] at hx
    subst hx
    simp [bnd] at hb
    exact .inl ⟨rfl, hb.symm⟩
  | some x0 =>
    simp only [optOpd, Option.map_eq_some_iff] at hx
    obtain ⟨y0, hy0, rfl⟩ := hx
    simp only [bnd] at hb
    split at hb
    · rename_i k i hv
      split at hb
      · rename_i hc
        cases hb
        have h1 := hT x0 y0 hy0
        rw [hv] at h1
        exact .inr ⟨x0, rfl, by omega, k, i, int_inv h1, hc.1, rfl⟩
      · cases hb
    · cases hb

theorem run_sliceBound {k : IntKind} {i : Int} {y : Nat} (code : BoundsCode) (h0 : 0 ≤ i) (h : i.toNat ≤ y) (w : World) : (Instr.sliceBound (.int k i) y code).run P w = .ok i.toNat w := by
  have : i ≤ (y : Int) := by omega
  simp [Instr.sliceBound, asIntOf, h0, this]

/-- The bounds of a slice expression; a capacity that is greater changes nothing but the third. -/
theorem bounds_run {lo hi mx : Option Operand} {lo' hi' mx' : Option IOpd} (h1 : optOpd lo = some lo') (h2 : optOpd hi = some hi') (h3 : optOpd mx = some mx') (hm : (hi.isNone && mx.isSome) = false) (hT : Opds φ T ρ)
    {len cap c' l hh m : Nat} (hc : cap ≤ c') (hb : bounds T len cap lo' hi' mx' = some (l, hh, m)) (isS : Bool) (w : World) :
    l ≤ hh ∧ hh ≤ m ∧ ∃ m', (Instr.sliceBounds isS len c' (lo.map ρ) (hi.map ρ) (mx.map ρ)).run P w = .ok (l, hh, m') w ∧ ((m = cap ∧ m' = c') ∨ (m' = m ∧ m ≤ cap)) := by
  unfold bounds at hb
  split at hb
  · cases hb
  rename_i m0 hm0
  split at hb
  · cases hb
  rename_i h0 hh0
  split at hb
  · cases hb
  rename_i l0 hl0
  split at hb
  case isFalse => cases hb
  rename_i hhm
  cases hb
  rcases bnd_run h3 hT hm0 with ⟨rfl, rfl⟩ | ⟨x3, rfl, hle3, k3, i3, e3, p3, q3⟩
  · -- no maximum
    rcases bnd_run h2 hT hh0 with ⟨rfl, rfl⟩ | ⟨x2, rfl, hle2, k2, i2, e2, p2, q2⟩
    · rcases bnd_run h1 hT hl0 with ⟨rfl, rfl⟩ | ⟨x1, rfl, hle1, k1, i1, e1, p1, q1⟩
      · exact ⟨Nat.zero_le _, hhm, c', by simp [Instr.sliceBounds], .inl ⟨rfl, rfl⟩⟩
      · refine ⟨hle1, hhm, c', ?_, .inl ⟨rfl, rfl⟩⟩
        simp [Instr.sliceBounds, e1, run_sliceBound _ p1 (show i1.toNat ≤ hh by omega), q1]
    · rcases bnd_run h1 hT hl0 with ⟨rfl, rfl⟩ | ⟨x1, rfl, hle1, k1, i1, e1, p1, q1⟩
      · refine ⟨Nat.zero_le _, hhm, c', ?_, .inl ⟨rfl, rfl⟩⟩
        cases isS <;> simp [Instr.sliceBounds, e2, run_sliceBound _ p2 (show i2.toNat ≤ c' by omega), q2]
      · refine ⟨hle1, hhm, c', ?_, .inl ⟨rfl, rfl⟩⟩
        cases isS <;> simp [Instr.sliceBounds, e2, run_sliceBound _ p2 (show i2.toNat ≤ c' by omega), q2, e1, run_sliceBound _ p1 (show i1.toNat ≤ hh by omega), q1]
  · -- a maximum
    rcases bnd_run h2 hT hh0 with ⟨rfl, rfl⟩ | ⟨x2, rfl, hle2, k2, i2, e2, p2, q2⟩
    · simp at hm
    · rcases bnd_run h1 hT hl0 with ⟨rfl, rfl⟩ | ⟨x1, rfl, hle1, k1, i1, e1, p1, q1⟩
      · refine ⟨Nat.zero_le _, hhm, m, ?_, .inr ⟨rfl, hle3⟩⟩
        cases isS <;> simp [Instr.sliceBounds, e3, run_sliceBound _ p3 (show i3.toNat ≤ c' by omega), q3, e2, run_sliceBound _ p2 (show i2.toNat ≤ m by omega), q2]
      · refine ⟨hle1, hhm, m, ?_, .inr ⟨rfl, hle3⟩⟩
        cases isS <;> simp [Instr.sliceBounds, e3, run_sliceBound _ p3 (show i3.toNat ≤ c' by omega), q3, e2, run_sliceBound _ p2 (show i2.toNat ≤ m by omega), q2, e1, run_sliceBound _ p1 (show i1.toNat ≤ hh by omega), q1]

theorem good_sliceA {t e : TypeId} {k n : Nat} {x : Operand} {lo hi mx : Option Operand} {y : IOpd} {lo' hi' mx' : Option IOpd} (ho : o.op = .slice t x lo hi mx) (ht : P.underlying t = some (.array k e)) (hn : sizeT P e = some n) (hx : opd x = some y)
    (h1 : optOpd lo = some lo') (h2 : optOpd hi = some hi') (h3 : optOpd mx = some mx') (hm : (hi.isNone && mx.isSome) = false)
    (hT : Opds φ T ρ) (h : R P C φ M w) (he : evalOp C M T nid (.sliceA k n y lo' hi' mx') = some out) : Good P C φ M w nid (execOp ρ o) out := by
  simp only [evalOp] at he
  have hv := hT x y hx
  split at he
  · rename_i a ha
    simp only [Option.map_eq_some_iff] at he
    obtain ⟨⟨l, hh, m⟩, hb, rfl⟩ := he
    rw [asCell_inv ha] at hv
    obtain ⟨a', e1, e2⟩ := ptr_inv hv
    obtain ⟨g1, g2, m', g3, g4⟩ := bounds_run (P := P) h1 h2 h3 hm hT (Nat.le_refl k) hb false w
    have hmm : m' = m := by omega
    subst hmm
    refine good_pure h (v' := .slice (some (if m' = l then a' else a'.add (l * n))) (hh - l) (m' - l)) ?_ ?_
    · simp [execOp, ho, e1, Instr.sliceAt, run_underlying ht, Instr.sureAddr, g3, run_sizeOf hn]
    · by_cases hml : m' = l
      · rw [if_pos hml]
        have z1 : hh - l = 0 := by omega
        have z2 : m' - l = 0 := by omega
        rw [z1, z2]
        exact .slice0 _ _
      · rw [if_neg hml]
        obtain ⟨loc, p, q⟩ := aadd_rel e2 (l * n)
        rw [q]
        exact .slice _ loc _ _ _ p (.inl rfl)
  · cases he

theorem good_sliceStr {t : TypeId} {x : Operand} {lo hi : Option Operand} {y : IOpd} {lo' hi' : Option IOpd} (ho : o.op = .slice t x lo hi none) (ht : P.underlying t = some .string) (hx : opd x = some y)
    (h1 : optOpd lo = some lo') (h2 : optOpd hi = some hi')
    (hT : Opds φ T ρ) (h : R P C φ M w) (he : evalOp C M T nid (.sliceStr y lo' hi') = some out) : Good P C φ M w nid (execOp ρ o) out := by
  simp only [evalOp] at he
  have hv := hT x y hx
  split at he
  · rename_i s hs
    simp only [Option.map_eq_some_iff] at he
    obtain ⟨⟨l, hh, m⟩, hb, rfl⟩ := he
    rw [hs] at hv
    obtain ⟨g1, g2, m', g3, g4⟩ := bounds_run (P := P) h1 h2 (mx := none) (mx' := none) rfl (by simp) hT (Nat.le_refl s.size) hb false w
    refine good_pure h (v' := .string (s.extract l hh)) ?_ (.string _)
    simp only [Option.map_none] at g3
    simp [execOp, ho, str_inv hv, Instr.sliceAt, Instr.slice, run_underlying ht, g3]
  · cases he

theorem good_sliceS {t e : TypeId} {n : Nat} {x : Operand} {lo hi mx : Option Operand} {y : IOpd} {lo' hi' mx' : Option IOpd} (ho : o.op = .slice t x lo hi mx) (ht : P.underlying t = some (.slice e)) (hn : sizeT P e = some n) (hx : opd x = some y)
    (h1 : optOpd lo = some lo') (h2 : optOpd hi = some hi') (h3 : optOpd mx = some mx') (hm : (hi.isNone && mx.isSome) = false)
    (hT : Opds φ T ρ) (h : R P C φ M w) (he : evalOp C M T nid (.sliceS n y lo' hi' mx') = some out) : Good P C φ M w nid (execOp ρ o) out := by
  simp only [evalOp] at he
  have hv := hT x y hx
  split at he
  · rename_i len cap hy
    split at he
    case isFalse => cases he
    rename_i h0
    obtain ⟨rfl, rfl⟩ := h0
    simp only [Option.map_eq_some_iff] at he
    obtain ⟨⟨l, hh, m⟩, hb, rfl⟩ := he
    rw [hy] at hv
    have e1 := nilsl_inv hv
    obtain ⟨g1, g2, m', g3, g4⟩ := bounds_run (P := P) h1 h2 h3 hm hT (Nat.le_refl 0) hb true w
    refine good_pure h (v' := .slice none 0 0) ?_ .sliceNil
    have z : m' = 0 ∧ l = 0 ∧ hh = 0 := by omega
    obtain ⟨rfl, rfl, rfl⟩ := z
    simp [execOp, ho, e1, Instr.sliceAt, Instr.slice, run_underlying ht, g3, run_sizeOf hn]
  · rename_i a len cap hy
    split at he
    · cases he
    rename_i l hh m hb
    rw [hy] at hv
    have hout : out = { v := .slice (some (aadd a (l * n))) (hh - l) (m - l), rd := [a.block] } ∧
        (∀ loc, φ a.block (ver a) = some loc → loc.esz = 0 ∨ loc.esz = n) := by
      split at he
      · rename_i hM
        split at he
        case isFalse => cases he
        rename_i hsp
        cases he
        refine ⟨rfl, fun loc hl => ?_⟩
        obtain ⟨hlt, hOld, _⟩ := h.obj _ _ hM
        have hva : ver a = 0 := by unfold ver; cases hs : a.spot <;> simp_all
        rw [hva, hOld _ hlt] at hl
        cases hl
        exact .inl rfl
      · rename_i vs hM
        split at he
        · rename_i v hvv
          split at he
          · rename_i hesz
            cases he
            refine ⟨rfl, fun loc hl => ?_⟩
            obtain ⟨l', cc, tt, q1, q2, q3, q4, q5⟩ := (h.obj _ _ hM).1 _ v hvv
            rw [hl] at q1
            cases q1
            omega
          · cases he
        · cases he
      · cases he
    obtain ⟨rfl, hez⟩ := hout
    generalize hr : ρ x = r at hv
    cases hv with
    | slice0 _ a' =>
      obtain ⟨g1, g2, m', g3, g4⟩ := bounds_run (P := P) h1 h2 h3 hm hT (Nat.le_refl 0) hb true w
      have z : m' = 0 ∧ l = 0 ∧ hh = 0 ∧ m = 0 := by omega
      obtain ⟨rfl, rfl, rfl, rfl⟩ := z
      refine good_rd h (v' := .slice (some a') 0 0) ?_ (.slice0 _ _)
      simp [execOp, ho, hr, Instr.sliceAt, Instr.slice, run_underlying ht, g3, run_sizeOf hn]
    | slice _ loc _ _ c' hl hc =>
      have hcc : cap ≤ c' := by rcases hc with rfl | ⟨_, h, _⟩ <;> omega
      obtain ⟨g1, g2, m', g3, g4⟩ := bounds_run (P := P) h1 h2 h3 hm hT hcc hb true w
      refine good_rd h (v' := .slice (some (if m' = l then ⟨loc.cb, a.off + loc.sh, none⟩ else (⟨loc.cb, a.off + loc.sh, none⟩ : Addr).add (l * n))) (hh - l) (m' - l)) ?_ ?_
      · have : (if m' = l then some (⟨loc.cb, a.off + loc.sh, none⟩ : Addr) else some ((⟨loc.cb, a.off + loc.sh, none⟩ : Addr).add (l * n))) = some (if m' = l then ⟨loc.cb, a.off + loc.sh, none⟩ else (⟨loc.cb, a.off + loc.sh, none⟩ : Addr).add (l * n)) := by split <;> rfl
        simp [execOp, ho, hr, Instr.sliceAt, Instr.slice, run_underlying ht, g3, run_sizeOf hn, this]
      · by_cases hml : m' = l
        · rw [if_pos hml]
          have z1 : hh - l = 0 := by omega
          have z2 : m' - l = 0 := by omega
          have z3 : m - l = 0 := by omega
          rw [z1, z2, z3]
          exact .slice0 _ _
        · rw [if_neg hml, addr_add]
          have hmk : (⟨loc.cb, a.off + loc.sh + l * n, none⟩ : Addr) = ⟨loc.cb, (aadd a (l * n)).off + loc.sh, none⟩ := by simp [aadd]; omega
          rw [hmk]
          refine .slice (aadd a (l * n)) loc _ _ _ hl ?_
          rcases g4 with ⟨rfl, rfl⟩ | ⟨rfl, _⟩
          · rcases hc with rfl | ⟨c1, c2, c3⟩
            · exact .inl rfl
            · have hn2 : loc.esz = n := by rcases hez loc hl with q | q <;> omega
              refine .inr ⟨c1, by omega, ?_⟩
              rw [hn2] at c3 ⊢
              have : (m' - l) * n + l * n = m' * n := by rw [← Nat.add_mul]; congr 1; omega
              simp only [aadd]
              omega
          · exact .inl rfl
  · cases he

theorem good_minI {c : Call} {x y : Operand} {x' y' : IOpd} (ho : o.op = .call c) (hc : c.callee = .builtin .min) (ha : c.args.toList = [x, y]) (hx : opd x = some x') (hy : opd y = some y') (hT : Opds φ T ρ) (h : R P C φ M w)
    (he : evalOp C M T nid (.minI x' y') = some out) : Good P C φ M w nid (execOp ρ o) out := by
  have h1 := hT x x' hx
  have h2 := hT y y' hy
  have hargs : c.args = #[x, y] := by rw [← ha]
  simp only [evalOp] at he
  split at he
  · rename_i k a k' b hxa hyb
    cases he
    rw [hxa] at h1
    rw [hyb] at h2
    refine good_pure h (v' := .int k (if b < a then b else a)) ?_ (.int _ _)
    simp [execOp, ho, resolve, hc, hargs, invoke, builtin, Builtin.min_, Builtin.min2, int_inv h1, int_inv h2]
  · cases he

theorem good_maxI {c : Call} {x y : Operand} {x' y' : IOpd} (ho : o.op = .call c) (hc : c.callee = .builtin .max) (ha : c.args.toList = [x, y]) (hx : opd x = some x') (hy : opd y = some y') (hT : Opds φ T ρ) (h : R P C φ M w)
    (he : evalOp C M T nid (.maxI x' y') = some out) : Good P C φ M w nid (execOp ρ o) out := by
  have h1 := hT x x' hx
  have h2 := hT y y' hy
  have hargs : c.args = #[x, y] := by rw [← ha]
  simp only [evalOp] at he
  split at he
  · rename_i k a k' b hxa hyb
    cases he
    rw [hxa] at h1
    rw [hyb] at h2
    refine good_pure h (v' := .int k (if b > a then b else a)) ?_ (.int _ _)
    simp [execOp, ho, resolve, hc, hargs, invoke, builtin, Builtin.max_, Builtin.max2, int_inv h1, int_inv h2]
  · cases he

theorem opds_rel {xs : List Operand} {ys : List IOpd} (h : opds xs = some ys) (hT : Opds φ T ρ) : VsRel φ (ys.map (·.val T)) (xs.map ρ) := by
  induction xs generalizing ys with
  | nil => simp [opds] at h; subst h; exact .nil
  | cons x r ih =>
    simp only [opds] at h
    split at h
    · rename_i y ys' h1 h2
      cases h
      exact .cons _ _ _ _ (hT x y h1) (ih h2)
    · cases h

theorem good_mkfn {f : FuncId} {first captured : Array Operand} {a b : List IOpd} (ho : o.op = .makeFunc (.func f) first captured) (ha : opds first.toList = some a) (hb : opds captured.toList = some b) (hT : Opds φ T ρ) (h : R P C φ M w)
    (he : evalOp C M T nid (.mkfn (.func f) a b) = some out) : Good P C φ M w nid (execOp ρ o) out := by
  simp only [evalOp] at he
  cases he
  refine good_pure h (v' := .func (.func f) (first.map ρ) (captured.map ρ)) (by simp [execOp, ho, Instr.makeFunc]) (.func _ _ _ _ _ ?_ ?_)
  · simpa using opds_rel ha hT
  · simpa using opds_rel hb hT
end
end Go.Ai
