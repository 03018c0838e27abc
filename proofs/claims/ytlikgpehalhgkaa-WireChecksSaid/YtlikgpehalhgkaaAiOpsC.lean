/-
  Each operation, against the model's: literals, memory.
-/
import Derived.Test.YtlikgpehalhgkaaAiOpsB
namespace Go.Ai

/-! ### filling -/
theorem fold_set (off : Nat) : ∀ (l : List Value) (k : Nat) (cs : Array Value), off + k + l.length ≤ cs.size →
    ((l.zipIdx k).foldl (fun (cs : Array Value) (x : Value × Nat) => cs.setIfInBounds (off + x.2) x.1) cs).toList = cs.toList.take (off + k) ++ l ++ cs.toList.drop (off + k + l.length)
  | [], k, cs, _ => by simp
  | v :: r, k, cs, h => by
    simp only [List.zipIdx_cons, List.foldl_cons]
    simp only [List.length_cons] at h
    rw [fold_set off r (k + 1) _ (by simp; omega)]
    have := list_seg_step cs.toList (off + k) v r (by simp; omega)
    simp only [Array.toList_setIfInBounds, List.length_cons]
    rw [show off + (k + 1) = off + k + 1 by omega]
    exact this.trans (by rw [show off + k + (r.length + 1) = off + k + (r.length + 1) from rfl])

section
variable {P : Program} {C : Ctx} {φ : Phi} {M : Nat → Option AObj} {w : World} {T : Nat → Value} {nid : Nat} {ρ : Operand → Value} {out : AOut} {o : Oper}

theorem fill_rel {place : Nat → Option (Nat × Nat)} (hT : Opds φ T ρ) : ∀ {ps : List (Nat × Operand)} {qs : List (Nat × Nat × IOpd)} {cells cs : List Value} {cells' : Array Value},
    partsOf place ps = some qs → VsRel φ cells cells'.toList → fillA T cells qs = some cs →
    ∃ cs' : Array Value, Instr.fill place cells' (ps.map fun p => (p.1, ρ p.2)) = some cs' ∧ VsRel φ cs cs'.toList
  | [], qs, cells, cs, cells', hp, hc, hf => by
    simp [partsOf] at hp
    subst hp
    simp [fillA] at hf
    subst hf
    exact ⟨cells', rfl, hc⟩
  | (i, x) :: r, qs, cells, cs, cells', hp, hc, hf => by
    simp only [partsOf] at hp
    split at hp
    · rename_i off n y qs' h1 h2 h3
      cases hp
      simp only [fillA] at hf
      split at hf
      · rename_i vs hvs
        split at hf
        · rename_i hcond
          have hv := vcells_rel (hT x y h2) hvs
          have hlen := hv.length
          have hclen := hc.length
          have hsz : (ρ x).cells.size = n := by have := hcond.1; simp at hlen; omega
          have hnew : VsRel φ (cells.take off ++ (vs ++ cells.drop (off + n))) (((ρ x).cells.zipIdx.foldl (fun (cs : Array Value) (x : Value × Nat) => cs.setIfInBounds (off + x.2) x.1) cells').toList) := by
            rw [← Array.foldl_toList, Array.toList_zipIdx, fold_set off _ 0 _ (by simp at hlen hclen ⊢; omega)]
            simp only [Nat.add_zero]
            rw [List.append_assoc, Array.length_toList, hsz]
            exact (hc.take off).append (hv.append (hc.drop _))
          obtain ⟨cs', h4, h5⟩ := fill_rel hT h3 hnew hf
          refine ⟨cs', ?_, h5⟩
          simp only [List.map_cons, Instr.fill, h1]
          have hno : ¬ ((ρ x).cells.size ≠ n ∨ off + (ρ x).cells.size > cells'.size) := by
            simp at hclen
            omega
          simp only [ne_eq, Bool.or_eq_true, decide_eq_true_eq] at hno ⊢
          rw [if_neg hno]
          exact h4
        · cases hf
      · cases hf
    · cases hp

theorem zeroOf_inv {t : TypeId} {z : List Value} (h : zeroOf P t = some z) : ∃ i v, P.info? t = some i ∧ i.zero = some v ∧ v.cells.toList = z ∧ ∀ x ∈ z, cleanS 0 x = true := by
  unfold zeroOf at h
  split at h
  · rename_i i hi
    split at h
    · rename_i v hv
      split at h
      · rename_i hall
        cases h
        exact ⟨i, v, hi, hv, rfl, fun x hx => List.all_eq_true.1 hall x hx⟩
      · cases h
    · cases h
  · cases h

theorem run_zero {t : TypeId} {i : TypeInfo} {v : Value} (hi : P.info? t = some i) (hz : i.zero = some v) (w : World) : (zeroValue t).run P w = .ok v w := by
  simp [zeroValue, typeInfo, hi, hz]

theorem zero_rel {z : List Value} (h : ∀ x ∈ z, cleanS 0 x = true) : VsRel φ z z := VsRel.refl fun x hx => cleanS_rel (old_zero φ) (h x hx)
theorem zero_scal {z : List Value} (h : ∀ x ∈ z, cleanS 0 x = true) : z.all scalar = true := List.all_eq_true.2 fun x hx => cleanS_scalar (h x hx)

theorem run_mapM_sizes (fs : List Field) (h : ∀ f ∈ fs, (sizeT P f.type).isSome = true) (w : World) :
    (fs.mapM fun f => (do pure (f.offset, ← sizeOf f.type) : Sem (Nat × Nat))).run P w = .ok (fs.map fun f => (f.offset, (sizeT P f.type).getD 0)) w := by
  induction fs with
  | nil => rfl
  | cons f r ih =>
    have h1 := h f (by simp)
    cases hs : sizeT P f.type with
    | none => rw [hs] at h1; cases h1
    | some n =>
      have ih' := ih fun f hf => h f (by simp [hf])
      simp only [bind_pure_comp] at ih' ⊢
      simp [List.mapM_cons, run_sizeOf hs, ih', hs]

theorem good_build {t : TypeId} {ps : Array (Nat × Operand)} {z : List Value} {qs : List (Nat × Nat × IOpd)} (ho : o.op = .build t ps) (hz : zeroOf P t = some z) (hp : partsOf (placeOf P t) ps.toList = some qs) (hf : fieldsOK P t = true)
    (hT : Opds φ T ρ) (h : R P C φ M w) (he : evalOp C M T nid (.build z qs) = some out) : Good P C φ M w nid (execOp ρ o) out := by
  simp only [evalOp, Option.map_eq_some_iff] at he
  obtain ⟨cs, hcs, rfl⟩ := he
  obtain ⟨i, v, hi, hv, hvz, hclean⟩ := zeroOf_inv hz
  have hzr : VsRel φ z v.cells.toList := by rw [hvz]; exact zero_rel hclean
  have hmap : (ps.map fun x => (x.1, ρ x.2)).toList = ps.toList.map fun p => (p.1, ρ p.2) := by simp
  cases hd : P.underlying t with
  | none => simp [fieldsOK, hd] at hf
  | some d =>
    cases d with
    | struct fs =>
      simp only [fieldsOK, hd, List.all_eq_true] at hf
      have hm := run_mapM_sizes fs.toList hf w
      have hplace : ∀ i, (((fs.toList.map fun f => (f.offset, (sizeT P f.type).getD 0)).toArray)[i]? : Option (Nat × Nat)) = placeOf P t i := by
        intro i
        simp only [placeOf, hd, List.getElem?_toArray, List.getElem?_map]
        cases hi2 : fs[i]? with
        | none =>
          have : fs.toList[i]? = none := by simpa using hi2
          simp [this]
        | some f =>
          have h2 : fs.toList[i]? = some f := by simpa using hi2
          have h3 := hf f (List.mem_of_getElem? h2)
          cases hs : sizeT P f.type with
          | none => rw [hs] at h3; cases h3
          | some n => simp [h2, hs]
      obtain ⟨cs', h1, h2⟩ := fill_rel hT hp hzr hcs
      rw [← funext hplace] at h1
      refine good_pure h (v' := .agg cs') ?_ (.agg _ _ (by simpa using h2))
      simp only [bind_pure_comp] at hm
      simp only [execOp, ho, Instr.build, Sem.run_bind, run_zero hi hv, Result.andThen_ok, run_underlying hd, Array.mapM_eq_mapM_toList, Sem.run_map, hm, hmap, bind_pure_comp]
      rw [h1]
      simp
    | array len e =>
      simp only [fieldsOK, hd] at hf
      cases hs : sizeT P e with
      | none => rw [hs] at hf; cases hf
      | some n =>
        have hplace : (fun i => some (i * n, n)) = placeOf P t := by
          funext i
          simp [placeOf, hd, hs]
        obtain ⟨cs', h1, h2⟩ := fill_rel hT hp hzr hcs
        rw [← hplace] at h1
        refine good_pure h (v' := .agg cs') ?_ (.agg _ _ (by simpa using h2))
        simp only [execOp, ho, Instr.build, Sem.run_bind, run_zero hi hv, Result.andThen_ok, run_underlying hd, hmap, run_sizeOf hs]
        rw [h1]
        simp
    | _ => simp [fieldsOK, hd] at hf

theorem good_mk {e : TypeId} {z : List Value} (ho : o.op = .alloc e) (hz : zeroOf P e = some z) (h : R P C φ M w) (hn : M nid = none) (he : evalOp C M T nid (.mk z) = some out) : Good P C φ M w nid (execOp ρ o) out := by
  simp only [evalOp] at he
  cases he
  obtain ⟨i, v, hi, hv, hvz, hclean⟩ := zeroOf_inv hz
  obtain ⟨hle, hR⟩ := h.new_cells hn z v.cells e 0 (fun j x hx => by
    obtain ⟨x', p, q⟩ := (zero_rel (φ := φ) hclean).get hx
    exact ⟨x', by rw [← hvz] at p; simpa using p, q⟩)
  refine ⟨.pointer (some ⟨w.heap.size, 0, none⟩), _, _, .inl ?_, hle, .ptr _ _ ⟨_, Phi.set_self φ nid 0 _, rfl⟩, hR⟩
  simp [execOp, ho, Instr.alloc, run_zero hi hv, newVar, newRow]

theorem good_box {e : TypeId} {n : Nat} {x : Operand} {y : IOpd} (ho : o.op = .box e x) (hx : opd x = some y) (hT : Opds φ T ρ) (h : R P C φ M w) (hn : M nid = none) (he : evalOp C M T nid (.box n y) = some out) : Good P C φ M w nid (execOp ρ o) out := by
  simp only [evalOp] at he
  split at he
  · rename_i cs hcs
    split at he
    · rename_i hcond
      cases he
      have hv := vcells_rel (hT x y hx) hcs
      obtain ⟨hle, hR⟩ := h.new_cells hn cs (ρ x).cells e 0 (fun j x hx => by
        obtain ⟨x', p, q⟩ := hv.get hx
        exact ⟨x', by simpa using p, q⟩)
      refine ⟨.pointer (some ⟨w.heap.size, 0, none⟩), _, _, .inl ?_, hle, .ptr _ _ ⟨_, Phi.set_self φ nid 0 _, rfl⟩, hR⟩
      simp [execOp, ho, Instr.box, newVar, newRow]
    · cases he
  · cases he

/-- Zeros, one after the other. -/
theorem reps (z : Array Value) (n : Nat) : ((Array.range (n * z.size)).map (z[· % z.size]!)).toList = (List.replicate n z.toList).flatten := by
  simp only [Array.toList_map, Array.toList_range]
  induction n with
  | zero => simp
  | succ n ih =>
    rw [Nat.succ_mul, List.range_add, List.map_append, ih, List.replicate_succ', List.flatten_append]
    congr 1
    simp only [List.flatten_singleton, List.map_map]
    apply List.ext_getElem?
    intro j
    by_cases hj : j < z.size
    · simp [hj, Nat.add_mod, Nat.mod_eq_of_lt hj]
    · simp [hj]

theorem good_buildSlice {t e : TypeId} {len n : Nat} {ps : Array (Nat × Operand)} {z : List Value} {qs : List (Nat × Nat × IOpd)} (ho : o.op = .buildSlice t len ps) (ht : P.underlying t = some (.slice e)) (hn : sizeT P e = some n) (hz : zeroOf P e = some z)
    (hsmall : len * n ≤ 16777216) (hzl : z.length = n) (hp : partsOf (fun i => some (i * n, n)) ps.toList = some qs)
    (hT : Opds φ T ρ) (h : R P C φ M w) (hnid : M nid = none) (he : evalOp C M T nid (.buildSlice len (List.replicate len z).flatten qs) = some out) : Good P C φ M w nid (execOp ρ o) out := by
  simp only [evalOp] at he
  split at he
  case h_2 => cases he
  rename_i cs hcs
  split at he
  case isFalse => cases he
  cases he
  obtain ⟨i, v, hi, hv, hvz, hclean⟩ := zeroOf_inv hz
  have hmap : (ps.map fun x => (x.1, ρ x.2)).toList = ps.toList.map fun p => (p.1, ρ p.2) := by simp
  have hvs : v.cells.size = n := by rw [← hzl, ← hvz]; simp
  -- the zeros, as the model lays them
  obtain ⟨zz, hrun, hzz⟩ : ∃ zz : Array Value, ((if len * n = 0 then pure #[] else (do pure (← zeroValue e).cells) : Sem (Array Value)).run P w = .ok zz w) ∧
      VsRel φ (List.replicate len z).flatten ((Array.range (len * n)).map (zz[· % zz.size]!)).toList := by
    by_cases h0 : len * n = 0
    · refine ⟨#[], by rw [if_pos h0]; rfl, ?_⟩
      have : (List.replicate len z).flatten = [] := by
        rcases Nat.mul_eq_zero.1 h0 with hl | hl
        · simp [hl]
        · have hz0 : z = [] := List.eq_nil_of_length_eq_zero (by omega)
          simp [hz0]
      rw [this, h0]
      simp
      exact .nil
    · refine ⟨v.cells, by rw [if_neg h0]; simp [run_zero hi hv], ?_⟩
      have := reps v.cells len
      rw [hvs] at this ⊢
      rw [this, hvz]
      refine zero_rel fun x hx => ?_
      obtain ⟨l, hl, hxl⟩ := List.mem_flatten.1 hx
      rw [(List.mem_replicate.1 hl).2] at hxl
      exact hclean x hxl
  obtain ⟨cs', h1, h2⟩ := fill_rel hT hp hzz hcs
  obtain ⟨hle, hR⟩ := h.new_cells hnid cs cs' e 0 (fun j x hx => by
    obtain ⟨x', p, q⟩ := h2.get hx
    exact ⟨x', by simpa using p, q⟩)
  refine ⟨.slice (some ⟨w.heap.size, 0, none⟩) len len, _, _, .inl ?_, hle, .slice ⟨nid, 0, none⟩ ⟨w.heap.size, 0, _, 0⟩ _ _ _ (Phi.set_self φ nid 0 _) (.inl rfl), hR⟩
  have hno : ¬ (len * n > 2 ^ 24) := by omega
  rw [← hmap] at h1
  by_cases h0 : len * n = 0
  · simp [h0, Array.range_zero'] at h1
    simp [execOp, ho, Instr.buildSlice, run_underlying ht, run_sizeOf hn, h0, newRow, h1, Array.range_zero']
  · rw [if_neg h0] at hrun
    simp [run_zero hi hv] at hrun
    subst hrun
    simp at h1
    simp [execOp, ho, Instr.buildSlice, run_underlying ht, run_sizeOf hn, h0, hno, run_zero hi hv, newRow, h1]
end
end Go.Ai
