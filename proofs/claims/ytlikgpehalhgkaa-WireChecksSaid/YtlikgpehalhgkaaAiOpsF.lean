/-
  Each operation, against the model's: maps; and all operations together.
-/
import Derived.Test.YtlikgpehalhgkaaAiOpsE
namespace Go.Ai
section
variable {P : Program} {C : Ctx} {φ : Phi} {M : Nat → Option AObj} {w : World} {T : Nat → Value} {nid : Nat} {ρ : Operand → Value} {out : AOut} {o : Oper}

theorem find_rel {kt : IntKind} {k : IntKind} {n : Int} : ∀ (es : List (Value × Value)) (es' : List MapEntry) (j : Nat) (res : Option (Nat × Value)), es'.length = es.length →
    (∀ (i : Nat) (e : Value × Value), es[i]? = some e → ∃ e', es'[i]? = some e' ∧ VRel φ e.1 e'.key ∧ VRel φ e.2 e'.val) → findA (.int k n) es j = some res →
    ∃ res', Instr.findNow (.int kt) (.int k n) es' j = some res' ∧
      match res, res' with
      | none, none => True
      | some (i, v), some (i', v') => i' = i ∧ VRel φ v v' ∧ j ≤ i ∧ ∃ e', es'[i - j]? = some e' ∧ e'.key = .int k n
      | _, _ => False
  | [], [], j, res, _, _, h => by
    simp [findA] at h
    subst h
    exact ⟨none, rfl, trivial⟩
  | [], _ :: _, _, _, hl, _, _ => by simp at hl
  | _ :: _, [], _, _, hl, _, _ => by simp at hl
  | e :: es, e' :: es', j, res, hl, hr, h => by
    obtain ⟨x, hx, hk, hv⟩ := hr 0 e rfl
    simp at hx
    subst hx
    simp only [findA] at h
    split at h
    · rename_i hkey
      cases h
      unfold keyEq at hkey
      split at hkey
      · rename_i k1 a k2 b h1 h2
        cases h1
        rw [h2] at hk
        have hk2 := int_inv hk
        split at hkey
        · rename_i hkk
          subst hkk
          have hab : n = b := by simpa using hkey
          subst hab
          refine ⟨some (j, e'.val), by simp [Instr.findNow, Instr.sameNow, hk2], rfl, hv, Nat.le_refl j, e', by simp, hk2⟩
        · cases hkey
      · cases hkey
    · rename_i hkey
      obtain ⟨res', hf, hm⟩ := find_rel (kt := kt) es es' (j + 1) res (by simpa using hl) (fun i e he => by simpa using hr (i + 1) e (by simpa using he)) h
      unfold keyEq at hkey
      split at hkey
      · rename_i k1 a k2 b h1 h2
        cases h1
        rw [h2] at hk
        have hk2 := int_inv hk
        split at hkey
        · rename_i hkk
          subst hkk
          have hab : (n == b) = false := by simpa using hkey
          refine ⟨res', by simp [Instr.findNow, Instr.sameNow, hk2, hab, hf], ?_⟩
          cases res with
          | none => cases res' <;> simp_all
          | some r =>
            cases res' with
            | none => simp_all
            | some r' =>
              obtain ⟨i, v⟩ := r
              obtain ⟨i', v'⟩ := r'
              obtain ⟨q1, q2, q3, e2, q4, q5⟩ := hm
              refine ⟨q1, q2, by omega, e2, ?_, q5⟩
              rw [show i - j = (i - (j + 1)) + 1 by omega]
              simpa using q4
        · cases hkey
      · cases hkey
    · cases h

theorem checkKey_int (b : Bool) (n : Nat) {t : TypeId} {kt : IntKind} (ht : P.underlying t = some (.int kt)) (k : IntKind) (i : Int) (w : World) : (Instr.checkKey b (n + 1) t (.int k i)).run P w = .ok () w := by
  simp [Instr.checkKey, run_underlying ht]

theorem isKey_inv {v : Value} (h : isKey v = true) : ∃ k n, v = .int k n := by cases v <;> simp [isKey] at h; exact ⟨_, _, rfl⟩

theorem run_setObj {r : Nat} {ob ob' : Obj} (hr : w.heap[r]? = some ob) (hc : ∀ a b c, ob ≠ .cells a b c) : (setObj r ob').run P w = .ok () { w with heap := w.heap.setIfInBounds r ob' } := by
  cases ob <;> simp_all [setObj, Sem.run]

theorem putObj_at {r : Nat} {ob ob' : Obj} (hr : w.heap[r]? = some ob) : (w.heap.setIfInBounds r ob')[r]? = some ob' := by
  have := (Array.getElem?_eq_some_iff.1 hr).1
  simp [this]

/-- An object that is no cells turns. -/
theorem R.putObj (h : R P C φ M w) {g : Nat} {l : Loc} {o0 o' : AObj} {ob ob' : Obj} (_hM : M g = some o0) (hl : φ g 0 = some l) (hob : w.heap[l.cb]? = some ob)
    (hk : ∀ k l', φ g k = some l' → l'.cb = l.cb) (ho : ORel P C φ { w with heap := w.heap.setIfInBounds l.cb ob' } g o') : R P C φ (Ai.upd M g o') { w with heap := w.heap.setIfInBounds l.cb ob' } := by
  refine h.upd (Phi.le_refl φ) (fun _ _ _ => rfl) rfl rfl rfl (by simp) ?_ (fun k l' hl' => .inl ⟨k, l', hl', rfl⟩) (fun k l' hl' => by simpa using h.bound _ _ _ hl') ho
  intro cb hcb hfar
  have : l.cb ≠ cb := hfar 0 l hl
  simp [this]

section
variable {t kt e : TypeId} {ik : IntKind} {m k x : Operand} {m' k' x' : IOpd}

theorem good_insert (ho : o.op = .insert t m k x ∨ o.op = .mapUpdate t m k x) (ht : P.underlying t = some (.map kt e)) (hkt : P.underlying kt = some (.int ik)) (h1 : opd m = some m') (h2 : opd k = some k') (h3 : opd x = some x')
    (hT : Opds φ T ρ) (h : R P C φ M w) (he : evalOp C M T nid (.insert m' k' x') = some out) : Good P C φ M w nid (execOp ρ o) out := by
  simp only [evalOp] at he
  have hv1 := hT m m' h1
  have hv2 := hT k k' h2
  have hv3 := hT x x' h3
  split at he
  case h_2 => cases he
  rename_i r hm
  split at he
  case h_2 => cases he
  rename_i es hM
  split at he
  case isFalse => cases he
  rename_i hkey
  obtain ⟨ki, n, hkv⟩ := isKey_inv hkey
  rw [hkv] at hv2 he
  rw [hm] at hv1
  have e2 := int_inv hv2
  obtain ⟨l, es', clk, q1, q0, q2, q3, q4⟩ := h.obj _ _ hM
  have e1 : ρ m = .map (some l.cb) := by
    generalize ρ m = v at hv1
    cases hv1 with
    | map _ l' hl => rw [hl] at q1; cases q1; rfl
  have hk : ∀ k l', φ r k = some l' → l'.cb = l.cb := fun k l' hl => by rw [q0 k l' hl]
  have hrun : ∀ (ob' : Obj), (Instr.mapUpdate t (ρ m) (ρ k) (ρ x)).run P w = .ok () { w with heap := w.heap.setIfInBounds l.cb ob' } → (execOp ρ o).run P w = .ok .skip { w with heap := w.heap.setIfInBounds l.cb ob' } := by
    intro ob' hr
    rcases ho with ho | ho <;> simp [execOp, ho, hr]
  have hget : (getObj l.cb).run P w = .ok (.map es' clk) w := by simp [getObj, Sem.run, q2]
  have hset : ∀ ob', (setObj l.cb ob').run P w = .ok () { w with heap := w.heap.setIfInBounds l.cb ob' } := fun ob' => run_setObj q2 (fun a b c => by simp)
  have hck : ∀ b, (Instr.checkKey b 10000 kt (.int ki n)).run P w = .ok () w := fun b => checkKey_int b 9999 hkt ki n w
  split at he
  · rename_i i v hf
    cases he
    obtain ⟨res', hf', hmm⟩ := find_rel (kt := ik) es es'.toList 0 _ (by simpa using q3) (fun i e he => by simpa using q4 i e he) hf
    cases res' with
    | none => simp at hmm
    | some rr =>
      obtain ⟨i', v'⟩ := rr
      obtain ⟨rfl, _, _, e', z1, z2⟩ := hmm
      simp at z1
      refine ⟨undef, _, φ, .inr ⟨hrun (.map (es'.modify i' fun e => { e with key := .int ki n, val := ρ x }) clk) ?_, rfl⟩, Phi.le_refl φ, .undef _, h.putObj hM q1 q2 hk ⟨l, _, clk, q1, q0, putObj_at q2, by simpa using q3, fun j ej hj => ?_⟩⟩
      · have hst : (Instr.keyThatStays (.int ki n) (.int ki n)).run P w = .ok (.int ki n) w := by simp [Instr.keyThatStays, Instr.sameBits]
        simp [Instr.mapUpdate, run_underlying ht, e1, e2, hget, hck, Instr.findKey, run_underlying hkt, hf', z1, z2, hst, hset]
      · rw [List.getElem?_set] at hj
        simp only [Array.getElem?_modify]
        split at hj
        · rename_i hij
          subst hij
          split at hj
          · cases hj
            rw [if_pos rfl, z1]
            exact ⟨_, rfl, .int _ _, hv3⟩
          · cases hj
        · rename_i hij
          rw [if_neg hij]
          exact q4 j ej hj
  · rename_i hf
    cases he
    obtain ⟨res', hf', hmm⟩ := find_rel (kt := ik) es es'.toList 0 _ (by simpa using q3) (fun i e he => by simpa using q4 i e he) hf
    cases res' with
    | some rr => simp at hmm
    | none =>
      refine ⟨undef, _, φ, .inr ⟨hrun (.map (es'.push { key := .int ki n, val := ρ x, born := clk }) (clk + 1)) ?_, rfl⟩, Phi.le_refl φ, .undef _, h.putObj hM q1 q2 hk ⟨l, _, clk + 1, q1, q0, putObj_at q2, by simp [q3], fun j ej hj => ?_⟩⟩
      · simp [Instr.mapUpdate, run_underlying ht, e1, e2, hget, hck, Instr.findKey, run_underlying hkt, hf', hset]
      · rw [Array.getElem?_push, q3]
        by_cases hjl : j < es.length
        · rw [List.getElem?_append_left hjl] at hj
          rw [if_neg (by omega)]
          exact q4 j ej hj
        · have hjj : j = es.length := by
            have := (List.getElem?_eq_some_iff.1 hj).1
            simp at this; omega
          subst hjj
          simp at hj
          subst hj
          rw [if_pos rfl]
          exact ⟨_, rfl, .int _ _, hv3⟩
  · cases he

theorem zeroVal_inv {t : TypeId} {z : Value} (h : zeroVal P t = some z) : (∀ w, (zeroValue t).run P w = .ok z w) ∧ clean 0 z = true := by
  unfold zeroVal at h
  split at h
  · rename_i i hi
    split at h
    · rename_i v hv
      split at h
      · rename_i hc
        cases h
        exact ⟨fun w => run_zero hi hv w, hc⟩
      · cases h
    · cases h
  · cases h

theorem good_lookup {z : Value} {ok : Bool} (ho : o.op = .lookup t m k ok) (ht : P.underlying t = some (.map kt e)) (hkt : P.underlying kt = some (.int ik)) (hz : zeroVal P e = some z) (h1 : opd m = some m') (h2 : opd k = some k')
    (hT : Opds φ T ρ) (h : R P C φ M w) (he : evalOp C M T nid (.lookup z ok m' k') = some out) : Good P C φ M w nid (execOp ρ o) out := by
  simp only [evalOp] at he
  have hv1 := hT m m' h1
  have hv2 := hT k k' h2
  split at he
  case h_2 => cases he
  rename_i r hm
  split at he
  case h_2 => cases he
  rename_i es hM
  split at he
  case isFalse => cases he
  rename_i hkey
  obtain ⟨ki, n, hkv⟩ := isKey_inv hkey
  rw [hkv] at hv2 he
  rw [hm] at hv1
  have e2 := int_inv hv2
  obtain ⟨l, es', clk, q1, q0, q2, q3, q4⟩ := h.obj _ _ hM
  have e1 : ρ m = .map (some l.cb) := by
    generalize ρ m = v at hv1
    cases hv1 with
    | map _ l' hl => rw [hl] at q1; cases q1; rfl
  have hget : (getObj l.cb).run P w = .ok (.map es' clk) w := by simp [getObj, Sem.run, q2]
  have hck : ∀ b, (Instr.checkKey b 10000 kt (.int ki n)).run P w = .ok () w := fun b => checkKey_int b 9999 hkt ki n w
  obtain ⟨hzr, hzc⟩ := zeroVal_inv hz
  split at he
  · rename_i i v hf
    cases he
    obtain ⟨res', hf', hmm⟩ := find_rel (kt := ik) es es'.toList 0 _ (by simpa using q3) (fun i e he => by simpa using q4 i e he) hf
    cases res' with
    | none => simp at hmm
    | some rr =>
      obtain ⟨i', v'⟩ := rr
      obtain ⟨rfl, hvv, _, e', z1, z2⟩ := hmm
      refine good_rd h (v' := if ok then .tuple #[v', .bool true] else v') ?_ ?_
      · simp [execOp, ho, Instr.lookup, run_underlying ht, e1, e2, hget, hck, Instr.findKey, run_underlying hkt, hf']
      · cases ok
        · simpa using hvv
        · simp only [if_true]
          exact .tup _ _ (by simp) (.cons _ _ _ _ hvv (.cons _ _ _ _ (.bool true) .nil))
  · rename_i hf
    cases he
    obtain ⟨res', hf', hmm⟩ := find_rel (kt := ik) es es'.toList 0 _ (by simpa using q3) (fun i e he => by simpa using q4 i e he) hf
    cases res' with
    | some rr => simp at hmm
    | none =>
      refine good_rd h (v' := if ok then .tuple #[z, .bool false] else z) ?_ ?_
      · simp [execOp, ho, Instr.lookup, run_underlying ht, e1, e2, hget, hck, Instr.findKey, run_underlying hkt, hf', hzr]
      · have hzz := clean_rel (old_zero φ) hzc
        cases ok
        · simpa using hzz
        · simp only [if_true]
          exact .tup _ _ (by simp) (.cons _ _ _ _ hzz (.cons _ _ _ _ (.bool false) .nil))
  · cases he
end
end
end Go.Ai
