/-
  The operations made for the kernel give what the evaluator gives.
  What is appended, steps, code and calls: what is made for the kernel gives what the evaluator gives.
  Calls whose answers are known where certain objects lie: a great run is cut at them.
  A closed call whose run was cut in pieces.
  Short names for the own form of functions, as the printed texts write it.
-/
import Derived.Test.YthigfnjbabcfnaaGreatDoorAkF
import Derived.Lib.Builder
import Derived.Laws.Externs
import Derived.Test.YthigfnjbabcfnaaGreatDoorAkA
namespace Go.Ak
set_option linter.unusedVariables false

section
variable {o : OrcF} {T : Env} {H : AHeap} {k : KV}

theorem and_t {a b : Bool} (h : andF a b = true) : a = true ∧ b = true := by
  cases a
  · cases h
  · exact ⟨rfl, h⟩

theorem f_mv_ok {x : IOpd} (h : f_mv x o T H k = true) : Gives o.C (.mv x) T H k := by
  unfold f_mv at h
  rw [force_eq, IOpd.valF_eq] at h
  exact good_dry rfl h

theorem f_pick_ok {c a b : IOpd} (h : f_pick c a b o T H k = true) : Gives o.C (.pick c a b) T H k := by
  unfold f_pick at h
  rw [vB_eq, IOpd.valF_eq] at h
  split at h
  · rename_i t hc
    rw [force_eq, IOpd.valF_eq, IOpd.valF_eq] at h
    cases t
    · exact good_dry (by simp only [evalOp, hc]; rfl) h
    · exact good_dry (by simp only [evalOp, hc]; rfl) h
  · cases h

theorem f_not_ok {x : IOpd} (h : f_not x o T H k = true) : Gives o.C (.not x) T H k := by
  unfold f_not at h
  rw [vB_eq, IOpd.valF_eq] at h
  split at h
  · rename_i b hx
    rw [notB_eq] at h
    exact good_dry (by simp only [evalOp, hx]) h
  · cases h

theorem f_conv_ok {i : IntKind} {x : IOpd} (h : f_conv i x o T H k = true) : Gives o.C (.conv i x) T H k := by
  unfold f_conv at h
  rw [vI_eq, IOpd.valF_eq] at h
  split at h
  · rename_i j n hx
    rw [wrapF_eq] at h
    exact good_dry (by simp only [evalOp, hx]) h
  · cases h

theorem newF_ok {op : IOp} {ob : AObj} {v : Nat → Value} (he : evalOp o.C H.get T.val H.next op = some { v := v H.next, new := some ob }) (h : newF ob v H k = true) : Gives o.C op T H k := by
  unfold newF at h
  rw [AHeap.nextF_eq, AHeap.pushF_eq] at h
  exact ⟨_, he, h⟩

theorem f_mk_ok {ty : TypeId} {cells : List Value} (h : f_mk ty cells o T H k = true) : Gives o.C (.mk ty cells) T H k := newF_ok rfl h

theorem f_box_ok {n : Nat} {x : IOpd} (h : f_box n x o T H k = true) : Gives o.C (.box n x) T H k := by
  unfold f_box at h
  rw [vL_eq, IOpd.valF_eq] at h
  split at h
  · rename_i xs hx
    rcases rec_t h with ⟨_, h1⟩ | ⟨hn, h1⟩
    · cases h1
    · rcases rec_t h1 with ⟨_, h2⟩ | ⟨hs, h2⟩
      · cases h2
      · rw [lenV_eq] at hn
        rw [allS_eq] at hs
        refine newF_ok ?_ h2
        simp only [evalOp, hx]
        rw [if_pos ⟨Nat.eq_of_beq_eq_true hn, hs⟩]
  · cases h

theorem fillF_ok {T : Env} : ∀ (ps : List (Nat × Nat × IOpd)) (cells : List Value) (k : List Value → Bool), fillF ps T cells k = true → ∃ cs, fillA T.val cells ps = some cs ∧ k cs = true
  | [], cells, k, h => ⟨cells, rfl, h⟩
  | (off, size, x) :: r, cells, k, h => by
    change vL (x.valF T) (fun vs => @Bool.rec (fun _ => Bool) false (segV cells off vs fun cells' => fillF r T cells' k) (Nat.beq (lenV vs) size)) = true at h
    rw [vL_eq, IOpd.valF_eq] at h
    split at h
    · rename_i vs hx
      rcases rec_t h with ⟨_, h1⟩ | ⟨hn, h1⟩
      · cases h1
      · rw [lenV_eq] at hn
        have hn' := Nat.eq_of_beq_eq_true hn
        rw [segV_eq] at h1
        split at h1
        · rename_i hle
          obtain ⟨cs, h2, h3⟩ := fillF_ok r _ k h1
          refine ⟨cs, ?_, h3⟩
          subst hn'
          simp only [fillA, hx]
          rw [if_pos ⟨trivial, hle⟩]
          exact h2
        · cases h1
    · cases h

theorem f_build_ok {z : List Value} {ps : List (Nat × Nat × IOpd)} (h : f_build z ps o T H k = true) : Gives o.C (.build z ps) T H k := by
  obtain ⟨cs, h1, h2⟩ := fillF_ok ps z _ h
  exact good_dry (by simp only [evalOp, h1, Option.map_some]) h2

theorem f_buildSlice_ok {l : Nat} {z : List Value} {ps : List (Nat × Nat × IOpd)} (h : f_buildSlice l z ps o T H k = true) : Gives o.C (.buildSlice l z ps) T H k := by
  obtain ⟨cs, h1, h2⟩ := fillF_ok ps z _ h
  rcases rec_t h2 with ⟨_, h3⟩ | ⟨hs, h3⟩
  · cases h3
  · rw [allS_eq] at hs
    refine newF_ok ?_ h3
    simp only [evalOp, h1]
    rw [if_pos hs]

theorem drop_cons {α : Type} {l : List α} {n : Nat} {x : α} (h : l[n]? = some x) : l.drop n = x :: l.drop (n + 1) := by
  obtain ⟨hn, he⟩ := List.getElem?_eq_some_iff.1 h
  rw [List.drop_eq_getElem_cons hn, he]

theorem loadN_cells {C : Ctx} {M : Nat → Option AObj} {a : Addr} {vs : List AVer} {v : AVer} (h1 : M a.block = some (.cells vs)) (h2 : vs[ver a]? = some v) (n : Nat) :
    loadN C M a n = if n ≤ (v.cells.drop a.off).length then some ((v.cells.drop a.off).take n) else none := by
  simp only [loadN, cellsAt, h1, h2]

theorem asCell_eq {v : Value} {a : Addr} (h : v = .pointer (some a)) : asCell v = some a := by subst h; rfl

theorem f_load1_ok {x : IOpd} (h : f_load1 x o T H k = true) : Gives o.C (.load1 x) T H k := by
  unfold f_load1 at h
  rw [vQ_eq, IOpd.valF_eq] at h
  split at h
  · rename_i p hx
    rw [oA_eq] at h
    split at h
    · rename_i a
      rcases atV_ok h with h | ⟨vs, v, h1, h2, h3⟩
      · exact slow_ok h
      · rw [nthV_eq] at h3
        split at h3
        · rename_i c hc
          refine ⟨{ v := c, rd := [a.block], lk := some (a, [c]) }, ?_, h3⟩
          have hl := loadN_cells (C := o.C) h1 h2 1
          rw [drop_cons hc] at hl
          simp only [evalOp, hx, asCell, hl, List.length_cons, List.take_succ_cons, List.take_zero]
          simp
        · cases h3
    · cases h
  · cases h

theorem f_loadN_ok {n : Nat} {x : IOpd} (h : f_loadN n x o T H k = true) : Gives o.C (.loadN n x) T H k := by
  unfold f_loadN at h
  rw [vQ_eq, IOpd.valF_eq] at h
  split at h
  · rename_i p hx
    rw [oA_eq] at h
    split at h
    · rename_i a
      rcases atV_ok h with h | ⟨vs, v, h1, h2, h3⟩
      · exact slow_ok h
      · rw [dropV_eq] at h3
        split at h3
        · rw [takeV_eq] at h3
          split at h3
          · rename_i hn
            refine ⟨{ v := .agg ((v.cells.drop a.off).take n).toArray, rd := [a.block], lk := some (a, (v.cells.drop a.off).take n) }, ?_, h3⟩
            simp only [evalOp, hx, asCell, loadN_cells (C := o.C) h1 h2 n, if_pos hn, Option.map_some]
          · cases h3
        · cases h3
    · cases h
  · cases h

theorem f_nilCheck_ok {x : IOpd} (h : f_nilCheck x o T H k = true) : Gives o.C (.nilCheck x) T H k := by
  unfold f_nilCheck at h
  rw [vQ_eq, IOpd.valF_eq] at h
  split at h
  · rename_i p hx
    rw [oA_eq] at h
    split at h
    · exact good_dry (by simp only [evalOp, hx]) h
    · cases h
  · exact slow_ok h

theorem f_faddr_ok {off : Nat} {x : IOpd} (h : f_faddr off x o T H k = true) : Gives o.C (.faddr off x) T H k := by
  unfold f_faddr at h
  rw [vQ_eq, IOpd.valF_eq] at h
  split at h
  · rename_i p hx
    rw [oA_eq] at h
    split at h
    · exact good_dry (by simp only [evalOp, hx, asCell, aadd]; rfl) h
    · cases h
  · cases h

theorem f_field_ok {off n : Nat} {agg : Bool} {x : IOpd} (h : f_field off n agg x o T H k = true) : Gives o.C (.field off n agg x) T H k := by
  unfold f_field at h
  rcases rec_t h with ⟨rfl, h⟩ | ⟨rfl, h⟩
  · rw [vA_eq, IOpd.valF_eq] at h
    split at h
    · rename_i cs hx
      rw [nthV_eq] at h
      split at h
      · rename_i v hv
        refine good_dry ?_ h
        simp only [evalOp, hx]
        rw [← Array.getElem?_toList, hv]
        rfl
      · cases h
    · cases h
  · exact slow_ok h

theorem f_idxS_ok {esz : Nat} {x i : IOpd} (h : f_idxS esz x i o T H k = true) : Gives o.C (.idxS esz x i) T H k := by
  unfold f_idxS at h
  rw [vS_eq, IOpd.valF_eq] at h
  split at h
  · rename_i p len cap hx
    rw [oA_eq] at h
    split at h
    · rename_i a
      rw [vI_eq, IOpd.valF_eq] at h
      split at h
      · rename_i j z hi
        rw [iN_eq] at h
        split at h
        · rename_i n
          rcases rec_t h with ⟨_, h1⟩ | ⟨hn, h1⟩
          · cases h1
          · have hlt : n < len := Nat.le_of_ble_eq_true hn
            refine good_dry ?_ h1
            simp only [evalOp, hx, hi]
            rw [if_pos ⟨Int.natCast_nonneg n, by exact Int.ofNat_lt.2 hlt⟩]
            rfl
        · cases h
      · cases h
    · cases h
  · cases h

theorem f_len_ok {x : IOpd} (h : f_len x o T H k = true) : Gives o.C (.len x) T H k := by
  unfold f_len at h
  rw [vS_eq, IOpd.valF_eq] at h
  split at h
  · rename_i p len cap hx
    exact good_dry (by simp only [evalOp, hx]; rfl) h
  · cases h

theorem f_lenStr_ok {x : IOpd} (h : f_lenStr x o T H k = true) : Gives o.C (.lenStr x) T H k := by
  unfold f_lenStr at h
  rw [vT_eq, IOpd.valF_eq] at h
  split at h
  · rename_i s hx
    rw [lenB_eq] at h
    exact good_dry (by simp only [evalOp, hx]; rfl) h
  · cases h

theorem f_idxStr_ok {x i : IOpd} (h : f_idxStr x i o T H k = true) : Gives o.C (.idxStr x i) T H k := by
  unfold f_idxStr at h
  rw [vT_eq, IOpd.valF_eq] at h
  split at h
  · rename_i s hx
    rw [vI_eq, IOpd.valF_eq] at h
    split at h
    · rename_i j z hi
      rw [iN_eq] at h
      split at h
      · rename_i n
        rw [nthB_eq] at h
        split at h
        · rename_i b hb
          refine good_dry ?_ h
          simp only [evalOp, hx, hi]
          rw [if_pos (show 0 ≤ Int.ofNat n from Int.natCast_nonneg n), show (Int.ofNat n).toNat = n from rfl, hb]
          rfl
        · cases h
      · cases h
    · cases h
  · cases h

theorem f_extract_ok {n : Nat} {x : IOpd} (h : f_extract n x o T H k = true) : Gives o.C (.extract n x) T H k := by
  unfold f_extract at h
  rw [vU_eq, IOpd.valF_eq] at h
  split at h
  · rename_i vs hx
    rcases rec_t h with ⟨_, h1⟩ | ⟨hn, h1⟩
    · exact slow_ok h1
    · rw [lenV_eq] at hn
      rw [nthV_eq] at h1
      split at h1
      · rename_i v hv
        refine good_dry ?_ h1
        simp only [evalOp, hx]
        rw [if_pos (by simpa using Nat.le_of_ble_eq_true hn), hv]
        rfl
      · cases h1
  · cases h

theorem f_store_ok {n : Nat} {a x : IOpd} (h : f_store n a x o T H k = true) : Gives o.C (.store n a x) T H k := by
  unfold f_store at h
  rw [vL_eq, IOpd.valF_eq] at h
  split at h
  case h_2 => cases h
  rename_i xs hx
  rw [vQ_eq, IOpd.valF_eq] at h
  split at h
  case h_2 => cases h
  rename_i p ha
  rw [oA_eq] at h
  split at h
  case h_2 => cases h
  rename_i a'
  rcases rec_t h with ⟨_, h⟩ | ⟨hc, h⟩
  · exact slow_ok h
  rcases rec_t hc with ⟨_, hc⟩ | ⟨hn, hs⟩
  · cases hc
  rw [lenV_eq] at hn
  rw [allS_eq] at hs
  have hn' := Nat.eq_of_beq_eq_true hn
  rw [oO_eq, AHeap.getF_eq] at h
  split at h
  case h_2 => cases h
  rename_i ob hob
  rw [aC_eq] at h
  split at h
  case h_2 => cases h
  rename_i vs
  cases vs with
  | nil => cases h
  | cons v r =>
    cases r with
    | cons _ _ => exact slow_ok h
    | nil =>
      change oN a'.spot _ _ = true at h
      rw [oN_eq] at h
      split at h
      · cases h
      · rename_i hsp
        cases xs with
        | nil => cases h
        | cons y ys =>
          change segV v.cells a'.off (y :: ys) _ = true at h
          rw [segV_eq] at h
          split at h
          · rename_i hle
            rw [AHeap.putF_eq] at h
            refine ⟨{ v := undef, put := some (a'.block, .cells [⟨v.esz, v.cells.take a'.off ++ ((y :: ys) ++ v.cells.drop (a'.off + (y :: ys).length)), v.ty⟩]), rd := [a'.block] }, ?_, h⟩
            have hv : ver a' = 0 := by simp [ver, hsp]
            have hst : storeN H.get a' (y :: ys) = some (.cells [⟨v.esz, v.cells.take a'.off ++ ((y :: ys) ++ v.cells.drop (a'.off + (y :: ys).length)), v.ty⟩]) := by
              simp only [storeN, hob, hv]
              rw [show ([v] : List AVer)[0]? = some v from rfl]
              dsimp only
              rw [if_pos ⟨by simp, hle, hs⟩]
              rfl
            simp only [evalOp, ha, asCell, hx, if_pos hn', hst]
          · cases h

theorem eqB_eq : ∀ a b : List UInt8, eqB a b = bytesEq a b
  | [], [] => rfl
  | [], _ :: _ => rfl
  | _ :: _, [] => rfl
  | x :: a, y :: b => by
    change @Bool.rec (fun _ => Bool) false (eqB a b) (Nat.beq x.toNat y.toNat) = _
    rw [eqB_eq a b, bytesEq]
    cases Nat.beq x.toNat y.toNat <;> rfl

theorem f_str_ok {op : BinOp} {x y : IOpd} (h : f_str op x y o T H k = true) : Gives o.C (.bin .str op x y) T H k := by
  unfold f_str at h
  have key : ∀ (e : List UInt8 → List UInt8 → Bool), (vT (x.valF T) false fun a => vT (y.valF T) false fun b => e a.data.toList b.data.toList) = true →
      ∃ a b, x.val T.val = .string a ∧ y.val T.val = .string b ∧ e a.data.toList b.data.toList = true := by
    intro e h
    rw [vT_eq, IOpd.valF_eq] at h
    split at h
    · rename_i a ha
      rw [vT_eq, IOpd.valF_eq] at h
      split at h
      · rename_i b hb
        exact ⟨a, b, ha, hb, h⟩
      · cases h
    · cases h
  cases op
  case eql =>
    obtain ⟨a, b, ha, hb, h⟩ := key (fun a b => k (.bool (eqB a b)) H nil2) h
    rw [eqB_eq] at h
    exact good_dry (by simp only [evalOp, ha, hb, binA, Option.map_some]) h
  case neq =>
    obtain ⟨a, b, ha, hb, h⟩ := key (fun a b => k (.bool (notB (eqB a b))) H nil2) h
    rw [eqB_eq, notB_eq] at h
    exact good_dry (by simp only [evalOp, ha, hb, binA, Option.map_some]) h
  all_goals exact slow_ok h

theorem nilQ_ok {v : Value} {k : Bool → Bool} (h : nilQ v k = true) : ∃ b, isNil .ptr v = some b ∧ k b = true := by
  unfold nilQ at h
  rw [vQ_eq] at h
  split at h
  · rename_i p
    exact ⟨p.isNone, rfl, by cases p <;> exact h⟩
  · cases h
theorem nilS_ok {v : Value} {k : Bool → Bool} (h : nilS v k = true) : ∃ b, isNil .slc v = some b ∧ k b = true := by
  unfold nilS at h
  rw [vS_eq] at h
  split at h
  · rename_i p _ _
    exact ⟨p.isNone, rfl, by cases p <;> exact h⟩
  · cases h

theorem refF_ok {b : BK} {v w : Value} {x y : (Bool → Bool) → Bool} {op : BinOp} {s : Bool} {k : Bool → Bool} (hx : ∀ k, x k = true → ∃ b', isNil b v = some b' ∧ k b' = true)
    (hy : ∀ k, y k = true → ∃ b', isNil b w = some b' ∧ k b' = true) (h : refF x y op s k = true) : s = true ∨ ∃ t, isNil b v ≠ none ∧ isNil b w = some true ∧ refA op (isNil b v) (isNil b w) = some (.bool t) ∧ k t = true := by
  cases op
  case eql =>
    obtain ⟨yn, h1, h2⟩ := hy _ h
    rcases rec_t h2 with ⟨_, h3⟩ | ⟨rfl, h3⟩
    · exact .inl h3
    · obtain ⟨xn, h4, h5⟩ := hx _ h3
      refine .inr ⟨xn, by simp [h4], h1, ?_, h5⟩
      rw [h4, h1]
      cases xn <;> rfl
  case neq =>
    obtain ⟨yn, h1, h2⟩ := hy _ h
    rcases rec_t h2 with ⟨_, h3⟩ | ⟨rfl, h3⟩
    · exact .inl h3
    · obtain ⟨xn, h4, h5⟩ := hx _ h3
      refine .inr ⟨!xn, by simp [h4], h1, ?_, by rw [← notB_eq]; exact h5⟩
      rw [h4, h1]
      cases xn <;> rfl
  all_goals exact .inl h

theorem f_bin_ok {b : BK} {op : BinOp} {x y : IOpd} (h : f_bin b op x y o T H k = true) : Gives o.C (.bin b op x y) T H k := by
  cases b
  case num => exact f_num_ok h
  case str => exact f_str_ok h
  case ptr =>
    rcases refF_ok (fun k h => nilQ_ok h) (fun k h => nilQ_ok h) h with h | ⟨t, h1, h2, h3, h4⟩
    · exact slow_ok h
    · rw [IOpd.valF_eq] at h1 h2
      rw [IOpd.valF_eq, IOpd.valF_eq] at h3
      refine good_dry ?_ h4
      have hb : binA .ptr op (x.val T.val) (y.val T.val) = refA op (isNil .ptr (x.val T.val)) (isNil .ptr (y.val T.val)) := by
        unfold binA
        dsimp only
        split
        · rename_i hw; rw [hw] at h2; simp [isNil] at h2
        · rename_i hw; rw [hw] at h2; simp [isNil] at h2
        · rfl
      simp only [evalOp, hb, h3, Option.map_some]
  case slc =>
    rcases refF_ok (fun k h => nilS_ok h) (fun k h => nilS_ok h) h with h | ⟨t, h1, h2, h3, h4⟩
    · exact slow_ok h
    · rw [IOpd.valF_eq, IOpd.valF_eq] at h3
      exact good_dry (by simp only [evalOp, binA, h3, Option.map_some]) h4
  all_goals exact slow_ok h

/-! ### bounds -/
theorem bndF_ok {x : Option IOpd} {d l : Nat} {k : Nat → Bool} (h : bndF x T d l k = true) : ∃ n, bnd T.val x d l = some n ∧ k n = true := by
  cases x with
  | none => exact ⟨d, rfl, h⟩
  | some x =>
    change vI (x.valF T) false _ = true at h
    rw [vI_eq, IOpd.valF_eq] at h
    split at h
    · rename_i j z hx
      rw [iN_eq] at h
      split at h
      · rename_i n
        rcases rec_t h with ⟨_, h1⟩ | ⟨hn, h1⟩
        · cases h1
        · refine ⟨n, ?_, h1⟩
          simp only [bnd, hx]
          rw [if_pos ⟨Int.natCast_nonneg n, by exact Int.ofNat_le.2 (Nat.le_of_ble_eq_true hn)⟩]
          rfl
      · cases h
    · cases h

theorem boundsF_ok {len cap : Nat} {a b c : Option IOpd} {k : Nat → Nat → Nat → Bool} (h : boundsF T len cap a b c k = true) : ∃ l h' m, bounds T.val len cap a b c = some (l, h', m) ∧ k l h' m = true := by
  unfold boundsF at h
  obtain ⟨m, h1, h⟩ := bndF_ok h
  obtain ⟨h', h2, h⟩ := bndF_ok h
  obtain ⟨l, h3, h⟩ := bndF_ok h
  rcases rec_t h with ⟨_, h4⟩ | ⟨hn, h4⟩
  · cases h4
  · refine ⟨l, h', m, ?_, h4⟩
    simp only [bounds, h1, h2, h3]
    rw [if_pos (Nat.le_of_ble_eq_true hn)]

theorem f_sliceS_ok {e : Nat} {x : IOpd} {a b c : Option IOpd} (h : f_sliceS e x a b c o T H k = true) : Gives o.C (.sliceS e x a b c) T H k := by
  unfold f_sliceS at h
  rw [vS_eq, IOpd.valF_eq] at h
  split at h
  case h_2 => cases h
  rename_i p len cap hx
  rw [oA_eq] at h
  split at h
  case h_2 => exact slow_ok h
  rename_i p
  obtain ⟨l, h', m, hb, h⟩ := boundsF_ok h
  rw [oO_eq, AHeap.getF_eq] at h
  split at h
  case h_2 => cases h
  rename_i ob hob
  rw [aC_eq] at h
  split at h
  case h_2 => exact slow_ok h
  rename_i vs
  rw [nthR_eq, verF_eq] at h
  split at h
  case h_2 => cases h
  rename_i v hv
  rcases rec_t h with ⟨_, h1⟩ | ⟨hn, h1⟩
  · cases h1
  · have he : v.esz = 0 ∨ v.esz = e := by
      rcases rec_t hn with ⟨_, h2⟩ | ⟨h2, _⟩
      · exact .inr (Nat.eq_of_beq_eq_true h2)
      · exact .inl (Nat.eq_of_beq_eq_true h2)
    refine ⟨{ v := .slice (some (aadd p (l * e))) (h' - l) (m - l), rd := [p.block] }, ?_, h1⟩
    simp only [evalOp, hx, hb, hob, hv]
    rw [if_pos he]

theorem f_sliceStr_ok {x : IOpd} {a b : Option IOpd} (h : f_sliceStr x a b o T H k = true) : Gives o.C (.sliceStr x a b) T H k := by
  unfold f_sliceStr at h
  rw [vT_eq, IOpd.valF_eq] at h
  split at h
  case h_2 => cases h
  rename_i s hx
  obtain ⟨l, h', m, hb, h⟩ := boundsF_ok h
  rw [dropB_eq] at h
  split at h
  case isFalse => cases h
  rename_i h1
  rw [takeB_eq] at h
  split at h
  case isFalse => cases h
  rename_i h2
  rw [lenB_eq] at hb
  refine good_dry ?_ h
  simp only [evalOp, hx]
  rw [show s.size = s.data.toList.length from rfl, hb]
  simp only [Option.map_some]
  congr 3
  apply ByteArray.ext
  rw [ByteArray.data_extract]
  apply Array.ext'
  simp [List.extract_eq_take_drop]

end
end Go.Ak

namespace Go.Ak
set_option linter.unusedVariables false

section
variable {o : OrcF} {T : Env} {H : AHeap} {k : KV}

theorem bytesK_eq : ∀ (l : List UInt8) (k : List Value → Bool), bytesK l k = k (l.map fun b => .int .u8 b.toNat)
  | [], k => rfl
  | x :: l, k => by
    change bytesK l _ = _
    rw [bytesK_eq l]
    rfl

theorem deadF_eq : ∀ l : List AVer, deadF l = l.map AVer.dead
  | [] => rfl
  | v :: l => by
    change _ :: deadF l = _
    rw [deadF_eq l]
    rfl

theorem killK_eq (n : AVer) : ∀ (vs : List AVer) (m : Nat) (k : List AVer → Bool), killK vs n m k = k (killAfter vs m ++ [n])
  | [], _, k => rfl
  | v :: r, 0, k => by
    change catR (deadF r) [n] _ = _
    rw [catR_eq, deadF_eq]
    rfl
  | v :: r, m + 1, k => by
    change killK r n m _ = _
    rw [killK_eq n r m]
    rfl

theorem srcF_ok {C : Ctx} {esz : Nat} {y : Value} {s : Bool} {k : Nat → List Value → List Nat → Bool} (h : srcF H esz y s k = true) :
    s = true ∨ ∃ m xs rd, lenA y = some m ∧ srcCells C H.get esz m y = some (xs, rd) ∧ k m xs rd = true := by
  unfold srcF at h
  rw [vT_eq] at h
  split at h
  · rename_i t
    rcases rec_t h with ⟨_, h⟩ | ⟨hn, h⟩
    · exact .inl h
    · rw [bytesK_eq, lenB_eq] at h
      refine .inr ⟨_, _, _, rfl, ?_, h⟩
      simp only [srcCells]
      rw [show t.data.toList.take t.size = t.data.toList from List.take_of_length_le (Nat.le_refl _)]
  · rw [vS_eq] at h
    split at h
    · rename_i b m c _
      cases m with
      | zero => exact .inl h
      | succ m' =>
        change oA b false _ = true at h
        rw [oA_eq] at h
        split at h
        · rename_i a
          rcases atV_ok h with h | ⟨vs, v, h1, h2, h3⟩
          · exact .inl h
          · rw [dropV_eq] at h3
            split at h3
            · rw [takeV_eq] at h3
              split at h3
              · rename_i hn
                refine .inr ⟨_, _, _, rfl, ?_, h3⟩
                simp only [srcCells]
                rw [if_neg (Nat.succ_ne_zero m'), loadN_cells (C := C) h1 h2, if_pos (show (m' + 1) * esz ≤ _ from hn)]
                rfl
              · cases h3
            · cases h3
        · cases h
    · cases h

theorem roomyF_eq {n b : Nat} (h : roomyF n b = true) : roomy n b = true := by
  unfold roomyF at h
  rcases rec_t h with ⟨_, h⟩ | ⟨h1, h⟩
  · cases h
  · unfold roomy
    rw [h1]
    exact h

theorem appendF_ok {ty esz bytes : Nat} {sl : Bool} {sv : Value} {m : Nat} {xs : List Value} {rd : List Nat} (hx : xs.length = m * esz ∧ xs.all scalar = true)
    (h : appendF ty esz bytes H sl sv m xs rd k = true) : sl = true ∨ ∃ out, appendA o.C H.get (some ty) esz bytes sv m xs rd H.next = some out ∧ k out.v (H.apply out) (out.info H.next) = true := by
  unfold appendF at h
  rw [vS_eq] at h
  split at h
  case h_2 => exact .inl h
  rename_i a len cap
  cases a with
  | none =>
    rcases rec_t h with ⟨_, h⟩ | ⟨hc, h⟩
    · exact .inl h
    · obtain ⟨h1, hc⟩ := and_t hc
      obtain ⟨h2, hc⟩ := and_t hc
      obtain ⟨h3, h4⟩ := and_t hc
      have h2' := Nat.le_of_ble_eq_true h2
      have h3' := Nat.eq_of_beq_eq_true h3
      have h4' := Nat.eq_of_beq_eq_true h4
      rw [AHeap.nextF_eq, AHeap.pushF_eq] at h
      refine .inr ⟨{ v := .slice (some ⟨H.next, 0, none⟩) m m, new := some (.cells [⟨esz, xs, some ty⟩]), rd }, ?_, h⟩
      unfold appendA
      rw [if_pos hx]
      dsimp only
      rw [if_pos ⟨h4', h3'⟩, if_neg (by omega), if_pos (roomyF_eq h1)]
  | some a =>
    change oO (H.getF a.block) false _ = true at h
    rw [oO_eq, AHeap.getF_eq] at h
    split at h
    case h_2 => cases h
    rename_i ob hob
    rw [aC_eq] at h
    split at h
    case h_2 => exact .inl h
    rename_i vs
    rw [nthR_eq, verF_eq] at h
    split at h
    case h_2 => cases h
    rename_i v hv
    rw [dropV_eq] at h
    split at h
    case isFalse => cases h
    rename_i hoff
    rcases rec_t h with ⟨_, h⟩ | ⟨hc, h⟩
    · exact .inl h
    · obtain ⟨h1, hc⟩ := and_t hc
      obtain ⟨h2, hc⟩ := and_t hc
      obtain ⟨h3, hc⟩ := and_t hc
      obtain ⟨h4, hc⟩ := and_t hc
      obtain ⟨h5, h6⟩ := and_t hc
      have h3' : cap < len + m := Nat.le_of_ble_eq_true h3
      have h4' : a.off + len * esz = v.cells.length := by
        have := Nat.eq_of_beq_eq_true h4
        rw [lenV_eq] at this
        exact this
      have h5' : 1 ≤ v.cells.length := by
        have := Nat.le_of_ble_eq_true h5
        rw [lenV_eq] at this
        exact this
      rw [allS_eq] at h6
      have h2' : (v.esz = 0 ∧ a.spot.isSome = false) ∨ (v.esz ≠ 0 ∧ v.esz = esz) := by
        rcases rec_t h2 with ⟨h7, h8⟩ | ⟨h7, h8⟩
        · exact .inr ⟨fun e => (by rw [e] at h7; cases h7), Nat.eq_of_beq_eq_true h8⟩
        · refine .inl ⟨Nat.eq_of_beq_eq_true h7, ?_⟩
          cases hs : a.spot with
          | none => rfl
          | some _ => rw [hs] at h8; cases h8
      have htk : (v.cells.drop a.off).take (len * esz) = v.cells.drop a.off := List.take_of_length_le (by rw [List.length_drop]; omega)
      rw [catV_eq, killK_eq, lenR_eq, AHeap.putF_eq] at h
      have hty : (@Bool.rec (fun _ => Option TypeId) none (some ty) (andF (Nat.beq a.off 0) (@Option.rec TypeId (fun _ => Bool) false (fun t => Nat.beq t ty) v.ty))) = if a.off = 0 ∧ v.ty = some ty then some ty else none := by
        by_cases ho : a.off = 0
        · rw [ho]
          cases hvt : v.ty with
          | none => simp [andF]
          | some t =>
            show (@Bool.rec (fun _ => Option TypeId) none (some ty) (Nat.beq t ty)) = _
            by_cases ht : t = ty
            · subst ht; rw [show Nat.beq t t = true from Nat.beq_refl t]; simp
            · have hb : Nat.beq t ty = false := by rw [← Bool.not_eq_true, Nat.beq_eq]; exact ht
              rw [hb, if_neg (by simpa using ht)]
        · have hb : Nat.beq a.off 0 = false := by rw [← Bool.not_eq_true, Nat.beq_eq]; exact ho
          rw [hb, if_neg (fun h => ho h.1)]
          rfl
      rw [hty] at h
      refine .inr ⟨{ v := .slice (some (mkAddr a.block vs.length 0)) (len + m) (len + m),
                     put := some (a.block, .cells (killAfter vs (ver a) ++ [⟨esz, v.cells.drop a.off ++ xs, if a.off = 0 ∧ v.ty = some ty then some ty else none⟩])),
                     rd := a.block :: rd }, ?_, h⟩
      unfold appendA
      rw [if_pos hx]
      dsimp only
      rw [if_neg (by omega), if_pos (show roomy (len + m) bytes = true from roomyF_eq h1), hob]
      dsimp only
      rw [hv]
      dsimp only
      rw [if_neg (by
        rintro ⟨e1, e2⟩
        rcases h2' with ⟨_, h7⟩ | ⟨h7, _⟩
        · rw [h7] at e2; cases e2
        · exact h7 e1), htk]
      rw [if_pos ⟨by rcases h2' with ⟨h7, _⟩ | ⟨_, h7⟩ <;> simp [h7], by omega, h6⟩, if_pos ⟨h4', by intro e; rw [e] at h5'; simp at h5'⟩]

theorem f_append_ok {ty esz bytes : Nat} {s x : IOpd} (h : f_append ty esz bytes s x o T H k = true) : Gives o.C (.append ty esz bytes s x) T H k := by
  unfold f_append at h
  rw [IOpd.valF_eq] at h
  rcases srcF_ok (C := o.C) h with h | ⟨m, xs, rd, h1, h2, h⟩
  · exact slow_ok h
  · rcases rec_t h with ⟨_, h⟩ | ⟨hc, h⟩
    · cases h
    · obtain ⟨h3, h4⟩ := and_t hc
      rw [allS_eq] at h3
      rw [lenV_eq] at h4
      rw [IOpd.valF_eq] at h
      rcases appendF_ok (o := o) ⟨Nat.eq_of_beq_eq_true h4, h3⟩ h with h | ⟨out, h5, h6⟩
      · exact slow_ok h
      · exact ⟨out, by simp only [evalOp, h1, h2, h5], h6⟩

/-! ### an operation -/
theorem evalF_ok {op : IOp} (h : evalF op o T H k = true) : Gives o.C op T H k := by
  cases op
  case mv => exact f_mv_ok h
  case pick => exact f_pick_ok h
  case mk => exact f_mk_ok h
  case box => exact f_box_ok h
  case build => exact f_build_ok h
  case buildSlice => exact f_buildSlice_ok h
  case load1 => exact f_load1_ok h
  case loadN => exact f_loadN_ok h
  case store => exact f_store_ok h
  case nilCheck => exact f_nilCheck_ok h
  case bin => exact f_bin_ok h
  case not => exact f_not_ok h
  case conv => exact f_conv_ok h
  case faddr => exact f_faddr_ok h
  case field => exact f_field_ok h
  case idxS => exact f_idxS_ok h
  case idxStr => exact f_idxStr_ok h
  case sliceS => exact f_sliceS_ok h
  case sliceStr => exact f_sliceStr_ok h
  case len => exact f_len_ok h
  case lenStr => exact f_lenStr_ok h
  case append => exact f_append_ok h
  case extract => exact f_extract_ok h
  all_goals exact slow_ok h

/-- The calls and loops that it makes are those of an evaluator. -/
structure OrcOK (o : OrcF) (o' : Orc) : Prop where
  call : ∀ f as H k, o.call f as H k = true → ∃ v H', o'.call f as H = some (v, H') ∧ k v H' = true
  loop : ∀ ro c T H ds kn kx, o.loop ro c T H ds kn kx = true → ∃ e s', o'.loop ro c ⟨T, H, ds⟩ = some (e, s') ∧ (match e with | .normal => kn s'.T s'.H s'.ds | e => kx e s'.T s'.H s'.ds) = true

theorem valsF_eq (xs : List IOpd) (T : Env) : valsF xs T = xs.map (·.val T.val) := by
  induction xs with
  | nil => rfl
  | cons x xs ih =>
    change x.valF T :: valsF xs T = _
    rw [ih, IOpd.valF_eq]
    rfl

variable {o' : Orc}

/-- What an operation or a call gives. -/
def GivesO (C : Ctx) (o' : Orc) (op : IOp) (T : Env) (H : AHeap) (k : KV) : Prop :=
  match op with
  | .call f as => ∃ v H', o'.call (f.val T.val) (as.map (·.val T.val)) H = some (v, H') ∧ k v H' (.call H H') = true
  | op => Gives C op T H k

theorem runF_ok (ho : OrcOK o o') {op : IOp} (h : runF op o T H k = true) : GivesO o.C o' op T H k := by
  cases op
  case call f as =>
    obtain ⟨v, H', h1, h2⟩ := ho.call _ _ _ _ h
    rw [IOpd.valF_eq, valsF_eq] at h1
    exact ⟨v, H', h1, h2⟩
  all_goals exact evalF_ok h

/-- What a step gives. -/
def GivesS (C : Ctx) (o' : Orc) (x : IOper) (T : Env) (H : AHeap) (k : KS) : Prop := ∃ T' H' i, stepA C o' x T H = some (T', H', i) ∧ k T' H' i = true

theorem putK_eq (d : Option Nat) (T : Env) (k : KS) (v : Value) (H : AHeap) (i : Info) : putK d T k v H i = k (putDst T d v) H i := by
  cases d with
  | none => rfl
  | some n =>
    change k (T.putF n v) H i = _
    rw [Env.putF_eq]
    rfl

theorem run_step {dst : Option Nat} {op : IOp} {g : Option (Nat × Bool)} {k : KS} (hg : wantedA T.val g = some true) (h : GivesO o.C o' op T H (putK dst T k)) : GivesS o.C o' ⟨dst, op, g⟩ T H k := by
  unfold GivesS stepA
  rw [hg]
  cases op
  case call f as =>
    obtain ⟨v, H', h1, h2⟩ := h
    rw [putK_eq] at h2
    dsimp only
    rw [h1]
    exact ⟨_, _, _, rfl, h2⟩
  all_goals
    obtain ⟨out, h1, h2⟩ := h
    rw [putK_eq] at h2
    dsimp only
    rw [h1]
    exact ⟨_, _, _, rfl, h2⟩

theorem wantF_ok {t : Nat} {b no yes : Bool} (h : wantF t b T no yes = true) : (wantedA T.val (some (t, b)) = some false ∧ no = true) ∨ (wantedA T.val (some (t, b)) = some true ∧ yes = true) := by
  unfold wantF at h
  rw [vB_eq, Env.valF_eq] at h
  split at h
  · rename_i x hx
    have hw : wantedA T.val (some (t, b)) = some (x == b) := by simp only [wantedA, hx]
    rw [hw]
    cases x <;> cases b <;> first | exact .inl ⟨rfl, h⟩ | exact .inr ⟨rfl, h⟩
  · rw [vU_eq] at h
    split at h
    · rename_i vs hv
      obtain ⟨l⟩ := vs
      cases l with
      | nil => cases h
      | cons v r =>
        cases r with
        | cons _ _ => cases h
        | nil =>
          change vU v false (fun _ => no) = true at h
          rw [vU_eq] at h
          split at h
          · exact .inl ⟨by simp only [wantedA, hv], h⟩
          · cases h
    · cases h

theorem stepF_ok (ho : OrcOK o o') {x : IOper} {k : KS} (h : stepF x o T H k = true) : GivesS o.C o' x T H k := by
  obtain ⟨dst, op, g⟩ := x
  cases g with
  | none => exact run_step rfl (runF_ok ho h)
  | some p =>
    obtain ⟨t, b⟩ := p
    rcases wantF_ok h with ⟨h1, h2⟩ | ⟨h1, h2⟩
    · rw [putK_eq] at h2
      refine ⟨_, _, _, ?_, h2⟩
      unfold stepA
      rw [h1]
      rfl
    · exact run_step h1 (runF_ok ho h2)

theorem opsF_ok (ho : OrcOK o o') : ∀ (xs : List IOper) (T : Env) (H : AHeap) (k : KO), opsF xs o T H k = true → ∃ T' H', opsA o.C o' xs T H = some (T', H') ∧ k T' H' = true
  | [], T, H, k, h => ⟨T, H, rfl, h⟩
  | x :: xs, T, H, k, h => by
    change stepF x o T H (fun T H _ => opsF xs o T H k) = true at h
    obtain ⟨T1, H1, i, h1, h2⟩ := stepF_ok ho h
    obtain ⟨T2, H2, h3, h4⟩ := opsF_ok ho xs _ _ _ h2
    exact ⟨T2, H2, by simp only [opsA, h1, h3], h4⟩

theorem freeF_ok (C : Ctx) (log : List Info) (i : Info) : ∀ un : List Nat, freeF un C log i = true → freeAll C log i un = true
  | [], _ => rfl
  | d :: r, h => by
    change nthI log d (fun k => @Bool.rec (fun _ => Bool) false (freeF r C log i) (free C k i)) = true at h
    rw [nthI_eq] at h
    split at h
    · rename_i k hk
      rcases rec_t h with ⟨_, h⟩ | ⟨h1, h⟩
      · cases h
      · simp only [freeAll, hk, h1, freeF_ok C log i r h, Bool.and_self]
    · cases h

theorem dopsF_ok (ho : OrcOK o o') : ∀ (es : List (Nat × IOper × List Nat)) (log : List Info) (T : Env) (H : AHeap) (k : KO), dopsF es o log T H k = true → ∃ T' H', dopsA o.C o' es log T H = some (T', H') ∧ k T' H' = true
  | [], log, T, H, k, h => ⟨T, H, rfl, h⟩
  | (n, x, un) :: es, log, T, H, k, h => by
    change stepF x o T H (fun T H i => @Bool.rec (fun _ => Bool) false (dopsF es o (i :: log) T H k) (freeF un o.C log i)) = true at h
    obtain ⟨T1, H1, i, h1, h2⟩ := stepF_ok ho h
    rcases rec_t h2 with ⟨_, h2⟩ | ⟨hf, h2⟩
    · cases h2
    · obtain ⟨T2, H2, h3, h4⟩ := dopsF_ok ho es _ _ _ _ h2
      refine ⟨T2, H2, ?_, h4⟩
      simp only [dopsA, h1]
      rw [if_pos (freeF_ok _ _ _ _ hf)]
      exact h3

/-! ### code -/
/-- What code gives. -/
def GivesC (C : Ctx) (o' : Orc) (c : ICode) (ro : Option Nat) (s : St) (kn : KN) (kx : KX) : Prop :=
  ∃ e s', codeA C o' ro c s = some (e, s') ∧ (match e with | .normal => kn s'.T s'.H s'.ds | e => kx e s'.T s'.H s'.ds) = true

theorem codeF_ok (ho : OrcOK o o') (c : ICode) : ∀ (ro : Option Nat) (T : Env) (H : AHeap) (ds : List Nat) (kn : KN) (kx : KX), codeF c o ro T H ds kn kx = true → GivesC o.C o' c ro ⟨T, H, ds⟩ kn kx := by
  induction c with
  | skip => intro ro T H ds kn kx h; exact ⟨.normal, _, rfl, h⟩
  | exit id => intro ro T H ds kn kx h; exact ⟨.exit id, _, rfl, h⟩
  | ret => intro ro T H ds kn kx h; exact ⟨.ret, _, rfl, h⟩
  | bad => intro ro T H ds kn kx h; cases h
  | region ops =>
    intro ro T H ds kn kx h
    obtain ⟨T', H', h1, h2⟩ := opsF_ok ho ops T H _ h
    exact ⟨.normal, ⟨T', H', ds⟩, by simp only [codeA, h1], h2⟩
  | dregion ops =>
    intro ro T H ds kn kx h
    obtain ⟨T', H', h1, h2⟩ := dopsF_ok ho ops [] T H _ h
    exact ⟨.normal, ⟨T', H', ds⟩, by simp only [codeA, h1], h2⟩
  | seq a b iha ihb =>
    intro ro T H ds kn kx h
    obtain ⟨e, s', h1, h2⟩ := iha ro T H ds _ _ h
    cases e with
    | normal =>
      obtain ⟨e2, s2, h3, h4⟩ := ihb ro _ _ _ _ _ h2
      exact ⟨e2, s2, by simp only [codeA, h1]; exact h3, h4⟩
    | exit id => exact ⟨.exit id, s', by simp only [codeA, h1], h2⟩
    | ret => exact ⟨.ret, s', by simp only [codeA, h1], h2⟩
  | cond x a b iha ihb =>
    intro ro T H ds kn kx h
    change vB (x.valF T) false _ = true at h
    rw [vB_eq, IOpd.valF_eq] at h
    split at h
    · rename_i t hx
      rcases rec_t h with ⟨rfl, h⟩ | ⟨rfl, h⟩
      · obtain ⟨e, s', h1, h2⟩ := ihb ro T H ds _ _ h
        exact ⟨e, s', by simp only [codeA, hx]; exact h1, h2⟩
      · obtain ⟨e, s', h1, h2⟩ := iha ro T H ds _ _ h
        exact ⟨e, s', by simp only [codeA, hx]; exact h1, h2⟩
    · cases h
  | block id c ih =>
    intro ro T H ds kn kx h
    obtain ⟨e, s', h1, h2⟩ := ih ro T H ds _ _ h
    cases e with
    | normal => exact ⟨.normal, s', by simp only [codeA, h1], h2⟩
    | ret => exact ⟨.ret, s', by simp only [codeA, h1], h2⟩
    | exit i =>
      rcases rec_t h2 with ⟨hn, h2⟩ | ⟨hn, h2⟩
      · refine ⟨.exit i, s', ?_, h2⟩
        simp only [codeA, h1]
        rw [if_neg (fun e => by rw [e, Nat.beq_refl] at hn; cases hn)]
      · refine ⟨.normal, s', ?_, h2⟩
        simp only [codeA, h1]
        rw [if_pos (Nat.eq_of_beq_eq_true hn)]
  | loop c ih =>
    intro ro T H ds kn kx h
    obtain ⟨e, s', h1, h2⟩ := ho.loop _ _ _ _ _ _ _ h
    exact ⟨e, s', h1, h2⟩
  | rangeFunc f ps assign body _ _ =>
    intro ro T H ds kn kx h
    change (match isFn (f.val T.val) && inLoop ro H with
      | false => false
      | true => _) = true at h
    unfold GivesC
    simp only [codeA]
    split at h
    · cases h
    · rename_i hin
      rw [hin]
      cases ro
      all_goals
        dsimp only at h ⊢
        obtain ⟨v, H3, h1, h2⟩ := ho.call _ _ _ _ h
        rw [h1]
        dsimp only at h2 ⊢
        split at h2
        · rename_i L hL
          rw [hL]
          dsimp only
          split at h2
          · cases h2
          · rename_i hb
            rw [if_neg hb]
            refine ⟨_, _, rfl, ?_⟩
            split at h2
            · rename_i hp; rw [hp]; exact h2
            · rename_i hp
              cases hq : L.pending.getD .normal with
              | normal => exact absurd hq hp
              | exit id => rw [hq] at h2; exact h2
              | ret => rw [hq] at h2; exact h2
        · cases h2

/-! ### calls -/
theorem argsF_eq : ∀ (as : List Value) (i : Nat) (T : Env), argsF as i T = ofArgs as i T
  | [], _, _ => rfl
  | v :: as, i, T => by
    change argsF as (i + 1) (T.putF i v) = _
    rw [argsF_eq as, Env.putF_eq]
    rfl

theorem resF_ok {C : Ctx} : ∀ (rs : List IRes) (T : Env) (H : AHeap) (k : List Value → Bool), resF rs C T H k = true → ∃ l, resAll C T.val H.get rs = some l ∧ k l = true
  | [], T, H, k, h => ⟨[], rfl, h⟩
  | .tmp t :: rs, T, H, k, h => by
    obtain ⟨l, h1, h2⟩ := resF_ok rs T H _ h
    rw [Env.valF_eq] at h2
    exact ⟨_, by simp only [resAll, resA, h1], h2⟩
  | .cell1 t :: rs, T, H, k, h => by
    change (match resA C T.valF H.getF (.cell1 t) with | some v => resF rs C T H fun l => k (v :: l) | none => false) = true at h
    rw [valF_fun, getF_fun] at h
    split at h
    · rename_i v hv
      obtain ⟨l, h1, h2⟩ := resF_ok rs T H _ h
      exact ⟨_, by simp only [resAll, hv, h1], h2⟩
    · cases h
  | .cellN t n :: rs, T, H, k, h => by
    change (match resA C T.valF H.getF (.cellN t n) with | some v => resF rs C T H fun l => k (v :: l) | none => false) = true at h
    rw [valF_fun, getF_fun] at h
    split at h
    · rename_i v hv
      obtain ⟨l, h1, h2⟩ := resF_ok rs T H _ h
      exact ⟨_, by simp only [resAll, hv, h1], h2⟩
    · cases h

theorem oneF_eq : ∀ l : List Value, oneF l = oneOrTuple l
  | [] => rfl
  | [v] => rfl
  | _ :: _ :: _ => rfl

theorem endF_ok {C : Ctx} {rs : List IRes} {ds : List Nat} {k : KC} (h : endF rs C ds T H k = true) : ∃ H' l, shut ds H = some H' ∧ resAll C T.val H'.get rs = some l ∧ k (oneOrTuple l) H' = true := by
  cases ds with
  | nil =>
    obtain ⟨l, h1, h2⟩ := resF_ok rs T H _ h
    rw [oneF_eq] at h2
    exact ⟨H, l, rfl, h1, h2⟩
  | cons d ds =>
    change (match shut (d :: ds) H with | some H' => resF rs C T H' fun l => k (oneF l) H' | none => false) = true at h
    split at h
    · rename_i H' hs
      obtain ⟨l, h1, h2⟩ := resF_ok rs T H' _ h
      rw [oneF_eq] at h2
      exact ⟨H', l, hs, h1, h2⟩
    · cases h

theorem fnF_ok (ho : OrcOK o o') {F : IFunc} {as : List Value} {k : KC} (h : fnF o F as H k = true) : ∃ v H', callFn o.C o' F as H = some (v, H') ∧ k v H' = true := by
  unfold fnF at h
  obtain ⟨e, s', h1, h2⟩ := codeF_ok ho _ _ _ _ _ _ _ h
  rw [argsF_eq] at h1
  have key : ∀ {e : AExit}, (∀ i, e ≠ .exit i) → codeA o.C o' none F.body ⟨ofArgs as 0 .empty, H, []⟩ = some (e, s') → endF F.results o.C s'.ds s'.T s'.H k = true → ∃ v H', callFn o.C o' F as H = some (v, H') ∧ k v H' = true := by
    intro e he h1 h2
    obtain ⟨H', l, h3, h4, h5⟩ := endF_ok h2
    refine ⟨_, H', ?_, h5⟩
    unfold callFn
    rw [h1]
    cases e with
    | exit i => exact absurd rfl (he i)
    | normal => simp only [h3, h4]
    | ret => simp only [h3, h4]
  cases e with
  | normal => exact key (by simp) h1 h2
  | exit i => cases h2
  | ret => exact key (by simp) h1 h2

theorem endRoundF_ok {l : Nat} {e : AExit} {s : St} {k : KC} (h : endRoundF l e s k = true) : ∃ v H', endRound l e s = some (v, H') ∧ k v H' = true := by
  unfold endRoundF at h
  split at h
  · rename_i v H' hr; exact ⟨v, H', hr, h⟩
  · cases h

theorem bodyF_ok (ho : OrcOK o o') {l : Nat} {b : ICode} {s : St} {k : KC} (h : bodyF o l b s k = true) : ∃ v H', bodyRound o.C o' l b s = some (v, H') ∧ k v H' = true := by
  unfold bodyF at h
  unfold bodyRound
  split at h
  · rename_i L hL
    rw [hL]
    dsimp only
    split at h
    · rename_i hst
      rw [if_pos hst]
      obtain ⟨e, s', h1, h2⟩ := codeF_ok ho _ _ _ _ _ _ _ h
      rw [h1]
      dsimp only
      cases e with
      | normal => exact endRoundF_ok h2
      | exit i => exact endRoundF_ok h2
      | ret => exact endRoundF_ok h2
    · cases h
  · cases h

theorem yieldF_ok (ho : OrcOK o o') {l : Nat} {as : List Value} {k : KC} (h : yieldF o l as H k = true) : ∃ v H', callYield o.C o' l as H = some (v, H') ∧ k v H' = true := by
  unfold yieldF at h
  unfold callYield
  split at h
  · rename_i L hL
    rw [hL]
    dsimp only
    split at h
    · rename_i hst
      rw [if_pos hst]
      obtain ⟨e, s', h1, h2⟩ := codeF_ok ho _ _ _ _ _ _ _ h
      rw [h1]
      dsimp only
      cases e with
      | normal =>
        rw [if_pos rfl]
        exact bodyF_ok ho h2
      | exit i => cases h2
      | ret => cases h2
    · cases h
  · cases h

theorem Trie.getF_eq : ∀ (t : Trie IFunc) (n : Nat), Trie.getF t n = t.get n
  | .leaf, _ => by rw [Trie.get_leaf]; rfl
  | .node l v r, 0 => rfl
  | .node l v r, n + 1 => by
    change @Bool.rec (fun _ => Option IFunc) (Trie.getF r (n / 2)) (Trie.getF l (n / 2)) (Nat.beq (n % 2) 0) = _
    rw [Trie.getF_eq l, Trie.getF_eq r]
    rw [Trie.get]
    cases Nat.beq (n % 2) 0 <;> rfl

theorem callF_ok (ho : OrcOK o o') {f : Value} {as : List Value} {k : KC} (h : callF o f as H k = true) : ∃ v H', callA o.C o' f as H = some (v, H') ∧ k v H' = true := by
  unfold callF at h
  rw [vF_eq] at h
  split at h
  case h_2 => cases h
  rename_i fn first captured
  cases fn with
  | func n =>
    change @Option.rec (Value × AHeap) (fun _ => List Value → Bool) (fun as => oF (Trie.getF o.C.funcs n) false fun F => fnF o F as H k) (fun r _ => k r.1 r.2) (o.C.known n (first.toList ++ (as ++ captured.toList)) H) (first.toList ++ (as ++ captured.toList)) = true at h
    unfold callA
    dsimp only
    cases hk : o.C.known n (first.toList ++ (as ++ captured.toList)) H with
    | some r =>
      rw [hk] at h
      exact ⟨r.1, r.2, rfl, h⟩
    | none =>
      rw [hk] at h
      change oF (Trie.getF o.C.funcs n) false _ = true at h
      rw [oF_eq, Trie.getF_eq] at h
      split at h
      · rename_i F hF
        rw [hF]
        exact fnF_ok ho h
      · cases h
  | yield l =>
    change (if first.isEmpty && captured.isEmpty then yieldF o l as H k else false) = true at h
    unfold callA
    dsimp only
    split at h
    · rename_i hc
      rw [if_pos hc]
      exact yieldF_ok ho h
    · cases h
  | method _ => cases h
  | methodOf _ _ => cases h
  | via _ _ _ _ => cases h

end

theorem orcF_C (C : Ctx) : ∀ n, (orcF C n).C = C
  | 0 => rfl
  | _ + 1 => rfl

/-- **WHAT IS MADE FOR THE KERNEL GIVES WHAT THE EVALUATOR GIVES.** -/
theorem orcF_ok (C : Ctx) : ∀ n, OrcOK (orcF C n) (orc C n)
  | 0 => ⟨fun _ _ _ _ h => (by cases h), fun _ _ _ _ _ _ _ h => (by cases h)⟩
  | n + 1 => by
    have ih := orcF_ok C n
    refine ⟨fun f as H k h => ?_, fun ro c T H ds kn kx h => ?_⟩
    · change callF (orcF C n) f as H k = true at h
      obtain ⟨v, H', h1, h2⟩ := callF_ok ih h
      rw [orcF_C] at h1
      exact ⟨v, H', h1, h2⟩
    · change codeF c (orcF C n) ro T H ds (fun T H ds => (orcF C n).loop ro c T H ds kn kx) kx = true at h
      obtain ⟨e, s', h1, h2⟩ := codeF_ok ih _ _ _ _ _ _ _ h
      rw [orcF_C] at h1
      change ∃ e s', loopA C (orc C n) ro c ⟨T, H, ds⟩ = some (e, s') ∧ _
      unfold loopA
      rw [h1]
      cases e with
      | normal =>
        obtain ⟨e2, s2, h3, h4⟩ := ih.loop _ _ _ _ _ _ _ h2
        exact ⟨e2, s2, h3, h4⟩
      | exit i => exact ⟨_, _, rfl, h2⟩
      | ret => exact ⟨_, _, rfl, h2⟩

end Go.Ak

namespace Go.Ak
set_option linter.unusedVariables false

/-! ### a memory out of a list -/
def putAll (t : Tab AObj) : List (Nat × AObj) → Tab AObj
  | [] => t
  | p :: l => putAll (t.put p.1 p.2) l

/-- Objects are told by their places in the table. -/
def heapOf (B : Nat) (l : List (Nat × AObj)) (cnt : Nat) : AHeap := ⟨B, putAll .leaf l, cnt⟩

noncomputable def putAllF : List (Nat × AObj) → Tab AObj → Tab AObj := fun l =>
  @List.rec (Nat × AObj) (fun _ => Tab AObj → Tab AObj) (fun t => t) (fun p _ ih t => ih (t.putF p.1 p.2)) l
theorem putAllF_eq : ∀ (l : List (Nat × AObj)) (t : Tab AObj), putAllF l t = putAll t l
  | [], _ => rfl
  | p :: l, t => by
    change putAllF l (t.putF p.1 p.2) = _
    rw [putAllF_eq l, Tab.putF_eq]
    rfl
noncomputable def heapF (B : Nat) (l : List (Nat × AObj)) (cnt : Nat) : AHeap := ⟨B, putAllF l .leaf, cnt⟩
theorem heapF_eq (B : Nat) (l : List (Nat × AObj)) (cnt : Nat) : heapF B l cnt = heapOf B l cnt := by unfold heapF heapOf; rw [putAllF_eq]

theorem putAll_get : ∀ (l : List (Nat × AObj)) (t : Tab AObj) (b : Nat) (x : AObj), (putAll t l).get b = some x → (∃ p ∈ l, p.1 = b ∧ p.2 = x) ∨ (t.get b = some x ∧ ∀ p ∈ l, p.1 ≠ b)
  | [], t, b, x, h => .inr ⟨h, by simp⟩
  | p :: l, t, b, x, h => by
    rcases putAll_get l _ b x h with ⟨q, h1, h2⟩ | ⟨h1, h2⟩
    · exact .inl ⟨q, List.mem_cons_of_mem _ h1, h2⟩
    · rw [Tab.get_put] at h1
      split at h1
      · rename_i hb
        cases h1
        exact .inl ⟨p, List.mem_cons_self, hb.symm, rfl⟩
      · rename_i hb
        refine .inr ⟨h1, fun q hq => ?_⟩
        rcases List.mem_cons.1 hq with rfl | hq
        · exact fun e => hb e.symm
        · exact h2 q hq

theorem getB (H : AHeap) (i : Nat) : H.get (H.base + i) = H.t.get i := by
  unfold AHeap.get
  rw [if_neg (by omega), Nat.add_sub_cancel_left]

theorem getRaw (H : AHeap) {b : Nat} (h : b < H.base) : H.get b = some .raw := by
  unfold AHeap.get
  rw [if_pos h]

theorem heapOf_get {B : Nat} {l : List (Nat × AObj)} {cnt i : Nat} {x : AObj} (h : (heapOf B l cnt).get (B + i) = some x) : ∃ p ∈ l, p.1 = i ∧ p.2 = x := by
  have h' : (putAll .leaf l).get i = some x := (getB (heapOf B l cnt) i).symm.trans h
  rcases putAll_get l _ i x h' with h | ⟨h, _⟩
  · exact h
  · rw [Tab.get_leaf] at h; cases h

/-! ### values, held against each other -/
def valEqN : Nat → Value → Value → Bool
  | 0, _, _ => false
  | n + 1, .tuple a, .tuple b => listEqb (valEqN n) a.toList b.toList
  | n + 1, .agg a, .agg b => listEqb (valEqN n) a.toList b.toList
  | n + 1, .iface t a, .iface u b => Nat.beq t u && valEqN n a b
  | n + 1, .func (.func f) a b, .func (.func g) c d => Nat.beq f g && (listEqb (valEqN n) a.toList c.toList && listEqb (valEqN n) b.toList d.toList)
  | _ + 1, a, b => valEqb a b

theorem valEqN_eq : ∀ (n : Nat) (a b : Value), valEqN n a b = true → a = b
  | 0, _, _, h => by cases h
  | n + 1, a, b, h => by
    unfold valEqN at h
    split at h
    · rename_i he; cases he
    · rename_i m a b he
      cases he
      rw [Array.ext' (listEqb_eq (valEqN_eq n) h)]
    · rename_i m a b he
      cases he
      rw [Array.ext' (listEqb_eq (valEqN_eq n) h)]
    · rename_i m t a u b he
      cases he
      simp only [Bool.and_eq_true] at h
      rw [Nat.eq_of_beq_eq_true h.1, valEqN_eq n _ _ h.2]
    · rename_i m f a b g c d he
      cases he
      simp only [Bool.and_eq_true] at h
      rw [Nat.eq_of_beq_eq_true h.1, Array.ext' (listEqb_eq (valEqN_eq n) h.2.1), Array.ext' (listEqb_eq (valEqN_eq n) h.2.2)]
    · exact valEqb_eq h

def verEqN (a b : AVer) : Bool := Nat.beq a.esz b.esz && (listEqb (valEqN 4) a.cells b.cells && natOptEqb a.ty b.ty)
theorem verEqN_eq (a b : AVer) (h : verEqN a b = true) : a = b := by
  obtain ⟨x, y, z⟩ := a
  obtain ⟨x', y', z'⟩ := b
  simp [verEqN] at h
  rw [h.1, listEqb_eq (valEqN_eq 4) h.2.1, natOptEqb_eq h.2.2]

def objEqN : AObj → AObj → Bool
  | .raw, .raw => true
  | .gone, .gone => true
  | .iter, .iter => true
  | .cells a, .cells b => listEqb verEqN a b
  | .deferred a, .deferred b => a == b
  | .map a, .map b => listEqb (fun x y => valEqN 4 x.1 y.1 && valEqN 4 x.2 y.2) a b
  | _, _ => false

theorem objEqN_eq (a b : AObj) (h : objEqN a b = true) : a = b := by
  unfold objEqN at h
  split at h
  · rfl
  · rfl
  · rfl
  · rw [listEqb_eq verEqN_eq h]
  · simp at h; rw [h]
  · rw [listEqb_eq (fun x y h => by
      simp at h
      exact Prod.ext (valEqN_eq 4 _ _ h.1) (valEqN_eq 4 _ _ h.2)) h]
  · cases h

/-! ### pieces -/
/-- A call: the function, its arguments, the memory's size ahead, the objects that it looks at; its result, the objects behind it (others are forgotten), the memory's size. -/
structure Chunk where
  k : FuncId
  args : List Value
  cnt : Nat
  pre : List (Nat × AObj)
  v : Value
  post : List (Nat × AObj)
  cnt' : Nat

def lowAll (n : Nat) (l : List (Nat × AObj)) : Bool := l.all fun p => Nat.ble (p.1 + 1) n
theorem lowAll_ok {n : Nat} {l : List (Nat × AObj)} (h : lowAll n l = true) : ∀ p ∈ l, p.1 < n := fun p hp => Nat.le_of_ble_eq_true (List.all_eq_true.1 h p hp)

noncomputable def hasF (b : Nat) : List (Nat × AObj) → Bool := fun l => @List.rec (Nat × AObj) (fun _ => Bool) false (fun p _ ih => @Bool.rec (fun _ => Bool) ih true (Nat.beq p.1 b)) l
theorem hasF_ok (b : Nat) : ∀ l : List (Nat × AObj), hasF b l = true → ∃ p ∈ l, p.1 = b
  | [], h => by cases h
  | p :: l, h => by
    change @Bool.rec (fun _ => Bool) (hasF b l) true (Nat.beq p.1 b) = true at h
    rcases rec_t h with ⟨_, h⟩ | ⟨h, _⟩
    · obtain ⟨q, h1, h2⟩ := hasF_ok b l h
      exact ⟨q, List.mem_cons_of_mem _ h1, h2⟩
    · exact ⟨p, List.mem_cons_self, Nat.eq_of_beq_eq_true h⟩

/-- What turned was there. -/
noncomputable def oldF (n : Nat) (pre : List (Nat × AObj)) : List (Nat × AObj) → Bool := fun l =>
  @List.rec (Nat × AObj) (fun _ => Bool) true (fun p _ ih => @Bool.rec (fun _ => Bool) false ih (@Bool.rec (fun _ => Bool) (hasF p.1 pre) true (Nat.ble n p.1))) l
theorem oldF_ok {n : Nat} {pre : List (Nat × AObj)} : ∀ l : List (Nat × AObj), oldF n pre l = true → ∀ p ∈ l, p.1 < n → ∃ q ∈ pre, q.1 = p.1
  | [], _ => by simp
  | q :: l, h => by
    change @Bool.rec (fun _ => Bool) false (oldF n pre l) (@Bool.rec (fun _ => Bool) (hasF q.1 pre) true (Nat.ble n q.1)) = true at h
    rcases rec_t h with ⟨_, h⟩ | ⟨h1, h⟩
    · cases h
    · intro p hp hn
      rcases List.mem_cons.1 hp with rfl | hp
      · rcases rec_t h1 with ⟨_, h2⟩ | ⟨h2, _⟩
        · exact hasF_ok _ _ h2
        · have := Nat.le_of_ble_eq_true h2; omega
      · exact oldF_ok l h p hp hn

/-- The sizes are right. -/
noncomputable def Chunk.fits (c : Chunk) : Bool := Nat.ble c.cnt c.cnt' && (lowAll c.cnt c.pre && (lowAll c.cnt' c.post && oldF c.cnt c.pre c.post))

/-- The memory behind it. -/
def Chunk.over (c : Chunk) (H : AHeap) : AHeap := ⟨H.base, putAll H.t c.post, c.cnt'⟩
noncomputable def Chunk.overF (c : Chunk) (H : AHeap) : AHeap := ⟨H.base, putAllF c.post H.t, c.cnt'⟩
theorem Chunk.overF_eq (c : Chunk) (H : AHeap) : c.overF H = c.over H := by unfold Chunk.overF Chunk.over; rw [putAllF_eq]

/-- Do its objects lie here? -/
noncomputable def liesF : List (Nat × AObj) → AHeap → Bool := fun l =>
  @List.rec (Nat × AObj) (fun _ => AHeap → Bool) (fun _ => true) (fun p _ ih H => @Bool.rec (fun _ => Bool) false (ih H) (oO (H.getF (Nat.add H.base p.1)) false fun x => objEqN x p.2)) l
theorem liesF_ok : ∀ (l : List (Nat × AObj)) (H : AHeap), liesF l H = true → ∀ p ∈ l, H.get (H.base + p.1) = some p.2
  | [], _, _ => by simp
  | q :: l, H, h => by
    change @Bool.rec (fun _ => Bool) false (liesF l H) (oO (H.getF (Nat.add H.base q.1)) false fun x => objEqN x q.2) = true at h
    rcases rec_t h with ⟨_, h⟩ | ⟨h1, h⟩
    · cases h
    · intro p hp
      rcases List.mem_cons.1 hp with rfl | hp
      · rw [oO_eq, AHeap.getF_eq] at h1
        split at h1
        · rename_i x hx
          rw [show H.get (H.base + p.1) = some x from hx, objEqN_eq _ _ h1]
        · cases h1
      · exact liesF_ok l H h p hp

/-- Is it this call? -/
noncomputable def Chunk.isF (B : Nat) (c : Chunk) (k : FuncId) (as : List Value) (H : AHeap) : Bool :=
  @Bool.rec (fun _ => Bool) false (@Bool.rec (fun _ => Bool) false (@Bool.rec (fun _ => Bool) false (@Bool.rec (fun _ => Bool) false (@Bool.rec (fun _ => Bool) false (liesF c.pre H) (listEqb (valEqN 4) as c.args)) c.fits) (Nat.beq H.base B)) (Nat.beq H.cnt c.cnt)) (Nat.beq k c.k)

theorem Chunk.isF_ok {B : Nat} {c : Chunk} {k : FuncId} {as : List Value} {H : AHeap} (h : c.isF B k as H = true) : k = c.k ∧ H.cnt = c.cnt ∧ H.base = B ∧ c.fits = true ∧ as = c.args ∧ ∀ p ∈ c.pre, H.get (H.base + p.1) = some p.2 := by
  unfold Chunk.isF at h
  rcases rec_t h with ⟨_, h⟩ | ⟨h1, h⟩
  · cases h
  rcases rec_t h with ⟨_, h⟩ | ⟨h2, h⟩
  · cases h
  rcases rec_t h with ⟨_, h⟩ | ⟨h3, h⟩
  · cases h
  rcases rec_t h with ⟨_, h⟩ | ⟨h4, h⟩
  · cases h
  rcases rec_t h with ⟨_, h⟩ | ⟨h5, h⟩
  · cases h
  exact ⟨Nat.eq_of_beq_eq_true h1, Nat.eq_of_beq_eq_true h2, Nat.eq_of_beq_eq_true h3, h4, listEqb_eq (valEqN_eq 4) h5, liesF_ok _ _ h⟩

/-- What is known of pieces. -/
noncomputable def knownF (B : Nat) : List Chunk → FuncId → List Value → AHeap → Option (Value × AHeap) := fun cs =>
  @List.rec Chunk (fun _ => FuncId → List Value → AHeap → Option (Value × AHeap)) (fun _ _ _ => none) (fun c _ ih k as H => @Bool.rec (fun _ => Option (Value × AHeap)) (ih k as H) (some (c.v, c.overF H)) (c.isF B k as H)) cs

theorem knownF_ok (B : Nat) : ∀ (cs : List Chunk) (k : FuncId) (as : List Value) (H : AHeap) (v : Value) (H' : AHeap), knownF B cs k as H = some (v, H') → ∃ c ∈ cs, c.isF B k as H = true ∧ v = c.v ∧ H' = c.over H
  | [], _, _, _, _, _, h => by cases h
  | c :: cs, k, as, H, v, H', h => by
    change @Bool.rec (fun _ => Option (Value × AHeap)) (knownF B cs k as H) (some (c.v, c.overF H)) (c.isF B k as H) = some (v, H') at h
    cases hc : c.isF B k as H with
    | false =>
      rw [hc] at h
      obtain ⟨c', h1, h2⟩ := knownF_ok B cs k as H v H' h
      exact ⟨c', List.mem_cons_of_mem _ h1, h2⟩
    | true =>
      rw [hc] at h
      cases h
      exact ⟨c, List.mem_cons_self, hc, rfl, c.overF_eq H⟩

theorem over_wf {c : Chunk} {H : AHeap} (hf : c.fits = true) (hc : H.cnt = c.cnt) : Grow H (c.over H) := by
  unfold Chunk.fits at hf
  simp only [Bool.and_eq_true] at hf
  have h1 := Nat.le_of_ble_eq_true hf.1
  refine ⟨rfl, by show H.cnt ≤ c.cnt'; omega, fun hw i hi => ?_⟩
  have hi' : c.cnt' ≤ i := hi
  cases hx : (putAll H.t c.post).get i with
  | none => exact hx
  | some x =>
    rcases putAll_get _ _ _ _ hx with ⟨p, hp, h2, _⟩ | ⟨h2, _⟩
    · have := lowAll_ok hf.2.2.1 p hp
      omega
    · rw [hw i (by omega)] at h2; cases h2

/-- Calls whose answers are known, and that leave all memory as it is. -/
noncomputable def knownE (B : Nat) (kb : FuncId → List Value → Option Value) (k : FuncId) (as : List Value) (H : AHeap) : Option (Value × AHeap) :=
  @Option.rec Value (fun _ => AHeap → Option (Value × AHeap)) (fun _ => none) (fun v H => @Bool.rec (fun _ => Option (Value × AHeap)) none (some (v, H)) (Nat.beq H.base B)) (kb k as) H

theorem knownE_cases (B : Nat) (kb : FuncId → List Value → Option Value) (k : FuncId) (as : List Value) (H : AHeap) :
    (∀ H' : AHeap, H'.base = H.base → knownE B kb k as H' = none) ∨ ∃ v, kb k as = some v ∧ H.base = B ∧ ∀ H' : AHeap, H'.base = H.base → knownE B kb k as H' = some (v, H') := by
  cases hk : kb k as with
  | none => exact .inl fun H' _ => by unfold knownE; rw [hk]
  | some v =>
    cases hb : Nat.beq H.base B with
    | false => exact .inl fun H' h => by
                 unfold knownE
                 rw [hk]
                 change @Bool.rec (fun _ => Option (Value × AHeap)) none (some (v, H')) (Nat.beq H'.base B) = none
                 rw [h, hb]
    | true => exact .inr ⟨v, rfl, Nat.eq_of_beq_eq_true hb, fun H' h => by
                unfold knownE
                rw [hk]
                change @Bool.rec (fun _ => Option (Value × AHeap)) none (some (v, H')) (Nat.beq H'.base B) = some (v, H')
                rw [h, hb]⟩

noncomputable def knownA (B : Nat) (kb : FuncId → List Value → Option Value) (cs : List Chunk) (k : FuncId) (as : List Value) (H : AHeap) : Option (Value × AHeap) :=
  @Option.rec (Value × AHeap) (fun _ => Option (Value × AHeap)) (knownF B cs k as H) (fun r => some r) (knownE B kb k as H)

theorem grow_refl (H : AHeap) : Grow H H := ⟨rfl, Nat.le_refl _, id⟩

theorem knownA_grow (B : Nat) (kb : FuncId → List Value → Option Value) (cs : List Chunk) (k : FuncId) (as : List Value) (H : AHeap) (v : Value) (H' : AHeap) (h : knownA B kb cs k as H = some (v, H')) (_hw : WF H) : Grow H H' := by
  unfold knownA at h
  rcases knownE_cases B kb k as H with h1 | ⟨x, _, _, h1⟩
  · rw [h1 H rfl] at h
    obtain ⟨c, _, h2, _, rfl⟩ := knownF_ok _ _ _ _ _ _ _ h
    obtain ⟨_, h3, _, h5, _, _⟩ := Chunk.isF_ok h2
    exact over_wf h5 h3
  · rw [h1 H rfl] at h
    cases h
    exact grow_refl H

/-- The context in which pieces are known. -/
noncomputable def ctxC (funcs : Trie IFunc) (B : Nat) (kb : FuncId → List Value → Option Value) (w : World) (cs : List Chunk) : Ctx := { funcs, w0 := w, known := knownA B kb cs, kgrow := knownA_grow B kb cs, eqb := objEqN, old := B }

/-- A piece is right. -/
def ChunkOK (B : Nat) (C : Ctx) (c : Chunk) : Prop := ∀ Hf, HLe (heapOf B c.pre c.cnt) Hf → ∃ H1 Hf1, (fixO C).call (.func (.func c.k) #[] #[]) c.args Hf = some (c.v, Hf1) ∧ After (heapOf B c.pre c.cnt) Hf H1 Hf1 ∧ H1.cnt = c.cnt' ∧
  (∀ p ∈ c.post, H1.get (B + p.1) = some p.2) ∧ ∀ p ∈ c.pre, (∀ q ∈ c.post, q.1 ≠ p.1) → H1.get (B + p.1) = some p.2

/-- Those of the first that the others don't have lie there. -/
noncomputable def restF (post : List (Nat × AObj)) : List (Nat × AObj) → AHeap → Bool := fun l =>
  @List.rec (Nat × AObj) (fun _ => AHeap → Bool) (fun _ => true) (fun p _ ih H => @Bool.rec (fun _ => Bool) false (ih H) (@Bool.rec (fun _ => Bool) (oO (H.getF (Nat.add H.base p.1)) false fun x => objEqN x p.2) true (hasF p.1 post))) l
theorem restF_ok (post : List (Nat × AObj)) : ∀ (l : List (Nat × AObj)) (H : AHeap), restF post l H = true → ∀ p ∈ l, (∀ q ∈ post, q.1 ≠ p.1) → H.get (H.base + p.1) = some p.2
  | [], _, _ => by simp
  | q :: l, H, h => by
    change @Bool.rec (fun _ => Bool) false (restF post l H) (@Bool.rec (fun _ => Bool) (oO (H.getF (Nat.add H.base q.1)) false fun x => objEqN x q.2) true (hasF q.1 post)) = true at h
    rcases rec_t h with ⟨_, h⟩ | ⟨h1, h⟩
    · cases h
    · intro p hp hne
      rcases List.mem_cons.1 hp with rfl | hp
      · rcases rec_t h1 with ⟨_, h2⟩ | ⟨h2, _⟩
        · rw [oO_eq, AHeap.getF_eq] at h2
          split at h2
          · rename_i x hx
            rw [show H.get (H.base + p.1) = some x from hx, objEqN_eq _ _ h2]
          · cases h2
        · obtain ⟨q, h3, h4⟩ := hasF_ok _ _ h2
          exact absurd h4 (hne q h3)
      · exact restF_ok post l H h p hp hne

/-- What is asked of a piece's end. -/
noncomputable def Chunk.endF (c : Chunk) : Value → AHeap → Bool := fun v H =>
  @Bool.rec (fun _ => Bool) false (@Bool.rec (fun _ => Bool) false (@Bool.rec (fun _ => Bool) false (restF c.post c.pre H) (liesF c.post H)) (Nat.beq H.cnt c.cnt')) (valEqN 4 v c.v)

/-- A piece that is not known yet is run. -/
noncomputable def Chunk.runF (funcs : Trie IFunc) (B : Nat) (kb : FuncId → List Value → Option Value) (w : World) (cs : List Chunk) (n : Nat) (c : Chunk) : Bool :=
  @Bool.rec (fun _ => Bool) false (callF (orcF (ctxC funcs B kb w cs) n) (.func (.func c.k) #[] #[]) c.args (heapF B c.pre c.cnt) c.endF) c.fits

section
variable {funcs : Trie IFunc} {B : Nat} {kb : FuncId → List Value → Option Value} {w : World}

theorem call_parts (C : Ctx) (o : Orc) (k : FuncId) (first captured : Array Value) (as : List Value) (H : AHeap) :
    callA C o (.func (.func k) first captured) as H = callA C o (.func (.func k) #[] #[]) (first.toList ++ (as ++ captured.toList)) H := by
  unfold callA
  simp

theorem fix_parts (C : Ctx) (k : FuncId) (first captured : Array Value) (as : List Value) (H : AHeap) {r : Value × AHeap} (h : (fixO C).call (.func (.func k) #[] #[]) (first.toList ++ (as ++ captured.toList)) H = some r) :
    (fixO C).call (.func (.func k) first captured) as H = some r := by
  obtain ⟨n, hn⟩ := fix_call.1 h
  cases n with
  | zero => cases hn
  | succ n =>
    refine fix_call.2 ⟨n + 1, ?_⟩
    rw [show (orc C (n + 1)).call = callA C (orc C n) from rfl] at hn ⊢
    rw [call_parts]
    exact hn

theorem knownA_sim {cs : List Chunk} (hcs : ∀ c ∈ cs, ChunkOK B (ctxC funcs B kb w []) c) : KnownSim (ctxC funcs B kb w cs) (ctxC funcs B kb w []) (fixO (ctxC funcs B kb w [])) := by
  intro k first captured as H
  refine ⟨fun v H1 h Hf hH => ?_, fun h Hf hH => ?_⟩
  · change knownA B kb cs k (first.toList ++ (as ++ captured.toList)) H = some (v, H1) at h
    unfold knownA at h
    rcases knownE_cases B kb k (first.toList ++ (as ++ captured.toList)) H with h1 | ⟨x, hk, _, h1⟩
    · rw [h1 H rfl] at h
      obtain ⟨c, hc, h2, rfl, rfl⟩ := knownF_ok _ _ _ _ _ _ _ h
      obtain ⟨rfl, h3, h4, h5, h6, h7⟩ := Chunk.isF_ok h2
      rw [h4] at h7
      have hfit := h5
      unfold Chunk.fits at hfit
      simp only [Bool.and_eq_true] at hfit
      have hle := Nat.le_of_ble_eq_true hfit.1
      have hpre := lowAll_ok hfit.2.1
      have hpost := lowAll_ok hfit.2.2.1
      have hold := oldF_ok _ hfit.2.2.2
      have hHf : Hf.base = B := hH.base.trans h4
      have split : ∀ b, b < B ∨ ∃ i, b = B + i := fun b => by
        rcases Nat.lt_or_ge b B with h | h
        · exact .inl h
        · exact .inr ⟨b - B, by omega⟩
      have hlow : HLe (heapOf B c.pre c.cnt) Hf := by
        refine ⟨hHf, by rw [hH.cnt, h3]; rfl, fun b x hx => ?_, fun b x hx => ?_⟩ <;> rcases split b with hb | ⟨i, rfl⟩
        · rw [getRaw (heapOf B c.pre c.cnt) hb] at hx
          rw [getRaw Hf (by omega)]
          exact hx
        · obtain ⟨p, hp, rfl, rfl⟩ := heapOf_get hx
          exact hH.sub _ _ (h7 p hp)
        · show b < B + c.cnt
          omega
        · obtain ⟨p, hp, rfl, rfl⟩ := heapOf_get hx
          have := hpre p hp
          show B + p.1 < B + c.cnt
          omega
      obtain ⟨H1, Hf1, q1, q2, q3, q4, q5⟩ := hcs c hc Hf hlow
      have hb1 : H1.base = B := q2.base
      have hbf : Hf1.base = B := q2.le.base.trans hb1
      have hget : ∀ i, (c.over H).get (B + i) = (putAll H.t c.post).get i := fun i => by
        have := getB (c.over H) i
        rw [show (c.over H).base = B from h4] at this
        exact this
      have hgetH : ∀ i, H.get (B + i) = H.t.get i := fun i => by
        have := getB H i
        rw [h4] at this
        exact this
      refine ⟨Hf1, ?_, ?_, ?_, ?_, ?_⟩
      · refine fix_parts _ _ _ _ _ _ ?_
        rw [h6]
        exact q1
      · refine ⟨?_, ?_, fun b x hx => ?_, fun b x hx => ?_⟩
        · rw [hbf]
          exact h4.symm
        · rw [q2.le.cnt, q3]; rfl
        · rcases split b with hb | ⟨i, rfl⟩
          · rw [getRaw (c.over H) (by show b < H.base; omega)] at hx
            rw [getRaw Hf1 (by omega)]
            exact hx
          · rw [hget] at hx
            rcases putAll_get _ _ _ _ hx with ⟨p, hp, rfl, rfl⟩ | ⟨hx1, hx2⟩
            · exact q2.le.sub _ _ (q4 p hp)
            · cases hb : (heapOf B c.pre c.cnt).get (B + i) with
              | some y =>
                obtain ⟨p, hp, rfl, rfl⟩ := heapOf_get hb
                have h8 := q5 p hp hx2
                have h9 := h7 p hp
                rw [hgetH, hx1] at h9
                cases h9
                exact q2.le.sub _ _ h8
              | none =>
                have hbl := hH.low (B + i) x (by rw [hgetH]; exact hx1)
                unfold AHeap.next at hbl
                rw [h4, h3] at hbl
                rw [(q2.out (B + i) hbl hb).2]
                exact hH.sub (B + i) x (by rw [hgetH]; exact hx1)
        · show b < H.base + c.cnt'
          rcases split b with hb | ⟨i, rfl⟩
          · omega
          · rw [hget] at hx
            rcases putAll_get _ _ _ _ hx with ⟨p, hp, rfl, rfl⟩ | ⟨hx1, hx2⟩
            · have := hpost p hp; omega
            · have hbl := hH.low (B + i) x (by rw [hgetH]; exact hx1)
              unfold AHeap.next at hbl
              omega
      · rfl
      · show H.base + H.cnt ≤ H.base + c.cnt'
        omega
      · intro b hb hn
        rcases split b with hbB | ⟨i, rfl⟩
        · rw [getRaw H (by omega)] at hn; cases hn
        · have hbl : i < c.cnt := by
            unfold AHeap.next at hb
            omega
          have hno : ∀ p ∈ c.pre, p.1 ≠ i := fun p hp e => by
            have := h7 p hp
            rw [e, hn] at this
            cases this
          have hb0 : (heapOf B c.pre c.cnt).get (B + i) = none := by
            cases hx : (heapOf B c.pre c.cnt).get (B + i) with
            | none => rfl
            | some x =>
              obtain ⟨p, hp, e, _⟩ := heapOf_get hx
              exact absurd e (hno p hp)
          refine ⟨?_, (q2.out (B + i) (by show B + i < B + c.cnt; omega) hb0).2⟩
          rw [hget]
          cases hx : (putAll H.t c.post).get i with
          | none => rfl
          | some x =>
            rcases putAll_get _ _ _ _ hx with ⟨p, hp, e, _⟩ | ⟨hx1, _⟩
            · obtain ⟨q, hq, e2⟩ := hold p hp (by omega)
              exact absurd (e2.trans e) (hno q hq)
            · rw [hgetH, hx1] at hn; cases hn
    · rw [h1 H rfl] at h
      cases h
      refine ⟨Hf, ?_, .refl hH⟩
      refine fix_call.2 ⟨1, ?_⟩
      rw [show (orc (ctxC funcs B kb w []) 1).call = callA (ctxC funcs B kb w []) (orc (ctxC funcs B kb w []) 0) from rfl]
      unfold callA
      dsimp only
      rw [show (ctxC funcs B kb w []).known k (first.toList ++ (as ++ captured.toList)) Hf = some (v, Hf) by
        show knownA B kb [] _ _ _ = _
        unfold knownA
        rw [h1 Hf hH.base]]
  · change knownA B kb cs k (first.toList ++ (as ++ captured.toList)) H = none at h
    show knownA B kb [] k (first.toList ++ (as ++ captured.toList)) Hf = none
    unfold knownA at h ⊢
    rcases knownE_cases B kb k (first.toList ++ (as ++ captured.toList)) H with h1 | ⟨x, _, _, h1⟩
    · rw [h1 Hf hH.base]; rfl
    · rw [h1 H rfl] at h; cases h

/-- **A PIECE THAT WAS RUN IS RIGHT.** -/
theorem chunk_ok {cs : List Chunk} (hcs : ∀ c ∈ cs, ChunkOK B (ctxC funcs B kb w []) c) {c : Chunk} {n : Nat} (h : c.runF funcs B kb w cs n = true) : ChunkOK B (ctxC funcs B kb w []) c := by
  intro Hf hH
  unfold Chunk.runF at h
  rcases rec_t h with ⟨_, h⟩ | ⟨_, h⟩
  · cases h
  obtain ⟨v, H1, h1, h2⟩ := callF_ok (orcF_ok (ctxC funcs B kb w cs) n) h
  rw [orcF_C, heapF_eq] at h1
  unfold Chunk.endF at h2
  rcases rec_t h2 with ⟨_, h3⟩ | ⟨hv, h3⟩
  · cases h3
  rcases rec_t h3 with ⟨_, h4⟩ | ⟨hc, h4⟩
  · cases h4
  rcases rec_t h4 with ⟨_, h5⟩ | ⟨hl, h5⟩
  · cases h5
  have hve := valEqN_eq 4 _ _ hv
  subst hve
  have hs := (part_sim (C' := ctxC funcs B kb w cs) (C := ctxC funcs B kb w []) ⟨rfl, rfl⟩ rfl (fun _ _ h => h) (knownA_sim hcs) (n + 1)).call
  rw [show (orc (ctxC funcs B kb w cs) (n + 1)).call = callA (ctxC funcs B kb w cs) (orc (ctxC funcs B kb w cs) n) from rfl] at hs
  obtain ⟨Hf1, q1, q2⟩ := hs _ _ _ _ _ h1 Hf hH
  have hb : H1.base = B := q2.base
  have r1 := liesF_ok _ _ hl
  have r2 := restF_ok _ _ _ h5
  rw [hb] at r1 r2
  exact ⟨H1, Hf1, q1, q2, Nat.eq_of_beq_eq_true hc, r1, r2⟩

end
end Go.Ak

namespace Go.Ak
open Go.RowKit

/-! ### a table of functions -/
structure FnOK (P : Program) (k : Nat) (F : IFunc) : Prop where
  h : (P.funcs[k]?).bind (compFunc P) = some F

def TrieAll {α : Type} (q : Nat → α → Prop) : Trie α → (Nat → Nat) → Prop
  | .leaf, _ => True
  | .node l v r, f => (match v with | none => True | some a => q (f 0) a) ∧ TrieAll q l (fun n => f (2 * n + 1)) ∧ TrieAll q r (fun n => f (2 * n + 2))

theorem TrieAll.get {α : Type} {q : Nat → α → Prop} : ∀ (t : Trie α) (f : Nat → Nat), TrieAll q t f → ∀ n a, t.get n = some a → q (f n) a
  | .leaf, _, _, n, a, h => by rw [Trie.get_leaf] at h; cases h
  | .node l v r, f, h, 0, a, hg => by
    have hv : v = some a := hg
    subst hv
    exact h.1
  | .node l v r, f, h, n + 1, a, hg => by
    rw [Trie.get] at hg
    rcases Nat.mod_two_eq_zero_or_one n with hn | hn
    · rw [show Nat.beq (n % 2) 0 = true by rw [hn]; rfl] at hg
      have := TrieAll.get l _ h.2.1 (n / 2) a hg
      rwa [show 2 * (n / 2) + 1 = n + 1 by omega] at this
    · rw [show Nat.beq (n % 2) 0 = false by rw [hn]; rfl] at hg
      have := TrieAll.get r _ h.2.2 (n / 2) a hg
      rwa [show 2 * (n / 2) + 2 = n + 1 by omega] at this

theorem funcs_of {P : Program} {t : Trie IFunc} (h : TrieAll (FnOK P) t (fun n => n)) : ∀ k F, t.get k = some F → ∃ fn, P.funcs[k]? = some fn ∧ compFunc P fn = some F := fun k F hk => by
  have := (TrieAll.get t _ h k F hk).h
  simpa [Option.bind_eq_some_iff] using this

/-! ### calls that are known from the beginning -/
/-- What is known of calls that leave all memory as it is: so it is in every world whose first blocks are as they were. -/
def BaseOK (P : Program) (B : Nat) (kb : FuncId → List Value → Option Value) (w : World) : Prop := ∀ k as v, kb k as = some v → ∀ (φ : Phi) (w' : World) (as' : Array Value), VsRel φ as as'.toList → (∀ b, b < B → w'.heap[b]? = w.heap[b]?) →
  ((callFunc k as').run P w' = .ok (.enter k as') w' ∧ CallsIn Fence.wide 0 P k as' w' (retPost fun v' w'' => VRel φ v v' ∧ w'' = w')) ∨
  ((∀ l a b, Value.func (.yield l) a b ∉ as'.toList) ∧ ∃ v', (callFunc k as').run P w' = .ok (.value v') w' ∧ VRel φ v v')

/-- The one pointer that it is given. -/
noncomputable def kNE : List Value → Option Value := fun as =>
  @List.rec Value (fun _ => Option Value) none (fun x l _ => @List.rec Value (fun _ => Option Value) (@Bool.rec (fun _ => Option Value) none (some x) (vQ x false fun _ => true)) (fun _ _ _ => none) l) as
theorem kNE_cases {as : List Value} {v : Value} (h : kNE as = some v) : ∃ p, as = [.pointer p] ∧ v = .pointer p := by
  cases as with
  | nil => cases h
  | cons x l =>
    cases l with
    | cons _ _ => cases h
    | nil =>
      change @Bool.rec (fun _ => Option Value) none (some x) (vQ x false fun _ => true) = some v at h
      cases hx : vQ x false fun _ => true with
      | false => rw [hx] at h; cases h
      | true =>
        rw [hx] at h
        cases h
        rw [vQ_eq] at hx
        split at hx
        · exact ⟨_, rfl, rfl⟩
        · cases hx

/-- 1 or 2 has one digit. -/
def kND : List Value → Option Value
  | [.int .u64 (.ofNat 1)] => some (.int .i64 1)
  | [.int .u64 (.ofNat 2)] => some (.int .i64 1)
  | _ => none
theorem kND_cases {as : List Value} {v : Value} (h : kND as = some v) : (as = [.int .u64 1] ∨ as = [.int .u64 2]) ∧ v = .int .i64 1 := by
  unfold kND at h
  split at h
  · cases h; exact ⟨.inl rfl, rfl⟩
  · cases h; exact ⟨.inr rfl, rfl⟩
  · cases h

/-- Of one function, or else. -/
noncomputable def kbOf (n : FuncId) (f : List Value → Option Value) (r : FuncId → List Value → Option Value) : FuncId → List Value → Option Value := fun k as =>
  @Bool.rec (fun _ => Option Value) (r k as) (f as) (Nat.beq k n)
noncomputable def kb0 : FuncId → List Value → Option Value := fun _ _ => none

section
variable {P : Program} {funcs : Trie IFunc} {B : Nat} {kb : FuncId → List Value → Option Value} {w : World}

theorem okNil : ∀ c ∈ ([] : List Chunk), ChunkOK B (ctxC funcs B kb w []) c := fun _ h => absurd h List.not_mem_nil
theorem okCons {c : Chunk} {cs : List Chunk} (h : ChunkOK B (ctxC funcs B kb w []) c) (t : ∀ c ∈ cs, ChunkOK B (ctxC funcs B kb w []) c) : ∀ d ∈ c :: cs, ChunkOK B (ctxC funcs B kb w []) d := fun d hd => by
  rcases List.mem_cons.1 hd with rfl | hd
  · exact h
  · exact t d hd

theorem base_nil : BaseOK P B kb0 w := fun _ _ _ h => by cases h

theorem base_of {n : FuncId} {f : List Value → Option Value} {r : FuncId → List Value → Option Value} (hr : BaseOK P B r w)
    (hf : ∀ as v, f as = some v → ∀ (φ : Phi) (w' : World) (as' : Array Value), VsRel φ as as'.toList → (∀ b, b < B → w'.heap[b]? = w.heap[b]?) →
      ((callFunc n as').run P w' = .ok (.enter n as') w' ∧ CallsIn Fence.wide 0 P n as' w' (retPost fun v' w'' => VRel φ v v' ∧ w'' = w')) ∨
      ((∀ l a b, Value.func (.yield l) a b ∉ as'.toList) ∧ ∃ v', (callFunc n as').run P w' = .ok (.value v') w' ∧ VRel φ v v')) : BaseOK P B (kbOf n f r) w := by
  intro k as v h
  unfold kbOf at h
  cases hk : Nat.beq k n with
  | false => rw [hk] at h; exact hr k as v h
  | true =>
    rw [hk] at h
    rw [Nat.eq_of_beq_eq_true hk]
    exact hf as v h

theorem base_known (h : BaseOK P B kb w) : KnownOK P (ctxC funcs B kb w []) := by
  intro k as H v H' hk hw φ M w' as' hE hF hR ha
  change knownA B kb [] k as H = some (v, H') at hk
  unfold knownA at hk
  rcases knownE_cases B kb k as H with h1 | ⟨x, h2, h3, h1⟩
  · rw [h1 H rfl] at hk; cases hk
  · rw [h1 H rfl] at hk
    cases hk
    have hov : over H M = M := by
      funext b
      unfold over
      split
      · rename_i hb; exact (hE b hb).symm
      · rfl
    have hraw : ∀ b, b < B → w'.heap[b]? = w.heap[b]? := fun b hb => by
      have : M b = some .raw := by
        rw [hE b (by unfold AHeap.next; omega)]
        exact getRaw H (by omega)
      exact (hR.obj _ _ this).2.2
    rcases h k as v h2 φ w' as' ha hraw with ⟨g1, g2⟩ | ⟨g1, v', g2, g3⟩
    · refine .inl ⟨g1, g2.mono fun e w'' he => ?_⟩
      cases e with
      | panicked _ => exact he
      | outgrown => exact he
      | returned v' =>
        obtain ⟨q1, rfl⟩ := he
        exact ⟨φ, Phi.le_refl φ, q1, by rw [hov]; exact hR⟩
    · exact .inr ⟨g1, v', w', g2, φ, Phi.le_refl φ, g3, by rw [hov]; exact hR⟩

theorem ptr_rel {φ : Phi} {p : Option Addr} {v : Value} (h : VRel φ (.pointer p) v) : ∃ q, v = .pointer q := by
  cases h <;> exact ⟨_, rfl⟩

/-- What is given is given back. -/
theorem noEscape_ok {ne : FuncId} {fn : Func} (h1 : P.funcs[ne]? = some fn) (h2 : (fn.name == "runtime.NumGoroutine") = false) (h3 : fn.body.isNone = true) (h4 : Extern.findNext fn = none) (h5 : Extern.find fn = some Extern.AbiNoEscape.same) :
    ∀ as v, kNE as = some v → ∀ (φ : Phi) (w' : World) (as' : Array Value), VsRel φ as as'.toList → (∀ b, b < B → w'.heap[b]? = w.heap[b]?) →
      ((callFunc ne as').run P w' = .ok (.enter ne as') w' ∧ CallsIn Fence.wide 0 P ne as' w' (retPost fun v' w'' => VRel φ v v' ∧ w'' = w')) ∨
      ((∀ l a b, Value.func (.yield l) a b ∉ as'.toList) ∧ ∃ v', (callFunc ne as').run P w' = .ok (.value v') w' ∧ VRel φ v v') := by
  intro as v h φ w' as' ha _
  obtain ⟨p, rfl, rfl⟩ := kNE_cases h
  obtain ⟨as'⟩ := as'
  cases ha with
  | cons _ x' _ l' hx hl =>
    cases hl
    obtain ⟨q, rfl⟩ := ptr_rel hx
    refine .inr ⟨fun l a b hm => by simp at hm, .pointer q, ?_, hx⟩
    rw [run_callFunc_extern h1 h2 h3 h4 h5, Lib.run_noEscape]
    rfl

/-- One digit, by what the function does. -/
theorem digits_ok {nd : FuncId} (h : ∀ w' : World, (∀ b, b < B → w'.heap[b]? = w.heap[b]?) → ∀ u : Int, u = 1 ∨ u = 2 → (callFunc nd #[.int .u64 u]).run P w' = .ok (.enter nd #[.int .u64 u]) w' ∧ Calls P nd #[.int .u64 u] w' fun e w'' => e = .returned (.int .i64 1) ∧ w'' = w') :
    ∀ as v, kND as = some v → ∀ (φ : Phi) (w' : World) (as' : Array Value), VsRel φ as as'.toList → (∀ b, b < B → w'.heap[b]? = w.heap[b]?) →
      ((callFunc nd as').run P w' = .ok (.enter nd as') w' ∧ CallsIn Fence.wide 0 P nd as' w' (retPost fun v' w'' => VRel φ v v' ∧ w'' = w')) ∨
      ((∀ l a b, Value.func (.yield l) a b ∉ as'.toList) ∧ ∃ v', (callFunc nd as').run P w' = .ok (.value v') w' ∧ VRel φ v v') := by
  intro as v hk φ w' as' ha hb
  obtain ⟨hu, rfl⟩ := kND_cases hk
  have key : ∀ u : Int, u = 1 ∨ u = 2 → as = [.int .u64 u] → (callFunc nd as').run P w' = .ok (.enter nd as') w' ∧ CallsIn Fence.wide 0 P nd as' w' (retPost fun v' w'' => VRel φ (.int .i64 1) v' ∧ w'' = w') := by
    intro u h12 e
    subst e
    obtain ⟨as'⟩ := as'
    cases ha with
    | cons _ x' _ l' hx hl =>
      cases hl
      rw [int_inv hx]
      obtain ⟨q1, q2⟩ := h w' hb u h12
      refine ⟨q1, callsIn_wide.2 (q2.mono fun e w'' he => ?_)⟩
      obtain ⟨rfl, rfl⟩ := he
      exact ⟨.int _ _, rfl⟩
  rcases hu with e | e
  · exact .inl (key 1 (.inl rfl) e)
  · exact .inl (key 2 (.inr rfl) e)

/-- **A CLOSED CALL, CUT IN PIECES.** -/
theorem pieces_true (hmo : P.follows .mixedOrders = true) (hfuncs : ∀ k F, funcs.get k = some F → ∃ fn, P.funcs[k]? = some fn ∧ compFunc P fn = some F) (hkb : BaseOK P B kb w) (hB : B ≤ w.heap.size) {c : Chunk} {k : FuncId} (hc : ChunkOK B (ctxC funcs B kb w []) c)
    (hk : c.k = k) (ha : c.args = []) (hp : c.pre = []) (hn : c.cnt = 0) (hv : c.v = .bool true) (hno : kb k [] = none) :
    (callFunc k #[]).run P w = .ok (.enter k #[]) w ∧ CallsIn Fence.wide 0 P k #[] w (retPost fun v w' => v = .bool true ∧ Below w.heap.size w w') := by
  obtain ⟨H1, Hf1, h1, _⟩ := hc (startHeap B) (by
    rw [hp, hn]
    refine ⟨rfl, rfl, fun _ _ h => h, fun b x h => ?_⟩
    rcases Nat.lt_or_ge b B with hb | hb
    · exact hb
    · rw [show b = B + (b - B) by omega] at h
      obtain ⟨p, hp, _⟩ := heapOf_get h
      cases hp)
  rw [hk, ha, hv] at h1
  obtain ⟨m, hm⟩ := fix_call.1 h1
  refine closed_run (C := ctxC funcs B kb w []) objEqN_eq hmo hfuncs (base_known hkb) rfl rfl hB (m := m) ?_ hm
  show knownA B kb [] k [] (startHeap B) = none
  unfold knownA
  rcases knownE_cases B kb k [] (startHeap B) with h | ⟨x, h, _⟩
  · rw [h _ rfl]; rfl
  · rw [hno] at h; cases h

end
end Go.Ak

namespace Go.Ak.S

def t (n : Nat) : IOpd := .t n
def i (n : Int) : IOpd := .c (.int .i64 n)
def c (v : Value) : IOpd := .c v
def f (k : Nat) : IOpd := .c (.func (.func k) #[] #[])
def y : IOpd := .c (.bool true)
def n : IOpd := .c (.bool false)
def o (d : Nat) (x : IOp) : IOper := ⟨some d, x, none⟩
def q (x : IOp) : IOper := ⟨none, x, none⟩
def g (d u : Nat) (b : Bool) (x : IOp) : IOper := ⟨some d, x, some (u, b)⟩
def gq (u : Nat) (b : Bool) (x : IOp) : IOper := ⟨none, x, some (u, b)⟩
def a (d x : Nat) : IOper := ⟨some d, .mv (.t x), none⟩
def l (d x : Nat) : IOper := ⟨some d, .load1 (.t x), none⟩
def p (d n x : Nat) : IOper := ⟨some d, .faddr n (.t x), none⟩
def r (l : List IOper) : ICode := .region l
def d (l : List (Nat × IOper × List Nat)) : ICode := .dregion l
def s (a b : ICode) : ICode := .seq a b
def w (x : IOpd) (a b : ICode) : ICode := .cond x a b
def b (n : Nat) (x : ICode) : ICode := .block n x
def lo (x : ICode) : ICode := .loop x
def e (n : Nat) : ICode := .exit n
def k : ICode := .skip
def z : ICode := .ret
def u (n : Nat) (x : IOper) (l : List Nat) : Nat × IOper × List Nat := (n, x, l)
def N (k : BinOp) (x y : IOpd) : IOp := .bin .num k x y
end Go.Ak.S

/-! Short names for what lies in memory. -/
namespace Go.Ak.M
open Go.Ak
def i (n : Int) : Value := .int .i64 n
def b (n : Int) : Value := .int .u8 n
def T : Value := .bool true
def F : Value := .bool false
def p (k o : Nat) : Value := .pointer (some ⟨k, o, none⟩)
def N : Value := .pointer none
def s (k n c : Nat) : Value := .slice (some ⟨k, 0, none⟩) n c
def S (k o v n c : Nat) : Value := .slice (some ⟨k, o, some v⟩) n c
def t (k o n c : Nat) : Value := .slice (some ⟨k, o, none⟩) n c
def Z : Value := .slice none 0 0
def w (l : List UInt8) : Value := .string ⟨⟨l⟩⟩
def m (k : Nat) : Value := .map (some k)
def a (l : List Value) : Value := .agg ⟨l⟩
def u (l : List Value) : Value := .tuple ⟨l⟩
def f (k : Nat) (l r : List Value) : Value := .func (.func k) ⟨l⟩ ⟨r⟩
/-- One version of untyped cells. -/
def o (k : Nat) (l : List Value) : Nat × AObj := (k, .cells [⟨0, l, none⟩])
def O (k e : Nat) (l : List Value) (t : Nat) : Nat × AObj := (k, .cells [⟨e, l, some t⟩])
def V (k : Nat) (l : List AVer) : Nat × AObj := (k, .cells l)
def x (e : Nat) (l : List Value) : AVer := ⟨e, l, none⟩
def X (e : Nat) (l : List Value) (t : Nat) : AVer := ⟨e, l, some t⟩
def q (k : Nat) (l : List (Value × Value)) : Nat × AObj := (k, .map l)
end Go.Ak.M
