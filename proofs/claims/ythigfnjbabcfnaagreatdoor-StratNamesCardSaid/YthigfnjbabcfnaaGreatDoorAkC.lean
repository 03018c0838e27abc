/-
  Values held against each other cell by cell: structs, arrays, keys of maps.
  Each operation, against the model's: maps, and values held against each other.
  Each operation, against the model's: runes, package unsafe as strings.Builder uses it.
  Every operation that is no call, against the model's.
  What an operation looks at: its temporaries and its objects; nothing else matters.
-/
import Derived.Test.YthigfnjbabcfnaaGreatDoorAkB
import Derived.Laws.StructEq
import Derived.ChangeKeysEq
import Derived.Lib.UnsafeStr
namespace Go.Ak
section
variable {P : Program} {C : Ctx} {φ : Phi} {M : Nat → Option AObj} {w : World} {T : Nat → Value} {nid : Nat} {ρ : Operand → Value} {out : AOut} {o : Oper}

/-- The cells of a value. -/
def cl : Value → List Value
  | .agg cs => cs.toList
  | v => [v]

def isAgg' : Value → Bool
  | .agg _ => true
  | _ => false

def Fit (P : Program) (t : TypeId) (v : Value) : Prop := ∀ b, isAggT P t = some b → isAgg' v = b

theorem eqS_scalar {c : CK} {x y : Value} {b : Bool} (h : eqS c x y = some b) : isAgg' x = false ∧ isAgg' y = false := by
  unfold eqS at h
  split at h <;> first | exact ⟨rfl, rfl⟩ | cases h

theorem eqOffs_append {xs ys : List Value} : ∀ {l r : List (Nat × CK)} {b : Bool}, eqOffs xs ys (l ++ r) = some b → ∃ b1 b2, eqOffs xs ys l = some b1 ∧ eqOffs xs ys r = some b2 ∧ b = (b1 && b2)
  | [], r, b, h => ⟨true, b, rfl, h, by simp⟩
  | (o, c) :: l, r, b, h => by
    simp only [List.cons_append, eqOffs] at h ⊢
    split at h
    case h_2 => cases h
    rename_i x y hx hy
    split at h
    case h_2 => cases h
    rename_i a b' ha hb
    cases h
    obtain ⟨b1, b2, h1, h2, rfl⟩ := eqOffs_append hb
    exact ⟨a && b1, b2, by simp [ha, h1], h2, by simp [Bool.and_assoc]⟩

theorem eqOffs_shift {xs ys : List Value} {off n : Nat} : ∀ {l : List (Nat × CK)} {b : Bool}, (∀ x ∈ l, x.1 < n) → eqOffs xs ys (l.map fun x => (off + x.1, x.2)) = some b → eqOffs ((xs.drop off).take n) ((ys.drop off).take n) l = some b
  | [], b, _, h => h
  | (o, c) :: l, b, hl, h => by
    simp only [List.map_cons, eqOffs] at h ⊢
    have h1 : o < n := hl (o, c) (by simp)
    split at h
    case h_2 => cases h
    rename_i x y hx hy
    split at h
    case h_2 => cases h
    rename_i a b' ha hb
    have := eqOffs_shift (fun x hx => hl x (by simp [hx])) hb
    simp [h1, hx, hy, ha, this, h]

/-- What a plan says of a type. -/
theorem offsT_scalar {m : Nat} {t : TypeId} {l : List (Nat × CK)} (h : offsT P m t = some l) (ha : isAggT P t = some false) : ∃ c, l = [(0, c)] := by
  cases m with
  | zero => simp [offsT] at h
  | succ m =>
    unfold offsT at h
    unfold isAggT at ha
    split at h
    · cases h; exact ⟨_, rfl⟩
    · cases h; exact ⟨_, rfl⟩
    · cases h; exact ⟨_, rfl⟩
    · rename_i hu; rw [hu] at ha; cases ha
    · rename_i hu; rw [hu] at ha; cases ha
    · cases h

theorem offsT_agg {m : Nat} {t : TypeId} {l : List (Nat × CK)} (h : offsT P m t = some l) : ∃ b, isAggT P t = some b := by
  cases m with
  | zero => simp [offsT] at h
  | succ m =>
    unfold offsT at h
    unfold isAggT
    cases hu : P.underlying t with
    | none => simp [hu] at h
    | some d => cases d <;> simp

theorem part_fit {m : Nat} {t : TypeId} {n off : Nat} {l : List (Nat × CK)} {xs ys : Array Value} {b : Bool} (hn : sizeT P t = some n) (ho : offsT P m t = some l) (hl : ∀ x ∈ l, x.1 < n)
    (h : eqOffs xs.toList ys.toList (l.map fun x => (off + x.1, x.2)) = some b) (w : World) :
    ∃ p q, (part t xs off).run P w = .ok p w ∧ (part t ys off).run P w = .ok q w ∧ Fit P t p ∧ Fit P t q ∧ eqOffs (cl p) (cl q) l = some b := by
  obtain ⟨a, ha⟩ := offsT_agg ho
  cases a with
  | true =>
    refine ⟨.agg (xs.extract off (off + n)), .agg (ys.extract off (off + n)), by simp [part, run_isAgg ha, run_sizeOf hn], by simp [part, run_isAgg ha, run_sizeOf hn], fun b hb => ?_, fun b hb => ?_, ?_⟩
    · rw [ha] at hb; cases hb; rfl
    · rw [ha] at hb; cases hb; rfl
    · have := eqOffs_shift hl h
      simp only [cl, Array.toList_extract, List.extract_eq_take_drop, Nat.add_sub_cancel_left]
      exact this
  | false =>
    obtain ⟨c, rfl⟩ := offsT_scalar ho ha
    simp only [List.map_cons, List.map_nil, eqOffs, Nat.add_zero] at h
    split at h
    case h_2 => cases h
    rename_i x y hx hy
    split at h
    case h_2 => cases h
    rename_i a' b' h1 h2
    cases h2
    cases h
    have hx' : xs[off]? = some x := by simpa using hx
    have hy' : ys[off]? = some y := by simpa using hy
    obtain ⟨s1, s2⟩ := eqS_scalar h1
    refine ⟨x, y, by simp [part, run_isAgg ha, hx'], by simp [part, run_isAgg ha, hy'], fun b hb => ?_, fun b hb => ?_, ?_⟩
    · rw [ha] at hb; cases hb; exact s1
    · rw [ha] at hb; cases hb; exact s2
    · have e1 : cl x = [x] := by cases x <;> simp_all [cl, isAgg']
      have e2 : cl y = [y] := by cases y <;> simp_all [cl, isAgg']
      simp [e1, e2, eqOffs, h1]

theorem shift_inv {off n : Nat} {l r : List (Nat × CK)} (h : shiftOffs off n l = some r) : (∀ x ∈ l, x.1 < n) ∧ r = l.map fun x => (off + x.1, x.2) := by
  unfold shiftOffs at h
  split at h
  · rename_i hall
    cases h
    refine ⟨fun x hx => ?_, rfl⟩
    have := List.all_eq_true.1 hall x hx
    simpa [Nat.blt_eq] using this
  · cases h

theorem size_info {t : TypeId} {n : Nat} (h : sizeT P t = some n) : ∃ i, P.info? t = some i ∧ P.cellsOf t = n := by
  simp only [sizeT, Option.map_eq_some_iff] at h
  obtain ⟨i, hi, hin⟩ := h
  exact ⟨i, hi, by simp [Program.cellsOf, hi, hin]⟩

theorem eqS_run {c : CK} {t : TypeId} {x y : Value} {b : Bool} (h : eqS c x y = some b) (ht : ckT P t = some c) (d : Nat) (w : World) : (Op.equalIn (d + 1) t x y).run P w = .ok b w := by
  unfold ckT at ht
  unfold eqS at h
  split at ht
  · rename_i hu
    cases ht
    split at h
    · rename_i k a k' b' _
      split at h
      · rename_i hk
        subst hk
        cases h
        simp [Op.equalIn, run_underlying hu]
      · cases h
    · rename_i hh; cases hh
    · rename_i hh; cases hh
    · cases h
  · rename_i hu
    cases ht
    split at h
    · rename_i hh; cases hh
    · cases h
      rename_i a b' _
      rw [bytesEq_of, ← beq_toListBytes]
      simp [Op.equalIn, run_underlying hu]
    · rename_i hh; cases hh
    · cases h
  · rename_i hu
    cases ht
    split at h
    · rename_i hh; cases hh
    · rename_i hh; cases hh
    · cases h
      simp [Op.equalIn, run_underlying hu]
    · cases h
  · cases ht

theorem eq_offs : ∀ (m : Nat) (t : TypeId) (l : List (Nat × CK)), offsT P m t = some l → ∀ (d : Nat) (w : World) (x y : Value) (b : Bool), Fit P t x → Fit P t y → eqOffs (cl x) (cl y) l = some b →
    (Op.equalIn (d + m) t x y).run P w = .ok b w
  | 0, t, l, h, _, _, _, _, _, _, _, _ => by simp [offsT] at h
  | m + 1, t, l, h, d, w, x, y, b, fx, fy, he => by
    have plain : ∀ c, ckT P t = some c → isAggT P t = some false → l = [(0, c)] → (Op.equalIn (d + (m + 1)) t x y).run P w = .ok b w := by
      intro c hc ha hl
      subst hl
      have e1 : cl x = [x] := by have := fx _ ha; cases x <;> simp_all [cl, isAgg']
      have e2 : cl y = [y] := by have := fy _ ha; cases y <;> simp_all [cl, isAgg']
      rw [e1, e2] at he
      simp only [eqOffs, List.getElem?_cons_zero] at he
      split at he
      · rename_i a b' h1 h2
        cases h2
        cases he
        rw [Bool.and_true]; exact eqS_run h1 hc (d + m) w
      · cases he
    unfold offsT at h
    split at h
    · rename_i hu; cases h; exact plain .num (by simp [ckT, hu]) (by simp [isAggT, hu]) rfl
    · rename_i hu; cases h; exact plain .str (by simp [ckT, hu]) (by simp [isAggT, hu]) rfl
    · rename_i hu; cases h; exact plain .boo (by simp [ckT, hu]) (by simp [isAggT, hu]) rfl
    · rename_i fs hu
      have ha : isAggT P t = some true := by simp [isAggT, hu]
      split at h
      · cases h
      rename_i hst
      have gx := fx _ ha
      have gy := fy _ ha
      cases x <;> simp only [isAgg', Bool.false_eq_true] at gx
      cases y <;> simp only [isAgg', Bool.false_eq_true] at gy
      rename_i xs ys
      have hfs : P.fieldsOf t = fs := by simp [Program.fieldsOf, hu]
      rw [show d + (m + 1) = (d + m) + 1 from rfl, run_equalIn_struct w (d + m) t xs ys (by rw [hfs]; exact hu) (by simpa using hst), hfs]
      simp only [cl] at he
      clear hfs hu fx fy plain
      generalize fs.toList = L at h
      induction L generalizing l b with
      | nil =>
        simp only [offsAll] at h
        cases h
        simp only [eqOffs] at he
        cases he
        simp [Op.eqFields]
      | cons f L ih =>
        simp only [offsAll] at h
        split at h
        case h_2 => cases h
        rename_i l1 l2 h1 h2
        cases h
        split at h1
        · cases h1
        rename_i hname
        split at h1
        case h_2 => cases h1
        rename_i n lf hsz hof
        obtain ⟨hlt, rfl⟩ := shift_inv h1
        obtain ⟨b1, b2, e1, e2, rfl⟩ := eqOffs_append he
        obtain ⟨p, q, p1, p2, p3, p4, p5⟩ := part_fit hsz hof hlt e1 w
        have hq := eq_offs m f.type lf hof d w p q b1 p3 p4 p5
        simp only [Op.eqFields, hname, ne_eq, not_false_eq_true, if_true, Sem.run_bind, p1, p2, hq, Result.andThen_ok]
        cases b1
        · simp
        · simpa using ih _ _ e2 h2
    · rename_i len e hu
      have ha : isAggT P t = some true := by simp [isAggT, hu]
      split at h
      case h_2 => cases h
      rename_i n lf hsz hof
      have gx := fx _ ha
      have gy := fy _ ha
      cases x <;> simp only [isAgg', Bool.false_eq_true] at gx
      cases y <;> simp only [isAgg', Bool.false_eq_true] at gy
      rename_i xs ys
      obtain ⟨i, hi, hc⟩ := size_info hsz
      rw [show d + (m + 1) = (d + m) + 1 from rfl, run_equalIn_array w (d + m) xs ys hu hi, hc]
      simp only [cl] at he
      clear fx fy plain
      generalize List.range len = L at h
      induction L generalizing l b with
      | nil =>
        simp only [offsAll] at h
        cases h
        simp only [eqOffs] at he
        cases he
        simp [Op.eqItems]
      | cons j L ih =>
        simp only [offsAll] at h
        split at h
        case h_2 => cases h
        rename_i l1 l2 h1 h2
        cases h
        obtain ⟨hlt, rfl⟩ := shift_inv h1
        obtain ⟨b1, b2, e1, e2, rfl⟩ := eqOffs_append he
        obtain ⟨p, q, p1, p2, p3, p4, p5⟩ := part_fit hsz hof hlt e1 w
        have hq := eq_offs m e lf hof d w p q b1 p3 p4 p5
        simp only [Op.eqItems, Sem.run_bind, p1, p2, hq, Result.andThen_ok]
        cases b1
        · simp
        · simpa using ih _ _ e2 h2
    · cases h

theorem check_offs (em : Bool) : ∀ (m : Nat) (t : TypeId) (l : List (Nat × CK)), offsT P m t = some l → ∀ (d : Nat) (w : World) (x : Value) (b : Bool), Fit P t x → eqOffs (cl x) (cl x) l = some b →
    (Instr.checkKey em (d + m) t x).run P w = .ok () w
  | 0, t, l, h, _, _, _, _, _, _ => by simp [offsT] at h
  | m + 1, t, l, h, d, w, x, b, fx, he => by
    unfold offsT at h
    rw [show d + (m + 1) = (d + m) + 1 from rfl, Instr.checkKey]
    split at h
    · rename_i hu; simp [run_underlying hu]
    · rename_i hu; simp [run_underlying hu]
    · rename_i hu; simp [run_underlying hu]
    · rename_i fs hu
      have ha : isAggT P t = some true := by simp [isAggT, hu]
      split at h
      · cases h
      have gx := fx _ ha
      cases x <;> simp only [isAgg', Bool.false_eq_true] at gx
      rename_i xs
      simp only [Sem.run_bind, run_underlying hu, Result.andThen_ok]
      rw [← Array.forIn_toList]
      simp only [cl] at he
      clear fx hu
      generalize fs.toList = L at h
      induction L generalizing l b with
      | nil => simp
      | cons f L ih =>
        simp only [offsAll] at h
        split at h
        case h_2 => cases h
        rename_i l1 l2 h1 h2
        cases h
        split at h1
        · cases h1
        rename_i hname
        split at h1
        case h_2 => cases h1
        rename_i n lf hsz hof
        obtain ⟨hlt, rfl⟩ := shift_inv h1
        obtain ⟨b1, b2, e1, e2, rfl⟩ := eqOffs_append he
        obtain ⟨p, q, p1, p2, p3, p4, p5⟩ := part_fit hsz hof hlt e1 w
        rw [p1] at p2
        cases p2
        have hq := check_offs em m f.type lf hof d w p b1 p3 p5
        simp only [List.forIn_cons, Sem.run_bind, hname, ne_eq, not_false_eq_true, if_true, Result.andThen_ok, p1, hq, Sem.run_pure]
        exact ih _ _ e2 h2
    · rename_i len e hu
      have ha : isAggT P t = some true := by simp [isAggT, hu]
      split at h
      case h_2 => cases h
      rename_i n lf hsz hof
      have gx := fx _ ha
      cases x <;> simp only [isAgg', Bool.false_eq_true] at gx
      rename_i xs
      simp only [Sem.run_bind, run_underlying hu, Result.andThen_ok]
      simp only [Std.Legacy.Range.forIn_eq_forIn_range', Std.Legacy.Range.size, Nat.sub_zero, Nat.add_one_sub_one, Nat.div_one]
      rw [List.range_eq_range'] at h
      simp only [cl] at he
      clear fx hu
      generalize List.range' 0 len = L at h
      induction L generalizing l b with
      | nil => simp
      | cons j L ih =>
        simp only [offsAll] at h
        split at h
        case h_2 => cases h
        rename_i l1 l2 h1 h2
        cases h
        obtain ⟨hlt, rfl⟩ := shift_inv h1
        obtain ⟨b1, b2, e1, e2, rfl⟩ := eqOffs_append he
        obtain ⟨p, q, p1, p2, p3, p4, p5⟩ := part_fit hsz hof hlt e1 w
        rw [p1] at p2
        cases p2
        have hq := check_offs em m e lf hof d w p b1 p3 p5
        simp only [List.forIn_cons, Sem.run_bind, run_sizeOf hsz, Result.andThen_ok, p1, hq, Sem.run_pure]
        exact ih _ _ e2 h2
    · cases h
end
end Go.Ak

namespace Go.Ak
section
variable {P : Program} {C : Ctx} {φ : Phi} {M : Nat → Option AObj} {w : World} {T : Nat → Value} {nid : Nat} {ρ : Operand → Value} {out : AOut} {o : Oper}

theorem eqS_rel {c : CK} {x y x' y' : Value} {b : Bool} (h : eqS c x y = some b) (hx : VRel φ x x') (hy : VRel φ y y') : x' = x ∧ y' = y := by
  unfold eqS at h
  split at h
  · exact ⟨int_inv hx, int_inv hy⟩
  · exact ⟨str_inv hx, str_inv hy⟩
  · exact ⟨bool_inv hx, bool_inv hy⟩
  · cases h

theorem eqOffs_rel {xs ys xs' ys' : List Value} (hx : VsRel φ xs xs') (hy : VsRel φ ys ys') : ∀ {l : List (Nat × CK)} {b : Bool}, eqOffs xs ys l = some b → eqOffs xs' ys' l = some b
  | [], _, h => h
  | (o, c) :: l, b, h => by
    simp only [eqOffs] at h ⊢
    split at h
    case h_2 => cases h
    rename_i x y h1 h2
    split at h
    case h_2 => cases h
    rename_i a b' h3 h4
    obtain ⟨x', p1, q1⟩ := hx.get h1
    obtain ⟨y', p2, q2⟩ := hy.get h2
    obtain ⟨rfl, rfl⟩ := eqS_rel h3 q1 q2
    simp [p1, p2, h3, eqOffs_rel hx hy h4, h]

theorem keyEq_rel {kp : KPlan} {x y x' y' : Value} {b : Bool} (h : keyEq kp x y = some b) (hx : VRel φ x x') (hy : VRel φ y y') : keyEq kp x' y' = some b := by
  unfold keyEq at h
  split at h
  · rename_i c _ _
    obtain ⟨rfl, rfl⟩ := eqS_rel h hx hy
    exact h
  · rename_i l a b'
    obtain ⟨a', rfl, ha⟩ := agg_inv hx
    obtain ⟨b'', rfl, hb⟩ := agg_inv hy
    exact eqOffs_rel ha hb h
  · cases h

theorem keyT_ag {t : TypeId} {l : List (Nat × CK)} (h : keyT P t = some (.ag l)) : offsT P 8 t = some l ∧ isAggT P t = some true ∧ ckT P t = none := by
  unfold keyT at h
  split at h
  · cases h
  · rename_i hc
    simp only [Option.map_eq_some_iff, KPlan.ag.injEq] at h
    obtain ⟨l', hl, rfl⟩ := h
    refine ⟨hl, ?_, hc⟩
    obtain ⟨a, ha⟩ := offsT_agg hl
    cases a with
    | true => exact ha
    | false =>
      exfalso
      unfold offsT at hl
      unfold ckT at hc
      unfold isAggT at ha
      split at hl
      · rename_i hu; rw [hu] at hc; cases hc
      · rename_i hu; rw [hu] at hc; cases hc
      · rename_i hu; rw [hu] at hc; cases hc
      · rename_i hu; rw [hu] at ha; cases ha
      · rename_i hu; rw [hu] at ha; cases ha
      · cases hl

theorem keyT_sc {t : TypeId} {c : CK} (h : keyT P t = some (.sc c)) : ckT P t = some c := by
  unfold keyT at h
  split at h
  · rename_i hc; cases h; exact hc
  · simp at h

theorem fit_agg {t : TypeId} (ha : isAggT P t = some true) (cs : Array Value) : Fit P t (.agg cs) := fun b hb => by rw [ha] at hb; cases hb; rfl

theorem eq_ag {t : TypeId} {l : List (Nat × CK)} (h : offsT P 8 t = some l) (ha : isAggT P t = some true) {x y : Value} {b : Bool} (he : keyEq (.ag l) x y = some b) (w : World) : (Op.equal t x y).run P w = .ok b w := by
  unfold keyEq at he
  split at he
  · rename_i hh; cases hh
  · rename_i hh
    cases hh
    exact eq_offs 8 t l h 9992 w _ _ b (fit_agg ha _) (fit_agg ha _) he
  · cases he

theorem keyEq_run {t : TypeId} {kp : KPlan} (h : keyT P t = some kp) {x y : Value} {b : Bool} (he : keyEq kp x y = some b) (w : World) : (Op.equal t x y).run P w = .ok b w := by
  cases kp with
  | sc c => exact eqS_run he (keyT_sc h) 9999 w
  | ag l => exact eq_ag (keyT_ag h).1 (keyT_ag h).2.1 he w

theorem key_check (em : Bool) {t : TypeId} {kp : KPlan} (h : keyT P t = some kp) {x : Value} (he : isKey kp x = true) (w : World) : (Instr.checkKey em 10000 t x).run P w = .ok () w := by
  unfold isKey at he
  obtain ⟨b, hb⟩ := Option.isSome_iff_exists.1 he
  cases kp with
  | sc c =>
    have hc := keyT_sc h
    unfold ckT at hc
    rw [Instr.checkKey]
    split at hc <;> first | (rename_i hu; simp [run_underlying hu]) | cases hc
  | ag l =>
    cases x <;> simp [keyEq] at hb
    exact check_offs em 8 t _ (keyT_ag h).1 9992 w _ b (fit_agg (keyT_ag h).2.1 _) hb

theorem isKey_rel {kp : KPlan} {x x' : Value} (h : isKey kp x = true) (hx : VRel φ x x') : isKey kp x' = true := by
  unfold isKey at h ⊢
  obtain ⟨b, hb⟩ := Option.isSome_iff_exists.1 h
  rw [keyEq_rel hb hx hx]
  rfl

/-- How what is found stands to what is found. -/
def FoundRel (φ : Phi) (es : List (Value × Value)) (es' : List MapEntry) (j : Nat) : Option (Nat × Value × Value) → Option (Nat × Value) → Prop
  | none, none => True
  | some (i, e), some (i', v') => i' = i ∧ j ≤ i ∧ es[i - j]? = some e ∧ ∃ e', es'[i - j]? = some e' ∧ VRel φ e.1 e'.key ∧ VRel φ e.2 e'.val ∧ v' = e'.val
  | _, _ => False

theorem FoundRel.step {es : List (Value × Value)} {es' : List MapEntry} {j : Nat} {e : Value × Value} {e' : MapEntry} : ∀ {r : Option (Nat × Value × Value)} {r' : Option (Nat × Value)}, FoundRel φ es es' (j + 1) r r' → FoundRel φ (e :: es) (e' :: es') j r r'
  | none, none, _ => trivial
  | some (i, x), some (i', v'), ⟨h1, h2, h3, y, h4, h5⟩ => by
    have : i - j = (i - (j + 1)) + 1 := by omega
    exact ⟨h1, by omega, by rw [this]; simpa using h3, y, by rw [this]; simpa using h4, h5⟩
  | none, some _, h => h.elim
  | some _, none, h => h.elim

theorem findAsking_rel {t : TypeId} {kp : KPlan} (hk : keyT P t = some kp) {x x' : Value} (hx : VRel φ x x') (w : World) : ∀ (es : List (Value × Value)) (es' : List MapEntry) (j : Nat) (res : Option (Nat × Value × Value)), es'.length = es.length →
    (∀ (i : Nat) (e : Value × Value), es[i]? = some e → ∃ e', es'[i]? = some e' ∧ VRel φ e.1 e'.key ∧ VRel φ e.2 e'.val) → findA kp x es j = some res →
    ∃ res', (Instr.findAsking t x' es' j).run P w = .ok res' w ∧ FoundRel φ es es' j res res'
  | [], [], j, res, _, _, h => by
    simp [findA] at h
    subst h
    exact ⟨none, by simp [Instr.findAsking], trivial⟩
  | [], _ :: _, _, _, hl, _, _ => by simp at hl
  | _ :: _, [], _, _, hl, _, _ => by simp at hl
  | e :: es, e' :: es', j, res, hl, hr, h => by
    obtain ⟨y, hy, hk1, hv⟩ := hr 0 e rfl
    simp at hy
    subst hy
    simp only [findA] at h
    split at h
    · rename_i he
      cases h
      have := keyEq_run hk (keyEq_rel he hx hk1) w
      exact ⟨some (j, e'.val), by simp [Instr.findAsking, this], rfl, Nat.le_refl j, by simp, e', by simp, hk1, hv, rfl⟩
    · rename_i he
      have hq := keyEq_run hk (keyEq_rel he hx hk1) w
      obtain ⟨res', h1, h2⟩ := findAsking_rel hk hx w es es' (j + 1) res (by simpa using hl) (fun i e he => by simpa using hr (i + 1) e (by simpa using he)) h
      exact ⟨res', by simp [Instr.findAsking, hq, h1], h2.step⟩
    · cases h

theorem sameNow_sc {t : TypeId} {d : TypeDesc} {c : CK} (hc : ckT P t = some c) (hd : P.underlying t = some d) {x y : Value} {b : Bool} (h : eqS c x y = some b) : Instr.sameNow d x y = some b := by
  unfold ckT at hc
  rw [hd] at hc
  unfold eqS at h
  split at hc
  · rename_i hh
    cases hh
    cases hc
    split at h
    · rename_i k a k' b' _
      split at h
      · rename_i hkk; subst hkk; cases h; simp [Instr.sameNow]
      · cases h
    · rename_i hh; cases hh
    · rename_i hh; cases hh
    · cases h
  · rename_i hh
    cases hh
    cases hc
    split at h
    · rename_i hh; cases hh
    · cases h
      rw [bytesEq_of, ← beq_toListBytes]
      simp [Instr.sameNow]
    · rename_i hh; cases hh
    · cases h
  · rename_i hh
    cases hh
    cases hc
    split at h
    · rename_i hh; cases hh
    · rename_i hh; cases hh
    · cases h; simp [Instr.sameNow]
    · cases h
  · cases hc

theorem findNow_rel {t : TypeId} {d : TypeDesc} {c : CK} (hc : ckT P t = some c) (hd : P.underlying t = some d) {x x' : Value} (hx : VRel φ x x') : ∀ (es : List (Value × Value)) (es' : List MapEntry) (j : Nat) (res : Option (Nat × Value × Value)), es'.length = es.length →
    (∀ (i : Nat) (e : Value × Value), es[i]? = some e → ∃ e', es'[i]? = some e' ∧ VRel φ e.1 e'.key ∧ VRel φ e.2 e'.val) → findA (.sc c) x es j = some res →
    ∃ res', Instr.findNow d x' es' j = some res' ∧ FoundRel φ es es' j res res'
  | [], [], j, res, _, _, h => by
    simp [findA] at h
    subst h
    exact ⟨none, rfl, trivial⟩
  | [], _ :: _, _, _, hl, _, _ => by simp at hl
  | _ :: _, [], _, _, hl, _, _ => by simp at hl
  | e :: es, e' :: es', j, res, hl, hr, h => by
    obtain ⟨y, hy, hk1, hv⟩ := hr 0 e rfl
    simp at hy
    subst hy
    simp only [findA] at h
    split at h
    · rename_i he
      cases h
      have := sameNow_sc hc hd (x := x') (y := e'.key) (keyEq_rel he hx hk1)
      exact ⟨some (j, e'.val), by simp [Instr.findNow, this], rfl, Nat.le_refl j, by simp, e', by simp, hk1, hv, rfl⟩
    · rename_i he
      have hq := sameNow_sc hc hd (x := x') (y := e'.key) (keyEq_rel he hx hk1)
      obtain ⟨res', h1, h2⟩ := findNow_rel hc hd hx es es' (j + 1) res (by simpa using hl) (fun i e he => by simpa using hr (i + 1) e (by simpa using he)) h
      exact ⟨res', by simp [Instr.findNow, hq, h1], h2.step⟩
    · cases h

theorem sameNow_agg (d : TypeDesc) (cs : Array Value) (y : Value) : Instr.sameNow d (.agg cs) y = none := by
  unfold Instr.sameNow
  split <;> first | rfl | (rename_i hh; cases hh)

theorem findKey_rel {t : TypeId} {kp : KPlan} (hk : keyT P t = some kp) {x x' : Value} (hkey : isKey kp x = true) (hx : VRel φ x x') (w : World) (es : List (Value × Value)) (es' : List MapEntry) (res : Option (Nat × Value × Value)) (hl : es'.length = es.length)
    (hr : ∀ (i : Nat) (e : Value × Value), es[i]? = some e → ∃ e', es'[i]? = some e' ∧ VRel φ e.1 e'.key ∧ VRel φ e.2 e'.val) (h : findA kp x es 0 = some res) :
    ∃ res', (Instr.findKey t x' es').run P w = .ok res' w ∧ FoundRel φ es es' 0 res res' := by
  cases kp with
  | sc c =>
    have hc := keyT_sc hk
    cases hd : P.underlying t with
    | none => simp [ckT, hd] at hc
    | some d =>
      obtain ⟨res', h1, h2⟩ := findNow_rel hc hd hx es es' 0 res hl hr h
      exact ⟨res', by simp [Instr.findKey, run_underlying hd, h1], h2⟩
  | ag l =>
    obtain ⟨res', h1, h2⟩ := findAsking_rel hk hx w es es' 0 res hl hr h
    obtain ⟨_, ha, _⟩ := keyT_ag hk
    cases hd : P.underlying t with
    | none => simp [isAggT, hd] at ha
    | some d =>
      have hagg : ∃ cs, x' = .agg cs := by
        unfold isKey at hkey
        obtain ⟨b, hb⟩ := Option.isSome_iff_exists.1 hkey
        have := keyEq_rel hb hx hx
        cases x' <;> simp [keyEq] at this
        exact ⟨_, rfl⟩
      obtain ⟨cs, rfl⟩ := hagg
      cases es' with
      | nil =>
        simp [Instr.findAsking] at h1
        subst h1
        exact ⟨none, by simp [Instr.findKey, run_underlying hd, Instr.findNow], h2⟩
      | cons e' es' =>
        have hn : Instr.findNow d (.agg cs) (e' :: es') 0 = none := by simp [Instr.findNow, sameNow_agg]
        exact ⟨res', by simp [Instr.findKey, run_underlying hd, hn, h1], h2⟩

theorem sameCell_rel {x y x' y' : Value} (h : sameCell x y = true) (hx : VRel φ x x') (hy : VRel φ y y') (n : Nat) : Instr.sameBits n x' y' = true := by
  unfold sameCell at h
  split at h
  · rw [int_inv hx, int_inv hy]
    cases n <;> simpa [Instr.sameBits] using h
  · rw [str_inv hx, str_inv hy]
    rw [bytesEq_of, ← beq_toListBytes] at h
    cases n <;> simpa [Instr.sameBits] using h
  · rw [bool_inv hx, bool_inv hy]
    cases n <;> simpa [Instr.sameBits] using h
  · cases h

theorem sameAll_rel (n : Nat) : ∀ {a b a' b' : List Value}, sameAll a b = true → VsRel φ a a' → VsRel φ b b' → a'.length = b'.length ∧ (a'.zip b').all (fun p => Instr.sameBits n p.1 p.2) = true
  | [], [], _, _, _, .nil, .nil => by simp
  | [], _ :: _, _, _, h, _, _ => by simp [sameAll] at h
  | _ :: _, [], _, _, h, _, _ => by simp [sameAll] at h
  | x :: a, y :: b, _, _, h, .cons _ x' _ a' h1 h2, .cons _ y' _ b' h3 h4 => by
    simp only [sameAll, Bool.and_eq_true] at h
    obtain ⟨q1, q2⟩ := sameAll_rel n h.2 h2 h4
    refine ⟨by simp [q1], ?_⟩
    rw [List.zip_cons_cons, List.all_cons, q2, sameCell_rel h.1 h1 h3 n]
    rfl

theorem sameKey_rel {x y x' y' : Value} (h : sameKey x y = true) (hx : VRel φ x x') (hy : VRel φ y y') : Instr.sameBits 10000 x' y' = true := by
  unfold sameKey at h
  split at h
  · obtain ⟨a', rfl, ha⟩ := agg_inv hx
    obtain ⟨b', rfl, hb⟩ := agg_inv hy
    obtain ⟨q1, q2⟩ := sameAll_rel 9999 h ha hb
    simp only [Instr.sameBits, Bool.and_eq_true]
    exact ⟨by simpa using q1, q2⟩
  · exact sameCell_rel h hx hy _

theorem run_setObj {r : Nat} {ob ob' : Obj} (hr : w.heap[r]? = some ob) (hc : ∀ a b c, ob ≠ .cells a b c) : (setObj r ob').run P w = .ok () { w with heap := w.heap.setIfInBounds r ob' } := by
  cases ob <;> simp_all [setObj, Sem.run]

theorem putObj_at {r : Nat} {ob ob' : Obj} (hr : w.heap[r]? = some ob) : (w.heap.setIfInBounds r ob')[r]? = some ob' := by
  have := (Array.getElem?_eq_some_iff.1 hr).1
  simp [this]

/-- An object that is no cells turns. -/
theorem R.putObj (h : R P C φ M w) {g : Nat} {l : Loc} {o0 o' : AObj} {ob ob' : Obj} (_hM : M g = some o0) (hl : φ g 0 = some l) (_hob : w.heap[l.cb]? = some ob)
    (_hk : ∀ k l', φ g k = some l' → l'.cb = l.cb) (ho : ORel P C φ { w with heap := w.heap.setIfInBounds l.cb ob' } g o') : R P C φ (Ak.upd M g o') { w with heap := w.heap.setIfInBounds l.cb ob' } := by
  refine h.upd (Phi.le_refl φ) (fun _ _ _ => rfl) rfl rfl rfl (by simp) ?_ (fun k l' hl' => .inl ⟨k, l', hl', rfl⟩) (fun k l' hl' => by simpa using h.bound _ _ _ hl') ho
  intro cb hcb hfar
  have : l.cb ≠ cb := hfar 0 l hl
  simp [this]

section
variable {t kt e : TypeId} {kp : KPlan} {m k x : Operand} {m' k' x' : IOpd}

/-- What the map is, and what is found in it. -/
theorem map_at (h : R P C φ M w) {r : Nat} {v' : Value} (hv : VRel φ (.map (some r)) v') {es : List (Value × Value)} (hM : M r = some (.map es)) :
    ∃ l es', φ r 0 = some l ∧ v' = .map (some l.cb) ∧ (∀ k l', φ r k = some l' → l' = l) ∧ w.heap[l.cb]? = some (.map es' es.length) ∧ es'.size = es.length ∧
      ∀ (i : Nat) (e : Value × Value), es[i]? = some e → ∃ e', es'[i]? = some e' ∧ VRel φ e.1 e'.key ∧ VRel φ e.2 e'.val ∧ e'.born = i := by
  obtain ⟨l, es', clk, q1, q0, q2, ⟨q3, rfl⟩, q4⟩ := h.obj _ _ hM
  refine ⟨l, es', q1, ?_, q0, q2, q3, q4⟩
  cases hv with
  | map _ l' hl => rw [hl] at q1; cases q1; rfl

theorem map_set {es : List (Value × Value)} {es' : Array MapEntry} {i : Nat} {k v _k' _v' : Value} {e' : MapEntry} (_q3 : es'.size = es.length) (q4 : ∀ (i : Nat) (e : Value × Value), es[i]? = some e → ∃ e', es'[i]? = some e' ∧ VRel φ e.1 e'.key ∧ VRel φ e.2 e'.val ∧ e'.born = i)
    (hz : es'[i]? = some e') (hi : i < es.length) {f : MapEntry → MapEntry} (hk : VRel φ k (f e').key) (hv : VRel φ v (f e').val) (hb : (f e').born = e'.born) :
    ∀ (j : Nat) (e : Value × Value), (es.set i (k, v))[j]? = some e → ∃ e', (es'.modify i f)[j]? = some e' ∧ VRel φ e.1 e'.key ∧ VRel φ e.2 e'.val ∧ e'.born = j := by
  intro j ej hj
  rw [List.getElem?_set] at hj
  simp only [Array.getElem?_modify]
  split at hj
  · rename_i hij
    subst hij
    cases hj
    rw [if_pos rfl, hz]
    obtain ⟨e2, z1, _, _, z4⟩ := q4 i (es[i]) (by simp [hi])
    rw [hz] at z1
    cases z1
    exact ⟨_, rfl, hk, hv, by rw [hb, z4]⟩
  · rename_i hij
    rw [if_neg hij]
    exact q4 j ej hj

theorem map_push {es : List (Value × Value)} {es' : Array MapEntry} {k v k' v' : Value} (q3 : es'.size = es.length) (q4 : ∀ (i : Nat) (e : Value × Value), es[i]? = some e → ∃ e', es'[i]? = some e' ∧ VRel φ e.1 e'.key ∧ VRel φ e.2 e'.val ∧ e'.born = i)
    (hk : VRel φ k k') (hv : VRel φ v v') :
    ∀ (j : Nat) (e : Value × Value), (es ++ [(k, v)])[j]? = some e → ∃ e', (es'.push { key := k', val := v', born := es.length })[j]? = some e' ∧ VRel φ e.1 e'.key ∧ VRel φ e.2 e'.val ∧ e'.born = j := by
  intro j ej hj
  rw [Array.getElem?_push, q3]
  by_cases hjl : j < es.length
  · rw [List.getElem?_append_left hjl] at hj
    rw [if_neg (by omega)]
    exact q4 j ej hj
  · have hjj : j = es.length := by
      have := (List.getElem?_eq_some_iff.1 hj).1
      simp at this; omega
    subst hjj
    simp at hj
    subst hj
    rw [if_pos rfl]
    exact ⟨_, rfl, hk, hv, rfl⟩

theorem run_stays {a b : Value} (h : Instr.sameBits 10000 a b = true) (w : World) : (Instr.keyThatStays a b).run P w = .ok b w := by simp [Instr.keyThatStays, h]

theorem good_insert (ho : o.op = .insert t m k x ∨ o.op = .mapUpdate t m k x) (ht : P.underlying t = some (.map kt e)) (hkt : keyT P kt = some kp) (h1 : opd m = some m') (h2 : opd k = some k') (h3 : opd x = some x')
    (hT : Opds φ T ρ) (h : R P C φ M w) (he : evalOp C M T nid (.insert kp m' k' x') = some out) : Good P C φ M w nid (execOp ρ o) out := by
  simp only [evalOp] at he
  have hv1 := hT m m' h1
  have hv2 := hT k k' h2
  have hv3 := hT x x' h3
  split at he
  case h_2 => cases he
  rename_i r hm
  split at he
  case h_2 => cases he
  rename_i es hM
  split at he
  case isFalse => cases he
  rename_i hkey
  rw [hm] at hv1
  obtain ⟨l, es', q1, e1, q0, q2, q3, q4⟩ := map_at h hv1 hM
  have hk : ∀ k l', φ r k = some l' → l'.cb = l.cb := fun k l' hl => by rw [q0 k l' hl]
  have hrun : ∀ (ob' : Obj), (Instr.mapUpdate t (ρ m) (ρ k) (ρ x)).run P w = .ok () { w with heap := w.heap.setIfInBounds l.cb ob' } → (execOp ρ o).run P w = .ok .skip { w with heap := w.heap.setIfInBounds l.cb ob' } := by
    intro ob' hr
    rcases ho with ho | ho <;> simp [execOp, ho, hr]
  have hget : (getObj l.cb).run P w = .ok (.map es' es.length) w := by simp [getObj, Sem.run, q2]
  have hset : ∀ ob', (setObj l.cb ob').run P w = .ok () { w with heap := w.heap.setIfInBounds l.cb ob' } := fun ob' => run_setObj q2 (fun a b c => by simp)
  have hck := key_check (P := P) false hkt (isKey_rel hkey hv2) w
  have hfind := fun res hf => findKey_rel hkt hkey hv2 w es es'.toList res (by simpa using q3) (fun i e he => by obtain ⟨e', z1, z2, z3, _⟩ := q4 i e he; exact ⟨e', by simpa using z1, z2, z3⟩) hf
  split at he
  · rename_i i en hf
    split at he
    case isFalse => cases he
    rename_i hsame
    cases he
    obtain ⟨res', hf', hmm⟩ := hfind _ hf
    cases res' with
    | none => simp [FoundRel] at hmm
    | some rr =>
      obtain ⟨i', v'⟩ := rr
      obtain ⟨rfl, _, z0, e', z1, z2, z3, rfl⟩ := hmm
      simp at z0 z1
      have hst := run_stays (P := P) (sameKey_rel hsame z2 hv2) w
      have hi : i' < es.length := (List.getElem?_eq_some_iff.1 z0).1
      refine ⟨undef, _, φ, .inr ⟨hrun (.map (es'.modify i' fun e => { e with key := ρ k, val := ρ x }) es.length) ?_, rfl⟩, Phi.le_refl φ, .undef _, h.putObj hM q1 q2 hk ⟨l, _, _, q1, q0, putObj_at q2, ⟨by simpa using q3, by simp⟩, map_set (_k' := ρ k) (_v' := ρ x) q3 q4 z1 hi hv2 hv3 rfl⟩⟩
      simp [Instr.mapUpdate, run_underlying ht, e1, hget, hck, hf', z1, hst, hset]
  · rename_i hf
    cases he
    obtain ⟨res', hf', hmm⟩ := hfind _ hf
    cases res' with
    | some rr => simp [FoundRel] at hmm
    | none =>
      refine ⟨undef, _, φ, .inr ⟨hrun (.map (es'.push { key := ρ k, val := ρ x, born := es.length }) (es.length + 1)) ?_, rfl⟩, Phi.le_refl φ, .undef _, h.putObj hM q1 q2 hk ⟨l, _, _, q1, q0, putObj_at q2, ⟨by simp [q3], by simp⟩, map_push q3 q4 hv2 hv3⟩⟩
      simp [Instr.mapUpdate, run_underlying ht, e1, hget, hck, hf', hset]
  · cases he

theorem zeroVal_inv {t : TypeId} {z : Value} (h : zeroVal P t = some z) : (∀ w, (zeroValue t).run P w = .ok z w) ∧ clean 0 z = true := by
  unfold zeroVal at h
  split at h
  · rename_i i hi
    split at h
    · rename_i v hv
      split at h
      · rename_i hc
        cases h
        exact ⟨fun w => run_zero hi hv w, hc⟩
      · cases h
    · cases h
  · cases h

theorem good_lookup {z : Value} {ok : Bool} (ho : o.op = .lookup t m k ok) (ht : P.underlying t = some (.map kt e)) (hkt : keyT P kt = some kp) (hz : zeroVal P e = some z) (h1 : opd m = some m') (h2 : opd k = some k')
    (hT : Opds φ T ρ) (h : R P C φ M w) (he : evalOp C M T nid (.lookup kp z ok m' k') = some out) : Good P C φ M w nid (execOp ρ o) out := by
  simp only [evalOp] at he
  have hv1 := hT m m' h1
  have hv2 := hT k k' h2
  split at he
  case h_2 => cases he
  rename_i r hm
  split at he
  case h_2 => cases he
  rename_i es hM
  split at he
  case isFalse => cases he
  rename_i hkey
  rw [hm] at hv1
  obtain ⟨l, es', q1, e1, q0, q2, q3, q4⟩ := map_at h hv1 hM
  have hget : (getObj l.cb).run P w = .ok (.map es' es.length) w := by simp [getObj, Sem.run, q2]
  have hck := fun em => key_check (P := P) em hkt (isKey_rel hkey hv2) w
  have hfind := fun res hf => findKey_rel hkt hkey hv2 w es es'.toList res (by simpa using q3) (fun i e he => by obtain ⟨e', z1, z2, z3, _⟩ := q4 i e he; exact ⟨e', by simpa using z1, z2, z3⟩) hf
  obtain ⟨hzr, hzc⟩ := zeroVal_inv hz
  split at he
  · rename_i i en hf
    cases he
    obtain ⟨res', hf', hmm⟩ := hfind _ hf
    cases res' with
    | none => simp [FoundRel] at hmm
    | some rr =>
      obtain ⟨i', v'⟩ := rr
      obtain ⟨rfl, _, z0, e', z1, z2, z3, rfl⟩ := hmm
      refine good_rd h (v' := if ok then .tuple #[e'.val, .bool true] else e'.val) ?_ ?_
      · simp [execOp, ho, Instr.lookup, run_underlying ht, e1, hget, hck, hf']
      · cases ok
        · simpa using z3
        · simp only [if_true]
          exact .tup _ _ (by simp) (.cons _ _ _ _ z3 (.cons _ _ _ _ (.bool true) .nil))
  · rename_i hf
    cases he
    obtain ⟨res', hf', hmm⟩ := hfind _ hf
    cases res' with
    | some rr => simp [FoundRel] at hmm
    | none =>
      refine good_rd h (v' := if ok then .tuple #[z, .bool false] else z) ?_ ?_
      · simp [execOp, ho, Instr.lookup, run_underlying ht, e1, hget, hck, hf', hzr]
      · have hzz := clean_rel (old_zero φ) hzc
        cases ok
        · simpa using hzz
        · simp only [if_true]
          exact .tup _ _ (by simp) (.cons _ _ _ _ hzz (.cons _ _ _ _ (.bool false) .nil))
  · cases he

theorem good_mentry {z : Value} (ho : o.op = .mapEntry t m k) (ht : P.underlying t = some (.map kt e)) (hkt : keyT P kt = some kp) (hz : zeroVal P e = some z) (h1 : opd m = some m') (h2 : opd k = some k')
    (hT : Opds φ T ρ) (h : R P C φ M w) (he : evalOp C M T nid (.mentry kp z m' k') = some out) : Good P C φ M w nid (execOp ρ o) out := by
  simp only [evalOp] at he
  have hv1 := hT m m' h1
  have hv2 := hT k k' h2
  split at he
  case h_2 => cases he
  rename_i r hm
  split at he
  case h_2 => cases he
  rename_i es hM
  split at he
  case isFalse => cases he
  rename_i hkey
  rw [hm] at hv1
  obtain ⟨l, es', q1, e1, q0, q2, q3, q4⟩ := map_at h hv1 hM
  have hk : ∀ k l', φ r k = some l' → l'.cb = l.cb := fun k l' hl => by rw [q0 k l' hl]
  have hget : (getObj l.cb).run P w = .ok (.map es' es.length) w := by simp [getObj, Sem.run, q2]
  have hset : ∀ ob', (setObj l.cb ob').run P w = .ok () { w with heap := w.heap.setIfInBounds l.cb ob' } := fun ob' => run_setObj q2 (fun a b c => by simp)
  have hck := key_check (P := P) false hkt (isKey_rel hkey hv2) w
  have hfind := fun res hf => findKey_rel hkt hkey hv2 w es es'.toList res (by simpa using q3) (fun i e he => by obtain ⟨e', z1, z2, z3, _⟩ := q4 i e he; exact ⟨e', by simpa using z1, z2, z3⟩) hf
  obtain ⟨hzr, hzc⟩ := zeroVal_inv hz
  split at he
  · rename_i i en hf
    split at he
    case isFalse => cases he
    rename_i hsame
    cases he
    obtain ⟨res', hf', hmm⟩ := hfind _ hf
    cases res' with
    | none => simp [FoundRel] at hmm
    | some rr =>
      obtain ⟨i', v'⟩ := rr
      obtain ⟨rfl, _, z0, e', z1, z2, z3, rfl⟩ := hmm
      simp at z0 z1
      have hst := run_stays (P := P) (sameKey_rel hsame z2 hv2) w
      have hi : i' < es.length := (List.getElem?_eq_some_iff.1 z0).1
      obtain ⟨e2, y1, _, _, y4⟩ := q4 i' en z0
      rw [z1] at y1
      cases y1
      refine ⟨.tuple #[e'.val, .int .i64 i'], { w with heap := w.heap.setIfInBounds l.cb (.map (es'.modify i' fun e => { e with key := ρ k }) es.length) }, φ, .inl ?_, Phi.le_refl φ, .tup _ _ (by simp) (.cons _ _ _ _ z3 (.cons _ _ _ _ (.int _ _) .nil)),
        h.putObj hM q1 q2 hk ⟨l, _, _, q1, q0, putObj_at q2, ⟨by simpa using q3, by simp⟩, map_set (_k' := ρ k) (_v' := e'.val) q3 q4 z1 hi hv2 z3 rfl⟩⟩
      simp [execOp, ho, Instr.mapEntry, run_underlying ht, e1, hget, hck, hf', z1, hst, hset, y4, goInt]
  · rename_i hf
    cases he
    obtain ⟨res', hf', hmm⟩ := hfind _ hf
    cases res' with
    | some rr => simp [FoundRel] at hmm
    | none =>
      have hzz := clean_rel (φ := φ) (old_zero φ) hzc
      refine ⟨.tuple #[z, .int .i64 es.length], { w with heap := w.heap.setIfInBounds l.cb (.map (es'.push { key := ρ k, val := z, born := es.length }) (es.length + 1)) }, φ, .inl ?_, Phi.le_refl φ, .tup _ _ (by simp) (.cons _ _ _ _ hzz (.cons _ _ _ _ (.int _ _) .nil)),
        h.putObj hM q1 q2 hk ⟨l, _, _, q1, q0, putObj_at q2, ⟨by simp [q3], by simp⟩, map_push q3 q4 hv2 hzz⟩⟩
      simp [execOp, ho, Instr.mapEntry, run_underlying ht, e1, hget, hck, hf', hset, hzr, goInt]
  · cases he

theorem good_mstore (ho : o.op = .entryStore t m k x) (h1 : opd m = some m') (h2 : opd k = some k') (h3 : opd x = some x')
    (hT : Opds φ T ρ) (h : R P C φ M w) (he : evalOp C M T nid (.mstore m' k' x') = some out) : Good P C φ M w nid (execOp ρ o) out := by
  simp only [evalOp] at he
  have hv1 := hT m m' h1
  have hv2 := hT k k' h2
  have hv3 := hT x x' h3
  split at he
  case h_2 => cases he
  rename_i r i hm hki
  split at he
  case h_2 => cases he
  rename_i es hM
  split at he
  case isFalse => cases he
  rename_i hi0
  split at he
  case h_2 => cases he
  rename_i en hen
  cases he
  rw [hm] at hv1
  rw [hki] at hv2
  have e2 := int_inv hv2
  obtain ⟨l, es', q1, e1, q0, q2, q3, q4⟩ := map_at h hv1 hM
  have hk : ∀ k l', φ r k = some l' → l'.cb = l.cb := fun k l' hl => by rw [q0 k l' hl]
  have hget : (getObj l.cb).run P w = .ok (.map es' es.length) w := by simp [getObj, Sem.run, q2]
  have hset : ∀ ob', (setObj l.cb ob').run P w = .ok () { w with heap := w.heap.setIfInBounds l.cb ob' } := fun ob' => run_setObj q2 (fun a b c => by simp)
  obtain ⟨n, rfl⟩ := Int.eq_ofNat_of_zero_le hi0
  simp only [Int.toNat_natCast] at hen
  obtain ⟨e', z1, z2, z3, z4⟩ := q4 n en hen
  have hn : n < es.length := (List.getElem?_eq_some_iff.1 hen).1
  have hfi : es'.findIdx? (fun e => (e.born : Int) == (n : Int)) = some n := by
    rw [Array.findIdx?_eq_some_iff_getElem]
    have hn' : n < es'.size := by omega
    refine ⟨hn', ?_, fun j hj => ?_⟩
    · have : es'[n] = e' := by rw [Array.getElem?_eq_getElem hn'] at z1; simpa using z1
      simp [this, z4]
    · obtain ⟨ej, y1, _, _, y4⟩ := q4 j (es[j]'(by omega)) (by simp)
      have hj' : j < es'.size := by omega
      have : es'[j] = ej := by rw [Array.getElem?_eq_getElem hj'] at y1; simpa using y1
      simp [this, y4]
      omega
  have hwn : IntKind.i64.wrap (n : Int) = n ∨ True := .inr trivial
  refine ⟨undef, { w with heap := w.heap.setIfInBounds l.cb (.map (es'.modify n fun e => { e with val := ρ x }) es.length) }, φ, .inr ⟨?_, rfl⟩, Phi.le_refl φ, .undef _, h.putObj hM q1 q2 hk ⟨l, _, _, q1, q0, putObj_at q2, ⟨by simpa using q3, by simp⟩, map_set (_k' := e'.key) (_v' := ρ x) q3 q4 z1 hn z2 hv3 rfl⟩⟩
  simp [execOp, ho, Instr.entryStore, e1, e2, hget, asInt, asIntOf, hfi, hset]

theorem good_eqF {l : List (Nat × CK)} {neg : Bool} {op : BinOp} {yt : TypeId} (hop : op = if neg then .neq else .eql) (ho : o.op = .binOp op t m k yt) (hl : offsT P 8 t = some l) (ha : aggT P t = true) (hg : P.eqGuardType P.depth t = false) (h1 : opd m = some m') (h2 : opd k = some k')
    (hT : Opds φ T ρ) (h : R P C φ M w) (he : evalOp C M T nid (.eqF (.ag l) neg m' k') = some out) : Good P C φ M w nid (execOp ρ o) out := by
  simp only [evalOp, Option.map_eq_some_iff] at he
  obtain ⟨b, hb, rfl⟩ := he
  have hv1 := hT m m' h1
  have hv2 := hT k k' h2
  have ha' : isAggT P t = some true := by
    unfold aggT at ha
    unfold isAggT
    split at ha
    · rename_i hu; simp [hu]
    · rename_i hu; simp [hu]
    · cases ha
  have hb' := keyEq_rel hb hv1 hv2
  have hrun := eq_ag hl ha' hb' w
  obtain ⟨xs, ys, ex, ey⟩ : ∃ xs ys, ρ m = .agg xs ∧ ρ k = .agg ys := by
    generalize ρ m = vx at hb'
    generalize ρ k = vy at hb'
    unfold keyEq at hb'
    split at hb'
    · rename_i hh; cases hh
    · exact ⟨_, _, rfl, rfl⟩
    · cases hb'
  rw [ex, ey] at hrun
  refine good_pure h (v' := .bool (if neg then !b else b)) ?_ (.bool _)
  cases neg
  · simp only [Bool.false_eq_true, if_false] at hop
    subst hop
    simp [execOp, ho, ex, ey, eqGuard, hg, binOp, hrun]
  · simp only [if_true] at hop
    subst hop
    simp [execOp, ho, ex, ey, eqGuard, hg, binOp, hrun]
end
end
end Go.Ak

namespace Go.Ak
section
variable {P : Program} {C : Ctx} {φ : Phi} {M : Nat → Option AObj} {w : World} {T : Nat → Value} {nid : Nat} {ρ : Operand → Value} {out : AOut} {o : Oper}

theorem good_rune {s d : TypeId} {k : IntKind} {x : Operand} {y : IOpd} (ho : o.op = .convert s d x) (hs : P.underlying s = some (.int k)) (hd : P.underlying d = some .string) (hx : opd x = some y) (hT : Opds φ T ρ) (h : R P C φ M w)
    (he : evalOp C M T nid (.rune y) = some out) : Good P C φ M w nid (execOp ρ o) out := by
  simp only [evalOp] at he
  have h1 := hT x y hx
  split at he
  · rename_i k' i hi
    cases he
    rw [hi] at h1
    refine good_pure h (v' := .string (Utf8.encode i)) ?_ (.string _)
    simp [execOp, ho, int_inv h1, convert, run_underlying hs, run_underlying hd, Conv.intToString]
  · cases he

/-- Where a version's row lies. -/
theorem row_at (h : R P C φ M w) {a a' : Addr} (ha : ARel φ a a') {vs : List AVer} {v : AVer} (hM : M a.block = some (.cells vs)) (hv : vs[ver a]? = some v) :
    ∃ l cc e, φ a.block (ver a) = some l ∧ a' = ⟨l.cb, a.off + l.sh, none⟩ ∧ w.heap[l.cb]? = some (.cells cc e (0, 0)) ∧ (∀ t, v.ty = some t → e = t ∧ l.sh = 0) ∧
      ∀ (j : Nat) (x : Value), v.cells[j]? = some x → ∃ x', cc[j + l.sh]? = some x' ∧ VRel φ x x' := by
  obtain ⟨l, h1, rfl⟩ := ha
  obtain ⟨l', cc, e, g1, g2, g3, g4, g5⟩ := (h.obj _ _ hM).1 _ _ hv
  rw [h1] at g1
  cases g1
  exact ⟨l, cc, e, h1, rfl, g2, g4.2, g5⟩

theorem lies_self {e : TypeId} (hc : P.cellsOf e ≠ 0) (count : Nat) (hn : 1 ≤ count) : liesAt P P.depth e count 0 e 1 = true := by
  have hd : P.depth = (2 * (P.types.size + Made.depth) + 1) + 1 := rfl
  rw [hd]
  simp only [liesAt, Bool.or_eq_true]
  left
  rw [hd]
  simp [rowAt, hc, hn, sameLayout]

theorem good_toU {s d t : TypeId} {n : Nat} {x : Operand} {y : IOpd} (ho : o.op = .convert s d x) (hs : P.underlying s = some (.pointer t)) (hd : P.underlying d = some .unsafePointer) (hn : sizeT P t = some n) (h0 : n ≠ 0) (hx : opd x = some y)
    (hT : Opds φ T ρ) (h : R P C φ M w) (he : evalOp C M T nid (.toU y) = some out) : Good P C φ M w nid (execOp ρ o) out := by
  simp only [evalOp] at he
  have h1 := hT x y hx
  split at he
  case h_2 => cases he
  rename_i a ha
  split at he
  case h_2 => cases he
  rename_i vs hM
  split at he
  case h_2 => cases he
  rename_i v hv
  split at he
  case isFalse => cases he
  rename_i hoff
  cases he
  rw [ha] at h1
  obtain ⟨a', h2, h3⟩ := ptr_inv h1
  obtain ⟨l, cc, e, g1, rfl, g2, g3, g4⟩ := row_at h h3 hM hv
  obtain ⟨x', p, _⟩ := g4 a.off (v.cells[a.off]) (by simp [hoff])
  have hlt : a.off + l.sh < cc.size := (Array.getElem?_eq_some_iff.1 p).1
  obtain ⟨i, hi, hin⟩ : ∃ i, P.info? t = some i ∧ i.size = n := by simpa [sizeT, Option.map_eq_some_iff] using hn
  refine good_rd h (v' := .pointer (some ⟨l.cb, a.off + l.sh, none⟩)) ?_ (.ptr _ _ h3)
  have := Lib.run_to_unsafe (P := P) w (src := s) (dst := d) (cells := cc.size) (e := e) ⟨l.cb, a.off + l.sh, none⟩ hs hd hi (by omega) (by simp [World.shape?, g2]) hlt
  simp [execOp, ho, h2, this]

theorem good_frU {s d u : TypeId} {n : Nat} {x : Operand} {y : IOpd} (ho : o.op = .convert s d x) (hs : P.underlying s = some .unsafePointer) (hd : P.underlying d = some (.pointer u)) (hn : sizeT P u = some n) (h0 : n ≠ 0) (hx : opd x = some y)
    (hT : Opds φ T ρ) (h : R P C φ M w) (he : evalOp C M T nid (.frU u n y) = some out) : Good P C φ M w nid (execOp ρ o) out := by
  simp only [evalOp] at he
  have h1 := hT x y hx
  split at he
  case h_2 => cases he
  rename_i a ha
  split at he
  case h_2 => cases he
  rename_i vs hM
  split at he
  case h_2 => cases he
  rename_i v hv
  split at he
  case isFalse => cases he
  rename_i hoff
  obtain ⟨hty, hoff, hle⟩ := hoff
  cases he
  rw [ha] at h1
  obtain ⟨a', h2, h3⟩ := ptr_inv h1
  obtain ⟨l, cc, e, g1, rfl, g2, g3, g4⟩ := row_at h h3 hM hv
  obtain ⟨rfl, hsh⟩ := g3 _ hty
  obtain ⟨x', p, _⟩ := g4 (n - 1) (v.cells[n - 1]'(by omega)) (by simp)
  have hlt : n - 1 + l.sh < cc.size := (Array.getElem?_eq_some_iff.1 p).1
  obtain ⟨i, hi, hc⟩ := size_info hn
  have hcount : 1 ≤ cc.size / P.cellsOf e := by
    rw [hc]
    exact (Nat.one_le_div_iff (by omega)).2 (by omega)
  refine good_rd h (v' := .pointer (some ⟨l.cb, a.off + l.sh, none⟩)) ?_ (.ptr _ _ h3)
  have := Lib.run_from_unsafe (P := P) w (src := s) (dst := d) (cells := cc.size) (e := e) ⟨l.cb, a.off + l.sh, none⟩ hs hd hi (by simp [World.shape?, g2]) (by
    rw [hoff, hsh]
    exact lies_self (by omega) _ hcount)
  simp [execOp, ho, h2, this]

section
variable {c : Call} {t u : TypeId} {ts : List TypeId} {x1 x2 : Operand} {y1 y2 : IOpd}

theorem good_sdata (ho : o.op = .call c) (hc : c.callee = .builtin .unsafeSliceData) (ha : c.args.toList = [x1]) (h1 : opd x1 = some y1)
    (hT : Opds φ T ρ) (h : R P C φ M w) (he : evalOp C M T nid (.sdata y1) = some out) : Good P C φ M w nid (execOp ρ o) out := by
  simp only [evalOp] at he
  have hv1 := hT x1 y1 h1
  split at he
  · rename_i hv
    cases he
    rw [hv] at hv1
    refine good_pure h (v' := .pointer none) ?_ .ptrNil
    rw [builtin_op ho hc, args_one ha]
    simp [builtin, nilsl_inv hv1, Lib.run_unsafeSliceData_nil]
  · rename_i a n c' hv
    cases he
    rw [hv] at hv1
    obtain ⟨a', c2, q1, q2, q3⟩ := sl_inv hv1
    have q3 := q3.resolve_right (by omega)
    refine good_pure h (v' := .pointer (some a')) ?_ (.ptr _ _ q3)
    rw [builtin_op ho hc, args_one ha]
    have := Lib.run_unsafeSliceData_row (P := P) w c.argTypes o.type a' n c2 (by omega)
    simp [builtin, q1, this]
  · cases he

theorem run_loadBytesI : ∀ (l : List Int) (a : Addr) (acc : ByteArray), (∀ j x, l[j]? = some x → w.cell? (a.add j) = some (.int .u8 x)) →
    (loadBytes a acc l.length).run P w = .ok ⟨acc.data ++ (l.map fun n => UInt8.ofNat n.toNat).toArray⟩ w
  | [], a, acc, _ => by simp [loadBytes]
  | x :: l, a, acc, h => by
    have h0 : w.cell? a = some (.int .u8 x) := by
      have := h 0 x rfl
      simpa [Addr.add] using this
    have ih := run_loadBytesI l (a.add 1) (acc.push x.toNat.toUInt8) (fun j y hy => by
      have := h (j + 1) y (by simpa using hy)
      have e : (a.add 1).add j = a.add (j + 1) := by
        unfold Addr.add
        by_cases hj : j = 0
        · subst hj; simp
        · simp [hj]; omega
      rw [e]; exact this)
    simp only [List.length_cons, loadBytes, Sem.run_bind, run_load, h0, Result.andThen]
    rw [ih]
    congr 1
    apply ByteArray.ext
    simp [ByteArray.push]

/-- An object of which nothing is said any more. -/
theorem R.gone (h : R P C φ M w) {g cb : Nat} {vs : List AVer} {k : Nat} {l : Loc} (_hM : M g = some (.cells vs)) (hl : φ g k = some l) (hcb : l.cb = cb) {w' : World}
    (hos : w'.os = w.os) (htape : w'.tape = w.tape) (hout : w'.output = w.output) (hsize : w.heap.size ≤ w'.heap.size) (hh : ∀ b, b ≠ cb → w'.heap[b]? = w.heap[b]?) : R P C φ (Ak.upd M g .gone) w' := by
  refine h.upd (Phi.le_refl φ) (fun _ _ _ => rfl) hos htape hout hsize ?_ (fun k l' hl' => .inl ⟨k, l', hl', rfl⟩) (fun k l' hl' => Nat.lt_of_lt_of_le (h.bound _ _ _ hl') hsize) trivial
  intro b hb hfar
  exact hh b (fun e => hfar k l hl (by rw [hcb, e]))

theorem ustr_nil (ats : Array TypeId) (ty : TypeId) (hts : ats[0]? = some t) : (Builtin.unsafeString_ ats ty #[.pointer none, .int .i64 0]).run P w = .ok (.string .empty) w := by
  have hmax : IntKind.i64.max = 9223372036854775807 := rfl
  have hdef : Builtin.unsafeString_ ats ty #[.pointer none, .int .i64 0] =
      (do
        let n ← asInt (.int .i64 0)
        let some _ := ats[0]? | stuck "unsafe.String: no argument types"
        if n < 0 then runtimePanic (.error "unsafe.String: len out of range")
        if n > IntKind.i64.max then unsupported (.unsafePointer "String: a length above the largest int")
        if n = 0 then pure (.string .empty)
        else runtimePanic (.error "unsafe.String: ptr is nil and len is not zero")) := rfl
  rw [hdef]
  simp [asInt, asIntOf, hmax, hts]

theorem ustr_row (ats : Array TypeId) (ty : TypeId) (hts : ats[0]? = some t) (ht : P.underlying t = some (.pointer u)) (a : Addr) (m : Nat) (hm0 : m ≠ 0) (h63 : ¬ (9223372036854775807 : Int) < (m : Int)) {cells : Nat} (hshape : w.shape? a.block = some (u, cells))
    (hlies : liesAt P P.depth u (cells / P.cellsOf u) a.off u m = true) {s : ByteArray} (hlb : (loadBytes a .empty m).run P w = .ok s w) :
    (Builtin.unsafeString_ ats ty #[.pointer (some a), .int .i64 m]).run P w = .ok (.string s) (w.freeze a m) := by
  have hmax : IntKind.i64.max = 9223372036854775807 := rfl
  have hneg : ¬ (m : Int) < 0 := by omega
  have hdef : Builtin.unsafeString_ ats ty #[.pointer (some a), .int .i64 m] =
      (do
        let n ← asInt (.int .i64 m)
        let some pt := ats[0]? | stuck "unsafe.String: no argument types"
        if n < 0 then runtimePanic (.error "unsafe.String: len out of range")
        if n > IntKind.i64.max then unsupported (.unsafePointer "String: a length above the largest int")
        if n = 0 then pure (.string .empty)
        else if ← variablesAt a (← elemOf pt) n.toNat then do
          let s ← loadBytes a .empty n.toNat
          freeze a n.toNat
          pure (.string s)
        else unsupported (.unsafePointer "String: not so many bytes at ptr")) := rfl
  rw [hdef]
  simp [asInt, asIntOf, hmax, h63, hneg, hm0, hts, variablesAt, hshape, elemOf, run_underlying ht, hlies, hlb]

theorem good_ustr (ho : o.op = .call c) (hc : c.callee = .builtin .unsafeString) (hts : c.argTypes.toList = t :: ts) (ha : c.args.toList = [x1, x2]) (h1 : opd x1 = some y1) (h2 : opd x2 = some y2)
    (ht : P.underlying t = some (.pointer u)) (hu : P.cellsOf u = 1)
    (hT : Opds φ T ρ) (h : R P C φ M w) (he : evalOp C M T nid (.ustr u y1 y2) = some out) : Good P C φ M w nid (execOp ρ o) out := by
  simp only [evalOp] at he
  have hv1 := hT x1 y1 h1
  have hv2 := hT x2 y2 h2
  have hmax : IntKind.i64.max = 9223372036854775807 := rfl
  split at he
  · rename_i e1 e2
    cases he
    rw [e1] at hv1
    rw [e2] at hv2
    refine good_pure h (v' := .string .empty) ?_ (.string _)
    rw [builtin_op ho hc, args_two ha]
    have e3 : ρ x1 = .pointer none := by generalize ρ x1 = q at hv1; cases hv1; rfl
    have : (Builtin.unsafeString_ c.argTypes o.type #[.pointer none, .int .i64 0]).run P w = .ok (.string .empty) w := by
      exact ustr_nil _ _ (type_first hts)
    simp [builtin, e3, int_inv hv2, this]
  · rename_i a n e1 e2
    split at he
    case h_2 => cases he
    rename_i vs hM
    split at he
    case h_2 => cases he
    rename_i v hv
    split at he
    case isFalse => cases he
    rename_i hcond
    obtain ⟨hty, hn1, hn2, hoff, hlen⟩ := hcond
    simp only [Option.map_eq_some_iff] at he
    obtain ⟨bs, hbs, rfl⟩ := he
    obtain ⟨ns, hns, rfl⟩ := toBytes_inv hbs
    rw [e1] at hv1
    rw [e2] at hv2
    obtain ⟨a', q1, q2⟩ := ptr_inv hv1
    obtain ⟨l, cc, e, g1, rfl, g2, g3, g4⟩ := row_at h q2 hM hv
    obtain ⟨rfl, hsh⟩ := g3 _ hty
    obtain ⟨m, rfl⟩ := Int.eq_ofNat_of_zero_le (show 0 ≤ n by omega)
    simp only [Int.toNat_natCast] at hns hlen
    have hml : ns.length = m := by
      have := congrArg List.length hns
      simp at this
      omega
    have hcell : ∀ j x, ns[j]? = some x → w.cell? ((⟨l.cb, 0, none⟩ : Addr).add j) = some (.int .u8 x) := by
      intro j x hj
      have hjm : j < m := by have := (List.getElem?_eq_some_iff.1 hj).1; omega
      have hvj : v.cells[j]? = some (.int .u8 x) := by
        have h5 : (v.cells.take m)[j]? = some (.int .u8 x) := by rw [hns]; simp [hj]
        rw [List.getElem?_take, if_pos hjm] at h5
        exact h5
      obtain ⟨x', p, q⟩ := g4 j _ hvj
      rw [int_inv q, hsh] at p
      rw [addr_add, cell_at g2]
      simpa using p
    have hlt : m ≤ cc.size := by
      obtain ⟨x', p, _⟩ := g4 (m - 1) (v.cells[m - 1]'(by omega)) (by simp)
      have := (Array.getElem?_eq_some_iff.1 p).1
      omega
    have hlb := run_loadBytesI (P := P) (w := w) ns ⟨l.cb, 0, none⟩ .empty hcell
    rw [hml] at hlb
    have hlies := Lib.liesAt_bytes (P := P) hu (cc.size / P.cellsOf e) m (by rw [hu]; simpa using hlt)
    have hshape : w.shape? l.cb = some (e, cc.size) := by simp [World.shape?, g2]
    have hoff' : (⟨l.cb, a.off + l.sh, none⟩ : Addr) = ⟨l.cb, 0, none⟩ := by rw [hoff, hsh]
    have h63 : ¬ (9223372036854775807 : Int) < (m : Int) := by omega
    have hneg : ¬ (m : Int) < 0 := by omega
    have hm0 : m ≠ 0 := by omega
    have hrun : (Builtin.unsafeString_ c.argTypes o.type #[.pointer (some ⟨l.cb, 0, none⟩), .int .i64 m]).run P w = .ok (.string ⟨(ns.map fun n => UInt8.ofNat n.toNat).toArray⟩) (w.freeze ⟨l.cb, 0, none⟩ m) := by
      refine ustr_row _ _ (type_first hts) ht ⟨l.cb, 0, none⟩ m hm0 h63 hshape hlies ?_
      rw [hlb]
      simp
    refine ⟨.string ⟨(ns.map fun n => UInt8.ofNat n.toNat).toArray⟩, w.freeze ⟨l.cb, 0, none⟩ m, φ, .inl ?_, Phi.le_refl φ, .string _, ?_⟩
    · rw [builtin_op ho hc, args_two ha]
      simp [builtin, q1, hoff', int_inv hv2, hrun]
    · refine R.gone (cb := l.cb) h hM g1 rfl ?_ ?_ ?_ ?_ ?_
      all_goals (unfold World.freeze; rw [if_neg hm0])
      · simp
      · intro b hb
        simp only [Array.getElem?_modify]
        rw [if_neg (fun e => hb e.symm)]
  · cases he
end
end
end Go.Ak

namespace Go.Ak

section
variable {P : Program} {C : Ctx} {φ : Phi} {M : Nat → Option AObj} {w : World} {T : Nat → Value} {nid : Nat} {ρ : Operand → Value} {out : AOut} {o : Oper}

theorem new_box {n : Nat} {x : IOpd} (he : evalOp C M T nid (.box n x) = some out) : out.new ≠ none := by
  simp only [evalOp] at he
  split at he
  · split at he
    · cases he; simp
    · cases he
  · cases he

theorem new_buildSlice {len : Nat} {z : List Value} {ps : List (Nat × Nat × IOpd)} (he : evalOp C M T nid (.buildSlice len z ps) = some out) : out.new ≠ none := by
  simp only [evalOp] at he
  split at he
  · split at he
    · cases he; simp
    · cases he
  · cases he

theorem new_mkSlice {m : Nat} {z : List Value} {a b : IOpd} (he : evalOp C M T nid (.mkSlice m z a b) = some out) : out.new ≠ none := by
  simp only [evalOp] at he
  split at he
  · split at he
    · cases he; simp
    · cases he
  · cases he

theorem builtin_sound {c : Call} {b : Builtin} {io : IOp} (ho : o.op = .call c) (hb : c.callee = .builtin b) (hc : compBuiltin P b c.argTypes c.args.toList = some io)
    (hT : Opds φ T ρ) (h : R P C φ M w) (hn : out.new ≠ none → M nid = none) (he : evalOp C M T nid io = some out) : Good P C φ M w nid (execOp ρ o) out := by
  unfold compBuiltin at hc
  split at hc
  · rename_i t ts x hts ha
    split at hc
    · rename_i y ht hx; cases hc; exact good_lenStr ho hb hts ha hx ht hT h he
    · rename_i y ht hx; cases hc; exact good_len ho hb hts ha hx ht hT h he
    · rename_i n e y ht hx; cases hc; exact good_lenArr ho hb hts ha ht h he
    · rename_i k e y ht hx; cases hc; exact good_lenM ho hb hts ha hx ht hT h he
    · rename_i e y ht hx
      split at hc
      · rename_i n e' hta; cases hc; exact good_lenPtr ho hb hts ha ht hta h he
      · cases hc
    · cases hc
  · rename_i t ts x hts ha
    split at hc
    · rename_i e y ht hx; cases hc; exact good_cap ho hb hts ha hx ht hT h he
    · rename_i n e y ht hx; cases hc; exact good_capArr ho hb hts ha ht h he
    · cases hc
  · rename_i t u ts x y hts ha
    split at hc
    · rename_i e a b' ht hx hy
      split at hc
      · rename_i n m d hsz hby hu
        split at hc
        · rename_i hpos
          split at hc
          · rename_i z hz
            split at hc
            · rename_i hzl
              split at hc
              · cases hc; exact good_appendZ ho hb hts ha hx hy ht hu hsz hby hz hzl hpos hT h hn he
              · cases hc; exact good_append ho hb hts ha hx hy ht hu (.inl ⟨_, rfl⟩) hsz hby hz hzl hpos hT h hn he
              · cases hc; exact good_append ho hb hts ha hx hy ht hu (.inr rfl) hsz hby hz hzl hpos hT h hn he
              · cases hc
            · cases hc
          · cases hc
        · cases hc
      · cases hc
    · cases hc
  · rename_i t ts x y hts ha
    split at hc
    · rename_i e a b' ht hx hy
      split at hc
      · rename_i n hsz
        split at hc
        · cases hc; exact good_copy ho hb hts ha hx hy ht hsz hT h he
        · cases hc
      · cases hc
    · cases hc
  · rename_i t ts x hts ha
    split at hc
    · rename_i e a ht hx
      split at hc
      · rename_i z hz; cases hc; exact good_clear ho hb hts ha hx ht hz hT h he
      · cases hc
    · cases hc
  · rename_i x y ha
    split at hc
    · rename_i a b' hx hy; cases hc; exact good_minI ho hb ha hx hy hT h he
    · cases hc
  · rename_i x y ha
    split at hc
    · rename_i a b' hx hy; cases hc; exact good_maxI ho hb ha hx hy hT h he
    · cases hc
  · rename_i x ha
    obtain ⟨y, hx, rfl⟩ := Option.map_eq_some_iff.1 hc
    exact good_sdata ho hb ha hx hT h he
  · rename_i t ts x y hts ha
    split at hc
    · rename_i u a b' ht hx hy
      split at hc
      · rename_i hu; cases hc; exact good_ustr ho hb hts ha hx hy ht (by simpa using hu) hT h he
      · cases hc
    · cases hc
  · cases hc

theorem op_sound {io : IOp} (hc : compOp? P o.op = some io) (hcall : isCall io = false) (hT : Opds φ T ρ) (h : R P C φ M w) (hn : out.new ≠ none → M nid = none)
    (he : evalOp C M T nid io = some out) : Good P C φ M w nid (execOp ρ o) out := by
  unfold compOp? at hc
  split at hc
  · rename_i x ho
    obtain ⟨y, hx, rfl⟩ := Option.map_eq_some_iff.1 hc
    simp only [evalOp, Option.some.injEq] at he; subst he
    exact good_move (.inl ho) hx hT h
  · rename_i x ho
    obtain ⟨y, hx, rfl⟩ := Option.map_eq_some_iff.1 hc
    simp only [evalOp, Option.some.injEq] at he; subst he
    exact good_move (.inr ho) hx hT h
  · rename_i c a b ho
    split at hc
    · rename_i c' a' b' h1 h2 h3; cases hc; exact good_pick ho h1 h2 h3 hT h he
    · cases hc
  · rename_i e ho
    obtain ⟨z, hz, rfl⟩ := Option.map_eq_some_iff.1 hc
    exact good_mk ho hz h (hn (by simp only [evalOp] at he; cases he; simp)) he
  · rename_i e x ho
    split at hc
    · rename_i n y h1 h2; cases hc; exact good_box ho h2 hT h (hn (new_box he)) he
    · cases hc
  · rename_i t ps ho
    split at hc
    · rename_i z qs hz hp
      split at hc
      · rename_i hf; cases hc; exact good_build ho hz hp hf hT h he
      · cases hc
    · cases hc
  · rename_i t len ps ho
    split at hc
    · rename_i e ht
      split at hc
      · rename_i n z hsz hz
        split at hc
        · rename_i hs
          split at hc
          · rename_i qs hp; cases hc; exact good_buildSlice ho ht hsz hz hs.1 hs.2 hp hT h (hn (new_buildSlice he)) he
          · cases hc
        · cases hc
      · cases hc
    · cases hc
  · rename_i t x ho
    split at hc
    · rename_i n y h1 h2 h3; cases hc; exact good_loadN ho h1 h2 h3 hT h he
    · rename_i n y h1 h2 h3; cases hc; exact good_load1 ho h1 h3 hT h he
    · cases hc
  · rename_i t a x ho
    split at hc
    · rename_i n b y h1 h2 h3; cases hc; exact good_store ho h1 h2 h3 hT h he
    · cases hc
  · rename_i x ho
    obtain ⟨y, hx, rfl⟩ := Option.map_eq_some_iff.1 hc
    exact good_nilCheck ho hx hT h he
  · rename_i op t x y yt ho
    split at hc
    · rename_i hagg
      split at hc
      · rename_i l a b hl hx hy
        split at hc
        · cases hc
        · rename_i hg; cases hc; exact good_eqF (neg := false) rfl ho hl hagg (by simpa using hg) hx hy hT h he
      · rename_i l a b hl hx hy
        split at hc
        · cases hc
        · rename_i hg; cases hc; exact good_eqF (neg := true) rfl ho hl hagg (by simpa using hg) hx hy hT h he
      · cases hc
    split at hc
    · rename_i k a b hk hx hy
      unfold bkOf at hk
      split at hk
      · cases hk; cases hc; exact good_num ho hx hy hT h he
      · rename_i ht; cases hk; cases hc; exact good_boo ho ht hx hy hT h he
      · cases hk; cases hc; exact good_str ho hx hy hT h he
      · rename_i ht
        split at hk
        · rename_i hi
          cases hk
          cases hc
          exact good_ref ho ht (by constructor) (fun _ e he => by cases he; exact Option.isSome_iff_exists.1 hi) (by simp) hx hy hT h he
        · cases hk
      · rename_i ht; cases hk; cases hc; exact good_ref ho ht (by constructor) (by simp) (by simp) hx hy hT h he
      · rename_i ht; cases hk; cases hc; exact good_ref ho ht (by constructor) (by simp) (by simp) hx hy hT h he
      · rename_i ht; cases hk; cases hc; exact good_ref ho ht (by constructor) (by simp) (by simp) hx hy hT h he
      · rename_i ht
        cases hk
        simp only [if_true] at hc
        split at hc
        · rename_i hcc; cases hc; exact good_ref ho ht (by constructor) (by simp) (fun _ => by simpa using hcc) hx hy hT h he
        · cases hc
      · cases hk
    · cases hc
  · rename_i t x ho
    obtain ⟨y, hx, rfl⟩ := Option.map_eq_some_iff.1 hc
    exact good_not ho hx hT h he
  · rename_i t x ho
    obtain ⟨y, hx, rfl⟩ := Option.map_eq_some_iff.1 hc
    exact good_neg ho hx hT h he
  · rename_i s d x ho
    split at hc
    · rename_i ks k y h1 h2 h3; cases hc; exact good_conv ho h1 h2 h3 hT h he
    · rename_i e y h1 h2 h3
      split at hc
      · rename_i hu; cases hc; exact good_toStr ho h1 h2 hu h3 hT h he
      · cases hc
    · rename_i k y h1 h2 h3; cases hc; exact good_rune ho h1 h2 h3 hT h he
    · rename_i u y h1 h2 h3
      split at hc
      · rename_i n hn
        split at hc
        · cases hc
        · rename_i h0; cases hc; exact good_toU ho h1 h2 hn h0 h3 hT h he
      · cases hc
    · rename_i u y h1 h2 h3
      split at hc
      · rename_i n hn
        split at hc
        · cases hc
        · rename_i h0; cases hc; exact good_frU ho h1 h2 hn h0 h3 hT h he
      · cases hc
    · cases hc
  · rename_i s x f ho
    split at hc
    · rename_i fs y h1 h2
      split at hc
      · rename_i g hg
        split at hc
        · rename_i n hsz
          split at hc
          · cases hc
          · rename_i h0; cases hc; exact good_faddr ho h1 hg hsz h0 h2 hT h he
        · cases hc
      · cases hc
    · cases hc
  · rename_i s x f ho
    split at hc
    · rename_i fs y h1 h2
      split at hc
      · rename_i g hg
        split at hc
        · rename_i n b hsz hb; cases hc; exact good_field ho h1 hg hsz hb h2 hT h he
        · cases hc
      · cases hc
    · cases hc
  · rename_i t x i ho
    split at hc
    · rename_i e y j h1 h2 h3
      obtain ⟨n, hsz, rfl⟩ := Option.map_eq_some_iff.1 hc
      exact good_idxS ho h1 hsz h2 h3 hT h he
    · rename_i len e y j h1 h2 h3
      obtain ⟨n, hsz, rfl⟩ := Option.map_eq_some_iff.1 hc
      exact good_idxA ho h1 hsz h2 h3 hT h he
    · cases hc
  · rename_i t x i ho
    split at hc
    · rename_i len e y j h1 h2 h3
      split at hc
      · rename_i n b hsz hb; cases hc; exact good_idxV ho h1 hsz hb h2 h3 hT h he
      · cases hc
    · rename_i y j h1 h2 h3; cases hc; exact good_idxStr ho h1 h2 h3 hT h he
    · cases hc
  · rename_i t x lo hi mx ho
    split at hc
    · rename_i e y l hh m h1 h2 h3 h4 h5
      split at hc
      · cases hc
      · rename_i hm
        obtain ⟨n, hsz, rfl⟩ := Option.map_eq_some_iff.1 hc
        exact good_sliceS ho h1 hsz h2 h3 h4 h5 (by simpa using hm) hT h he
    · rename_i k e y l hh m h1 h2 h3 h4 h5
      split at hc
      · cases hc
      · rename_i hm
        obtain ⟨n, hsz, rfl⟩ := Option.map_eq_some_iff.1 hc
        exact good_sliceA ho h1 hsz h2 h3 h4 h5 (by simpa using hm) hT h he
    · rename_i y l hh m h1 h2 h3 h4 h5
      split at hc
      · cases hc
      · rename_i hm
        cases hc
        have : mx = none := by cases mx <;> simp_all
        subst this
        exact good_sliceStr ho h1 h2 h3 h4 hT h he
    · cases hc
  · rename_i x k ho
    obtain ⟨y, hx, rfl⟩ := Option.map_eq_some_iff.1 hc
    exact good_extract ho hx hT h he
  · rename_i fn first captured ho
    split at hc
    · rename_i f a b h1 h2; cases hc; exact good_mkfn ho h1 h2 hT h he
    · cases hc
  · rename_i t ho
    cases hc
    exact good_mkmap ho h (hn (by simp only [evalOp] at he; cases he; simp)) he
  · rename_i t x ho
    split at hc
    · rename_i k e ht
      obtain ⟨y, hx, rfl⟩ := Option.map_eq_some_iff.1 hc
      exact good_mrange ho ht hx hT h hn he
    · cases hc
  · rename_i x ho
    obtain ⟨y, hx, rfl⟩ := Option.map_eq_some_iff.1 hc
    exact good_mnext ho hx hT h he
  · rename_i t m k x ho
    split at hc
    · rename_i kt e a b c h1 h2 h3 h4
      obtain ⟨kp, hk, rfl⟩ := Option.map_eq_some_iff.1 hc
      exact good_insert (.inl ho) h1 hk h2 h3 h4 hT h he
    · cases hc
  · rename_i t m k x ho
    split at hc
    · rename_i kt e a b c h1 h2 h3 h4
      obtain ⟨kp, hk, rfl⟩ := Option.map_eq_some_iff.1 hc
      exact good_insert (.inr ho) h1 hk h2 h3 h4 hT h he
    · cases hc
  · rename_i t m k ok ho
    split at hc
    · rename_i kt e a b h1 h2 h3
      split at hc
      · rename_i z hz
        obtain ⟨kp, hk, rfl⟩ := Option.map_eq_some_iff.1 hc
        exact good_lookup ho h1 hk hz h2 h3 hT h he
      · cases hc
    · cases hc
  · rename_i t m k ho
    split at hc
    · rename_i kt e a b h1 h2 h3
      split at hc
      · rename_i z hz
        obtain ⟨kp, hk, rfl⟩ := Option.map_eq_some_iff.1 hc
        exact good_mentry ho h1 hk hz h2 h3 hT h he
      · cases hc
    · cases hc
  · rename_i t m k v ho
    split at hc
    · rename_i a b c h1 h2 h3; cases hc; exact good_mstore ho h1 h2 h3 hT h he
    · cases hc
  · rename_i t n c ho
    split at hc
    · rename_i e a b h1 h2 h3
      split at hc
      · rename_i m z k h4 h5 h6
        split at hc
        · rename_i hz; cases hc; exact good_mkSlice (_x3 := n) ho h2 h3 h1 h6 h4 h5 hz hT h (hn (new_mkSlice he)) he
        · cases hc
      · cases hc
    · cases hc
  · rename_i c ho
    split at hc
    · rename_i b hb
      exact builtin_sound ho hb hc hT h hn he
    · rename_i f hf
      split at hc
      · cases hc; cases hcall
      · cases hc
    · cases hc
  · cases hc
end
end Go.Ak

namespace Go.Ak

section
variable {C : Ctx} {M M' : Nat → Option AObj} {T T' : Nat → Value} {nid : Nat} {out : AOut}

theorem IOpd.val_congr {x : IOpd} (h : ∀ t ∈ x.uses, T' t = T t) : x.val T' = x.val T := by
  cases x with
  | t n => exact h n (by simp [IOpd.uses])
  | c v => rfl

theorem vals_congr {xs : List IOpd} (h : ∀ t ∈ xs.flatMap IOpd.uses, T' t = T t) : xs.map (·.val T') = xs.map (·.val T) := by
  induction xs with
  | nil => rfl
  | cons x r ih =>
    simp only [List.flatMap_cons, List.mem_append] at h
    simp only [List.map_cons, ih fun t ht => h t (.inr ht), IOpd.val_congr fun t ht => h t (.inl ht)]

theorem fillA_congr {ps : List (Nat × Nat × IOpd)} (h : ∀ t ∈ ps.flatMap (fun p => p.2.2.uses), T' t = T t) : ∀ cs, fillA T' cs ps = fillA T cs ps := by
  induction ps with
  | nil => intro cs; rfl
  | cons p r ih =>
    obtain ⟨off, n, x⟩ := p
    simp only [List.flatMap_cons, List.mem_append] at h
    intro cs
    simp only [fillA, IOpd.val_congr fun t ht => h t (.inl ht)]
    split
    · split
      · exact ih (fun t ht => h t (.inr ht)) _
      · rfl
    · rfl

theorem bnd_congr {x : Option IOpd} (h : ∀ t ∈ optUses x, T' t = T t) (d l : Nat) : bnd T' x d l = bnd T x d l := by
  cases x with
  | none => rfl
  | some x => simp only [bnd, IOpd.val_congr (x := x) h]

theorem bounds_congr {a b c : Option IOpd} (h1 : ∀ t ∈ optUses a, T' t = T t) (h2 : ∀ t ∈ optUses b, T' t = T t) (h3 : ∀ t ∈ optUses c, T' t = T t) (n m : Nat) :
    bounds T' n m a b c = bounds T n m a b c := by
  simp only [bounds, bnd_congr h1, bnd_congr h2, bnd_congr h3]

/-- Only the temporaries that are named matter. -/
theorem evalOp_T (op : IOp) (h : ∀ t ∈ op.uses, T' t = T t) : evalOp C M T' nid op = evalOp C M T nid op := by
  cases op with
  | mk _ _ | lenC _ | mkmap | bad => rfl
  | call _ _ => rfl
  | mv x | box _ x | load1 x | loadN _ x | nilCheck x | not x | neg x | conv _ x | toStr x | faddr _ x | field _ _ _ x | len x | lenStr x | lenM x | cap x | clear _ x | extract _ x | mkiface _ x | rune x | sdata x | toU x | frU _ _ x | mrange x | mnext x =>
    simp only [evalOp, IOpd.val_congr (x := x) h]
  | pick a b c | insert _ a b c | mstore a b c =>
    simp only [IOp.uses, List.mem_append] at h
    simp only [evalOp, IOpd.val_congr (x := a) fun t ht => h t (.inl ht), IOpd.val_congr (x := b) fun t ht => h t (.inr (.inl ht)), IOpd.val_congr (x := c) fun t ht => h t (.inr (.inr ht))]
  | build _ ps | buildSlice _ _ ps => simp only [evalOp, fillA_congr (ps := ps) h]
  | store _ a b | bin _ _ a b | idxS _ a b | idxA _ _ a b | idxV _ _ _ a b | idxStr a b | append _ _ _ a b | appendZ _ _ a b | copy _ a b | mkSlice _ _ a b | minI a b | maxI a b | lookup _ _ _ a b | eqF _ _ a b | ustr _ a b | mentry _ _ a b =>
    simp only [IOp.uses, List.mem_append] at h
    simp only [evalOp, IOpd.val_congr (x := a) fun t ht => h t (.inl ht), IOpd.val_congr (x := b) fun t ht => h t (.inr ht)]
  | sliceS _ x a b c | sliceA _ _ x a b c =>
    simp only [IOp.uses, List.mem_append] at h
    simp only [evalOp, IOpd.val_congr (x := x) fun t ht => h t (.inl ht),
      bounds_congr (a := a) (b := b) (c := c) (fun t ht => h t (.inr (.inl ht))) (fun t ht => h t (.inr (.inr (.inl ht)))) fun t ht => h t (.inr (.inr (.inr ht)))]
  | sliceStr x a b =>
    simp only [IOp.uses, List.mem_append] at h
    simp only [evalOp, IOpd.val_congr (x := x) fun t ht => h t (.inl ht), bounds_congr (a := a) (b := b) (c := none) (fun t ht => h t (.inr (.inl ht))) (fun t ht => h t (.inr (.inr ht))) fun t ht => by simp [optUses] at ht]
  | mkfn f a b =>
    simp only [IOp.uses, List.flatMap_append, List.mem_append] at h
    simp only [evalOp, vals_congr (xs := a) fun t ht => h t (.inl ht), vals_congr (xs := b) fun t ht => h t (.inr ht)]

/-- What may be said of an operation's outcome: only the objects that it names matter, they are there, and what it turns is one of them. -/
structure Local (C : Ctx) (M : Nat → Option AObj) (T : Nat → Value) (nid : Nat) (op : IOp) (out : AOut) : Prop where
  again : ∀ M', (∀ b ∈ out.rd, M' b = M b) → evalOp C M' T nid op = some out
  there : ∀ b ∈ out.rd, M b ≠ none
  turns : ∀ b x, out.put = some (b, x) → b ∈ out.rd ∧ M b ≠ some .raw ∧ x ≠ .raw
  made : ∀ x, out.new = some x → x ≠ .raw

theorem loadN_congr {a : Addr} (h : M' a.block = M a.block) (n : Nat) : loadN C M' a n = loadN C M a n := by simp only [loadN, cellsAt, h]
theorem storeN_congr {a : Addr} (h : M' a.block = M a.block) (xs : List Value) : storeN M' a xs = storeN M a xs := by simp only [storeN, h]

theorem loadN_there {a : Addr} {n : Nat} {l : List Value} (h : loadN C M a n = some l) : M a.block ≠ none := by
  intro e
  simp [loadN, cellsAt, e] at h

theorem storeN_turns {a : Addr} {xs : List Value} {o : AObj} (h : storeN M a xs = some o) : M a.block ≠ none ∧ M a.block ≠ some .raw ∧ o ≠ .raw := by
  unfold storeN at h
  split at h
  · rename_i vs hM
    split at h
    · split at h
      · cases h; exact ⟨by simp [hM], by simp [hM], by simp⟩
      · cases h
    · cases h
  · cases h

/-- An outcome without memory. -/
theorem Local.dry {op : IOp} (h : ∀ M', evalOp C M' T nid op = some out) (h1 : out.rd = []) (h2 : out.put = none) (h3 : ∀ x, out.new = some x → x ≠ .raw) : Local C M T nid op out :=
  ⟨fun M' _ => h M', by simp [h1], by simp [h2], h3⟩

theorem srcCells_spec {esz n : Nat} {v : Value} {xs : List Value} {rd : List Nat} (h : srcCells C M esz n v = some (xs, rd)) :
    (∀ M', (∀ b ∈ rd, M' b = M b) → srcCells C M' esz n v = some (xs, rd)) ∧ ∀ b ∈ rd, M b ≠ none := by
  unfold srcCells at h
  split at h
  · rename_i b _ _
    split at h
    · cases h
      rename_i hn
      exact ⟨fun M' _ => by simp [srcCells, hn], by simp⟩
    · rename_i hn
      split at h
      · rename_i l hl
        cases h
        exact ⟨fun M' hM => by simp only [srcCells, if_neg hn, loadN_congr (hM b.block (by simp)), hl], by simpa using loadN_there hl⟩
      · cases h
  · split at h
    · cases h
      rename_i hn
      exact ⟨fun M' _ => by simp [srcCells, hn], by simp⟩
    · cases h
  · cases h
    exact ⟨fun M' _ => rfl, by simp⟩
  · cases h

theorem appendA_spec {ty : Option TypeId} {esz bytes m : Nat} {s : Value} {xs : List Value} {rd : List Nat} (hrd : ∀ b ∈ rd, M b ≠ none) (h : appendA C M ty esz bytes s m xs rd nid = some out) :
    (∀ M', (∀ b ∈ out.rd, M' b = M b) → appendA C M' ty esz bytes s m xs rd nid = some out) ∧ (∀ b ∈ out.rd, M b ≠ none) ∧ (∀ b ∈ rd, b ∈ out.rd) ∧
    (∀ b x, out.put = some (b, x) → b ∈ out.rd ∧ M b ≠ some .raw ∧ x ≠ .raw) ∧ (∀ x, out.new = some x → x ≠ .raw) := by
  unfold appendA at h
  split at h
  case isFalse => cases h
  rename_i hc
  split at h
  · rename_i len cap
    split at h
    case isFalse => cases h
    rename_i h0
    split at h
    · cases h
      rename_i hm
      refine ⟨fun M' _ => ?_, hrd, fun b hb => hb, by simp, by simp⟩
      unfold appendA; rw [if_pos hc]; simp only [if_pos h0, if_pos hm]
    · rename_i hm
      split at h
      · cases h
        rename_i hr
        refine ⟨fun M' _ => ?_, hrd, fun b hb => hb, by simp, by simp⟩
        unfold appendA; rw [if_pos hc]; simp only [if_pos h0, if_neg hm, if_pos hr]
      · cases h
  · rename_i a len cap
    split at h
    · rename_i h0
      split at h
      · cases h
        rename_i hm
        refine ⟨fun M' _ => ?_, hrd, fun b hb => hb, by simp, by simp⟩
        unfold appendA; rw [if_pos hc]; simp only [if_pos h0, if_pos hm]
      · rename_i hm
        split at h
        · rename_i o ho
          cases h
          obtain ⟨t1, t2, t3⟩ := storeN_turns ho
          refine ⟨fun M' hM => ?_, fun b hb => ?_, fun b hb => List.mem_cons_of_mem _ hb, fun b x he => ?_, by simp⟩
          · unfold appendA; rw [if_pos hc]
            simp only [if_pos h0, if_neg hm]
            rw [storeN_congr (a := aadd a (len * esz)) (hM a.block (by simp)), ho]
          · rcases List.mem_cons.1 hb with rfl | hb
            · exact t1
            · exact hrd b hb
          · cases he; exact ⟨by simp, t2, t3⟩
        · cases h
    · rename_i h0
      split at h
      case isFalse => cases h
      rename_i hr
      split at h
      · rename_i hM
        split at h
        · rename_i old hold
          split at h
          · cases h
            rename_i hs
            refine ⟨fun M' hM' => ?_, fun b hb => ?_, fun b hb => List.mem_cons_of_mem _ hb, by simp, by simp⟩
            · have e := hM' a.block (by simp)
              unfold appendA; rw [if_pos hc]
              simp only [if_neg h0, if_pos hr, e, hM, loadN_congr e, hold, if_pos hs]
            · rcases List.mem_cons.1 hb with rfl | hb
              · simp [hM]
              · exact hrd b hb
          · cases h
        · cases h
      · rename_i vs hM
        split at h
        · rename_i v hv
          split at h
          · rename_i hx
            split at h
            · rename_i old hold
              split at h
              · cases h
                rename_i hs
                refine ⟨fun M' hM' => ?_, fun b hb => ?_, fun b hb => List.mem_cons_of_mem _ hb, by simp, by simp⟩
                · have e := hM' a.block (by simp)
                  unfold appendA; rw [if_pos hc]
                  simp only [if_neg h0, if_pos hr, e, hM, hv, if_pos hx, loadN_congr e, hold, if_pos hs]
                · rcases List.mem_cons.1 hb with rfl | hb
                  · simp [hM]
                  · exact hrd b hb
              · cases h
            · cases h
          rename_i hnx
          dsimp only at h
          split at h
          · cases h
            rename_i hs
            refine ⟨fun M' hM' => ?_, fun b hb => ?_, fun b hb => List.mem_cons_of_mem _ hb, fun b x he => ?_, by simp⟩
            · have e := hM' a.block (by simp)
              unfold appendA; rw [if_pos hc]
              simp only [if_neg h0, if_pos hr, e, hM, hv, if_neg hnx, if_pos hs]
            · rcases List.mem_cons.1 hb with rfl | hb
              · simp [hM]
              · exact hrd b hb
            · simp only [Option.some.injEq, Prod.mk.injEq] at he
              obtain ⟨rfl, rfl⟩ := he
              exact ⟨by simp, by simp [hM], by simp⟩
          · cases h
        · cases h
      · cases h
  · cases h

theorem evalOp_local {op : IOp} (h : evalOp C M T nid op = some out) : Local C M T nid op out := by
  cases op with
  | mv x | mkiface _ x => simp only [evalOp] at h; cases h; exact .dry (fun _ => rfl) rfl rfl (by simp)
  | mk _ _ | lenC _ | mkmap | mkfn _ _ _ => simp only [evalOp] at h; cases h; exact .dry (fun _ => rfl) rfl rfl (by simp)
  | call _ _ | bad => simp only [evalOp] at h; cases h
  | pick c a b => have h' := h; simp only [evalOp] at h; split at h <;> cases h; exact .dry (fun _ => h') rfl rfl (by simp)
  | box n x =>
    have h' := h; simp only [evalOp] at h
    split at h
    · split at h <;> cases h; exact .dry (fun _ => h') rfl rfl (by simp)
    · cases h
  | build z ps =>
    have h' := h; simp only [evalOp, Option.map_eq_some_iff] at h
    obtain ⟨_, _, rfl⟩ := h; exact .dry (fun _ => h') rfl rfl (by simp)
  | buildSlice l z ps =>
    have h' := h; simp only [evalOp] at h
    split at h
    · split at h <;> cases h; exact .dry (fun _ => h') rfl rfl (by simp)
    · cases h
  | nilCheck x => have h' := h; simp only [evalOp] at h; split at h <;> cases h <;> exact .dry (fun _ => h') rfl rfl (by simp)
  | bin k op x y => have h' := h; simp only [evalOp, Option.map_eq_some_iff] at h; obtain ⟨_, _, rfl⟩ := h; exact .dry (fun _ => h') rfl rfl (by simp)
  | not x | neg x | conv _ x | faddr _ x | len x | lenStr x | rune x => have h' := h; simp only [evalOp] at h; split at h <;> cases h; exact .dry (fun _ => h') rfl rfl (by simp)
  | field off n agg x =>
    have h' := h; simp only [evalOp] at h
    split at h
    · split at h
      · cases h; exact .dry (fun _ => h') rfl rfl (by simp)
      · simp only [Option.map_eq_some_iff] at h; obtain ⟨_, _, rfl⟩ := h; exact .dry (fun _ => h') rfl rfl (by simp)
    · cases h
  | idxS _ x i | idxA _ _ x i =>
    have h' := h; simp only [evalOp] at h
    split at h
    · split at h <;> cases h; exact .dry (fun _ => h') rfl rfl (by simp)
    · cases h
  | idxV _ _ agg x i =>
    have h' := h; simp only [evalOp] at h
    split at h
    · split at h
      · split at h
        · cases h; exact .dry (fun _ => h') rfl rfl (by simp)
        · simp only [Option.map_eq_some_iff] at h; obtain ⟨_, _, rfl⟩ := h; exact .dry (fun _ => h') rfl rfl (by simp)
      · cases h
    · cases h
  | idxStr x i =>
    have h' := h; simp only [evalOp] at h
    split at h
    · split at h
      · simp only [Option.map_eq_some_iff] at h; obtain ⟨_, _, rfl⟩ := h; exact .dry (fun _ => h') rfl rfl (by simp)
      · cases h
    · cases h
  | sliceA _ _ x lo hi mx =>
    have h' := h; simp only [evalOp] at h
    split at h
    · simp only [Option.map_eq_some_iff] at h; obtain ⟨_, _, rfl⟩ := h; exact .dry (fun _ => h') rfl rfl (by simp)
    · cases h
  | sliceStr x lo hi =>
    have h' := h; simp only [evalOp] at h
    split at h
    · simp only [Option.map_eq_some_iff] at h; obtain ⟨_, _, rfl⟩ := h; exact .dry (fun _ => h') rfl rfl (by simp)
    · cases h
  | minI x y | maxI x y => have h' := h; simp only [evalOp] at h; split at h <;> cases h; exact .dry (fun _ => h') rfl rfl (by simp)
  | extract k x =>
    have h' := h; simp only [evalOp] at h
    split at h
    · split at h
      · simp only [Option.map_eq_some_iff] at h; obtain ⟨_, _, rfl⟩ := h; exact .dry (fun _ => h') rfl rfl (by simp)
      · split at h
        · cases h; exact .dry (fun _ => h') rfl rfl (by simp)
        · cases h
    · cases h
  | mrange x =>
    have h' := h; simp only [evalOp] at h
    split at h
    · cases h; exact .dry (fun _ => h') rfl rfl (by simp)
    · cases h
  | mnext x =>
    simp only [evalOp] at h
    split at h
    · rename_i a hx
      split at h
      · rename_i hM
        split at h
        · rename_i hc
          cases h
          exact ⟨fun M' hM' => by have e := hM' a.block (by simp); simp only [evalOp, hx, e, hM]; rw [if_pos hc], by simp [hM], by simp, by simp⟩
        · cases h
      · cases h
    · cases h
  | mkSlice _ _ n c =>
    have h' := h; simp only [evalOp] at h
    split at h
    · split at h <;> cases h; exact .dry (fun _ => h') rfl rfl (by simp)
    · cases h
  | load1 x =>
    simp only [evalOp] at h
    split at h
    · rename_i a ha
      split at h
      · rename_i v hl; cases h
        exact ⟨fun M' hM => by simp only [evalOp, ha]; rw [loadN_congr (hM a.block (by simp)), hl], by simpa using loadN_there hl, by simp, by simp⟩
      · cases h
    · cases h
  | loadN n x =>
    simp only [evalOp] at h
    split at h
    · rename_i a ha
      simp only [Option.map_eq_some_iff] at h
      obtain ⟨l, hl, rfl⟩ := h
      exact ⟨fun M' hM => by simp only [evalOp, ha]; rw [loadN_congr (hM a.block (by simp)), hl]; rfl, by simpa using loadN_there hl, by simp, by simp⟩
    · cases h
  | store n a x =>
    simp only [evalOp] at h
    split at h
    · rename_i a' cs ha hx
      split at h
      · rename_i hn
        split at h
        · rename_i o ho; cases h
          obtain ⟨t1, t2, t3⟩ := storeN_turns ho
          exact ⟨fun M' hM => by simp only [evalOp, ha, hx, if_pos hn]; rw [storeN_congr (hM a'.block (by simp)), ho], by simpa using t1, by simp [t2, t3], by simp⟩
        · cases h
      · cases h
    · cases h
  | toStr x =>
    have h' := h
    simp only [evalOp] at h
    split at h
    · rename_i hx; cases h; exact .dry (fun _ => by simp only [evalOp, hx]) rfl rfl (by simp)
    · rename_i a n _ hx
      split at h
      · cases h; rename_i hn; exact .dry (fun _ => by simp only [evalOp, hx, if_pos hn]) rfl rfl (by simp)
      · rename_i hn
        split at h
        · rename_i l hl
          have hl' := h
          simp only [Option.map_eq_some_iff] at h
          obtain ⟨bs, hb, rfl⟩ := h
          exact ⟨fun M' hM => by simp only [evalOp, hx, if_neg hn]; rw [loadN_congr (hM a.block (by simp)), hl]; simp only [hb, Option.map_some], by simpa using loadN_there hl, by simp, by simp⟩
        · cases h
    · cases h
  | sliceS esz x lo hi mx =>
    have h' := h
    simp only [evalOp] at h
    split at h
    · rename_i hx
      split at h
      · rename_i h0
        have h2 := h
        simp only [Option.map_eq_some_iff] at h; obtain ⟨_, _, rfl⟩ := h
        exact .dry (fun _ => by simp only [evalOp, hx, if_pos h0]; exact h2) rfl rfl (by simp)
      · cases h
    · rename_i a _ _ hx
      split at h
      · cases h
      · rename_i l hh m hb
        split at h
        · rename_i hM
          split at h
          · rename_i hs; cases h
            exact ⟨fun M' hM' => by have e := hM' a.block (by simp); simp only [evalOp, hx, hb, e, hM, hs, if_true], by simp [hM], by simp, by simp⟩
          · cases h
        · rename_i vs hM
          split at h
          · rename_i v hv
            split at h
            · rename_i hs; cases h
              exact ⟨fun M' hM' => by have e := hM' a.block (by simp); simp only [evalOp, hx, hb, e, hM, hv, if_pos hs], by simp [hM], by simp, by simp⟩
            · cases h
          · cases h
        · cases h
    · cases h
  | lenM x =>
    have h' := h
    simp only [evalOp] at h
    split at h
    · rename_i hx; cases h; exact .dry (fun _ => by simp only [evalOp, hx]) rfl rfl (by simp)
    · rename_i r hx
      split at h
      · rename_i es hM; cases h
        exact ⟨fun M' hM' => by have e := hM' r (by simp); simp only [evalOp, hx, e, hM], by simp [hM], by simp, by simp⟩
      · cases h
    · cases h
  | cap x =>
    simp only [evalOp] at h
    split at h
    · rename_i hx; cases h; exact .dry (fun _ => by simp only [evalOp, hx]) rfl rfl (by simp)
    · rename_i a _ _ hx
      split at h
      · rename_i hM
        split at h
        · rename_i hs; cases h
          exact ⟨fun M' hM' => by have e := hM' a.block (by simp); simp only [evalOp, hx, e, hM, hs, if_true], by simp [hM], by simp, by simp⟩
        · cases h
      · rename_i vs hM
        split at h
        · rename_i v hv
          split at h
          · rename_i hs; cases h
            exact ⟨fun M' hM' => by have e := hM' a.block (by simp); simp only [evalOp, hx, e, hM, hv, if_pos hs], by simp [hM], by simp, by simp⟩
          · cases h
        · cases h
      · cases h
    · cases h
  | append ty esz bytes s x =>
    simp only [evalOp] at h
    split at h
    · rename_i m hm
      split at h
      · rename_i xs rd hsrc
        obtain ⟨s1, s2⟩ := srcCells_spec hsrc
        obtain ⟨a1, a2, a3, a4, a5⟩ := appendA_spec s2 h
        exact ⟨fun M' hM => by simp only [evalOp, hm, s1 M' fun b hb => hM b (a3 b hb)]; exact a1 M' hM, a2, a4, a5⟩
      · cases h
    · cases h
  | appendZ bytes z s n =>
    simp only [evalOp] at h
    split at h
    · rename_i k i hn
      split at h
      · rename_i hi
        obtain ⟨a1, a2, a3, a4, a5⟩ := appendA_spec (by simp) h
        exact ⟨fun M' hM => by simp only [evalOp, hn, if_pos hi]; exact a1 M' hM, a2, a4, a5⟩
      · cases h
    · cases h
  | copy esz d s =>
    simp only [evalOp] at h
    split at h
    · rename_i base dl _ sl hd hs
      split at h
      · rename_i hn; cases h
        exact .dry (fun _ => by simp only [evalOp, hd, hs, if_pos hn]) rfl rfl (by simp)
      · rename_i hn
        split at h
        · rename_i a xs rd hsrc
          split at h
          · rename_i o ho
            split at h
            · rename_i hl; cases h
              obtain ⟨s1, s2⟩ := srcCells_spec hsrc
              obtain ⟨t1, t2, t3⟩ := storeN_turns ho
              refine ⟨fun M' hM => ?_, ?_, ?_, by simp⟩
              · simp only [evalOp, hd, hs, if_neg hn, s1 M' fun b hb => hM b (List.mem_cons_of_mem _ hb), storeN_congr (hM a.block (by simp)), ho, if_pos hl]
              · intro b hb
                rcases List.mem_cons.1 hb with rfl | hb
                · exact t1
                · exact s2 b hb
              · simp only [Option.some.injEq, Prod.mk.injEq]; rintro _ _ ⟨rfl, rfl⟩; exact ⟨by simp, t2, t3⟩
            · cases h
          · cases h
        · cases h
    · cases h
  | clear z x =>
    simp only [evalOp] at h
    split at h
    · rename_i hx; cases h; exact .dry (fun _ => by simp only [evalOp, hx]) rfl rfl (by simp)
    · rename_i a n _ hn0 hx
      split at h
      · rename_i o ho; cases h
        obtain ⟨t1, t2, t3⟩ := storeN_turns ho
        exact ⟨fun M' hM => by simp only [evalOp, hx]; rw [storeN_congr (hM a.block (by simp)), ho], by simpa using t1, by simp [t2, t3], by simp⟩
      · cases h
    · cases h
  | insert kp m k x | mentry kp x m k =>
    simp only [evalOp] at h
    split at h
    · rename_i r hm
      split at h
      · rename_i es hM
        split at h
        · rename_i hk
          split at h
          · rename_i i v hf
            split at h
            · rename_i hs; cases h
              exact ⟨fun M' hM' => by have e := hM' r (by simp); simp only [evalOp, hm, e, hM, hk, if_true, hf, hs], by simp [hM], by simp [hM], by simp⟩
            · cases h
          · rename_i hf; cases h
            exact ⟨fun M' hM' => by have e := hM' r (by simp); simp only [evalOp, hm, e, hM, hk, if_true, hf], by simp [hM], by simp [hM], by simp⟩
          · cases h
        · cases h
      · cases h
    · cases h
  | lookup kp z ok m k =>
    simp only [evalOp] at h
    split at h
    · rename_i r hm
      split at h
      · rename_i es hM
        split at h
        · rename_i hk
          split at h
          · rename_i i v hf; cases h
            exact ⟨fun M' hM' => by have e := hM' r (by simp); simp only [evalOp, hm, e, hM, hk, if_true, hf], by simp [hM], by simp, by simp⟩
          · rename_i hf; cases h
            exact ⟨fun M' hM' => by have e := hM' r (by simp); simp only [evalOp, hm, e, hM, hk, if_true, hf], by simp [hM], by simp, by simp⟩
          · cases h
        · cases h
      · cases h
    · cases h
  | mstore m k x =>
    simp only [evalOp] at h
    split at h
    · rename_i r i hm hk
      split at h
      · rename_i es hM
        split at h
        · rename_i hi
          split at h
          · rename_i e he; cases h
            exact ⟨fun M' hM' => by have e := hM' r (by simp); simp only [evalOp, hm, hk, e, hM, if_pos hi, he], by simp [hM], by simp [hM], by simp⟩
          · cases h
        · cases h
      · cases h
    · cases h
  | eqF kp neg x y => have h' := h; simp only [evalOp, Option.map_eq_some_iff] at h; obtain ⟨_, _, rfl⟩ := h; exact .dry (fun _ => h') rfl rfl (by simp)
  | sdata x => have h' := h; simp only [evalOp] at h; split at h <;> cases h <;> exact .dry (fun _ => h') rfl rfl (by simp)
  | ustr u x n =>
    simp only [evalOp] at h
    split at h
    · rename_i h1 h2; cases h; exact .dry (fun _ => by simp only [evalOp, h1, h2]) rfl rfl (by simp)
    · rename_i a i h1 h2
      split at h
      · rename_i vs hM
        split at h
        · rename_i v hv
          split at h
          · rename_i hc
            have hh := h
            simp only [Option.map_eq_some_iff] at h
            obtain ⟨bs, hbs, rfl⟩ := h
            exact ⟨fun M' hM' => by have e := hM' a.block (by simp); simp only [evalOp, h1, h2, e, hM, hv, if_pos hc]; exact hh, by simp [hM], by simp [hM], by simp⟩
          · cases h
        · cases h
      · cases h
    · cases h
  | toU x | frU u n x =>
    simp only [evalOp] at h
    split at h
    · rename_i a h1
      split at h
      · rename_i vs hM
        split at h
        · rename_i v hv
          split at h
          · rename_i hc; cases h
            exact ⟨fun M' hM' => by have e := hM' a.block (by simp); simp only [evalOp, h1, e, hM, hv, if_pos hc], by simp [hM], by simp, by simp⟩
          · cases h
        · cases h
      · cases h
    · cases h


theorem appendA_lk {ty : Option TypeId} {esz bytes m : Nat} {s : Value} {xs : List Value} {rd : List Nat} (h : appendA C M ty esz bytes s m xs rd nid = some out) : out.lk = none := by
  unfold appendA at h
  repeat' split at h
  all_goals first | (cases h; rfl) | (cases h; done) | (dsimp only at h; split at h <;> first | (cases h; rfl) | cases h)

/-- An operation that looks at cells alone: these cells matter. -/
theorem evalOp_look {op : IOp} (h : evalOp C M T nid op = some out) {a : Addr} {l : List Value} (hl : out.lk = some (a, l)) :
    out.rd = [a.block] ∧ out.put = none ∧ out.new = none ∧ ∀ M', loadN C M' a l.length = some l → evalOp C M' T nid op = some out := by
  cases op with
  | load1 x =>
    simp only [evalOp] at h
    split at h
    · rename_i b hb
      split at h
      · rename_i v hv
        cases h
        cases hl
        exact ⟨rfl, rfl, rfl, fun M' hM' => by
          have hM' : loadN C M' a 1 = some [v] := hM'
          simp only [evalOp, hb, hM']⟩
      · cases h
    · cases h
  | loadN n x =>
    simp only [evalOp] at h
    split at h
    · rename_i b hb
      simp only [Option.map_eq_some_iff] at h
      obtain ⟨l', hv, rfl⟩ := h
      cases hl
      have hn : l.length = n := by
        unfold Ak.loadN at hv
        split at hv
        · split at hv
          · cases hv; simp only [List.length_take]; omega
          · cases hv
        · cases hv
      exact ⟨rfl, rfl, rfl, fun M' hM' => by
        rw [hn] at hM'
        simp only [evalOp, hb, hM', Option.map_some]⟩
    · cases h
  | append ty esz bytes s x =>
    exfalso
    simp only [evalOp] at h
    split at h
    · split at h
      · rw [appendA_lk h] at hl; cases hl
      · cases h
    · cases h
  | appendZ bytes z s n =>
    exfalso
    simp only [evalOp] at h
    split at h
    · split at h
      · rw [appendA_lk h] at hl; cases hl
      · cases h
    · cases h
  | _ =>
    exfalso
    simp only [evalOp] at h
    repeat' split at h
    all_goals first
      | (cases h; cases hl; done)
      | (cases h; done)
      | (simp only [Option.map_eq_some_iff] at h; obtain ⟨_, _, rfl⟩ := h; cases hl; done)
end
end Go.Ak
