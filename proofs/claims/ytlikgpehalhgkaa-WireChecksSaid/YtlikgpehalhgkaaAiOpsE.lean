/-
  Each operation, against the model's: append, copy, clear, make, maps.
-/
import Derived.Test.YtlikgpehalhgkaaAiOpsD
namespace Go.Ai
section
variable {P : Program} {C : Ctx} {φ : Phi} {M : Nat → Option AObj} {w : World} {T : Nat → Value} {nid : Nat} {ρ : Operand → Value} {out : AOut} {o : Oper}

theorem extract_take (s : ByteArray) (n : Nat) : (s.extract 0 n).data.toList = s.data.toList.take n := by
  simp [ByteArray.data_extract, List.extract_eq_take_drop]

/-- What is appended or copied. -/
theorem src_rel (h : R P C φ M w) {x x' : Value} (hx : VRel φ x x') {esz n m : Nat} (hm : lenA x = some m) (hnm : n ≤ m) {xs : List Value} {rd : List Nat} (hs : srcCells C M esz n x = some (xs, rd)) :
    ∃ xs', VsRel φ xs xs' ∧ (∀ W, (Builtin.lenOf x').run P W = .ok m W) ∧ ∀ W : World, W.heap = w.heap → (Builtin.firstCells esz n x').run P W = .ok xs'.toArray W := by
  unfold srcCells at hs
  split at hs
  · rename_i b l c
    simp only [lenA, Option.some.injEq] at hm
    subst hm
    obtain ⟨a', c', h2, _, h4⟩ := sl_inv hx
    subst h2
    split at hs
    · rename_i h0
      subst h0
      cases hs
      exact ⟨[], .nil, fun W => by simp [Builtin.lenOf], fun W _ => firstCells_zero esz ⟨_, _, _, rfl⟩ W⟩
    · rename_i h0
      split at hs
      · rename_i l' hl
        cases hs
        have ha := h4.resolve_right (by omega)
        obtain ⟨_, xs', hc, hln, hr, _⟩ := loadN_rel h ha hl
        refine ⟨xs', hr, fun W => by simp [Builtin.lenOf], fun W hW => ?_⟩
        obtain ⟨loc, _, rfl⟩ := ha
        refine run_firstCells_some W esz n _ l c' xs' hln fun j v hv => ?_
        have := hc j v hv
        rw [addr_add] at this ⊢
        simpa [World.cell?, hW] using this
      · cases hs
  · rename_i l c
    simp only [lenA, Option.some.injEq] at hm
    subst hm
    have h2 := nilsl_inv hx
    subst h2
    split at hs
    · rename_i h0
      subst h0
      cases hs
      exact ⟨[], .nil, fun W => by simp [Builtin.lenOf], fun W _ => firstCells_zero esz ⟨_, _, _, rfl⟩ W⟩
    · cases hs
  · rename_i s
    cases hs
    have h2 := str_inv hx
    subst h2
    simp only [lenA, Option.some.injEq] at hm
    subst hm
    refine ⟨(s.data.toList.take n).map fun b => .int .u8 b.toNat, VsRel.refl fun v hv => ?_, fun W => by simp [Builtin.lenOf], fun W _ => ?_⟩
    · obtain ⟨b, _, rfl⟩ := List.mem_map.1 hv
      exact .int _ _
    · simp only [Builtin.firstCells, Sem.run_pure]
      congr 1
      apply Array.ext'
      simp
  · cases hs

section
variable {c : Call} {t u e : TypeId} {ts : List TypeId} {x1 x2 : Operand} {y1 y2 : IOpd} {n bytes : Nat} {z : List Value}

theorem good_append {d : TypeDesc} (ho : o.op = .call c) (hc : c.callee = .builtin .append) (hts : c.argTypes.toList = t :: u :: ts) (ha : c.args.toList = [x1, x2]) (h1 : opd x1 = some y1) (h2 : opd x2 = some y2)
    (ht : P.underlying t = some (.slice e)) (hu : P.underlying u = some d) (hd : (∃ e', d = .slice e') ∨ d = .string) (hn : sizeT P e = some n) (hb : bytesT P e = some bytes) (hz : zeroOf P e = some z) (hzl : z.length = n) (hpos : 1 ≤ n)
    (hT : Opds φ T ρ) (h : R P C φ M w) (hnid : out.new ≠ none → M nid = none) (he : evalOp C M T nid (.append n bytes y1 y2) = some out) : Good P C φ M w nid (execOp ρ o) out := by
  simp only [evalOp] at he
  split at he
  case h_2 => cases he
  rename_i m hm
  split at he
  case h_2 => cases he
  rename_i xs rd hsrc
  have hv1 := hT x1 y1 h1
  have hv2 := hT x2 y2 h2
  obtain ⟨xs', hxr, hlen, hfc⟩ := src_rel h hv2 hm (Nat.le_refl m) hsrc
  obtain ⟨i, v, hi, hv, hvz, hclean⟩ := zeroOf_inv hz
  have hib : i.bytes = bytes := by simp only [bytesT, hi, Option.map_some, Option.some.injEq] at hb; exact hb
  have hvs : v.cells.size = n := by rw [← hzl, ← hvz]; simp
  have hlx : xs'.length = m * n := by
    have := hxr.length
    unfold appendA at he
    split at he
    · rename_i hc; omega
    · cases he
  have hX : AppSem P w (Builtin.append_ c.argTypes o.type #[ρ x1, ρ x2]) n bytes e v.cells m (ρ x1) xs' := by
    refine ⟨fun b len cap w' hs hfit hst => ?_, fun b len cap old hs hcap h62 hby hold => ?_⟩
    · have hw := hfc w rfl
      cases b with
      | none =>
        subst hst
        rcases hd with ⟨e', rfl⟩ | rfl <;> simp [Builtin.append_, type_first hts, type_second hts, hs, run_underlying ht, run_underlying hu, run_sizeOf hn, hlen, hfit, hw]
      | some a =>
        rcases hd with ⟨e', rfl⟩ | rfl <;> simp [Builtin.append_, type_first hts, type_second hts, hs, run_underlying ht, run_underlying hu, run_sizeOf hn, hlen, hfit, hw, hst]
    · have hno : ¬ (len + m ≤ cap) := by omega
      have h48 : ¬ (281474976710656 < Builtin.nextslicecap (len + m) cap * bytes) := by have := growslice_fits (bytes := bytes) hcap hby; omega
      have h63 : ¬ (9223372036854775807 < ((len : Int) + (m : Int))) := by omega
      rw [hs] at hold
      have hfd := hfc w.drew rfl
      rcases hd with ⟨e', rfl⟩ | rfl <;>
        simp [Builtin.append_, type_first hts, type_second hts, hs, run_underlying ht, run_underlying hu, run_sizeOf hn, hlen, hno, typeInfo, hi, hib, h48, h63, Question.forced, hold, hfd, run_zero hi hv, newRow, grownCap]
  obtain ⟨v', w', φ', r1, r2, r3, r4⟩ := appendA_rel h hnid hpos hvs hv1 hxr hX he
  refine ⟨v', w', φ', .inl ?_, r2, r3, r4⟩
  rw [builtin_op ho hc, args_two ha]
  simp [builtin, r1]


theorem wrap_small {m : Nat} (h : m < 1099511627776) : IntKind.i64.wrap (m : Int) = m := by
  have h1 : (2 : Int) ^ IntKind.i64.bits = 18446744073709551616 := by decide
  have h2 : (2 : Int) ^ (IntKind.i64.bits - 1) = 9223372036854775808 := by decide
  have h3 : (m : Int) % 18446744073709551616 = m := by omega
  simp only [IntKind.wrap, h1, h2, h3]
  rw [if_neg]
  simp
  omega

theorem good_appendZ {k : IntKind} (ho : o.op = .call c) (hc : c.callee = .builtin .append) (hts : c.argTypes.toList = t :: u :: ts) (ha : c.args.toList = [x1, x2]) (h1 : opd x1 = some y1) (h2 : opd x2 = some y2)
    (ht : P.underlying t = some (.slice e)) (hu : P.underlying u = some (.int k)) (hn : sizeT P e = some n) (hb : bytesT P e = some bytes) (hz : zeroOf P e = some z) (hzl : z.length = n) (hpos : 1 ≤ n)
    (hT : Opds φ T ρ) (h : R P C φ M w) (hnid : out.new ≠ none → M nid = none) (he : evalOp C M T nid (.appendZ bytes z y1 y2) = some out) : Good P C φ M w nid (execOp ρ o) out := by
  simp only [evalOp] at he
  split at he
  case h_2 => cases he
  rename_i k' mi hm
  split at he
  case isFalse => cases he
  rename_i hcond
  obtain ⟨hm0, hmlt, hmb⟩ := hcond
  obtain ⟨m, rfl⟩ := Int.eq_ofNat_of_zero_le hm0
  have hv1 := hT x1 y1 h1
  have hv2 := hT x2 y2 h2
  rw [hm] at hv2
  have e2 := int_inv hv2
  obtain ⟨i, v, hi, hv, hvz, hclean⟩ := zeroOf_inv hz
  have hib : i.bytes = bytes := by simp only [bytesT, hi, Option.map_some, Option.some.injEq] at hb; exact hb
  have hvs : v.cells.size = n := by rw [← hzl, ← hvz]; simp
  have hn0 : n ≠ 0 := by omega
  simp only [Int.toNat_natCast] at he
  have hxr : VsRel φ (List.replicate m z).flatten (List.replicate m z).flatten := by
    refine zero_rel fun x hx => ?_
    obtain ⟨l, hl, hxl⟩ := List.mem_flatten.1 hx
    rw [(List.mem_replicate.1 hl).2] at hxl
    exact hclean x hxl
  have hwrap : IntKind.i64.wrap (m : Int) = m := wrap_small (by omega)
  have hneg : ¬ ((m : Int) < 0) := by omega
  have hwrap0 : IntKind.i64.wrap 0 = 0 := by decide
  have hbig : ¬ (281474976710656 < (m : Int) * (bytes : Int)) := by omega
  have hzc : Builtin.zeroCells v.cells m = (List.replicate m z).flatten.toArray := by
    apply Array.ext'
    have := reps v.cells m
    rw [hvz] at this
    simpa [Builtin.zeroCells] using this
  have hX : AppSem P w (Builtin.append_ c.argTypes o.type #[ρ x1, ρ x2]) n bytes e v.cells m (ρ x1) (List.replicate m z).flatten := by
    refine ⟨fun b len cap w' hs hfit hst => ?_, fun b len cap old hs hcap h62 hby hold => ?_⟩
    · by_cases hm00 : m = 0
      · subst hm00
        cases b with
        | none =>
          subst hst
          simp [Builtin.append_, type_first hts, type_second hts, hs, run_underlying ht, run_underlying hu, run_sizeOf hn, e2, asInt, asIntOf, hwrap0, typeInfo, hi, hib] at hfit ⊢
          intro hh
          omega
        | some a =>
          simp only [List.replicate_zero, List.flatten_nil] at hst
          simp [Builtin.append_, type_first hts, type_second hts, hs, run_underlying ht, run_underlying hu, run_sizeOf hn, e2, asInt, asIntOf, hwrap0, typeInfo, hi, hib] at hfit ⊢
          simp [hfit, hst]
      · have hmn : ¬ (m * n = 0) := fun q => by rcases Nat.mul_eq_zero.1 q with q | q <;> omega
        cases b with
        | none =>
          subst hst
          simp [Builtin.append_, type_first hts, type_second hts, hs, run_underlying ht, run_underlying hu, run_sizeOf hn, e2, asInt, asIntOf, hwrap, hneg, typeInfo, hi, hib, hbig, hfit, hmn, run_zero hi hv]
        | some a =>
          simp [Builtin.append_, type_first hts, type_second hts, hs, run_underlying ht, run_underlying hu, run_sizeOf hn, e2, asInt, asIntOf, hwrap, hneg, typeInfo, hi, hib, hbig, hfit, hmn, run_zero hi hv, hzc, hst]
    · have hno : ¬ (len + m ≤ cap) := by omega
      have h48 : ¬ (281474976710656 < Builtin.nextslicecap (len + m) cap * bytes) := by have := growslice_fits (bytes := bytes) hcap hby; omega
      have h63 : ¬ (9223372036854775807 < ((len : Int) + (m : Int))) := by omega
      rw [hs] at hold
      by_cases hm00 : m = 0
      · subst hm00
        have hno' : ¬ (len ≤ cap) := by omega
        have h48' : ¬ (281474976710656 < Builtin.nextslicecap len cap * bytes) := by simpa using h48
        have h63' : ¬ (9223372036854775807 < (len : Int)) := by omega
        simp [Builtin.append_, type_first hts, type_second hts, hs, run_underlying ht, run_underlying hu, run_sizeOf hn, e2, asInt, asIntOf, hwrap0, typeInfo, hi, hib, hno', h48', h63', Question.forced, hold, newRow, grownCap, run_zero hi hv]
      · have hmn : ¬ (m * n = 0) := fun q => by rcases Nat.mul_eq_zero.1 q with q | q <;> omega
        simp [Builtin.append_, type_first hts, type_second hts, hs, run_underlying ht, run_underlying hu, run_sizeOf hn, e2, asInt, asIntOf, hwrap, hneg, typeInfo, hi, hib, hbig, hno, h48, h63, Question.forced, hold, newRow, grownCap, run_zero hi hv, hmn, hzc]
  obtain ⟨v', w', φ', r1, r2, r3, r4⟩ := appendA_rel h hnid hpos hvs hv1 hxr hX (by rw [hzl] at he; exact he)
  refine ⟨v', w', φ', .inl ?_, r2, r3, r4⟩
  rw [builtin_op ho hc, args_two ha]
  simp [builtin, r1]

theorem good_copy (ho : o.op = .call c) (hc : c.callee = .builtin .copy) (hts : c.argTypes.toList = t :: ts) (ha : c.args.toList = [x1, x2]) (h1 : opd x1 = some y1) (h2 : opd x2 = some y2)
    (ht : P.underlying t = some (.slice e)) (hn : sizeT P e = some n)
    (hT : Opds φ T ρ) (h : R P C φ M w) (he : evalOp C M T nid (.copy n y1 y2) = some out) : Good P C φ M w nid (execOp ρ o) out := by
  simp only [evalOp] at he
  have hv1 := hT x1 y1 h1
  have hv2 := hT x2 y2 h2
  split at he
  case h_2 => cases he
  rename_i base dl cp sl hd hsl
  have hl2 : ∀ W, (Builtin.lenOf (ρ x2)).run P W = .ok sl W := by
    generalize y2.val T = q at hsl hv2
    generalize ρ x2 = q' at hv2
    intro W
    cases hv2 <;> simp_all [lenA, Builtin.lenOf]
  have hshape : ∃ a n0 c0, ρ x2 = .slice a n0 c0 ∨ ∃ s, ρ x2 = .string s := by
    generalize y2.val T = q at hsl hv2
    generalize ρ x2 = q' at hv2
    cases hv2 <;> simp_all [lenA]
  split at he
  · rename_i h0
    cases he
    refine good_pure h (v' := .int .i64 0) ?_ (.int _ _)
    rw [builtin_op ho hc, args_two ha]
    have hf0 : (Builtin.firstCells n 0 (ρ x2)).run P w = .ok #[] w := by
      obtain ⟨a, n0, c0, hq | ⟨s, hq⟩⟩ := hshape
      · exact firstCells_zero n ⟨a, n0, c0, hq⟩ w
      · rw [hq]
        simp only [Builtin.firstCells, Sem.run_pure]
        congr 1
        apply Array.ext'
        simp
    rw [hd] at hv1
    cases base with
    | none =>
      simp [builtin, Builtin.copy_, type_first hts, nilsl_inv hv1, run_underlying ht, hl2, h0, run_sizeOf hn, hf0, goInt]
    | some a =>
      obtain ⟨a', c', q1, _, _⟩ := sl_inv hv1
      simp [builtin, Builtin.copy_, type_first hts, q1, run_underlying ht, hl2, h0, run_sizeOf hn, hf0, goInt, storeCells]
  · rename_i h0
    split at he
    case h_2 => cases he
    rename_i a xs rd hsrc
    split at he
    case h_2 => cases he
    rename_i ob hst
    split at he
    case isFalse => cases he
    rename_i hlen
    cases he
    rw [hd] at hv1
    obtain ⟨a', c', q1, _, q2⟩ := sl_inv hv1
    have hmin : Nat.min sl dl ≤ sl := Nat.min_le_left sl dl
    have hmin2 : Nat.min sl dl ≤ dl := Nat.min_le_right sl dl
    have ha' := q2.resolve_right (fun q => h0 (by have := q.1; omega))
    obtain ⟨xs', hxr, _, hfc⟩ := src_rel h hv2 hsl hmin hsrc
    obtain ⟨w', hrun, hR⟩ := storeN_rel h ha' hxr hst
    refine ⟨.int .i64 (Nat.min sl dl), w', φ, .inl ?_, Phi.le_refl φ, .int _ _, hR⟩
    rw [builtin_op ho hc, args_two ha]
    simp [builtin, Builtin.copy_, type_first hts, q1, run_underlying ht, hl2, run_sizeOf hn, hfc w rfl, hrun, goInt]

theorem good_clear (ho : o.op = .call c) (hc : c.callee = .builtin .clear) (hts : c.argTypes.toList = t :: ts) (ha : c.args.toList = [x1]) (h1 : opd x1 = some y1)
    (ht : P.underlying t = some (.slice e)) (hz : zeroOf P e = some z)
    (hT : Opds φ T ρ) (h : R P C φ M w) (he : evalOp C M T nid (.clear z y1) = some out) : Good P C φ M w nid (execOp ρ o) out := by
  simp only [evalOp] at he
  have hv1 := hT x1 y1 h1
  obtain ⟨i, v, hi, hv, hvz, hclean⟩ := zeroOf_inv hz
  split at he
  · rename_i a cp hd
    cases he
    refine good_pure h (v' := .tuple #[]) ?_ (.undef _)
    rw [builtin_op ho hc, args_one ha]
    rw [hd] at hv1
    cases a with
    | none => simp [builtin, Builtin.clear_, type_first hts, nilsl_inv hv1, run_underlying ht]
    | some a =>
      obtain ⟨a', c', q1, _, _⟩ := sl_inv hv1
      simp [builtin, Builtin.clear_, type_first hts, q1, run_underlying ht]
  · rename_i a m cp hne hd
    split at he
    case h_2 => cases he
    rename_i ob hst
    cases he
    rw [hd] at hv1
    have hm : m ≠ 0 := fun q => hne (by rw [q])
    obtain ⟨a', c', q1, _, q2⟩ := sl_inv hv1
    have ha' := q2.resolve_right (fun q => hm q.1)
    have hxr : VsRel φ (List.replicate m z).flatten (List.replicate m z).flatten := by
      refine zero_rel fun x hx => ?_
      obtain ⟨l, hl, hxl⟩ := List.mem_flatten.1 hx
      rw [(List.mem_replicate.1 hl).2] at hxl
      exact hclean x hxl
    obtain ⟨w', hrun, hR⟩ := storeN_rel h ha' hxr hst
    have hzc : (Builtin.zeroCells v.cells m).toList = (List.replicate m z).flatten := by
      have := reps v.cells m
      rw [hvz] at this
      simpa [Builtin.zeroCells] using this
    refine ⟨.tuple #[], w', φ, .inl ?_, Phi.le_refl φ, .undef _, hR⟩
    rw [builtin_op ho hc, args_one ha]
    obtain ⟨m', rfl⟩ : ∃ m', m = m' + 1 := ⟨m - 1, by omega⟩
    simp [builtin, Builtin.clear_, type_first hts, q1, run_underlying ht, run_zero hi hv, hzc, hrun]
  · cases he

theorem good_mkSlice {x3 : Operand} (ho : o.op = .makeSlice t x1 x2) (h1 : opd x1 = some y1) (h2 : opd x2 = some y2) (ht : P.underlying t = some (.slice e)) (hn : sizeT P e = some n) (hb : bytesT P e = some bytes) (hz : zeroOf P e = some z) (hzl : z.length = n)
    (hT : Opds φ T ρ) (h : R P C φ M w) (hnid : M nid = none) (he : evalOp C M T nid (.mkSlice bytes z y1 y2) = some out) : Good P C φ M w nid (execOp ρ o) out := by
  simp only [evalOp] at he
  have hv1 := hT x1 y1 h1
  have hv2 := hT x2 y2 h2
  split at he
  case h_2 => cases he
  rename_i k1 l k2 cp hq1 hq2
  split at he
  case isFalse => cases he
  rename_i hcond
  obtain ⟨hl0, hlc, hc1, hc2, hsc⟩ := hcond
  cases he
  rw [hq1] at hv1
  rw [hq2] at hv2
  obtain ⟨l, rfl⟩ := Int.eq_ofNat_of_zero_le hl0
  obtain ⟨cp, rfl⟩ := Int.eq_ofNat_of_zero_le (show 0 ≤ cp by omega)
  obtain ⟨i, v, hi, hv, hvz, hclean⟩ := zeroOf_inv hz
  have hib : i.bytes = bytes := by simp only [bytesT, hi, Option.map_some, Option.some.injEq] at hb; exact hb
  have hvs : v.cells.size = n := by rw [← hzl, ← hvz]; simp
  have w1 : IntKind.i64.wrap (l : Int) = l := wrap_small (by omega)
  have w2 : IntKind.i64.wrap (cp : Int) = cp := wrap_small (by omega)
  have hc2' : ¬ (281474976710656 < (bytes : Int) * (cp : Int)) := by omega
  have hlc' : ¬ ((cp : Int) < (l : Int)) := by omega
  have hlc2 : ¬ (cp < l) := by omega
  have n1 : ¬ ((l : Int) < 0) := by omega
  have n2 : ¬ ((cp : Int) < 0) := by omega
  simp only [Int.toNat_natCast] at *
  -- the zeros, as the model lays them
  obtain ⟨zz, hrun, hzz⟩ : ∃ zz : Array Value, ((if cp * n = 0 then pure #[] else (do pure (← zeroValue e).cells) : Sem (Array Value)).run P w = .ok zz w) ∧
      VsRel φ (List.replicate cp z).flatten ((Array.range (cp * n)).map (zz[· % zz.size]!)).toList := by
    by_cases h0 : cp * n = 0
    · refine ⟨#[], by rw [if_pos h0]; rfl, ?_⟩
      have : (List.replicate cp z).flatten = [] := by
        rcases Nat.mul_eq_zero.1 h0 with hl | hl
        · simp [hl]
        · have hz0 : z = [] := List.eq_nil_of_length_eq_zero (by omega)
          simp [hz0]
      rw [this, h0]
      simp
      exact .nil
    · refine ⟨v.cells, by rw [if_neg h0]; simp [run_zero hi hv], ?_⟩
      have := reps v.cells cp
      rw [hvs] at this ⊢
      rw [this, hvz]
      refine zero_rel fun x hx => ?_
      obtain ⟨l, hl, hxl⟩ := List.mem_flatten.1 hx
      rw [(List.mem_replicate.1 hl).2] at hxl
      exact hclean x hxl
  obtain ⟨hle, hR⟩ := h.new_cells hnid (List.replicate cp z).flatten ((Array.range (cp * n)).map (zz[· % zz.size]!)) e 0 (fun j x hx => by
    obtain ⟨x', p, q⟩ := hzz.get hx
    exact ⟨x', by rwa [← Array.getElem?_toList], q⟩)
  refine ⟨.slice (some ⟨w.heap.size, 0, none⟩) l cp, _, _, .inl ?_, hle, .slice ⟨nid, 0, none⟩ ⟨w.heap.size, 0, _, 0⟩ _ _ _ (Phi.set_self φ nid 0 _) (.inl rfl), hR⟩
  by_cases h0 : cp * n = 0
  · simp [execOp, ho, Instr.makeSlice, run_underlying ht, int_inv hv1, int_inv hv2, asInt, asIntOf, typeInfo, hi, hib, w1, w2, hc2', hlc', hlc2, n1, n2, run_sizeOf hn, h0, newRow, Array.range_zero']
  · rw [if_neg h0] at hrun
    simp [run_zero hi hv] at hrun
    subst hrun
    simp [execOp, ho, Instr.makeSlice, run_underlying ht, int_inv hv1, int_inv hv2, asInt, asIntOf, typeInfo, hi, hib, w1, w2, hc2', hlc', hlc2, n1, n2, run_sizeOf hn, h0, newRow, run_zero hi hv]

theorem good_mkmap (ho : o.op = .makeMap t none) (h : R P C φ M w) (hnid : M nid = none) (he : evalOp C M T nid .mkmap = some out) : Good P C φ M w nid (execOp ρ o) out := by
  simp only [evalOp] at he
  cases he
  obtain ⟨hle, hR⟩ := h.new hnid (o' := .map []) (.map #[] 0) 0 0 (fun hle hs => ⟨_, #[], 0, Phi.set_self φ nid 0 _, hs, heap_alloc_self w _, rfl, fun i e he => by simp at he⟩)
  exact ⟨.map (some w.heap.size), _, _, .inl (by simp [execOp, ho, Instr.makeMap]), hle, .map nid ⟨w.heap.size, 0, 0, 0⟩ (Phi.set_self φ nid 0 _), hR⟩
end
end
end Go.Ai
