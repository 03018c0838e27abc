/-
  Each operation, against the model's: append, copy, clear, make, maps.
  Each operation, against the model's: maps; and all operations together.
  Every operation that is no call, against the model's.
-/
import Derived.Test.YtlikgpehalhgkaaGreatPAiB
namespace Go.Ai
section
variable {P : Program} {C : Ctx} {φ : Phi} {M : Nat → Option AObj} {w : World} {T : Nat → Value} {nid : Nat} {ρ : Operand → Value} {out : AOut} {o : Oper}

/-- What is appended or copied. -/
theorem src_rel (h : R P C φ M w) {x x' : Value} (hx : VRel φ x x') {esz n m : Nat} (hm : lenA x = some m) (hnm : n ≤ m) {xs : List Value} {rd : List Nat} (hs : srcCells C M esz n x = some (xs, rd)) :
    ∃ xs', VsRel φ xs xs' ∧ (∀ W, (Builtin.lenOf x').run P W = .ok m W) ∧ ∀ W : World, W.heap = w.heap → (Builtin.firstCells esz n x').run P W = .ok xs'.toArray W := by
  unfold srcCells at hs
  split at hs
  · rename_i b l c
    simp only [lenA, Option.some.injEq] at hm
    subst hm
    obtain ⟨a', c', h2, _, h4⟩ := sl_inv hx
    subst h2
    split at hs
    · rename_i h0
      subst h0
      cases hs
      exact ⟨[], .nil, fun W => by simp [Builtin.lenOf], fun W _ => firstCells_zero esz ⟨_, _, _, rfl⟩ W⟩
    · rename_i h0
      split at hs
      · rename_i l' hl
        cases hs
        have ha := h4.resolve_right (by omega)
        obtain ⟨_, xs', hc, hln, hr, _⟩ := loadN_rel h ha hl
        refine ⟨xs', hr, fun W => by simp [Builtin.lenOf], fun W hW => ?_⟩
        obtain ⟨loc, _, rfl⟩ := ha
        refine run_firstCells_some W esz n _ l c' xs' hln fun j v hv => ?_
        have := hc j v hv
        rw [addr_add] at this ⊢
        simpa [World.cell?, hW] using this
      · cases hs
  · rename_i l c
    simp only [lenA, Option.some.injEq] at hm
    subst hm
    have h2 := nilsl_inv hx
    subst h2
    split at hs
    · rename_i h0
      subst h0
      cases hs
      exact ⟨[], .nil, fun W => by simp [Builtin.lenOf], fun W _ => firstCells_zero esz ⟨_, _, _, rfl⟩ W⟩
    · cases hs
  · rename_i s
    cases hs
    have h2 := str_inv hx
    subst h2
    simp only [lenA, Option.some.injEq] at hm
    subst hm
    refine ⟨(s.data.toList.take n).map fun b => .int .u8 b.toNat, VsRel.refl fun v hv => ?_, fun W => by simp [Builtin.lenOf], fun W _ => ?_⟩
    · obtain ⟨b, _, rfl⟩ := List.mem_map.1 hv
      exact .int _ _
    · simp only [Builtin.firstCells, Sem.run_pure]
      congr 1
      apply Array.ext'
      simp
  · cases hs

section
variable {c : Call} {t u e : TypeId} {ts : List TypeId} {x1 x2 : Operand} {y1 y2 : IOpd} {n bytes : Nat} {z : List Value}

theorem good_append {d : TypeDesc} (ho : o.op = .call c) (hc : c.callee = .builtin .append) (hts : c.argTypes.toList = t :: u :: ts) (ha : c.args.toList = [x1, x2]) (h1 : opd x1 = some y1) (h2 : opd x2 = some y2)
    (ht : P.underlying t = some (.slice e)) (hu : P.underlying u = some d) (hd : (∃ e', d = .slice e') ∨ d = .string) (hn : sizeT P e = some n) (hb : bytesT P e = some bytes) (hz : zeroOf P e = some z) (hzl : z.length = n) (hpos : 1 ≤ n)
    (hT : Opds φ T ρ) (h : R P C φ M w) (hnid : out.new ≠ none → M nid = none) (he : evalOp C M T nid (.append n bytes y1 y2) = some out) : Good P C φ M w nid (execOp ρ o) out := by
  simp only [evalOp] at he
  split at he
  case h_2 => cases he
  rename_i m hm
  split at he
  case h_2 => cases he
  rename_i xs rd hsrc
  have hv1 := hT x1 y1 h1
  have hv2 := hT x2 y2 h2
  obtain ⟨xs', hxr, hlen, hfc⟩ := src_rel h hv2 hm (Nat.le_refl m) hsrc
  obtain ⟨i, v, hi, hv, hvz, hclean⟩ := zeroOf_inv hz
  have hib : i.bytes = bytes := by simp only [bytesT, hi, Option.map_some, Option.some.injEq] at hb; exact hb
  have hvs : v.cells.size = n := by rw [← hzl, ← hvz]; simp
  have hlx : xs'.length = m * n := by
    have := hxr.length
    unfold appendA at he
    split at he
    · rename_i hc; omega
    · cases he
  have hX : AppSem P w (Builtin.append_ c.argTypes o.type #[ρ x1, ρ x2]) n bytes e v.cells m (ρ x1) xs' := by
    refine ⟨fun b len cap w' hs hfit hst => ?_, fun b len cap old hs hcap h62 hby hold => ?_⟩
    · have hw := hfc w rfl
      cases b with
      | none =>
        subst hst
        rcases hd with ⟨e', rfl⟩ | rfl <;> simp [Builtin.append_, type_first hts, type_second hts, hs, run_underlying ht, run_underlying hu, run_sizeOf hn, hlen, hfit, hw]
      | some a =>
        rcases hd with ⟨e', rfl⟩ | rfl <;> simp [Builtin.append_, type_first hts, type_second hts, hs, run_underlying ht, run_underlying hu, run_sizeOf hn, hlen, hfit, hw, hst]
    · have hno : ¬ (len + m ≤ cap) := by omega
      have h48 : ¬ (281474976710656 < Builtin.nextslicecap (len + m) cap * bytes) := by have := growslice_fits (bytes := bytes) hcap hby; omega
      have h63 : ¬ (9223372036854775807 < ((len : Int) + (m : Int))) := by omega
      rw [hs] at hold
      have hfd := hfc w.drew rfl
      rcases hd with ⟨e', rfl⟩ | rfl <;>
        simp [Builtin.append_, type_first hts, type_second hts, hs, run_underlying ht, run_underlying hu, run_sizeOf hn, hlen, hno, typeInfo, hi, hib, h48, h63, Question.forced, hold, hfd, run_zero hi hv, newRow, grownCap]
  obtain ⟨v', w', φ', r1, r2, r3, r4⟩ := appendA_rel h hnid hpos hvs hv1 hxr hX he
  refine ⟨v', w', φ', .inl ?_, r2, r3, r4⟩
  rw [builtin_op ho hc, args_two ha]
  simp [builtin, r1]


theorem wrap_small {m : Nat} (h : m < 1099511627776) : IntKind.i64.wrap (m : Int) = m := by
  have h1 : (2 : Int) ^ IntKind.i64.bits = 18446744073709551616 := by decide
  have h2 : (2 : Int) ^ (IntKind.i64.bits - 1) = 9223372036854775808 := by decide
  have h3 : (m : Int) % 18446744073709551616 = m := by omega
  simp only [IntKind.wrap, h1, h2, h3]
  rw [if_neg]
  simp
  omega

theorem good_appendZ {k : IntKind} (ho : o.op = .call c) (hc : c.callee = .builtin .append) (hts : c.argTypes.toList = t :: u :: ts) (ha : c.args.toList = [x1, x2]) (h1 : opd x1 = some y1) (h2 : opd x2 = some y2)
    (ht : P.underlying t = some (.slice e)) (hu : P.underlying u = some (.int k)) (hn : sizeT P e = some n) (hb : bytesT P e = some bytes) (hz : zeroOf P e = some z) (hzl : z.length = n) (hpos : 1 ≤ n)
    (hT : Opds φ T ρ) (h : R P C φ M w) (hnid : out.new ≠ none → M nid = none) (he : evalOp C M T nid (.appendZ bytes z y1 y2) = some out) : Good P C φ M w nid (execOp ρ o) out := by
  simp only [evalOp] at he
  split at he
  case h_2 => cases he
  rename_i k' mi hm
  split at he
  case isFalse => cases he
  rename_i hcond
  obtain ⟨hm0, hmlt, hmb⟩ := hcond
  obtain ⟨m, rfl⟩ := Int.eq_ofNat_of_zero_le hm0
  have hv1 := hT x1 y1 h1
  have hv2 := hT x2 y2 h2
  rw [hm] at hv2
  have e2 := int_inv hv2
  obtain ⟨i, v, hi, hv, hvz, hclean⟩ := zeroOf_inv hz
  have hib : i.bytes = bytes := by simp only [bytesT, hi, Option.map_some, Option.some.injEq] at hb; exact hb
  have hvs : v.cells.size = n := by rw [← hzl, ← hvz]; simp
  have hn0 : n ≠ 0 := by omega
  simp only [Int.toNat_natCast] at he
  have hxr : VsRel φ (List.replicate m z).flatten (List.replicate m z).flatten := by
    refine zero_rel fun x hx => ?_
    obtain ⟨l, hl, hxl⟩ := List.mem_flatten.1 hx
    rw [(List.mem_replicate.1 hl).2] at hxl
    exact hclean x hxl
  have hwrap : IntKind.i64.wrap (m : Int) = m := wrap_small (by omega)
  have hneg : ¬ ((m : Int) < 0) := by omega
  have hwrap0 : IntKind.i64.wrap 0 = 0 := by decide
  have hbig : ¬ (281474976710656 < (m : Int) * (bytes : Int)) := by omega
  have hzc : Builtin.zeroCells v.cells m = (List.replicate m z).flatten.toArray := by
    apply Array.ext'
    have := reps v.cells m
    rw [hvz] at this
    simpa [Builtin.zeroCells] using this
  have hX : AppSem P w (Builtin.append_ c.argTypes o.type #[ρ x1, ρ x2]) n bytes e v.cells m (ρ x1) (List.replicate m z).flatten := by
    refine ⟨fun b len cap w' hs hfit hst => ?_, fun b len cap old hs hcap h62 hby hold => ?_⟩
    · by_cases hm00 : m = 0
      · subst hm00
        cases b with
        | none =>
          subst hst
          simp [Builtin.append_, type_first hts, type_second hts, hs, run_underlying ht, run_underlying hu, run_sizeOf hn, e2, asInt, asIntOf, hwrap0, typeInfo, hi, hib] at hfit ⊢
          intro hh
          omega
        | some a =>
          simp only [List.replicate_zero, List.flatten_nil] at hst
          simp [Builtin.append_, type_first hts, type_second hts, hs, run_underlying ht, run_underlying hu, run_sizeOf hn, e2, asInt, asIntOf, hwrap0, typeInfo, hi, hib] at hfit ⊢
          simp [hfit, hst]
      · have hmn : ¬ (m * n = 0) := fun q => by rcases Nat.mul_eq_zero.1 q with q | q <;> omega
        cases b with
        | none =>
          subst hst
          simp [Builtin.append_, type_first hts, type_second hts, hs, run_underlying ht, run_underlying hu, run_sizeOf hn, e2, asInt, asIntOf, hwrap, hneg, typeInfo, hi, hib, hbig, hfit, run_zero hi hv]
        | some a =>
          simp [Builtin.append_, type_first hts, type_second hts, hs, run_underlying ht, run_underlying hu, run_sizeOf hn, e2, asInt, asIntOf, hwrap, hneg, typeInfo, hi, hib, hbig, hfit, hmn, run_zero hi hv, hzc, hst]
    · have hno : ¬ (len + m ≤ cap) := by omega
      have h48 : ¬ (281474976710656 < Builtin.nextslicecap (len + m) cap * bytes) := by have := growslice_fits (bytes := bytes) hcap hby; omega
      have h63 : ¬ (9223372036854775807 < ((len : Int) + (m : Int))) := by omega
      rw [hs] at hold
      by_cases hm00 : m = 0
      · subst hm00
        have hno' : ¬ (len ≤ cap) := by omega
        have h48' : ¬ (281474976710656 < Builtin.nextslicecap len cap * bytes) := by simpa using h48
        have h63' : ¬ (9223372036854775807 < (len : Int)) := by omega
        simp [Builtin.append_, type_first hts, type_second hts, hs, run_underlying ht, run_underlying hu, run_sizeOf hn, e2, asInt, asIntOf, hwrap0, typeInfo, hi, hib, hno', h48', h63', Question.forced, hold, newRow, grownCap, run_zero hi hv]
      · have hmn : ¬ (m * n = 0) := fun q => by rcases Nat.mul_eq_zero.1 q with q | q <;> omega
        simp [Builtin.append_, type_first hts, type_second hts, hs, run_underlying ht, run_underlying hu, run_sizeOf hn, e2, asInt, asIntOf, hwrap, hneg, typeInfo, hi, hib, hbig, hno, h48, h63, Question.forced, hold, newRow, grownCap, run_zero hi hv, hmn, hzc]
  obtain ⟨v', w', φ', r1, r2, r3, r4⟩ := appendA_rel h hnid hpos hvs hv1 hxr hX (by rw [hzl] at he; exact he)
  refine ⟨v', w', φ', .inl ?_, r2, r3, r4⟩
  rw [builtin_op ho hc, args_two ha]
  simp [builtin, r1]

theorem good_copy (ho : o.op = .call c) (hc : c.callee = .builtin .copy) (hts : c.argTypes.toList = t :: ts) (ha : c.args.toList = [x1, x2]) (h1 : opd x1 = some y1) (h2 : opd x2 = some y2)
    (ht : P.underlying t = some (.slice e)) (hn : sizeT P e = some n)
    (hT : Opds φ T ρ) (h : R P C φ M w) (he : evalOp C M T nid (.copy n y1 y2) = some out) : Good P C φ M w nid (execOp ρ o) out := by
  simp only [evalOp] at he
  have hv1 := hT x1 y1 h1
  have hv2 := hT x2 y2 h2
  split at he
  case h_2 => cases he
  rename_i base dl cp sl hd hsl
  have hl2 : ∀ W, (Builtin.lenOf (ρ x2)).run P W = .ok sl W := by
    generalize y2.val T = q at hsl hv2
    generalize ρ x2 = q' at hv2
    intro W
    cases hv2 <;> simp_all [lenA, Builtin.lenOf]
  have hshape : ∃ a n0 c0, ρ x2 = .slice a n0 c0 ∨ ∃ s, ρ x2 = .string s := by
    generalize y2.val T = q at hsl hv2
    generalize ρ x2 = q' at hv2
    cases hv2 <;> simp_all [lenA]
  split at he
  · rename_i h0
    cases he
    refine good_pure h (v' := .int .i64 0) ?_ (.int _ _)
    rw [builtin_op ho hc, args_two ha]
    have hf0 : (Builtin.firstCells n 0 (ρ x2)).run P w = .ok #[] w := by
      obtain ⟨a, n0, c0, hq | ⟨s, hq⟩⟩ := hshape
      · exact firstCells_zero n ⟨a, n0, c0, hq⟩ w
      · rw [hq]
        simp only [Builtin.firstCells, Sem.run_pure]
        congr 1
        apply Array.ext'
        simp
    rw [hd] at hv1
    cases base with
    | none =>
      simp [builtin, Builtin.copy_, type_first hts, nilsl_inv hv1, run_underlying ht, hl2, h0, run_sizeOf hn, hf0, goInt]
    | some a =>
      obtain ⟨a', c', q1, _, _⟩ := sl_inv hv1
      simp [builtin, Builtin.copy_, type_first hts, q1, run_underlying ht, hl2, h0, run_sizeOf hn, hf0, goInt, storeCells]
  · rename_i h0
    split at he
    case h_2 => cases he
    rename_i a xs rd hsrc
    split at he
    case h_2 => cases he
    rename_i ob hst
    split at he
    case isFalse => cases he
    rename_i hlen
    cases he
    rw [hd] at hv1
    obtain ⟨a', c', q1, _, q2⟩ := sl_inv hv1
    have hmin : Nat.min sl dl ≤ sl := Nat.min_le_left sl dl
    have hmin2 : Nat.min sl dl ≤ dl := Nat.min_le_right sl dl
    have ha' := q2.resolve_right (fun q => h0 (by have := q.1; omega))
    obtain ⟨xs', hxr, _, hfc⟩ := src_rel h hv2 hsl hmin hsrc
    obtain ⟨w', hrun, hR⟩ := storeN_rel h ha' hxr hst
    refine ⟨.int .i64 (Nat.min sl dl), w', φ, .inl ?_, Phi.le_refl φ, .int _ _, hR⟩
    rw [builtin_op ho hc, args_two ha]
    simp [builtin, Builtin.copy_, type_first hts, q1, run_underlying ht, hl2, run_sizeOf hn, hfc w rfl, hrun, goInt]

theorem good_clear (ho : o.op = .call c) (hc : c.callee = .builtin .clear) (hts : c.argTypes.toList = t :: ts) (ha : c.args.toList = [x1]) (h1 : opd x1 = some y1)
    (ht : P.underlying t = some (.slice e)) (hz : zeroOf P e = some z)
    (hT : Opds φ T ρ) (h : R P C φ M w) (he : evalOp C M T nid (.clear z y1) = some out) : Good P C φ M w nid (execOp ρ o) out := by
  simp only [evalOp] at he
  have hv1 := hT x1 y1 h1
  obtain ⟨i, v, hi, hv, hvz, hclean⟩ := zeroOf_inv hz
  split at he
  · rename_i a cp hd
    cases he
    refine good_pure h (v' := .tuple #[]) ?_ (.undef _)
    rw [builtin_op ho hc, args_one ha]
    rw [hd] at hv1
    cases a with
    | none => simp [builtin, Builtin.clear_, type_first hts, nilsl_inv hv1, run_underlying ht]
    | some a =>
      obtain ⟨a', c', q1, _, _⟩ := sl_inv hv1
      simp [builtin, Builtin.clear_, type_first hts, q1, run_underlying ht]
  · rename_i a m cp hne hd
    split at he
    case h_2 => cases he
    rename_i ob hst
    cases he
    rw [hd] at hv1
    have hm : m ≠ 0 := fun q => hne (by rw [q])
    obtain ⟨a', c', q1, _, q2⟩ := sl_inv hv1
    have ha' := q2.resolve_right (fun q => hm q.1)
    have hxr : VsRel φ (List.replicate m z).flatten (List.replicate m z).flatten := by
      refine zero_rel fun x hx => ?_
      obtain ⟨l, hl, hxl⟩ := List.mem_flatten.1 hx
      rw [(List.mem_replicate.1 hl).2] at hxl
      exact hclean x hxl
    obtain ⟨w', hrun, hR⟩ := storeN_rel h ha' hxr hst
    have hzc : (Builtin.zeroCells v.cells m).toList = (List.replicate m z).flatten := by
      have := reps v.cells m
      rw [hvz] at this
      simpa [Builtin.zeroCells] using this
    refine ⟨.tuple #[], w', φ, .inl ?_, Phi.le_refl φ, .undef _, hR⟩
    rw [builtin_op ho hc, args_one ha]
    obtain ⟨m', rfl⟩ : ∃ m', m = m' + 1 := ⟨m - 1, by omega⟩
    simp [builtin, Builtin.clear_, type_first hts, q1, run_underlying ht, run_zero hi hv, hzc, hrun]
  · cases he

theorem good_mkSlice {x3 : Operand} (ho : o.op = .makeSlice t x1 x2) (h1 : opd x1 = some y1) (h2 : opd x2 = some y2) (ht : P.underlying t = some (.slice e)) (hn : sizeT P e = some n) (hb : bytesT P e = some bytes) (hz : zeroOf P e = some z) (hzl : z.length = n)
    (hT : Opds φ T ρ) (h : R P C φ M w) (hnid : M nid = none) (he : evalOp C M T nid (.mkSlice bytes z y1 y2) = some out) : Good P C φ M w nid (execOp ρ o) out := by
  simp only [evalOp] at he
  have hv1 := hT x1 y1 h1
  have hv2 := hT x2 y2 h2
  split at he
  case h_2 => cases he
  rename_i k1 l k2 cp hq1 hq2
  split at he
  case isFalse => cases he
  rename_i hcond
  obtain ⟨hl0, hlc, hc1, hc2, hsc⟩ := hcond
  cases he
  rw [hq1] at hv1
  rw [hq2] at hv2
  obtain ⟨l, rfl⟩ := Int.eq_ofNat_of_zero_le hl0
  obtain ⟨cp, rfl⟩ := Int.eq_ofNat_of_zero_le (show 0 ≤ cp by omega)
  obtain ⟨i, v, hi, hv, hvz, hclean⟩ := zeroOf_inv hz
  have hib : i.bytes = bytes := by simp only [bytesT, hi, Option.map_some, Option.some.injEq] at hb; exact hb
  have hvs : v.cells.size = n := by rw [← hzl, ← hvz]; simp
  have w1 : IntKind.i64.wrap (l : Int) = l := wrap_small (by omega)
  have w2 : IntKind.i64.wrap (cp : Int) = cp := wrap_small (by omega)
  have hc2' : ¬ (281474976710656 < (bytes : Int) * (cp : Int)) := by omega
  have hlc' : ¬ ((cp : Int) < (l : Int)) := by omega
  have hlc2 : ¬ (cp < l) := by omega
  have n1 : ¬ ((l : Int) < 0) := by omega
  have n2 : ¬ ((cp : Int) < 0) := by omega
  simp only [Int.toNat_natCast] at *
  -- the zeros, as the model lays them
  obtain ⟨zz, hrun, hzz⟩ : ∃ zz : Array Value, ((if cp * n = 0 then pure #[] else (do pure (← zeroValue e).cells) : Sem (Array Value)).run P w = .ok zz w) ∧
      VsRel φ (List.replicate cp z).flatten ((Array.range (cp * n)).map (zz[· % zz.size]!)).toList := by
    by_cases h0 : cp * n = 0
    · refine ⟨#[], by rw [if_pos h0]; rfl, ?_⟩
      have : (List.replicate cp z).flatten = [] := by
        rcases Nat.mul_eq_zero.1 h0 with hl | hl
        · simp [hl]
        · have hz0 : z = [] := List.eq_nil_of_length_eq_zero (by omega)
          simp [hz0]
      rw [this, h0]
      simp
      exact .nil
    · refine ⟨v.cells, by rw [if_neg h0]; simp [run_zero hi hv], ?_⟩
      have := reps v.cells cp
      rw [hvs] at this ⊢
      rw [this, hvz]
      refine zero_rel fun x hx => ?_
      obtain ⟨l, hl, hxl⟩ := List.mem_flatten.1 hx
      rw [(List.mem_replicate.1 hl).2] at hxl
      exact hclean x hxl
  obtain ⟨hle, hR⟩ := h.new_cells hnid (List.replicate cp z).flatten ((Array.range (cp * n)).map (zz[· % zz.size]!)) e 0 (fun j x hx => by
    obtain ⟨x', p, q⟩ := hzz.get hx
    exact ⟨x', by rwa [← Array.getElem?_toList], q⟩)
  refine ⟨.slice (some ⟨w.heap.size, 0, none⟩) l cp, _, _, .inl ?_, hle, .slice ⟨nid, 0, none⟩ ⟨w.heap.size, 0, _, 0⟩ _ _ _ (Phi.set_self φ nid 0 _) (.inl rfl), hR⟩
  by_cases h0 : cp * n = 0
  · simp [execOp, ho, Instr.makeSlice, run_underlying ht, int_inv hv1, int_inv hv2, asInt, asIntOf, typeInfo, hi, hib, w1, w2, hc2', hlc', n1, n2, run_sizeOf hn, h0, newRow, Array.range_zero']
  · rw [if_neg h0] at hrun
    simp [run_zero hi hv] at hrun
    subst hrun
    simp [execOp, ho, Instr.makeSlice, run_underlying ht, int_inv hv1, int_inv hv2, asInt, asIntOf, typeInfo, hi, hib, w1, w2, hc2', hlc', n1, n2, run_sizeOf hn, h0, newRow, run_zero hi hv]

theorem good_mkmap (ho : o.op = .makeMap t none) (h : R P C φ M w) (hnid : M nid = none) (he : evalOp C M T nid .mkmap = some out) : Good P C φ M w nid (execOp ρ o) out := by
  simp only [evalOp] at he
  cases he
  obtain ⟨hle, hR⟩ := h.new hnid (o' := .map []) (.map #[] 0) 0 0 (fun hle hs => ⟨_, #[], 0, Phi.set_self φ nid 0 _, hs, heap_alloc_self w _, rfl, fun i e he => by simp at he⟩)
  exact ⟨.map (some w.heap.size), _, _, .inl (by simp [execOp, ho, Instr.makeMap]), hle, .map nid ⟨w.heap.size, 0, 0, 0⟩ (Phi.set_self φ nid 0 _), hR⟩
end
end
end Go.Ai

namespace Go.Ai
section
variable {P : Program} {C : Ctx} {φ : Phi} {M : Nat → Option AObj} {w : World} {T : Nat → Value} {nid : Nat} {ρ : Operand → Value} {out : AOut} {o : Oper}

theorem find_rel {kt : IntKind} {k : IntKind} {n : Int} : ∀ (es : List (Value × Value)) (es' : List MapEntry) (j : Nat) (res : Option (Nat × Value)), es'.length = es.length →
    (∀ (i : Nat) (e : Value × Value), es[i]? = some e → ∃ e', es'[i]? = some e' ∧ VRel φ e.1 e'.key ∧ VRel φ e.2 e'.val) → findA (.int k n) es j = some res →
    ∃ res', Instr.findNow (.int kt) (.int k n) es' j = some res' ∧
      match res, res' with
      | none, none => True
      | some (i, v), some (i', v') => i' = i ∧ VRel φ v v' ∧ j ≤ i ∧ ∃ e', es'[i - j]? = some e' ∧ e'.key = .int k n
      | _, _ => False
  | [], [], j, res, _, _, h => by
    simp [findA] at h
    subst h
    exact ⟨none, rfl, trivial⟩
  | [], _ :: _, _, _, hl, _, _ => by simp at hl
  | _ :: _, [], _, _, hl, _, _ => by simp at hl
  | e :: es, e' :: es', j, res, hl, hr, h => by
    obtain ⟨x, hx, hk, hv⟩ := hr 0 e rfl
    simp at hx
    subst hx
    simp only [findA] at h
    split at h
    · rename_i hkey
      cases h
      unfold keyEq at hkey
      split at hkey
      · rename_i k1 a k2 b h1 h2
        cases h1
        rw [h2] at hk
        have hk2 := int_inv hk
        split at hkey
        · rename_i hkk
          subst hkk
          have hab : n = b := by simpa using hkey
          subst hab
          refine ⟨some (j, e'.val), by simp [Instr.findNow, Instr.sameNow, hk2], rfl, hv, Nat.le_refl j, e', by simp, hk2⟩
        · cases hkey
      · cases hkey
    · rename_i hkey
      obtain ⟨res', hf, hm⟩ := find_rel (kt := kt) es es' (j + 1) res (by simpa using hl) (fun i e he => by simpa using hr (i + 1) e (by simpa using he)) h
      unfold keyEq at hkey
      split at hkey
      · rename_i k1 a k2 b h1 h2
        cases h1
        rw [h2] at hk
        have hk2 := int_inv hk
        split at hkey
        · rename_i hkk
          subst hkk
          have hab : (n == b) = false := by simpa using hkey
          refine ⟨res', by simp [Instr.findNow, Instr.sameNow, hk2, hab, hf], ?_⟩
          cases res with
          | none => cases res' <;> simp_all
          | some r =>
            cases res' with
            | none => simp_all
            | some r' =>
              obtain ⟨i, v⟩ := r
              obtain ⟨i', v'⟩ := r'
              obtain ⟨q1, q2, q3, e2, q4, q5⟩ := hm
              refine ⟨q1, q2, by omega, e2, ?_, q5⟩
              rw [show i - j = (i - (j + 1)) + 1 by omega]
              simpa using q4
        · cases hkey
      · cases hkey
    · cases h

theorem checkKey_int (b : Bool) (n : Nat) {t : TypeId} {kt : IntKind} (ht : P.underlying t = some (.int kt)) (k : IntKind) (i : Int) (w : World) : (Instr.checkKey b (n + 1) t (.int k i)).run P w = .ok () w := by
  simp [Instr.checkKey, run_underlying ht]

theorem isKey_inv {v : Value} (h : isKey v = true) : ∃ k n, v = .int k n := by cases v <;> simp [isKey] at h; exact ⟨_, _, rfl⟩

theorem run_setObj {r : Nat} {ob ob' : Obj} (hr : w.heap[r]? = some ob) (hc : ∀ a b c, ob ≠ .cells a b c) : (setObj r ob').run P w = .ok () { w with heap := w.heap.setIfInBounds r ob' } := by
  cases ob <;> simp_all [setObj, Sem.run]

theorem putObj_at {r : Nat} {ob ob' : Obj} (hr : w.heap[r]? = some ob) : (w.heap.setIfInBounds r ob')[r]? = some ob' := by
  have := (Array.getElem?_eq_some_iff.1 hr).1
  simp [this]

/-- An object that is no cells turns. -/
theorem R.putObj (h : R P C φ M w) {g : Nat} {l : Loc} {o0 o' : AObj} {ob ob' : Obj} (_hM : M g = some o0) (hl : φ g 0 = some l) (hob : w.heap[l.cb]? = some ob)
    (hk : ∀ k l', φ g k = some l' → l'.cb = l.cb) (ho : ORel P C φ { w with heap := w.heap.setIfInBounds l.cb ob' } g o') : R P C φ (Ai.upd M g o') { w with heap := w.heap.setIfInBounds l.cb ob' } := by
  refine h.upd (Phi.le_refl φ) (fun _ _ _ => rfl) rfl rfl rfl (by simp) ?_ (fun k l' hl' => .inl ⟨k, l', hl', rfl⟩) (fun k l' hl' => by simpa using h.bound _ _ _ hl') ho
  intro cb hcb hfar
  have : l.cb ≠ cb := hfar 0 l hl
  simp [this]

section
variable {t kt e : TypeId} {ik : IntKind} {m k x : Operand} {m' k' x' : IOpd}

theorem good_insert (ho : o.op = .insert t m k x ∨ o.op = .mapUpdate t m k x) (ht : P.underlying t = some (.map kt e)) (hkt : P.underlying kt = some (.int ik)) (h1 : opd m = some m') (h2 : opd k = some k') (h3 : opd x = some x')
    (hT : Opds φ T ρ) (h : R P C φ M w) (he : evalOp C M T nid (.insert m' k' x') = some out) : Good P C φ M w nid (execOp ρ o) out := by
  simp only [evalOp] at he
  have hv1 := hT m m' h1
  have hv2 := hT k k' h2
  have hv3 := hT x x' h3
  split at he
  case h_2 => cases he
  rename_i r hm
  split at he
  case h_2 => cases he
  rename_i es hM
  split at he
  case isFalse => cases he
  rename_i hkey
  obtain ⟨ki, n, hkv⟩ := isKey_inv hkey
  rw [hkv] at hv2 he
  rw [hm] at hv1
  have e2 := int_inv hv2
  obtain ⟨l, es', clk, q1, q0, q2, q3, q4⟩ := h.obj _ _ hM
  have e1 : ρ m = .map (some l.cb) := by
    generalize ρ m = v at hv1
    cases hv1 with
    | map _ l' hl => rw [hl] at q1; cases q1; rfl
  have hk : ∀ k l', φ r k = some l' → l'.cb = l.cb := fun k l' hl => by rw [q0 k l' hl]
  have hrun : ∀ (ob' : Obj), (Instr.mapUpdate t (ρ m) (ρ k) (ρ x)).run P w = .ok () { w with heap := w.heap.setIfInBounds l.cb ob' } → (execOp ρ o).run P w = .ok .skip { w with heap := w.heap.setIfInBounds l.cb ob' } := by
    intro ob' hr
    rcases ho with ho | ho <;> simp [execOp, ho, hr]
  have hget : (getObj l.cb).run P w = .ok (.map es' clk) w := by simp [getObj, Sem.run, q2]
  have hset : ∀ ob', (setObj l.cb ob').run P w = .ok () { w with heap := w.heap.setIfInBounds l.cb ob' } := fun ob' => run_setObj q2 (fun a b c => by simp)
  have hck : ∀ b, (Instr.checkKey b 10000 kt (.int ki n)).run P w = .ok () w := fun b => checkKey_int b 9999 hkt ki n w
  split at he
  · rename_i i v hf
    cases he
    obtain ⟨res', hf', hmm⟩ := find_rel (kt := ik) es es'.toList 0 _ (by simpa using q3) (fun i e he => by simpa using q4 i e he) hf
    cases res' with
    | none => simp at hmm
    | some rr =>
      obtain ⟨i', v'⟩ := rr
      obtain ⟨rfl, _, _, e', z1, z2⟩ := hmm
      simp at z1
      refine ⟨undef, _, φ, .inr ⟨hrun (.map (es'.modify i' fun e => { e with key := .int ki n, val := ρ x }) clk) ?_, rfl⟩, Phi.le_refl φ, .undef _, h.putObj hM q1 q2 hk ⟨l, _, clk, q1, q0, putObj_at q2, by simpa using q3, fun j ej hj => ?_⟩⟩
      · have hst : (Instr.keyThatStays (.int ki n) (.int ki n)).run P w = .ok (.int ki n) w := by simp [Instr.keyThatStays, Instr.sameBits]
        simp [Instr.mapUpdate, run_underlying ht, e1, e2, hget, hck, Instr.findKey, run_underlying hkt, hf', z1, z2, hst, hset]
      · rw [List.getElem?_set] at hj
        simp only [Array.getElem?_modify]
        split at hj
        · rename_i hij
          subst hij
          split at hj
          · cases hj
            rw [if_pos rfl, z1]
            exact ⟨_, rfl, .int _ _, hv3⟩
          · cases hj
        · rename_i hij
          rw [if_neg hij]
          exact q4 j ej hj
  · rename_i hf
    cases he
    obtain ⟨res', hf', hmm⟩ := find_rel (kt := ik) es es'.toList 0 _ (by simpa using q3) (fun i e he => by simpa using q4 i e he) hf
    cases res' with
    | some rr => simp at hmm
    | none =>
      refine ⟨undef, _, φ, .inr ⟨hrun (.map (es'.push { key := .int ki n, val := ρ x, born := clk }) (clk + 1)) ?_, rfl⟩, Phi.le_refl φ, .undef _, h.putObj hM q1 q2 hk ⟨l, _, clk + 1, q1, q0, putObj_at q2, by simp [q3], fun j ej hj => ?_⟩⟩
      · simp [Instr.mapUpdate, run_underlying ht, e1, e2, hget, hck, Instr.findKey, run_underlying hkt, hf', hset]
      · rw [Array.getElem?_push, q3]
        by_cases hjl : j < es.length
        · rw [List.getElem?_append_left hjl] at hj
          rw [if_neg (by omega)]
          exact q4 j ej hj
        · have hjj : j = es.length := by
            have := (List.getElem?_eq_some_iff.1 hj).1
            simp at this; omega
          subst hjj
          simp at hj
          subst hj
          rw [if_pos rfl]
          exact ⟨_, rfl, .int _ _, hv3⟩
  · cases he

theorem zeroVal_inv {t : TypeId} {z : Value} (h : zeroVal P t = some z) : (∀ w, (zeroValue t).run P w = .ok z w) ∧ clean 0 z = true := by
  unfold zeroVal at h
  split at h
  · rename_i i hi
    split at h
    · rename_i v hv
      split at h
      · rename_i hc
        cases h
        exact ⟨fun w => run_zero hi hv w, hc⟩
      · cases h
    · cases h
  · cases h

theorem good_lookup {z : Value} {ok : Bool} (ho : o.op = .lookup t m k ok) (ht : P.underlying t = some (.map kt e)) (hkt : P.underlying kt = some (.int ik)) (hz : zeroVal P e = some z) (h1 : opd m = some m') (h2 : opd k = some k')
    (hT : Opds φ T ρ) (h : R P C φ M w) (he : evalOp C M T nid (.lookup z ok m' k') = some out) : Good P C φ M w nid (execOp ρ o) out := by
  simp only [evalOp] at he
  have hv1 := hT m m' h1
  have hv2 := hT k k' h2
  split at he
  case h_2 => cases he
  rename_i r hm
  split at he
  case h_2 => cases he
  rename_i es hM
  split at he
  case isFalse => cases he
  rename_i hkey
  obtain ⟨ki, n, hkv⟩ := isKey_inv hkey
  rw [hkv] at hv2 he
  rw [hm] at hv1
  have e2 := int_inv hv2
  obtain ⟨l, es', clk, q1, q0, q2, q3, q4⟩ := h.obj _ _ hM
  have e1 : ρ m = .map (some l.cb) := by
    generalize ρ m = v at hv1
    cases hv1 with
    | map _ l' hl => rw [hl] at q1; cases q1; rfl
  have hget : (getObj l.cb).run P w = .ok (.map es' clk) w := by simp [getObj, Sem.run, q2]
  have hck : ∀ b, (Instr.checkKey b 10000 kt (.int ki n)).run P w = .ok () w := fun b => checkKey_int b 9999 hkt ki n w
  obtain ⟨hzr, hzc⟩ := zeroVal_inv hz
  split at he
  · rename_i i v hf
    cases he
    obtain ⟨res', hf', hmm⟩ := find_rel (kt := ik) es es'.toList 0 _ (by simpa using q3) (fun i e he => by simpa using q4 i e he) hf
    cases res' with
    | none => simp at hmm
    | some rr =>
      obtain ⟨i', v'⟩ := rr
      obtain ⟨rfl, hvv, _, e', z1, z2⟩ := hmm
      refine good_rd h (v' := if ok then .tuple #[v', .bool true] else v') ?_ ?_
      · simp [execOp, ho, Instr.lookup, run_underlying ht, e1, e2, hget, hck, Instr.findKey, run_underlying hkt, hf']
      · cases ok
        · simpa using hvv
        · simp only [if_true]
          exact .tup _ _ (by simp) (.cons _ _ _ _ hvv (.cons _ _ _ _ (.bool true) .nil))
  · rename_i hf
    cases he
    obtain ⟨res', hf', hmm⟩ := find_rel (kt := ik) es es'.toList 0 _ (by simpa using q3) (fun i e he => by simpa using q4 i e he) hf
    cases res' with
    | some rr => simp at hmm
    | none =>
      refine good_rd h (v' := if ok then .tuple #[z, .bool false] else z) ?_ ?_
      · simp [execOp, ho, Instr.lookup, run_underlying ht, e1, e2, hget, hck, Instr.findKey, run_underlying hkt, hf', hzr]
      · have hzz := clean_rel (old_zero φ) hzc
        cases ok
        · simpa using hzz
        · simp only [if_true]
          exact .tup _ _ (by simp) (.cons _ _ _ _ hzz (.cons _ _ _ _ (.bool false) .nil))
  · cases he
end
end
end Go.Ai

namespace Go.Ai

section
variable {P : Program} {C : Ctx} {φ : Phi} {M : Nat → Option AObj} {w : World} {T : Nat → Value} {nid : Nat} {ρ : Operand → Value} {out : AOut} {o : Oper}

theorem keyT_inv {t : TypeId} (h : keyT P t = true) : ∃ k, P.underlying t = some (.int k) := by
  unfold keyT at h
  split at h
  · rename_i k hk; exact ⟨k, hk⟩
  · cases h

theorem new_box {n : Nat} {x : IOpd} (he : evalOp C M T nid (.box n x) = some out) : out.new ≠ none := by
  simp only [evalOp] at he
  split at he
  · split at he
    · cases he; simp
    · cases he
  · cases he

theorem new_buildSlice {len : Nat} {z : List Value} {ps : List (Nat × Nat × IOpd)} (he : evalOp C M T nid (.buildSlice len z ps) = some out) : out.new ≠ none := by
  simp only [evalOp] at he
  split at he
  · split at he
    · cases he; simp
    · cases he
  · cases he

theorem new_mkSlice {m : Nat} {z : List Value} {a b : IOpd} (he : evalOp C M T nid (.mkSlice m z a b) = some out) : out.new ≠ none := by
  simp only [evalOp] at he
  split at he
  · split at he
    · cases he; simp
    · cases he
  · cases he

theorem builtin_sound {c : Call} {b : Builtin} {io : IOp} (ho : o.op = .call c) (hb : c.callee = .builtin b) (hc : compBuiltin P b c.argTypes c.args.toList = some io)
    (hT : Opds φ T ρ) (h : R P C φ M w) (hn : out.new ≠ none → M nid = none) (he : evalOp C M T nid io = some out) : Good P C φ M w nid (execOp ρ o) out := by
  unfold compBuiltin at hc
  split at hc
  · rename_i t ts x hts ha
    split at hc
    · rename_i y ht hx; cases hc; exact good_lenStr ho hb hts ha hx ht hT h he
    · rename_i y ht hx; cases hc; exact good_len ho hb hts ha hx ht hT h he
    · rename_i n e y ht hx; cases hc; exact good_lenArr ho hb hts ha ht h he
    · rename_i k e y ht hx; cases hc; exact good_lenM ho hb hts ha hx ht hT h he
    · rename_i e y ht hx
      split at hc
      · rename_i n e' hta; cases hc; exact good_lenPtr ho hb hts ha ht hta h he
      · cases hc
    · cases hc
  · rename_i t ts x hts ha
    split at hc
    · rename_i e y ht hx; cases hc; exact good_cap ho hb hts ha hx ht hT h he
    · rename_i n e y ht hx; cases hc; exact good_capArr ho hb hts ha ht h he
    · cases hc
  · rename_i t u ts x y hts ha
    split at hc
    · rename_i e a b' ht hx hy
      split at hc
      · rename_i n m d hsz hby hu
        split at hc
        · rename_i hpos
          split at hc
          · rename_i z hz
            split at hc
            · rename_i hzl
              split at hc
              · cases hc; exact good_appendZ ho hb hts ha hx hy ht hu hsz hby hz hzl hpos hT h hn he
              · cases hc; exact good_append ho hb hts ha hx hy ht hu (.inl ⟨_, rfl⟩) hsz hby hz hzl hpos hT h hn he
              · cases hc; exact good_append ho hb hts ha hx hy ht hu (.inr rfl) hsz hby hz hzl hpos hT h hn he
              · cases hc
            · cases hc
          · cases hc
        · cases hc
      · cases hc
    · cases hc
  · rename_i t ts x y hts ha
    split at hc
    · rename_i e a b' ht hx hy
      split at hc
      · rename_i n hsz
        split at hc
        · cases hc; exact good_copy ho hb hts ha hx hy ht hsz hT h he
        · cases hc
      · cases hc
    · cases hc
  · rename_i t ts x hts ha
    split at hc
    · rename_i e a ht hx
      split at hc
      · rename_i z hz; cases hc; exact good_clear ho hb hts ha hx ht hz hT h he
      · cases hc
    · cases hc
  · rename_i x y ha
    split at hc
    · rename_i a b' hx hy; cases hc; exact good_minI ho hb ha hx hy hT h he
    · cases hc
  · rename_i x y ha
    split at hc
    · rename_i a b' hx hy; cases hc; exact good_maxI ho hb ha hx hy hT h he
    · cases hc
  · cases hc

theorem op_sound {io : IOp} (hc : compOp? P o.op = some io) (hcall : isCall io = false) (hT : Opds φ T ρ) (h : R P C φ M w) (hn : out.new ≠ none → M nid = none)
    (he : evalOp C M T nid io = some out) : Good P C φ M w nid (execOp ρ o) out := by
  unfold compOp? at hc
  split at hc
  · rename_i x ho
    obtain ⟨y, hx, rfl⟩ := Option.map_eq_some_iff.1 hc
    simp only [evalOp, Option.some.injEq] at he; subst he
    exact good_move (.inl ho) hx hT h
  · rename_i x ho
    obtain ⟨y, hx, rfl⟩ := Option.map_eq_some_iff.1 hc
    simp only [evalOp, Option.some.injEq] at he; subst he
    exact good_move (.inr ho) hx hT h
  · rename_i c a b ho
    split at hc
    · rename_i c' a' b' h1 h2 h3; cases hc; exact good_pick ho h1 h2 h3 hT h he
    · cases hc
  · rename_i e ho
    obtain ⟨z, hz, rfl⟩ := Option.map_eq_some_iff.1 hc
    exact good_mk ho hz h (hn (by simp only [evalOp] at he; cases he; simp)) he
  · rename_i e x ho
    split at hc
    · rename_i n y h1 h2; cases hc; exact good_box ho h2 hT h (hn (new_box he)) he
    · cases hc
  · rename_i t ps ho
    split at hc
    · rename_i z qs hz hp
      split at hc
      · rename_i hf; cases hc; exact good_build ho hz hp hf hT h he
      · cases hc
    · cases hc
  · rename_i t len ps ho
    split at hc
    · rename_i e ht
      split at hc
      · rename_i n z hsz hz
        split at hc
        · rename_i hs
          split at hc
          · rename_i qs hp; cases hc; exact good_buildSlice ho ht hsz hz hs.1 hs.2 hp hT h (hn (new_buildSlice he)) he
          · cases hc
        · cases hc
      · cases hc
    · cases hc
  · rename_i t x ho
    split at hc
    · rename_i n y h1 h2 h3; cases hc; exact good_loadN ho h1 h2 h3 hT h he
    · rename_i n y h1 h2 h3; cases hc; exact good_load1 ho h1 h3 hT h he
    · cases hc
  · rename_i t a x ho
    split at hc
    · rename_i n b y h1 h2 h3; cases hc; exact good_store ho h1 h2 h3 hT h he
    · cases hc
  · rename_i x ho
    obtain ⟨y, hx, rfl⟩ := Option.map_eq_some_iff.1 hc
    exact good_nilCheck ho hx hT h he
  · rename_i op t x y yt ho
    split at hc
    · rename_i k a b hk hx hy
      unfold bkOf at hk
      split at hk
      · cases hk; cases hc; exact good_num ho hx hy hT h he
      · rename_i ht; cases hk; cases hc; exact good_boo ho ht hx hy hT h he
      · cases hk; cases hc; exact good_str ho hx hy hT h he
      · rename_i ht; cases hk; cases hc; exact good_ref ho ht (by constructor) (by simp) hx hy hT h he
      · rename_i ht; cases hk; cases hc; exact good_ref ho ht (by constructor) (by simp) hx hy hT h he
      · rename_i ht; cases hk; cases hc; exact good_ref ho ht (by constructor) (by simp) hx hy hT h he
      · rename_i ht; cases hk; cases hc; exact good_ref ho ht (by constructor) (by simp) hx hy hT h he
      · rename_i ht
        cases hk
        simp only [if_true] at hc
        split at hc
        · rename_i hcc; cases hc; exact good_ref ho ht (by constructor) (fun _ => by simpa using hcc) hx hy hT h he
        · cases hc
      · cases hk
    · cases hc
  · rename_i t x ho
    obtain ⟨y, hx, rfl⟩ := Option.map_eq_some_iff.1 hc
    exact good_not ho hx hT h he
  · rename_i t x ho
    obtain ⟨y, hx, rfl⟩ := Option.map_eq_some_iff.1 hc
    exact good_neg ho hx hT h he
  · rename_i s d x ho
    split at hc
    · rename_i ks k y h1 h2 h3; cases hc; exact good_conv ho h1 h2 h3 hT h he
    · rename_i e y h1 h2 h3
      split at hc
      · rename_i hu; cases hc; exact good_toStr ho h1 h2 hu h3 hT h he
      · cases hc
    · cases hc
  · rename_i s x f ho
    split at hc
    · rename_i fs y h1 h2
      split at hc
      · rename_i g hg
        split at hc
        · rename_i n hsz
          split at hc
          · cases hc
          · rename_i h0; cases hc; exact good_faddr ho h1 hg hsz h0 h2 hT h he
        · cases hc
      · cases hc
    · cases hc
  · rename_i s x f ho
    split at hc
    · rename_i fs y h1 h2
      split at hc
      · rename_i g hg
        split at hc
        · rename_i n b hsz hb; cases hc; exact good_field ho h1 hg hsz hb h2 hT h he
        · cases hc
      · cases hc
    · cases hc
  · rename_i t x i ho
    split at hc
    · rename_i e y j h1 h2 h3
      obtain ⟨n, hsz, rfl⟩ := Option.map_eq_some_iff.1 hc
      exact good_idxS ho h1 hsz h2 h3 hT h he
    · rename_i len e y j h1 h2 h3
      obtain ⟨n, hsz, rfl⟩ := Option.map_eq_some_iff.1 hc
      exact good_idxA ho h1 hsz h2 h3 hT h he
    · cases hc
  · rename_i t x i ho
    split at hc
    · rename_i len e y j h1 h2 h3
      split at hc
      · rename_i n b hsz hb; cases hc; exact good_idxV ho h1 hsz hb h2 h3 hT h he
      · cases hc
    · rename_i y j h1 h2 h3; cases hc; exact good_idxStr ho h1 h2 h3 hT h he
    · cases hc
  · rename_i t x lo hi mx ho
    split at hc
    · rename_i e y l hh m h1 h2 h3 h4 h5
      split at hc
      · cases hc
      · rename_i hm
        obtain ⟨n, hsz, rfl⟩ := Option.map_eq_some_iff.1 hc
        exact good_sliceS ho h1 hsz h2 h3 h4 h5 (by simpa using hm) hT h he
    · rename_i k e y l hh m h1 h2 h3 h4 h5
      split at hc
      · cases hc
      · rename_i hm
        obtain ⟨n, hsz, rfl⟩ := Option.map_eq_some_iff.1 hc
        exact good_sliceA ho h1 hsz h2 h3 h4 h5 (by simpa using hm) hT h he
    · rename_i y l hh m h1 h2 h3 h4 h5
      split at hc
      · cases hc
      · rename_i hm
        cases hc
        have : mx = none := by cases mx <;> simp_all
        subst this
        exact good_sliceStr ho h1 h2 h3 h4 hT h he
    · cases hc
  · rename_i x k ho
    obtain ⟨y, hx, rfl⟩ := Option.map_eq_some_iff.1 hc
    exact good_extract ho hx hT h he
  · rename_i fn first captured ho
    split at hc
    · rename_i f a b h1 h2; cases hc; exact good_mkfn ho h1 h2 hT h he
    · cases hc
  · rename_i t ho
    cases hc
    exact good_mkmap ho h (hn (by simp only [evalOp] at he; cases he; simp)) he
  · rename_i t m k x ho
    split at hc
    · rename_i kt e a b c h1 h2 h3 h4
      split at hc
      · rename_i hk; obtain ⟨ik, hik⟩ := keyT_inv hk; cases hc; exact good_insert (.inl ho) h1 hik h2 h3 h4 hT h he
      · cases hc
    · cases hc
  · rename_i t m k x ho
    split at hc
    · rename_i kt e a b c h1 h2 h3 h4
      split at hc
      · rename_i hk; obtain ⟨ik, hik⟩ := keyT_inv hk; cases hc; exact good_insert (.inr ho) h1 hik h2 h3 h4 hT h he
      · cases hc
    · cases hc
  · rename_i t m k ok ho
    split at hc
    · rename_i kt e a b h1 h2 h3
      split at hc
      · rename_i z hz
        split at hc
        · rename_i hk; obtain ⟨ik, hik⟩ := keyT_inv hk; cases hc; exact good_lookup ho h1 hik hz h2 h3 hT h he
        · cases hc
      · cases hc
    · cases hc
  · rename_i t n c ho
    split at hc
    · rename_i e a b h1 h2 h3
      split at hc
      · rename_i m z k h4 h5 h6
        split at hc
        · rename_i hz; cases hc; exact good_mkSlice (x3 := n) ho h2 h3 h1 h6 h4 h5 hz hT h (hn (new_mkSlice he)) he
        · cases hc
      · cases hc
    · cases hc
  · rename_i c ho
    split at hc
    · rename_i b hb
      exact builtin_sound ho hb hc hT h hn he
    · rename_i f hf
      split at hc
      · cases hc; cases hcall
      · cases hc
    · cases hc
  · cases hc
end
end Go.Ai
