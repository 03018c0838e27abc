/-
  Ends and lines of an argument, in the evaluator's memory.
-/
import Derived.Test.YtlikgpehalhgkaaGreatPWD
import Derived.Test.YtlikgpehalhgkaaGreatPWB
namespace Go.Ai.Wire
open Go.Proofs Go.IntWalk

variable {H : Type} {enc : TypeId × Value → H} {P : Program} {w : World} {held : Bool}

theorem open_bytesC {C : Ctx} (hC : C.w0 = w) {t e : TypeId} {fuel : Nat} {v : Value} {x : DataW H × List MemPlace} (ht : P.underlying t = some (.slice e)) (he : P.underlying e = some (.int .u8)) (hc : P.cellsOf e = 1)
    (h : DataW.trod enc P w 0 (fun _ => true) held fuel t [v] = some x) : ∃ bs : List UInt8, cleanS w.heap.size v = true ∧ Bs C (rawHeap w) v bs := by
  rcases Go.ChangeShapes.open_ints ht he hc h with ⟨hcs, _⟩ | ⟨a, len, cap, zs, hcs, _, hl, _, hz, _, hcell, hwf⟩
  · simp at hcs
    subst hcs
    exact ⟨[], by simp [cleanS], Bs.nil _ _⟩
  · simp at hcs
    subst hcs
    simp at hz
    by_cases h0 : cap = 0
    · subst h0
      have : len = 0 := by omega
      subst this
      exact ⟨[], by simp [cleanS], rfl, some a, 0, rfl, by simp, by simp⟩
    · have hc0 := hcell 0 (by omega)
      rw [show a.add 0 = a from by simp [Addr.add]] at hc0
      obtain ⟨cs, ty, fz, hh, hsp, _⟩ := cell_inv hc0
      obtain ⟨b, off, sp⟩ := a
      simp at hsp hh
      subst hsp
      have hblt := (Array.getElem?_eq_some_iff.1 hh).1
      have hat : ∀ i, i < cap → cs[off + i]? = some (.int .u8 (zs.getD i 0)) := by
        intro i hi
        have := hcell i (by omega)
        rw [addr_add] at this
        simpa [World.cell?, hh] using this
      have hsz : off + cap ≤ cs.size := by
        have := hat (cap - 1) (by omega)
        have := (Array.getElem?_eq_some_iff.1 this).1
        omega
      let bs : List UInt8 := (zs.take len).map fun z => UInt8.ofNat z.toNat
      have hbl : bs.length = len := by simp [bs]; omega
      refine ⟨bs, by simp [cleanS, hblt], by simp, some ⟨b, off, none⟩, cap, by rw [hbl], by simp, fun b' hb' _ => ?_⟩
      cases hb'
      rw [hbl, Nat.mul_one, raw_load hC hh (by omega)]
      congr 1
      apply List.ext_getElem?
      intro i
      simp only [List.getElem?_map, List.getElem?_take, List.getElem?_drop]
      by_cases hi : i < len
      · rw [if_pos hi, Array.getElem?_toList, hat i (by omega)]
        have hz1 : i < zs.length := by omega
        have hw1 := hwf zs[i] (List.getElem_mem hz1)
        simp [bs, hi, hz1, scrub, cleanS, u8v]
        have hw2 : IntKind.u8.min ≤ zs[i] ∧ zs[i] ≤ IntKind.u8.max := by simpa [Lit.wf] using hw1
        have : 0 ≤ zs[i] ∧ zs[i] ≤ 255 := hw2
        omega
      · rw [if_neg hi]
        simp [bs, List.getElem?_take, hi]

theorem scrub_clean {n : Nat} {v : Value} (h : cleanS n v = true) : scrub n v = v := by
  unfold scrub
  rw [if_pos h]
theorem cleanS_int (n : Nat) (k : IntKind) (z : Int) : cleanS n (.int k z) = true := rfl

theorem add_add' (a : Addr) (m n : Nat) : (a.add m).add n = a.add (m + n) := by
  unfold Addr.add
  by_cases hm : m = 0 <;> by_cases hn : n = 0 <;> simp [hm, hn, Nat.add_assoc]

/-- Types of frames with their numbers. -/
structure ItT (P : Program) (t e : TypeId) : Prop where
  ht : P.underlying t = some (.slice e)
  he : ∃ fs f0 f1, P.underlying e = some (.struct fs) ∧ fs[0]? = some f0 ∧ fs[1]? = some f1 ∧ f0.offset = 0 ∧ f1.offset = 1 ∧ P.underlying f0.type = some (.int .i64) ∧ P.cellsOf f0.type = 1 ∧ P.cellsOf f1.type = 1 ∧ ∃ u, P.underlying f1.type = some (.slice u) ∧ P.underlying u = some (.int .u8) ∧ P.cellsOf u = 1
  hc : P.cellsOf e = 2

theorem int_inv {t : TypeId} {k : IntKind} {fuel : Nat} {c : Value} {x : DataW H × List MemPlace} {base : Nat} {spare : Nat → Bool} (ht : P.underlying t = some (.int k))
    (h : DataW.trod enc P w base spare held fuel t [c] = some x) : ∃ n, c = .int k n := by
  obtain ⟨n, e, _⟩ := DataW.trod_int ht h
  cases e
  exact ⟨n, rfl⟩

theorem open_item {C : Ctx} (hC : C.w0 = w) {t e : TypeId} (hT : ItT P t e) {fuel : Nat} {cs : List Value} {x : DataW H × List MemPlace} (h : DataW.trod enc P w 0 (fun _ => true) held fuel e cs = some x) :
    ∃ n v bs, cs = [.int .i64 n, v] ∧ cleanS w.heap.size v = true ∧ Bs C (rawHeap w) v bs := by
  obtain ⟨fs, f0, f1, h1, h2, h3, h4, h5, h6, h7, h8, u, h9, h10, h11⟩ := hT.he
  obtain ⟨xs, m, _, _, hl, hxl, hf⟩ := DataW.trod_struct h1 h
  rw [hT.hc] at hl
  obtain ⟨c0, c1, rfl⟩ : ∃ c0 c1, cs = [c0, c1] := by
    match cs, hl with
    | [x, y], _ => exact ⟨x, y, rfl⟩
  have g0 := hf 0 f0 h2
  have g1 := hf 1 f1 h3
  have i0 := (Array.getElem?_eq_some_iff.1 h2).1
  have i1 := (Array.getElem?_eq_some_iff.1 h3).1
  rw [h4, h7, List.getElem?_eq_getElem (by omega)] at g0
  rw [h5, h8, List.getElem?_eq_getElem (by omega)] at g1
  obtain ⟨n, rfl⟩ := int_inv (c := c0) h6 g0
  obtain ⟨bs, k1, k2⟩ := open_bytesC (v := c1) hC h9 h10 h11 g1
  exact ⟨n, c1, bs, rfl, k1, k2⟩

theorem open_items {C : Ctx} (hC : C.w0 = w) {t e : TypeId} (hT : ItT P t e) {fuel : Nat} {v : Value} {x : DataW H × List MemPlace} (h : DataW.trod enc P w 0 (fun _ => true) held fuel t [v] = some x) :
    ∃ l : List Itm, cleanS w.heap.size v = true ∧ Its C (rawHeap w) v l := by
  rcases DataW.trod_slice hT.ht h with ⟨hcs, _⟩ | ⟨a, len, cap, elems, rest, n, _, hcs, _, _, hl, _, hlen, hel, hsp, _⟩
  · simp at hcs
    subst hcs
    exact ⟨[], by simp [cleanS], Its.nil _ _⟩
  · simp at hcs
    subst hcs
    by_cases h0 : cap = 0
    · subst h0
      have : len = 0 := by omega
      subst this
      exact ⟨[], by simp [cleanS], [], .nil, rfl, some a, 0, rfl, by simp, by simp⟩
    · rw [hT.hc] at hel hsp
      obtain ⟨hrl, hr⟩ := hsp rfl
      have each : ∀ i, i < cap → ∃ y, (w.cells? 0 (a.add (i * 2)) 2).bind (DataW.trod enc P w 0 (fun _ => true) held n e) = some y := by
        intro i hi
        by_cases hil : i < len
        · exact ⟨elems[i], by rw [hel i hil, List.getElem?_eq_getElem (by omega)]⟩
        · have := hr (i - len) (by omega)
          rw [show len + (i - len) = i by omega] at this
          exact ⟨rest[i - len], by rw [this, List.getElem?_eq_getElem (by omega)]⟩
      have two : ∀ i, i < cap → ∃ n v bs, w.cell? (a.add (i * 2)) = some (.int .i64 n) ∧ w.cell? (a.add (i * 2 + 1)) = some v ∧ cleanS w.heap.size v = true ∧ Bs C (rawHeap w) v bs := by
        intro i hi
        obtain ⟨y, hy⟩ := each i hi
        rw [Option.bind_eq_some_iff] at hy
        obtain ⟨cs, hcs, hy⟩ := hy
        obtain ⟨m, v, bs, rfl, k1, k2⟩ := open_item hC hT hy
        obtain ⟨_, _, h3⟩ := World.cells?_some hcs
        have c0 := h3 0 (by omega)
        have c1 := h3 1 (by omega)
        rw [add_add'] at c0 c1
        exact ⟨m, v, bs, by simpa using c0, by simpa using c1, k1, k2⟩
      obtain ⟨_, _, _, hc0, _⟩ := two 0 (by omega)
      rw [show a.add (0 * 2) = a from by simp [Addr.add]] at hc0
      obtain ⟨cs, ty, fz, hh, hspot, _⟩ := cell_inv hc0
      obtain ⟨b, off, sp⟩ := a
      simp at hspot hh
      subst hspot
      have hblt := (Array.getElem?_eq_some_iff.1 hh).1
      have hat : ∀ i, i < cap → ∃ n v bs, cs[off + i * 2]? = some (.int .i64 n) ∧ cs[off + (i * 2 + 1)]? = some v ∧ cleanS w.heap.size v = true ∧ Bs C (rawHeap w) v bs := by
        intro i hi
        obtain ⟨m, v, bs, k1, k2, k3, k4⟩ := two i hi
        rw [addr_add] at k1 k2
        exact ⟨m, v, bs, by simpa [World.cell?, hh] using k1, by simpa [World.cell?, hh] using k2, k3, k4⟩
      have hsz : off + cap * 2 ≤ cs.size := by
        obtain ⟨_, _, _, _, k2, _⟩ := hat (cap - 1) (by omega)
        have := (Array.getElem?_eq_some_iff.1 k2).1
        omega
      have build : ∀ k, k ≤ len → ∃ (l : List Itm) (ds : List Value), l.length = k ∧ ItC C (rawHeap w) l ds ∧ ds = ((cs.toList.drop off).take (k * 2)).map (scrub w.heap.size) := by
        intro k
        induction k with
        | zero => intro _; exact ⟨[], [], rfl, .nil, by simp⟩
        | succ k ih =>
          intro hk
          obtain ⟨l, ds, k1, k2, k3⟩ := ih (by omega)
          obtain ⟨m, v, bs, j1, j2, j3, j4⟩ := hat k (by omega)
          refine ⟨l ++ [(m, bs)], ds ++ [.int .i64 m, v], by simp [k1], k2.app (.cons j4 .nil), ?_⟩
          have e1 : (cs.toList.drop off)[k * 2]? = some (.int .i64 m) := by rw [List.getElem?_drop, Array.getElem?_toList, j1]
          have e2 : (cs.toList.drop off)[k * 2 + 1]? = some v := by rw [List.getElem?_drop, Array.getElem?_toList, j2]
          rw [show (k + 1) * 2 = k * 2 + 1 + 1 from by omega, List.take_add_one, List.take_add_one, e1, e2, k3]
          simp [scrub_clean j3, scrub_clean (cleanS_int _ .i64 m)]
      obtain ⟨l, ds, k1, k2, k3⟩ := build len (Nat.le_refl _)
      subst k1
      refine ⟨l, by simp [cleanS, hblt], ds, k2, k2.len, some ⟨b, off, none⟩, cap, rfl, by simp, fun b' hb' _ => ?_⟩
      cases hb'
      rw [raw_load hC hh (by omega), k3]

/-- Types of ends. -/
structure EndT (P : Program) (t ti ts te : TypeId) : Prop where
  he : ∃ fs f0 f1 f2 f3, P.underlying t = some (.struct fs) ∧ fs[0]? = some f0 ∧ fs[1]? = some f1 ∧ fs[2]? = some f2 ∧ fs[3]? = some f3 ∧ f0.offset = 0 ∧ f1.offset = 1 ∧ f2.offset = 2 ∧ f3.offset = 3 ∧ f0.type = ti ∧ f1.type = ts ∧ f2.type = ti ∧ f3.type = ts
  hi : P.underlying ti = some (.int .i64)
  hs : ItT P ts te
  ci : P.cellsOf ti = 1
  cs : P.cellsOf ts = 1
  hc : P.cellsOf t = 4

theorem open_end {C : Ctx} (hC : C.w0 = w) {t ti ts te : TypeId} (hT : EndT P t ti ts te) {fuel : Nat} {cs : List Value} {x : DataW H × List MemPlace} (h : DataW.trod enc P w 0 (fun _ => true) held fuel t cs = some x) :
    ∃ (y : EndA) (ov ev : Value), cs = [.int .i64 y.last, ov, .int .i64 y.got, ev] ∧ cleanS w.heap.size ov = true ∧ cleanS w.heap.size ev = true ∧ Its C (rawHeap w) ov y.opens ∧ Its C (rawHeap w) ev y.early := by
  obtain ⟨fs, f0, f1, f2, f3, h1, q0, q1, q2, q3, o0, o1, o2, o3, t0, t1, t2, t3⟩ := hT.he
  obtain ⟨xs, m, _, _, hl, hxl, hf⟩ := DataW.trod_struct h1 h
  rw [hT.hc] at hl
  obtain ⟨c0, c1, c2, c3, rfl⟩ : ∃ c0 c1 c2 c3, cs = [c0, c1, c2, c3] := by
    match cs, hl with
    | [x, y, z, u], _ => exact ⟨x, y, z, u, rfl⟩
  have g0 := hf 0 f0 q0
  have g1 := hf 1 f1 q1
  have g2 := hf 2 f2 q2
  have g3 := hf 3 f3 q3
  have i3 := (Array.getElem?_eq_some_iff.1 q3).1
  rw [o0, t0, hT.ci, List.getElem?_eq_getElem (by omega)] at g0
  rw [o1, t1, hT.cs, List.getElem?_eq_getElem (by omega)] at g1
  rw [o2, t2, hT.ci, List.getElem?_eq_getElem (by omega)] at g2
  rw [o3, t3, hT.cs, List.getElem?_eq_getElem (by omega)] at g3
  obtain ⟨n, rfl⟩ := int_inv (c := c0) hT.hi g0
  obtain ⟨g, rfl⟩ := int_inv (c := c2) hT.hi g2
  obtain ⟨l1, k1, k2⟩ := open_items (v := c1) hC hT.hs g1
  obtain ⟨l2, k3, k4⟩ := open_items (v := c3) hC hT.hs g3
  exact ⟨⟨n, l1, g, l2⟩, c1, c3, rfl, k1, k3, k2, k4⟩

/-- Types of lines. -/
structure LineT (P : Program) (t ta tn ti ts te tf tg : TypeId) : Prop where
  he : ∃ fs f0 f1, P.underlying t = some (.struct fs) ∧ fs[0]? = some f0 ∧ fs[1]? = some f1 ∧ f0.offset = 0 ∧ f1.offset = 8 ∧ f0.type = ta ∧ f1.type = tf
  ha : P.underlying ta = some (.array 2 tn)
  hn : EndT P tn ti ts te
  hf : ItT P tf tg
  ca : P.cellsOf ta = 8
  cf : P.cellsOf tf = 1
  hc : P.cellsOf t = 9

theorem open_line {C : Ctx} (hC : C.w0 = w) {t ta tn ti ts te tf tg : TypeId} (hT : LineT P t ta tn ti ts te tf tg) {fuel : Nat} {v : Array Value} {x : DataW H × List MemPlace} (h : DataW.trod enc P w 0 (fun _ => true) held fuel t v.toList = some x) :
    ∃ y : LineA, clean w.heap.size (.agg v) = true ∧ LineR C (rawHeap w) y (.agg v) := by
  obtain ⟨fs, f0, f1, h1, q0, q1, o0, o1, t0, t1⟩ := hT.he
  obtain ⟨xs, m, _, _, hl, hxl, hf⟩ := DataW.trod_struct h1 h
  rw [hT.hc] at hl
  obtain ⟨l⟩ := v
  obtain ⟨c0, c1, c2, c3, c4, c5, c6, c7, c8, rfl⟩ : ∃ c0 c1 c2 c3 c4 c5 c6 c7 c8, l = [c0, c1, c2, c3, c4, c5, c6, c7, c8] := by
    match l, hl with
    | [a, b, c, d, e, f, g, h, i], _ => exact ⟨a, b, c, d, e, f, g, h, i, rfl⟩
  have g0 := hf 0 f0 q0
  have g1 := hf 1 f1 q1
  have i1 := (Array.getElem?_eq_some_iff.1 q1).1
  rw [o0, t0, hT.ca, List.getElem?_eq_getElem (by omega)] at g0
  rw [o1, t1, hT.cf, List.getElem?_eq_getElem (by omega)] at g1
  have g0 : DataW.trod enc P w 0 (fun _ => true) held m ta [c0, c1, c2, c3, c4, c5, c6, c7] = some xs[0] := g0
  obtain ⟨l5, k1, k2⟩ := open_items (v := c8) hC hT.hf g1
  cases m with
  | zero => simp [DataW.trod] at g0
  | succ m =>
    rw [DataW.trod_step] at g0
    unfold DataW.trodStep at g0
    simp only [hT.ha, hT.hn.hc] at g0
    split at g0
    · simp only [Option.map_eq_some_iff] at g0
      obtain ⟨ys, h3, _⟩ := g0
      have e2 : List.range 2 = [0, 1] := rfl
      rw [e2] at h3
      simp only [List.mapM_cons, List.mapM_nil, bind, Option.bind_eq_some_iff, pure] at h3
      obtain ⟨y0, j0, _, ⟨y1, j1, _⟩, _⟩ := h3
      have j0 : DataW.trod enc P w 0 (fun _ => true) held m tn [c0, c1, c2, c3] = some y0 := j0
      have j1 : DataW.trod enc P w 0 (fun _ => true) held m tn [c4, c5, c6, c7] = some y1 := j1
      obtain ⟨a, oa, ea, ha, a1, a2, a3, a4⟩ := open_end hC hT.hn j0
      obtain ⟨b, ob, eb, hb, b1, b2, b3, b4⟩ := open_end hC hT.hn j1
      cases ha
      cases hb
      exact ⟨⟨a, b, l5⟩, by simp [clean, a1, a2, b1, b2, k1, cleanS_int], _, _, _, _, c8, rfl, a3, a4, b3, b4, k2⟩
    · cases g0
end Go.Ai.Wire
