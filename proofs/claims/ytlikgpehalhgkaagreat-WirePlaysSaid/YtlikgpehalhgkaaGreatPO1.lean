/-
  Acts of an argument, in the evaluator's memory.
-/
import Derived.Test.YtlikgpehalhgkaaGreatPWE
import Derived.Test.YtlikgpehalhgkaaGreatPWO
namespace Go.Ai.Wire
open Go.Proofs Go.IntWalk

variable {H : Type} {enc : TypeId × Value → H} {P : Program} {w : World} {held : Bool}

/-- The cells of acts. -/
inductive AcC (C : Ctx) (H : AHeap) : List ActA → List Value → Prop
  | nil : AcC C H [] []
  | cons {a : ActA} {dv : Value} {l : List ActA} {cs : List Value} : Bs C H dv a.data → AcC C H l cs → AcC C H (a :: l) (.int .u8 a.kind :: .int .i64 a.who :: .int .i64 a.n :: .int .i64 a.pos :: .int .i64 a.xor :: dv :: cs)
def Acts (C : Ctx) (H : AHeap) (v : Value) (l : List ActA) : Prop := ∃ cs, AcC C H l cs ∧ Row C H v 6 l.length cs

theorem AcC.app {C : Ctx} {H : AHeap} {l m : List ActA} {cs ds : List Value} (h : AcC C H l cs) (k : AcC C H m ds) : AcC C H (l ++ m) (cs ++ ds) := by
  induction h with
  | nil => exact k
  | cons h1 _ ih => exact .cons h1 ih
theorem AcC.len {C : Ctx} {H : AHeap} {l : List ActA} {cs : List Value} (h : AcC C H l cs) : cs.length = l.length * 6 := by
  induction h with
  | nil => rfl
  | cons _ _ ih => simp only [List.length_cons, ih]; omega
theorem AcC.same {C : Ctx} {H H' : AHeap} (hs : Same H H') {l : List ActA} {cs : List Value} (h : AcC C H l cs) : AcC C H' l cs := by
  induction h with
  | nil => exact .nil
  | cons h1 _ ih => exact .cons (h1.same hs) ih
theorem Acts.same {C : Ctx} {H H' : AHeap} (hs : Same H H') {v : Value} {l : List ActA} (h : Acts C H v l) : Acts C H' v l :=
  let ⟨cs, h1, h2⟩ := h; ⟨cs, h1.same hs, h2.same hs⟩
theorem Acts.nil (C : Ctx) (H : AHeap) : Acts C H (.slice none 0 0) [] := ⟨[], .nil, ⟨rfl, none, 0, rfl, by simp, by simp⟩⟩
theorem Acts.val {C : Ctx} {H : AHeap} {v : Value} {l : List ActA} (h : Acts C H v l) : ∃ a c, v = .slice a l.length c := by
  obtain ⟨cs, _, _, a, c, h, _⟩ := h
  exact ⟨a, c, h⟩
theorem AcC.at {C : Ctx} {H : AHeap} {l : List ActA} {cs : List Value} (h : AcC C H l cs) : ∀ {i : Nat} (hi : i < l.length), ∃ da dc, (cs.drop (i * 6)).take 6 = actC l[i] (.slice da l[i].data.length dc) ∧ Bs C H (.slice da l[i].data.length dc) l[i].data := by
  induction h with
  | nil => intro i hi; simp at hi
  | @cons a dv l cs h1 _ ih =>
    intro i hi
    cases i with
    | zero =>
      obtain ⟨da, dc, rfl⟩ := h1.val
      exact ⟨da, dc, by simp [actC], by simpa using h1⟩
    | succ i =>
      obtain ⟨da, dc, e1, e2⟩ := ih (i := i) (by simpa using hi)
      exact ⟨da, dc, by rw [show (i + 1) * 6 = i * 6 + 1 + 1 + 1 + 1 + 1 + 1 by omega]; simpa using e1, by simpa using e2⟩
theorem Acts.at {C : Ctx} {H : AHeap} {a : Option Addr} {n c : Nat} {l : List ActA} (h : Acts C H (.slice a n c) l) {i : Nat} (hi : i < l.length) :
    ∃ b da dc, a = some b ∧ loadN C H.get (aadd b (i * 6)) 6 = some (actC l[i] (.slice da l[i].data.length dc)) ∧ Bs C H (.slice da l[i].data.length dc) l[i].data := by
  obtain ⟨cs, h1, _, a', c', he, h3, h4⟩ := h
  cases he
  obtain ⟨da, dc, e1, e2⟩ := h1.at hi
  cases a with
  | none => have := (h3 rfl).1; omega
  | some b =>
    have hl := loadN_sub (h4 b rfl (by omega)) (i := i * 6) (m := 6) (by omega)
    rw [e1] at hl
    exact ⟨b, da, dc, rfl, hl, e2⟩

/-- Types of acts. -/
structure ActT (P : Program) (t tk ti td u : TypeId) : Prop where
  he : ∃ fs f0 f1 f2 f3 f4 f5, P.underlying t = some (.struct fs) ∧ (fs[0]? = some f0 ∧ fs[1]? = some f1 ∧ fs[2]? = some f2 ∧ fs[3]? = some f3 ∧ fs[4]? = some f4 ∧ fs[5]? = some f5) ∧ (f0.offset = 0 ∧ f1.offset = 1 ∧ f2.offset = 2 ∧ f3.offset = 3 ∧ f4.offset = 4 ∧ f5.offset = 5) ∧
    f0.type = tk ∧ f1.type = ti ∧ f2.type = ti ∧ f3.type = ti ∧ f4.type = ti ∧ f5.type = td
  hk : P.underlying tk = some (.int .u8)
  hi : P.underlying ti = some (.int .i64)
  hd : P.underlying td = some (.slice u)
  hu : P.underlying u = some (.int .u8)
  ck : P.cellsOf tk = 1
  ci : P.cellsOf ti = 1
  cd : P.cellsOf td = 1
  cu : P.cellsOf u = 1
  hc : P.cellsOf t = 6

theorem open_act {C : Ctx} (hC : C.w0 = w) {t tk ti td u : TypeId} (hT : ActT P t tk ti td u) {fuel : Nat} {cs : List Value} {x : DataW H × List MemPlace} (h : DataW.trod enc P w 0 (fun _ => true) held fuel t cs = some x) :
    ∃ (a : ActA) (dv : Value), cs = [.int .u8 a.kind, .int .i64 a.who, .int .i64 a.n, .int .i64 a.pos, .int .i64 a.xor, dv] ∧ cleanS w.heap.size dv = true ∧ Bs C (rawHeap w) dv a.data := by
  obtain ⟨fs, f0, f1, f2, f3, f4, f5, h1, ⟨q0, q1, q2, q3, q4, q5⟩, ⟨o0, o1, o2, o3, o4, o5⟩, t0, t1, t2, t3, t4, t5⟩ := hT.he
  obtain ⟨xs, m, _, _, hl, hxl, hf⟩ := DataW.trod_struct h1 h
  rw [hT.hc] at hl
  obtain ⟨c0, c1, c2, c3, c4, c5, rfl⟩ : ∃ c0 c1 c2 c3 c4 c5, cs = [c0, c1, c2, c3, c4, c5] := by
    match cs, hl with
    | [x, y, z, u, v, w], _ => exact ⟨x, y, z, u, v, w, rfl⟩
  have g0 := hf 0 f0 q0
  have g1 := hf 1 f1 q1
  have g2 := hf 2 f2 q2
  have g3 := hf 3 f3 q3
  have g4 := hf 4 f4 q4
  have g5 := hf 5 f5 q5
  have i5 := (Array.getElem?_eq_some_iff.1 q5).1
  rw [o0, t0, hT.ck, List.getElem?_eq_getElem (by omega)] at g0
  rw [o1, t1, hT.ci, List.getElem?_eq_getElem (by omega)] at g1
  rw [o2, t2, hT.ci, List.getElem?_eq_getElem (by omega)] at g2
  rw [o3, t3, hT.ci, List.getElem?_eq_getElem (by omega)] at g3
  rw [o4, t4, hT.ci, List.getElem?_eq_getElem (by omega)] at g4
  rw [o5, t5, hT.cd, List.getElem?_eq_getElem (by omega)] at g5
  obtain ⟨n0, rfl⟩ := int_inv (c := c0) hT.hk g0
  obtain ⟨n1, rfl⟩ := int_inv (c := c1) hT.hi g1
  obtain ⟨n2, rfl⟩ := int_inv (c := c2) hT.hi g2
  obtain ⟨n3, rfl⟩ := int_inv (c := c3) hT.hi g3
  obtain ⟨n4, rfl⟩ := int_inv (c := c4) hT.hi g4
  obtain ⟨bs, k1, k2⟩ := open_bytesC (v := c5) hC hT.hd hT.hu hT.cu g5
  exact ⟨⟨n0, n1, n2, n3, n4, bs⟩, c5, rfl, k1, k2⟩

theorem open_acts {C : Ctx} (hC : C.w0 = w) {ts t tk ti td u : TypeId} (hS : P.underlying ts = some (.slice t)) (hT : ActT P t tk ti td u) {fuel : Nat} {v : Value} {x : DataW H × List MemPlace} (h : DataW.trod enc P w 0 (fun _ => true) held fuel ts [v] = some x) :
    ∃ l : List ActA, cleanS w.heap.size v = true ∧ Acts C (rawHeap w) v l := by
  rcases DataW.trod_slice hS h with ⟨hcs, _⟩ | ⟨a, len, cap, elems, rest, n, _, hcs, _, _, hl, _, hlen, hel, hsp, _⟩
  · simp at hcs
    subst hcs
    exact ⟨[], by simp [cleanS], Acts.nil _ _⟩
  · simp at hcs
    subst hcs
    by_cases h0 : cap = 0
    · subst h0
      have : len = 0 := by omega
      subst this
      exact ⟨[], by simp [cleanS], [], .nil, rfl, some a, 0, rfl, by simp, by simp⟩
    · rw [hT.hc] at hel hsp
      obtain ⟨hrl, hr⟩ := hsp rfl
      have each : ∀ i, i < cap → ∃ y, (w.cells? 0 (a.add (i * 6)) 6).bind (DataW.trod enc P w 0 (fun _ => true) held n t) = some y := by
        intro i hi
        by_cases hil : i < len
        · exact ⟨elems[i], by rw [hel i hil, List.getElem?_eq_getElem (by omega)]⟩
        · have := hr (i - len) (by omega)
          rw [show len + (i - len) = i by omega] at this
          exact ⟨rest[i - len], by rw [this, List.getElem?_eq_getElem (by omega)]⟩
      have six : ∀ i, i < cap → ∃ (y : ActA) (dv : Value), (∀ j (hj : j < 6), w.cell? (a.add (i * 6 + j)) = ([.int .u8 y.kind, .int .i64 y.who, .int .i64 y.n, .int .i64 y.pos, .int .i64 y.xor, dv] : List Value)[j]?) ∧ cleanS w.heap.size dv = true ∧ Bs C (rawHeap w) dv y.data := by
        intro i hi
        obtain ⟨y, hy⟩ := each i hi
        rw [Option.bind_eq_some_iff] at hy
        obtain ⟨cs, hcs, hy⟩ := hy
        obtain ⟨y, dv, rfl, k1, k2⟩ := open_act hC hT hy
        obtain ⟨_, _, h3⟩ := World.cells?_some hcs
        refine ⟨y, dv, fun j hj => ?_, k1, k2⟩
        have := h3 j (by omega)
        rw [add_add'] at this
        exact this
      obtain ⟨_, _, hc0, _⟩ := six 0 (by omega)
      have hc0 := hc0 0 (by omega)
      rw [show a.add (0 * 6 + 0) = a from by simp [Addr.add]] at hc0
      obtain ⟨cs, ty, fz, hh, hspot, _⟩ := cell_inv hc0
      obtain ⟨b, off, sp⟩ := a
      simp at hspot hh
      subst hspot
      have hblt := (Array.getElem?_eq_some_iff.1 hh).1
      have hat : ∀ i, i < cap → ∃ (y : ActA) (dv : Value), (∀ j (hj : j < 6), cs[off + (i * 6 + j)]? = ([.int .u8 y.kind, .int .i64 y.who, .int .i64 y.n, .int .i64 y.pos, .int .i64 y.xor, dv] : List Value)[j]?) ∧ cleanS w.heap.size dv = true ∧ Bs C (rawHeap w) dv y.data := by
        intro i hi
        obtain ⟨y, dv, k1, k2, k3⟩ := six i hi
        refine ⟨y, dv, fun j hj => ?_, k2, k3⟩
        have := k1 j hj
        rw [addr_add] at this
        simpa [World.cell?, hh] using this
      have hsz : off + cap * 6 ≤ cs.size := by
        obtain ⟨_, _, k2, _⟩ := hat (cap - 1) (by omega)
        have := (Array.getElem?_eq_some_iff.1 (k2 5 (by omega))).1
        omega
      have build : ∀ k, k ≤ len → ∃ (l : List ActA) (ds : List Value), l.length = k ∧ AcC C (rawHeap w) l ds ∧ ds = ((cs.toList.drop off).take (k * 6)).map (scrub w.heap.size) := by
        intro k
        induction k with
        | zero => intro _; exact ⟨[], [], rfl, .nil, by simp⟩
        | succ k ih =>
          intro hk
          obtain ⟨l, ds, k1, k2, k3⟩ := ih (by omega)
          obtain ⟨y, dv, j1, j3, j4⟩ := hat k (by omega)
          refine ⟨l ++ [y], ds ++ [.int .u8 y.kind, .int .i64 y.who, .int .i64 y.n, .int .i64 y.pos, .int .i64 y.xor, dv], by simp [k1], k2.app (.cons j4 .nil), ?_⟩
          have e0 : (cs.toList.drop off)[k * 6]? = some (.int .u8 y.kind) := by have := j1 0 (by omega); rw [List.getElem?_drop, Array.getElem?_toList]; simpa using this
          have e1 : (cs.toList.drop off)[k * 6 + 1]? = some (.int .i64 y.who) := by have := j1 1 (by omega); rw [List.getElem?_drop, Array.getElem?_toList]; simpa using this
          have e2 : (cs.toList.drop off)[k * 6 + 1 + 1]? = some (.int .i64 y.n) := by have := j1 2 (by omega); rw [List.getElem?_drop, Array.getElem?_toList]; simpa using this
          have e3 : (cs.toList.drop off)[k * 6 + 1 + 1 + 1]? = some (.int .i64 y.pos) := by have := j1 3 (by omega); rw [List.getElem?_drop, Array.getElem?_toList]; simpa using this
          have e4 : (cs.toList.drop off)[k * 6 + 1 + 1 + 1 + 1]? = some (.int .i64 y.xor) := by have := j1 4 (by omega); rw [List.getElem?_drop, Array.getElem?_toList]; simpa using this
          have e5 : (cs.toList.drop off)[k * 6 + 1 + 1 + 1 + 1 + 1]? = some dv := by have := j1 5 (by omega); rw [List.getElem?_drop, Array.getElem?_toList]; simpa using this
          rw [show (k + 1) * 6 = k * 6 + 1 + 1 + 1 + 1 + 1 + 1 from by omega, List.take_add_one, List.take_add_one, List.take_add_one, List.take_add_one, List.take_add_one, List.take_add_one, e0, e1, e2, e3, e4, e5, k3]
          simp [scrub_clean j3, scrub_clean (cleanS_int _ _ _)]
      obtain ⟨l, ds, k1, k2, k3⟩ := build len (Nat.le_refl _)
      subst k1
      refine ⟨l, by simp [cleanS, hblt], ds, k2, k2.len, some ⟨b, off, none⟩, cap, rfl, by simp, fun b' hb' _ => ?_⟩
      cases hb'
      rw [raw_load hC hh (by omega), k3]
end Go.Ai.Wire
