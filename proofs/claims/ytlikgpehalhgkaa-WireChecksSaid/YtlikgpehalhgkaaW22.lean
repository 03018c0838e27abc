/-
  Lines at work; copies of lines.
-/
import Derived.Test.YtlikgpehalhgkaaW21
namespace Go.Ai
theorem d_box {C : Ctx} {H : AHeap} {T : Env} {d : Option Nat} {K : Env → AHeap → Prop} {rd : List (Nat × IOper × List Nat)} {log : List Info} {i : Nat} {un : List Nat} {n : Nat} {x : IOpd} {cs : List Value} (hw : WF H) (hf : freeAll C log (.exp [] [H.next]) un = true) (hx : vcells (x.val T.val) = some cs) (hn : cs.length = n) (hs : cs.all scalar = true)
    (hk : ∀ p H', Made H H' p cs → wpD C rd (.exp [] [p] :: log) K (putDst T d (.pointer (some ⟨p, 0, none⟩))) H') : wpD C ((i, ⟨d, .box n x, none⟩, un) :: rd) log K T H := by
  rw [wpD_box]
  have : evalOp C H.get T.val H.next (.box n x) = some { v := .pointer (some ⟨H.next, 0, none⟩), new := some (.cells [⟨0, cs⟩]) } := by
    simp only [evalOp, hx]
    rw [if_pos ⟨hn, hs⟩]
  rw [this]
  simp only [bindO_some, opKD_eq, AOut.mods, List.nil_append]
  rw [hf]
  exact hk _ _ (Made.push hw 0 cs)
end Go.Ai
namespace Go.Ai.Wire
open Go.Proofs Go.IntWalk
attribute [local irreducible] Trie.put

/-- A line at work. -/
def LineP (C : Ctx) (H : AHeap) (lo hi q : Nat) (x : LineA) : Prop :=
  ∃ m1 m2 m3 qa qb fv, Obj1 H q [.pointer (some ⟨qa, 0, none⟩), .pointer (some ⟨qb, 0, none⟩), fv, .slice none 0 0, .slice none 0 0] ∧ lo ≤ m1 ∧ m1 ≤ m2 ∧ m2 ≤ m3 ∧ m3 ≤ q ∧ q < hi ∧ EndP C H lo m1 qa x.a ∧ EndP C H m1 m2 qb x.b ∧ ItsN C H m2 m3 fv x.fly

/-- What copies of lines want. -/
def LineS (x : LineA) : Prop := EndS x.a ∧ EndS x.b ∧ x.fly.length ≤ 1000 ∧ x.fly.all (short 500) = true

def OpenLineOut (C : Ctx) (H : AHeap) (x : LineA) (r : Value) (H' : AHeap) : Prop :=
  Same H H' ∧ ((LineOK x ∧ ∃ q, r = .tuple #[.pointer (some ⟨q, 0, none⟩), .int .i64 0] ∧ LineP C H' H.next H'.next q x) ∨ (¬ LineOK x ∧ r = .tuple #[.pointer none, .int .i64 4]))

theorem flights_iff (l : List Itm) : l.all flightB = true ↔ ∀ i, FlightAt l i := by
  rw [List.all_eq_true]
  constructor
  · intro h i hi
    have := h _ (List.getElem_mem hi)
    simp only [flightB, Bool.and_eq_true, decide_eq_true_eq] at this
    exact ⟨this.1, by omega, by omega⟩
  · intro h y hy
    obtain ⟨i, hi, rfl⟩ := List.getElem_of_mem hy
    have := h i hi
    simp only [flightB, Bool.and_eq_true, decide_eq_true_eq]
    exact ⟨this.1, by omega, by omega⟩

theorem openLine_spec (w : World) {H : AHeap} (hw : WF H) {x : LineA} {v : Value} (hx : LineR (ctxW w) H x v) (hsm : LineS x) : wpCall (ctxW w) (.func (.func 57) #[] #[]) [v] H (OpenLineOut (ctxW w) H x) := by
  obtain ⟨o0, e0, o1, e1, f, rfl, h1, h2, h3, h4, h5⟩ := hx
  obtain ⟨a1, c1, rfl⟩ := h1.val
  obtain ⟨a2, c2, rfl⟩ := h2.val
  obtain ⟨a3, c3, rfl⟩ := h3.val
  obtain ⟨a4, c4, rfl⟩ := h4.val
  obtain ⟨a5, c5, rfl⟩ := h5.val
  refine wpCall_fn rfl (get57 w) ?_
  simp [ir57]
  refine w_box (cs := lineCells x (.slice a1 x.a.opens.length c1) (.slice a2 x.a.early.length c2) (.slice a3 x.b.opens.length c3) (.slice a4 x.b.early.length c4) (.slice a5 x.fly.length c5)) hw (by simp [lineV, lineCells]) rfl (by simp [lineCells]) fun p H1 hp => ?_
  have ld1 := fun off n => Obj1.load (C := ctxW w) (off := off) (n := n) hp.obj
  by_cases h6 : x.fly.length ≤ 60
  · have e6 : ¬ (60 : Int) < x.fly.length := by omega
    simp [ld1, e6, lineCells, bounds, bnd]
    refine wpCall_mono (allEnds_spec w hp.same.wf' hp.obj (h1.same hp.same) (h2.same hp.same) (h3.same hp.same) (h4.same hp.same) hsm.1 hsm.2.1) ?_
    rintro _ H2 ⟨hs2, b, rfl, hb⟩
    have hs02 := hp.same.trans hs2
    have ld2 := fun off n => Obj1.load (C := ctxW w) (off := off) (n := n) (hp.obj.same hs2)
    cases b with
    | false =>
      simp
      exact ⟨hs02, .inr ⟨fun h => by simpa using hb.2 ⟨h.1, h.2.1⟩, rfl⟩⟩
    | true =>
      obtain ⟨hA, hB⟩ := hb.1 rfl
      simp [ld2, lineCells]
      refine wpCall_mono (allI_spec w (.inr rfl) hs02.wf' (h5.same hs02) (isFlight_spec w) (by omega)) ?_
      rintro _ H3 ⟨hs3, rfl⟩
      have hs03 := hs02.trans hs3
      have hp3 := (hp.obj.same hs2).same hs3
      have ld3 := fun off n => Obj1.load (C := ctxW w) (off := off) (n := n) hp3
      cases hF : x.fly.all flightB with
      | false =>
        simp
        exact ⟨hs03, .inr ⟨fun h => (by rw [(flights_iff _).2 h.2.2.2] at hF; cases hF), rfl⟩⟩
      | true =>
        simp [ld3, lineCells]
        refine wpCall_mono (newEnd_spec w hs03.wf' (x := x.a) ⟨_, _, rfl, h1.same hs03, h2.same hs03⟩ hsm.1) ?_
        rintro _ H4 ⟨hs4, qa, rfl, hqa⟩
        have hs04 := hs03.trans hs4
        have hp4 := hp3.same hs4
        have ld4 := fun off n => Obj1.load (C := ctxW w) (off := off) (n := n) hp4
        have f1 : free (ctxW w) (.call H3 H4) (.exp [p] []) = true := free_call_rd (eqbW w) hs4 (by simp; obtain ⟨e, h⟩ := hp3; rw [h]; simp)
        simp [ld4, f1, lineCells]
        refine wpCall_mono (newEnd_spec w hs04.wf' (x := x.b) ⟨_, _, rfl, h3.same hs04, h4.same hs04⟩ hsm.2.1) ?_
        rintro _ H5 ⟨hs5, qb, rfl, hqb⟩
        have hs05 := hs04.trans hs5
        have hp5 := hp4.same hs5
        have ld5 := fun off n => Obj1.load (C := ctxW w) (off := off) (n := n) hp5
        have f2 : free (ctxW w) (.call H4 H5) (.exp [p] []) = true := free_call_rd (eqbW w) hs5 (by simp; obtain ⟨e, h⟩ := hp4; rw [h]; simp)
        simp [ld5, f1, f2, lineCells]
        refine wpCall_mono (mapped_spec w (.inr rfl) hs05.wf' (h5.same hs05) (copyF_spec w (.inr rfl)) hsm.2.2.1 hsm.2.2.2) ?_
        rintro r6 H6 ⟨hs6, hn6⟩
        obtain ⟨a6, c6, rfl⟩ := hn6.val
        have hs06 := hs05.trans hs6
        simp
        refine d_box (cs := [.pointer (some ⟨qa, 0, none⟩), .pointer (some ⟨qb, 0, none⟩), .slice a6 x.fly.length c6, .slice none 0 0, .slice none 0 0]) hs06.wf' rfl (by simp) rfl (by simp) fun q H7 hq => ?_
        simp
        have n3 := hs03.grow.next
        have n4 := hs4.grow.next
        have n5 := hs5.grow.next
        have n6 := hs6.grow.next
        have n7 := hq.new
        have n8 := hq.next
        refine ⟨hs06.trans hq.same, .inl ⟨⟨hA, hB, h6, (flights_iff _).1 hF⟩, q, rfl, H4.next, H5.next, H6.next, qa, qb, _, hq.obj, by omega, by omega, by omega, by omega, by omega, ?_, ?_, ?_⟩⟩
        · exact (((hqa.same hs5).same hs6).same hq.same).mono (by omega) (Nat.le_refl _)
        · exact (hqb.same hs6).same hq.same
        · exact hn6.same hq.same
  · have e6 : (60 : Int) < x.fly.length := by omega
    simp [ld1, e6, lineCells]
    exact ⟨hp.same, .inr ⟨fun h => h6 h.2.2.1, rfl⟩⟩

theorem check_spec (w : World) {H : AHeap} (hw : WF H) {x : LineA} {v : Value} (hx : LineR (ctxW w) H x v) (hsm : LineS x) : wpCall (ctxW w) (.func (.func 24) #[] #[]) [v] H fun r H' => Same H H' ∧ ErrOut (LineOK x) r := by
  obtain ⟨o0, e0, o1, e1, f, rfl, h1, h2, h3, h4, h5⟩ := hx
  obtain ⟨a1, c1, rfl⟩ := h1.val
  obtain ⟨a2, c2, rfl⟩ := h2.val
  obtain ⟨a3, c3, rfl⟩ := h3.val
  obtain ⟨a4, c4, rfl⟩ := h4.val
  obtain ⟨a5, c5, rfl⟩ := h5.val
  refine wpCall_fn rfl (get24 w) ?_
  simp [ir24]
  refine w_box (cs := lineCells x (.slice a1 x.a.opens.length c1) (.slice a2 x.a.early.length c2) (.slice a3 x.b.opens.length c3) (.slice a4 x.b.early.length c4) (.slice a5 x.fly.length c5)) hw (by simp [lineV, lineCells]) rfl (by simp [lineCells]) fun p H1 hp => ?_
  have ld1 := fun off n => Obj1.load (C := ctxW w) (off := off) (n := n) hp.obj
  simp [ld1, lineCells]
  have hs := hp.same
  refine wpCall_mono (openLine_spec w hs.wf' (x := x) ⟨_, _, _, _, _, rfl, h1.same hs, h2.same hs, h3.same hs, h4.same hs, h5.same hs⟩ hsm) ?_
  rintro r H2 ⟨hs2, ⟨hok, q, rfl, _⟩ | ⟨hok, rfl⟩⟩
  · simp
    exact ⟨hs.trans hs2, .inl ⟨hok, rfl⟩⟩
  · simp
    exact ⟨hs.trans hs2, .inr ⟨hok, rfl⟩⟩

/-- A copy of a line. -/
def LineN (C : Ctx) (H : AHeap) (lo hi : Nat) (x : LineA) (v : Value) : Prop :=
  ∃ m1 m2 o0 e0 o1 e1 f, v = lineV x.a.last o0 x.a.got e0 x.b.last o1 x.b.got e1 f ∧ lo ≤ m1 ∧ m1 ≤ m2 ∧ m2 ≤ hi ∧ EndN C H lo m1 x.a (endV x.a.last o0 x.a.got e0) ∧ EndN C H m1 m2 x.b (endV x.b.last o1 x.b.got e1) ∧ ItsN C H m2 hi f x.fly

theorem EndN.parts {C : Ctx} {H : AHeap} {lo hi : Nat} {x : EndA} {l g : Int} {ov ev : Value} (h : EndN C H lo hi x (endV l ov g ev)) : Its C H ov x.opens ∧ Its C H ev x.early := by
  obtain ⟨mid, ov', ev', h1, _, _, h4, h5⟩ := h
  simp only [endV, Value.agg.injEq, Array.mk.injEq, List.cons.injEq] at h1
  obtain ⟨_, rfl, _, rfl, _⟩ := h1
  exact ⟨h4.its, h5.its⟩

theorem LineN.r {C : Ctx} {H : AHeap} {lo hi : Nat} {x : LineA} {v : Value} (h : LineN C H lo hi x v) : LineR C H x v := by
  obtain ⟨m1, m2, o0, e0, o1, e1, f, k0, k1, k2, k3, k4, k5, k6⟩ := h
  exact ⟨o0, e0, o1, e1, f, k0, k4.parts.1, k4.parts.2, k5.parts.1, k5.parts.2, k6.its⟩

theorem copyLine_spec (w : World) {H : AHeap} (hw : WF H) {x : LineA} {v : Value} (hx : LineR (ctxW w) H x v) (hsm : LineS x) : wpCall (ctxW w) (.func (.func 25) #[] #[]) [v] H fun r H' => Same H H' ∧ LineN (ctxW w) H' H.next H'.next x r := by
  obtain ⟨o0, e0, o1, e1, f, rfl, h1, h2, h3, h4, h5⟩ := hx
  obtain ⟨a1, c1, rfl⟩ := h1.val
  obtain ⟨a2, c2, rfl⟩ := h2.val
  obtain ⟨a3, c3, rfl⟩ := h3.val
  obtain ⟨a4, c4, rfl⟩ := h4.val
  obtain ⟨a5, c5, rfl⟩ := h5.val
  refine wpCall_fn rfl (get25 w) ?_
  simp [ir25]
  refine w_box (cs := lineCells x (.slice a1 x.a.opens.length c1) (.slice a2 x.a.early.length c2) (.slice a3 x.b.opens.length c3) (.slice a4 x.b.early.length c4) (.slice a5 x.fly.length c5)) hw (by simp [lineV, lineCells]) rfl (by simp [lineCells]) fun p H1 hp => ?_
  refine w_mk hp.same.wf' fun q H2 hq => ?_
  have hs02 := hp.same.trans hq.same
  have hp2 := hp.obj.same hq.same
  have ld2 := fun off n => Obj1.load (C := ctxW w) (off := off) (n := n) hp2
  simp [ld2, lineCells]
  refine wpCall_mono (copyEnd_spec w hs02.wf' (x := x.a) ⟨_, _, rfl, h1.same hs02, h2.same hs02⟩ hsm.1) ?_
  rintro r3 H3 ⟨hs3, hn3⟩
  have hs03 := hs02.trans hs3
  have hp3 := hp2.same hs3
  have ld3 := fun off n => Obj1.load (C := ctxW w) (off := off) (n := n) hp3
  have f1 : free (ctxW w) (.call H2 H3) (.exp [p] []) = true := free_call_rd (eqbW w) hs3 (by simp; obtain ⟨e, h⟩ := hp2; rw [h]; simp)
  simp [ld3, f1, lineCells]
  refine wpCall_mono (copyEnd_spec w hs03.wf' (x := x.b) ⟨_, _, rfl, h3.same hs03, h4.same hs03⟩ hsm.2.1) ?_
  rintro r4 H4 ⟨hs4, hn4⟩
  obtain ⟨mid3, b1, b2, rfl, k3, k4, i1, i2⟩ := id hn3
  obtain ⟨mid4, b3, b4, rfl, k5, k6, i3, i4⟩ := id hn4
  obtain ⟨a6, c6, rfl⟩ := i1.val
  obtain ⟨a7, c7, rfl⟩ := i2.val
  obtain ⟨a8, c8, rfl⟩ := i3.val
  obtain ⟨a9, c9, rfl⟩ := i4.val
  have hs04 := hs03.trans hs4
  simp [endV]
  have hp4 := hp3.same hs4
  have hq4 := (hq.obj.same hs3).same hs4
  have n1 := hp.next
  have n1' := hp.new
  have n2 := hq.new
  have n2' := hq.next
  have n3 := hs3.grow.next
  have n4 := hs4.grow.next
  have g1 : Nat.beq H4.next p = false := nbeq' (by omega)
  have g2 : free (ctxW w) (.call H3 H4) (.exp [] [H4.next]) = true := free_call_new (Nat.le_refl _)
  have g3 : free (ctxW w) (.call H2 H3) (.exp [] [H4.next]) = true := free_call_new (by omega)
  refine d_mk hs04.wf' (by simp [g1, g2, g3]) fun s5 H5 hs5 => ?_
  simp
  have n5 := hs5.new
  have n5' := hs5.next
  refine d_store (p := s5) (off := 0) (xs := [.int .i64 x.a.last, .slice a6 x.a.opens.length c6, .int .i64 x.a.got, .slice a7 x.a.early.length c7, .int .i64 x.b.last, .slice a8 x.b.opens.length c8, .int .i64 x.b.got, .slice a9 x.b.early.length c9, .slice none 0 0]) hs5.same.wf' rfl hs5.obj (by simp) (by simp) rfl (by simp) (by simp) (by simp) fun H6 hm6 hn6 ho6 => ?_
  simp
  have hs45 := hs5.same
  have hs06 : Same H H6 := (hs04.trans hs45).then_mod hm6 (by omega)
  have ea : EndN (ctxW w) H6 H2.next H3.next x.a (endV x.a.last (.slice a6 x.a.opens.length c6) x.a.got (.slice a7 x.a.early.length c7)) := ((hn3.same hs4).same hs45).mod hm6 (by omega)
  have eb : EndN (ctxW w) H6 H3.next H4.next x.b (endV x.b.last (.slice a8 x.b.opens.length c8) x.b.got (.slice a9 x.b.early.length c9)) := (hn4.same hs45).mod hm6 (by omega)
  have hp6 : Obj1 H6 p _ := (hp4.same hs45).mod hm6 (by omega)
  have hq6 : Obj1 H6 q _ := (hq4.same hs45).mod hm6 (by omega)
  refine wp_loop' (fun n s => ∃ (T : Env) (H7 : AHeap) (i : Nat) (vf : Value), s = ⟨T, H7, []⟩ ∧ n = x.fly.length - i ∧ i ≤ x.fly.length ∧ T.val 1 = .pointer (some ⟨p, 0, none⟩) ∧ T.val 2 = .pointer (some ⟨q, 0, none⟩) ∧ T.val 3 = .pointer (some ⟨s5, 0, none⟩) ∧ T.val 4 = .int .i64 i ∧ Same H H7 ∧ Mod s5 H6 H7 ∧
      Obj1 H7 s5 [.int .i64 x.a.last, .slice a6 x.a.opens.length c6, .int .i64 x.a.got, .slice a7 x.a.early.length c7, .int .i64 x.b.last, .slice a8 x.b.opens.length c8, .int .i64 x.b.got, .slice a9 x.b.early.length c9, vf] ∧ ItsN (ctxW w) H7 H6.next H7.next vf (x.fly.take i)) (n := x.fly.length)
    ⟨_, H6, 0, _, rfl, rfl, Nat.zero_le _, by simp, by simp, by simp, by simp, hs06, (Same.refl hs06.wf').mod, by simpa using ho6, by simpa using ItsN.nil _ _ _ _⟩ ?_
  rintro n s K ⟨T, H7, i, vf, rfl, rfl, hi, t1, t2, t3, t4, hs07, hm67, ho7, hn7⟩ hnext hexit
  have hw7 := hs07.wf'
  have hfl := hsm.2.2.1
  have n67 := hm67.grow.next
  have hp7 : Obj1 H7 p _ := hp6.mod hm67 (by omega)
  have hq7 : Obj1 H7 q _ := hq6.mod hm67 (by omega)
  have ldp := fun off n => Obj1.load (C := ctxW w) (off := off) (n := n) hp7
  have lds := fun off n => Obj1.load (C := ctxW w) (off := off) (n := n) ho7
  by_cases hlt : i < x.fly.length
  · obtain ⟨b, da, dc, rfl, l1, l2, l3, hd⟩ := (h5.same hs07).at hlt
    have e3 : (i : Int) < x.fly.length := by omega
    have hblt := load_lt hw7 l1
    simp at hblt
    obtain ⟨av, cv, rfl⟩ := hn7.val
    obtain ⟨g, cs, k1, k2, j3, j4⟩ := hn7
    have hdl : x.fly[i].2.length ≤ 500 := by
      have := (List.all_eq_true.1 hsm.2.2.2) x.fly[i] (List.getElem_mem hlt)
      simpa [short] using this
    simp [t1, t3, t4, ldp, lds, e3, l1, lineCells]
    have f1 : Nat.beq H7.next b.block = false := nbeq' (by omega)
    have f3 : Nat.beq H7.next p = false := nbeq' (by omega)
    have f4 : Nat.beq H7.next s5 = false := nbeq' (by omega)
    refine d_bs (esz := 1) (cs := []) hw7 (by simp [f1, f3, f4]) (by simp) (by simp) (by simp) fun q8 H8 hq8 hb8 => ?_
    have n8 := hq8.new
    have n8' := hq8.next
    have l2' := hq8.same.load l2
    have f2 : Nat.beq q8 b.block = false := nbeq' (by omega)
    have f5 : Nat.beq q8 p = false := nbeq' (by omega)
    have ldp8 := fun off n => Obj1.load (C := ctxW w) (off := off) (n := n) (hp7.same hq8.same)
    simp [t1, t4, ldp8, e3, l2', f2, f5, lineCells]
    refine d_app' (g := q8) (n := 0) (m := x.fly[i].2.length) (cs := []) (xs := x.fly[i].2.map u8v) hq8.same.wf' (by simpa using hb8) (by simp; exact hd.same hq8.same) (u8_scalar _) (by simp [roomy]; omega)
      (fun rd' md hmd => by
        have k1 := free_rd_mod (C := ctxW w) (ri := rd') (mi := md) (x := b.block) fun y hy => by rw [hmd y hy]; omega
        have k2 := free_rd_mod (C := ctxW w) (ri := rd') (mi := md) (x := p) fun y hy => by rw [hmd y hy]; omega
        have k3 := free_rd_mod (C := ctxW w) (ri := rd') (mi := md) (x := s5) fun y hy => by rw [hmd y hy]; omega
        simp [k1, k2, k3]) fun v9 H9 rd9 md9 hm9 hb9 hmd9 hrd9 => ?_
    have hs79 : Same H7 H9 := hq8.same.then_mod hm9 (by omega)
    have hb9r : Bs (ctxW w) H9 v9 x.fly[i].2 := by
      have := hb9.row (C := ctxW w)
      simpa [Bs] using this
    obtain ⟨a9', ea9, hblk9, -⟩ := hb9.load (C := ctxW w)
    subst ea9
    simp only [Nat.zero_add] at hb9r
    have n9 := hs79.grow.next
    have f6 : Nat.beq H9.next s5 = false := nbeq' (by omega)
    simp
    refine d_bs (esz := 2) (cs := [.int .i64 x.fly[i].1, .slice (some a9') x.fly[i].2.length x.fly[i].2.length]) hs79.wf' (by simp [f6]) (by simp) (by simp) (by simp) fun q10 H10 hq10 hb10 => ?_
    simp
    have hs710 := hs79.trans hq10.same
    refine d_appN (g := g) (n := (x.fly.take i).length) (m := 1) (cs := cs) (xs := [.int .i64 x.fly[i].1, .slice (some a9') x.fly[i].2.length x.fly[i].2.length]) hs710.wf' (by simpa using k1.same hs710) (by simpa using hb10.row) (by simp) (by simp) (by simp [roomy]; omega) (by simp) fun v11 H11 rd11 md11 g11 hg11 hb11 => ?_
    simp [t3]
    have hs711 : Same H H11 ∧ Mod s5 H6 H11 ∧ H10.next ≤ H11.next ∧ Obj1 H11 s5 [.int .i64 x.a.last, .slice a6 x.a.opens.length c6, .int .i64 x.a.got, .slice a7 x.a.early.length c7, .int .i64 x.b.last, .slice a8 x.b.opens.length c8, .int .i64 x.b.got, .slice a9 x.b.early.length c9, .slice av (x.fly.take i).length cv] := by
      rcases hg11 with ⟨_, _, h⟩ | ⟨h0, rfl, _, h⟩
      · exact ⟨(hs07.trans hs710).trans h, (hm67.trans (hs710.trans h).mod), h.grow.next, (ho7.same hs710).same h⟩
      · have hg := k2 fun he => h0 (by rw [he]; rfl)
        refine ⟨(hs07.trans hs710).then_mod h (by omega), ?_, h.grow.next, (ho7.same hs710).mod h (by omega)⟩
        refine ⟨hs06.wf', (hm67.grow.trans hs710.grow).trans h.grow, fun j hj hne => ?_⟩
        rw [h.same j (by have := hs710.grow.next; omega) (by omega), hs710.same j (by omega), hm67.same j hj hne]
    obtain ⟨hs011, hm611, n11, ho11⟩ := hs711
    obtain ⟨a11, e11, hblk11, -⟩ := hb11.load (C := ctxW w)
    have hits : ItsN (ctxW w) H11 H6.next H11.next v11 (x.fly.take i ++ [(x.fly[i].1, x.fly[i].2)]) := ItsN.snoc hw7 hs710 n67 k2 j3 j4 (Bs.same hq10.same hb9r) (fun b hb hn => by cases hb; rw [hblk9]; omega) hg11 hb11
    subst e11
    refine d_store (p := s5) (off := 8) (xs := [.slice (some a11) ((x.fly.take i).length + 1) ((x.fly.take i).length + 1)]) hs011.wf' rfl ho11 (by simp) (by simp) rfl (by simp) (by simp) (by simp) fun H12 hm12 hn12 ho12 => ?_
    simp [t1, t2, t3, t4]
    refine hnext (x.fly.length - (i + 1)) _ (by omega) ⟨_, H12, i + 1, _, rfl, rfl, by omega, by simp [t1], by simp [t2], by simp [t3], by simp; rw [i64_in _ (by omega)], hs011.then_mod hm12 (by omega), hm611.trans hm12, by simpa using ho12, ?_⟩
    have := (hits.mod hm12 (by omega)).mono (Nat.le_refl _) (by omega : H11.next ≤ H12.next)
    simp only [Nat.zero_add, List.length_take, Nat.min_eq_left hi] at this ⊢
    rw [List.take_succ_eq_append_getElem hlt]
    exact this
  · have : i = x.fly.length := by omega
    subst this
    rw [List.take_length] at hn7
    obtain ⟨av, cv, rfl⟩ := hn7.val
    simp [t1, t3, t4, ldp, lineCells]
    refine hexit _ _ (by simp) ?_
    simp [t2, t3, lds]
    refine w_store (p := q) (off := 0) (xs := [.int .i64 x.a.last, .slice a6 x.a.opens.length c6, .int .i64 x.a.got, .slice a7 x.a.early.length c7, .int .i64 x.b.last, .slice a8 x.b.opens.length c8, .int .i64 x.b.got, .slice a9 x.b.early.length c9, .slice av x.fly.length cv]) hw7 hq7 (by simp [t2]) (by simp) rfl (by simp) (by simp) (by simp) fun H8 hm8 hn8 ho8 => ?_
    have ld8 := fun off n => Obj1.load (C := ctxW w) (off := off) (n := n) ho8
    simp [t2, ld8]
    refine ⟨hs07.then_mod hm8 (by omega), H3.next, H4.next, _, _, _, _, _, rfl, by omega, by omega, by omega, ?_, ?_, ?_⟩
    · exact ((ea.mod hm67 (by omega)).mod hm8 (by omega)).mono (by omega) (Nat.le_refl _)
    · exact (eb.mod hm67 (by omega)).mod hm8 (by omega)
    · exact (hn7.mod hm8 (by omega)).mono (by omega) (by omega)
end Go.Ai.Wire
