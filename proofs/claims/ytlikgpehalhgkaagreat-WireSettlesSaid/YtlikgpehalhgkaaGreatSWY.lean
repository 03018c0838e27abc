/-
  'Turn'.
  The law of 'Turn': acts on a turned line.
  'turned'.
-/
import Derived.Test.YtlikgpehalhgkaaGreatSWP
import Derived.Test.YtlikgpehalhgkaaGreatSWIr6
import Derived.Test.YtlikgpehalhgkaaGreatSWU
namespace Go.Ai
section
variable {C : Ctx} {H : AHeap} {T : Env} {d : Option Nat} {K : Env → AHeap → Prop} {rd : List (Nat × IOper × List Nat)} {log : List Info} {ix : Nat} {un : List Nat}

theorem d_storeG {n i g m c esz : Nat} {a x : IOpd} {b : Addr} {cs xs : List Value} (hw : WF H) (hf : freeAll C log (.exp [g] [g]) un = true) (hb : BufG H (.slice (some b) m c) g esz m cs) (ha : a.val T.val = .pointer (some (aadd b i))) (hx : vcells (x.val T.val) = some xs) (hn : xs.length = n) (h0 : n ≠ 0)
    (hl : i + n ≤ m * esz) (hs : xs.all scalar = true) (hk : ∀ H', Mod g H H' → H'.next = H.next → BufG H' (.slice (some b) m c) g esz m (cs.take i ++ (xs ++ cs.drop (i + n))) → wpD C rd (.exp [g] [g] :: log) K (putDst T d undef) H') : wpD C ((ix, ⟨d, .store n a x, none⟩, un) :: rd) log K T H := by
  rw [wpD_store]
  subst hn
  obtain ⟨a', c', he, hnc, _⟩ := hb.load (C := C)
  cases he
  have hle : m * esz ≤ c * esz := Nat.mul_le_mul_right _ hnc
  obtain ⟨vs, vs', hg, hbl, hst, hafter⟩ := storeN_bufG (i := i) (xs := xs) hb h0 (by omega) hs
  have : evalOp C H.get T.val H.next (.store xs.length a x) = some { v := undef, put := some (g, .cells vs'), rd := [g] } := by
    simp only [evalOp, ha, hx, asCell_ptr]
    rw [if_pos trivial, hst]
    simp [Ai.aadd, hbl]
  rw [this]
  simp only [bindO_some, opKD_eq, AOut.mods, List.append_nil]
  rw [hf]
  obtain ⟨all, h1, h2, h3⟩ := hafter (H.put g (.cells vs')) m hnc (get_put_same _ (base_le_of hg (by simp)))
  rw [take_mid h2 hl (by omega)] at h3
  exact hk _ (Mod.put hw _ hg) rfl h3
end
end Go.Ai
namespace Go.Ai.Wire
open Go.Proofs Go.IntWalk
attribute [local irreducible] Trie.put

def flipI (f : Itm) : Itm := (1 - f.1, f.2)
/-- A line the other way round. -/
def turnL (x : LineA) : LineA := ⟨x.b, x.a, x.fly.map flipI⟩

theorem FlC.set {H : AHeap} {l : List Itm} {cs : List Value} {gs : List Nat} (h : FlC H l cs gs) : ∀ {i : Nat} (hi : i < l.length) (n : Int), FlC H (l.set i (n, l[i].2)) (cs.take (i * 2) ++ ([.int .i64 n] ++ cs.drop (i * 2 + 1))) gs := by
  induction h with
  | nil => intro i hi; simp at hi
  | @cons m d v g l cs gs h1 h2 ih =>
    intro i hi n
    cases i with
    | zero => simp; exact .cons h1 h2
    | succ i =>
      have := ih (i := i) (by simpa using hi) n
      rw [show (i + 1) * 2 = i * 2 + 1 + 1 by omega, show i * 2 + 1 + 1 + 1 = (i * 2 + 1) + 1 + 1 by omega]
      simp only [List.take_succ_cons, List.drop_succ_cons, List.set_cons_succ, List.getElem_cons_succ, List.cons_append]
      exact .cons h1 this

/-- Other colours. -/
theorem Plain.recol {col : Nat → Nat} {cs : List Value} (σ : Nat → Nat) (h0 : σ 0 = 0) (h : Plain col cs) : Plain (fun b => σ (col b)) cs := fun v hv a n c he hm => by
  show σ (col a.block) = 0
  rw [h v hv a n c he hm, h0]
theorem WIts.recol {C : Ctx} {H : AHeap} {col : Nat → Nat} {k : Nat} {v : Value} {l : List Itm} (σ : Nat → Nat) (h0 : σ 0 = 0) (h : WIts C H col k v l) : WIts C H (fun b => σ (col b)) (σ k) v l := by
  obtain ⟨g, cs, k1, k2, k3, k4⟩ := h
  exact ⟨g, cs, k1, fun hv => by show σ (col g) = σ k; rw [k2 hv], k3, k4.recol σ h0⟩
theorem WEnd.recol {C : Ctx} {H : AHeap} {col : Nat → Nat} {k k' q : Nat} {x : EndA} (σ : Nat → Nat) (h0 : σ 0 = 0) (h1 : σ k = k') (h2 : σ (k + 1) = k' + 1) (h3 : σ (k + 2) = k' + 2) (h : WEnd C H col k q x) : WEnd C H (fun b => σ (col b)) k' q x := by
  obtain ⟨ov, ev, e1, e2, e3, e4⟩ := h
  refine ⟨ov, ev, e1, by show σ (col q) = k'; rw [e2, h1], ?_, ?_⟩
  · rw [← h2]; exact e3.recol σ h0
  · rw [← h3]; exact e4.recol σ h0

def sigma (k : Nat) : Nat := if k = 1 ∨ k = 2 ∨ k = 3 then k + 3 else if k = 4 ∨ k = 5 ∨ k = 6 then k - 3 else k

/-- The ends change places. -/
theorem WL.swap {C : Ctx} {H : AHeap} {col : Nat → Nat} {q qa qb : Nat} {fv s0 s1 : Value} {y : LineW} (hobj : Obj1 H q [.pointer (some ⟨qb, 0, none⟩), .pointer (some ⟨qa, 0, none⟩), fv, s0, s1]) (c7 : col q = 7) (ea : WEnd C H col 1 qa y.x.a) (eb : WEnd C H col 4 qb y.x.b) {l : List Itm} (fl : WFly H col fv l) (r0 : WRow C H col 10 s0 y.h0) (r1 : WRow C H col 11 s1 y.h1) :
    WLine C H (fun b => sigma (col b)) q ⟨⟨y.x.b, y.x.a, l⟩, y.h0, y.h1⟩ := by
  refine ⟨qb, qa, fv, s0, s1, ⟨hobj, by show sigma (col q) = 7; rw [c7]; rfl, eb.recol sigma rfl rfl rfl rfl, ea.recol sigma rfl rfl rfl rfl, ?_, ?_, ?_⟩⟩
  · obtain ⟨g, cs, gs, k1, k2, k3, k4, k5⟩ := fl
    exact ⟨g, cs, gs, k1, fun hv => by show sigma (col g) = 8; rw [k2 hv]; rfl, k3, fun b hb => by show sigma (col b) = 9; rw [k4 b hb]; rfl, k5⟩
  · obtain ⟨g, cs, k1, k2, k3, k4⟩ := r0
    exact ⟨g, cs, k1, fun hv => by show sigma (col g) = 10; rw [k2 hv]; rfl, k3, k4.recol sigma rfl⟩
  · obtain ⟨g, cs, k1, k2, k3, k4⟩ := r1
    exact ⟨g, cs, k1, fun hv => by show sigma (col g) = 11; rw [k2 hv]; rfl, k3, k4.recol sigma rfl⟩

theorem turnL_ok {x : LineA} (h : LineOK x) : LineOK (turnL x) := by
  refine ⟨h.2.1, h.1, by dsimp only [turnL]; rw [List.length_map]; exact h.2.2.1, flights_mem.2 fun f hf => ?_⟩
  obtain ⟨f', hf', rfl⟩ := List.mem_map.1 hf
  have := flights_mem.1 h.2.2.2 f' hf'
  exact ⟨by dsimp only [flipI]; have := this.1; omega, this.2⟩

def TurnRes (C : Ctx) (H : AHeap) (x : LineA) (r : Value) (H' : AHeap) : Prop := Same H H' ∧ ∃ lv e, r = .tuple #[lv, .int .i64 e] ∧ ((LineOK x ∧ e = 0 ∧ LineF C H' H.next (turnL x) lv) ∨ (¬ LineOK x ∧ e = 4 ∧ LineF C H' H.next zeroL lv))

/-- The first packets are turned. -/
def flips (l : List Itm) (i : Nat) : List Itm := (l.take i).map flipI ++ l.drop i
theorem flips_len (l : List Itm) (i : Nat) : (flips l i).length = l.length := by unfold flips; simp; omega
theorem flips_at {l : List Itm} {i : Nat} (hi : i < l.length) : (flips l i)[i]'(by rw [flips_len]; exact hi) = l[i] := by
  unfold flips
  rw [List.getElem_append_right (by rw [List.length_map, List.length_take]; omega)]
  simp [show min i l.length = i by omega]
theorem flips_succ {l : List Itm} {i : Nat} (hi : i < l.length) : flips l (i + 1) = (flips l i).set i (flipI l[i]) := by
  have el : ((l.take i).map flipI).length = i := by rw [List.length_map, List.length_take]; omega
  unfold flips
  rw [List.set_append_right _ _ (by omega), el, Nat.sub_self, List.drop_eq_getElem_cons hi, List.set_cons_zero, List.take_add_one, List.getElem?_eq_getElem hi, List.map_append]
  show _ ++ [flipI l[i]] ++ _ = _
  rw [List.append_assoc]
  rfl

set_option maxHeartbeats 2000000 in
theorem turn_spec (w : World) {H : AHeap} (hw : WF H) {x : LineA} {v : Value} (hx : LineR (ctxW w) H x v) (hsm : LineS x) : wpCall (ctxW w) (.func (.func 16) #[] #[]) [v] H (TurnRes (ctxW w) H x) := by
  obtain ⟨o0, e0, o1, e1, f, rfl, h1, h2, h3, h4, h5⟩ := hx
  obtain ⟨a1, c1, rfl⟩ := h1.val
  obtain ⟨a2, c2, rfl⟩ := h2.val
  obtain ⟨a3, c3, rfl⟩ := h3.val
  obtain ⟨a4, c4, rfl⟩ := h4.val
  obtain ⟨a5, c5, rfl⟩ := h5.val
  refine wpCall_fn rfl (get16 w) ?_
  simp [ir16]
  refine w_box (cs := lineCells x (.slice a1 x.a.opens.length c1) (.slice a2 x.a.early.length c2) (.slice a3 x.b.opens.length c3) (.slice a4 x.b.early.length c4) (.slice a5 x.fly.length c5)) hw (by simp [lineV, lineCells]) rfl (by simp [lineCells]) fun p H1 hp => ?_
  refine w_mk hp.same.wf' fun t H3 ht => ?_
  have hs03 := hp.same.trans ht.same
  have np := hp.new
  have np' := hp.next
  have nt := ht.new
  have nt' := ht.next
  have ldp := fun off n => Obj1.load (C := ctxW w) (off := off) (n := n) (hp.obj.same ht.same)
  simp [ldp, lineCells]
  obtain ⟨col0, hcol0⟩ : ∃ col0 : Nat → Nat, col0 = fun b => if b = t then 13 else if b < H3.next then 14 else 0 := ⟨_, rfl⟩
  have hb0 : Bare col0 H3 := fun b hb => by rw [hcol0]; dsimp only; rw [if_neg (by omega), if_neg (by omega)]
  have hct0 : col0 t = 13 := by rw [hcol0]; simp
  have hcn : ∀ b, b ≠ t → b < H3.next → col0 b = 14 := fun b hb hl => by rw [hcol0]; dsimp only; rw [if_neg hb, if_pos hl]
  refine wpCall_mono (openLineW_spec w hs03.wf' (col := col0) hb0 (x := x) ⟨_, _, _, _, _, rfl, h1.same hs03, h2.same hs03, h3.same hs03, h4.same hs03, h5.same hs03⟩ hsm) ?_
  rintro r4 H4 (⟨hok, q, col4, rfl, hs4, st4, ⟨qa, qb, fv, s0, s1, W4⟩⟩ | ⟨hok, hs4, rfl⟩)
  · have hs04 := hs03.trans hs4
    have ldq := fun off n => Obj1.load (C := ctxW w) (off := off) (n := n) W4.obj
    have hqlt := W4.obj.lt st4.wf'
    simp [ldq]
    refine d_store (p := q) (off := 0) (xs := [.pointer (some ⟨qb, 0, none⟩)]) st4.wf' rfl W4.obj (by simp) (by simp) rfl (by simp) (by simp) (by simp) fun H5 hm5 hn5 ho5 => ?_
    simp
    refine d_store (p := q) (off := 1) (xs := [.pointer (some ⟨qa, 0, none⟩)]) hm5.wf' rfl ho5 (by simp) (by simp) rfl (by simp) (by simp) (by simp) fun H6 hm6 hn6 ho6 => ?_
    simp at ho6
    have s5 : Step [7] H4 col4 H5 col4 := Step.of_mod hm5 st4.bare (by rw [W4.c7]; simp)
    have s6 : Step [7] H4 col4 H6 col4 := s5.trans (Step.of_mod hm6 s5.bare (by rw [W4.c7]; simp))
    obtain ⟨fa, fc, rfl⟩ := W4.fl.val
    have ldq6 := fun off n => Obj1.load (C := ctxW w) (off := off) (n := n) ho6
    have fl6 := W4.fl.step s6 (by simp) (by simp)
    have hfl := hok.2.2.1
    simp [ldq6]
    refine wp_loop' (fun n s => ∃ (T : Env) (Hc : AHeap) (i : Nat), s = ⟨T, Hc, []⟩ ∧ n = x.fly.length - i ∧ i ≤ x.fly.length ∧ T.val 2 = .pointer (some ⟨t, 0, none⟩) ∧ T.val 4 = .pointer (some ⟨q, 0, none⟩) ∧ T.val 38 = .int .i64 x.fly.length ∧ T.val 39 = .int .i64 i ∧ Step [8] H6 col4 Hc col4 ∧ WFly Hc col4 (.slice fa x.fly.length fc) (flips x.fly i)) (n := x.fly.length)
      ⟨_, H6, 0, rfl, rfl, Nat.zero_le _, by simp, by simp, by simp, by simp, Step.of_same (Same.refl s6.wf') s6.bare, by simpa [flips] using fl6⟩ ?_
    rintro n s K ⟨T, Hc, i, rfl, rfl, hi, t2, t4, t38, t39, sc, fl⟩ hnext hexit
    have hoc := Obj1.step sc ho6 (by rw [W4.c7]; simp)
    have ldqc := fun off n => Obj1.load (C := ctxW w) (off := off) (n := n) hoc
    by_cases hlt : i < x.fly.length
    · have e3 : (i : Int) < x.fly.length := by omega
      obtain ⟨g, cs, gs, F⟩ := fl
      have hlt' : i < (flips x.fly i).length := by rw [flips_len]; exact hlt
      obtain ⟨b, ba, gb, rfl, hblk, l1, _, _, _, _⟩ := F.at (C := ctxW w) hlt'
      rw [flips_at hlt] at l1
      have hto := (hok.2.2.2 i hlt).1
      have w1 : IntKind.i64.wrap (1 - x.fly[i].1) = 1 - x.fly[i].1 := i64_in _ (by omega)
      obtain ⟨k1, k2, k3, k4, k5⟩ := F
      rcases k1 with ⟨hn, _⟩ | hb
      · cases hn
      have hb' := hb
      rw [flips_len] at hb'
      simp [t4, t38, t39, e3, ldqc, l1, w1]
      refine d_storeG (g := g) (b := b) (m := x.fly.length) (c := fc) (esz := 2) (i := i * 2) (cs := cs) (xs := [.int .i64 (1 - x.fly[i].1)]) sc.wf' rfl hb' (by simp) (by simp) rfl (by simp) (by omega) (by simp) fun Hd hmd hnd hbd => ?_
      have sd : Step [8] Hc col4 Hd col4 := Step.of_mod hmd sc.bare (by rw [k2 (by simp)]; simp)
      simp [t39]
      refine hnext (x.fly.length - (i + 1)) _ (by omega) ⟨_, Hd, i + 1, rfl, rfl, by omega, by simp [t2], by simp [t4], by simp [t38], by simp; rw [i64_in _ (by omega)], sc.trans sd, g, _, gs, .inr (by rw [flips_len]; exact hbd), k2, ?_, k4, k5⟩
      have := (k3.step sd (fun b hb => by rw [k4 b hb]; simp)).set hlt' (1 - x.fly[i].1)
      rw [flips_at hlt] at this
      rw [flips_succ hlt]
      exact this
    · have : i = x.fly.length := by omega
      subst this
      have hfin : flips x.fly x.fly.length = x.fly.map flipI := by unfold flips; simp
      rw [hfin] at fl
      simp [t38, t39]
      refine hexit _ _ (by simp) ?_
      have s4c : Step [7, 8] H4 col4 Hc col4 := (s6.more (by simp)).trans (sc.more (by simp))
      have WLs := WL.swap (C := ctxW w) hoc W4.c7 (W4.ea.step s4c (by simp) (by simp)) (W4.eb.step s4c (by simp) (by simp)) fl (W4.r0.step s4c (by simp) (by simp)) (W4.r1.step s4c (by simp) (by simp))
      have hokT := turnL_ok hok
      have hsmT : LineS (turnL x) := (smallOK (y := ⟨turnL x, [], []⟩) hokT (by simp) (by simp)).small
      have st3c : Step [7, 8] H3 col0 Hc col4 := (st4.more (by simp)).trans s4c
      simp [t4]
      refine wpCall_mono (plain_spec w sc.wf' WLs hsmT) ?_
      rintro r7 H7 ⟨hs7, hl7⟩
      have hl7' : LineF (ctxW w) H7 Hc.next (turnL x) r7 := hl7
      obtain ⟨p0, p1, p2, p4, p5, rfl, i1, i2, i3, i4, i5⟩ := hl7'
      obtain ⟨u1, v1, rfl⟩ := i1.its.val
      obtain ⟨u2, v2, rfl⟩ := i2.its.val
      obtain ⟨u3, v3, rfl⟩ := i3.its.val
      obtain ⟨u4, v4, rfl⟩ := i4.its.val
      obtain ⟨u5, v5, rfl⟩ := i5.its.val
      have htc := Obj1.step st3c ht.obj (by rw [hct0]; simp)
      have ht7 := htc.same hs7
      have n3c := st3c.grow.next
      have hlow : Same H Hc := by
        refine ⟨hw, hs03.grow.trans st3c.grow, fun b hb => ?_⟩
        rw [st3c.same b (by omega) (by rw [hcn b (by omega) (by omega)]; simp), hs03.same b hb]
      have hs07 := hlow.trans hs7
      simp [lineV]
      refine w_store (p := t) (off := 0) (xs := lineCells (turnL x) (.slice u1 (turnL x).a.opens.length v1) (.slice u2 (turnL x).a.early.length v2) (.slice u3 (turnL x).b.opens.length v3) (.slice u4 (turnL x).b.early.length v4) (.slice u5 (turnL x).fly.length v5)) hs07.wf' ht7 (by simp [t2]) (by simp [lineCells]) rfl (by simp) (by simp) (by simp [lineCells]) fun H8 hm8 hn8 ho8 => ?_
      have ld8 := fun off n => Obj1.load (C := ctxW w) (off := off) (n := n) ho8
      simp [t2, ld8, lineCells]
      have hl8 : LineF (ctxW w) H8 H.next (turnL x) _ := (hl7.mod hm8 (by omega)).mono (by have := hlow.grow.next; omega)
      exact ⟨hs07.then_mod hm8 (by omega), _, _, rfl, .inl ⟨hok, rfl, by simpa [lineV] using hl8⟩⟩
  · have hs04 := hs03.trans hs4
    have ht4 := ht.obj.same hs4
    simp
    refine w_store (p := t) (off := 0) (xs := [.int .i64 0, .slice none 0 0, .int .i64 0, .slice none 0 0, .int .i64 0, .slice none 0 0, .int .i64 0, .slice none 0 0, .slice none 0 0]) hs04.wf' ht4 (by simp) (by simp) rfl (by simp) (by simp) (by simp) fun H6 hm6 hn6 ho6 => ?_
    have ld6 := fun off n => Obj1.load (C := ctxW w) (off := off) (n := n) ho6
    simp [ld6]
    exact ⟨hs04.then_mod hm6 (by omega), _, _, rfl, .inr ⟨hok, rfl, zeroLine _ _ _⟩⟩
end Go.Ai.Wire

namespace Go.Ai.Wire
open Go.Proofs Go.IntWalk

def turnW (y : LineW) : LineW := ⟨turnL y.x, y.h1, y.h0⟩

theorem two {t : Nat} (h : t ≤ 1) : t = 0 ∨ t = 1 := by omega
theorem turn_end (y : LineW) {t : Nat} (h : t ≤ 1) : endW (turnW y) (1 - t) = endW y t := by
  rcases two h with rfl | rfl <;> rfl
theorem turn_set (y : LineW) {t : Nat} (h : t ≤ 1) (e : EndA) : setE (turnW y) (1 - t) e = turnW (setE y t e) := by
  rcases two h with rfl | rfl <;> rfl
theorem turn_hear (y : LineW) {t : Nat} (h : t ≤ 1) (l : List (List UInt8)) : hearW (turnW y) (1 - t) l = turnW (hearW y t l) := by
  rcases two h with rfl | rfl <;> rfl
theorem turn_put (y : LineW) (to : Int) (d : List UInt8) : putW (turnW y) (1 - to) d = turnW (putW y to d) := by
  unfold putW putF turnW turnL
  dsimp only
  rw [List.length_map]
  split
  · simp [flipI]
  · rfl
theorem turn_arrive (y : LineW) {t : Nat} (h : t ≤ 1) (d : List UInt8) : arriveW (turnW y) (1 - t) d = turnW (arriveW y t d) := by
  unfold arriveW
  rw [turn_end y h, turn_set y h, turn_hear _ h]
  split
  · rfl
  · rw [show (1 : Int) - ((1 - t : Nat) : Int) = 1 - (1 - (t : Int)) by omega, turn_put]
end Go.Ai.Wire

namespace Go.Ai.Wire
open Go.Proofs Go.IntWalk
attribute [local irreducible] Trie.put

theorem lineS_ok {x : LineA} (hok : LineOK x) : LineS x := (smallOK (y := ⟨x, [], []⟩) hok (by simp) (by simp)).small

end Go.Ai.Wire
