/-
  'calm' and 'Settle'.
-/
import Derived.Test.YtlikgpehalhgkaaGreatSX1
import Derived.Test.YtlikgpehalhgkaaGreatSWY
namespace Go.Ai.Wire
open Go.Proofs Go.IntWalk
attribute [local irreducible] Trie.put

theorem comeW_at {y : LineW} (hi : 0 < y.x.fly.length) {t : Nat} (ht : y.x.fly[0].1 = t) : comeW y = arriveW (awayW y 0) t y.x.fly[0].2 := by
  obtain ⟨⟨a, b, fly⟩, h0, h1⟩ := y
  cases fly with
  | nil => simp at hi
  | cons f r =>
    simp only [List.getElem_cons_zero] at ht ⊢
    show arriveW ⟨⟨a, b, r⟩, h0, h1⟩ f.1.toNat f.2 = arriveW ⟨⟨a, b, r⟩, h0, h1⟩ t f.2
    rw [show f.1.toNat = t by omega]

/-- What is handed on stays small. -/
def Room (y : LineW) (n0 n1 : Nat) : Prop := y.h0.length + 8 * rank y.x.fly ≤ n0 ∧ y.h1.length + 8 * rank y.x.fly ≤ n1

set_option maxHeartbeats 1000000 in
theorem calm_spec (w : World) {H : AHeap} (hw : WF H) {col : Nat → Nat} (hbare : Bare col H) {q : Nat} {y : LineW} (hy : WLine (ctxW w) H col q y) (hok : LineOK y.x) {n0 n1 : Nat} (hr : Room y n0 n1) (h0 : n0 ≤ 50000) (h1 : n1 ≤ 50000) :
    wpCall (ctxW w) (.func (.func 30) #[] #[]) [.pointer (some ⟨q, 0, none⟩)] H fun _ H' => ∃ col' z, Step allC H col H' col' ∧ WLine (ctxW w) H' col' q z ∧ Calm y z ∧ LineOK z.x ∧ z.h0.length ≤ n0 ∧ z.h1.length ≤ n1 := by
  refine wpCall_fn rfl (get30 w) ?_
  simp [ir30]
  refine wp_loop' (fun n s => ∃ (T : Env) (Hc : AHeap) (col' : Nat → Nat) (z : LineW), s = ⟨T, Hc, []⟩ ∧ n = rank z.x.fly ∧ T.val 0 = .pointer (some ⟨q, 0, none⟩) ∧ Step allC H col Hc col' ∧ WLine (ctxW w) Hc col' q z ∧ (∀ u, Calm z u → Calm y u) ∧ LineOK z.x ∧ Room z n0 n1) (n := rank y.x.fly)
    ⟨_, H, col, y, rfl, rfl, by simp, Step.of_same (Same.refl hw) hbare, hy, fun u h => h, hok, hr⟩ ?_
  rintro n s K ⟨T, Hc, col', z, rfl, rfl, t0, st, W, hcalm, hzok, hroom⟩ hnext hexit
  obtain ⟨qa, qb, fv, s0, s1, W0⟩ := id W
  obtain ⟨fa, fc, rfl⟩ := W0.fl.val
  have ldq := fun off n => Obj1.load (C := ctxW w) (off := off) (n := n) W0.obj
  by_cases hlt : 0 < z.x.fly.length
  · have e1 : (0 : Int) < z.x.fly.length := by omega
    have hto := (hzok.2.2.2 0 hlt).1
    obtain ⟨t, ht, htl⟩ : ∃ t : Nat, z.x.fly[0].1 = t ∧ t ≤ 1 := ⟨z.x.fly[0].1.toNat, by omega, by omega⟩
    have hz0 : (heardW z t).length ≤ 100000 := by unfold heardW; split <;> (have := hroom.1; have := hroom.2; omega)
    have hne : z.x.fly ≠ [] := by intro h; rw [h] at hlt; simp at hlt
    simp [t0, ldq, hlt]
    have hcall := come_spec w st.wf' st.bare W (i := 0) hlt (by have := hzok.2.2.1; omega) htl ht (by have := (hzok.2.2.2 0 hlt).2.2; omega) (endW_ok hzok t) (by have := early_len (endW_ok hzok t); omega) hz0
    refine wpCall_mono hcall ?_
    rintro _ H1 ⟨col1, st1, W1⟩
    rw [← comeW_at hlt ht] at W1
    simp
    have hrk := come_rank hzok hne
    have hch := come_h hzok
    refine hnext (rank (comeW z).x.fly) _ hrk ⟨_, H1, col1, comeW z, rfl, rfl, by simp [t0], st.trans (st1.more (by simp [allC])), W1, fun u hu => hcalm u (.step hne hu), comeW_ok hzok, ?_, ?_⟩
    · have := hroom.1; omega
    · have := hroom.2; omega
  · have hn : z.x.fly = [] := List.length_eq_zero_iff.1 (by omega)
    simp [t0, ldq, hlt]
    refine hexit _ _ (by simp) ?_
    simp
    exact ⟨col', st, z, W, hcalm z (.done hn), hzok, by have := hroom.1; omega, by have := hroom.2; omega⟩

theorem WRow.frf {C : Ctx} {H : AHeap} {col : Nat → Nat} {k lo : Nat} {v : Value} {l : List (List UInt8)} (h : WRow C H col k v l) (hc : ∀ b, col b = 0 ∨ col b = k → lo ≤ b) : FrF C H lo v l := by
  obtain ⟨g, cs, k1, k2, k3, k4⟩ := id h
  rcases k1 with ⟨rfl, hn, rfl⟩ | hb
  · have : l = [] := List.length_eq_zero_iff.1 hn
    subst this
    exact FrF.nil _ _ _
  · refine ⟨cs, k3, hb.row, fun u hu a n c he hn => hc _ (.inl (k4 u hu a n c he hn)), fun a n c he hn => hc _ (.inr ?_)⟩
    obtain ⟨a', c', he', _, hbl, _⟩ := hb.load (C := C)
    have : a = a' := by rw [he] at he'; cases he'; rfl
    subst this
    rw [hbl]
    exact k2 (by rw [he]; intro h; cases h)

def SettleRes (C : Ctx) (H : AHeap) (x : LineA) (r : Value) (H' : AHeap) : Prop := Same H H' ∧ ∃ z lv g0 g1, Settled ⟨x, [], []⟩ z ∧ r = .tuple #[lv, .agg #[g0, g1], .int .i64 0] ∧ LineF C H' H.next z.x lv ∧ FrF C H' H.next g0 z.h0 ∧ FrF C H' H.next g1 z.h1 ∧ LineOK z.x ∧ z.h0.length ≤ 4000 ∧ z.h1.length ≤ 4000

def againA (i : Nat) : ActA := ⟨2, i, 0, 0, 0, []⟩

set_option maxHeartbeats 4000000 in
theorem settle_spec (w : World) {H : AHeap} (hw : WF H) {x : LineA} {v : Value} (hx : LineR (ctxW w) H x v) (hok : LineOK x) : wpCall (ctxW w) (.func (.func 14) #[] #[]) [v] H (SettleRes (ctxW w) H x) := by
  have hsm := lineS_ok hok
  obtain ⟨o0, e0, o1, e1, f, rfl, h1, h2, h3, h4, h5⟩ := hx
  obtain ⟨a1, c1, rfl⟩ := h1.val
  obtain ⟨a2, c2, rfl⟩ := h2.val
  obtain ⟨a3, c3, rfl⟩ := h3.val
  obtain ⟨a4, c4, rfl⟩ := h4.val
  obtain ⟨a5, c5, rfl⟩ := h5.val
  refine wpCall_fn rfl (get14 w) ?_
  simp [ir14]
  refine w_box (cs := lineCells x (.slice a1 x.a.opens.length c1) (.slice a2 x.a.early.length c2) (.slice a3 x.b.opens.length c3) (.slice a4 x.b.early.length c4) (.slice a5 x.fly.length c5)) hw (by simp [lineV, lineCells]) rfl (by simp [lineCells]) fun p H1 hp => ?_
  refine w_mk hp.same.wf' fun t H2 ht => ?_
  refine w_mk ht.same.wf' fun u H3 hu => ?_
  have hs02 := hp.same.trans ht.same
  have hs03 := hs02.trans hu.same
  have np := hp.new
  have np' := hp.next
  have nt := ht.new
  have nt' := ht.next
  have nu := hu.new
  have nu' := hu.next
  have ldp := fun off n => Obj1.load (C := ctxW w) (off := off) (n := n) ((hp.obj.same ht.same).same hu.same)
  simp [ldp, lineCells]
  obtain ⟨col0, hcol0⟩ : ∃ col0 : Nat → Nat, col0 = fun b => if b = t ∨ b = u then 13 else if b < H3.next then 14 else 0 := ⟨_, rfl⟩
  have hb0 : Bare col0 H3 := fun b hb => by rw [hcol0]; dsimp only; rw [if_neg (by omega), if_neg (by omega)]
  have hct0 : col0 t = 13 := by rw [hcol0]; simp
  have hcu0 : col0 u = 13 := by rw [hcol0]; simp
  have hcn : ∀ b, b ≠ t → b ≠ u → b < H3.next → col0 b = 14 := fun b h1 h2 hl => by rw [hcol0]; dsimp only; rw [if_neg (by omega), if_pos hl]
  refine wpCall_mono (openLineW_spec w hs03.wf' (col := col0) hb0 (x := x) ⟨_, _, _, _, _, rfl, h1.same hs03, h2.same hs03, h3.same hs03, h4.same hs03, h5.same hs03⟩ hsm) ?_
  rintro r4 H4 (⟨_, q, col4, rfl, hs4, st4, W4⟩ | ⟨hbad, _⟩)
  rotate_left
  · exact absurd hok hbad
  simp
  have hrk0 := rank_le x.fly
  have hfl0 := hok.2.2.1
  have hcall := calm_spec w st4.wf' st4.bare W4 hok (n0 := 1000) (n1 := 1000) ⟨by simp; omega, by simp; omega⟩ (by omega) (by omega)
  refine wpCall_mono hcall ?_
  rintro _ H5 ⟨col5, y1, st5, W5, cm5, ok5, l50, l51⟩
  have st05 : Step allC H3 col0 H5 col5 := (st4.more (by simp)).trans st5
  simp
  refine wp_loop' (fun n s => ∃ (T : Env) (Hc : AHeap) (i : Nat) (col : Nat → Nat) (z : LineW), s = ⟨T, Hc, []⟩ ∧ n = 2 - i ∧ i ≤ 2 ∧ T.val 2 = .pointer (some ⟨t, 0, none⟩) ∧ T.val 3 = .pointer (some ⟨u, 0, none⟩) ∧ T.val 5 = .pointer (some ⟨q, 0, none⟩) ∧ T.val 21 = .int .i64 i ∧
    Step allC H3 col0 Hc col ∧ WLine (ctxW w) Hc col q z ∧ LineOK z.x ∧ z.h0.length ≤ 1000 * (i + 1) ∧ z.h1.length ≤ 1000 * (i + 1) ∧ (i = 0 → Calm ⟨x, [], []⟩ z) ∧ (i = 1 → ∃ y1, Calm ⟨x, [], []⟩ y1 ∧ Calm (againW y1 0) z) ∧ (i = 2 → Settled ⟨x, [], []⟩ z)) (n := 2)
    ⟨_, H5, 0, col5, y1, rfl, rfl, by omega, by simp, by simp, by simp, by simp, st05, W5, ok5, by omega, by omega, fun _ => cm5, fun h => by omega, fun h => by omega⟩ ?_
  rintro n s K ⟨T, Hc, i, col, z, rfl, rfl, hi, t2, t3, t5, t21, st, W, hzok, l0, l1, z0, z1, z2⟩ hnext hexit
  by_cases hlt : i < 2
  · have e1 : (i : Int) < 2 := by omega
    simp [t5, t21, e1]
    have hcall := do_spec w st.wf' st.bare W (smallOK hzok (by omega) (by omega)) (a := againA i) (da := none) (dc := 0) (Bs.nil _ _) (fun b hb => by cases hb)
    have hfine : FineA z.x.fly (againA i) := .inr (.inl ⟨rfl, rfl, ⟨by show (0 : Int) ≤ i; omega, by show (i : Int) ≤ 1; omega⟩, rfl, rfl, rfl⟩)
    have edo : doW z (againA i) = (againW z i, 0) := by
      unfold doW
      rw [if_pos hfine]
      unfold actW
      rw [if_neg (by show ¬ ((2 : Int) = 1); decide), if_pos (by rfl)]
      rfl
    have hdok := doW_ok hzok (againA i)
    rw [edo] at hcall hdok
    simp only [actV, againA, List.length_nil] at hcall
    refine wpCall_mono hcall ?_
    rintro _ H6 ⟨col6, st6, W6, rfl⟩
    simp [t5]
    have hh : (againW z i).h0 = z.h0 ∧ (againW z i).h1 = z.h1 := putsW_h _ _
    have hrk := rank_le (againW z i).x.fly
    have hfl := hdok.2.2.1
    dsimp only at hfl W6
    have hcall := calm_spec w st6.wf' st6.bare W6 hdok (n0 := 1000 * (i + 2)) (n1 := 1000 * (i + 2)) ⟨by rw [hh.1]; omega, by rw [hh.2]; omega⟩ (by omega) (by omega)
    refine wpCall_mono hcall ?_
    rintro _ H7 ⟨col7, z7, st7, W7, cm7, ok7, l70, l71⟩
    simp [t21]
    refine hnext (2 - (i + 1)) _ (by omega) ⟨_, H7, i + 1, col7, z7, rfl, rfl, by omega, by simp [t2], by simp [t3], by simp [t5], by simp; rw [i64_in _ (by omega)], (st.trans st6).trans st7, W7, ok7, by omega, by omega, fun h => by omega, fun h => ?_, fun h => ?_⟩
    · have : i = 0 := by omega
      subst this
      exact ⟨z, z0 rfl, cm7⟩
    · have : i = 1 := by omega
      subst this
      obtain ⟨y1, k1, k2⟩ := z1 rfl
      exact ⟨y1, z, k1, k2, cm7⟩
  · have : i = 2 := by omega
    subst this
    simp [t21]
    refine hexit _ _ (by simp) ?_
    have hset := z2 rfl
    simp [t5]
    have hsmz := lineS_ok hzok
    refine wpCall_mono (plain_spec w st.wf' W hsmz) ?_
    rintro r8 H8 ⟨hs8, hl8⟩
    obtain ⟨qa, qb, fv, s0, s1, W0⟩ := W
    obtain ⟨sa0, sc0, rfl⟩ := W0.r0.val
    obtain ⟨sa1, sc1, rfl⟩ := W0.r1.val
    have W8 := W0.obj.same hs8
    have ldq := fun off n => Obj1.load (C := ctxW w) (off := off) (n := n) W8
    have hqlt := W0.obj.lt st.wf'
    have f1 : free (ctxW w) (.call Hc H8) (.exp [q] []) = true := free_call_rd (eqbW w) hs8 (by simp; obtain ⟨e, h⟩ := W0.obj; rw [h]; simp)
    have hctc : col t = 13 := by rw [st.keep t (by omega)]; exact hct0
    have hcuc : col u = 13 := by rw [st.keep u (by omega)]; exact hcu0
    have htq : t ≠ q := by intro h; have := W0.c7; rw [← h, hctc] at this; omega
    have huq : u ≠ q := by intro h; have := W0.c7; rw [← h, hcuc] at this; omega
    have f2 : free (ctxW w) (.exp [q] []) (.exp [t] [t]) = true := free_rd_mod fun y hy => by simp at hy; omega
    have n3c := st.grow.next
    have n8 := hs8.grow.next
    have st8 : Step [] Hc col H8 col := Step.of_same hs8 st.bare
    have st08 : Step allC H3 col0 H8 col := st.trans (st8.more (by simp))
    have ht8 := Obj1.step st08 (ht.obj.same hu.same) (by rw [hct0]; simp [allC])
    have hu8 := Obj1.step st08 hu.obj (by rw [hcu0]; simp [allC])
    have hl8' := hl8
    obtain ⟨p0, p1, p2, p3, p4, rfl, i0, i1, i2, i3, i4⟩ := hl8'
    obtain ⟨u1, v1, rfl⟩ := i0.its.val
    obtain ⟨u2, v2, rfl⟩ := i1.its.val
    obtain ⟨u3, v3, rfl⟩ := i2.its.val
    obtain ⟨u4, v4, rfl⟩ := i3.its.val
    obtain ⟨u5, v5, rfl⟩ := i4.its.val
    simp [t5, ldq, f1, lineV]
    refine d_store (p := t) (off := 0) (xs := lineCells z.x (.slice u1 z.x.a.opens.length v1) (.slice u2 z.x.a.early.length v2) (.slice u3 z.x.b.opens.length v3) (.slice u4 z.x.b.early.length v4) (.slice u5 z.x.fly.length v5)) st08.wf' (by simp [f2]) ht8 (by simp [t2]) (by simp [lineCells]) (by simp [lineCells]) (by simp) (by simp) (by simp [lineCells]) fun H9 hm9 hn9 ho9 => ?_
    simp [lineCells] at ho9
    simp
    refine d_store (p := u) (off := 0) (xs := [.slice sa0 z.h0.length sc0, .slice sa1 z.h1.length sc1]) hm9.wf' (by simp) (hu8.mod hm9 (by omega)) (by simp [t3]) (by simp) (by simp) (by simp) (by simp) (by simp) fun H10 hm10 hn10 ho10 => ?_
    simp at ho10
    have ho9' := ho9.mod hm10 (by omega)
    have ldt := fun off n => Obj1.load (C := ctxW w) (off := off) (n := n) ho9'
    have ldu := fun off n => Obj1.load (C := ctxW w) (off := off) (n := n) ho10
    simp [t2, t3, ldt, ldu]
    have s9 : Step [13] H8 col H9 col := Step.of_mod hm9 st8.bare (by rw [hctc]; simp)
    have s10 : Step [13] H8 col H10 col := s9.trans (Step.of_mod hm10 s9.bare (by rw [hcuc]; simp))
    have s8c : Step [13] Hc col H10 col := (st8.more (by simp)).trans s10
    have R0 := W0.r0.step s8c (by simp) (by simp)
    have R1 := W0.r1.step s8c (by simp) (by simp)
    have hfresh : ∀ k, k ≠ 13 → k ≠ 14 → ∀ b, col b = 0 ∨ col b = k → H.next ≤ b := by
      intro k k1 k2 b hb
      rcases Nat.lt_or_ge b H3.next with h | h
      · rw [st.keep b h] at hb
        by_cases hbt : b = t
        · rw [hbt, hct0] at hb; omega
        · by_cases hbu : b = u
          · rw [hbu, hcu0] at hb; omega
          · rw [hcn b hbt hbu h] at hb; omega
      · omega
    have hlow : Same H H8 := by
      refine ⟨hw, hs03.grow.trans st08.grow, fun b hb => ?_⟩
      rw [st08.same b (by omega) (by rw [hcn b (by omega) (by omega) (by omega)]; simp [allC]), hs03.same b hb]
    have hl9 : LineF (ctxW w) H10 H.next z.x _ := ((hl8.mod hm9 (by omega)).mod hm10 (by omega)).mono (by have := hs03.grow.next; omega)
    exact ⟨(hlow.then_mod hm9 (by omega)).then_mod hm10 (by omega), z, _, _, _, hset, rfl, by simpa [lineV] using hl9, R0.frf (hfresh 10 (by omega) (by omega)), R1.frf (hfresh 11 (by omega) (by omega)), hzok, by omega, by omega⟩
end Go.Ai.Wire
