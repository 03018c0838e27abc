/-
  What acts do: say, arrive, lose, twice, spoil.
  What acts do: say, again.
  An act on a line.
-/
import Derived.Test.YtlikgpehalhgkaaGreatPWN
import Derived.Test.YtlikgpehalhgkaaGreatPWAa
namespace Go.Ai.Wire
open Go.Proofs Go.IntWalk
attribute [local irreducible] Trie.put

def allC : List Nat := [1, 2, 3, 4, 5, 6, 7, 8, 9, 10, 11, 12]

/-- What a deed gives: the line behind it, and the error. -/
def DeedOut (C : Ctx) (H : AHeap) (col : Nat → Nat) (q : Nat) (y : LineW × Int) (r : Value) (H' : AHeap) : Prop := ∃ col', Step allC H col H' col' ∧ WLine C H' col' q y.1 ∧ r = .int .i64 y.2

/-- What is wanted of a line at work. -/
def SmallL (y : LineW) : Prop := y.x.fly.length ≤ 60 ∧ (∀ f ∈ y.x.fly, (f.1 = 0 ∨ f.1 = 1) ∧ 1 ≤ f.2.length ∧ f.2.length ≤ 408) ∧ EndOK y.x.a ∧ EndOK y.x.b ∧ y.x.a.early.length ≤ 1000 ∧ y.x.b.early.length ≤ 1000 ∧ y.h0.length ≤ 100000 ∧ y.h1.length ≤ 100000

theorem SmallL.endOK {y : LineW} (h : SmallL y) (t : Nat) : EndOK (endW y t) := by
  unfold endW
  split
  · exact h.2.2.1
  · exact h.2.2.2.1
theorem SmallL.early {y : LineW} (h : SmallL y) (t : Nat) : (endW y t).early.length ≤ 1000 := by
  unfold endW
  split
  · exact h.2.2.2.2.1
  · exact h.2.2.2.2.2.1
theorem SmallL.heard {y : LineW} (h : SmallL y) (t : Nat) : (heardW y t).length ≤ 100000 := by
  unfold heardW
  split
  · exact h.2.2.2.2.2.2.1
  · exact h.2.2.2.2.2.2.2
theorem SmallL.at {y : LineW} (h : SmallL y) {i : Nat} (hi : i < y.x.fly.length) : ∃ t : Nat, t ≤ 1 ∧ y.x.fly[i].1 = t ∧ y.x.fly[i].1.toNat = t ∧ 1 ≤ y.x.fly[i].2.length ∧ y.x.fly[i].2.length ≤ 408 := by
  obtain ⟨h1, h2, h3⟩ := h.2.1 _ (List.getElem_mem hi)
  rcases h1 with h1 | h1
  · exact ⟨0, by omega, by omega, by omega, h2, h3⟩
  · exact ⟨1, by omega, by omega, by omega, h2, h3⟩

theorem arrive_spec (w : World) {H : AHeap} (hw : WF H) {col : Nat → Nat} (hbare : Bare col H) {q : Nat} {y : LineW} (hy : WLine (ctxW w) H col q y) (hsm : SmallL y) {a : ActA} {i : Nat} (hn : a.n = i) (hi : i < y.x.fly.length) {dv : Value} (hdv : ∃ da dc, dv = .slice da a.data.length dc) :
    wpCall (ctxW w) (.func (.func 78) #[] #[]) [deedV a q dv] H (DeedOut (ctxW w) H col q (arriveW (awayW y i) y.x.fly[i].1.toNat y.x.fly[i].2, 0)) := by
  obtain ⟨da, dc, rfl⟩ := hdv
  obtain ⟨t, ht, hto, hto', _, hfl⟩ := hsm.at hi
  refine wpCall_fn rfl (get78 w) ?_
  simp [ir78]
  refine w_box (cs := deedC a q (.slice da a.data.length dc)) hw (by simp [deedV, deedC]) rfl (by simp [deedC]) fun p H1 hp => ?_
  have ldp := fun off n => Obj1.load (C := ctxW w) (off := off) (n := n) hp.obj
  have st1 : Step [] H col H1 col := Step.of_same hp.same hbare
  obtain ⟨qa, qb, fv, s0, s1, W⟩ := hy
  simp [ldp, deedC, hn]
  refine wpCall_mono (come_spec w st1.wf' st1.bare ⟨_, _, _, _, _, W.step st1 (by simp)⟩ hi (by have := hsm.1; omega) ht hto (by omega) (hsm.endOK t) (hsm.early t) (hsm.heard t)) ?_
  rintro _ H2 ⟨col2, st2, W2⟩
  simp
  rw [hto']
  exact ⟨col2, (st1.more (by simp)).trans (st2.more (by simp [allC])), W2, rfl⟩

theorem lose_spec (w : World) {H : AHeap} (hw : WF H) {col : Nat → Nat} (hbare : Bare col H) {q : Nat} {y : LineW} (hy : WLine (ctxW w) H col q y) (hsm : SmallL y) {a : ActA} {i : Nat} (hn : a.n = i) (hi : i < y.x.fly.length) {dv : Value} (hdv : ∃ da dc, dv = .slice da a.data.length dc) :
    wpCall (ctxW w) (.func (.func 79) #[] #[]) [deedV a q dv] H (DeedOut (ctxW w) H col q (awayW y i, 0)) := by
  obtain ⟨da, dc, rfl⟩ := hdv
  refine wpCall_fn rfl (get79 w) ?_
  simp [ir79]
  refine w_box (cs := deedC a q (.slice da a.data.length dc)) hw (by simp [deedV, deedC]) rfl (by simp [deedC]) fun p H1 hp => ?_
  have ldp := fun off n => Obj1.load (C := ctxW w) (off := off) (n := n) hp.obj
  have st1 : Step [] H col H1 col := Step.of_same hp.same hbare
  obtain ⟨qa, qb, fv, s0, s1, W⟩ := hy
  simp [ldp, deedC, hn]
  refine wpCall_mono (away_spec w st1.wf' st1.bare ⟨_, _, _, _, _, W.step st1 (by simp)⟩ hi (by have := hsm.1; omega)) ?_
  rintro _ H2 ⟨st2, W2, _⟩
  simp
  exact ⟨col, (st1.more (by simp)).trans (st2.more (by simp [allC])), W2, rfl⟩

set_option maxHeartbeats 1000000 in
theorem twice_spec (w : World) {H : AHeap} (hw : WF H) {col : Nat → Nat} (hbare : Bare col H) {q : Nat} {y : LineW} (hy : WLine (ctxW w) H col q y) (hsm : SmallL y) {a : ActA} {i : Nat} (hn : a.n = i) (hi : i < y.x.fly.length) {dv : Value} (hdv : ∃ da dc, dv = .slice da a.data.length dc) :
    wpCall (ctxW w) (.func (.func 80) #[] #[]) [deedV a q dv] H (DeedOut (ctxW w) H col q (putW y y.x.fly[i].1 y.x.fly[i].2, 0)) := by
  obtain ⟨da, dc, rfl⟩ := hdv
  obtain ⟨t, ht, hto, hto', hf1, hf2⟩ := hsm.at hi
  refine wpCall_fn rfl (get80 w) ?_
  simp [ir80]
  refine w_box (cs := deedC a q (.slice da a.data.length dc)) hw (by simp [deedV, deedC]) rfl (by simp [deedC]) fun p H1 hp => ?_
  have ldp := fun off n => Obj1.load (C := ctxW w) (off := off) (n := n) hp.obj
  have st1 : Step [] H col H1 col := Step.of_same hp.same hbare
  obtain ⟨qa, qb, fv, s0, s1, W⟩ := hy
  have W1 := W.step st1 (by simp)
  obtain ⟨fa, fc, rfl⟩ := W1.fl.val
  obtain ⟨g, cs, gs, F⟩ := id W1.fl
  obtain ⟨b, ba, gb, rfl, hblk, l1, l2, l3, hgi, hbuf⟩ := F.at (C := ctxW w) hi
  have ldq := fun off n => Obj1.load (C := ctxW w) (off := off) (n := n) W1.obj
  have e3 : (i : Int) < y.x.fly.length := by omega
  simp [ldp, ldq, deedC, hn, e3, l1, l2]
  have hqlt := W1.obj.lt st1.wf'
  have hglt : g < H1.next := by
    rcases F.1 with ⟨h, _⟩ | h
    · cases h
    · exact h.lt st1.wf'
  have hplt := hp.obj.lt st1.wf'
  have f1 : Nat.beq H1.next p = false := nbeq' (by omega)
  have f2 : Nat.beq H1.next q = false := nbeq' (by omega)
  have f3 : Nat.beq H1.next g = false := nbeq' (by omega)
  have f4 : Nat.beq H1.next b.block = false := by rw [hblk]; exact f3
  refine d_bs (esz := 1) (cs := [.slice (some ba) y.x.fly[i].2.length y.x.fly[i].2.length]) st1.wf' (by simp [f1, f2, f4]) (by simp) (by simp) (by simp) fun q5 H5 hq5 hb5 => ?_
  have st5 : Step [] H1 col H5 col := Step.of_same hq5.same st1.bare
  simp
  refine wpCall_mono (put_spec w st5.wf' st5.bare ⟨_, _, _, _, _, W1.step st5 (by simp)⟩ (to := y.x.fly[i].1) (pv := .slice (some ⟨q5, 0, none⟩) 1 1) (by simpa using hb5.row (C := ctxW w)) (Buf.bsS (hbuf.same hq5.same)).1 (by omega) (fun h => by rw [h] at hf1; simp at hf1)) ?_
  rintro _ H6 ⟨col6, st6, W6⟩
  simp
  exact ⟨col6, ((st1.trans st5).more (by simp)).trans (st6.more (by simp [allC])), W6, rfl⟩

theorem FlC.turn {H H' : AHeap} {gb : Nat} {F : List UInt8 → List UInt8} (hm : Mod gb H H') {l : List Itm} {cs : List Value} {gs : List Nat} (h : FlC H l cs gs) : ∀ (_ : gs.Nodup) {i : Nat} (hi : i < l.length), gs[i]? = some gb →
    (∀ v, (cs.drop (i * 2)).take 2 = [.int .i64 l[i].1, v] → Buf H' v gb 1 (F l[i].2).length ((F l[i].2).map u8v)) → FlC H' (l.modify i fun f => (f.1, F f.2)) cs gs := by
  induction h with
  | nil => intro _ i hi; simp at hi
  | @cons n d v g l cs gs h1 h2 ih =>
    intro hnd i hi hg hb
    rw [List.nodup_cons] at hnd
    cases i with
    | zero =>
      simp only [List.getElem?_cons_zero, Option.some.injEq] at hg
      subst hg
      have := hb v (by simp)
      exact .cons this (h2.mod hm hnd.1)
    | succ i =>
      simp only [List.getElem?_cons_succ] at hg
      have hne : g ≠ gb := by
        rintro rfl
        exact hnd.1 (List.mem_of_getElem? hg)
      refine .cons (h1.mod hm hne) (ih hnd.2 (by simpa using hi) hg fun v' hv' => ?_)
      have := hb v' (by rw [show (i + 1) * 2 = i * 2 + 2 by omega]; simpa using hv')
      simpa using this

/-- One bit pattern more on a byte. -/
def spoilB (d : List UInt8) (k : Nat) (x : UInt8) : List UInt8 := d.set k (d.getD k 0 ^^^ x)
def spoilW (y : LineW) (i : Nat) (k : Nat) (x : UInt8) : LineW := ⟨⟨y.x.a, y.x.b, y.x.fly.modify i fun f => (f.1, spoilB f.2 k x)⟩, y.h0, y.h1⟩

set_option maxHeartbeats 1000000 in
theorem spoil_spec (w : World) {H : AHeap} (hw : WF H) {col : Nat → Nat} (hbare : Bare col H) {q : Nat} {y : LineW} (hy : WLine (ctxW w) H col q y) (hsm : SmallL y) {a : ActA} {i : Nat} (hn : a.n = i) (hi : i < y.x.fly.length) {k : Nat} (hk : a.pos = k) (hkl : k < y.x.fly[i].2.length) {x : UInt8} (hx : a.xor = x.toNat) {dv : Value} (hdv : ∃ da dc, dv = .slice da a.data.length dc) :
    wpCall (ctxW w) (.func (.func 81) #[] #[]) [deedV a q dv] H (DeedOut (ctxW w) H col q (spoilW y i k x, 0)) := by
  obtain ⟨da, dc, rfl⟩ := hdv
  obtain ⟨t, ht, hto, hto', hf1, hf2⟩ := hsm.at hi
  refine wpCall_fn rfl (get81 w) ?_
  simp [ir81]
  refine w_box (cs := deedC a q (.slice da a.data.length dc)) hw (by simp [deedV, deedC]) rfl (by simp [deedC]) fun p H1 hp => ?_
  have ldp := fun off n => Obj1.load (C := ctxW w) (off := off) (n := n) hp.obj
  have st1 : Step [] H col H1 col := Step.of_same hp.same hbare
  obtain ⟨qa, qb, fv, s0, s1, W⟩ := hy
  have W1 := W.step st1 (by simp)
  obtain ⟨fa, fc, rfl⟩ := W1.fl.val
  obtain ⟨g, cs, gs, F⟩ := id W1.fl
  obtain ⟨b, ba, gb, rfl, hblk, l1, l2, l3, hgi, hbuf⟩ := F.at (C := ctxW w) hi
  have ldq := fun off n => Obj1.load (C := ctxW w) (off := off) (n := n) W1.obj
  have e3 : (i : Int) < y.x.fly.length := by omega
  have e4 : (k : Int) < y.x.fly[i].2.length := by omega
  obtain ⟨bb, hbb, l4⟩ := (Buf.bsS (C := ctxW w) hbuf).1.at hkl
  cases hbb
  simp [ldp, ldq, deedC, hn, hk, hx, e3, e4, l2, l4]
  have wx : IntKind.u8.wrap (x.toNat : Int) = (x.toNat : Int) := by
    have := x.toNat_lt
    rw [IntKind.wrap_u8]
    omega
  obtain ⟨z, hz⟩ : ∃ z : UInt8, z = y.x.fly[i].2[k] ^^^ x := ⟨_, rfl⟩
  have hcgb : col gb = 9 := F.2.2.2.1 gb (List.mem_of_getElem? hgi)
  refine d_storeB (g := gb) (a := ba) (esz := 1) (m := y.x.fly[i].2.length) (i := k) (cs := y.x.fly[i].2.map u8v) (xs := [u8v z]) st1.wf' rfl hbuf (by simp) (by simp [wx, xor_u8, u8v, hz, -UInt8.toNat_xor]) rfl (by simp) (by simp; omega) (by simp [u8v]) fun H3 hm3 hn3 hb3 => ?_
  have st3 : Step [9] H1 col H3 col := Step.of_mod hm3 st1.bare (by rw [hcgb]; simp)
  simp
  have hsp : spoilB y.x.fly[i].2 k x = y.x.fly[i].2.set k z := by
    unfold spoilB
    rw [hz, List.getD_eq_getElem?_getD, List.getElem?_eq_getElem hkl]
    rfl
  have hset : (y.x.fly[i].2.map u8v).take k ++ ([u8v z] ++ (y.x.fly[i].2.map u8v).drop (k + 1)) = (spoilB y.x.fly[i].2 k x).map u8v := by
    rw [hsp, List.map_set, List.set_eq_take_append_cons_drop, if_pos (by simpa using hkl)]
    rfl
  rw [hset] at hb3
  have hsl : (spoilB y.x.fly[i].2 k x).length = y.x.fly[i].2.length := by rw [hsp, List.length_set]
  obtain ⟨k1, k2, k3, k4, k5⟩ := F
  have hfl : FlC H3 (y.x.fly.modify i fun f => (f.1, spoilB f.2 k x)) cs gs := by
    refine k3.turn (F := fun d => spoilB d k x) hm3 k5 hi hgi fun v hv => ?_
    rw [hsl]
    rcases k1 with ⟨h, _⟩ | hb
    · cases h
    · obtain ⟨b', c', he, _, _, hcl, hld⟩ := hb.load (C := ctxW w)
      cases he
      have e2 := loadN_sub hld (i := i * 2) (m := 2) (by omega)
      rw [hv] at e2
      rw [e2] at l3
      cases l3
      exact hb3
  have hng : NG H3 (.slice (some b) y.x.fly.length fc) g 2 (y.x.fly.modify i fun f => (f.1, spoilB f.2 k x)).length cs := by
    rw [List.length_modify]
    rcases k1 with h | hb
    · exact .inl h
    · exact .inr (hb.step st3 (by rw [k2 hb.nn]; simp))
  refine ⟨col, (st1.more (by simp)).trans (st3.more (by simp [allC])), ⟨qa, qb, _, s0, s1, ⟨Obj1.step st3 W1.obj (by rw [W1.c7]; simp), W1.c7, W1.ea.step st3 (by simp) (by simp), W1.eb.step st3 (by simp) (by simp), ⟨g, cs, gs, hng, k2, hfl, k4, k5⟩, W1.r0.step st3 (by simp) (by simp), W1.r1.step st3 (by simp) (by simp)⟩⟩, rfl⟩
end Go.Ai.Wire

namespace Go.Ai.Wire
open Go.Proofs Go.IntWalk
attribute [local irreducible] Trie.put

/-- A line behind a frame that is said, and the error. -/
def sayW (y : LineW) (t : Nat) (d : List UInt8) : LineW × Int :=
  if (endW y t).last = 60000 then (y, 5) else if (endW y t).opens.length = 8 then (y, 8)
  else (putW (setE y t (sent (endW y t) d)) (1 - t) (enc ((endW y t).last + 1).toNat (endW y t).got.toNat d), 0)

set_option maxHeartbeats 1000000 in
theorem say_spec (w : World) {H : AHeap} (hw : WF H) {col : Nat → Nat} (hbare : Bare col H) {q : Nat} {y : LineW} (hy : WLine (ctxW w) H col q y) (hsm : SmallL y) {a : ActA} {t : Nat} (ht : t ≤ 1) (hto : a.who = t) {da : Option Addr} {dc : Nat} (hd : Bs (ctxW w) H (.slice da a.data.length dc) a.data) (hdp : ∀ b, da = some b → a.data.length ≠ 0 → col b.block ∉ allC) (hdl : a.data.length ≤ 400) :
    wpCall (ctxW w) (.func (.func 76) #[] #[]) [deedV a q (.slice da a.data.length dc)] H (DeedOut (ctxW w) H col q (sayW y t a.data)) := by
  refine wpCall_fn rfl (get76 w) ?_
  simp [ir76]
  refine w_box (cs := deedC a q (.slice da a.data.length dc)) hw (by simp [deedV, deedC]) rfl (by simp [deedC]) fun p H1 hp => ?_
  have ldp := fun off n => Obj1.load (C := ctxW w) (off := off) (n := n) hp.obj
  have st1 : Step [] H col H1 col := Step.of_same hp.same hbare
  obtain ⟨qa, qb, fv, s0, s1, W⟩ := hy
  have W1 := W.step st1 (by simp)
  obtain ⟨l1, we, _, _⟩ := W1.at ht
  have ht2 : (t : Int) < 2 := by omega
  have hok := hsm.endOK t
  have np := hp.new
  simp [ldp, deedC, hto, l1, ht2]
  refine wpCall_mono (send_spec w st1.wf' st1.bare (k := 1 + 3 * t) (by omega) we hok.1 hok.2.1 (by have := hok.2.2.1; omega) (hd.same hp.same) (fun b n c he hn => by
    cases he
    have := hdp b rfl hn
    simp only [allC, List.mem_cons, List.not_mem_nil, or_false] at this ⊢
    omega) (by omega)) ?_
  unfold sayW
  rintro r2 H2 (⟨e1, rfl, rfl⟩ | ⟨e1, e2, rfl, rfl⟩ | ⟨e1, e2, col2, bv, st2, we2, rfl, hb2, hbp⟩)
  · simp [e1]
    exact ⟨col, st1.more (by simp), ⟨_, _, _, _, _, W1⟩, rfl⟩
  · simp [e1, e2]
    exact ⟨col, st1.more (by simp), ⟨_, _, _, _, _, W1⟩, rfl⟩
  · obtain ⟨ba, bc, rfl⟩ := hb2.val
    have hcp : col p = 0 := hbare p (by omega)
    have hp2 := Obj1.step st2 hp.obj (by rw [hcp]; simp; omega)
    have ldp2 := fun off n => Obj1.load (C := ctxW w) (off := off) (n := n) hp2
    have w1 : IntKind.i64.wrap (1 - (t : Int)) = 1 - t := i64_in _ (by omega)
    have st2' : Step [1 + 3 * t, 1 + 3 * t + 1, 1 + 3 * t + 2] H1 col H2 col2 := st2.more (by simp)
    have W2 := W1.setE ht st2' we2
    simp [e1, e2, ldp2, deedC, hto, w1]
    refine w_bs (esz := 1) (cs := [.slice ba (enc ((endW y t).last + 1).toNat (endW y t).got.toNat a.data).length bc]) st2.wf' (by simp) (by simp) (by simp) fun q6 H6 hq6 hb6 => ?_
    have st6 : Step [] H2 col2 H6 col2 := Step.of_same hq6.same st2.bare
    have hel : (enc ((endW y t).last + 1).toNat (endW y t).got.toNat a.data).length = a.data.length + 8 := enc_len _ _ _
    simp
    refine wpCall_mono (put_spec w st6.wf' st6.bare ⟨_, _, _, _, _, W2.step st6 (by simp)⟩ (to := 1 - t) (pv := .slice (some ⟨q6, 0, none⟩) 1 1) (by simpa using hb6.row (C := ctxW w)) (hb2.same hq6.same) (by omega) (fun h => by rw [h] at hel; simp at hel)) ?_
    rintro _ H7 ⟨col7, st7, W7⟩
    simp
    refine ⟨col7, (((st1.more (by simp)).trans (st2'.more fun c hc => ?_)).trans (st6.more (by simp))).trans (st7.more (by simp [allC])), W7, rfl⟩
    simp only [List.mem_cons, List.not_mem_nil, or_false] at hc
    simp only [allC, List.mem_cons, List.not_mem_nil, or_false]
    omega

/-- A line behind all open frames sent again. -/
def putsW (y : LineW) (to : Int) (l : List (List UInt8)) : LineW := l.foldl (fun y b => putW y to b) y
def againW (y : LineW) (t : Nat) : LineW := putsW y (1 - t) (packets (endW y t))

theorem putsW_snoc (y : LineW) (to : Int) (l : List (List UInt8)) (d : List UInt8) : putsW y to (l ++ [d]) = putW (putsW y to l) to d := by
  unfold putsW
  rw [List.foldl_append]
  rfl

set_option maxHeartbeats 2000000 in
theorem deedAgain_spec (w : World) {H : AHeap} (hw : WF H) {col : Nat → Nat} (hbare : Bare col H) {q : Nat} {y : LineW} (hy : WLine (ctxW w) H col q y) (hsm : SmallL y) {a : ActA} {t : Nat} (ht : t ≤ 1) (hto : a.who = t) {da : Option Addr} {dc : Nat} :
    wpCall (ctxW w) (.func (.func 77) #[] #[]) [deedV a q (.slice da a.data.length dc)] H (DeedOut (ctxW w) H col q (againW y t, 0)) := by
  refine wpCall_fn rfl (get77 w) ?_
  simp [ir77]
  refine w_box (cs := deedC a q (.slice da a.data.length dc)) hw (by simp [deedV, deedC]) rfl (by simp [deedC]) fun p H1 hp => ?_
  have ldp := fun off n => Obj1.load (C := ctxW w) (off := off) (n := n) hp.obj
  have st1 : Step [] H col H1 col := Step.of_same hp.same hbare
  obtain ⟨qa, qb, fv, s0, s1, W⟩ := hy
  have W1 := W.step st1 (by simp)
  obtain ⟨l1, we, _, _⟩ := W1.at ht
  have ht2 : (t : Int) < 2 := by omega
  have hok := hsm.endOK t
  have np := hp.new
  have np' := hp.next
  obtain ⟨qe, hqe⟩ : ∃ qe, qe = if t = 0 then qa else qb := ⟨_, rfl⟩
  rw [← hqe] at we l1
  simp [ldp, deedC, hto, l1, ht2]
  refine wpCall_fn rfl (get95 w) ?_
  simp [ir95]
  refine w_box (cs := [.pointer (some ⟨qe, 0, none⟩)]) st1.wf' (by simp) rfl (by simp) fun b H3 hb => ?_
  simp
  have nb := hb.new
  have nb' := hb.next
  have st3 : Step [] H1 col H3 col := Step.of_same hb.same st1.bare
  have st03 := st1.trans st3
  refine wpC_range' (by simp [isFn]) fun L0 l1' l2 l3 l4 l5 l6 => ?_
  simp
  obtain ⟨dd, hdd⟩ : ∃ dd, dd = H3.next := ⟨_, rfl⟩
  obtain ⟨l, hl⟩ : ∃ l, l = H3.next + 1 := ⟨_, rfl⟩
  obtain ⟨H2, hH2⟩ : ∃ H2, H2 = (H3.push (.deferred true)).push (.loop L0) := ⟨_, rfl⟩
  rw [← hl, ← hH2, ← hdd]
  have hw3 := st03.wf'
  have hs12 : Same H3 H2 := by rw [hH2]; exact (Same.push hw3 _).trans (Same.push (hw3.push _) _)
  have n2 : H2.next = l + 1 := by rw [hH2, hl]; rfl
  have hgd : H2.get dd = some (.deferred true) := by rw [hH2, hdd, get_push_other _ (by simp)]; exact get_push_same H3 _
  have hgl : H2.get l = some (.loop L0) := by
    have : l = (H3.push (.deferred true)).next := by rw [hl]; rfl
    rw [hH2, this]
    exact get_push_same _ _
  obtain ⟨col2, hcol2⟩ : ∃ col2 : Nat → Nat, col2 = paint (paint col dd 12) l 12 := ⟨_, rfl⟩
  have st2 : Step [] H3 col H2 col2 := by
    refine ⟨hw3, hs12.grow, fun b' hb' => ?_, fun b' hb' => ?_, fun b' hb' _ => hs12.same b' hb'⟩
    · rw [hcol2]
      simp only [paint]
      rw [if_neg (by omega), if_neg (by omega)]
      exact st03.bare b' (by omega)
    · rw [hcol2]
      simp only [paint]
      rw [if_neg (by omega), if_neg (by omega)]
  have hcl : col2 l = 12 := by rw [hcol2]; simp [paint]
  have hcd : col2 dd = 12 := by rw [hcol2]; simp only [paint]; rw [if_neg (by omega)]; simp
  have W2 := (W1.step st3 (by simp)).step st2 (by simp)
  have we2 := (we.step st3 (by simp) (by simp)).step st2 (by simp) (by simp)
  obtain ⟨ov, ev, hoe, hce, hov, hev⟩ := we2
  have hbo := hb.obj.same hs12
  have hcb : col2 b = 0 := by rw [st2.keep b (by omega)]; exact hbare b (by have := hp.same.grow.next; omega)
  have hpo := (hp.obj.same hb.same).same hs12
  have hcp : col2 p = 0 := by rw [st2.keep p (by omega)]; exact hbare p (by omega)
  have hx := hok.opensOK
  have hto1 : endW y t = endW y t := rfl
  have hcet : col2 qe ∉ [7, 8, 12] := by rw [hce]; simp; omega
  let I : Nat → AHeap → Prop := fun i Hc => ∃ colc, Step [7, 8, 12] H2 col2 Hc colc ∧ WLine (ctxW w) Hc colc q (putsW y (1 - t) ((packets (endW y t)).take i)) ∧ Hc.get l = some (.loop L0) ∧ Hc.get dd = some (.deferred true)
  refine wpCall_mono (again1_spec w (x := endW y t) hx (q := qe) (b := b) (ov := ov) (ev := ev) (I := I) (fun i Hc h => by obtain ⟨c, h, _⟩ := h; exact h.wf') (fun i Hc h => ?_) ?_ (H := H2) ⟨col2, Step.of_same (Same.refl hs12.wf') st2.bare, (⟨_, _, _, _, _, W2⟩ : WLine (ctxW w) H2 col2 q y), hgl, hgd⟩) ?_
  · obtain ⟨c, h1, h2, h3, h4⟩ := h
    exact ⟨Obj1.step h1 hbo (by rw [hcb]; simp), Obj1.step h1 hoe hcet, (hov.step h1 (by simp) (by simp; omega)).its⟩
  · rintro i hi Hp Hc v g ⟨colp, stp, ⟨qa', qb', fv', s0', s1', Wp⟩, hpl, hpd⟩ hpc hg hbuf
    have stc : Step [] Hp colp Hc colp := Step.of_same hpc stp.bare
    have Wc := Wp.step stc (by simp)
    have hcl' : Hc.get l = some (.loop L0) := by rw [hpc.same l (get_lt hpc.wf (by rw [hpl]; simp))]; exact hpl
    have hcd' : Hc.get dd = some (.deferred true) := by rw [hpc.same dd (get_lt hpc.wf (by rw [hpd]; simp))]; exact hpd
    have nl2 : l < H2.next := by omega
    have nd2 : dd < H2.next := by omega
    have n2p := stp.grow.next
    have npc := hpc.grow.next
    have hclp : colp l = 12 := by rw [stp.keep l nl2]; exact hcl
    have hcdp : colp dd = 12 := by rw [stp.keep dd nd2]; exact hcd
    have hppc := Obj1.step (stp.trans (stc.more (by simp))) hpo (by rw [hcp]; simp)
    have hcpp : colp p = 0 := by rw [stp.keep p (by omega)]; exact hcp
    obtain ⟨E, hE⟩ : ∃ E, E = enc (endW y t).opens[i].1.toNat (endW y t).got.toNat (endW y t).opens[i].2 := ⟨_, rfl⟩
    rw [← hE] at hbuf
    have hEl : E.length ≤ 1000 ∧ E ≠ [] := by
      have h1 : E.length = (endW y t).opens[i].2.length + 8 := by rw [hE]; exact enc_len _ _ _
      have h2 := (hx.2.2 i hi).2.2
      exact ⟨by omega, fun h => by rw [h] at h1; simp at h1⟩
    obtain ⟨av, rfl, -, -⟩ := hbuf.load (C := ctxW w)
    refine wpCall_yield hcl' l1' (by rw [l4]; rfl) ?_
    rw [l5, l4, l3]
    simp [setParams]
    refine ⟨L0, hcl', l1', ?_⟩
    have hmb : Mod l Hc (Hc.put l (.loop { L0 with state := .busy })) := Mod.put' stc.wf' _ hcl' (by simp)
    have hbl : (Hc.put l (.loop { L0 with state := .busy })).get l = some (.loop { L0 with state := .busy }) := get_put_same _ (base_le_of hcl' (by simp))
    have nbb : (Hc.put l (.loop { L0 with state := .busy })).next = Hc.next := rfl
    generalize Hc.put l (.loop { L0 with state := .busy }) = Hb at hmb hbl nbb ⊢
    rw [l6]
    have stb : Step [12] Hc colp Hb colp := Step.of_mod hmb stc.bare (by rw [hclp]; simp)
    have Wb := Wc.step stb (by simp)
    have ldpb := fun off n => Obj1.load (C := ctxW w) (off := off) (n := n) (hppc.mod hmb (by omega))
    have w1 : IntKind.i64.wrap (1 - (t : Int)) = 1 - t := i64_in _ (by omega)
    simp [ldpb, deedC, hto, w1]
    have hbufb : Buf Hb (.slice (some av) E.length E.length) g 1 E.length (E.map u8v) := hbuf.mod hmb (by omega)
    refine w_bs (esz := 1) (cs := [.slice (some av) E.length E.length]) stb.wf' (by simp) (by simp) (by simp) fun q6 H6 hq6 hb6 => ?_
    have st6 : Step [] Hb colp H6 colp := Step.of_same hq6.same stb.bare
    simp
    refine wpCall_mono (put_spec w st6.wf' st6.bare ⟨_, _, _, _, _, Wb.step st6 (by simp)⟩ (to := 1 - t) (pv := .slice (some ⟨q6, 0, none⟩) 1 1) (by simpa using hb6.row (C := ctxW w)) (Buf.bsS (hbufb.same hq6.same)).1 hEl.1 hEl.2) ?_
    rintro _ H7 ⟨col7, st7, W7⟩
    have n6 := st6.grow.next
    have hfl : H7.get l = some (.loop { L0 with state := .busy }) := by rw [st7.same l (by omega) (by rw [hclp]; simp), hq6.same.same l (by omega)]; exact hbl
    have hL0 : ({ state := .ready, pending := none, T := L0.T, params := L0.params, assign := L0.assign, body := L0.body } : ALoop) = L0 := by
      cases L0
      simp only at l1' l2
      subst l1' l2
      rfl
    simp
    refine ⟨.bool true, H7.put l (.loop L0), by simp [endRound, hfl, hL0], rfl, ?_⟩
    have hml : Mod l H7 (H7.put l (.loop L0)) := Mod.put' st7.wf' _ hfl (by simp)
    have hcl7 : col7 l = 12 := by rw [st7.keep l (by omega)]; exact hclp
    have st8 : Step [12] H7 col7 (H7.put l (.loop L0)) col7 := Step.of_mod hml st7.bare (by rw [hcl7]; simp)
    obtain ⟨qa7, qb7, fv7, s07, s17, W7⟩ := W7
    have hstp : Step [7, 8, 12] H2 col2 (H7.put l (.loop L0)) col7 := ((((stp.trans (stc.more (by simp))).trans (stb.more (by simp))).trans (st6.more (by simp))).trans (st7.more (by simp))).trans (st8.more (by simp))
    refine ⟨col7, hstp, ?_, get_put_same _ (base_le_of hfl (by simp)), ?_⟩
    · rw [List.take_succ_eq_append_getElem (by rw [len_packets]; exact hi), putsW_snoc]
      have e1 : (packets (endW y t))[i]'(by rw [len_packets]; exact hi) = E := by rw [hE]; simp [packets]
      rw [e1]
      exact ⟨_, _, _, _, _, W7.step st8 (by simp)⟩
    · rw [hml.same dd (by have := st7.grow.next; omega) (by omega), st7.same dd (by omega) (by rw [hcdp]; simp), hq6.same.same dd (by omega), hmb.same dd (by omega) (by omega)]
      exact hcd'
  · rintro r H5 ⟨col5, st5, ⟨qa5, qb5, fv5, s05, s15, W5⟩, hl5, hd5⟩
    refine ⟨L0, hl5, by rw [l1']; simp, ?_⟩
    have hmx : Mod l H5 (H5.put l (.loop { L0 with state := .exhausted })) := Mod.put' st5.wf' _ hl5 (by simp)
    have nx : (H5.put l (.loop { L0 with state := .exhausted })).next = H5.next := rfl
    generalize H5.put l (.loop { L0 with state := .exhausted }) = Hx at hmx nx ⊢
    rw [l2]
    have n25 := st5.grow.next
    have hdl : dd ≠ l := by omega
    have hxd : Hx.get dd = some (.deferred true) := by rw [hmx.same dd (by omega) hdl]; exact hd5
    simp
    rw [finK_ret1 hxd]
    simp
    have hmd : Mod dd Hx (Hx.put dd (.deferred false)) := Mod.put' hmx.wf' _ hxd (by simp)
    have hc5l : col5 l = 12 := by rw [st5.keep l (by omega)]; exact hcl
    have hc5d : col5 dd = 12 := by rw [st5.keep dd (by omega)]; exact hcd
    have sx : Step [12] H5 col5 Hx col5 := Step.of_mod hmx st5.bare (by rw [hc5l]; simp)
    have sd : Step [12] Hx col5 (Hx.put dd (.deferred false)) col5 := Step.of_mod hmd sx.bare (by rw [hc5d]; simp)
    rw [← len_packets, List.take_length] at W5
    have WF5 := (W5.step sx (by simp)).step sd (by simp)
    have st25 : Step [7, 8, 12] H2 col2 (Hx.put dd (.deferred false)) col5 := (st5.trans (sx.more (by simp))).trans (sd.more (by simp))
    have stall : Step [] H col H2 col2 := st03.trans st2
    refine ⟨col5, ⟨hw, stall.grow.trans st25.grow, st25.bare, fun b' hb' => ?_, fun b' hb' hn => ?_⟩, ⟨_, _, _, _, _, WF5⟩, rfl⟩
    · have := stall.grow.next
      rw [st25.keep b' (by omega), stall.keep b' hb']
    · have := stall.grow.next
      rw [st25.same b' (by omega) ?_, stall.same b' hb' (by simp)]
      rw [stall.keep b' hb']
      intro h
      refine hn ?_
      simp only [List.mem_cons, List.not_mem_nil, or_false] at h
      simp only [allC, List.mem_cons, List.not_mem_nil, or_false]
      omega
end Go.Ai.Wire

namespace Go.Ai.Wire
open Go.Proofs Go.IntWalk
attribute [local irreducible] Trie.put

/-- A line behind a fine act, and the error. -/
def actW (y : LineW) (a : ActA) : LineW × Int :=
  if a.kind = 1 then sayW y a.who.toNat a.data
  else if a.kind = 2 then (againW y a.who.toNat, 0)
  else if h : a.n.toNat < y.x.fly.length then
    if a.kind = 3 then (arriveW (awayW y a.n.toNat) y.x.fly[a.n.toNat].1.toNat y.x.fly[a.n.toNat].2, 0)
    else if a.kind = 4 then (awayW y a.n.toNat, 0)
    else if a.kind = 5 then (putW y y.x.fly[a.n.toNat].1 y.x.fly[a.n.toNat].2, 0)
    else (spoilW y a.n.toNat a.pos.toNat (UInt8.ofNat a.xor.toNat), 0)
  else (y, 0)

open Classical in
noncomputable def doW (y : LineW) (a : ActA) : LineW × Int := if FineA y.x.fly a then actW y a else (y, 2)

def actV (a : ActA) (dv : Value) : Value := .agg #[.int .u8 a.kind, .int .i64 a.who, .int .i64 a.n, .int .i64 a.pos, .int .i64 a.xor, dv]
def actC (a : ActA) (dv : Value) : List Value := [.int .u8 a.kind, .int .i64 a.who, .int .i64 a.n, .int .i64 a.pos, .int .i64 a.xor, dv]

theorem findDoes {k : Int} (h : k = 1 ∨ k = 2 ∨ k = 3 ∨ k = 4 ∨ k = 5 ∨ k = 6) : ∃ j, findA (.int .u8 k) doesL 0 = some (some (j, .func (.func (k.toNat + 75)) #[] #[])) := by
  rcases h with rfl | rfl | rfl | rfl | rfl | rfl
  · exact ⟨0, rfl⟩
  · exact ⟨1, rfl⟩
  · exact ⟨2, rfl⟩
  · exact ⟨3, rfl⟩
  · exact ⟨4, rfl⟩
  · exact ⟨5, rfl⟩

set_option maxHeartbeats 1000000 in
theorem do_spec (w : World) {H : AHeap} (hw : WF H) {col : Nat → Nat} (hbare : Bare col H) {q : Nat} {y : LineW} (hy : WLine (ctxW w) H col q y) (hsm : SmallL y) {a : ActA} {da : Option Addr} {dc : Nat} (hd : Bs (ctxW w) H (.slice da a.data.length dc) a.data) (hdp : ∀ b, da = some b → a.data.length ≠ 0 → col b.block ∉ allC) :
    wpCall (ctxW w) (.func (.func 24) #[] #[]) [.pointer (some ⟨q, 0, none⟩), actV a (.slice da a.data.length dc)] H (DeedOut (ctxW w) H col q (doW y a)) := by
  refine wpCall_fn rfl (get24 w) ?_
  simp [ir24]
  refine w_box (cs := actC a (.slice da a.data.length dc)) hw (by simp [actV, actC]) rfl (by simp [actC]) fun p H1 hp => ?_
  have ldp := fun off n => Obj1.load (C := ctxW w) (off := off) (n := n) hp.obj
  simp [ldp, actC]
  refine w_mk hp.same.wf' fun t H2 ht => ?_
  have np := hp.new
  have np' := hp.next
  have nt := ht.new
  have nt' := ht.next
  refine w_store (p := t) (off := 0) (xs := deedC a q (.slice da a.data.length dc)) ht.same.wf' ht.obj (by simp) (by simp [deedC]) (by simp [deedC]) (by simp) (by simp) (by simp [deedC]) fun H3 hm3 hn3 ho3 => ?_
  simp [deedC] at ho3
  have hs3 : Same H H3 := hp.same.trans (ht.same.then_mod hm3 (by omega))
  have st3 : Step [] H col H3 col := Step.of_same hs3 hbare
  have hp3 := (hp.obj.same ht.same).mod hm3 (by omega)
  have ldt := fun off n => Obj1.load (C := ctxW w) (off := off) (n := n) ho3
  obtain ⟨qa, qb, fv, s0, s1, W⟩ := hy
  have W3 := W.step st3 (by simp)
  obtain ⟨fa, fc, rfl⟩ := W3.fl.val
  simp [ldt]
  have hcall := isFine_spec w st3.wf' (q := q) W3.obj W3.fl.its (by have := hsm.1; omega) (fun f hf => by have := (hsm.2.1 f hf).2.2; omega) (a := a) (da := da) (dc := dc)
  simp only [deedV] at hcall
  refine wpCall_mono hcall ?_
  rintro _ H4 ⟨hs4, b, rfl, hb⟩
  have st4 : Step [] H3 col H4 col := Step.of_same hs4 st3.bare
  have st04 := st3.trans st4
  have W4 : WLine (ctxW w) H4 col q y := ⟨_, _, _, _, _, W3.step st4 (by simp)⟩
  cases b with
  | false =>
    have hnf : ¬ FineA y.x.fly a := fun h => by simpa using hb.2 h
    simp
    have e : doW y a = (y, 2) := by unfold doW; rw [if_neg hnf]
    rw [e]
    exact ⟨col, st04.more (by simp), W4, rfl⟩
  | true =>
    have hfine := hb.1 rfl
    have e : doW y a = actW y a := by unfold doW; rw [if_pos hfine]
    rw [e]
    simp
    refine wpCall_mono (does_spec w st04.wf') ?_
    rintro _ H5 ⟨hs5, m, rfl, hm, hg⟩
    have st5 : Step [] H4 col H5 col := Step.of_same hs5 st04.bare
    have st05 := st04.trans st5
    have hp4 := hp3.same hs4
    have ht4 := ho3.same hs4
    have ldp5 := fun off n => Obj1.load (C := ctxW w) (off := off) (n := n) (hp4.same hs5)
    have ldt5 := fun off n => Obj1.load (C := ctxW w) (off := off) (n := n) (ht4.same hs5)
    have f1 : free (ctxW w) (.call H4 H5) (.exp [p] []) = true := free_call_rd (eqbW w) hs5 (by simp; obtain ⟨e, h⟩ := hp4; rw [h]; simp)
    have f2 : free (ctxW w) (.call H4 H5) (.exp [t] []) = true := free_call_rd (eqbW w) hs5 (by simp; obtain ⟨e, h⟩ := ht4; rw [h]; simp)
    have hkinds : a.kind = 1 ∨ a.kind = 2 ∨ a.kind = 3 ∨ a.kind = 4 ∨ a.kind = 5 ∨ a.kind = 6 := by
      have := hfine.kinds
      omega
    obtain ⟨j, hfind⟩ := findDoes hkinds
    simp [ldp5, actC, f1]
    refine d_lookup (p := m) (es := doesL) (f := some (j, .func (.func (a.kind.toNat + 75)) #[] #[])) (kv := .int .u8 a.kind) (by simp) hg (by simp) rfl hfind (by simp) ?_
    simp [lookV, ldt5, f2]
    obtain ⟨qa5, qb5, fv5, s05, s15, W5'⟩ := W4
    have W5 : WLine (ctxW w) H5 col q y := ⟨_, _, _, _, _, W5'.step st5 (by simp)⟩
    have hd5 : Bs (ctxW w) H5 (.slice da a.data.length dc) a.data := Bs.stepA st05 hd (fun b n c he hn => by simp)
    have fin : ∀ {r : Value} {H' : AHeap}, DeedOut (ctxW w) H5 col q (actW y a) r H' → DeedOut (ctxW w) H col q (actW y a) r H' := by
      rintro r H' ⟨col', h1, h2, h3⟩
      exact ⟨col', (st05.more (by simp)).trans h1, h2, h3⟩
    have hdv : ∃ da' dc', (Value.slice da a.data.length dc) = .slice da' a.data.length dc' := ⟨_, _, rfl⟩
    have key : wpCall (ctxW w) (.func (.func (a.kind.toNat + 75)) #[] #[]) [deedV a q (.slice da a.data.length dc)] H5 (DeedOut (ctxW w) H5 col q (actW y a)) := by
      rcases hfine with ⟨hk, hf, hwho, _⟩ | ⟨hk, hdat, hwho, _⟩ | ⟨hk, hdat, hwho, hat, _⟩ | ⟨hk, hdat, hwho, hat, hpos, hpl, hx1, hx2⟩
      · have ek : a.kind.toNat + 75 = 76 := by omega
        have e1 : actW y a = sayW y a.who.toNat a.data := by unfold actW; rw [if_pos hk]
        rw [ek, e1]
        have := hwho.1
        have := hwho.2
        exact say_spec w st05.wf' st05.bare W5 hsm (by omega) (by omega) hd5 hdp hf.2
      · have ek : a.kind.toNat + 75 = 77 := by omega
        have e1 : actW y a = (againW y a.who.toNat, 0) := by unfold actW; rw [if_neg (by omega), if_pos hk]
        rw [ek, e1]
        have := hwho.1
        have := hwho.2
        exact deedAgain_spec w st05.wf' st05.bare W5 hsm (by omega) (by omega)
      · have hn1 : a.n = (a.n.toNat : Nat) := by have := hat.1; omega
        have hn2 : a.n.toNat < y.x.fly.length := by have := hat.1; have := hat.2; omega
        rcases hk with hk | hk | hk
        · have ek : a.kind.toNat + 75 = 78 := by omega
          have e1 : actW y a = (arriveW (awayW y a.n.toNat) y.x.fly[a.n.toNat].1.toNat y.x.fly[a.n.toNat].2, 0) := by unfold actW; rw [if_neg (by omega), if_neg (by omega), dif_pos hn2, if_pos hk]
          rw [ek, e1]
          exact arrive_spec w st05.wf' st05.bare W5 hsm hn1 hn2 hdv
        · have ek : a.kind.toNat + 75 = 79 := by omega
          have e1 : actW y a = (awayW y a.n.toNat, 0) := by unfold actW; rw [if_neg (by omega), if_neg (by omega), dif_pos hn2, if_neg (by omega), if_pos hk]
          rw [ek, e1]
          exact lose_spec w st05.wf' st05.bare W5 hsm hn1 hn2 hdv
        · have ek : a.kind.toNat + 75 = 80 := by omega
          have e1 : actW y a = (putW y y.x.fly[a.n.toNat].1 y.x.fly[a.n.toNat].2, 0) := by unfold actW; rw [if_neg (by omega), if_neg (by omega), dif_pos hn2, if_neg (by omega), if_neg (by omega), if_pos hk]
          rw [ek, e1]
          exact twice_spec w st05.wf' st05.bare W5 hsm hn1 hn2 hdv
      · have hn1 : a.n = (a.n.toNat : Nat) := by have := hat.1; omega
        have hn2 : a.n.toNat < y.x.fly.length := by have := hat.1; have := hat.2; omega
        have ek : a.kind.toNat + 75 = 81 := by omega
        have e1 : actW y a = (spoilW y a.n.toNat a.pos.toNat (UInt8.ofNat a.xor.toNat), 0) := by unfold actW; rw [if_neg (by omega), if_neg (by omega), dif_pos hn2, if_neg (by omega), if_neg (by omega), if_neg (by omega)]
        rw [ek, e1]
        have h1 := hpl hn2
        refine spoil_spec w st05.wf' st05.bare W5 hsm hn1 hn2 (k := a.pos.toNat) (by omega) (by omega) (x := UInt8.ofNat a.xor.toNat) ?_ hdv
        rw [UInt8.toNat_ofNat_of_lt' (by show a.xor.toNat < 256; omega)]
        omega
    simp only [deedV] at key
    refine wpCall_mono key fun r H6 h6 => ?_
    have h7 := fin h6
    obtain ⟨col', h1, h2, rfl⟩ := h7
    simp
    exact ⟨col', h1, h2, rfl⟩
end Go.Ai.Wire
