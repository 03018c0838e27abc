/-
  'Send' of the reference.
  'Again' of the reference; comparisons.
-/
import Derived.Test.YtlikgpehalhgkaaGreatPWG
namespace Go.Ai.Wire
open Go.Proofs Go.IntWalk
attribute [local irreducible] Trie.put

/-- One more, and an object that lies between turns. -/
theorem ItsN.snocQ {C : Ctx} {H1 H4 H5 H6 : AHeap} {lo hi0 g g' q : Nat} {v' : Value} {l : List Itm} {cs : List Value} {n : Int} {d : List UInt8} {da : Option Addr} {dc : Nat} (hs : Same H1 H4) (hlo : lo ≤ H1.next) (k2 : l ≠ [] → lo ≤ g ∧ g < hi0) (k3 : ItC C H1 l cs)
    (k4 : FarD lo hi0 g cs) (hq : hi0 ≤ q ∧ q < H1.next) (hd : Bs C H4 (.slice da d.length dc) d) (hdq : ∀ b, da = some b → d.length ≠ 0 → H1.next ≤ b.block) (hg : Grown H4 H5 l.length g g') (hb : Buf H5 v' g' 2 (l.length + 1) (cs ++ [.int .i64 n, .slice da d.length dc])) (hm : Mod q H5 H6) :
    ItsN C H6 lo H6.next v' (l ++ [(n, d)]) := by
  have hw4 := hs.wf'
  have n14 := hs.grow.next
  have n56 := hm.grow.next
  have hblt : ∀ b, da = some b → d.length ≠ 0 → b.block < H4.next := by
    intro b hb0 hn
    obtain ⟨_, a, c, he, _, h4⟩ := id hd
    cases he
    exact load_lt hw4 (h4 b hb0 hn)
  have hit : ItC C H4 (l ++ [(n, d)]) (cs ++ [.int .i64 n, .slice da d.length dc]) := (k3.same hs).app (.cons hd .nil)
  have hfar : ∀ v ∈ cs ++ [Value.int .i64 n, .slice da d.length dc], ∀ a m c, v = .slice (some a) m c → m ≠ 0 → lo ≤ a.block ∧ a.block < H4.next ∧ a.block ≠ q ∧ (l ≠ [] → a.block ≠ g) := by
    intro v hv a m c he hm
    rw [List.mem_append] at hv
    rcases hv with hv | hv
    · have := k4 v hv a m c he hm
      exact ⟨this.1, by omega, by omega, fun _ => this.2.2⟩
    · simp only [List.mem_cons, List.not_mem_nil, or_false] at hv
      rcases hv with hv | hv
      · rw [hv] at he; cases he
      · rw [hv] at he
        cases he
        have h1 := hdq a rfl hm
        have h2 := hblt a rfl hm
        exact ⟨by omega, h2, by omega, fun h => by have := k2 h; omega⟩
  rcases hg with ⟨h0, rfl, hs5⟩ | ⟨hl0, rfl, hgl, hm5⟩
  · have n45 := hs5.grow.next
    have hbl := hb.lt hs5.wf'
    refine ⟨H4.next, _, .inr ⟨by simp, by simpa using hb.mod hm (by omega)⟩, fun _ => ⟨by omega, by omega⟩, (hit.same hs5).mod hm fun v hv a m c he hn => (hfar v hv a m c he hn).2.2.1, fun v hv a m c he hn => ?_⟩
    have := hfar v hv a m c he hn
    omega
  · have n45 := hm5.grow.next
    have hl : l ≠ [] := fun h => hl0 (by rw [h]; rfl)
    have hgg := k2 hl
    refine ⟨g', _, .inr ⟨by simp, by simpa using hb.mod hm (by omega)⟩, fun _ => ⟨hgg.1, by omega⟩, (hit.mod hm5 fun v hv a m c he hn => (hfar v hv a m c he hn).2.2.2 hl).mod hm fun v hv a m c he hn => (hfar v hv a m c he hn).2.2.1, fun v hv a m c he hn => ?_⟩
    have := hfar v hv a m c he hn
    exact ⟨this.1, by omega, this.2.2.2 hl⟩

theorem okP_frame {n g : Int} {d : List UInt8} (hn : 1 ≤ n ∧ n ≤ 60000) (hg : 0 ≤ g ∧ g ≤ 60000) (hf : FrameOK d) : okP n g d.length = true := by
  simp only [okP, decide_eq_true_eq]
  refine ⟨hg, by omega, ?_⟩
  rw [if_neg (by omega)]
  exact hf

def SendResO (C : Ctx) (H : AHeap) (x : EndA) (d : List UInt8) (r : Value) (H' : AHeap) : Prop :=
  Same H H' ∧ ∃ e y b, sendErr x d e ∧ r = .tuple #[y, b, .int .i64 e] ∧ EndO C H' H.next (if e = 0 then sent x d else ⟨0, [], 0, []⟩) y ∧ BsO C H' H.next b (if e = 0 then enc (x.last + 1).toNat x.got.toNat d else [])
theorem SendResO.res {C : Ctx} {H H' : AHeap} {x : EndA} {d : List UInt8} {r : Value} (h : SendResO C H x d r H') : SendRes C H x d r H' := by
  obtain ⟨hs, e, y, b, h1, rfl, h2, h3⟩ := h
  exact ⟨hs, e, y, b, b, h1, rfl, h2.r, rfl, h3.1⟩
theorem SendResO.err {C : Ctx} {H H' : AHeap} {x : EndA} {d : List UInt8} {e : Int} (hs : Same H H') (h : sendErr x d e) (h0 : e ≠ 0) : SendResO C H x d (.tuple #[.agg #[.int .i64 0, .slice none 0 0, .int .i64 0, .slice none 0 0], .slice none 0 0, .int .i64 e]) H' :=
  ⟨hs, e, _, _, h, rfl, by rw [if_neg h0]; exact EndO.zero, by rw [if_neg h0]; exact BsO.nil⟩

set_option maxHeartbeats 1000000 in
theorem refSendO_spec (w : World) {H : AHeap} (hw : WF H) {x : EndA} {v u : Value} {d : List UInt8} (hx : EndR (ctxW w) H x v) (hsm : EndS x) (hd : Bs (ctxW w) H u d) : wpCall (ctxW w) (.func (.func 33) #[] #[]) [v, u] H (SendResO (ctxW w) H x d) := by
  obtain ⟨ov, ev, rfl, ho, he⟩ := hx
  obtain ⟨a1, c1, rfl⟩ := ho.val
  obtain ⟨a2, c2, rfl⟩ := he.val
  obtain ⟨da, dc, rfl⟩ := hd.val
  refine wpCall_fn rfl (get33 w) ?_
  simp [ir33]
  refine w_box (cs := [.int .i64 x.last, .slice a1 x.opens.length c1, .int .i64 x.got, .slice a2 x.early.length c2]) hw (by simp [endV]) rfl (by simp) fun p H1 hp => ?_
  refine w_mk hp.same.wf' fun t H2 ht => ?_
  have np := hp.new
  have np' := hp.next
  have nt := ht.new
  have nt' := ht.next
  have hs02 := hp.same.trans ht.same
  have hp2 := hp.obj.same ht.same
  have ld2 := fun off n => Obj1.load (C := ctxW w) (off := off) (n := n) hp2
  simp [ld2]
  refine wpCall_mono (isEnd_spec w hs02.wf' (x := x) ⟨_, _, rfl, ho.same hs02, he.same hs02⟩ (by have := hsm.2.1; omega)) ?_
  rintro _ H3 ⟨hs3, be, rfl, hbe⟩
  have hs03 := hs02.trans hs3
  have ht3 := ht.obj.same hs3
  have hp3 := hp2.same hs3
  have ld3 := fun off n => Obj1.load (C := ctxW w) (off := off) (n := n) hp3
  have n3 := hs3.grow.next
  cases be with
  | false =>
    have hok : ¬ EndOK x := fun h => by simpa using hbe.2 h
    simp
    refine w_store (p := t) (off := 0) (xs := [.int .i64 0, .slice none 0 0, .int .i64 0, .slice none 0 0]) hs03.wf' ht3 (by simp) (by simp) rfl (by simp) (by simp) (by simp) fun H5 hm5 hn5 ho5 => ?_
    have ld5 := fun off n => Obj1.load (C := ctxW w) (off := off) (n := n) ho5
    simp [ld5]
    exact SendResO.err (hs03.then_mod hm5 (by omega)) (.inl ⟨hok, rfl⟩) (by omega)
  | true =>
    have hok := hbe.1 rfl
    simp
    refine wpCall_mono (refFrame_spec w) ?_
    rintro _ H3 ⟨rfl, rfl⟩
    by_cases hf : FrameOK d
    · have e4 : (1 : Int) ≤ d.length := by have := hf.1; omega
      have e5 : (d.length : Int) ≤ 400 := by have := hf.2; omega
      simp [e4, e5]
      by_cases e6 : x.last = 60000
      · simp [ld3, e6]
        refine w_store (p := t) (off := 0) (xs := [.int .i64 0, .slice none 0 0, .int .i64 0, .slice none 0 0]) hs03.wf' ht3 (by simp) (by simp) rfl (by simp) (by simp) (by simp) fun H5 hm5 hn5 ho5 => ?_
        have ld5 := fun off n => Obj1.load (C := ctxW w) (off := off) (n := n) ho5
        simp [ld5]
        exact SendResO.err (hs03.then_mod hm5 (by omega)) (.inr (.inr (.inl ⟨hok, hf, e6, rfl⟩))) (by omega)
      · by_cases e7 : x.opens.length = 8
        · simp [ld3, e6, e7]
          refine w_store (p := t) (off := 0) (xs := [.int .i64 0, .slice none 0 0, .int .i64 0, .slice none 0 0]) hs03.wf' ht3 (by simp) (by simp) rfl (by simp) (by simp) (by simp) fun H5 hm5 hn5 ho5 => ?_
          have ld5 := fun off n => Obj1.load (C := ctxW w) (off := off) (n := n) ho5
          simp [ld5]
          exact SendResO.err (hs03.then_mod hm5 (by omega)) (.inr (.inr (.inr (.inl ⟨hok, hf, e6, e7, rfl⟩)))) (by omega)
        · have e8 : ¬ (x.opens.length : Int) = 8 := by omega
          simp [ld3, e6, e8]
          refine wpCall_mono (copyEnd_spec w hs03.wf' (x := x) ⟨_, _, rfl, ho.same hs03, he.same hs03⟩ hsm) ?_
          rintro r4 H4 ⟨hs4, mid, ov4, ev4, rfl, m1, m2, i1, i2⟩
          have n4 := hs4.grow.next
          have hs04 := hs03.trans hs4
          obtain ⟨a3, c3, rfl⟩ := i1.val
          obtain ⟨a4, c4, rfl⟩ := i2.val
          simp
          refine w_mk hs04.wf' fun q H5 hq => ?_
          have nq := hq.new
          have nq' := hq.next
          refine w_store (p := q) (off := 0) (xs := [.int .i64 x.last, .slice a3 x.opens.length c3, .int .i64 x.got, .slice a4 x.early.length c4]) hq.same.wf' hq.obj (by simp) (by simp [endV]) rfl (by simp) (by simp) (by simp) fun H6 hm6 hn6 ho6 => ?_
          have hs06 : Same H H6 := (hs04.trans hq.same).then_mod hm6 (by omega)
          have ld6 := fun off n => Obj1.load (C := ctxW w) (off := off) (n := n) ho6
          have e9 : IntKind.i64.wrap (x.last + 1) = x.last + 1 := i64_in _ (by have := hok.1; omega)
          simp [ld6, e9]
          refine w_store (p := q) (off := 0) (xs := [.int .i64 (x.last + 1)]) hs06.wf' ho6 (by simp) (by simp) rfl (by simp) (by simp) (by simp) fun H7 hm7 hn7 ho7 => ?_
          have hs07 : Same H H7 := hs06.then_mod hm7 (by omega)
          have ld7 := fun off n => Obj1.load (C := ctxW w) (off := off) (n := n) ho7
          simp [ld7]
          have j1 := ((i1.same hq.same).mod hm6 (by omega)).mod hm7 (by omega)
          have j2 := ((i2.same hq.same).mod hm6 (by omega)).mod hm7 (by omega)
          have n7 : H7.next = q + 1 := by rw [hn7, hn6, nq']
          have g1 : Nat.beq H7.next q = false := nbeq' (by omega)
          refine d_bs (esz := 1) (cs := []) hs07.wf' (by simp [g1]) (by simp) (by simp) (by simp) fun q8 H8 hq8 hb8 => ?_
          have nq8 := hq8.new
          have nq8' := hq8.next
          simp
          have hd8 := (hd.same hs07).same hq8.same
          have hdl := hf.2
          refine d_app' (g := q8) (n := 0) (m := d.length) (cs := []) (xs := d.map u8v) hq8.same.wf' (by simpa using hb8) (by simp; exact hd8) (u8_scalar _) (by simp [roomy]; omega)
            (fun rd' md hmd => by
              have k1 := free_rd_mod (C := ctxW w) (ri := rd') (mi := md) (x := q) fun y hy => by rw [hmd y hy]; omega
              simp [k1]) fun v9 H9 rd9 md9 hm9 hb9 hmd9 hrd9 => ?_
          have hs79 : Same H7 H9 := hq8.same.then_mod hm9 (by omega)
          have hb9r : Bs (ctxW w) H9 v9 d := by
            have := hb9.row (C := ctxW w)
            simpa [Bs] using this
          obtain ⟨a9, ea9, hblk9, -⟩ := hb9.load (C := ctxW w)
          subst ea9
          simp only [Nat.zero_add] at hb9r
          have n9 := hs79.grow.next
          have g2 : Nat.beq H9.next q = false := nbeq' (by omega)
          simp
          refine d_bs (esz := 2) (cs := [.int .i64 (x.last + 1), .slice (some a9) d.length d.length]) hs79.wf' (by simp [g2]) (by simp) (by simp) (by simp) fun q10 H10 hq10 hb10 => ?_
          simp
          have hs710 := hs79.trans hq10.same
          obtain ⟨g, cs, k1, k2, k3, k4⟩ := j1.mono (Nat.le_refl _) (by omega : mid ≤ H7.next)
          have hol := hok.2.2.1
          refine d_appN (g := g) (n := x.opens.length) (m := 1) (cs := cs) (xs := [.int .i64 (x.last + 1), .slice (some a9) d.length d.length]) hs710.wf' (by simpa using k1.same hs710) (by simpa using hb10.row) (by simp) (by simp) (by simp [roomy]; omega) (by simp) fun v11 H11 rd11 md11 g11 hg11 hb11 => ?_
          have hits : ItsN (ctxW w) H11 H3.next H11.next v11 (x.opens ++ [(x.last + 1, d)]) := ItsN.snoc hs07.wf' hs710 (by omega) k2 k3 k4 (Bs.same hq10.same hb9r) (fun b hb hn => by cases hb; rw [hblk9]; omega) hg11 hb11
          obtain ⟨a11, c11, rfl⟩ := hits.val
          simp
          have h11 : Same H H11 ∧ H10.next ≤ H11.next ∧ Obj1 H11 q [.int .i64 (x.last + 1), .slice a3 x.opens.length c3, .int .i64 x.got, .slice a4 x.early.length c4] ∧ Obj1 H11 t [.int .i64 0, .slice none 0 0, .int .i64 0, .slice none 0 0] ∧ ItsN (ctxW w) H11 mid H4.next (.slice a4 x.early.length c4) x.early := by
            have hq7 : Obj1 H7 q [.int .i64 (x.last + 1), .slice a3 x.opens.length c3, .int .i64 x.got, .slice a4 x.early.length c4] := by simpa using ho7
            have ht7 : Obj1 H7 t [.int .i64 0, .slice none 0 0, .int .i64 0, .slice none 0 0] := (((ht3.same hs4).same hq.same).mod hm6 (by omega)).mod hm7 (by omega)
            rcases hg11 with ⟨_, _, h⟩ | ⟨h0, rfl, hlt, h⟩
            · exact ⟨(hs07.trans hs710).trans h, h.grow.next, (hq7.same hs710).same h, (ht7.same hs710).same h, (j2.same hs710).same h⟩
            · have hne : x.opens ≠ [] := fun he => h0 (by rw [he]; rfl)
              have hgb := k2 hne
              have hgm : g11 < mid := by
                obtain ⟨g', cs', k1', k2', _⟩ := j1
                have := k2' hne
                rcases k1 with ⟨_, h, _⟩ | ⟨_, hbuf⟩
                · exact absurd h h0
                · rcases k1' with ⟨_, h, _⟩ | ⟨_, hbuf'⟩
                  · exact absurd h h0
                  · obtain ⟨aa, e1, e2, _⟩ := hbuf.load (C := ctxW w)
                    obtain ⟨ab, e3, e4, _⟩ := hbuf'.load (C := ctxW w)
                    rw [e1] at e3
                    cases e3
                    omega
              exact ⟨(hs07.trans hs710).then_mod h (by omega), h.grow.next, (hq7.same hs710).mod h (by omega), (ht7.same hs710).mod h (by omega), (j2.same hs710).mod h (by omega)⟩
          obtain ⟨hs011, n11, hq11, ht11, j11⟩ := h11
          refine d_store (p := q) (off := 1) (xs := [.slice a11 (x.opens ++ [(x.last + 1, d)]).length c11]) hs011.wf' rfl hq11 (by simp) (by simp) rfl (by simp) (by simp) (by simp) fun H12 hm12 hn12 ho12 => ?_
          have hs012 : Same H H12 := hs011.then_mod hm12 (by omega)
          have hfin : ItsN (ctxW w) H12 H3.next H12.next (.slice a11 (x.opens ++ [(x.last + 1, d)]).length c11) (x.opens ++ [(x.last + 1, d)]) := by
            obtain ⟨g', cs', k1', k2', k3', k4'⟩ := j1
            have hsame : g' = g ∧ cs' = cs ∨ x.opens = [] := by
              by_cases hne : x.opens = []
              · exact .inr hne
              · refine .inl ?_
                have hl0 : x.opens.length ≠ 0 := fun h => hne (List.length_eq_zero_iff.1 h)
                rcases k1 with ⟨_, h, _⟩ | ⟨_, hbuf⟩
                · exact absurd h hl0
                · rcases k1' with ⟨_, h, _⟩ | ⟨_, hbuf'⟩
                  · exact absurd h hl0
                  · obtain ⟨aa, e1, e2, e3⟩ := hbuf.load (C := ctxW w)
                    obtain ⟨ab, f1, f2, f3⟩ := hbuf'.load (C := ctxW w)
                    rw [e1] at f1
                    cases f1
                    rw [e3] at f3
                    cases f3
                    exact ⟨by omega, rfl⟩
            rcases hsame with ⟨rfl, rfl⟩ | hne
            · exact ItsN.snocQ hs710 (by omega) k2' k3' k4' (by omega) (Bs.same hq10.same hb9r) (fun b hb hn => by cases hb; rw [hblk9]; omega) hg11 hb11 hm12
            · have hcs : cs = [] := by
                rw [hne] at k3
                cases k3
                rfl
              refine ItsN.snocQ (hi0 := mid) hs710 (by omega) (fun h => absurd hne h) (hcs ▸ k3) (fun v hv => by rw [hcs] at hv; cases hv) (by omega) (Bs.same hq10.same hb9r) (fun b hb hn => by cases hb; rw [hblk9]; omega) hg11 hb11 hm12
          have ld12 := fun off n => Obj1.load (C := ctxW w) (off := off) (n := n) ho12
          simp [ld12]
          have hg0 := hok.2.1
          have hl0 := hok.1
          refine wpCall_mono (refBytes_buf w hs012.wf' (x.last + 1) x.got (hd.same hs012)) ?_
          rintro r13 H13 ⟨hs13, ⟨_, b13, q13, hq13, rfl, hb13⟩ | ⟨hbad, _⟩⟩
          rotate_left
          · rw [okP_frame (by omega) hg0 hf] at hbad
            cases hbad
          have ho13 := ho12.same hs13
          have ld13 := fun off n => Obj1.load (C := ctxW w) (off := off) (n := n) ho13
          have hs013 := hs012.trans hs13
          have ht13 : Obj1 H13 t _ := (ht11.mod hm12 (by omega)).same hs13
          simp [ld13]
          refine w_store (p := t) (off := 0) (xs := [.int .i64 (x.last + 1), .slice a11 (x.opens ++ [(x.last + 1, d)]).length c11, .int .i64 x.got, .slice a4 x.early.length c4]) hs013.wf' ht13 (by simp) (by simp) rfl (by simp) (by simp) (by simp) fun H14 hm14 hn14 ho14 => ?_
          have ld14 := fun off n => Obj1.load (C := ctxW w) (off := off) (n := n) ho14
          simp [ld14]
          refine ⟨hs013.then_mod hm14 (by omega), 0, _, _, .inr (.inr (.inr (.inr ⟨hok, hf, e6, e7, rfl⟩))), rfl, ?_, ?_⟩
          · rw [if_pos rfl]
            refine ⟨.slice a11 (x.opens ++ [(x.last + 1, d)]).length c11, .slice a4 x.early.length c4, by simp [endV, sent], ?_, ?_⟩
            · exact ((hfin.same hs13).mod hm14 (by omega)).io (by omega)
            · exact (((j11.mod hm12 (by omega)).same hs13).mod hm14 (by omega)).io (by omega)
          · rw [if_pos rfl]
            refine ⟨Row.mod hm14 hb13.row (hb13.off (by have := hm12.grow.next; have := ht11.lt hs011.wf'; omega)), fun a n c he hn => ?_⟩
            obtain ⟨a', he', hbl, _⟩ := hb13.load (C := ctxW w)
            rw [he] at he'
            cases he'
            have := hs012.grow.next
            omega
    · have e4 : (decide ((1 : Int) ≤ d.length) && decide ((d.length : Int) ≤ 400)) = false := by
        simp only [FrameOK] at hf
        simp
        omega
      simp [e4]
      refine w_store (p := t) (off := 0) (xs := [.int .i64 0, .slice none 0 0, .int .i64 0, .slice none 0 0]) hs03.wf' ht3 (by simp) (by simp) rfl (by simp) (by simp) (by simp) fun H5 hm5 hn5 ho5 => ?_
      have ld5 := fun off n => Obj1.load (C := ctxW w) (off := off) (n := n) ho5
      simp [ld5]
      exact SendResO.err (hs03.then_mod hm5 (by omega)) (.inr (.inl ⟨hok, hf, rfl⟩)) (by omega)
end Go.Ai.Wire

namespace Go.Ai.Wire
open Go.Proofs Go.IntWalk
attribute [local irreducible] Trie.put
attribute [-simp] wpO_toStr wpD_toStr
attribute [simp] bytesEq_dec

theorem FrN.nb {C : Ctx} {H : AHeap} {lo : Nat} {v : Value} {l : List (List UInt8)} (hw : WF H) (h : FrN C H lo v l) (q : Nat) : ∃ g cs, NB H v g 1 l.length cs ∧ (l ≠ [] → lo ≤ g ∧ g < H.next) ∧ FrC C H l cs ∧ (∀ u ∈ cs, ∀ a n c, u = .slice (some a) n c → n ≠ 0 → lo ≤ a.block ∧ a.block ≠ g ∧ a.block < H.next) ∧ (l = [] → g ≠ q) := by
  obtain ⟨g, cs, k1, k3, k4⟩ := h
  have klt := FrC.lt hw k3
  rcases k1 with ⟨e1, e2⟩ | ⟨e1, e2, e3⟩
  · subst e2
    cases k3
    exact ⟨q + 1, [], .inl ⟨e1, rfl, rfl⟩, fun h => absurd rfl h, .nil, (fun u hu => by cases hu), fun _ => by omega⟩
  · exact ⟨g, cs, .inr ⟨fun h => e1 (List.length_eq_zero_iff.1 h), e3⟩, fun _ => ⟨e2, e3.lt hw⟩, k3, fun u hu a n c he hn => ⟨(k4 u hu a n c he hn).1, (k4 u hu a n c he hn).2, klt u hu a n c he hn⟩, fun h => absurd h e1⟩

def AgainOutO (C : Ctx) (H : AHeap) (x : EndA) (r : Value) (H' : AHeap) : Prop :=
  Same H H' ∧ ((EndOK x ∧ ∃ v, r = .tuple #[v, .int .i64 0] ∧ FrO C H' H.next v (packets x)) ∨ (¬ EndOK x ∧ r = .tuple #[.slice none 0 0, .int .i64 4]))
theorem FrN.fo {C : Ctx} {H : AHeap} {lo lo' : Nat} {v : Value} {l : List (List UInt8)} (h : FrN C H lo v l) (hl : lo' ≤ lo) : FrO C H lo' v l := by
  obtain ⟨g, cs, k1, k3, k4⟩ := h
  rcases k1 with ⟨rfl, rfl⟩ | ⟨e1, e2, hb⟩
  · cases k3
    exact .nil
  · refine ⟨cs, k3, hb.row, fun u hu a n c he hm => by have := k4 u hu a n c he hm; omega, fun a n c he hm => ?_⟩
    obtain ⟨a', he', hbl, _⟩ := hb.load (C := C)
    rw [he] at he'
    cases he'
    omega

theorem refAgainO_spec (w : World) {H : AHeap} (hw : WF H) {x : EndA} {v : Value} (hx : EndR (ctxW w) H x v) (hsm : EndS x) : wpCall (ctxW w) (.func (.func 35) #[] #[]) [v] H (AgainOutO (ctxW w) H x) := by
  obtain ⟨ov, ev, rfl, ho, he⟩ := hx
  obtain ⟨a1, c1, rfl⟩ := ho.val
  obtain ⟨a2, c2, rfl⟩ := he.val
  refine wpCall_fn rfl (get35 w) ?_
  simp [ir35]
  refine w_box (cs := [.int .i64 x.last, .slice a1 x.opens.length c1, .int .i64 x.got, .slice a2 x.early.length c2]) hw (by simp [endV]) rfl (by simp) fun p H2 hp => ?_
  have ld2 := fun off n => Obj1.load (C := ctxW w) (off := off) (n := n) hp.obj
  simp [ld2]
  refine wpCall_mono (isEnd_spec w hp.same.wf' (x := x) ⟨_, _, rfl, ho.same hp.same, he.same hp.same⟩ (by have := hsm.2.1; omega)) ?_
  rintro _ H3 ⟨hs3, be, rfl, hbe⟩
  have hs03 := hp.same.trans hs3
  have hp3 := hp.obj.same hs3
  cases be with
  | false =>
    simp
    exact ⟨hs03, .inr ⟨fun h => by simpa using hbe.2 h, rfl⟩⟩
  | true =>
    have hok := hbe.1 rfl
    have hx := hok.opensOK
    simp
    refine wp_loop' (fun n s => ∃ (T : Env) (H4 : AHeap) (i : Nat), s = ⟨T, H4, []⟩ ∧ n = x.opens.length - i ∧ i ≤ x.opens.length ∧ T.val 1 = .pointer (some ⟨p, 0, none⟩) ∧ T.val 5 = .int .i64 i ∧ Same H3 H4 ∧ FrN (ctxW w) H4 H3.next (T.val 4) ((packets x).take i)) (n := x.opens.length)
      ⟨_, H3, 0, rfl, rfl, Nat.zero_le _, by simp, by simp, Same.refl hs03.wf', 0, [], .inl ⟨by simp, by simp⟩, by simpa using FrC.nil, fun u hu => by cases hu⟩ ?_
    rintro n s K ⟨T, H4, i, rfl, rfl, hi, t1, t5, hs4, hn4⟩ hnext hexit
    have hs04 := hs03.trans hs4
    have hp4 := hp3.same hs4
    have ld4 := fun off n => Obj1.load (C := ctxW w) (off := off) (n := n) hp4
    by_cases hlt : i < x.opens.length
    · obtain ⟨b, da, dc, rfl, m1, m2, _, hd⟩ := (ho.same hs04).at hlt
      have e3 : (i : Int) < x.opens.length := by omega
      have h1 := hok.2.2.2.1 i hlt
      have hb := hx.2.2 i hlt
      have hx1 := hx.2.1
      simp [t1, t5, ld4, e3, m1, m2]
      refine wpCall_mono (refBytes_buf w hs04.wf' x.opens[i].1 x.got hd) ?_
      rintro r5 H5 ⟨hs5, ⟨_, b5, q5, hq5, rfl, hb5⟩ | ⟨hbad, _⟩⟩
      rotate_left
      · rw [okP_frame (by omega) hok.2.1 h1.2.2] at hbad
        cases hbad
      obtain ⟨E, hE⟩ : ∃ E, E = enc x.opens[i].1.toNat x.got.toNat x.opens[i].2 := ⟨_, rfl⟩
      rw [← hE] at hb5
      obtain ⟨a5, eb5, -, -⟩ := hb5.load (C := ctxW w)
      subst eb5
      simp
      have hs45 := hs5
      refine w_bs (esz := 1) (cs := [.slice (some a5) E.length E.length]) (hs04.trans hs5).wf' (by simp) (by simp) (by simp) fun q6 H6 hq6 hb6 => ?_
      have hs46 := hs5.trans hq6.same
      obtain ⟨g, cs, k1, k2, k3, k4, k5⟩ := FrN.nb hs04.wf' hn4 q5
      have hil : ((packets x).take i).length = i := by rw [List.length_take, len_packets]; omega
      have n46 := hs46.grow.next
      refine w_appN (g := g) (n := ((packets x).take i).length) (m := 1) (cs := cs) (xs := [.slice (some a5) E.length E.length]) hs46.wf' (by simpa using k1.same hs46) (by simpa using hb6.row) (by simp) (by simp) (by simp [roomy]; omega) fun v7 H7 g7 hg7 hb7 => ?_
      simp [t5]
      have n34 := hs4.grow.next
      have hqg : q5 ≠ g := by
        by_cases hl : (packets x).take i = []
        · exact Ne.symm (k5 hl)
        · have := k2 hl; omega
      have hfr : FrN (ctxW w) H7 H3.next v7 ((packets x).take i ++ [E]) := FrN.snoc hs46 n34 k2 (k3.same hs46) (fun u hu a n c he hn => by have := k4 u hu a n c he hn; omega) (hb5.same hq6.same) (by omega) hqg hg7 hb7
      have hs37 : Same H3 H7 := by
        rcases hg7 with ⟨_, _, h⟩ | ⟨h0, rfl, _, h⟩
        · exact (hs4.trans hs46).trans h
        · exact (hs4.trans hs46).then_mod h (k2 fun he => h0 (by rw [he]; rfl)).1
      refine hnext (x.opens.length - (i + 1)) _ (by omega) ⟨_, H7, i + 1, rfl, rfl, by omega, by simp [t1], by simp; rw [i64_in _ (by omega)], hs37, ?_⟩
      simp
      rw [List.take_succ_eq_append_getElem (by rw [len_packets]; exact hlt)]
      have e1 : (packets x)[i]'(by rw [len_packets]; exact hlt) = E := by rw [hE]; simp [packets]
      rw [e1]
      exact hfr
    · have : i = x.opens.length := by omega
      subst this
      rw [← len_packets, List.take_length] at hn4
      simp [t1, t5, ld4]
      refine hexit _ _ (by simp) ?_
      simp
      exact ⟨hs04, .inl ⟨hok, _, rfl, hn4.fo hs03.grow.next⟩⟩

/-! ### comparisons -/
theorem d_toStr {C : Ctx} {H : AHeap} {T : Env} {d : Option Nat} {K : Env → AHeap → Prop} {rd : List (Nat × IOper × List Nat)} {log : List Info} {i : Nat} {un : List Nat} {x : IOpd} {bs : List UInt8} (hb : Bs C H (x.val T.val) bs) (hf : ∀ r, freeAll C log (.exp r []) un = true)
    (hk : ∀ r, wpD C rd (.exp r [] :: log) K (putDst T d (strV bs)) H) : wpD C ((i, ⟨d, .toStr x, none⟩, un) :: rd) log K T H := by
  obtain ⟨r, he⟩ := toStr_spec (T := T.val) (nid := H.next) (x := x) rfl hb
  rw [wpD_toStr, he]
  simp only [bindO_some, opKD_eq, AOut.mods, List.append_nil]
  rw [hf]
  exact hk r

theorem sameFrames_spec (w : World) {H : AHeap} {v u : Value} {l m : List (List UInt8)} (hv : Frs (ctxW w) H v l) (hu : Frs (ctxW w) H u m) (hsm : l.length ≤ 1000000) : wpCall (ctxW w) (.func (.func 13) #[] #[]) [v, u] H fun r H' => H' = H ∧ r = .bool (decide (l = m)) := by
  obtain ⟨a1, c1, rfl⟩ := hv.val
  obtain ⟨a2, c2, rfl⟩ := hu.val
  refine wpCall_fn rfl (get13 w) ?_
  by_cases hl : l.length = m.length
  · have hl' : (l.length : Int) = m.length := by omega
    simp [ir13, hl']
    refine wp_loop' (fun n s => ∃ (T : Env) (i : Nat), s = ⟨T, H, []⟩ ∧ n = l.length - i ∧ i ≤ l.length ∧ T.val 0 = .slice a1 l.length c1 ∧ T.val 1 = .slice a2 m.length c2 ∧ T.val 5 = .int .i64 i ∧ l.take i = m.take i) (n := l.length)
      ⟨_, 0, rfl, rfl, Nat.zero_le _, by simp, by simp, by simp, by simp⟩ ?_
    rintro n s K ⟨T, i, rfl, rfl, hi, t0, t1, t5, heq⟩ hnext hexit
    by_cases hlt : i < l.length
    · obtain ⟨b, da, dc, rfl, m1, hd⟩ := hv.at hlt
      obtain ⟨b2, db, dc2, rfl, m2, hd2⟩ := hu.at (i := i) (by omega)
      have e3 : (i : Int) < l.length := by omega
      have e4 : (i : Int) < m.length := by omega
      simp [t0, t5, e3, m1]
      refine d_toStr (bs := l[i]) (by simp; exact hd) (by simp) fun r1 => ?_
      simp [t1, t5, e4, m2]
      refine d_toStr (bs := m[i]) (by simp; exact hd2) (by simp) fun r2 => ?_
      by_cases hab : l[i] = m[i]
      · simp [strV, hab, t5]
        refine hnext (l.length - (i + 1)) _ (by omega) ⟨_, i + 1, rfl, rfl, by omega, by simp [t0], by simp [t1], by simp; rw [i64_in _ (by omega)], ?_⟩
        rw [List.take_succ_eq_append_getElem hlt, List.take_succ_eq_append_getElem (by omega), heq, hab]
      · simp [strV, hab]
        refine hexit _ _ (by simp) ?_
        have : l ≠ m := by
          rintro rfl
          exact hab rfl
        simp [this]
    · have : i = l.length := by omega
      subst this
      simp [t0, t5]
      refine hexit _ _ (by simp) ?_
      rw [List.take_length, hl, List.take_length] at heq
      simp [heq]
  · have hl' : ¬ ((l.length : Int) = m.length) := by omega
    simp [ir13, hl']
    rintro rfl
    exact hl rfl

theorem sameItems_spec (w : World) {H : AHeap} {v u : Value} {l m : List Itm} (hv : Its (ctxW w) H v l) (hu : Its (ctxW w) H u m) (hsm : l.length ≤ 1000000) : wpCall (ctxW w) (.func (.func 52) #[] #[]) [v, u] H fun r H' => H' = H ∧ r = .bool (decide (l = m)) := by
  obtain ⟨a1, c1, rfl⟩ := hv.val
  obtain ⟨a2, c2, rfl⟩ := hu.val
  refine wpCall_fn rfl (get52 w) ?_
  by_cases hl : l.length = m.length
  · have hl' : (l.length : Int) = m.length := by omega
    simp [ir52, hl']
    refine wp_loop' (fun n s => ∃ (T : Env) (i : Nat), s = ⟨T, H, []⟩ ∧ n = l.length - i ∧ i ≤ l.length ∧ T.val 0 = .slice a1 l.length c1 ∧ T.val 1 = .slice a2 m.length c2 ∧ T.val 5 = .int .i64 i ∧ l.take i = m.take i) (n := l.length)
      ⟨_, 0, rfl, rfl, Nat.zero_le _, by simp, by simp, by simp, by simp⟩ ?_
    rintro n s K ⟨T, i, rfl, rfl, hi, t0, t1, t5, heq⟩ hnext hexit
    by_cases hlt : i < l.length
    · obtain ⟨b, da, dc, rfl, m1, m2, _, hd⟩ := hv.at hlt
      obtain ⟨b2, db, dc2, rfl, m3, m4, _, hd2⟩ := hu.at (i := i) (by omega)
      have e3 : (i : Int) < l.length := by omega
      have e4 : (i : Int) < m.length := by omega
      simp [t0, t1, t5, e3, e4, m1, m3]
      by_cases hn : l[i].1 = m[i].1
      · simp [hn, t0, t5, e3, m2]
        refine d_toStr (bs := l[i].2) (by simp; exact hd) (by simp) fun r1 => ?_
        simp [t1, t5, e4, m4]
        refine d_toStr (bs := m[i].2) (by simp; exact hd2) (by simp) fun r2 => ?_
        by_cases hab : l[i].2 = m[i].2
        · simp [strV, hab, t5]
          refine hnext (l.length - (i + 1)) _ (by omega) ⟨_, i + 1, rfl, rfl, by omega, by simp [t0], by simp [t1], by simp; rw [i64_in _ (by omega)], ?_⟩
          rw [List.take_succ_eq_append_getElem hlt, List.take_succ_eq_append_getElem (by omega), heq, show l[i] = m[i] from Prod.ext hn hab]
        · simp [strV, hab]
          refine hexit _ _ (by simp) ?_
          have : l ≠ m := by
            rintro rfl
            exact hab rfl
          simp [this]
      · simp [hn]
        refine hexit _ _ (by simp) ?_
        have : l ≠ m := by
          rintro rfl
          exact hn rfl
        simp [this]
    · have : i = l.length := by omega
      subst this
      simp [t0, t5]
      refine hexit _ _ (by simp) ?_
      rw [List.take_length, hl, List.take_length] at heq
      simp [heq]
  · have hl' : ¬ ((l.length : Int) = m.length) := by omega
    simp [ir52, hl']
    rintro rfl
    exact hl rfl

theorem sameEnd_spec (w : World) {H : AHeap} (hw : WF H) {v u : Value} {x y : EndA} (hx : EndR (ctxW w) H x v) (hy : EndR (ctxW w) H y u) (hsm : x.opens.length ≤ 1000000 ∧ x.early.length ≤ 1000000) :
    wpCall (ctxW w) (.func (.func 29) #[] #[]) [v, u] H fun r H' => Same H H' ∧ Tells (x = y) r := by
  obtain ⟨o1, e1, rfl, ho, he⟩ := hx
  obtain ⟨o2, e2, rfl, ho2, he2⟩ := hy
  obtain ⟨a1, c1, rfl⟩ := ho.val
  obtain ⟨a2, c2, rfl⟩ := he.val
  obtain ⟨a3, c3, rfl⟩ := ho2.val
  obtain ⟨a4, c4, rfl⟩ := he2.val
  refine wpCall_fn rfl (get29 w) ?_
  simp [ir29]
  refine w_box (cs := [.int .i64 x.last, .slice a1 x.opens.length c1, .int .i64 x.got, .slice a2 x.early.length c2]) hw (by simp [endV]) rfl (by simp) fun p H1 hp => ?_
  simp
  refine w_box (cs := [.int .i64 y.last, .slice a3 y.opens.length c3, .int .i64 y.got, .slice a4 y.early.length c4]) hp.same.wf' (by simp [endV]) rfl (by simp) fun q H2 hq => ?_
  have hs := hp.same.trans hq.same
  have ldp := fun off n => Obj1.load (C := ctxW w) (off := off) (n := n) (hp.obj.same hq.same)
  have ldq := fun off n => Obj1.load (C := ctxW w) (off := off) (n := n) hq.obj
  have ext : x.last = y.last → x.got = y.got → x.opens = y.opens → x.early = y.early → x = y := by
    cases x; cases y
    simp only
    rintro rfl rfl rfl rfl
    rfl
  by_cases h1 : x.last = y.last
  · by_cases h2 : x.got = y.got
    · simp [ldp, ldq, h1, h2]
      refine wpCall_mono (sameItems_spec w (ho.same hs) (ho2.same hs) hsm.1) ?_
      rintro _ H2 ⟨rfl, rfl⟩
      by_cases h3 : x.opens = y.opens
      · simp [h3, ldp, ldq]
        refine wpCall_mono (sameItems_spec w (he.same hs) (he2.same hs) hsm.2) ?_
        rintro _ H2 ⟨rfl, rfl⟩
        by_cases h4 : x.early = y.early
        · simp [h4]
          exact ⟨hs, .yes (ext h1 h2 h3 h4)⟩
        · simp [h4]
          exact ⟨hs, .no fun h => h4 (by rw [h])⟩
      · simp [h3]
        exact ⟨hs, .no fun h => h3 (by rw [h])⟩
    · simp [ldp, ldq, h1, h2]
      exact ⟨hs, .no fun h => h2 (by rw [h])⟩
  · simp [ldp, ldq, h1]
    exact ⟨hs, .no fun h => h1 (by rw [h])⟩
end Go.Ai.Wire
