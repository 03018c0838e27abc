/-
  'WireBytes' answers true.
-/
import Derived.Test.YtlikgpehalhgkaaW7
namespace Go.Ai

theorem wpCall_known {C : Ctx} {k : FuncId} {first cap : Array Value} {args : List Value} {H : AHeap} {v : Value} {K : Value → AHeap → Prop} (hk : C.known k (first.toList ++ (args ++ cap.toList)) = some v) (h : K v H) : wpCall C (.func (.func k) first cap) args H K := by
  have : (fixO C).call (.func (.func k) first cap) args H = some (v, H) := fix_callA (by unfold callA; dsimp only; rw [hk])
  unfold wpCall
  rw [this]
  exact h
end Go.Ai
namespace Go.Ai.Wire
open Go.Proofs Go.IntWalk

attribute [-simp] wpO_toStr wpD_toStr
attribute [simp] bytesEq_dec

def outB (n g : Int) (d : List UInt8) : List UInt8 := if okP n g d.length = true then enc n.toNat g.toNat d else []
def errB (n g : Int) (d : List UInt8) : Int := if okP n g d.length = true then 0 else 4

theorem Bs.nil (C : Ctx) (H : AHeap) : Bs C H (.slice none 0 0) [] := ⟨rfl, none, 0, rfl, by simp, by simp⟩

theorem BytesOut.pair {C : Ctx} {H H' : AHeap} {n g : Int} {d : List UInt8} {r : Value} (h : BytesOut C H n g d r H') : Same H H' ∧ ∃ b, r = .tuple #[b, .int .i64 (errB n g d)] ∧ Bs C H' b (outB n g d) := by
  obtain ⟨h1, ⟨hok, b, rfl, hb⟩ | ⟨hok, rfl⟩⟩ := h
  · exact ⟨h1, b, by simp [errB, hok], by simpa [outB, hok] using hb⟩
  · exact ⟨h1, .slice none 0 0, by simp [errB, hok], by simpa [outB, hok] using Bs.nil C H'⟩

def outR (bs : List UInt8) : Nat × Nat × List UInt8 := (readB bs).getD (0, 0, [])
def errR (bs : List UInt8) : Int := if (readB bs).isSome then 0 else 4

theorem ReadOut.pair {C : Ctx} {H H' : AHeap} {bs : List UInt8} {r : Value} (h : ReadOut C H bs r H') : Same H H' ∧ ∃ v, r = .tuple #[pkV (outR bs).1 (outR bs).2.1 v, .int .i64 (errR bs)] ∧ Bs C H' v (outR bs).2.2 := by
  obtain ⟨h1, h2⟩ := h
  refine ⟨h1, ?_⟩
  unfold outR errR
  cases hr : readB bs with
  | none =>
    rw [hr] at h2
    exact ⟨_, h2, Bs.nil C H'⟩
  | some p =>
    obtain ⟨n, g, d⟩ := p
    rw [hr] at h2
    obtain ⟨v, h3, h4⟩ := h2
    exact ⟨v, h3, h4⟩

theorem awake_spec (w : World) {H : AHeap} : wpCall (ctxW w) (.func (.func 13) #[] #[]) [] H fun r H' => H' = H ∧ r = .bool true := wpCall_known (by rfl) ⟨rfl, rfl⟩

theorem wireBytes_walk (w : World) {H : AHeap} (hw : WF H) {n g : Int} {v u : Value} {d bs : List UInt8} (hd : Bs (ctxW w) H v d) (hb : BsS (ctxW w) H u bs) :
    wpCall (ctxW w) (.func (.func 3) #[] #[]) [pkV n g v, u] H fun r H' => r = .bool true := by
  obtain ⟨a, c, rfl⟩ := hd.val
  obtain ⟨ub, uc, rfl⟩ := hb.1.val
  refine wpCall_fn rfl (get3 w) ?_
  simp [ir3]
  refine w_box (cs := [.int .i64 n, .int .i64 g, .slice a d.length c]) hw (by simp [pkV]) rfl (by simp) fun p H1 hp => ?_
  have ld := fun off n => Obj1.load (C := ctxW w) (off := off) (n := n) hp.obj
  by_cases h1 : 500 < d.length
  · have e1 : (500 : Int) < d.length := by omega
    simp [ld, e1]
    refine wpCall_mono (awake_spec w) ?_
    rintro _ H1 ⟨rfl, rfl⟩
    simp
  · have e1 : ¬ ((500 : Int) < d.length) := by omega
    by_cases h2 : 500 < bs.length
    · have e2 : (500 : Int) < bs.length := by omega
      simp [ld, e1, e2]
      refine wpCall_mono (awake_spec w) ?_
      rintro _ H1 ⟨rfl, rfl⟩
      simp
    · have e2 : ¬ ((500 : Int) < bs.length) := by omega
      simp [ld, e1, e2]
      have hw1 := hp.same.wf'
      have f1 : Nat.beq H1.next p = false := nbeq' (by have := hp.next; omega)
      refine d_bs (esz := 1) (cs := []) hw1 (by simp [f1]) (by simp) (by simp) (by simp) fun q H2 hq hbq => ?_
      have hqp : q ≠ p := by have := hp.next; have := hq.new; omega
      have f2 : Nat.beq q p = false := nbeq' hqp
      have ld2 := fun off n => Obj1.load (C := ctxW w) (off := off) (n := n) (hp.obj.same hq.same)
      simp [ld2, f2]
      have hd2 := (hd.same hp.same).same hq.same
      refine d_app' (g := q) (n := 0) (m := d.length) (cs := []) (xs := d.map u8v) hq.same.wf' (by simpa using hbq) (by simp; exact hd2) (u8_scalar d) (by simp [roomy]; omega)
        (fun rd' md hmd => by
          have hf := free_rd_mod (C := ctxW w) (ri := rd') (mi := md) (x := p) fun y hy => by rw [hmd y hy]; exact hqp
          simp [hf]) fun x3 H3 rd' md hm3 hb3 hmd hrd => ?_
      have hs13 : Same H1 H3 := hq.same.then_mod hm3 (by have := hq.new; omega)
      have hb3r : Bs (ctxW w) H3 x3 d := by
        have := hb3.row (C := ctxW w)
        simpa [Bs] using this
      obtain ⟨a3, c3, rfl⟩ := hb3r.val
      simp
      refine wpCall_mono (wireBytes_spec w hs13.wf' n g hb3r) fun r4 H4 hr4 => ?_
      obtain ⟨hs4, x4, rfl, hb4⟩ := hr4.pair
      have hs14 := hs13.trans hs4
      have ld4 := fun off n => Obj1.load (C := ctxW w) (off := off) (n := n) (hp.obj.same hs14)
      simp [ld4]
      refine wpCall_mono (refBytes_spec w hs14.wf' n g ((hd.same hp.same).same hs14)) fun r5 H5 hr5 => ?_
      obtain ⟨hs5, x5, rfl, hb5⟩ := hr5.pair
      have hs05 := hp.same.trans (hs14.trans hs5)
      simp
      refine w_bs (esz := 1) (cs := []) hs05.wf' (by simp) (by simp) (by simp) fun q6 H6 hq6 hbq6 => ?_
      simp
      refine w_app (m := bs.length) (n := 0) (cs := []) (xs := bs.map u8v) hq6.same.wf' (by simpa using hbq6) (by simp; exact (hb.1.same hs05).same hq6.same) (u8_scalar bs) (by simp [roomy]; omega) fun x7 H7 hm7 hb7 => ?_
      have hs57 : Same H5 H7 := hq6.same.then_mod hm7 (by have := hq6.new; omega)
      have hb7s : BsS (ctxW w) H7 x7 bs := by
        refine Buf.bsS (g := q6) ?_
        simpa using hb7
      simp
      refine wpCall_mono (read_spec w hs57.wf' hb7s (by omega)) fun r8 H8 hr8 => ?_
      obtain ⟨hs8, x8, rfl, hb8⟩ := hr8.pair
      have hs58 := hs57.trans hs8
      simp
      refine w_mk hs58.wf' fun p9 H9 hp9 => ?_
      obtain ⟨a8, c8, rfl⟩ := hb8.val
      refine w_store (p := p9) (off := 0) (xs := [.int .i64 (outR bs).1, .int .i64 (outR bs).2.1, .slice a8 (outR bs).2.2.length c8]) hp9.same.wf' hp9.obj (by simp) (by simp [pkV]) rfl (by simp) (by simp) (by simp) fun H10 hm10 hn10 ho10 => ?_
      have hs5x : Same H5 H10 := (hs58.trans hp9.same).then_mod hm10 (by have := hp9.new; have := hs58.grow.next; omega)
      have hb10 : Bs (ctxW w) H10 (.slice a8 (outR bs).2.2.length c8) (outR bs).2.2 := Row.mod hm10 (hb8.same hp9.same) (Row.off hs58.wf' hb8 (by have := hp9.new; omega))
      simp
      have hs0x := hs05.trans hs5x
      refine wpCall_mono (refRead_spec w hs0x.wf' (hb.same hs0x) (by omega)) fun r11 H11 hr11 => ?_
      obtain ⟨hs11, x11, rfl, hb11⟩ := hr11.pair
      have hs0y := hs0x.trans hs11
      simp
      refine w_mk hs0y.wf' fun p12 H12 hp12 => ?_
      obtain ⟨a11, c11, rfl⟩ := hb11.val
      refine w_store (p := p12) (off := 0) (xs := [.int .i64 (outR bs).1, .int .i64 (outR bs).2.1, .slice a11 (outR bs).2.2.length c11]) hp12.same.wf' hp12.obj (by simp) (by simp [pkV]) rfl (by simp) (by simp) (by simp) fun H13 hm13 hn13 ho13 => ?_
      have hne : p9 ≠ p12 := by have := hp12.new; have := ho10.lt hs0x.wf'; have := hs11.grow.next; omega
      have hb13 : Bs (ctxW w) H13 (.slice a11 (outR bs).2.2.length c11) (outR bs).2.2 := Row.mod hm13 (hb11.same hp12.same) (Row.off hs0y.wf' hb11 (by have := hp12.new; omega))
      have hs5y : Same H5 H13 := ((hs5x.trans hs11).trans hp12.same).then_mod hm13 (by have := hp12.new; have := (hs5x.trans hs11).grow.next; omega)
      have hsxy : Same H10 H13 := (hs11.trans hp12.same).then_mod hm13 (by have := hp12.new; have := hs11.grow.next; omega)
      have ldA := fun off n => Obj1.load (C := ctxW w) (off := off) (n := n) (ho10.same hsxy)
      have ldB := fun off n => Obj1.load (C := ctxW w) (off := off) (n := n) ho13
      have hx4 := (hb4.same hs5).same hs5y
      have hx5 := hb5.same hs5y
      simp [ldA, ldB]
      refine w_toStr (bs := outB n g d) (by simp; exact hx4) ?_
      simp
      refine w_toStr (bs := outB n g d) (by simp; exact hx5) ?_
      simp [strV, ldA, ldB]
      refine w_toStr (bs := (outR bs).2.2) (by simp; exact hb10.same hsxy) ?_
      simp [ldB]
      refine w_toStr (bs := (outR bs).2.2) (by simp; exact hb13) ?_
      simp [strV]
      have hs0z := hs05.trans hs5y
      refine w_bs (esz := 1) (cs := []) hs0z.wf' (by simp) (by simp) (by simp) fun q14 H14 hq14 hbq14 => ?_
      simp
      refine w_app (m := bs.length) (n := 0) (cs := []) (xs := bs.map u8v) hq14.same.wf' (by simpa using hbq14) (by simp; exact (hb.1.same hs0z).same hq14.same) (u8_scalar bs) (by simp [roomy]; omega) fun x15 H15 hm15 hb15 => ?_
      have hb15r : Bs (ctxW w) H15 x15 bs := by
        have := hb15.row (C := ctxW w)
        simpa [Bs] using this
      have hs015 : Same H H15 := hs0z.trans (hq14.same.then_mod hm15 (by have := hq14.new; omega))
      simp
      refine wpCall_mono (sum_spec w hb15r (by omega)) ?_
      rintro _ H15 ⟨rfl, rfl⟩
      simp
      refine wpCall_mono (refSum_spec w (hb.1.same hs015) (by omega)) ?_
      rintro _ H15 ⟨rfl, rfl⟩
      simp
      refine wpCall_mono (awake_spec w) ?_
      rintro _ H15 ⟨rfl, rfl⟩
      simp
end Go.Ai.Wire
