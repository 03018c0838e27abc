/-
  The bytes of a packet.
-/
import Derived.Test.YtlikgpehalhgkaaW3
namespace Go.Ai.Wire
open Go.Proofs Go.IntWalk

def headB (n g : Nat) (d : List UInt8) : List UInt8 := be n ++ (be g ++ (be d.length ++ d))
def enc (n g : Nat) (d : List UInt8) : List UInt8 := headB n g d ++ be (sumF 0 0 (headB n g d))

theorem sumF_lt : ∀ (l : List UInt8) (n i : Nat), n < 65521 → sumF n i l < 65521
  | [], n, i, h => h
  | b :: r, n, i, h => sumF_lt r _ _ (Nat.mod_lt _ (by omega))

theorem bytes_buf (w : World) {H : AHeap} (hw : WF H) {n g : Nat} (hn : n ≤ 60000) (hg : g ≤ 60000) {v : Value} {d : List UInt8} (hd : Bs (ctxW w) H v d) (hlen : d.length ≤ 500) :
    wpCall (ctxW w) (.func (.func 46) #[] #[]) [pkV n g v] H fun r H' => Same H H' ∧ ∃ q, H.next ≤ q ∧ Buf H' r q 1 (enc n g d).length ((enc n g d).map u8v) := by
  obtain ⟨a, c, rfl⟩ := hd.val
  refine wpCall_fn rfl (get46 w) ?_
  simp [ir46]
  refine w_box (cs := [.int .i64 n, .int .i64 g, .slice a d.length c]) hw (by simp [pkV]) rfl (by simp) fun p H1 hp => ?_
  have ld := fun off n => Obj1.load (C := ctxW w) (off := off) (n := n) hp.obj
  simp [ld, freeAll]
  refine d_bs (esz := 1) (cs := [n, g, d.length].map i64v) hp.same.wf' rfl (by simp [i64v]) (by simp) (by simp [i64v]) fun q H2 hq hbq => ?_
  simp
  have hd2 := (hd.same hp.same).same hq.same
  refine wpCall_mono (two_spec w (g := H2.next) (bs := []) (ns := [n, g, d.length]) hq.same.wf' (.inl ⟨rfl, rfl⟩) (by simpa using hbq.row) (hbq.off (by have := hq.next; omega)) (by simp; omega) (by simp) (by simp)) ?_
  rintro r H3 ⟨hm, g', hg', hb⟩
  have hs3 : Same H2 H3 := hm.same_of (Nat.le_refl _)
  have ho3 := (hp.obj.same hq.same).same hs3
  have ld3 := fun off n => Obj1.load (C := ctxW w) (off := off) (n := n) ho3
  have hpq : Nat.beq q p = false := nbeq' (by have := hp.next; have := hq.new; omega)
  have hfc : free (ctxW w) (.call H2 H3) (.exp [p] []) = true := free_call_rd (eqbW w) hs3 (by simp; obtain ⟨e, h⟩ := hp.obj.same hq.same; rw [h]; simp)
  simp [ld3, freeAll, hfc, hpq]
  have hge : H.next ≤ g' := by have := hp.next; have := hp.new; have := hq.next; have := hq.new; omega
  have hs13 : Same H H3 := (hp.same.trans hq.same).trans hs3
  refine d_app (g := g') (n := 6) (cs := (be n ++ (be g ++ be d.length)).map u8v) (xs := d.map u8v) (m := d.length) hs3.wf' (by simpa using hb) (by simp; exact hd2.same hs3) (u8_scalar d) (by simp [roomy]; omega) (by simp [freeAll]) fun v4 H4 rd md hm4 hb4 _ => ?_
  have hs4 := hs13.then_mod hm4 hge
  have hb4' : Buf H4 v4 g' 1 (headB n g d).length ((headB n g d).map u8v) := by
    have e : (headB n g d).length = 6 + d.length := by simp [headB, be]; omega
    rw [e]
    simpa [headB] using hb4
  simp
  refine wpCall_mono (sum_spec w (bs := headB n g d) hb4'.row (by simp [headB, be]; omega)) ?_
  rintro _ _ ⟨rfl, rfl⟩
  simp
  refine w_bs (esz := 1) (cs := [sumF 0 0 (headB n g d)].map i64v) hs4.wf' (by simp [i64v]) (by simp) (by simp [i64v]) fun q5 H5 hq5 hbq5 => ?_
  simp
  have hlt4 := hb4'.lt hs4.wf'
  refine wpCall_mono (two_spec w (g := g') (bs := headB n g d) (ns := [sumF 0 0 (headB n g d)]) hq5.same.wf' (.inr (hb4'.same hq5.same)) (by simpa using hbq5.row) (hbq5.off (by have := hq5.new; omega)) (by simp; have := sumF_lt (headB n g d) 0 0 (by omega); omega) (by simp)
    (by simp [headB, be]; omega)) ?_
  rintro r6 H6 ⟨hm6, g6, hg6, hb6⟩
  simp
  refine ⟨(hs4.trans hq5.same).then_mod hm6 hge, g6, ?_, ?_⟩
  · have := hs4.grow.next
    have := hq5.same.grow.next
    rcases hg6 with rfl | h <;> omega
  · have e : (enc n g d).length = (headB n g d).length + 2 := by simp [enc, be]
    rw [e]
    simpa [enc] using hb6

theorem bytes_spec (w : World) {H : AHeap} (hw : WF H) {n g : Nat} (hn : n ≤ 60000) (hg : g ≤ 60000) {v : Value} {d : List UInt8} (hd : Bs (ctxW w) H v d) (hlen : d.length ≤ 500) :
    wpCall (ctxW w) (.func (.func 46) #[] #[]) [pkV n g v] H fun r H' => Same H H' ∧ Bs (ctxW w) H' r (enc n g d) := by
  refine wpCall_mono (bytes_buf w hw hn hg hd hlen) ?_
  rintro r H' ⟨h1, q, _, h2⟩
  exact ⟨h1, h2.row⟩
end Go.Ai.Wire
