/-
  Bytes of an argument, in the evaluator's memory.
-/
import Derived.Test.YtlikgpehalhgkaaWA
import Derived.Test.YtlikgpehalhgkaaAiG
import Derived.ChangeSlices
import Derived.WideShapes
namespace Go.Ai.Wire
open Go.Proofs Go.IntWalk

variable {H : Type} {enc : TypeId × Value → H} {P : Program} {w : World} {held : Bool}

theorem cell_inv {a : Addr} {v : Value} (h : w.cell? a = some v) : ∃ cs e fz, w.heap[a.block]? = some (.cells cs e fz) ∧ a.spot = none ∧ cs[a.off]? = some v := by
  unfold World.cell? at h
  split at h
  · rename_i c e f hh
    split at h
    · cases h
    · rename_i hs
      exact ⟨c, e, f, hh, by simpa using hs, h⟩
  · cases h

theorem open_bytes {C : Ctx} (hC : C.w0 = w) {t e : TypeId} {fuel : Nat} {v : Value} {x : DataW H × List MemPlace} (ht : P.underlying t = some (.slice e)) (he : P.underlying e = some (.int .u8)) (hc : P.cellsOf e = 1) (hv : v.cells.toList = [v])
    (h : DataW.trod enc P w 0 (fun _ => true) held fuel t v.cells.toList = some x) : ∃ (bs : List UInt8) (v0 : Value), VRel (rawPhi w) v0 v ∧ BsS C (rawHeap w) v0 bs := by
  rw [hv] at h
  rcases Go.ChangeShapes.open_ints ht he hc h with ⟨hcs, _⟩ | ⟨a, len, cap, zs, hcs, _, hl, _, hz, _, hcell, hwf⟩
  · simp at hcs
    subst hcs
    exact ⟨[], .slice none 0 0, .sliceNil, Bs.nil _ _, none, 0, rfl, by simp, by simp⟩
  · simp at hcs
    subst hcs
    simp at hz
    by_cases h0 : cap = 0
    · subst h0
      have : len = 0 := by omega
      subst this
      refine ⟨[], .slice (some ⟨0, 0, none⟩) 0 0, .slice0 _ _, ⟨rfl, some ⟨0, 0, none⟩, 0, rfl, by simp, by simp⟩, some ⟨0, 0, none⟩, 0, rfl, by simp, by simp⟩
    · have hc0 := hcell 0 (by omega)
      rw [show a.add 0 = a from by simp [Addr.add]] at hc0
      obtain ⟨cs, ty, fz, hh, hsp, _⟩ := cell_inv hc0
      obtain ⟨b, off, sp⟩ := a
      simp at hsp hh
      subst hsp
      have hblt := (Array.getElem?_eq_some_iff.1 hh).1
      have hat : ∀ i, i < cap → cs[off + i]? = some (.int .u8 (zs.getD i 0)) := by
        intro i hi
        have := hcell i (by omega)
        rw [addr_add] at this
        simpa [World.cell?, hh] using this
      have hsz : off + cap ≤ cs.size := by
        have := hat (cap - 1) (by omega)
        have := (Array.getElem?_eq_some_iff.1 this).1
        omega
      let bs : List UInt8 := (zs.take len).map fun z => UInt8.ofNat z.toNat
      have hbl : bs.length = len := by simp [bs]; omega
      have hrow : Bs C (rawHeap w) (.slice (some ⟨b, off, none⟩) len cap) bs := by
        refine ⟨by simp, some ⟨b, off, none⟩, cap, by rw [hbl], by simp, fun b' hb' _ => ?_⟩
        cases hb'
        rw [hbl, Nat.mul_one, raw_load hC hh (by omega)]
        congr 1
        apply List.ext_getElem?
        intro i
        simp only [List.getElem?_map, List.getElem?_take, List.getElem?_drop]
        by_cases hi : i < len
        · rw [if_pos hi, Array.getElem?_toList, hat i (by omega)]
          have hz1 : i < zs.length := by omega
          have hw1 := hwf zs[i] (List.getElem_mem hz1)
          simp [bs, List.getElem?_take, hi, hz1, scrub, cleanS, u8v]
          have hw2 : IntKind.u8.min ≤ zs[i] ∧ zs[i] ≤ IntKind.u8.max := by simpa [Lit.wf] using hw1
          have : 0 ≤ zs[i] ∧ zs[i] ≤ 255 := hw2
          omega
        · rw [if_neg hi]
          simp [bs, List.getElem?_take, hi]
      refine ⟨bs, .slice (some ⟨b, off, none⟩) len cap, ?_, hrow, some ⟨b, off, none⟩, cap, by rw [hbl], by omega, fun b' hb' _ => ?_⟩
      · exact cleanS_rel (rawPhi_old w) (by simp [cleanS, hblt])
      · cases hb'
        exact .inl ⟨rawHeap_get hblt, rfl⟩
end Go.Ai.Wire
