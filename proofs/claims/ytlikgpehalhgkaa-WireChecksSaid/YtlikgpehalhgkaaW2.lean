/-
  Numbers in two bytes.
-/
import Derived.Test.YtlikgpehalhgkaaW1
namespace Go.Ai.Wire
open Go.Proofs Go.IntWalk

def i64v (n : Nat) : Value := .int .i64 n
def be (n : Nat) : List UInt8 := [UInt8.ofNat (n / 256), UInt8.ofNat n]

theorem wrap_hi {n : Nat} (h : n < 65536) : IntKind.u8.wrap (IntKind.i64.wrap ((n : Int) / 256)) = (n : Int) / 256 % 256 := by
  rw [i64_in _ (by omega), IntKind.wrap_u8]
theorem wrap_lo (n : Nat) : IntKind.u8.wrap (n : Int) = (n : Int) % 256 := by rw [IntKind.wrap_u8]

theorem two_spec (w : World) {H : AHeap} (hw : WF H) {v l : Value} {g : Nat} {bs : List UInt8} {ns : List Nat} (hb : (v = .slice none 0 0 ∧ bs = []) ∨ Buf H v g 1 bs.length (bs.map u8v)) (hl : Row (ctxW w) H l 1 ns.length (ns.map i64v)) (hoff : Off g l)
    (hns : ∀ n ∈ ns, n < 65536) (hne : ns ≠ []) (hlen : bs.length ≤ 1000 ∧ ns.length ≤ 100) :
    wpCall (ctxW w) (.func (.func 71) #[] #[]) [v, l] H (Grew H g 1 (bs.length + 2 * ns.length) ((bs ++ ns.flatMap be).map u8v)) := by
  obtain ⟨_, a, c, rfl, _⟩ := id hl
  refine wpCall_fn rfl (get71 w) ?_
  simp [ir71]
  refine wp_loop' (fun n s => ∃ (T : Env) (H1 : AHeap) (i : Nat) (v : Value), s = ⟨T, H1, []⟩ ∧ n = ns.length - i ∧ i ≤ ns.length ∧ T.val 0 = v ∧ T.val 7 = .slice a ns.length c ∧ T.val 8 = .int .i64 ns.length ∧ T.val 9 = .int .i64 i ∧
    ((v = .slice none 0 0 ∧ bs = [] ∧ i = 0 ∧ H1 = H) ∨ Grew H g 1 (bs.length + 2 * i) ((bs ++ (ns.take i).flatMap be).map u8v) v H1)) (n := ns.length)
    ⟨_, H, 0, v, rfl, rfl, Nat.zero_le _, by simp, by simp, by simp, by simp, by
      rcases hb with ⟨h1, h2⟩ | h
      · exact .inl ⟨h1, h2, rfl, rfl⟩
      · exact .inr ⟨(Same.refl hw).mod, g, .inl rfl, by simpa using h⟩⟩ ?_
  rintro n s K ⟨T, H1, i, v, rfl, rfl, hi, h0, h7, h8, h9, hb⟩ hnext hexit
  by_cases hlt : i < ns.length
  · have hm : Mod g H H1 := by
      rcases hb with ⟨_, _, _, rfl⟩ | hb
      · exact (Same.refl hw).mod
      · exact hb.mod
    obtain ⟨b, rfl, _, hld⟩ := Row.at (hl.mod hm hoff) (i := i) (by omega)
    simp [i64v] at hld
    simp [h0, h7, h8, h9, hlt, hld]
    have hn := hns ns[i] (List.getElem_mem hlt)
    have htk : (ns.take (i + 1)).flatMap be = (ns.take i).flatMap be ++ be ns[i] := by rw [List.take_succ_eq_append_getElem hlt, List.flatMap_append]; simp only [List.flatMap_cons, List.flatMap_nil, List.append_nil]
    refine w_bs (esz := 1) (cs := (be ns[i]).map u8v) hm.wf' (by simp [wrap_hi hn, wrap_lo, be, u8v]) (by simp [be]) (by simp [be, u8v]) fun p H2 hp hbp => ?_
    rcases hb with ⟨hv, hbs, hi0, rfl⟩ | hb
    · subst hi0
      refine w_app0 (m := 2) (xs := (be ns[0]).map u8v) hp.same.wf' (by simp [h0, hv]) (by simpa using hbp.row) (by omega) (by simp [be, u8v]) (by simp [roomy]) fun v' H3 hs3 hb3 => ?_
      simp [h7, h8, h9, hlt]
      refine hnext (ns.length - 1) _ (by omega) ⟨_, H3, 1, v', rfl, rfl, by omega, by simp, by simp [h7], by simp [h8], by simp [i64_in], .inr ⟨(hp.same.trans hs3).mod, H2.next, .inr (by have := hp.same.grow.next; omega), ?_⟩⟩
      rw [htk]
      simpa [hbs] using hb3
    · obtain ⟨hmod, g', hg', hbuf⟩ := hb
      have hne' : g' ≠ p := by have := hbuf.lt hmod.wf'; have := hp.new; omega
      refine w_app (n := bs.length + 2 * i) (m := 2) (xs := (be ns[i]).map u8v) hp.same.wf' (by simpa [h0] using hbuf.same hp.same) (by simpa using hbp.row) (by simp [be, u8v]) (by simp [roomy]; omega) fun v' H3 hm3 hb3 => ?_
      simp [h7, h8, h9, hlt]
      refine hnext (ns.length - (i + 1)) _ (by omega) ⟨_, H3, i + 1, v', rfl, rfl, by omega, by simp, by simp [h7], by simp [h8], by simp; rw [i64_in _ (by omega)],
        .inr ⟨(hmod.after (g' := g) hp.same.mod (.inl rfl)).after hm3 hg', g', hg', ?_⟩⟩
      rw [htk, ← List.append_assoc, List.map_append, List.map_append]
      exact hb3
  · have : i = ns.length := by omega
    subst this
    simp [h0, h7, h8, h9]
    refine hexit _ _ (by simp) ?_
    rcases hb with ⟨_, _, h, _⟩ | hb
    · exact absurd (List.length_eq_zero_iff.1 h) hne
    · rw [List.take_length] at hb
      simp [h0]
      simpa using hb

theorem refTwo_spec (w : World) {H : AHeap} (hw : WF H) {n : Nat} (hn : n < 65536) :
    wpCall (ctxW w) (.func (.func 48) #[] #[]) [i64v n] H fun r H' => Same H H' ∧ Buf H' r H.next 1 2 ((be n).map u8v) := by
  refine wpCall_fn rfl (get48 w) ?_
  simp [ir48, i64v]
  refine w_bs (esz := 1) (cs := (be n).map u8v) hw ?_ (by simp [be]) (by simp [be, u8v]) fun p H2 hp hbp => ?_
  · simp [be, u8v, wrap_hi hn, wrap_lo]
    rw [IntKind.wrap_u8, Int.tmod_eq_emod_of_nonneg (by omega)]
    omega
  · simp
    have := hp.new
    subst this
    exact ⟨hp.same, hbp⟩
end Go.Ai.Wire
