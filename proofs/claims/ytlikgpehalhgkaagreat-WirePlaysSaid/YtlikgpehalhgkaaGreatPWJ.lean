/-
  An end at work hands a frame on, and all early ones that follow.
  An early frame is put among the others.
  An end at work keeps a frame; it takes bytes that come.
-/
import Derived.Test.YtlikgpehalhgkaaGreatPWI
import Derived.Test.YtlikgpehalhgkaaGreatPWG
import Derived.Test.YtlikgpehalhgkaaGreatPWAa
namespace Go.Ai.Wire
open Go.Proofs Go.IntWalk
attribute [local irreducible] Trie.put

/-- How many of the early frames follow. -/
def follow (got : Int) : List Itm → Nat
  | [] => 0
  | y :: r => if y.1 = got + 1 then follow (got + 1) r + 1 else 0

/-- An end behind a frame that it handed on. -/
def handed (x : EndA) : EndA := ⟨x.last, x.opens, x.got + 1 + follow (x.got + 1) x.early, x.early.drop (follow (x.got + 1) x.early)⟩
def hands (x : EndA) (d : List UInt8) : List (List UInt8) := d :: (x.early.take (follow (x.got + 1) x.early)).map (·.2)

theorem Step.then_mod {A : List Nat} {H H1 H2 : AHeap} {col c1 : Nat → Nat} (h : Step A H col H1 c1) {g : Nat} (hm : Mod g H1 H2) (hg : H.next ≤ g) : Step A H col H2 c1 :=
  ⟨h.wf, h.grow.trans hm.grow, fun b hb => h.bare b (Nat.le_trans hm.grow.next hb), h.keep, fun b hb hn => (hm.same b (Nat.lt_of_lt_of_le hb h.grow.next) (by omega)).trans (h.same b hb hn)⟩
theorem Step.then_same {A : List Nat} {H H1 H2 : AHeap} {col c1 : Nat → Nat} (h : Step A H col H1 c1) (hs : Same H1 H2) : Step A H col H2 c1 :=
  ⟨h.wf, h.grow.trans hs.grow, fun b hb => h.bare b (Nat.le_trans hs.grow.next hb), h.keep, fun b hb hn => (hs.same b (Nat.lt_of_lt_of_le hb h.grow.next)).trans (h.same b hb hn)⟩

section
variable {C : Ctx} {H H' : AHeap} {col col' : Nat → Nat} {A : List Nat}
theorem FrC.step (hs : Step A H col H' col') (h0 : 0 ∉ A) {l : List (List UInt8)} {cs : List Value} (h : FrC C H l cs) (hp : Plain col cs) : FrC C H' l cs := by
  induction h with
  | nil => exact .nil
  | cons h1 _ ih =>
    refine .cons (Bs.step hs h0 h1 (hp _ (by simp))) (ih fun v hv => hp v ?_)
    simp [hv]
theorem FrC.keep (hs : Step A H col H' col') {l : List (List UInt8)} {cs : List Value} (h : FrC C H l cs) (hp : Plain col cs) : Plain col' cs := by
  intro u hu a m c he hm
  rw [hs.keep _ (h.lt hs.wf u hu a m c he hm)]
  exact hp u hu a m c he hm
theorem FrC.scal {l : List (List UInt8)} {cs : List Value} (h : FrC C H l cs) : cs.all scalar = true := by
  induction h with
  | nil => rfl
  | cons h1 _ ih =>
    obtain ⟨a, c, rfl⟩ := h1.val
    rw [List.all_cons, ih]
    rfl

/-- Bytes' slices that nobody turns. -/
def WFrs (C : Ctx) (H : AHeap) (col : Nat → Nat) (v : Value) (l : List (List UInt8)) : Prop :=
  ∃ cs, FrC C H l cs ∧ Row C H v 1 l.length cs ∧ Plain col cs ∧ ∀ a n c, v = .slice (some a) n c → n ≠ 0 → col a.block = 0

theorem WFrs.frs {v : Value} {l : List (List UInt8)} (h : WFrs C H col v l) : Frs C H v l := let ⟨cs, h1, h2, _⟩ := h; ⟨cs, h1, h2⟩
theorem WFrs.val {v : Value} {l : List (List UInt8)} (h : WFrs C H col v l) : ∃ a c, v = .slice a l.length c := h.frs.val
theorem WFrs.nil (C : Ctx) (H : AHeap) (col : Nat → Nat) : WFrs C H col (.slice none 0 0) [] := ⟨[], .nil, ⟨rfl, none, 0, rfl, by simp, by simp⟩, (fun v hv => by cases hv), fun a n c h => by cases h⟩

theorem Row.step (hs : Step A H col H' col') (h0 : 0 ∉ A) {v : Value} {esz m : Nat} {xs : List Value} (h : Row C H v esz m xs) (hp : ∀ a n c, v = .slice (some a) n c → n ≠ 0 → col a.block = 0) : Row C H' v esz m xs := by
  obtain ⟨h1, a, c, rfl, h3, h4⟩ := h
  refine ⟨h1, a, c, rfl, h3, fun b hb hm => ?_⟩
  subst hb
  have hl := h4 b rfl hm
  have hlt := load_lt hs.wf hl
  rw [loadN_congr (M := H.get) (hs.same _ hlt (by rw [hp b _ _ rfl hm]; exact h0))]
  exact hl

theorem WFrs.step (hs : Step A H col H' col') (h0 : 0 ∉ A) {v : Value} {l : List (List UInt8)} (h : WFrs C H col v l) : WFrs C H' col' v l := by
  obtain ⟨cs, h1, h2, h3, h4⟩ := h
  refine ⟨cs, h1.step hs h0 h3, Row.step hs h0 h2 h4, h1.keep hs h3, fun a n c he hn => ?_⟩
  obtain ⟨_, a', c', he', _, h5⟩ := h2
  rw [he] at he'
  cases he'
  rw [hs.keep _ (load_lt hs.wf (h5 a rfl hn))]
  exact h4 a _ c he hn

end

set_option maxHeartbeats 2000000 in
theorem hand_spec (w : World) {H : AHeap} (hw : WF H) {col : Nat → Nat} (hbare : Bare col H) {k q : Nat} (k0 : k ≠ 0) {x : EndA} (hx : WEnd (ctxW w) H col k q x) (hg : 0 ≤ x.got ∧ x.got ≤ 60000) (hl : x.early.length ≤ 1000) {v : Value} {d : List UInt8}
    (hd : Bs (ctxW w) H v d) (hdp : ∀ a n c, v = .slice (some a) n c → n ≠ 0 → col a.block = 0) :
    wpCall (ctxW w) (.func (.func 100) #[] #[]) [.pointer (some ⟨q, 0, none⟩), v] H fun r H' => Step [k] H col H' col ∧ WEnd (ctxW w) H' col k q (handed x) ∧ WFrs (ctxW w) H' col r (hands x d) := by
  obtain ⟨ov, ev, hq, hcq, ho, he⟩ := hx
  obtain ⟨a1, c1, rfl⟩ := ho.val
  obtain ⟨a2, c2, rfl⟩ := he.val
  obtain ⟨da, dc, rfl⟩ := hd.val
  refine wpCall_fn rfl (get100 w) ?_
  simp [ir100]
  refine w_bs (esz := 1) (cs := [.slice da d.length dc]) hw (by simp) (by simp) (by simp) fun q1 H1 hq1 hb1 => ?_
  simp
  refine w_app0 (m := 1) (xs := [.slice da d.length dc]) hq1.same.wf' (by simp) (by simpa using hb1.row) (by omega) (by simp) (by simp [roomy]) fun v2 H2 hs2 hb2 => ?_
  have hs02 := hq1.same.trans hs2
  have n1 := hq1.next
  simp
  have hq2 := hq.same hs02
  have ldq2 := fun off n => Obj1.load (C := ctxW w) (off := off) (n := n) hq2
  have w1 : IntKind.i64.wrap (x.got + 1) = x.got + 1 := i64_in _ (by omega)
  simp [ldq2, w1]
  refine w_store (p := q) (off := 2) (xs := [.int .i64 (x.got + 1)]) hs02.wf' hq2 (by simp) (by simp) rfl (by simp) (by simp) (by simp) fun H3 hm3 hn3 ho3 => ?_
  simp at ho3
  have hqlt := hq.lt hw
  have hlt02 := hs02.grow.next
  have st3 : Step [k] H col H3 col := (Step.of_same (A := []) hs02 hbare).more (by simp) |>.trans (Step.of_mod hm3 (fun b hb => hbare b (by omega)) (by rw [hcq]; simp))
  have n01 := hq1.same.grow.next
  have hb3 := hb2.mod hm3 (show H1.next ≠ q by omega)
  obtain ⟨b2, hv2, _, _⟩ := hb3.load (C := ctxW w)
  subst hv2
  simp
  -- what was there, wherever a step turns only this end's own cells
  have hev : WIts (ctxW w) H col (k + 2) (.slice a2 x.early.length c2) x.early := he
  have hits := hev.its
  have hd0 : Bs (ctxW w) H (.slice da d.length dc) d := hd
  have hkn : (0 : Nat) ∉ [k] := by simp; omega
  refine wp_loop' (fun n s => ∃ (T : Env) (H4 : AHeap) (t : Nat) (fr e4 : Value) (cs : List Value), s = ⟨T, H4, []⟩ ∧ n = x.early.length - t ∧ t ≤ x.early.length ∧ follow (x.got + 1 + t) (x.early.drop t) + t = follow (x.got + 1) x.early ∧
      T.val 0 = .pointer (some ⟨q, 0, none⟩) ∧ T.val 4 = fr ∧ Step [k] H col H4 col ∧ Obj1 H4 q [.int .i64 x.last, .slice a1 x.opens.length c1, .int .i64 (x.got + 1 + t), e4] ∧ WIts (ctxW w) H col (k + 2) e4 (x.early.drop t) ∧
      Buf H4 fr H1.next 1 (t + 1) cs ∧ FrC (ctxW w) H (d :: (x.early.take t).map (·.2)) cs ∧ Plain col cs) (n := x.early.length) ?_ ?_
  · refine ⟨_, H3, 0, _, _, _, rfl, rfl, Nat.zero_le _, by simp, by simp, rfl, st3, by simpa using ho3, by simpa using hev, by simpa using hb3, ?_, ?_⟩
    · simp
      exact .cons hd0 .nil
    · intro u hu a n c he' hn
      simp at hu
      subst hu
      exact hdp a n c he' hn
  rintro n s K ⟨T, H4, t, fr, e4, cs, rfl, rfl, htl, hfol, t0, t4, st, ho4, hev4, hb4, hfc, hpl⟩ hnext hexit
  have hlt0 := st.grow.next
  have hqlt4 : q < H4.next := by omega
  have ldq4 := fun off n => Obj1.load (C := ctxW w) (off := off) (n := n) ho4
  have hev4' : WIts (ctxW w) H4 col (k + 2) e4 (x.early.drop t) := hev4.step st hkn (by simp)
  have hdl : (x.early.drop t).length = x.early.length - t := by rw [List.length_drop]
  obtain ⟨ea, ec, rfl⟩ := hev4'.val
  have fin : follow (x.got + 1 + t) (x.early.drop t) = 0 → Step [k] H col H4 col ∧ WEnd (ctxW w) H4 col k q (handed x) ∧ WFrs (ctxW w) H4 col fr (hands x d) := by
    intro h0
    have hm : follow (x.got + 1) x.early = t := by omega
    refine ⟨st, ⟨.slice a1 x.opens.length c1, .slice ea (x.early.drop t).length ec, ?_, hcq, ho.step st hkn (by simp), ?_⟩, cs, ?_, ?_, hpl, ?_⟩
    · unfold handed
      rw [hm]
      exact ho4
    · unfold handed
      rw [hm]
      exact hev4'
    · unfold hands
      rw [hm]
      exact hfc.step st hkn hpl
    · have := hb4.row (C := ctxW w)
      unfold hands
      rw [hm]
      have e : (d :: (x.early.take t).map (·.2)).length = t + 1 := by simp; omega
      rw [e]
      exact this
    · intro a n c he' hn
      obtain ⟨a', he'', hbl, _⟩ := hb4.load (C := ctxW w)
      rw [he''] at he'
      cases he'
      exact hbare _ (by omega)
  by_cases hlt : t < x.early.length
  · have h0 : 0 < (x.early.drop t).length := by omega
    obtain ⟨b, ya, yc, rfl, l1H, l2H, l3H, hy⟩ := hev4.its.at h0
    obtain ⟨g4, cs4, _, hbg4, hcg4, hic4, hpl4⟩ := hev4.cells
    obtain ⟨_, _, he4, _, hblk, hcl4, hld4⟩ := hbg4.load (C := ctxW w)
    cases he4
    have hxs : [Value.int .i64 (x.early.drop t)[0].1, .slice ya (x.early.drop t)[0].2.length yc] = (cs4.drop 0).take 2 := by
      have h2 := loadN_sub hld4 (i := 0) (m := 2) (by omega)
      simp only [Nat.zero_mul] at l3H
      rw [l3H] at h2
      exact Option.some.inj h2
    have hyp : ∀ a n c, Value.slice ya (x.early.drop t)[0].2.length yc = .slice (some a) n c → n ≠ 0 → col a.block = 0 := by
      refine ((hpl4.drop 0).take 2) _ ?_
      rw [← hxs]
      simp
    have hsame : H4.get b.block = H.get b.block := st.same _ (load_lt hw l1H) (by
      show ¬ col b.block ∈ [k]
      rw [hblk, hcg4]
      simp)
    have l1 : loadN (ctxW w) H4.get (aadd b (0 * 2)) 1 = some [.int .i64 (x.early.drop t)[0].1] := by rw [loadN_congr (M := H.get) (show H4.get (aadd b (0 * 2)).block = _ from hsame)]; exact l1H
    have l2 : loadN (ctxW w) H4.get (aadd b (0 * 2 + 1)) 1 = some [.slice ya (x.early.drop t)[0].2.length yc] := by rw [loadN_congr (M := H.get) (show H4.get (aadd b (0 * 2 + 1)).block = _ from hsame)]; exact l2H
    have hy0 : (x.early.drop t)[0] = x.early[t] := by simp
    have hfol1 : follow (x.got + 1 + t) (x.early.drop t) = if x.early[t].1 = x.got + 1 + t + 1 then follow (x.got + 1 + t + 1) (x.early.drop (t + 1)) + 1 else 0 := by
      rw [List.drop_eq_getElem_cons hlt]
      rfl
    rw [hy0] at l1 l2 hy hyp
    have e0 : (0 : Int) < (x.early.drop t).length := by omega
    have e0' : (t : Int) < x.early.length := by omega
    have w4 : IntKind.i64.wrap (x.got + 1 + t + 1) = x.got + 1 + t + 1 := i64_in _ (by omega)
    simp at l1 l2 
    have e7 : 0 < x.early.length - t := by omega
    have e8 : (0 : Int) < ((x.early.length - t : Nat) : Int) := by omega
    by_cases heq : x.early[t].1 = x.got + 1 + t + 1
    · simp [t0, t4, ldq4, hdl, e7, l1, l2, w4, heq]
      refine w_bs (esz := 1) (cs := [.slice ya x.early[t].2.length yc]) st.wf' (by simp) (by simp) (by simp) fun q5 H5 hq5 hb5 => ?_
      have st5 := st.then_same hq5.same
      simp
      refine w_app (g := H1.next) (n := t + 1) (m := 1) (cs := cs) (xs := [.slice ya x.early[t].2.length yc]) st5.wf' (by simpa [t4] using hb4.same hq5.same) (by simpa using hb5.row) (by simp) (by simp [roomy]; omega) fun v6 H6 hm6 hb6 => ?_
      have st6 := st5.then_mod hm6 (by omega)
      have ho6 := (ho4.same hq5.same).mod hm6 (by omega)
      have ldq6 := fun off n => Obj1.load (C := ctxW w) (off := off) (n := n) ho6
      have hev6 : WIts (ctxW w) H6 col (k + 2) (.slice (some b) (x.early.drop t).length ec) (x.early.drop t) := hev4.step st6 hkn (by simp)
      obtain ⟨g6, cs6, _, hbg6, _, _, _⟩ := hev6.cells
      obtain ⟨_, _, he6, hnc6, _⟩ := hbg6.load (C := ctxW w)
      cases he6
      rw [hdl] at hnc6
      simp [t0, ldq6, hdl]
      refine w_sliceB (a := b) (n := x.early.length - t) (c := ec) (by simp) hbg6.slc (bounds_lo (l := 1) (k := .i64) (by simp) (by omega) hnc6) ?_
      simp
      refine w_store (p := q) (off := 3) (xs := [.slice (some (aadd b (1 * 2))) (x.early.length - t - 1) (ec - 1)]) st6.wf' ho6 (by simp) (by simp) rfl (by simp) (by simp) (by simp) fun H7 hm7 hn7 ho7 => ?_
      have st7 : Step [k] H col H7 col := st6.trans (Step.of_mod hm7 st6.bare (by rw [hcq]; simp))
      have ldq7 := fun off n => Obj1.load (C := ctxW w) (off := off) (n := n) ho7
      simp [t0, ldq7, w4]
      refine w_store (p := q) (off := 2) (xs := [.int .i64 (x.got + 1 + t + 1)]) st7.wf' ho7 (by simp) (by simp) rfl (by simp) (by simp) (by simp) fun H8 hm8 hn8 ho8 => ?_
      have st8 : Step [k] H col H8 col := st7.trans (Step.of_mod hm8 st7.bare (by rw [hcq]; simp))
      simp at ho8
      simp
      have hsub := hev4.sub (i := 1) (u := (x.early.drop t).length) (by omega) (Nat.le_refl _)
      rw [List.take_length, List.drop_drop, hdl] at hsub
      have hb8 := (hb6.mod hm7 (show H1.next ≠ q by omega)).mod hm8 (show H1.next ≠ q by omega)
      have eg : x.got + 1 + ((t + 1 : Nat) : Int) = x.got + 1 + t + 1 := by omega
      refine hnext (x.early.length - (t + 1)) _ (by omega) ⟨_, H8, t + 1, v6, _, _, rfl, rfl, by omega, ?_, by simp [t0], by simp, st8, by rw [eg]; exact ho8, hsub, hb8, ?_, ?_⟩
      · rw [eg]
        rw [hfol1, if_pos heq] at hfol
        omega
      · rw [List.take_add_one, List.getElem?_eq_getElem hlt]
        simp only [Option.toList_some, List.map_append, List.map_cons, List.map_nil]
        exact hfc.app (.cons hy .nil)
      · refine hpl.app fun u hu a n c he' hn => ?_
        simp only [List.mem_cons, List.not_mem_nil, or_false] at hu
        subst hu
        exact hyp a n c he' hn
    · simp [t0, ldq4, hdl, e7, l1, w4, heq]
      refine hexit _ _ (by simp) ?_
      simp [t4]
      exact fin (by rw [hfol1, if_neg heq])
  · have : t = x.early.length := by omega
    subst this
    simp [t0, ldq4]
    refine hexit _ _ (by simp) ?_
    simp [t4]
    exact fin (by rw [List.drop_length]; rfl)
end Go.Ai.Wire

namespace Go.Ai
theorem wpCall_turn {C : Ctx} {k : FuncId} {first cap : Array Value} {args : List Value} {H : AHeap} {v : Value} {b : Nat} {vs us : List AVer} {K : Value → AHeap → Prop} (hk : C.known k (first.toList ++ (args ++ cap.toList)) H.get = some (v, some (b, vs))) (hb : H.get b = some (.cells us))
    (h : K v (H.put b (.cells vs))) : wpCall C (.func (.func k) first cap) args H K := by
  have : (fixO C).call (.func (.func k) first cap) args H = some (v, H.put b (.cells vs)) := fix_callA (by unfold callA; dsimp only; rw [hk]; simp only [knownA, hb])
  unfold wpCall
  rw [this]
  exact h
end Go.Ai
namespace Go.Ai.Wire
open Go.Proofs Go.IntWalk
attribute [local irreducible] Trie.put

/-- At the end 'Insert' is not known: its own code is looked at. -/
theorem insA_end {a : Option Addr} {n c m vc : Nat} {va : Option Addr} {M : Nat → Option AObj} : insA [.slice a n c, .int .i64 (n : Nat), .slice va m vc] M = none := by
  unfold insA
  split
  · rename_i h
    simp only [List.cons.injEq, Value.slice.injEq, Value.int.injEq, and_true, true_and] at h
    obtain ⟨⟨_, rfl, rfl⟩, rfl, _⟩ := h
    split
    · split
      · rw [if_neg]
        simp only [Int.toNat_natCast]
        omega
      · rfl
    · rfl
  · rfl

set_option maxHeartbeats 1000000 in
theorem insert_spec (w : World) {H : AHeap} (hw : WF H) {col : Nat → Nat} (hbare : Bare col H) {k : Nat} (k0 : k ≠ 0) {v : Value} {l : List Itm} (hv : WIts (ctxW w) H col k v l) {p : Nat} {n : Int} {da : Option Addr} {d : List UInt8} {dc : Nat}
    (hp : Obj1 H p [.int .i64 n, .slice da d.length dc]) (hcp : col p ≠ k) (hd : Bs (ctxW w) H (.slice da d.length dc) d) (hdp : ∀ b, da = some b → d.length ≠ 0 → col b.block = 0) {q : Nat} (hq : q ≤ l.length) (hsm : l.length ≤ 1000) :
    wpCall (ctxW w) (.func (.func 111) #[] #[]) [v, .int .i64 q, .slice (some ⟨p, 0, none⟩) 1 1] H fun r H' => ∃ col', Step [k] H col H' col' ∧ WIts (ctxW w) H' col' k r (l.take q ++ (n, d) :: l.drop q) := by
  obtain ⟨a, c, rfl⟩ := hv.val
  have hkn : (0 : Nat) ∉ [k] := by simp; omega
  by_cases hlt : q < l.length
  · cases a with
    | none =>
      have := hv.none
      rw [this.2.2] at hlt
      simp at hlt
    | some a =>
    obtain ⟨g, cs, _, hb, hg, hic, hpl⟩ := hv.cells
    obtain ⟨e2, hp⟩ := hp
    have hne : p ≠ g := fun e => hcp (e ▸ hg)
    have hbl := hb
    obtain ⟨k', off, c', vs, e, all, he, hgg, hvl, hvk, h1, h2, h3, h4, h5⟩ := hb
    cases he
    have hkn' : insA [.slice (some (mkAddr g k' off)) l.length c, .int .i64 q, .slice (some ⟨p, 0, none⟩) 1 1] H.get =
        some (.slice (some (mkAddr g vs.length 0)) (l.length + 1) (l.length + 1), some (g, setVer vs k' (all.take (off + q * 2)) ++ [⟨2, (all.drop off).take (q * 2) ++ ([.int .i64 n, .slice da d.length dc] ++ ((all.drop (off + q * 2)).take ((l.length - q) * 2)))⟩])) := by
      have hv0 : ver ⟨p, 0, none⟩ = 0 := rfl
      unfold insA
      dsimp only
      rw [block_mkAddr, hgg, hp]
      dsimp only
      rw [ver_mkAddr, hvk, hv0]
      dsimp only [List.getElem?_cons_zero]
      rw [if_pos]
      · simp only [off_mkAddr, Int.toNat_natCast, List.drop_zero]
        rfl
      · simp only [off_mkAddr, Int.toNat_natCast]
        refine ⟨trivial, either_esz h1, by omega, hlt, h3, by omega, hne, h2, by simp, h4, by simp [scalar]⟩
    refine wpCall_turn (v := .slice (some (mkAddr g vs.length 0)) (l.length + 1) (l.length + 1)) (b := g) hkn' hgg ?_
    have hm : Mod g H (H.put g (.cells (setVer vs k' (all.take (off + q * 2)) ++ [⟨2, (all.drop off).take (q * 2) ++ ([.int .i64 n, .slice da d.length dc] ++ ((all.drop (off + q * 2)).take ((l.length - q) * 2)))⟩]))) := Mod.put hw _ hgg
    have st : Step [k] H col _ col := Step.of_mod hm hbare (by rw [hg]; simp)
    refine ⟨col, st, ?_⟩
    have hcl : cs.length = l.length * 2 := hic.len
    have ecs : (all.drop off).take (q * 2) ++ ([.int .i64 n, .slice da d.length dc] ++ ((all.drop (off + q * 2)).take ((l.length - q) * 2))) = cs.take (q * 2) ++ ([.int .i64 n, .slice da d.length dc] ++ cs.drop (q * 2)) := by
      rw [← h5, List.take_take, Nat.min_eq_left (by omega), List.drop_take, List.drop_drop, show l.length * 2 - q * 2 = (l.length - q) * 2 by omega]
    have hit : ItC (ctxW w) H (l.take q ++ ([(n, d)] ++ l.drop q)) (cs.take (q * 2) ++ ([.int .i64 n, .slice da d.length dc] ++ cs.drop (q * 2))) := (hic.take q).app (ItC.app (.cons hd .nil) (hic.drop q))
    have hplN : Plain col (cs.take (q * 2) ++ ([.int .i64 n, .slice da d.length dc] ++ cs.drop (q * 2))) := (hpl.take _).app (Plain.app (by
      intro u hu a m c he hm
      simp only [List.mem_cons, List.not_mem_nil, or_false] at hu
      rcases hu with rfl | rfl
      · cases he
      · cases he
        exact hdp a rfl hm) (hpl.drop _))
    have hll : (l.take q ++ (n, d) :: l.drop q).length = l.length + 1 := by simp; omega
    have eapp : l.take q ++ (n, d) :: l.drop q = l.take q ++ ([(n, d)] ++ l.drop q) := rfl
    rw [eapp] at hll ⊢
    refine WIts.of (g := g) (cs := cs.take (q * 2) ++ ([.int .i64 n, .slice da d.length dc] ++ cs.drop (q * 2))) ?_ hg (hit.step st hkn hplN) hplN
    rw [hll]
    have hall : (cs.take (q * 2) ++ ([Value.int .i64 n, Value.slice da d.length dc] ++ cs.drop (q * 2))).all scalar = true := hit.scal
    refine Buf.g ⟨vs.length, _, 2, rfl, get_put_same _ (base_le_of hgg (by simp)), ?_, ?_, .inr ⟨rfl, by omega⟩, ?_, hall⟩
    · simp [length_setVer]
    · rw [List.getElem?_append_right (by simp [length_setVer]), length_setVer, Nat.sub_self, ecs]
      rfl
    · simp only [List.length_append, List.length_take, List.length_drop, List.length_cons, List.length_nil, hcl]
      omega
  · have hqe : q = l.length := by omega
    subst hqe
    obtain ⟨e2, hp⟩ := id hp
    have ldp := fun off n => Obj1.load (C := ctxW w) (off := off) (n := n) ⟨e2, hp⟩
    have hrow : Row (ctxW w) H (.slice (some ⟨p, 0, none⟩) 1 1) 2 1 [.int .i64 n, .slice da d.length dc] := ⟨rfl, some ⟨p, 0, none⟩, 1, rfl, by simp, fun b hb _ => by cases hb; exact ldp 0 2 ▸ rfl⟩
    refine wpCall_fn (insA_end (a := a) (n := l.length) (c := c)) (get111 w) ?_
    obtain ⟨g, cs, hng, hcg, hic, hpl⟩ := id hv
    cases a with
    | none =>
      obtain ⟨h0, rfl, hl⟩ := hv.none
      subst hl
      simp [ir111]
      refine w_sliceNil (by simp) (by simp [bounds, bnd]) ?_
      simp
      refine w_appW (g := g) (n := 0) (m := 1) (cs := cs) (xs := [.int .i64 n, .slice da d.length dc]) hw (by simpa using hng) (by omega) (by simpa using hrow) (by simp) (by simp) (by simp [roomy]) fun v6 H6 g6 hg6 hb6 => ?_
      simp at hg6
      simp
      have := WIts.snoc hw hbare k0 hcg hic hpl hd hdp (by simpa using hg6) hb6
      simpa using this
    | some b =>
      obtain ⟨g', cs', _, hb', _⟩ := hv.cells
      obtain ⟨_, _, he', hnc', _⟩ := hb'.load (C := ctxW w)
      cases he'
      simp [ir111]
      refine w_sliceB (a := b) (n := l.length) (c := c) (by simp) hb'.slc (bounds_lo (l := l.length) (k := .i64) (by simp) (by omega) hnc') ?_
      simp
      refine w_appW (g := g) (n := l.length) (m := 1) (cs := cs) (xs := [.int .i64 n, .slice da d.length dc]) hw (by simpa using hng) (by omega) (by simpa using hrow) (by simp) (by simp) (by simp [roomy]; omega) fun v6 H6 g6 hg6 hb6 => ?_
      simp at hg6
      simp
      exact WIts.snoc hw hbare k0 hcg hic hpl hd hdp (by simpa using hg6) hb6
end Go.Ai.Wire

namespace Go.Ai.Wire
open Go.Proofs Go.IntWalk
attribute [local irreducible] Trie.put

theorem SortI.of {x : EndA} (h : EndOK x) : SortI x.early := fun i hi h0 => (h.2.2.2.2 i hi).2.2.1 h0

theorem keep_spec (w : World) {H : AHeap} (hw : WF H) {col : Nat → Nat} (hbare : Bare col H) {k q : Nat} (k0 : k ≠ 0) {x : EndA} (hx : WEnd (ctxW w) H col k q x) (hsl : SortI x.early) (hr : ∀ i (hi : i < x.early.length), 0 ≤ x.early[i].1 ∧ x.early[i].1 ≤ 100000) (hsm : x.early.length ≤ 1000)
    {n g : Int} (hn : 0 ≤ n ∧ n ≤ 100000) {v : Value} {d : List UInt8} (hd : Bs (ctxW w) H v d) (hdp : ∀ a n c, v = .slice (some a) n c → n ≠ 0 → col a.block = 0) :
    wpCall (ctxW w) (.func (.func 101) #[] #[]) [.pointer (some ⟨q, 0, none⟩), pkV n g v] H fun r H' => ∃ col', Step [k, k + 2] H col H' col' ∧ WEnd (ctxW w) H' col' k q ⟨x.last, x.opens, x.got, insI (n, d) x.early⟩ := by
  obtain ⟨ov, ev, hq, hcq, ho, he⟩ := hx
  obtain ⟨a1, c1, rfl⟩ := ho.val
  obtain ⟨a2, c2, rfl⟩ := he.val
  obtain ⟨da, dc, rfl⟩ := hd.val
  have hdp' : ∀ b, da = some b → d.length ≠ 0 → col b.block = 0 := fun b hb hm => hdp b _ _ (by rw [hb]) hm
  refine wpCall_fn rfl (get101 w) ?_
  simp [ir101]
  refine w_box (cs := [.int .i64 n, .int .i64 g, .slice da d.length dc]) hw (by simp [pkV]) rfl (by simp) fun p H1 hp => ?_
  have ldq := fun off n => Obj1.load (C := ctxW w) (off := off) (n := n) (hq.same hp.same)
  have ldp := fun off n => Obj1.load (C := ctxW w) (off := off) (n := n) hp.obj
  simp [ldq, ldp]
  refine wpCall_mono (search_spec w hp.same.wf' (he.its.same hp.same) hsl hr hn hsm) ?_
  rintro _ H2 ⟨hs2, t, b, rfl, hpos, hbt⟩
  have hs02 := hp.same.trans hs2
  have st2 : Step [] H col H2 col := Step.of_same hs02 hbare
  have hkn : (0 : Nat) ∉ [k, k + 2] := by simp; omega
  have hins := insI_pos (y := (n, d)) hpos
  cases b with
  | true =>
    rw [if_pos (by simpa using hbt)] at hins
    simp
    refine ⟨col, st2.more (by simp), .slice a1 x.opens.length c1, .slice a2 x.early.length c2, hq.same hs02, hcq, ho.step st2 (by simp) (by simp), ?_⟩
    rw [hins]
    exact he.step st2 (by simp) (by simp)
  | false =>
    rw [if_neg (by intro h; exact absurd (hbt.2 h) (by simp))] at hins
    have ldq2 := fun off n => Obj1.load (C := ctxW w) (off := off) (n := n) (hq.same hs02)
    have ldp2 := fun off n => Obj1.load (C := ctxW w) (off := off) (n := n) (hp.obj.same hs2)
    simp [ldq2, ldp2]
    have hqlt := hq.lt hw
    have n2 := hs02.grow.next
    have g3 : Nat.beq H2.next q = false := nbeq' (by omega)
    refine d_bs (esz := 2) (cs := [.int .i64 n, .slice da d.length dc]) st2.wf' (by simp [g3]) (by simp) (by simp) (by simp) fun q5 H5 hq5 hb5 => ?_
    have st5 : Step [] H col H5 col := Step.of_same (hs02.trans hq5.same) hbare
    simp
    have n5 := hq5.new
    refine wpCall_mono (insert_spec w st5.wf' st5.bare (k := k + 2) (by omega) (he.step st5 (by simp) (by simp)) (p := q5) (n := n) (da := da) (d := d) (dc := dc) hq5.obj (by rw [hbare q5 (by omega)]; omega) (hd.same (hs02.trans hq5.same)) hdp' (q := t) hpos.le hsm) ?_
    rintro r6 H6 ⟨col6, st6, w6⟩
    have e6 := w6.val
    obtain ⟨a6, c6, rfl⟩ := e6
    have hq6 := Obj1.step st6 (hq.same (hs02.trans hq5.same)) (by rw [hcq]; simp)
    have st06 : Step [k, k + 2] H col H6 col6 := (st5.more (by simp)).trans (st6.more (by simp))
    have hcq6 : col6 q = k := by rw [st06.keep q hqlt]; exact hcq
    simp
    refine d_store (p := q) (off := 3) (xs := [.slice a6 (x.early.take t ++ (n, d) :: x.early.drop t).length c6]) st06.wf' rfl hq6 (by simp) (by simp) rfl (by simp) (by simp) (by simp) fun H7 hm7 hn7 ho7 => ?_
    have st7 : Step [k] H6 col6 H7 col6 := Step.of_mod hm7 st06.bare (by rw [hcq6]; simp)
    simp
    refine ⟨col6, st06.trans (st7.more (by simp)), .slice a1 x.opens.length c1, .slice a6 (x.early.take t ++ (n, d) :: x.early.drop t).length c6, by simpa using ho7, hcq6, ?_, ?_⟩
    · exact ((ho.step st5 (by simp) (by simp)).step st6 (by simp) (by simp)).step st7 (by simp; omega) (by simp)
    · rw [hins]
      exact w6.step st7 (by simp; omega) (by simp)

theorem follow_got : ∀ {l : List Itm} {got : Int}, (∀ y ∈ l, y.1 ≤ 60000) → got ≤ 60000 → got + follow got l ≤ 60000
  | [], got, _, h => by simpa [follow] using h
  | y :: r, got, hy, h => by
    unfold follow
    split
    · rename_i he
      have h1 := hy y (by simp)
      have := follow_got (l := r) (got := got + 1) (fun z hz => hy z (by simp [hz])) (by omega)
      omega
    · simpa using h

/-- An end behind bytes that came, what it hands on, and the reply. -/
def takeF (x : EndA) (bs : List UInt8) : EndA × List (List UInt8) × List UInt8 :=
  match readB bs with
  | none => (x, [], [])
  | some (n, g, d) =>
    if x.last < g then (x, [], [])
    else if n = 0 then (⟨x.last, still g x.opens, x.got, x.early⟩, [], [])
    else if (n : Int) - x.got = 1 then (handed ⟨x.last, still g x.opens, x.got, x.early⟩, hands ⟨x.last, still g x.opens, x.got, x.early⟩ d, enc 0 (handed ⟨x.last, still g x.opens, x.got, x.early⟩).got.toNat [])
    else if 2 ≤ (n : Int) - x.got ∧ (n : Int) - x.got ≤ 8 then (⟨x.last, still g x.opens, x.got, insI (n, d) x.early⟩, [], enc 0 x.got.toNat [])
    else (⟨x.last, still g x.opens, x.got, x.early⟩, [], enc 0 x.got.toNat [])

def TakeOut (C : Ctx) (H : AHeap) (col : Nat → Nat) (k q : Nat) (y : EndA × List (List UInt8) × List UInt8) (r : Value) (H' : AHeap) : Prop :=
  ∃ col' fv rv, r = .tuple #[fv, rv] ∧ Step [k, k + 1, k + 2] H col H' col' ∧ WEnd C H' col' k q y.1 ∧ WFrs C H' col' fv y.2.1 ∧ Bs C H' rv y.2.2 ∧ ∀ a n c, rv = .slice (some a) n c → n ≠ 0 → col' a.block = 0

/-- What the end says that it took. -/
theorem TakeOut.nothing {C : Ctx} {H H' : AHeap} {col : Nat → Nat} {k q : Nat} {x : EndA} (st : Step [k, k + 1, k + 2] H col H' col) (hx : WEnd C H' col k q x) : TakeOut C H col k q (x, [], []) (.tuple #[.slice none 0 0, .slice none 0 0]) H' :=
  ⟨col, _, _, rfl, st, hx, WFrs.nil C H' col, Bs.nil C H', fun a n c h => by cases h⟩

theorem TakeOut.reply {C : Ctx} {H H1 H' : AHeap} {col col1 : Nat → Nat} {k q g : Nat} {x : EndA} {l : List (List UInt8)} {fv rv : Value} {bs : List UInt8} (st : Step [k, k + 1, k + 2] H col H1 col1) (hx : WEnd C H1 col1 k q x) (hf : WFrs C H1 col1 fv l)
    (hs : Same H1 H') (hg : H1.next ≤ g) (hb : Buf H' rv g 1 bs.length (bs.map u8v)) : TakeOut C H col k q (x, l, bs) (.tuple #[fv, rv]) H' := by
  have s1 : Step [] H1 col1 H' col1 := Step.of_same hs st.bare
  refine ⟨col1, fv, rv, rfl, st.trans (s1.more (by simp)), hx.step s1 (by simp) (by simp), hf.step s1 (by simp), hb.row, fun a n c he hn => ?_⟩
  obtain ⟨a', he', hbl, _⟩ := hb.load (C := C)
  rw [he] at he'
  cases he'
  exact st.bare _ (by omega)

set_option maxHeartbeats 2000000 in
theorem take_spec (w : World) {H : AHeap} (hw : WF H) {col : Nat → Nat} (hbare : Bare col H) {k q : Nat} (k0 : k ≠ 0) {x : EndA} (hx : WEnd (ctxW w) H col k q x) (hok : EndOK x) (hel : x.early.length ≤ 1000) {v : Value} {bs : List UInt8} (hb : BsS (ctxW w) H v bs) (hbl : bs.length ≤ 500) :
    wpCall (ctxW w) (.func (.func 83) #[] #[]) [.pointer (some ⟨q, 0, none⟩), v] H (TakeOut (ctxW w) H col k q (takeF x bs)) := by
  obtain ⟨a0, c0, rfl⟩ := hb.1.val
  refine wpCall_fn rfl (get83 w) ?_
  simp [ir83]
  refine wpCall_mono (read_off w hw hb (by omega)) ?_
  rintro r H1 ⟨hs1, hr⟩
  have hx' := hx
  obtain ⟨ov, ev, hq, hcq, ho, he⟩ := hx
  obtain ⟨a1, c1, rfl⟩ := ho.val
  obtain ⟨a2, c2, rfl⟩ := he.val
  have hqlt := hq.lt hw
  have n1 := hs1.grow.next
  have hkn : (0 : Nat) ∉ [k, k + 1, k + 2] := by simp; omega
  unfold takeF
  cases hrb : readB bs with
  | none =>
    rw [hrb] at hr
    subst hr
    simp
    refine w_mk hs1.wf' fun p H2 hp2 => ?_
    refine w_store (p := p) (off := 0) (xs := [.int .i64 0, .int .i64 0, .slice none 0 0]) hp2.same.wf' hp2.obj (by simp) (by simp [pkV]) rfl (by simp) (by simp) (by simp) fun H3 hm3 hn3 ho3 => ?_
    have n2 := hp2.new
    have hs3 : Same H H3 := hs1.trans (hp2.same.then_mod hm3 (by omega))
    simp
    have st3 : Step [] H col H3 col := Step.of_same hs3 hbare
    exact TakeOut.nothing (st3.more (by simp)) (hx'.step st3 (by simp) (by simp))
  | some y =>
    obtain ⟨n, g, d⟩ := y
    rw [hrb] at hr
    obtain ⟨v1, rfl, hd1, hoff⟩ := hr
    obtain ⟨da, dc, rfl⟩ := hd1.val
    obtain ⟨hok1, henc⟩ := readB_inv hrb
    simp
    refine w_mk hs1.wf' fun p H2 hp2 => ?_
    refine w_store (p := p) (off := 0) (xs := [.int .i64 n, .int .i64 g, .slice da d.length dc]) hp2.same.wf' hp2.obj (by simp) (by simp [pkV]) rfl (by simp) (by simp) (by simp) fun H3 hm3 hn3 ho3 => ?_
    have n2 := hp2.new
    have n2' := hp2.next
    have hs3 : Same H H3 := hs1.trans (hp2.same.then_mod hm3 (by omega))
    have st3 : Step [] H col H3 col := Step.of_same hs3 hbare
    have hx3 := hx'.step st3 (by simp) (by simp)
    have hq3 := hq.same hs3
    have ldq3 := fun off n => Obj1.load (C := ctxW w) (off := off) (n := n) hq3
    have ldp3 := fun off n => Obj1.load (C := ctxW w) (off := off) (n := n) ho3
    by_cases hlg : x.last < g
    · simp [ldq3, ldp3, hlg]
      exact TakeOut.nothing (st3.more (by simp)) hx3
    · simp [ldq3, ldp3, hlg]
      refine wpCall_mono (deleteFunc_spec w st3.wf' st3.bare (k := k + 1) (by omega) (ho.step st3 (by simp) (by simp)) (p := p) (num := n) (g := g) (dv := .slice da d.length dc) ho3 (by rw [hbare p (by omega)]; omega) (by have := hok.2.2.1; omega)) ?_
      rintro r4 H4 ⟨st4, w4⟩
      obtain ⟨a4, c4, rfl⟩ := w4.val
      have hq4 := Obj1.step st4 hq3 (by rw [hcq]; simp)
      have hp4 := Obj1.step st4 ho3 (by rw [hbare p (by omega)]; simp)
      simp
      refine w_store (p := q) (off := 1) (xs := [.slice a4 (still g x.opens).length c4]) st4.wf' hq4 (by simp) (by simp) rfl (by simp) (by simp) (by simp) fun H5 hm5 hn5 ho5 => ?_
      have st5 : Step [k] H4 col H5 col := Step.of_mod hm5 st4.bare (by rw [hcq]; simp)
      have st05 : Step [k, k + 1, k + 2] H col H5 col := ((st3.more (by simp)).trans (st4.more (by simp))).trans (st5.more (by simp))
      have hx5 : WEnd (ctxW w) H5 col k q ⟨x.last, still g x.opens, x.got, x.early⟩ := by
        refine ⟨.slice a4 (still g x.opens).length c4, .slice a2 x.early.length c2, by simpa using ho5, hcq, w4.step st5 (by simp; omega) (by simp), ?_⟩
        exact ((he.step st3 (by simp) (by simp)).step st4 (by simp) (by simp)).step st5 (by simp; omega) (by simp)
      have hp5 := Obj1.step st5 hp4 (by rw [hbare p (by omega)]; simp; omega)
      have hq5 : Obj1 H5 q [.int .i64 x.last, .slice a4 (still g x.opens).length c4, .int .i64 x.got, .slice a2 x.early.length c2] := by simpa using ho5
      have ldq5 := fun off n => Obj1.load (C := ctxW w) (off := off) (n := n) hq5
      have ldp5 := fun off n => Obj1.load (C := ctxW w) (off := off) (n := n) hp5
      by_cases hn0 : n = 0
      · subst hn0
        simp [ldp5]
        exact TakeOut.nothing st05 hx5
      · have hn0' : ¬ ((n : Int) = 0) := by omega
        obtain ⟨n', g', hn', hg', hnl, hgl, hl⟩ := okP_spec hok1
        have e1 : n' = n := by omega
        subst e1
        have hgot := hok.2.1
        have wah : IntKind.i64.wrap ((n' : Int) - x.got) = n' - x.got := i64_in _ (by omega)
        have hdc : ∀ a m c, Value.slice da d.length dc = .slice (some a) m c → m ≠ 0 → col a.block = 0 := by
          intro a m c he hm
          refine hbare _ ?_
          rcases Nat.lt_or_ge a.block H.next with h | h
          · exact absurd rfl (hoff _ h a m c he hm)
          · exact h
        have s35 : Step [k, k + 1] H3 col H5 col := (st4.more (by simp)).trans (st5.more (by simp))
        have hd3 : Bs (ctxW w) H3 (.slice da d.length dc) d := hd1.same (hp2.same.then_mod hm3 (by omega))
        have hd5 : Bs (ctxW w) H5 (.slice da d.length dc) d := Bs.step s35 (by simp; omega) hd3 hdc
        obtain ⟨G, hG⟩ : ∃ G : Nat, x.got = G := ⟨x.got.toNat, by omega⟩
        by_cases h1 : (n' : Int) - x.got = 1
        · have hs : ¬ ((n' : Int) = 0) := hn0'
          simp [ldp5, ldq5, hn0, h1, show IntKind.i64.wrap 1 = 1 from rfl]
          refine wpCall_mono (hand_spec w st05.wf' st05.bare k0 hx5 hgot hel hd5 hdc) ?_
          rintro r6 H6 ⟨st6, hx6, hf6⟩
          obtain ⟨a6, c6, rfl⟩ := hf6.val
          obtain ⟨ov6, ev6, hq6, _, _, _⟩ := id hx6
          have ldq6 := fun off n => Obj1.load (C := ctxW w) (off := off) (n := n) hq6
          have hgb : 0 ≤ (handed ⟨x.last, still g x.opens, x.got, x.early⟩).got ∧ (handed ⟨x.last, still g x.opens, x.got, x.early⟩).got ≤ 60000 := by
            have := follow_got (l := x.early) (got := x.got + 1) (fun y hy => by
              obtain ⟨i, hi, rfl⟩ := List.mem_iff_getElem.1 hy
              have := (hok.2.2.2.2 i hi).2.1
              omega) (by omega)
            unfold handed
            dsimp only
            omega
          obtain ⟨G6, hG6⟩ : ∃ G6 : Nat, (handed ⟨x.last, still g x.opens, x.got, x.early⟩).got = G6 := ⟨(handed ⟨x.last, still g x.opens, x.got, x.early⟩).got.toNat, by omega⟩
          simp [ldq6, hG6]
          have hcall := bytes_buf w st6.wf' (n := 0) (g := G6) (by omega) (by omega) (Bs.nil (ctxW w) H6) (by simp)
          simp only [pkV] at hcall
          refine wpCall_mono hcall ?_
          rintro r7 H7 ⟨hs7, g7, hg7, hb7⟩
          simp
          exact TakeOut.reply (st05.trans (st6.more (by simp))) hx6 hf6 hs7 hg7 hb7
        · by_cases h2 : 2 ≤ (n' : Int) - x.got ∧ (n' : Int) - x.got ≤ 8
          · simp [ldp5, ldq5, hn0, wah, h1]
            refine wpCall_mono (within_spec w _ 2 8) ?_
            rintro _ H5' ⟨rfl, rfl⟩
            simp [h2, ldp5]
            have hkeep := keep_spec w st05.wf' st05.bare k0 hx5 (show SortI x.early from SortI.of hok) (fun i hi => by have := hok.2.2.2.2 i hi; dsimp only at hi ⊢; omega) hel (n := n') (g := g) (by omega) hd5 hdc
            simp only [pkV] at hkeep
            refine wpCall_mono hkeep ?_
            rintro r6 H6 ⟨col6, st6, hx6⟩
            obtain ⟨ov6, ev6, hq6, _, _, _⟩ := id hx6
            have ldq6 := fun off n => Obj1.load (C := ctxW w) (off := off) (n := n) hq6
            simp [ldq6, hG]
            have hcall := bytes_buf w st6.wf' (n := 0) (g := G) (by omega) (by omega) (Bs.nil (ctxW w) H6) (by simp)
            simp only [pkV] at hcall
            refine wpCall_mono hcall ?_
            rintro r7 H7 ⟨hs7, g7, hg7, hb7⟩
            simp
            rw [hG] at hx6
            exact TakeOut.reply (st05.trans (st6.more (by simp))) hx6 (WFrs.nil _ _ _) hs7 hg7 hb7
          · simp [ldp5, ldq5, hn0, wah, h1]
            refine wpCall_mono (within_spec w _ 2 8) ?_
            rintro _ H5' ⟨rfl, rfl⟩
            have e2 : (decide (2 ≤ (n' : Int) - x.got) && decide ((n' : Int) - x.got ≤ 8)) = false := by
              rw [← Bool.decide_and]
              exact decide_eq_false h2
            simp [e2]
            have h2' : ¬ (2 ≤ (n' : Int) - G ∧ (n' : Int) - G ≤ 8) := by rw [← hG]; exact h2
            simp [ldq5, h2', hG]
            have hcall := bytes_buf w st05.wf' (n := 0) (g := G) (by omega) (by omega) (Bs.nil (ctxW w) H5') (by simp)
            simp only [pkV] at hcall
            refine wpCall_mono hcall ?_
            rintro r7 H7 ⟨hs7, g7, hg7, hb7⟩
            simp
            rw [hG] at hx5
            exact TakeOut.reply st05 hx5 (WFrs.nil _ _ _) hs7 hg7 hb7
end Go.Ai.Wire
