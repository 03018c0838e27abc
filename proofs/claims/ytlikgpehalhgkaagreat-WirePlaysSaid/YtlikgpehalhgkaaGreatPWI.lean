/-
  Stores into rows that can grow, wherever they begin; parts of them; parts of lists of frames.
  'slices.DeleteFunc' of frames that the other end got.
  An early frame is looked for among the others, and put among them.
-/
import Derived.Test.YtlikgpehalhgkaaGreatPWF
import Derived.Test.YtlikgpehalhgkaaGreatPWIr4
namespace Go.Ai
section
variable {C : Ctx} {H : AHeap} {T : Env} {d : Option Nat} {r : List IOper} {K : Env → AHeap → Prop}

theorem take_mid {α : Type} {all cs xs : List α} {i m : Nat} (hc : cs = all.take m) (hl : i + xs.length ≤ m) (hm : m ≤ all.length) :
    (all.take i ++ (xs ++ all.drop (i + xs.length))).take m = cs.take i ++ (xs ++ cs.drop (i + xs.length)) := by
  subst hc
  rw [List.take_append, List.take_append, List.length_take, List.take_take, List.take_take]
  rw [Nat.min_eq_left (by omega : i ≤ all.length), Nat.min_eq_right (by omega : i ≤ m), Nat.min_eq_left (by omega : i ≤ m), List.take_of_length_le (by omega : xs.length ≤ m - i), List.drop_take]
  congr 3
  omega

theorem w_storeG {n i g m c esz : Nat} {a x : IOpd} {b : Addr} {cs xs : List Value} (hw : WF H) (hb : BufG H (.slice (some b) m c) g esz m cs) (ha : a.val T.val = .pointer (some (aadd b i))) (hx : vcells (x.val T.val) = some xs) (hn : xs.length = n) (h0 : n ≠ 0)
    (hl : i + n ≤ m * esz) (hs : xs.all scalar = true) (hk : ∀ H', Mod g H H' → H'.next = H.next → BufG H' (.slice (some b) m c) g esz m (cs.take i ++ (xs ++ cs.drop (i + n))) → wpO C r K (putDst T d undef) H') : wpO C (⟨d, .store n a x, none⟩ :: r) K T H := by
  rw [wpO_store]
  subst hn
  obtain ⟨a', c', he, hnc, _⟩ := hb.load (C := C)
  cases he
  have hle : m * esz ≤ c * esz := Nat.mul_le_mul_right _ hnc
  obtain ⟨vs, vs', hg, hbl, hst, hafter⟩ := storeN_bufG (i := i) (xs := xs) hb h0 (by omega) hs
  have : evalOp C H.get T.val H.next (.store xs.length a x) = some { v := undef, put := some (g, .cells vs'), rd := [g] } := by
    simp only [evalOp, ha, hx, asCell_ptr]
    rw [if_pos trivial, hst]
    simp [Ai.aadd, hbl]
  rw [this]
  obtain ⟨all, h1, h2, h3⟩ := hafter (H.put g (.cells vs')) m hnc (get_put_same _ (base_le_of hg (by simp)))
  rw [take_mid h2 hl (by omega)] at h3
  exact hk _ (Mod.put hw _ hg) rfl h3

theorem w_clearG {i g m c esz k c2 : Nat} {z : List Value} {x : IOpd} {b : Addr} {cs : List Value} (hw : WF H) (hb : BufG H (.slice (some b) m c) g esz m cs) (hx : x.val T.val = .slice (some (aadd b i)) k c2) (hz : z.length = esz) (he : 1 ≤ esz)
    (hl : i + k * esz ≤ m * esz) (hs : z.all scalar = true) (hk : ∀ H', Mod g H H' → H'.next = H.next → BufG H' (.slice (some b) m c) g esz m (cs.take i ++ ((List.replicate k z).flatten ++ cs.drop (i + k * esz))) → wpO C r K (putDst T d undef) H') : wpO C (⟨d, .clear z x, none⟩ :: r) K T H := by
  rw [wpO_clear]
  obtain ⟨a', c', he', hnc, _⟩ := hb.load (C := C)
  cases he'
  have hle : m * esz ≤ c * esz := Nat.mul_le_mul_right _ hnc
  by_cases h0 : k = 0
  · subst h0
    have : evalOp C H.get T.val H.next (.clear z x) = some { v := undef } := by simp only [evalOp, hx]
    rw [this]
    refine hk _ (Same.refl hw).mod rfl ?_
    simp
    exact hb
  · have hlen : (List.replicate k z).flatten.length = k * esz := by simp [hz]
    have hall : (List.replicate k z).flatten.all scalar = true := by
      rw [List.all_eq_true] at hs ⊢
      intro u hu
      obtain ⟨l, hl1, hl2⟩ := List.mem_flatten.1 hu
      obtain ⟨_, rfl⟩ := List.mem_replicate.1 hl1
      exact hs u hl2
    have hk0 : k * esz ≠ 0 := Nat.mul_ne_zero h0 (by omega)
    obtain ⟨vs, vs', hg, hbl, hst, hafter⟩ := storeN_bufG (i := i) (xs := (List.replicate k z).flatten) hb (by omega) (by omega) hall
    have : evalOp C H.get T.val H.next (.clear z x) = some { v := undef, put := some (g, .cells vs'), rd := [g] } := by
      simp only [evalOp, hx]
      cases k with
      | zero => exact absurd rfl h0
      | succ k =>
        rw [hst]
        simp [Ai.aadd, hbl]
    rw [this]
    obtain ⟨all, h1, h2, h3⟩ := hafter (H.put g (.cells vs')) m hnc (get_put_same _ (base_le_of hg (by simp)))
    rw [take_mid h2 (by omega) (by omega), hlen] at h3
    exact hk _ (Mod.put hw _ hg) rfl h3

theorem BufG.slc {a : Addr} {g esz n c : Nat} {cs : List Value} (h : BufG H (.slice (some a) n c) g esz n cs) : Slc H a esz := by
  obtain ⟨k, off, c', vs, e, all, he, hg, hl, hk, h1, _⟩ := h
  cases he
  exact .inr ⟨vs, _, hg, by rw [ver_mkAddr]; exact hk, either_esz h1⟩

theorem BufG.sub {a : Addr} {g esz n c : Nat} {cs : List Value} (h : BufG H (.slice (some a) n c) g esz n cs) {l u : Nat} (h1 : l ≤ u) (h2 : u ≤ n) :
    BufG H (.slice (some (Ai.aadd a (l * esz))) (u - l) (c - l)) g esz (u - l) ((cs.drop (l * esz)).take ((u - l) * esz)) := by
  obtain ⟨k, off, c', vs, e, all, he, hg, hl, hk, h3, h4, h5, h6, rfl⟩ := h
  cases he
  have e1 : l * esz + (u - l) * esz = u * esz := by rw [← Nat.add_mul]; congr 1; omega
  have e2 : u * esz ≤ n * esz := Nat.mul_le_mul_right _ h2
  have e3 : l * esz + (c - l) * esz = c * esz := by rw [← Nat.add_mul]; congr 1; omega
  refine ⟨k, off + l * esz, c - l, vs, e, all, ?_, hg, hl, hk, h3, by omega, by omega, h6, ?_⟩
  · cases k <;> rfl
  · rw [List.drop_take, List.drop_drop, List.take_take, Nat.min_eq_left (by omega)]

theorem evalOp_sliceB {M : Nat → Option AObj} {T : Nat → Value} {nid esz n c l h : Nat} {x : IOpd} {lo hi : Option IOpd} {a : Addr} (hx : x.val T = .slice (some a) n c)
    (hsl : (M a.block = some .raw ∧ a.spot = none) ∨ ∃ vs v, M a.block = some (.cells vs) ∧ vs[ver a]? = some v ∧ (v.esz = 0 ∨ v.esz = esz)) (hb : bounds T n c lo hi none = some (l, h, c)) :
    evalOp C M T nid (.sliceS esz x lo hi none) = some { v := .slice (some (aadd a (l * esz))) (h - l) (c - l), rd := [a.block] } := by
  simp only [evalOp, hx, hb]
  rcases hsl with ⟨hM, hs⟩ | ⟨vs, v, hM, hv, he⟩
  · simp [hM, hs]
  · simp only [hM, hv]
    rw [if_pos he]

theorem bounds_lo {T : Nat → Value} {n c l : Nat} {k : IntKind} {x : IOpd} (hx : x.val T = .int k l) (h : l ≤ n) (h2 : n ≤ c) : bounds T n c (some x) none none = some (l, n, c) := by
  simp only [bounds, bnd, hx]
  rw [if_pos (by omega)]
  simp [h2]
theorem bounds_hi {T : Nat → Value} {n c l : Nat} {k : IntKind} {x : IOpd} (hx : x.val T = .int k l) (h : l ≤ c) : bounds T n c none (some x) none = some (0, l, c) := by
  simp only [bounds, bnd, hx]
  rw [if_pos (by omega)]
  simp [h]

theorem w_sliceB {esz n c l h : Nat} {x : IOpd} {lo hi : Option IOpd} {a : Addr} (hx : x.val T.val = .slice (some a) n c) (hsl : Slc H a esz) (hb : bounds T.val n c lo hi none = some (l, h, c))
    (hk : wpO C r K (putDst T d (.slice (some (Ai.aadd a (l * esz))) (h - l) (c - l))) H) : wpO C (⟨d, .sliceS esz x lo hi none, none⟩ :: r) K T H := by
  rw [wpO_sliceS, evalOp_sliceB hx hsl hb]
  exact hk

/-- .. of nothing. -/
theorem w_sliceNil {esz : Nat} {x : IOpd} {lo hi : Option IOpd} (hx : x.val T.val = .slice none 0 0) (hb : bounds T.val 0 0 lo hi none = some (0, 0, 0))
    (hk : wpO C r K (putDst T d (.slice none 0 0)) H) : wpO C (⟨d, .sliceS esz x lo hi none, none⟩ :: r) K T H := by
  rw [wpO_sliceS]
  have : evalOp C H.get T.val H.next (.sliceS esz x lo hi none) = some { v := .slice none 0 0 } := by
    simp only [evalOp, hx, hb]
    rfl
  rw [this]
  exact hk
end
end Go.Ai
namespace Go.Ai.Wire
open Go.Proofs Go.IntWalk
attribute [local irreducible] Trie.put

section
variable {C : Ctx} {H : AHeap}
theorem ItC.take {l : List Itm} {cs : List Value} (h : ItC C H l cs) : ∀ i, ItC C H (l.take i) (cs.take (i * 2)) := by
  induction h with
  | nil => intro i; simp; exact .nil
  | cons h1 _ ih =>
    intro i
    cases i with
    | zero => simp; exact .nil
    | succ i =>
      rw [show (i + 1) * 2 = i * 2 + 1 + 1 by omega]
      simp only [List.take_succ_cons]
      exact .cons h1 (ih i)
theorem ItC.drop {l : List Itm} {cs : List Value} (h : ItC C H l cs) : ∀ i, ItC C H (l.drop i) (cs.drop (i * 2)) := by
  induction h with
  | nil => intro i; simp; exact .nil
  | cons h1 h2 ih =>
    intro i
    cases i with
    | zero => simp; exact .cons h1 h2
    | succ i =>
      rw [show (i + 1) * 2 = i * 2 + 1 + 1 by omega]
      simp only [List.drop_succ_cons]
      exact ih i
theorem Plain.take {col : Nat → Nat} {cs : List Value} (h : Plain col cs) (i : Nat) : Plain col (cs.take i) := fun v hv => h v (List.mem_of_mem_take hv)
theorem Plain.drop {col : Nat → Nat} {cs : List Value} (h : Plain col cs) (i : Nat) : Plain col (cs.drop i) := fun v hv => h v (List.mem_of_mem_drop hv)
theorem Plain.app {col : Nat → Nat} {cs cs' : List Value} (h : Plain col cs) (h' : Plain col cs') : Plain col (cs ++ cs') := fun v hv => (List.mem_append.1 hv).elim (h v) (h' v)

/-- A part of a row of frames. -/
theorem WIts.sub {col : Nat → Nat} {k : Nat} {a : Addr} {n c : Nat} {l : List Itm} (h : WIts C H col k (.slice (some a) n c) l) {i u : Nat} (h1 : i ≤ u) (h2 : u ≤ l.length) : WIts C H col k (.slice (some (Ai.aadd a (i * 2))) (u - i) (c - i)) ((l.take u).drop i) := by
  have hn : n = l.length := by obtain ⟨_, _, he⟩ := h.val; cases he; rfl
  subst hn
  obtain ⟨g, cs, hb, hg, hi, hp⟩ := h
  rcases hb with ⟨h0, _⟩ | hb
  · cases h0
  · have hl : ((l.take u).drop i).length = u - i := by rw [List.length_drop, List.length_take]; omega
    refine ⟨g, _, .inr ?_, fun _ => hg (by simp), (hi.take u).drop i, (hp.take _).drop _⟩
    rw [hl]
    have := BufG.sub hb h1 h2
    rw [List.drop_take, show u * 2 - i * 2 = (u - i) * 2 by omega]
    exact this

/-- What a row of frames says of a place. -/
theorem WIts.cells {col : Nat → Nat} {k : Nat} {a : Addr} {n c : Nat} {l : List Itm} (h : WIts C H col k (.slice (some a) n c) l) : ∃ g cs, n = l.length ∧ BufG H (.slice (some a) l.length c) g 2 l.length cs ∧ col g = k ∧ ItC C H l cs ∧ Plain col cs := by
  have hn : n = l.length := by obtain ⟨_, _, he⟩ := h.val; cases he; rfl
  subst hn
  obtain ⟨g, cs, hb, hg, hi, hp⟩ := h
  rcases hb with ⟨h0, _⟩ | hb
  · cases h0
  · exact ⟨g, cs, rfl, hb, hg (by simp), hi, hp⟩

theorem WIts.of {col : Nat → Nat} {k g : Nat} {v : Value} {l : List Itm} {cs : List Value} (hb : BufG H v g 2 l.length cs) (hg : col g = k) (hi : ItC C H l cs) (hp : Plain col cs) : WIts C H col k v l := ⟨g, cs, .inr hb, fun _ => hg, hi, hp⟩

theorem WIts.none {col : Nat → Nat} {k n c : Nat} {l : List Itm} (h : WIts C H col k (.slice none n c) l) : n = 0 ∧ c = 0 ∧ l = [] := by
  obtain ⟨g, cs, hb, hg, hi, hp⟩ := h
  rcases hb with ⟨h0, h1, _⟩ | hb
  · cases h0; exact ⟨rfl, rfl, List.length_eq_zero_iff.1 h1⟩
  · obtain ⟨a, c', he, _⟩ := hb.load (C := C)
    cases he
end
end Go.Ai.Wire

namespace Go.Ai.Wire
open Go.Proofs Go.IntWalk
attribute [local irreducible] Trie.put

/-- What stays open. -/
def still (g : Int) (l : List Itm) : List Itm := l.filter fun y => !decide (y.1 ≤ g)

theorem leq_spec (w : World) {H : AHeap} (hw : WF H) {p : Nat} {num g : Int} {dv : Value} (hp : Obj1 H p [.int .i64 num, .int .i64 g, dv]) {n : Int} {da : Option Addr} {dl dc : Nat} :
    wpCall (ctxW w) (.func (.func 99) #[] #[.pointer (some ⟨p, 0, none⟩)]) [itV n (.slice da dl dc)] H fun r H' => Same H H' ∧ r = .bool (decide (n ≤ g)) := by
  refine wpCall_fn rfl (get99 w) ?_
  simp [ir99]
  refine w_box (cs := [.int .i64 n, .slice da dl dc]) hw (by simp [itV]) rfl (by simp) fun q H1 hq => ?_
  have ld := fun off n => Obj1.load (C := ctxW w) (off := off) (n := n) hq.obj
  have ldp := fun off n => Obj1.load (C := ctxW w) (off := off) (n := n) (hp.same hq.same)
  simp [ld, ldp]
  exact hq.same

theorem filter_take_succ {α : Type} (P : α → Bool) {l : List α} {j : Nat} (hj : j < l.length) : (l.take (j + 1)).filter P = (l.take j).filter P ++ if P l[j] = true then [l[j]] else [] := by
  rw [List.take_add_one, List.getElem?_eq_getElem hj]
  simp only [Option.toList_some, List.filter_append]
  congr 1
  simp only [List.filter_cons, List.filter_nil]

set_option maxHeartbeats 1000000 in
theorem deleteFunc_spec (w : World) {H : AHeap} (hw : WF H) {col : Nat → Nat} (hbare : Bare col H) {k : Nat} (k0 : k ≠ 0) {v : Value} {l : List Itm} (hv : WIts (ctxW w) H col k v l) {p : Nat} {num g : Int} {dv : Value}
    (hp : Obj1 H p [.int .i64 num, .int .i64 g, dv]) (hcp : col p ≠ k) (hsm : l.length ≤ 1000) :
    wpCall (ctxW w) (.func (.func 98) #[] #[]) [v, .func (.func 99) #[] #[.pointer (some ⟨p, 0, none⟩)]] H fun r H' => Step [k] H col H' col ∧ WIts (ctxW w) H' col k r (still g l) := by
  obtain ⟨a, c, rfl⟩ := hv.val
  refine wpCall_fn rfl (get98 w) ?_
  simp [ir98]
  have hpred : PredI (ctxW w) H (.func (.func 99) #[] #[.pointer (some ⟨p, 0, none⟩)]) fun y => decide (y.1 ≤ g) := by
    intro H1 hs n da dc d hd
    exact leq_spec w hs.wf' (hp.same hs)
  refine wpCall_mono (indexI_spec w (.inl rfl) hw hv.its hpred (by omega)) ?_
  rintro _ H1 ⟨hs1, rfl⟩
  have hst0 : Step [] H col H1 col := Step.of_same hs1 hbare
  have hst1 : Step [k] H col H1 col := Step.of_same hs1 hbare
  simp
  by_cases hany : l.findIdx (fun y => decide (y.1 ≤ g)) < l.length
  · obtain ⟨i0, hi0e⟩ : ∃ i0, i0 = l.findIdx (fun y => decide (y.1 ≤ g)) := ⟨_, rfl⟩
    have hP0 : l[l.findIdx (fun y => decide (y.1 ≤ g))].1 ≤ g := by simpa using List.findIdx_getElem (w := hany)
    have hbef : ∀ j (hj : j < l.length), j < i0 → ¬ l[j].1 ≤ g := fun j hj hji => by
      have := List.not_of_lt_findIdx (p := fun y : Itm => decide (y.1 ≤ g)) (xs := l) (i := j) (by omega)
      simpa using this
    have hfirst : firstI (fun y => decide (y.1 ≤ g)) l = i0 := by
      unfold firstI
      rw [if_pos hany, hi0e]
    rw [hfirst]
    have hi0 : i0 < l.length := by omega
    have hP0' : l[i0].1 ≤ g := by simpa only [hi0e] using hP0
    have e1 : ¬ ((i0 : Int) = -1) := by omega
    have e2 : IntKind.i64.wrap ((i0 : Int) + 1) = i0 + 1 := i64_in _ (by omega)
    simp [e1, e2]
    cases a with
    | none =>
      have := hv.none
      rw [this.2.2] at hi0
      simp at hi0
    | some b =>
    have hv1 := hv.step hst0 (by simp) (by simp)
    obtain ⟨g1, cs1, _, hb1, hg1, hi1, hp1⟩ := hv1.cells
    have hstill0 : still g (l.take (i0 + 1)) = l.take i0 := by
      unfold still
      rw [filter_take_succ _ hi0, if_neg (by simpa using hP0'), List.append_nil, List.filter_eq_self]
      intro y hy
      obtain ⟨j, hj, rfl⟩ := List.mem_iff_getElem.1 hy
      rw [List.length_take] at hj
      rw [List.getElem_take]
      have := hbef j (by omega) (by omega)
      simpa using this
    refine wp_loop' (fun n s => ∃ (T : Env) (H2 : AHeap) (i j : Nat) (m : List Itm) (gg : Nat) (cs : List Value), s = ⟨T, H2, []⟩ ∧ n = l.length - j ∧ i < j ∧ j ≤ l.length ∧ T.val 0 = .slice (some b) l.length c ∧ T.val 1 = .func (.func 99) #[] #[.pointer (some ⟨p, 0, none⟩)] ∧ T.val 5 = .int .i64 i ∧ T.val 6 = .int .i64 j ∧
      Step [k] H col H2 col ∧ BufG H2 (.slice (some b) l.length c) gg 2 l.length cs ∧ col gg = k ∧ ItC (ctxW w) H2 m cs ∧ Plain col cs ∧ m.length = l.length ∧ m.take i = still g (l.take j) ∧ m.drop j = l.drop j) (n := l.length - (i0 + 1))
      ⟨_, H1, i0, i0 + 1, l, g1, cs1, rfl, rfl, by omega, by omega, by simp, by simp, by simp, by simp, hst1, hb1, hg1, hi1, hp1, rfl, hstill0.symm, rfl⟩ ?_
    rintro n s K ⟨T, H2, i, j, m, gg, cs, rfl, rfl, hij, hj, t0, t1, t5, t6, st, hb, hgg, hic, hpl, hml, hmt, hmd⟩ hnext hexit
    by_cases hlt : j < l.length
    · have hw2 := st.wf'
      have hjm : j < m.length := by omega
      have hmj : m[j] = l[j] := by
        have h1 := List.getElem_drop (xs := m) (i := j) (j := 0) (h := by simp; omega)
        have h2 := List.getElem_drop (xs := l) (i := j) (j := 0) (h := by simp; omega)
        simp only [Nat.add_zero] at h1 h2
        rw [← h1, ← h2]
        congr 1
      have hits : Its (ctxW w) H2 (.slice (some b) l.length c) m := by
        refine ⟨cs, hic, ?_⟩
        rw [hml]
        exact hb.row
      obtain ⟨b', da, dc, hbe, _, _, l3, hd⟩ := hits.at hjm
      cases hbe
      have e3 : (j : Int) < l.length := by omega
      simp [t0, t6, e3, l3]
      refine w_mk hw2 fun q H3 hq => ?_
      simp
      refine w_store (p := q) (off := 0) (xs := [.int .i64 m[j].1, .slice da m[j].2.length dc]) hq.same.wf' hq.obj (by simp) (by simp) rfl (by simp) (by simp) (by simp) fun H4 hm4 hn4 ho4 => ?_
      have hs24 : Same H2 H4 := hq.same.then_mod hm4 (by have := hq.new; omega)
      have ld4 := fun off n => Obj1.load (C := ctxW w) (off := off) (n := n) ho4
      have hp4 : Obj1 H4 p [.int .i64 num, .int .i64 g, dv] := (Obj1.step st hp (by simpa using hcp)).same hs24
      simp [t1, ld4]
      refine wpCall_mono (leq_spec w hs24.wf' (n := m[j].1) (da := da) (dl := m[j].2.length) (dc := dc) hp4) ?_
      rintro _ H5 ⟨hs5, rfl⟩
      have hs25 := hs24.trans hs5
      have st5 := st.trans (Step.of_same hs25 st.bare)
      have hb5 := hb.same hs25
      have hi5 := hic.same hs25
      have ld5 := fun off n => Obj1.load (C := ctxW w) (off := off) (n := n) (ho4.same hs5)
      by_cases hle : m[j].1 ≤ g
      · simp [hle, t6]
        refine hnext (l.length - (j + 1)) _ (by omega) ⟨_, H5, i, j + 1, m, gg, cs, rfl, rfl, by omega, by omega, by simp [t0], by simp [t1], by simp [t5], by simp; rw [i64_in _ (by omega)], st5, hb5, hgg, hi5, hpl, hml, ?_, ?_⟩
        · rw [hmt]
          unfold still
          rw [filter_take_succ _ hlt, if_neg (by rw [hmj] at hle; simpa using hle), List.append_nil]
        · rw [show j + 1 = j + 1 from rfl, ← List.drop_drop, hmd, List.drop_drop]
      · have e5 : (i : Int) < l.length := by omega
        simp [hle, t0, t5, ld5, e5]
        refine w_storeG (i := i * 2) (xs := [.int .i64 m[j].1, .slice da m[j].2.length dc]) st5.wf' hb5 (by simp) (by simp) rfl (by simp) (by show i * 2 + 2 ≤ l.length * 2; omega) (by simp) fun H6 hm6 hn6 hb6 => ?_
        have st6 : Step [k] H5 col H6 col := Step.of_mod hm6 st5.bare (by rw [hgg]; simp)
        have hij' : i < m.length := by omega
        have hjp : col p = col p := rfl
        have hxs : [Value.int .i64 m[j].1, .slice da m[j].2.length dc] = (cs.drop (j * 2)).take 2 := by
          have h1 := hb.load (C := ctxW w)
          obtain ⟨a', c', he, _, _, hcl, hld⟩ := h1
          cases he
          have h2 := loadN_sub hld (i := j * 2) (m := 2) (by omega)
          rw [l3] at h2
          exact Option.some.inj h2
        have hm1 : m.drop j = l[j] :: l.drop (j + 1) := by rw [hmd, List.drop_eq_getElem_cons hlt]
        have hit1 : ItC (ctxW w) H5 [m[j]] [Value.int .i64 m[j].1, .slice da m[j].2.length dc] := .cons (hd.same hs25) .nil
        have hpl1 : Plain col [Value.int .i64 m[j].1, .slice da m[j].2.length dc] := by rw [hxs]; exact (hpl.drop _).take _
        have hitn : ItC (ctxW w) H5 (m.take i ++ ([m[j]] ++ m.drop (i + 1))) (cs.take (i * 2) ++ ([Value.int .i64 m[j].1, .slice da m[j].2.length dc] ++ cs.drop (i * 2 + 2))) := by
          refine (hi5.take i).app (hit1.app ?_)
          have := hi5.drop (i + 1)
          rwa [show (i + 1) * 2 = i * 2 + 2 by omega] at this
        have hpln : Plain col (cs.take (i * 2) ++ ([Value.int .i64 m[j].1, .slice da m[j].2.length dc] ++ cs.drop (i * 2 + 2))) := (hpl.take _).app (hpl1.app (hpl.drop _))
        have hit6 := hitn.step st6 (by simp; omega) hpln
        have htl : (m.take i).length = i := by rw [List.length_take]; omega
        simp [t5, t6]
        have w1 : IntKind.i64.wrap ((i : Int) + 1) = i + 1 := i64_in _ (by omega)
        have w2 : IntKind.i64.wrap ((j : Int) + 1) = j + 1 := i64_in _ (by omega)
        refine hnext (l.length - (j + 1)) _ (by omega) ⟨_, H6, i + 1, j + 1, _, gg, _, rfl, rfl, by omega, by omega, by simp [t0], by simp [t1], by simp [w1], by simp [w2], st5.trans st6, hb6, hgg, hit6, hpln, ?_, ?_, ?_⟩
        · simp only [List.length_append, List.length_cons, List.length_nil, htl, List.length_drop]
          omega
        · rw [List.take_append, htl, List.take_of_length_le (by omega), show i + 1 - i = 1 by omega]
          unfold still at hmt ⊢
          rw [hmt, filter_take_succ _ hlt, if_pos (by rw [hmj] at hle; simpa using hle), hmj]
          simp
        · rw [List.drop_append, htl, List.drop_eq_nil_of_le (by omega), List.nil_append, List.drop_append, List.drop_eq_nil_of_le (by simp; omega), List.nil_append, List.drop_drop]
          have : m.drop (j + 1) = l.drop (j + 1) := by rw [← List.drop_drop, hmd, List.drop_drop]
          rw [← this]
          congr 1
          simp
          omega
    · have : j = l.length := by omega
      subst this
      simp [t0, t6]
      refine hexit _ _ (by simp) ?_
      simp [t0, t5]
      have hic' : i ≤ l.length := by omega
      obtain ⟨_, _, he, hnc, _⟩ := hb.load (C := ctxW w)
      cases he
      refine w_sliceB (by simp) hb.slc (bounds_lo (l := i) (k := .i64) (by simp) hic' hnc) ?_
      simp
      refine w_clearG (i := i * 2) (esz := 2) (k := l.length - i) (c2 := c - i) st.wf' hb (by simp) rfl (by omega) (by omega) (by simp) fun H3 hm3 hn3 hb3 => ?_
      have st3 : Step [k] H2 col H3 col := Step.of_mod hm3 st.bare (by rw [hgg]; simp)
      simp [t0, t5]
      refine w_sliceB (a := b) (n := l.length) (c := c) (by simp) hb3.slc (bounds_hi (l := i) (k := .i64) (by simp) (by omega)) ?_
      simp
      refine ⟨st.trans st3, ?_⟩
      have hb4 := BufG.sub hb3 (Nat.zero_le i) hic'
      simp only [Nat.zero_mul, Nat.sub_zero, List.drop_zero] at hb4
      have hcsl : cs.length = l.length * 2 := by rw [hic.len, hml]
      rw [aadd_zero, List.take_append_of_le_length (by rw [List.length_take]; omega), List.take_take, Nat.min_self] at hb4
      have hst : still g l = m.take i := by rw [hmt, List.take_length]
      have hitl : (m.take i).length = i := by rw [List.length_take]; omega
      rw [hst]
      refine WIts.of (g := gg) (cs := cs.take (i * 2)) ?_ hgg ((hic.take i).step st3 (by simp; omega) (hpl.take _)) (hpl.take _)
      rw [hitl]
      exact hb4
  · have hfirst : firstI (fun y => decide (y.1 ≤ g)) l = -1 := by
      unfold firstI
      rw [if_neg hany]
    have hall : ∀ x ∈ l, (!decide (x.1 ≤ g)) = true := by
      intro x hx
      cases h : decide (x.1 ≤ g) with
      | false => rfl
      | true => exact absurd (List.findIdx_lt_length_of_exists ⟨x, hx, h⟩) hany
    rw [hfirst]
    simp
    have : still g l = l := List.filter_eq_self.2 hall
    rw [this]
    exact ⟨hst1, hv.step hst0 (by simp) (by simp)⟩
end Go.Ai.Wire

namespace Go.Ai.Wire
open Go.Proofs Go.IntWalk
attribute [local irreducible] Trie.put

/-- A frame put among the early ones, unless its number is there. -/
def insI (y : Itm) : List Itm → List Itm
  | [] => [y]
  | z :: r => if z.1 < y.1 then z :: insI y r else if z.1 = y.1 then z :: r else y :: z :: r

def SortI (l : List Itm) : Prop := ∀ i (hi : i < l.length), (∀ _ : 0 < i, l[i - 1].1 < l[i].1)

theorem SortI.lt {l : List Itm} (h : SortI l) : ∀ (j i : Nat) (hj : j < l.length) (hij : i < j), l[i].1 < l[j].1 := by
  intro j
  induction j with
  | zero => intro i hj hij; omega
  | succ j ih =>
    intro i hj hij
    have h1 := h (j + 1) hj (by omega)
    simp only [Nat.add_sub_cancel] at h1
    by_cases he : i = j
    · subst he; exact h1
    · have := ih i (by omega) (by omega)
      omega

/-- The place of a number among increasing ones. -/
structure PosI (l : List Itm) (n : Int) (q : Nat) : Prop where
  le : q ≤ l.length
  bef : ∀ i (hi : i < l.length), i < q → l[i].1 < n
  beh : ∀ i (hi : i < l.length), q ≤ i → n ≤ l[i].1

theorem insI_pos {y : Itm} : ∀ {l : List Itm} {q : Nat}, PosI l y.1 q → insI y l = if ∃ h : q < l.length, l[q].1 = y.1 then l else l.take q ++ y :: l.drop q
  | [], q, h => by
    have := h.le
    simp at this
    subst this
    simp [insI]
  | z :: r, q, h => by
    cases q with
    | zero =>
      have h0 := h.beh 0 (by simp) (Nat.le_refl _)
      simp at h0
      unfold insI
      rw [if_neg (by omega)]
      by_cases he : z.1 = y.1
      · simp [he]
      · simp [he]
    | succ q =>
      have h0 := h.bef 0 (by simp) (by omega)
      simp at h0
      unfold insI
      rw [if_pos h0]
      have hp : PosI r y.1 q := ⟨by have := h.le; simp at this; omega, fun i hi hiq => by
        have := h.bef (i + 1) (by simp; omega) (by omega)
        simpa using this, fun i hi hiq => by
        have := h.beh (i + 1) (by simp; omega) (by omega)
        simpa using this⟩
      rw [insI_pos hp]
      by_cases he : ∃ h : q < r.length, r[q].1 = y.1
      · rw [if_pos he, if_pos (by obtain ⟨h1, h2⟩ := he; exact ⟨by simp; omega, by simpa using h2⟩)]
      · rw [if_neg he, if_neg (by rintro ⟨h1, h2⟩; exact he ⟨by simpa using h1, by simpa using h2⟩)]
        simp

theorem cmp_spec (w : World) {H : AHeap} (hw : WF H) {n m : Int} {da : Option Addr} {dl dc : Nat} :
    wpCall (ctxW w) (.func (.func 110) #[] #[]) [itV n (.slice da dl dc), .int .i64 m] H fun r H' => Same H H' ∧ r = .int .i64 (IntKind.i64.wrap (n - m)) := by
  refine wpCall_fn rfl (get110 w) ?_
  simp [ir110]
  refine w_box (cs := [.int .i64 n, .slice da dl dc]) hw (by simp [itV]) rfl (by simp) fun q H1 hq => ?_
  have ld := fun off n => Obj1.load (C := ctxW w) (off := off) (n := n) hq.obj
  simp [ld]
  exact hq.same

/-- What is told of a place. -/
def SearchOut (H : AHeap) (l : List Itm) (n : Int) (r : Value) (H' : AHeap) : Prop := Same H H' ∧ ∃ q b, r = .tuple #[.int .i64 (q : Nat), .bool b] ∧ PosI l n q ∧ (b = true ↔ ∃ h : q < l.length, l[q].1 = n)

set_option maxHeartbeats 1000000 in
theorem search_spec (w : World) {H : AHeap} (hw : WF H) {v : Value} {l : List Itm} (hv : Its (ctxW w) H v l) (hsl : SortI l) (hr : ∀ i (hi : i < l.length), 0 ≤ l[i].1 ∧ l[i].1 ≤ 100000) {n : Int} (hn : 0 ≤ n ∧ n ≤ 100000) (hsm : l.length ≤ 1000) :
    wpCall (ctxW w) (.func (.func 109) #[] #[]) [v, .int .i64 n, .func (.func 110) #[] #[]] H (SearchOut H l n) := by
  obtain ⟨a, c, rfl⟩ := hv.val
  refine wpCall_fn rfl (get109 w) ?_
  simp [ir109]
  refine wp_loop' (fun k s => ∃ (T : Env) (H1 : AHeap) (i j : Nat), s = ⟨T, H1, []⟩ ∧ k = j - i ∧ i ≤ j ∧ j ≤ l.length ∧ T.val 0 = .slice a l.length c ∧ T.val 1 = .int .i64 n ∧ T.val 2 = .func (.func 110) #[] #[] ∧ T.val 8 = .int .i64 l.length ∧ T.val 9 = .int .i64 i ∧ T.val 10 = .int .i64 j ∧ Same H H1 ∧
      (∀ t (ht : t < l.length), t < i → l[t].1 < n) ∧ (∀ t (ht : t < l.length), j ≤ t → n ≤ l[t].1)) (n := l.length)
      ⟨_, H, 0, l.length, rfl, rfl, Nat.zero_le _, Nat.le_refl _, by simp, by simp, by simp, by simp, by simp, by simp, Same.refl hw, by intro t ht h; omega, by intro t ht h; omega⟩ ?_
  rintro k s K ⟨T, H1, i, j, rfl, rfl, hij, hj, t0, t1, t2, t8, t9, t10, hs, hbef, hbeh⟩ hnext hexit
  by_cases hlt : i < j
  · have e3 : (i : Int) < j := by omega
    have w1 : IntKind.i64.wrap ((i : Int) + j) = i + j := i64_in _ (by omega)
    have e4 : IntKind.i64.wrap ((IntKind.u64.wrap ((i : Int) + j)).fdiv (2 ^ min 1 IntKind.u64.bits)) = ((i + j) / 2 : Nat) := by
      rw [u64_in _ (by omega)]
      have : (2 : Int) ^ min 1 IntKind.u64.bits = 2 := rfl
      rw [this, Int.fdiv_eq_ediv_of_nonneg _ (by omega)]
      rw [i64_in _ (by omega)]
      omega
    have hm1 : (i + j) / 2 < l.length := by omega
    have hm2 : (((i + j) / 2 : Nat) : Int) < l.length := by omega
    generalize hM : (i + j) / 2 = M at e4 hm1 hm2
    obtain ⟨b, da, dc, rfl, _, _, l3, hd⟩ := (hv.same hs).at hm1
    have hrM := hr M hm1
    simp [t0, t1, t2, t9, t10, e3, w1, e4, hm2, l3]
    refine wpCall_mono (cmp_spec w hs.wf' (n := l[M].1) (m := n)) ?_
    rintro _ H2 ⟨hs2, rfl⟩
    have w2 : IntKind.i64.wrap (l[M].1 - n) = l[M].1 - n := i64_in _ (by omega)
    by_cases hcmp : l[M].1 < n
    · have e5 : l[M].1 - n < 0 := by omega
      have w3 : IntKind.i64.wrap ((M : Int) + 1) = M + 1 := i64_in _ (by omega)
      simp [w2, e5, w3]
      refine hnext (j - (M + 1)) _ (by omega) ⟨_, H2, M + 1, j, rfl, rfl, by omega, hj, by simp [t0], by simp [t1], by simp [t2], by simp [t8], by simp, by simp [t10], hs.trans hs2, fun t ht htm => ?_, hbeh⟩
      rcases Nat.lt_or_ge t M with h | h
      · have := hsl.lt M t hm1 h
        omega
      · have : t = M := by omega
        subst this
        exact hcmp
    · have e5 : ¬ l[M].1 - n < 0 := by omega
      simp [w2, e5]
      refine hnext (M - i) _ (by omega) ⟨_, H2, i, M, rfl, rfl, by omega, by omega, by simp [t0], by simp [t1], by simp [t2], by simp [t8], by simp [t9], by simp, hs.trans hs2, hbef, fun t ht htm => ?_⟩
      rcases Nat.lt_or_ge M t with h | h
      · have := hsl.lt t M ht h
        omega
      · have : t = M := by omega
        subst this
        omega
  · have : i = j := by omega
    subst this
    have hpos : PosI l n i := ⟨hj, hbef, hbeh⟩
    by_cases hlt2 : i < l.length
    · obtain ⟨b, da, dc, rfl, _, _, l3, hd⟩ := (hv.same hs).at hlt2
      have e6 : (i : Int) < l.length := by omega
      have hri := hr i hlt2
      simp [t9, t10]
      refine hexit _ _ (by simp) ?_
      simp [t0, t1, t2, t8, t9, e6, l3]
      refine wpCall_mono (cmp_spec w hs.wf' (n := l[i].1) (m := n)) ?_
      rintro _ H2 ⟨hs2, rfl⟩
      have w2 : IntKind.i64.wrap (l[i].1 - n) = l[i].1 - n := i64_in _ (by omega)
      simp [w2]
      refine ⟨hs.trans hs2, i, _, rfl, hpos, ?_⟩
      simp only [decide_eq_true_eq]
      exact ⟨fun h => ⟨hlt2, by omega⟩, fun ⟨_, h⟩ => by omega⟩
    · have e6 : ¬ (i : Int) < l.length := by omega
      simp [t9, t10]
      refine hexit _ _ (by simp) ?_
      simp [t8, t9, e6]
      refine ⟨hs, i, _, rfl, hpos, ?_⟩
      simp
      intro h
      omega
end Go.Ai.Wire
