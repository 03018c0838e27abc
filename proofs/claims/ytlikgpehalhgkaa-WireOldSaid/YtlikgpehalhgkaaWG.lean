/-
  An end at work sends all open frames again; lists of bytes.
  All open frames are collected.
  'Send' and 'Again' of the program.
-/
import Derived.Test.YtlikgpehalhgkaaWF
namespace Go.Ai.Wire
open Go.Proofs Go.IntWalk
attribute [local irreducible] Trie.put

/-- The cells of a list of bytes. -/
inductive FrC (C : Ctx) (H : AHeap) : List (List UInt8) → List Value → Prop
  | nil : FrC C H [] []
  | cons {d : List UInt8} {v : Value} {l : List (List UInt8)} {cs : List Value} : Bs C H v d → FrC C H l cs → FrC C H (d :: l) (v :: cs)

section
variable {C : Ctx} {H H' : AHeap}
theorem FrC.same (hs : Same H H') {l : List (List UInt8)} {cs : List Value} (h : FrC C H l cs) : FrC C H' l cs := by
  induction h with
  | nil => exact .nil
  | cons h1 _ ih => exact .cons (h1.same hs) ih
theorem FrC.mod {g : Nat} (hm : Mod g H H') {l : List (List UInt8)} {cs : List Value} (h : FrC C H l cs) (hf : ∀ v ∈ cs, Off g v) : FrC C H' l cs := by
  induction h with
  | nil => exact .nil
  | cons h1 _ ih =>
    refine .cons (Row.mod hm h1 (hf _ (by simp))) (ih fun v hv => hf v ?_)
    simp [hv]
theorem FrC.len {l : List (List UInt8)} {cs : List Value} (h : FrC C H l cs) : cs.length = l.length := by
  induction h with
  | nil => rfl
  | cons _ _ ih => simp only [List.length_cons, ih]
theorem FrC.app {l l' : List (List UInt8)} {cs cs' : List Value} (h : FrC C H l cs) (h' : FrC C H l' cs') : FrC C H (l ++ l') (cs ++ cs') := by
  induction h with
  | nil => exact h'
  | cons h1 _ ih => exact .cons h1 ih
theorem FrC.at {l : List (List UInt8)} {cs : List Value} (h : FrC C H l cs) : ∀ {i : Nat} (hi : i < l.length), ∃ v, cs[i]? = some v ∧ Bs C H v l[i] := by
  induction h with
  | nil => intro i hi; simp at hi
  | @cons d v l cs h1 _ ih =>
    intro i hi
    cases i with
    | zero => exact ⟨v, by simp, by simpa using h1⟩
    | succ i =>
      obtain ⟨u, h2, h3⟩ := ih (i := i) (by simpa using hi)
      exact ⟨u, by simpa using h2, by simpa using h3⟩

/-- A slice of bytes' slices. -/
def Frs (C : Ctx) (H : AHeap) (v : Value) (l : List (List UInt8)) : Prop := ∃ cs, FrC C H l cs ∧ Row C H v 1 l.length cs
theorem Frs.same (hs : Same H H') {v : Value} {l : List (List UInt8)} (h : Frs C H v l) : Frs C H' v l := by
  obtain ⟨cs, h1, h2⟩ := h
  exact ⟨cs, h1.same hs, Row.same hs h2⟩
theorem Frs.val {v : Value} {l : List (List UInt8)} (h : Frs C H v l) : ∃ a c, v = .slice a l.length c := by
  obtain ⟨_, _, _, a, c, h, _⟩ := h
  exact ⟨a, c, h⟩
theorem Frs.nil (C : Ctx) (H : AHeap) : Frs C H (.slice none 0 0) [] := ⟨[], .nil, rfl, none, 0, rfl, by simp, by simp⟩
theorem Frs.at {a : Option Addr} {n c : Nat} {l : List (List UInt8)} (h : Frs C H (.slice a n c) l) {i : Nat} (hi : i < l.length) : ∃ b da dc, a = some b ∧ loadN C H.get (aadd b i) 1 = some [.slice da l[i].length dc] ∧ Bs C H (.slice da l[i].length dc) l[i] := by
  obtain ⟨cs, h1, h2⟩ := h
  obtain ⟨v, h3, h4⟩ := h1.at hi
  obtain ⟨da, dc, rfl⟩ := h4.val
  obtain ⟨b, hb, _, hl⟩ := Row.at h2 (i := i) (by omega)
  refine ⟨b, da, dc, hb, ?_, h4⟩
  rw [hl]
  have := (List.getElem?_eq_some_iff.1 h3).2
  rw [this]

/-- Bytes' slices in own memory, from a block on. -/
def FrN (C : Ctx) (H : AHeap) (lo : Nat) (v : Value) (l : List (List UInt8)) : Prop :=
  ∃ g cs, ((v = .slice none 0 0 ∧ l = []) ∨ (l ≠ [] ∧ lo ≤ g ∧ Buf H v g 1 l.length cs)) ∧ FrC C H l cs ∧ ∀ u ∈ cs, ∀ a n c, u = .slice (some a) n c → n ≠ 0 → lo ≤ a.block ∧ a.block ≠ g

theorem FrN.frs {lo : Nat} {v : Value} {l : List (List UInt8)} (h : FrN C H lo v l) : Frs C H v l := by
  obtain ⟨g, cs, ⟨rfl, rfl⟩ | ⟨_, _, hb⟩, h2, _⟩ := h
  · exact Frs.nil C H
  · exact ⟨cs, h2, hb.row⟩
theorem FrN.same (hs : Same H H') {lo : Nat} {v : Value} {l : List (List UInt8)} (h : FrN C H lo v l) : FrN C H' lo v l := by
  obtain ⟨g, cs, h1, h2, h3⟩ := h
  exact ⟨g, cs, h1.imp id fun h => ⟨h.1, h.2.1, h.2.2.same hs⟩, h2.same hs, h3⟩
theorem FrN.mod {q lo : Nat} (hm : Mod q H H') (hq : q < lo) {v : Value} {l : List (List UInt8)} (h : FrN C H lo v l) : FrN C H' lo v l := by
  obtain ⟨g, cs, h1, h2, h3⟩ := h
  refine ⟨g, cs, h1.imp id fun h => ⟨h.1, h.2.1, h.2.2.mod hm (by omega)⟩, h2.mod hm fun u hu a n c he hn => ?_, h3⟩
  have := h3 u hu a n c he hn
  omega

/-- One more. -/
theorem FrN.snoc {H1 H4 H5 : AHeap} {lo g g' q : Nat} {v' : Value} {l : List (List UInt8)} {cs : List Value} {d : List UInt8} {v : Value} (hs : Same H1 H4) (hlo : lo ≤ H1.next) (k2 : l ≠ [] → lo ≤ g ∧ g < H1.next) (k3 : FrC C H4 l cs)
    (k4 : ∀ u ∈ cs, ∀ a n c, u = .slice (some a) n c → n ≠ 0 → lo ≤ a.block ∧ a.block ≠ g ∧ a.block < H4.next) (hd : Buf H4 v q 1 d.length (d.map u8v)) (hq : lo ≤ q) (hqg : q ≠ g) (hg : Grown H4 H5 l.length g g') (hb : Buf H5 v' g' 1 (l.length + 1) (cs ++ [v])) :
    FrN C H5 lo v' (l ++ [d]) := by
  have hw4 := hs.wf'
  have hqlt := hd.lt hw4
  have n14 := hs.grow.next
  have hdb : Bs C H4 v d := hd.row
  have hv : ∀ a n c, v = .slice (some a) n c → a.block = q := by
    intro a n c he
    obtain ⟨a', he', hbl, _⟩ := hd.load (C := C)
    rw [he] at he'
    cases he'
    exact hbl
  have key : ∀ (g0 : Nat), (∀ u ∈ cs, ∀ a n c, u = .slice (some a) n c → n ≠ 0 → a.block ≠ g0) → q ≠ g0 → ∀ u ∈ cs ++ [v], ∀ a n c, u = .slice (some a) n c → n ≠ 0 → lo ≤ a.block ∧ a.block ≠ g0 := by
    intro g0 h1 h2 u hu a n c he hn
    rw [List.mem_append] at hu
    rcases hu with hu | hu
    · exact ⟨(k4 u hu a n c he hn).1, h1 u hu a n c he hn⟩
    · simp only [List.mem_cons, List.not_mem_nil, or_false] at hu
      subst hu
      have := hv a n c he
      omega
  have hfr : FrC C H4 (l ++ [d]) (cs ++ [v]) := k3.app (.cons hdb .nil)
  rcases hg with ⟨h0, rfl, hs5⟩ | ⟨h0, rfl, hlt, hm5⟩
  · refine ⟨H4.next, cs ++ [v], .inr ⟨by simp, by omega, by simpa using hb⟩, hfr.same hs5, key _ (fun u hu a n c he hn => ?_) (by omega)⟩
    have := k4 u hu a n c he hn
    omega
  · have hl : l ≠ [] := fun h => h0 (by rw [h]; rfl)
    have k5 := key g' (fun u hu a n c he hn => (k4 u hu a n c he hn).2.1) hqg
    exact ⟨g', cs ++ [v], .inr ⟨by simp, (k2 hl).1, by simpa using hb⟩, hfr.mod hm5 fun u hu a n c he hn => (k5 u hu a n c he hn).2, k5⟩

theorem FrC.lt (hw : WF H) {l : List (List UInt8)} {cs : List Value} (h : FrC C H l cs) : ∀ u ∈ cs, ∀ a n c, u = .slice (some a) n c → n ≠ 0 → a.block < H.next := by
  induction h with
  | nil => intro u hu; cases hu
  | cons h1 _ ih =>
    intro u hu a n c he hn
    simp only [List.mem_cons] at hu
    rcases hu with rfl | hu
    · obtain ⟨_, a', c', he', _, h4⟩ := h1
      rw [he] at he'
      cases he'
      exact load_lt hw (h4 a rfl hn)
    · exact ih u hu a n c he hn
end

/-- The packets of all open frames. -/
def packets (x : EndA) : List (List UInt8) := x.opens.map fun y => enc y.1.toNat x.got.toNat y.2

/-- What the loop over the open frames wants. -/
def OpensOK (x : EndA) : Prop := (0 ≤ x.got ∧ x.got ≤ 60000) ∧ x.opens.length ≤ 1000 ∧ ∀ i (h : i < x.opens.length), 0 ≤ x.opens[i].1 ∧ x.opens[i].1 ≤ 60000 ∧ x.opens[i].2.length ≤ 500

theorem EndOK.opensOK {x : EndA} (h : EndOK x) : OpensOK x :=
  ⟨h.2.1, by have := h.2.2.1; omega, fun i hi => by
    have h1 := h.2.2.2.1 i hi
    have h2 := h.2.2.1
    have h3 := h.1
    have h4 := h1.2.2.2
    exact ⟨by omega, by omega, by omega⟩⟩

theorem again1_spec (w : World) {x : EndA} (hx : OpensOK x) {q b : Nat} {ov ev y : Value} {I : Nat → AHeap → Prop} (hwf : ∀ i H, I i H → WF H)
    (hkeep : ∀ i H, I i H → Obj1 H b [.pointer (some ⟨q, 0, none⟩)] ∧ Obj1 H q [.int .i64 x.last, ov, .int .i64 x.got, ev] ∧ Its (ctxW w) H ov x.opens)
    (hy : ∀ i (hi : i < x.opens.length) H0 H v g, I i H0 → Same H0 H → H0.next ≤ g → Buf H v g 1 (enc x.opens[i].1.toNat x.got.toNat x.opens[i].2).length ((enc x.opens[i].1.toNat x.got.toNat x.opens[i].2).map u8v) → wpCall (ctxW w) y [v] H fun r H' => r = .bool true ∧ I (i + 1) H') {H : AHeap} (h0 : I 0 H) :
    wpCall (ctxW w) (.func (.func 85) #[] #[.pointer (some ⟨b, 0, none⟩)]) [y] H fun _ H' => I x.opens.length H' := by
  refine wpCall_fn rfl (get85 w) ?_
  obtain ⟨hb, hq, ho⟩ := hkeep 0 H h0
  obtain ⟨a1, c1, rfl⟩ := ho.val
  have ldb := fun off n => Obj1.load (C := ctxW w) (off := off) (n := n) hb
  have ldq := fun off n => Obj1.load (C := ctxW w) (off := off) (n := n) hq
  simp [ir85, ldb, ldq]
  refine wp_loop' (fun n s => ∃ (T : Env) (H1 : AHeap) (i : Nat), s = ⟨T, H1, []⟩ ∧ n = x.opens.length - i ∧ i ≤ x.opens.length ∧ T.val 0 = y ∧ T.val 1 = .pointer (some ⟨b, 0, none⟩) ∧ T.val 9 = .slice a1 x.opens.length c1 ∧ T.val 10 = .int .i64 x.opens.length ∧ T.val 11 = .int .i64 i ∧ I i H1) (n := x.opens.length)
    ⟨_, H, 0, rfl, rfl, Nat.zero_le _, by simp, by simp, by simp, by simp, by simp, h0⟩ ?_
  rintro n s K ⟨T, H1, i, rfl, rfl, hi, t0, t1, t9, t10, t11, hI⟩ hnext hexit
  have hw1 := hwf i H1 hI
  by_cases hlt : i < x.opens.length
  · obtain ⟨hb1, hq1, ho1⟩ := hkeep i H1 hI
    obtain ⟨bb, da, dc, rfl, _, _, l3, hd⟩ := ho1.at hlt
    have e3 : (i : Int) < x.opens.length := by omega
    simp [t0, t1, t9, t10, t11, e3, l3]
    refine w_mk hw1 fun p2 H2 hp2 => ?_
    refine w_store (p := p2) (off := 0) (xs := [.int .i64 x.opens[i].1, .slice da x.opens[i].2.length dc]) hp2.same.wf' hp2.obj (by simp) (by simp) rfl (by simp) (by simp) (by simp) fun H3 hm3 hn3 ho3 => ?_
    have hs13 : Same H1 H3 := hp2.same.then_mod hm3 (by have := hp2.new; omega)
    have ldb3 := fun off n => Obj1.load (C := ctxW w) (off := off) (n := n) (hb1.same hs13)
    have ldp3 := fun off n => Obj1.load (C := ctxW w) (off := off) (n := n) ho3
    obtain ⟨N, hN⟩ : ∃ N : Nat, x.opens[i].1 = N := ⟨x.opens[i].1.toNat, by have := (hx.2.2 i hlt).1; omega⟩
    obtain ⟨G, hG⟩ : ∃ G : Nat, x.got = G := ⟨x.got.toNat, by have := hx.1.1; omega⟩
    have hb := hx.2.2 i hlt
    have hg := hx.1
    have hcall := of_buf w hs13.wf' (q := q) (last := x.last) (ov := .slice (some bb) x.opens.length c1) (ev := ev) (n := N) (g := G) (by rw [← hG]; exact hq1.same hs13) (by omega) (by omega) (hd.same hs13) (by omega)
    simp only [itV, ← hN] at hcall
    simp [t0, t1, ldb3, ldp3]
    refine wpCall_mono hcall ?_
    rintro r4 H4 ⟨hs4, g4, hg4, hb4⟩
    simp
    have eN : x.opens[i].1.toNat = N := by omega
    have eG : x.got.toNat = G := by omega
    refine wpCall_mono (hy i hlt H1 H4 r4 g4 hI (hs13.trans hs4) (by have := hs13.grow.next; omega) (by rw [eN, eG]; exact hb4)) ?_
    rintro _ H5 ⟨rfl, hI5⟩
    simp [t0, t1, t9, t10, t11]
    have := hx.2.1
    exact hnext (x.opens.length - (i + 1)) _ (by omega) ⟨_, H5, i + 1, rfl, rfl, by omega, by simp [t0], by simp [t1], by simp [t9], by simp [t10], by simp; rw [i64_in _ (by omega)], hI5⟩
  · have : i = x.opens.length := by omega
    subst this
    simp [t0, t1, t9, t10, t11]
    refine hexit _ _ (by simp) ?_
    simp
    exact hI
end Go.Ai.Wire

namespace Go.Ai.Wire
open Go.Proofs Go.IntWalk
attribute [local irreducible] Trie.put

theorem len_packets (x : EndA) : (packets x).length = x.opens.length := by simp [packets]

theorem appendSeq_spec (w : World) {H : AHeap} (hw : WF H) {x : EndA} (hx : OpensOK x) {q b : Nat} {ov ev : Value} (hb : Obj1 H b [.pointer (some ⟨q, 0, none⟩)]) (hq : Obj1 H q [.int .i64 x.last, ov, .int .i64 x.got, ev]) (ho : Its (ctxW w) H ov x.opens) :
    wpCall (ctxW w) (.func (.func 84) #[] #[]) [.slice none 0 0, .func (.func 85) #[] #[.pointer (some ⟨b, 0, none⟩)]] H fun r H' => Same H H' ∧ FrN (ctxW w) H' H.next r (packets x) := by
  refine wpCall_fn rfl (get84 w) ?_
  simp [ir84]
  refine w_box (cs := [.slice none 0 0]) hw (by simp) rfl (by simp) fun p H1 hp => ?_
  simp
  refine wpC_range' (by simp [isFn]) fun L0 l1 l2 l3 l4 l5 l6 => ?_
  simp
  have hw1 := hp.same.wf'
  have np := hp.new
  have np' := hp.next
  obtain ⟨dd, hdd⟩ : ∃ dd, dd = H1.next := ⟨_, rfl⟩
  obtain ⟨l, hl⟩ : ∃ l, l = H1.next + 1 := ⟨_, rfl⟩
  obtain ⟨H2, hH2⟩ : ∃ H2, H2 = (H1.push (.deferred true)).push (.loop L0) := ⟨_, rfl⟩
  rw [← hl, ← hH2, ← hdd]
  have hs12 : Same H1 H2 := by rw [hH2]; exact (Same.push hw1 _).trans (Same.push (hw1.push _) _)
  have n2 : H2.next = l + 1 := by rw [hH2, hl]; rfl
  have hgd : H2.get dd = some (.deferred true) := by rw [hH2, hdd, get_push_other _ (by simp)]; exact get_push_same H1 _
  have hgl : H2.get l = some (.loop L0) := by
    have : l = (H1.push (.deferred true)).next := by rw [hl]; rfl
    rw [hH2, this]
    exact get_push_same _ _
  let I : Nat → AHeap → Prop := fun i Hc => Same H Hc ∧ H2.next ≤ Hc.next ∧ Hc.get dd = some (.deferred true) ∧ Hc.get l = some (.loop L0) ∧ ∃ v, Obj1 Hc p [v] ∧ FrN (ctxW w) Hc H2.next v ((packets x).take i)
  have step : ∀ i Hc Hd, I i Hc → Same Hc Hd → I i Hd := by
    rintro i Hc Hd ⟨h1, h2, h3, h4, v, h5, h6⟩ hs
    exact ⟨h1.trans hs, Nat.le_trans h2 hs.grow.next, by rw [hs.same dd (get_lt hs.wf (by rw [h3]; simp))]; exact h3, by rw [hs.same l (get_lt hs.wf (by rw [h4]; simp))]; exact h4, v, h5.same hs, h6.same hs⟩
  refine wpCall_mono (again1_spec w hx (q := q) (b := b) (ov := ov) (ev := ev) (I := I) (fun i Hc h => h.1.wf') (fun i Hc h => ⟨hb.same h.1, hq.same h.1, ho.same h.1⟩) ?_ (H := H2)
    ⟨hp.same.trans hs12, Nat.le_refl _, hgd, hgl, _, hp.obj.same hs12, 0, [], .inl ⟨rfl, by simp⟩, by simpa using FrC.nil, fun u hu => by cases hu⟩) ?_
  · intro i hi Hp Hc v g hIp hpc hg hbuf
    obtain ⟨h1, h2, h3, h4, -⟩ := step i Hp Hc hIp hpc
    obtain ⟨-, n2p, -, -, v0, h5p, h6p⟩ := hIp
    have h5 := h5p.same hpc
    have hwc := h1.wf'
    obtain ⟨E, hE⟩ : ∃ E, E = enc x.opens[i].1.toNat x.got.toNat x.opens[i].2 := ⟨_, rfl⟩
    rw [← hE] at hbuf
    refine wpCall_yield h4 l1 (by rw [l4]; rfl) ?_
    rw [l5, l4, l3]
    simp [setParams]
    refine ⟨L0, h4, l1, ?_⟩
    have hmb : Mod l Hc (Hc.put l (.loop { L0 with state := .busy })) := Mod.put' hwc _ h4 (by simp)
    have hbl : (Hc.put l (.loop { L0 with state := .busy })).get l = some (.loop { L0 with state := .busy }) := get_put_same _ (base_le_of h4 (by simp))
    have nb : (Hc.put l (.loop { L0 with state := .busy })).next = Hc.next := rfl
    generalize Hc.put l (.loop { L0 with state := .busy }) = Hb at hmb hbl nb ⊢
    rw [l6]
    have hpl : p ≠ l := by omega
    have h5b : Obj1 Hb p [v0] := h5.mod hmb hpl
    have ldp := fun off n => Obj1.load (C := ctxW w) (off := off) (n := n) h5b
    have hg2 : H2.next ≤ g := by omega
    have hbufb : Buf Hb v g 1 E.length (E.map u8v) := hbuf.mod hmb (by omega)
    simp [ldp]
    obtain ⟨av, ev', hblk, -⟩ := hbufb.load (C := ctxW w)
    subst ev'
    have hwb := hmb.wf'
    refine w_bs (esz := 1) (cs := [.slice (some av) E.length E.length]) hwb (by simp) (by simp) (by simp) fun q1 Hd hq1 hb1 => ?_
    simp
    obtain ⟨ga, cs, k1, k3, k4⟩ := h6p
    have hwp : WF Hp := hpc.wf
    have klt := FrC.lt hwp k3
    have kd : ∀ u ∈ cs, Off l u := fun u hu a n c he hn => by have := klt u hu a n c he hn; have := k4 u hu a n c he hn; omega
    have k3d : FrC (ctxW w) Hd ((packets x).take i) cs := ((k3.same hpc).mod hmb kd).same hq1.same
    have npc := hpc.grow.next
    have nd := hq1.same.grow.next
    have hgn : ∃ g0, NB Hd v0 g0 1 ((packets x).take i).length cs ∧ ((packets x).take i ≠ [] → H2.next ≤ g0 ∧ g0 < Hb.next) ∧ (∀ u ∈ cs, ∀ a n c, u = .slice (some a) n c → n ≠ 0 → H2.next ≤ a.block ∧ a.block ≠ g0 ∧ a.block < Hd.next) ∧ g ≠ g0 := by
      rcases k1 with ⟨e1, e2⟩ | ⟨e1, e2, e3⟩
      · rw [e2] at k3
        cases k3
        exact ⟨g + 1, .inl ⟨e1, by rw [e2]; rfl, rfl⟩, fun h => absurd e2 h, (fun u hu => by cases hu), by omega⟩
      · have hga := e3.lt hwp
        exact ⟨ga, .inr ⟨fun h => e1 (List.length_eq_zero_iff.1 h), ((e3.same hpc).mod hmb (by omega)).same hq1.same⟩, fun _ => ⟨e2, by omega⟩,
          fun u hu a n c he hn => ⟨(k4 u hu a n c he hn).1, (k4 u hu a n c he hn).2, by have := klt u hu a n c he hn; omega⟩, by omega⟩
    obtain ⟨g0, j1, j2, j4, j5⟩ := hgn
    have hil : ((packets x).take i).length = i := by rw [List.length_take, len_packets]; omega
    have hx1 := hx.2.1
    refine w_appN (g := g0) (n := ((packets x).take i).length) (m := 1) (cs := cs) (xs := [.slice (some av) E.length E.length]) hq1.same.wf' (by simpa using j1) (by simpa using hb1.row) (by simp) (by simp) (by simp [roomy]; omega) fun v2 He g2 hge hbe => ?_
    have hits : FrN (ctxW w) He H2.next v2 ((packets x).take i ++ [E]) := FrN.snoc hq1.same (by omega) j2 k3d j4 (hbufb.same hq1.same) hg2 j5 hge hbe
    have hpe : Obj1 He p [v0] ∧ Same H He ∧ Hd.next ≤ He.next ∧ He.get l = some (.loop { L0 with state := .busy }) ∧ He.get dd = some (.deferred true) := by
      have hsb : Same H Hb := h1.then_mod hmb (by have := hp.same.grow.next; omega)
      have hbd : Hb.get dd = some (.deferred true) := by rw [hmb.same dd (by omega) (by omega)]; exact h3
      have hsd := hsb.trans hq1.same
      have hdl : Hd.get l = some (.loop { L0 with state := .busy }) := by rw [hq1.same.same l (by omega)]; exact hbl
      have hdd' : Hd.get dd = some (.deferred true) := by rw [hq1.same.same dd (by omega)]; exact hbd
      rcases hge with ⟨_, _, hs⟩ | ⟨h0, rfl, hlt, hm⟩
      · exact ⟨(h5b.same hq1.same).same hs, hsd.trans hs, hs.grow.next, by rw [hs.same l (by omega)]; exact hdl, by rw [hs.same dd (by omega)]; exact hdd'⟩
      · have := j2 fun h => h0 (by rw [h]; rfl)
        exact ⟨(h5b.same hq1.same).mod hm (by omega), hsd.then_mod hm (by have := hs12.grow.next; have := hp.same.grow.next; omega), hm.grow.next, by rw [hm.same l (by omega) (by omega)]; exact hdl, by rw [hm.same dd (by omega) (by omega)]; exact hdd'⟩
    obtain ⟨hpe, hse, nde, hel, hed⟩ := hpe
    obtain ⟨ae, eve, -, -⟩ := hbe.load (C := ctxW w)
    subst eve
    simp
    refine w_store (p := p) (off := 0) (xs := [.slice (some ae) (((packets x).take i).length + 1) (((packets x).take i).length + 1)]) hse.wf' hpe (by simp) (by simp) rfl (by simp) (by simp) (by simp) fun Hf hmf hnf hof => ?_
    simp
    have hfl : Hf.get l = some (.loop { L0 with state := .busy }) := by rw [hmf.same l (by omega) (by omega)]; exact hel
    have hL0 : ({ state := .ready, pending := none, T := L0.T, params := L0.params, assign := L0.assign, body := L0.body } : ALoop) = L0 := by
      cases L0
      simp only at l1 l2
      subst l1 l2
      rfl
    refine ⟨.bool true, Hf.put l (.loop L0), by simp [endRound, hfl, hL0], rfl, ?_⟩
    have hml : Mod l Hf (Hf.put l (.loop L0)) := Mod.put' hmf.wf' _ hfl (by simp)
    have hfd : Hf.get dd = some (.deferred true) := by rw [hmf.same dd (by omega) (by omega)]; exact hed
    have n1 := hp.same.grow.next
    have n12 := hs12.grow.next
    refine ⟨(hse.then_mod hmf (by omega)).then_mod hml (by omega), by have := hmf.grow.next; have := hml.grow.next; omega, by rw [hml.same dd (by omega) (by omega)]; exact hfd, get_put_same _ (base_le_of hfl (by simp)), _, hof.mod hml hpl, ?_⟩
    rw [List.take_succ_eq_append_getElem (by rw [len_packets]; exact hi)]
    have e1 : (packets x)[i]'(by rw [len_packets]; exact hi) = E := by rw [hE]; simp [packets]
    rw [e1]
    simpa using (hits.mod hmf (by omega)).mod hml (by omega)
  · rintro r H3 ⟨h1, h2, h3, h4, v, h5, h6⟩
    refine ⟨L0, h4, by rw [l1]; simp, ?_⟩
    have hmx : Mod l H3 (H3.put l (.loop { L0 with state := .exhausted })) := Mod.put' h1.wf' _ h4 (by simp)
    have nx : (H3.put l (.loop { L0 with state := .exhausted })).next = H3.next := rfl
    generalize H3.put l (.loop { L0 with state := .exhausted }) = Hx at hmx nx ⊢
    rw [l2]
    have hpl : p ≠ l := by omega
    have hdl : dd ≠ l := by omega
    have hxd : Hx.get dd = some (.deferred true) := by rw [hmx.same dd (by omega) hdl]; exact h3
    have ldp := fun off n => Obj1.load (C := ctxW w) (off := off) (n := n) (h5.mod hmx hpl)
    simp [ldp]
    rw [finK_ret1 hxd]
    simp
    have hmd : Mod dd Hx (Hx.put dd (.deferred false)) := Mod.put' hmx.wf' _ hxd (by simp)
    refine ⟨(h1.then_mod hmx (by have := hp.same.grow.next; omega)).then_mod hmd (by have := hp.same.grow.next; omega), ?_⟩
    have h7 := (h6.mod hmx (by omega)).mod hmd (by omega)
    rw [← len_packets, List.take_length] at h7
    obtain ⟨g, cs, k1, k2, k3⟩ := h7
    refine ⟨g, cs, k1.imp id fun h => ⟨h.1, by have := hs12.grow.next; have := hp.same.grow.next; omega, h.2.2⟩, k2, fun u hu a n c he hn => ?_⟩
    have := k3 u hu a n c he hn
    have := hs12.grow.next
    have := hp.same.grow.next
    omega
end Go.Ai.Wire

namespace Go.Ai.Wire
open Go.Proofs Go.IntWalk
attribute [local irreducible] Trie.put

theorem collect_spec (w : World) {H : AHeap} (hw : WF H) {x : EndA} (hx : OpensOK x) {q b : Nat} {ov ev : Value} (hb : Obj1 H b [.pointer (some ⟨q, 0, none⟩)]) (hq : Obj1 H q [.int .i64 x.last, ov, .int .i64 x.got, ev]) (ho : Its (ctxW w) H ov x.opens) :
    wpCall (ctxW w) (.func (.func 63) #[] #[]) [.func (.func 85) #[] #[.pointer (some ⟨b, 0, none⟩)]] H fun r H' => Same H H' ∧ FrN (ctxW w) H' H.next r (packets x) := by
  refine wpCall_fn rfl (get63 w) ?_
  simp [ir63]
  refine wpCall_mono (appendSeq_spec w hw hx hb hq ho) ?_
  rintro r H1 ⟨h1, h2⟩
  simp
  exact ⟨h1, h2⟩

/-- What 'Again' gives. -/
def AgainOut (C : Ctx) (H : AHeap) (x : EndA) (r : Value) (H' : AHeap) : Prop :=
  Same H H' ∧ ((EndOK x ∧ ∃ v, r = .tuple #[v, .int .i64 0] ∧ Frs C H' v (packets x)) ∨ (¬ EndOK x ∧ r = .tuple #[.slice none 0 0, .int .i64 4]))

theorem again_spec (w : World) {H : AHeap} (hw : WF H) {x : EndA} {v : Value} (hx : EndR (ctxW w) H x v) (hsm : EndS x) : wpCall (ctxW w) (.func (.func 34) #[] #[]) [v] H (AgainOut (ctxW w) H x) := by
  obtain ⟨ov, ev, rfl, ho, he⟩ := hx
  obtain ⟨a1, c1, rfl⟩ := ho.val
  obtain ⟨a2, c2, rfl⟩ := he.val
  refine wpCall_fn rfl (get34 w) ?_
  simp [ir34]
  refine w_box (cs := [.int .i64 x.last, .slice a1 x.opens.length c1, .int .i64 x.got, .slice a2 x.early.length c2]) hw (by simp [endV]) rfl (by simp) fun p H2 hp => ?_
  have ld2 := fun off n => Obj1.load (C := ctxW w) (off := off) (n := n) hp.obj
  simp [ld2]
  refine wpCall_mono (open_spec w hp.same.wf' (x := x) ⟨_, _, rfl, ho.same hp.same, he.same hp.same⟩ hsm) ?_
  rintro r H3 ⟨hs3, ⟨hok, q, rfl, hq⟩ | ⟨hok, rfl⟩⟩
  · simp
    have hs03 := hp.same.trans hs3
    obtain ⟨m1, m2, ov', ev', h1, h2, h3, h4, h5, h6, h7⟩ := hq
    refine wpCall_fn rfl (get64 w) ?_
    simp [ir64]
    refine w_box (cs := [.pointer (some ⟨q, 0, none⟩)]) hs03.wf' (by simp) rfl (by simp) fun b H4 hb => ?_
    simp
    refine wpCall_mono (collect_spec w hb.same.wf' hok.opensOK hb.obj (h1.same hb.same) (h6.its.same hb.same)) ?_
    rintro r5 H5 ⟨hs5, h8⟩
    simp
    exact ⟨(hs03.trans hb.same).trans hs5, .inl ⟨hok, r5, rfl, h8.frs⟩⟩
  · simp
    exact ⟨hp.same.trans hs3, .inr ⟨hok, rfl⟩⟩

/-- Which error 'Send' gives. -/
def sendErr (x : EndA) (d : List UInt8) (e : Int) : Prop :=
  (¬ EndOK x ∧ e = 4) ∨ (EndOK x ∧ ¬ FrameOK d ∧ e = 2) ∨ (EndOK x ∧ FrameOK d ∧ x.last = 60000 ∧ e = 5) ∨ (EndOK x ∧ FrameOK d ∧ x.last ≠ 60000 ∧ x.opens.length = 8 ∧ e = 8) ∨ (EndOK x ∧ FrameOK d ∧ x.last ≠ 60000 ∧ x.opens.length ≠ 8 ∧ e = 0)

theorem sendErr_fun {x : EndA} {d : List UInt8} {e e' : Int} (h : sendErr x d e) (h' : sendErr x d e') : e = e' := by
  rcases h with ⟨h1, rfl⟩ | ⟨h1, h2, rfl⟩ | ⟨h1, h2, h3, rfl⟩ | ⟨h1, h2, h3, h4, rfl⟩ | ⟨h1, h2, h3, h4, rfl⟩ <;> rcases h' with ⟨k1, rfl⟩ | ⟨k1, k2, rfl⟩ | ⟨k1, k2, k3, rfl⟩ | ⟨k1, k2, k3, k4, rfl⟩ | ⟨k1, k2, k3, k4, rfl⟩ <;> first | rfl | contradiction

/-- What 'Send' gives. -/
def SendRes (C : Ctx) (H : AHeap) (x : EndA) (d : List UInt8) (r : Value) (H' : AHeap) : Prop :=
  Same H H' ∧ ∃ e y b v, sendErr x d e ∧ r = .tuple #[y, b, .int .i64 e] ∧ EndR C H' (if e = 0 then sent x d else ⟨0, [], 0, []⟩) y ∧ b = v ∧ Bs C H' v (if e = 0 then enc (x.last + 1).toNat x.got.toNat d else [])

theorem zeroEnd (C : Ctx) (H : AHeap) : EndR C H ⟨0, [], 0, []⟩ (.agg #[.int .i64 0, .slice none 0 0, .int .i64 0, .slice none 0 0]) := ⟨_, _, rfl, Its.nil C H, Its.nil C H⟩

theorem SendRes.err {C : Ctx} {H H' : AHeap} {x : EndA} {d : List UInt8} {e : Int} (hs : Same H H') (h : sendErr x d e) (h0 : e ≠ 0) : SendRes C H x d (.tuple #[.agg #[.int .i64 0, .slice none 0 0, .int .i64 0, .slice none 0 0], .slice none 0 0, .int .i64 e]) H' :=
  ⟨hs, e, _, _, _, h, rfl, by rw [if_neg h0]; exact zeroEnd C H', rfl, by rw [if_neg h0]; exact Bs.nil C H'⟩

set_option maxHeartbeats 1000000 in
theorem wireSend_spec (w : World) {H : AHeap} (hw : WF H) {x : EndA} {v u : Value} {d : List UInt8} (hx : EndR (ctxW w) H x v) (hsm : EndS x) (hd : Bs (ctxW w) H u d) : wpCall (ctxW w) (.func (.func 32) #[] #[]) [v, u] H (SendRes (ctxW w) H x d) := by
  obtain ⟨ov, ev, rfl, ho, he⟩ := hx
  obtain ⟨a1, c1, rfl⟩ := ho.val
  obtain ⟨a2, c2, rfl⟩ := he.val
  obtain ⟨da, dc, rfl⟩ := hd.val
  refine wpCall_fn rfl (get32 w) ?_
  simp [ir32]
  refine w_box (cs := [.int .i64 x.last, .slice a1 x.opens.length c1, .int .i64 x.got, .slice a2 x.early.length c2]) hw (by simp [endV]) rfl (by simp) fun p H1 hp => ?_
  refine w_mk hp.same.wf' fun t H2 ht => ?_
  have hs02 := hp.same.trans ht.same
  have ld2 := fun off n => Obj1.load (C := ctxW w) (off := off) (n := n) (hp.obj.same ht.same)
  simp [ld2]
  refine wpCall_mono (open_spec w hs02.wf' (x := x) ⟨_, _, rfl, ho.same hs02, he.same hs02⟩ hsm) ?_
  rintro r H3 ⟨hs3, ⟨hok, q, rfl, hq⟩ | ⟨hok, rfl⟩⟩
  · have hs03 := hs02.trans hs3
    have ht3 := ht.obj.same hs3
    simp
    refine wpCall_mono (isFrame_spec w rfl) ?_
    rintro _ H3 ⟨rfl, rfl⟩
    by_cases hf : FrameOK d
    · have e4 : (1 : Int) ≤ d.length := by have := hf.1; omega
      have e5 : (d.length : Int) ≤ 400 := by have := hf.2; omega
      simp [e4, e5]
      have nt := ht.new
      have nt' := ht.next
      have n01 := hp.same.grow.next
      obtain ⟨col, st, hwq⟩ := EndP.w (col := paint (fun _ => 0) t 9) (k := 1) hs3 (fun b hb => by unfold paint; rw [if_neg (by omega)]) (Nat.le_refl _) (Nat.le_refl _) hq
      have hl := hok.1
      have hg := hok.2.1
      have hlen := hok.2.2.1
      have hdl := hf.2
      have hd3 := hd.same hs03
      have hdlt : ∀ a n c, Value.slice da d.length dc = .slice (some a) n c → n ≠ 0 → col a.block = 0 := by
        intro a n c he hn
        cases he
        obtain ⟨_, a', c', he', _, h4⟩ := id hd
        cases he'
        have hlt := load_lt hw (h4 a rfl hn)
        rw [st.keep _ (by omega)]
        unfold paint
        rw [if_neg (by omega)]
      refine wpCall_mono (send_spec w hs03.wf' st.bare (by omega) hwq hl hg (by omega) hd3 (fun a n c he hn => by rw [hdlt a n c he hn]; simp) (by omega)) ?_
      rintro r4 H4 (⟨e6, rfl, rfl⟩ | ⟨e6, e7, rfl, rfl⟩ | ⟨e6, e7, col', b, st4, hw4, rfl, hb4, hbp4⟩)
      · simp
        refine w_store (p := t) (off := 0) (xs := [.int .i64 0, .slice none 0 0, .int .i64 0, .slice none 0 0]) hs03.wf' ht3 (by simp) (by simp) rfl (by simp) (by simp) (by simp) fun H5 hm5 hn5 ho5 => ?_
        have ld5 := fun off n => Obj1.load (C := ctxW w) (off := off) (n := n) ho5
        simp [ld5]
        exact SendRes.err (hs03.then_mod hm5 (by have := ht.new; have := hp.same.grow.next; omega)) (.inr (.inr (.inl ⟨hok, hf, e6, rfl⟩))) (by omega)
      · simp
        refine w_store (p := t) (off := 0) (xs := [.int .i64 0, .slice none 0 0, .int .i64 0, .slice none 0 0]) hs03.wf' ht3 (by simp) (by simp) rfl (by simp) (by simp) (by simp) fun H5 hm5 hn5 ho5 => ?_
        have ld5 := fun off n => Obj1.load (C := ctxW w) (off := off) (n := n) ho5
        simp [ld5]
        exact SendRes.err (hs03.then_mod hm5 (by have := ht.new; have := hp.same.grow.next; omega)) (.inr (.inr (.inr (.inl ⟨hok, hf, e6, e7, rfl⟩)))) (by omega)
      · have hlow : Same H2 H4 := by
          refine ⟨hs02.wf', hs3.grow.trans st4.grow, fun b hb => ?_⟩
          have hc : col b ∉ [1, 1 + 1] := by
            rw [st.keep b hb]
            unfold paint
            split <;> simp
          rw [st4.same b (by have := hs3.grow.next; omega) hc, hs3.same b hb]
        have hs04 := hs02.trans hlow
        have ht4 := ht.obj.same hlow
        obtain ⟨ov4, ev4, ho4, hc4, hi4, hj4⟩ := hw4
        have ldq := fun off n => Obj1.load (C := ctxW w) (off := off) (n := n) ho4
        obtain ⟨a5, c5, rfl⟩ := hi4.val
        obtain ⟨a6, c6, rfl⟩ := hj4.val
        simp [ldq]
        have hct : col' t = 9 := by
          rw [st4.keep t (by have := hs3.grow.next; omega), st.keep t (by omega)]
          simp [paint]
        refine w_store (p := t) (off := 0) (xs := [.int .i64 (sent x d).last, .slice a5 (sent x d).opens.length c5, .int .i64 (sent x d).got, .slice a6 (sent x d).early.length c6]) hs04.wf' ht4 (by simp) (by simp) rfl (by simp) (by simp) (by simp) fun H5 hm5 hn5 ho5 => ?_
        have ld5 := fun off n => Obj1.load (C := ctxW w) (off := off) (n := n) ho5
        simp [ld5]
        refine ⟨hs04.then_mod hm5 (by have := ht.new; have := hp.same.grow.next; omega), 0, _, _, _, .inr (.inr (.inr (.inr ⟨hok, hf, e6, e7, rfl⟩))), rfl, ?_, rfl, ?_⟩
        · rw [if_pos rfl]
          have st5 : Step [9] H4 col' H5 col' := Step.of_mod hm5 st4.bare (by rw [hct]; simp)
          exact ⟨_, _, rfl, (hi4.step st5 (by simp) (by simp)).its, (hj4.step st5 (by simp) (by simp)).its⟩
        · rw [if_pos rfl]
          have st5 : Step [9] H4 col' H5 col' := Step.of_mod hm5 st4.bare (by rw [hct]; simp)
          exact Bs.step st5 (by simp) hb4 hbp4
    · have e4 : (decide ((1 : Int) ≤ d.length) && decide ((d.length : Int) ≤ 400)) = false := by
        simp only [FrameOK] at hf
        simp
        omega
      simp [e4]
      refine w_store (p := t) (off := 0) (xs := [.int .i64 0, .slice none 0 0, .int .i64 0, .slice none 0 0]) hs03.wf' ht3 (by simp) (by simp) rfl (by simp) (by simp) (by simp) fun H5 hm5 hn5 ho5 => ?_
      have ld5 := fun off n => Obj1.load (C := ctxW w) (off := off) (n := n) ho5
      simp [ld5]
      exact SendRes.err (hs03.then_mod hm5 (by have := ht.new; have := hp.same.grow.next; omega)) (.inr (.inl ⟨hok, hf, rfl⟩)) (by omega)
  · have hs03 := hs02.trans hs3
    have ht3 := ht.obj.same hs3
    simp
    refine w_store (p := t) (off := 0) (xs := [.int .i64 0, .slice none 0 0, .int .i64 0, .slice none 0 0]) hs03.wf' ht3 (by simp) (by simp) rfl (by simp) (by simp) (by simp) fun H5 hm5 hn5 ho5 => ?_
    have ld5 := fun off n => Obj1.load (C := ctxW w) (off := off) (n := n) ho5
    simp [ld5]
    exact SendRes.err (hs03.then_mod hm5 (by have := ht.new; have := hp.same.grow.next; omega)) (.inl ⟨hok, rfl⟩) (by omega)
end Go.Ai.Wire
