/-
  Copies of frames with their numbers, in new memory.
  Copies of ends and lines; ends at work.
  Ends at work; lines that are right, by the program.
  Lines at work; copies of lines.
  'WireChecks' answers true.
-/
import Derived.Test.YtlikgpehalhgkaaGreatPWC
namespace Go.Ai

section
variable {C : Ctx} {H : AHeap} {T : Env} {d : Option Nat} {r : List IOper} {K : Env → AHeap → Prop}

/-- Nothing, or a row at its own end. -/
def NB (H : AHeap) (v : Value) (g esz n : Nat) (cs : List Value) : Prop := (v = .slice none 0 0 ∧ n = 0 ∧ cs = []) ∨ (n ≠ 0 ∧ Buf H v g esz n cs)

theorem NB.same {H' : AHeap} (hs : Same H H') {v : Value} {g esz n : Nat} {cs : List Value} (h : NB H v g esz n cs) : NB H' v g esz n cs := h.imp id fun h => ⟨h.1, h.2.same hs⟩

/-- How a row has grown: in a new object, or its own one has turned. -/
def Grown (H H' : AHeap) (n g g' : Nat) : Prop := (n = 0 ∧ g' = H.next ∧ Same H H') ∨ (n ≠ 0 ∧ g' = g ∧ g < H.next ∧ Mod g H H')

theorem w_appN {esz bytes g n m : Nat} {s x : IOpd} {cs xs : List Value} (hw : WF H) (hb : NB H (s.val T.val) g esz n cs) (hx : Row C H (x.val T.val) esz m xs) (hm : m ≠ 0) (hs : xs.all scalar = true) (hr : roomy (n + m) bytes = true)
    (hk : ∀ v H' g', Grown H H' n g g' → Buf H' v g' esz (n + m) (cs ++ xs) → wpO C r K (putDst T d v) H') (h1e : 1 ≤ esz := by omega) : wpO C (⟨d, .append esz bytes s x, none⟩ :: r) K T H := by
  rcases hb with ⟨h1, rfl, rfl⟩ | ⟨hn, hb⟩
  · refine w_app0 hw h1 hx hm hs (by simpa using hr) fun v H' hs' hb' => hk v H' _ (.inl ⟨rfl, rfl, hs'⟩) (by simpa using hb')
  · exact w_app hw hb hx hs hr fun v H' hm' hb' => hk v H' _ (.inr ⟨hn, rfl, hb.lt hw, hm'⟩) hb'

theorem d_appN {rd : List (Nat × IOper × List Nat)} {log : List Info} {i : Nat} {un : List Nat} {esz bytes g n m : Nat} {s x : IOpd} {cs xs : List Value} (hw : WF H) (hb : NB H (s.val T.val) g esz n cs) (hx : Row C H (x.val T.val) esz m xs) (hm : m ≠ 0) (hs : xs.all scalar = true) (hr : roomy (n + m) bytes = true)
    (hf : ∀ rd' md, freeAll C log (.exp rd' md) un = true)
    (hk : ∀ v H' rd' md g', Grown H H' n g g' → Buf H' v g' esz (n + m) (cs ++ xs) → wpD C rd (.exp rd' md :: log) K (putDst T d v) H') (h1e : 1 ≤ esz := by omega) : wpD C ((i, ⟨d, .append esz bytes s x, none⟩, un) :: rd) log K T H := by
  rcases hb with ⟨h0, rfl, rfl⟩ | ⟨hn, hb⟩
  · rw [wpD_append]
    obtain ⟨rd0, h1, h2, _⟩ := hx.src
    have : evalOp C H.get T.val H.next (.append esz bytes s x) = some ⟨.slice (some ⟨H.next, 0, none⟩) m m, none, some (.cells [⟨esz, xs⟩]), rd0⟩ := by
      simp only [evalOp, h2, h1, h0]
      unfold appendA
      rw [if_pos ⟨hx.1, hs⟩]
      simp at hr
      simp [hm, hr]
    rw [this]
    simp only [bindO_some, opKD_eq]
    rw [hf]
    refine hk _ _ _ _ H.next (.inl ⟨rfl, rfl, Same.push hw _⟩) ?_
    have := Buf.push H (e := esz) (.inr rfl) hx.1 hs
    simpa using this
  · exact d_app hw hb hx hs hr (fun rd' md _ => hf rd' md) fun v H' rd' md hm' hb' _ => hk v H' rd' md _ (.inr ⟨hn, rfl, hb.lt hw, hm'⟩) hb'
end
end Go.Ai
namespace Go.Ai.Wire
open Go.Proofs Go.IntWalk
attribute [local irreducible] Trie.put

section
variable {C : Ctx} {H H' : AHeap}

/-- All that is pointed at lies between two blocks, and off one. -/
def FarD (lo hi g : Nat) (cs : List Value) : Prop := ∀ v ∈ cs, ∀ a n c, v = .slice (some a) n c → n ≠ 0 → lo ≤ a.block ∧ a.block < hi ∧ a.block ≠ g

theorem FarD.off {lo hi g : Nat} {cs : List Value} (h : FarD lo hi g cs) : ∀ v ∈ cs, Off g v := fun v hv a n c he hn => (h v hv a n c he hn).2.2

theorem ItC.mod {g : Nat} (hm : Mod g H H') {l : List Itm} {cs : List Value} (h : ItC C H l cs) (hf : ∀ v ∈ cs, Off g v) : ItC C H' l cs := by
  induction h with
  | nil => exact .nil
  | cons h1 _ ih =>
    refine .cons (Row.mod hm h1 (hf _ (by simp))) (ih fun v hv => hf v ?_)
    simp [hv]

/-- Frames with their numbers in own memory, between two blocks. -/
def ItsN (C : Ctx) (H : AHeap) (lo hi : Nat) (v : Value) (l : List Itm) : Prop :=
  ∃ g cs, NB H v g 2 l.length cs ∧ (l ≠ [] → lo ≤ g ∧ g < hi) ∧ ItC C H l cs ∧ FarD lo hi g cs

theorem ItsN.nil (C : Ctx) (H : AHeap) (lo hi : Nat) : ItsN C H lo hi (.slice none 0 0) [] := ⟨0, [], .inl ⟨rfl, rfl, rfl⟩, fun h => absurd rfl h, .nil, fun v hv => by cases hv⟩
theorem ItsN.same (hs : Same H H') {lo hi : Nat} {v : Value} {l : List Itm} (h : ItsN C H lo hi v l) : ItsN C H' lo hi v l := by
  obtain ⟨g, cs, h1, h2, h3, h4⟩ := h
  exact ⟨g, cs, h1.same hs, h2, h3.same hs, h4⟩
theorem ItsN.mono {lo hi lo' hi' : Nat} (h1 : lo' ≤ lo) (h2 : hi ≤ hi') {v : Value} {l : List Itm} (h : ItsN C H lo hi v l) : ItsN C H lo' hi' v l := by
  obtain ⟨g, cs, k1, k2, k3, k4⟩ := h
  refine ⟨g, cs, k1, fun hl => ?_, k3, fun v hv a n c he hn => ?_⟩
  · have := k2 hl; omega
  · have := k4 v hv a n c he hn; omega
theorem ItsN.its {lo hi : Nat} {v : Value} {l : List Itm} (h : ItsN C H lo hi v l) : Its C H v l := by
  obtain ⟨g, cs, k1, k2, k3, k4⟩ := h
  rcases k1 with ⟨rfl, hn, rfl⟩ | ⟨_, hb⟩
  · have : l = [] := List.length_eq_zero_iff.1 hn
    subst this
    exact Its.nil C H
  · exact ⟨cs, k3, hb.row⟩
theorem ItsN.val {lo hi : Nat} {v : Value} {l : List Itm} (h : ItsN C H lo hi v l) : ∃ a c, v = .slice a l.length c := h.its.val

/-- One more. -/
theorem ItsN.snoc {H1 H4 H5 : AHeap} {lo g g' : Nat} {v' : Value} {l : List Itm} {cs : List Value} {n : Int} {d : List UInt8} {da : Option Addr} {dc : Nat} (hw1 : WF H1) (hs : Same H1 H4) (hlo : lo ≤ H1.next) (k2 : l ≠ [] → lo ≤ g ∧ g < H1.next) (k3 : ItC C H1 l cs)
    (k4 : FarD lo H1.next g cs) (hd : Bs C H4 (.slice da d.length dc) d) (hdq : ∀ b, da = some b → d.length ≠ 0 → H1.next ≤ b.block) (hg : Grown H4 H5 l.length g g') (hb : Buf H5 v' g' 2 (l.length + 1) (cs ++ [.int .i64 n, .slice da d.length dc])) :
    ItsN C H5 lo H5.next v' (l ++ [(n, d)]) := by
  have hw4 := hs.wf'
  have n14 := hs.grow.next
  have hblt : ∀ b, da = some b → d.length ≠ 0 → b.block < H4.next := by
    intro b hb0 hn
    obtain ⟨_, a, c, he, _, h4⟩ := id hd
    cases he
    exact load_lt hw4 (h4 b hb0 hn)
  have hfar : ∀ {q : Nat}, FarD lo H1.next q cs → q < H1.next ∨ H4.next ≤ q → ∀ v ∈ cs ++ [Value.int .i64 n, .slice da d.length dc], ∀ a m c, v = .slice (some a) m c → m ≠ 0 → lo ≤ a.block ∧ a.block < H4.next ∧ a.block ≠ q := by
    intro q hq hq2 v hv a m c he hm
    rw [List.mem_append] at hv
    rcases hv with hv | hv
    · have := hq v hv a m c he hm
      omega
    · simp only [List.mem_cons, List.not_mem_nil, or_false] at hv
      rcases hv with hv | hv
      · rw [hv] at he; cases he
      · rw [hv] at he
        cases he
        have h1 := hdq a rfl hm
        have h2 := hblt a rfl hm
        omega
  rcases hg with ⟨h0, rfl, hs5⟩ | ⟨hl0, rfl, hgl, hm5⟩
  · have : l = [] := List.length_eq_zero_iff.1 h0
    subst this
    cases k3
    have n45 := hs5.grow.next
    refine ⟨H4.next, [.int .i64 n, .slice da d.length dc], .inr ⟨by simp, by simpa using hb⟩, fun _ => ⟨by omega, by have := hb.lt hs5.wf'; omega⟩, .cons (hd.same hs5) .nil, ?_⟩
    intro v hv a m c he hm
    have := hfar (q := H4.next) (fun v hv => by cases hv) (.inr (Nat.le_refl _)) v (by simpa using hv) a m c he hm
    omega
  · have n45 := hm5.grow.next
    have hl : l ≠ [] := fun h => hl0 (by rw [h]; rfl)
    have hgg := k2 hl
    refine ⟨g', _, .inr ⟨by simp, by simpa using hb⟩, fun _ => ⟨hgg.1, by omega⟩, ?_, ?_⟩
    · refine ItC.mod hm5 ((k3.same hs).app (.cons hd .nil)) fun v hv a m c he hm => ?_
      exact (hfar k4 (.inl hgg.2) v hv a m c he hm).2.2
    · intro v hv a m c he hm
      have := hfar k4 (.inl hgg.2) v hv a m c he hm
      omega
end

theorem copyItems_spec (w : World) {H : AHeap} (hw : WF H) {v : Value} {l : List Itm} (hv : Its (ctxW w) H v l) (hsm : l.length ≤ 1000) (hds : l.all (short 500) = true) :
    wpCall (ctxW w) (.func (.func 49) #[] #[]) [v] H fun r H' => Same H H' ∧ ItsN (ctxW w) H' H.next H'.next r l := by
  obtain ⟨a, c, rfl⟩ := hv.val
  refine wpCall_fn rfl (get49 w) ?_
  simp [ir49]
  refine wp_loop' (fun n s => ∃ (T : Env) (H1 : AHeap) (i : Nat), s = ⟨T, H1, []⟩ ∧ n = l.length - i ∧ i ≤ l.length ∧ T.val 0 = .slice a l.length c ∧ T.val 4 = .int .i64 i ∧ Same H H1 ∧ ItsN (ctxW w) H1 H.next H1.next (T.val 3) (l.take i)) (n := l.length)
    ⟨_, H, 0, rfl, rfl, Nat.zero_le _, by simp, by simp, Same.refl hw, by simpa using ItsN.nil _ _ _ _⟩ ?_
  rintro n s K ⟨T, H1, i, rfl, rfl, hi, t0, t4, hs1, hn1⟩ hnext hexit
  have hw1 := hs1.wf'
  by_cases hlt : i < l.length
  · obtain ⟨b, da, dc, rfl, l1, l2, l3, hd⟩ := (hv.same hs1).at hlt
    have e3 : (i : Int) < l.length := by omega
    have hblt := load_lt hw1 l1
    simp at hblt
    obtain ⟨g, cs, k1, k2, k3, k4⟩ := hn1
    have hdl : l[i].2.length ≤ 500 := by
      have := (List.all_eq_true.1 hds) l[i] (List.getElem_mem hlt)
      simpa [short] using this
    simp [t0, t4, e3, l1]
    have f1 : Nat.beq H1.next b.block = false := nbeq' (by omega)
    refine d_bs (esz := 1) (cs := []) hw1 (by simp [f1]) (by simp) (by simp) (by simp) fun q2 H2 hq2 hb2 => ?_
    have l2' := hq2.same.load l2
    have f2 : Nat.beq q2 b.block = false := nbeq' (by have := hq2.new; omega)
    simp [t0, t4, e3, l2', f2]
    refine d_app' (g := q2) (n := 0) (m := l[i].2.length) (cs := []) (xs := l[i].2.map u8v) hq2.same.wf' (by simpa using hb2) (by simp; exact hd.same hq2.same) (u8_scalar _) (by simp [roomy]; omega)
      (fun rd' md hmd => by
        have hf := free_rd_mod (C := ctxW w) (ri := rd') (mi := md) (x := b.block) fun y hy => by rw [hmd y hy]; have := hq2.new; omega
        simp [hf]) fun v3 H3 rd3 md3 hm3 hb3 hmd3 hrd3 => ?_
    have hs13 : Same H1 H3 := hq2.same.then_mod hm3 (by have := hq2.new; omega)
    have hb3r : Bs (ctxW w) H3 v3 l[i].2 := by
      have := hb3.row (C := ctxW w)
      simpa [Bs] using this
    obtain ⟨a3, ea3, hblk3, -⟩ := hb3.load (C := ctxW w)
    subst ea3
    simp only [Nat.zero_add] at hb3r
    simp
    refine d_bs (esz := 2) (cs := [.int .i64 l[i].1, .slice (some a3) l[i].2.length l[i].2.length]) hs13.wf' rfl (by simp) (by simp) (by simp) fun q4 H4 hq4 hb4 => ?_
    simp
    have hs14 := hs13.trans hq4.same
    have hlt1 : (l.take i).length = i := by simp; omega
    refine d_appN (g := g) (n := (l.take i).length) (m := 1) (cs := cs) (xs := [.int .i64 l[i].1, .slice (some a3) l[i].2.length l[i].2.length]) hs14.wf' (by simpa using k1.same hs14) (by simpa using hb4.row) (by simp) (by simp) (by simp [roomy]; omega) (by simp) fun v5 H5 rd5 md5 g5 hg5 hb5 => ?_
    simp [t4]
    have hs15 : Same H H5 := by
      rcases hg5 with ⟨_, _, h⟩ | ⟨h0, rfl, _, h⟩
      · exact (hs1.trans hs14).trans h
      · refine (hs1.trans hs14).then_mod h (k2 fun he => h0 (by rw [he]; rfl)).1
    refine hnext (l.length - (i + 1)) _ (by omega) ⟨_, H5, i + 1, rfl, rfl, by omega, by simp [t0], by simp; rw [i64_in _ (by omega)], hs15, ?_⟩
    simp
    rw [List.take_succ_eq_append_getElem hlt]
    exact ItsN.snoc hw1 hs14 hs1.grow.next k2 k3 k4 (Bs.same hq4.same hb3r) (fun b hb hn => by cases hb; rw [hblk3]; have := hq2.new; omega) hg5 hb5
  · have : i = l.length := by omega
    subst this
    rw [List.take_length] at hn1
    simp [t0, t4]
    refine hexit _ _ (by simp) ?_
    simp
    exact ⟨hs1, hn1⟩
end Go.Ai.Wire

namespace Go.Ai.Wire
open Go.Proofs Go.IntWalk
attribute [local irreducible] Trie.put

theorem ItsN.mod {C : Ctx} {H H' : AHeap} {q lo hi : Nat} {v : Value} {l : List Itm} (hm : Mod q H H') (h : ItsN C H lo hi v l) (hq : q < lo ∨ hi ≤ q) : ItsN C H' lo hi v l := by
  obtain ⟨g, cs, k1, k2, k3, k4⟩ := h
  refine ⟨g, cs, ?_, k2, ?_, k4⟩
  · rcases k1 with h | ⟨h0, hb⟩
    · exact .inl h
    · have hl : l ≠ [] := fun he => h0 (by rw [he]; rfl)
      have := k2 hl
      exact .inr ⟨h0, hb.mod hm (by omega)⟩
  · refine ItC.mod hm k3 fun v hv a n c he hn => ?_
    have := k4 v hv a n c he hn
    omega

/-- A copy of an end. -/
def EndN (C : Ctx) (H : AHeap) (lo hi : Nat) (x : EndA) (v : Value) : Prop := ∃ mid ov ev, v = endV x.last ov x.got ev ∧ lo ≤ mid ∧ mid ≤ hi ∧ ItsN C H lo mid ov x.opens ∧ ItsN C H mid hi ev x.early

theorem EndN.same {C : Ctx} {H H' : AHeap} (hs : Same H H') {lo hi : Nat} {x : EndA} {v : Value} (h : EndN C H lo hi x v) : EndN C H' lo hi x v := by
  obtain ⟨mid, ov, ev, h1, h2, h3, h4, h5⟩ := h
  exact ⟨mid, ov, ev, h1, h2, h3, h4.same hs, h5.same hs⟩
theorem EndN.mod {C : Ctx} {H H' : AHeap} {q : Nat} (hm : Mod q H H') {lo hi : Nat} {x : EndA} {v : Value} (h : EndN C H lo hi x v) (hq : q < lo ∨ hi ≤ q) : EndN C H' lo hi x v := by
  obtain ⟨mid, ov, ev, h1, h2, h3, h4, h5⟩ := h
  exact ⟨mid, ov, ev, h1, h2, h3, h4.mod hm (by omega), h5.mod hm (by omega)⟩
theorem EndN.mono {C : Ctx} {H : AHeap} {lo hi lo' hi' : Nat} (h1 : lo' ≤ lo) (h2 : hi ≤ hi') {x : EndA} {v : Value} (h : EndN C H lo hi x v) : EndN C H lo' hi' x v := by
  obtain ⟨mid, ov, ev, k1, k2, k3, k4, k5⟩ := h
  exact ⟨mid, ov, ev, k1, by omega, by omega, k4.mono h1 (Nat.le_refl _), k5.mono (Nat.le_refl _) h2⟩
theorem EndN.r {C : Ctx} {H : AHeap} {lo hi : Nat} {x : EndA} {v : Value} (h : EndN C H lo hi x v) : EndR C H x v := by
  obtain ⟨mid, ov, ev, k1, k2, k3, k4, k5⟩ := h
  exact ⟨ov, ev, k1, k4.its, k5.its⟩

/-- What copies of ends want. -/
def EndS (x : EndA) : Prop := (x.opens.length ≤ 1000 ∧ x.opens.all (short 500) = true) ∧ x.early.length ≤ 1000 ∧ x.early.all (short 500) = true

theorem copyEnd_spec (w : World) {H : AHeap} (hw : WF H) {x : EndA} {v : Value} (hx : EndR (ctxW w) H x v) (hsm : EndS x) : wpCall (ctxW w) (.func (.func 26) #[] #[]) [v] H fun r H' => Same H H' ∧ EndN (ctxW w) H' H.next H'.next x r := by
  obtain ⟨ov, ev, rfl, ho, he⟩ := hx
  obtain ⟨a1, c1, rfl⟩ := ho.val
  obtain ⟨a2, c2, rfl⟩ := he.val
  refine wpCall_fn rfl (get26 w) ?_
  simp [ir26]
  refine w_box (cs := [.int .i64 x.last, .slice a1 x.opens.length c1, .int .i64 x.got, .slice a2 x.early.length c2]) hw (by simp [endV]) rfl (by simp) fun p H1 hp => ?_
  refine w_mk hp.same.wf' fun q H2 hq => ?_
  have hs02 := hp.same.trans hq.same
  have hp2 := hp.obj.same hq.same
  have ld2 := fun off n => Obj1.load (C := ctxW w) (off := off) (n := n) hp2
  simp [ld2]
  refine wpCall_mono (copyItems_spec w hs02.wf' (ho.same hs02) hsm.1.1 hsm.1.2) ?_
  rintro r3 H3 ⟨hs3, hn3⟩
  have hp3 := hp2.same hs3
  have ld3 := fun off n => Obj1.load (C := ctxW w) (off := off) (n := n) hp3
  have f1 : free (ctxW w) (.call H2 H3) (.exp [p] []) = true := free_call_rd (eqbW w) hs3 (by simp; obtain ⟨e, h⟩ := hp2; rw [h]; simp)
  simp [ld3, f1]
  have hs03 := hs02.trans hs3
  refine wpCall_mono (copyItems_spec w hs03.wf' (he.same hs03) hsm.2.1 hsm.2.2) ?_
  rintro r4 H4 ⟨hs4, hn4⟩
  have hp4 := hp3.same hs4
  have ld4 := fun off n => Obj1.load (C := ctxW w) (off := off) (n := n) hp4
  have f2 : free (ctxW w) (.call H3 H4) (.exp [p] []) = true := free_call_rd (eqbW w) hs4 (by simp; obtain ⟨e, h⟩ := hp3; rw [h]; simp)
  obtain ⟨a3, c3, rfl⟩ := hn3.val
  obtain ⟨a4, c4, rfl⟩ := hn4.val
  simp [ld4, f1, f2]
  have hq4 := (hq.obj.same hs3).same hs4
  have hs04 := hs03.trans hs4
  have n2 := hq.next
  refine d_store (p := q) (off := 0) (xs := [.int .i64 x.last, .slice a3 x.opens.length c3, .int .i64 x.got, .slice a4 x.early.length c4]) hs04.wf' rfl hq4 (by simp) (by simp) rfl (by simp) (by simp) (by simp) fun H5 hm5 hn5 ho5 => ?_
  have ld5 := fun off n => Obj1.load (C := ctxW w) (off := off) (n := n) ho5
  simp [ld5]
  have n3 := hs3.grow.next
  have n4 := hs4.grow.next
  have n1 := hp.same.grow.next
  have n0 := hq.new
  have n6 : H5.next = H4.next := hn5
  refine ⟨hs04.then_mod hm5 (by omega), H3.next, _, _, rfl, by omega, by omega, ?_, ?_⟩
  · exact ((hn3.same hs4).mod hm5 (by omega)).mono (by omega) (Nat.le_refl _)
  · exact (hn4.mod hm5 (by omega)).mono (Nat.le_refl _) (by omega)

/-- A function that copies a frame with its number. -/
def CopyF (C : Ctx) (H0 : AHeap) (f : Value) : Prop :=
  ∀ H1, Same H0 H1 → ∀ n da dc d, Bs C H1 (.slice da (List.length d) dc) d → d.length ≤ 1000 → wpCall C f [itV n (.slice da d.length dc)] H1 fun r H2 => Same H1 H2 ∧ ∃ da' dc', r = itV n (.slice da' d.length dc') ∧ Bs C H2 (.slice da' d.length dc') d ∧ ∀ b, da' = some b → d.length ≠ 0 → H1.next ≤ b.block

theorem copyF_spec (w : World) {k : Nat} (hk : k = 72 ∨ k = 46) {H : AHeap} : CopyF (ctxW w) H (.func (.func k) #[] #[]) := by
  intro H1 hs n da dc d hd hl
  have main : ∀ {F : IFunc}, F = ir72 → (ctxW w).funcs.get k = some F → wpCall (ctxW w) (.func (.func k) #[] #[]) [itV n (.slice da d.length dc)] H1 fun r H2 => Same H1 H2 ∧ ∃ da' dc', r = itV n (.slice da' d.length dc') ∧ Bs (ctxW w) H2 (.slice da' d.length dc') d ∧ ∀ b, da' = some b → d.length ≠ 0 → H1.next ≤ b.block := by
    intro F hF hg
    refine wpCall_fn (by rcases hk with rfl | rfl <;> rfl) hg ?_
    subst hF
    simp [ir72]
    refine w_box (cs := [.int .i64 n, .slice da d.length dc]) hs.wf' (by simp [itV]) rfl (by simp) fun p H2 hp => ?_
    refine w_mk hp.same.wf' fun q H3 hq => ?_
    have hs13 := hp.same.trans hq.same
    have hp3 := hp.obj.same hq.same
    have ld3 := fun off n => Obj1.load (C := ctxW w) (off := off) (n := n) hp3
    simp [ld3]
    refine wpCall_mono (clone_spec w hs13.wf' (hd.same hs13) (by omega)) ?_
    rintro r4 H4 ⟨hs4, hb4, hoff4⟩
    obtain ⟨a4, c4, rfl⟩ := hb4.val
    simp
    have hs14 := hs13.trans hs4
    refine w_store (p := p) (off := 1) (xs := [.slice a4 d.length c4]) hs14.wf' (hp3.same hs4) (by simp) (by simp) rfl (by simp) (by simp) (by simp) fun H5 hm5 hn5 ho5 => ?_
    have ld5 := fun off n => Obj1.load (C := ctxW w) (off := off) (n := n) ho5
    simp [ld5]
    have n1 := hp.next
    have n2 := hp.new
    have n3 := hq.new
    have n3' := hq.next
    have hs15 : Same H1 H5 := hs14.then_mod hm5 (by omega)
    have hq5 : Obj1 H5 q _ := ((hq.obj.same hs4).mod hm5 (by omega))
    refine w_store (p := q) (off := 0) (xs := [.int .i64 n, .slice a4 d.length c4]) hs15.wf' hq5 (by simp) (by simp) rfl (by simp) (by simp) (by simp) fun H6 hm6 hn6 ho6 => ?_
    have ld6 := fun off n => Obj1.load (C := ctxW w) (off := off) (n := n) ho6
    simp [ld6]
    have hp4 := hoff4 p (by omega)
    have hq4 := hoff4 q (by omega)
    refine ⟨hs15.then_mod hm6 (by omega), a4, c4, rfl, Row.mod hm6 (Row.mod hm5 hb4 hp4) hq4, fun b hb hn => ?_⟩
    subst hb
    rcases Nat.lt_or_ge b.block H1.next with h | h
    · exact absurd rfl (hoff4 b.block (by omega) b _ _ rfl (fun h0 => hn (List.length_eq_zero_iff.1 h0)))
    · exact h
  rcases hk with rfl | rfl
  · exact main rfl (get72 w)
  · exact main rfl (get46 w)

theorem mapped_spec (w : World) {k : Nat} (hk : k = 71 ∨ k = 45) {H : AHeap} (hw : WF H) {v f : Value} {l : List Itm} (hv : Its (ctxW w) H v l) (hf : CopyF (ctxW w) H f) (hsm : l.length ≤ 1000) (hds : l.all (short 500) = true) :
    wpCall (ctxW w) (.func (.func k) #[] #[]) [v, f] H fun r H' => Same H H' ∧ ItsN (ctxW w) H' H.next H'.next r l := by
  obtain ⟨a, c, rfl⟩ := hv.val
  have main : ∀ {F : IFunc}, F = ir71 → (ctxW w).funcs.get k = some F → wpCall (ctxW w) (.func (.func k) #[] #[]) [.slice a l.length c, f] H fun r H' => Same H H' ∧ ItsN (ctxW w) H' H.next H'.next r l := by
    intro F hF hg
    refine wpCall_fn (by rcases hk with rfl | rfl <;> rfl) hg ?_
    subst hF
    simp [ir71]
    refine wp_loop' (fun n s => ∃ (T : Env) (H1 : AHeap) (i : Nat), s = ⟨T, H1, []⟩ ∧ n = l.length - i ∧ i ≤ l.length ∧ T.val 1 = f ∧ T.val 7 = .slice a l.length c ∧ T.val 8 = .int .i64 l.length ∧ T.val 9 = .int .i64 i ∧ Same H H1 ∧ ItsN (ctxW w) H1 H.next H1.next (T.val 4) (l.take i)) (n := l.length)
      ⟨_, H, 0, rfl, rfl, Nat.zero_le _, by simp, by simp, by simp, by simp, Same.refl hw, by simpa using ItsN.nil _ _ _ _⟩ ?_
    rintro n s K ⟨T, H1, i, rfl, rfl, hi, t1, t7, t8, t9, hs1, hn1⟩ hnext hexit
    have hw1 := hs1.wf'
    by_cases hlt : i < l.length
    · obtain ⟨b, da, dc, rfl, l1, l2, l3, hd⟩ := (hv.same hs1).at hlt
      have e3 : (i : Int) < l.length := by omega
      obtain ⟨g, cs, k1, k2, k3, k4⟩ := hn1
      have hdl : l[i].2.length ≤ 500 := by
        have := (List.all_eq_true.1 hds) l[i] (List.getElem_mem hlt)
        simpa [short] using this
      simp [t7, t8, t9, e3, l3]
      refine w_mk hw1 fun q H2 hq => ?_
      refine w_store (p := q) (off := 0) (xs := [.int .i64 l[i].1, .slice da l[i].2.length dc]) hq.same.wf' hq.obj (by simp) (by simp) rfl (by simp) (by simp) (by simp) fun H3 hm3 hn3 ho3 => ?_
      have hs13 : Same H1 H3 := hq.same.then_mod hm3 (by have := hq.new; omega)
      have ld3 := fun off n => Obj1.load (C := ctxW w) (off := off) (n := n) ho3
      simp [t1, ld3]
      refine wpCall_mono (hf H3 (hs1.trans hs13) l[i].1 da dc l[i].2 (hd.same hs13) (by omega)) ?_
      rintro r4 H4 ⟨hs4, da4, dc4, rfl, hb4, hfr4⟩
      have hs14 := hs13.trans hs4
      simp
      refine w_bs (esz := 2) (cs := [.int .i64 l[i].1, .slice da4 l[i].2.length dc4]) hs14.wf' (by simp [itV]) (by simp) (by simp) fun q5 H5 hq5 hb5 => ?_
      have hs15 := hs14.trans hq5.same
      refine w_appN (g := g) (n := (l.take i).length) (m := 1) (cs := cs) (xs := [.int .i64 l[i].1, .slice da4 l[i].2.length dc4]) hs15.wf' (by simpa using k1.same hs15) (by simpa using hb5.row) (by simp) (by simp) (by simp [roomy]; omega) fun v6 H6 g6 hg6 hb6 => ?_
      simp [t9]
      have hs16 : Same H H6 := by
        rcases hg6 with ⟨_, _, h⟩ | ⟨h0, rfl, _, h⟩
        · exact (hs1.trans hs15).trans h
        · refine (hs1.trans hs15).then_mod h (k2 fun he => h0 (by rw [he]; rfl)).1
      refine hnext (l.length - (i + 1)) _ (by omega) ⟨_, H6, i + 1, rfl, rfl, by omega, by simp [t1], by simp [t7], by simp [t8], by simp; rw [i64_in _ (by omega)], hs16, ?_⟩
      simp
      rw [List.take_succ_eq_append_getElem hlt]
      exact ItsN.snoc hw1 hs15 hs1.grow.next k2 k3 k4 (hb4.same hq5.same) (fun b hb hn => by have := hfr4 b hb hn; have := hs13.grow.next; omega) hg6 (by simpa using hb6)
    · have : i = l.length := by omega
      subst this
      rw [List.take_length] at hn1
      simp [t8, t9]
      refine hexit _ _ (by simp) ?_
      simp
      exact ⟨hs1, hn1⟩
  rcases hk with rfl | rfl
  · exact main rfl (get71 w)
  · exact main rfl (get45 w)
end Go.Ai.Wire

namespace Go.Ai.Wire
open Go.Proofs Go.IntWalk
attribute [local irreducible] Trie.put

/-- An end at work. -/
def EndP (C : Ctx) (H : AHeap) (lo hi q : Nat) (x : EndA) : Prop :=
  ∃ m1 m2 ov ev, Obj1 H q [.int .i64 x.last, ov, .int .i64 x.got, ev] ∧ lo ≤ m1 ∧ m1 ≤ m2 ∧ m2 ≤ q ∧ q < hi ∧ ItsN C H lo m1 ov x.opens ∧ ItsN C H m1 m2 ev x.early

theorem EndP.same {C : Ctx} {H H' : AHeap} (hs : Same H H') {lo hi q : Nat} {x : EndA} (h : EndP C H lo hi q x) : EndP C H' lo hi q x := by
  obtain ⟨m1, m2, ov, ev, h1, h2, h3, h4, h5, h6, h7⟩ := h
  exact ⟨m1, m2, ov, ev, h1.same hs, h2, h3, h4, h5, h6.same hs, h7.same hs⟩
theorem EndP.mono {C : Ctx} {H : AHeap} {lo hi lo' hi' q : Nat} (h1 : lo' ≤ lo) (h2 : hi ≤ hi') {x : EndA} (h : EndP C H lo hi q x) : EndP C H lo' hi' q x := by
  obtain ⟨m1, m2, ov, ev, k1, k2, k3, k4, k5, k6, k7⟩ := h
  exact ⟨m1, m2, ov, ev, k1, by omega, k3, k4, by omega, k6.mono h1 (Nat.le_refl _), k7⟩

theorem newEnd_spec (w : World) {H : AHeap} (hw : WF H) {x : EndA} {v : Value} (hx : EndR (ctxW w) H x v) (hsm : EndS x) : wpCall (ctxW w) (.func (.func 44) #[] #[]) [v] H fun r H' => Same H H' ∧ ∃ q, r = .pointer (some ⟨q, 0, none⟩) ∧ EndP (ctxW w) H' H.next H'.next q x := by
  obtain ⟨ov, ev, rfl, ho, he⟩ := hx
  obtain ⟨a1, c1, rfl⟩ := ho.val
  obtain ⟨a2, c2, rfl⟩ := he.val
  refine wpCall_fn rfl (get44 w) ?_
  simp [ir44]
  refine w_box (cs := [.int .i64 x.last, .slice a1 x.opens.length c1, .int .i64 x.got, .slice a2 x.early.length c2]) hw (by simp [endV]) rfl (by simp) fun p H2 hp => ?_
  have hs02 := hp.same
  have ld2 := fun off n => Obj1.load (C := ctxW w) (off := off) (n := n) hp.obj
  simp [ld2]
  refine wpCall_mono (mapped_spec w (.inl rfl) hs02.wf' (ho.same hs02) (copyF_spec w (.inl rfl)) hsm.1.1 hsm.1.2) ?_
  rintro r3 H3 ⟨hs3, hn3⟩
  have hp3 := hp.obj.same hs3
  have ld3 := fun off n => Obj1.load (C := ctxW w) (off := off) (n := n) hp3
  have f1 : free (ctxW w) (.call H2 H3) (.exp [p] []) = true := free_call_rd (eqbW w) hs3 (by simp; obtain ⟨e, h⟩ := hp.obj; rw [h]; simp)
  simp [ld3, f1]
  have hs03 := hs02.trans hs3
  refine wpCall_mono (mapped_spec w (.inl rfl) hs03.wf' (he.same hs03) (copyF_spec w (.inl rfl)) hsm.2.1 hsm.2.2) ?_
  rintro r4 H4 ⟨hs4, hn4⟩
  have hp4 := hp3.same hs4
  obtain ⟨a3, c3, rfl⟩ := hn3.val
  obtain ⟨a4, c4, rfl⟩ := hn4.val
  simp
  have hs04 := hs03.trans hs4
  have n1 := hp.new
  have n2 := hp.next
  have n3 := hs3.grow.next
  have n4 := hs4.grow.next
  refine d_store (p := p) (off := 1) (xs := [.slice a3 x.opens.length c3]) hs04.wf' rfl hp4 (by simp) (by simp) rfl (by simp) (by simp) (by simp) fun H5 hm5 hn5 ho5 => ?_
  simp
  have hs05 : Same H H5 := hs04.then_mod hm5 (by omega)
  refine d_store (p := p) (off := 3) (xs := [.slice a4 x.early.length c4]) hs05.wf' rfl ho5 (by simp) (by simp) rfl (by simp) (by simp) (by simp) fun H6 hm6 hn6 ho6 => ?_
  have hs06 : Same H H6 := hs05.then_mod hm6 (by omega)
  have ld6 := fun off n => Obj1.load (C := ctxW w) (off := off) (n := n) ho6
  simp [ld6]
  refine w_box (cs := [.int .i64 x.last, .slice a3 x.opens.length c3, .int .i64 x.got, .slice a4 x.early.length c4]) hs06.wf' (by simp) rfl (by simp) fun q H7 hq => ?_
  simp
  have n7 := hq.new
  have n8 := hq.next
  refine ⟨hs06.trans hq.same, H3.next, H4.next, _, _, hq.obj, by omega, by omega, by omega, by omega, ?_, ?_⟩
  · exact ((((hn3.same hs4).mod hm5 (by omega)).mod hm6 (by omega)).same hq.same).mono (by omega) (Nat.le_refl _)
  · exact ((hn4.mod hm5 (by omega)).mod hm6 (by omega)).same hq.same

/-- An answer that is an error or none. -/
def ErrOut (p : Prop) (r : Value) : Prop := (p ∧ r = .int .i64 0) ∨ (¬ p ∧ r = .int .i64 4)

/-! ### both ends of a line -/
def lineCells (x : LineA) (o0 e0 o1 e1 f : Value) : List Value := [.int .i64 x.a.last, o0, .int .i64 x.a.got, e0, .int .i64 x.b.last, o1, .int .i64 x.b.got, e1, f]

theorem notE_spec (w : World) {H : AHeap} (hw : WF H) {q : Nat} (hq : Obj1 H q [.func (.func 41) #[] #[]]) {x : EndA} {v : Value} (hx : EndR (ctxW w) H x v) (hsm : EndS x) :
    wpCall (ctxW w) (.func (.func 65) #[] #[.pointer (some ⟨q, 0, none⟩)]) [v] H fun r H' => Same H H' ∧ ∃ b : Bool, r = .bool (!b) ∧ (b = true ↔ EndOK x) := by
  obtain ⟨ov, ev, rfl, ho, he⟩ := hx
  obtain ⟨a1, c1, rfl⟩ := ho.val
  obtain ⟨a2, c2, rfl⟩ := he.val
  refine wpCall_fn rfl (get65 w) ?_
  simp [ir65]
  refine w_box (cs := [.int .i64 x.last, .slice a1 x.opens.length c1, .int .i64 x.got, .slice a2 x.early.length c2]) hw (by simp [endV]) rfl (by simp) fun p H2 hp => ?_
  have ld2 := fun off n => Obj1.load (C := ctxW w) (off := off) (n := n) hp.obj
  have ldq := fun off n => Obj1.load (C := ctxW w) (off := off) (n := n) (hq.same hp.same)
  simp [ld2, ldq]
  refine wpCall_mono (endRight_spec w hp.same.wf' (x := x) ⟨_, _, rfl, ho.same hp.same, he.same hp.same⟩ ⟨by have := hsm.1.1; omega, by have := hsm.2.1; omega⟩) ?_
  rintro _ H3 ⟨hs3, b, rfl, hb⟩
  simp
  exact ⟨hp.same.trans hs3, by cases b <;> simp_all⟩

theorem allEnds_spec (w : World) {H : AHeap} (hw : WF H) {x : LineA} {o0 e0 o1 e1 f : Value} {p : Nat} (hp : Obj1 H p (lineCells x o0 e0 o1 e1 f)) (h1 : Its (ctxW w) H o0 x.a.opens) (h2 : Its (ctxW w) H e0 x.a.early) (h3 : Its (ctxW w) H o1 x.b.opens) (h4 : Its (ctxW w) H e1 x.b.early)
    (ha : EndS x.a) (hb : EndS x.b) : wpCall (ctxW w) (.func (.func 40) #[] #[]) [.slice (some ⟨p, 0, none⟩) 2 2, .func (.func 41) #[] #[]] H fun r H' => Same H H' ∧ Tells (EndOK x.a ∧ EndOK x.b) r := by
  refine wpCall_fn rfl (get40 w) ?_
  simp [ir40]
  refine w_box (cs := [.func (.func 41) #[] #[]]) hw (by simp) rfl (by simp) fun q H1 hq => ?_
  simp
  refine wpCall_fn rfl (get64 w) ?_
  simp [ir64]
  refine wpCall_fn rfl (get88 w) ?_
  simp [ir88]
  have ld1 := fun off n => Obj1.load (C := ctxW w) (off := off) (n := n) (hp.same hq.same)
  have hs01 := hq.same
  refine wp_loop' (fun n s => ∃ (T : Env) (H2 : AHeap) (i : Nat), s = ⟨T, H2, []⟩ ∧ n = 2 - i ∧ i ≤ 2 ∧ T.val 0 = .slice (some ⟨p, 0, none⟩) 2 2 ∧ T.val 1 = .func (.func 65) #[] #[.pointer (some ⟨q, 0, none⟩)] ∧ T.val 7 = .int .i64 2 ∧ T.val 8 = .int .i64 i ∧ Same H1 H2 ∧ (0 < i → EndOK x.a) ∧ (1 < i → EndOK x.b)) (n := 2)
    ⟨_, H1, 0, rfl, rfl, by omega, by simp, by simp, by simp, by simp, Same.refl hs01.wf', by omega, by omega⟩ ?_
  rintro n s K ⟨T, H2, i, rfl, rfl, hi, t0, t1, t7, t8, hs2, hA, hB⟩ hnext hexit
  have hs02 := hs01.trans hs2
  have ld2 := fun off n => Obj1.load (C := ctxW w) (off := off) (n := n) (hp.same hs02)
  have hcase : i = 0 ∨ i = 1 ∨ i = 2 := by omega
  rcases hcase with rfl | rfl | rfl
  · simp [t0, t1, t7, t8, ld2, lineCells]
    refine wpCall_mono (notE_spec w hs02.wf' (hq.obj.same hs2) (x := x.a) ⟨_, _, rfl, h1.same hs02, h2.same hs02⟩ ha) ?_
    rintro _ H3 ⟨hs3, b, rfl, hb'⟩
    simp
    cases b with
    | false =>
      simp
      refine hexit _ _ (by simp) ?_
      simp
      exact ⟨hs02.trans hs3, .no fun h => by simpa using hb'.2 h.1⟩
    | true =>
      simp [t8]
      exact hnext 1 _ (by omega) ⟨_, H3, 1, rfl, rfl, by omega, by simp [t0], by simp [t1], by simp [t7], by simp [i64_in], hs2.trans hs3, fun _ => hb'.1 rfl, by omega⟩
  · simp [t0, t1, t7, t8, ld2, lineCells]
    refine wpCall_mono (notE_spec w hs02.wf' (hq.obj.same hs2) (x := x.b) ⟨_, _, rfl, h3.same hs02, h4.same hs02⟩ hb) ?_
    rintro _ H3 ⟨hs3, b, rfl, hb'⟩
    simp
    cases b with
    | false =>
      simp
      refine hexit _ _ (by simp) ?_
      simp
      exact ⟨hs02.trans hs3, .no fun h => by simpa using hb'.2 h.2⟩
    | true =>
      simp [t8]
      exact hnext 0 _ (by omega) ⟨_, H3, 2, rfl, rfl, by omega, by simp [t0], by simp [t1], by simp [t7], by simp [i64_in], hs2.trans hs3, fun _ => hA (by omega), fun _ => hb'.1 rfl⟩
  · simp [t7, t8]
    refine hexit _ _ (by simp) ?_
    simp
    exact ⟨hs02, .yes ⟨hA (by omega), hB (by omega)⟩⟩
end Go.Ai.Wire

namespace Go.Ai
theorem d_box {C : Ctx} {H : AHeap} {T : Env} {d : Option Nat} {K : Env → AHeap → Prop} {rd : List (Nat × IOper × List Nat)} {log : List Info} {i : Nat} {un : List Nat} {n : Nat} {x : IOpd} {cs : List Value} (hw : WF H) (hf : freeAll C log (.exp [] [H.next]) un = true) (hx : vcells (x.val T.val) = some cs) (hn : cs.length = n) (hs : cs.all scalar = true)
    (hk : ∀ p H', Made H H' p cs → wpD C rd (.exp [] [p] :: log) K (putDst T d (.pointer (some ⟨p, 0, none⟩))) H') : wpD C ((i, ⟨d, .box n x, none⟩, un) :: rd) log K T H := by
  rw [wpD_box]
  have : evalOp C H.get T.val H.next (.box n x) = some { v := .pointer (some ⟨H.next, 0, none⟩), new := some (.cells [⟨0, cs⟩]) } := by
    simp only [evalOp, hx]
    rw [if_pos ⟨hn, hs⟩]
  rw [this]
  simp only [bindO_some, opKD_eq, AOut.mods, List.nil_append]
  rw [hf]
  exact hk _ _ (Made.push hw 0 cs)
end Go.Ai
namespace Go.Ai.Wire
open Go.Proofs Go.IntWalk
attribute [local irreducible] Trie.put

/-- What copies of lines want. -/
def LineS (x : LineA) : Prop := EndS x.a ∧ EndS x.b ∧ x.fly.length ≤ 1000 ∧ x.fly.all (short 500) = true

theorem flights_iff (l : List Itm) : l.all flightB = true ↔ ∀ i, FlightAt l i := by
  rw [List.all_eq_true]
  constructor
  · intro h i hi
    have := h _ (List.getElem_mem hi)
    simp only [flightB, Bool.and_eq_true, decide_eq_true_eq] at this
    exact ⟨this.1, by omega, by omega⟩
  · intro h y hy
    obtain ⟨i, hi, rfl⟩ := List.getElem_of_mem hy
    have := h i hi
    simp only [flightB, Bool.and_eq_true, decide_eq_true_eq]
    exact ⟨this.1, by omega, by omega⟩

/-- A copy of a line. -/
def LineN (C : Ctx) (H : AHeap) (lo hi : Nat) (x : LineA) (v : Value) : Prop :=
  ∃ m1 m2 o0 e0 o1 e1 f, v = lineV x.a.last o0 x.a.got e0 x.b.last o1 x.b.got e1 f ∧ lo ≤ m1 ∧ m1 ≤ m2 ∧ m2 ≤ hi ∧ EndN C H lo m1 x.a (endV x.a.last o0 x.a.got e0) ∧ EndN C H m1 m2 x.b (endV x.b.last o1 x.b.got e1) ∧ ItsN C H m2 hi f x.fly

theorem EndN.parts {C : Ctx} {H : AHeap} {lo hi : Nat} {x : EndA} {l g : Int} {ov ev : Value} (h : EndN C H lo hi x (endV l ov g ev)) : Its C H ov x.opens ∧ Its C H ev x.early := by
  obtain ⟨mid, ov', ev', h1, _, _, h4, h5⟩ := h
  simp only [endV, Value.agg.injEq, Array.mk.injEq, List.cons.injEq] at h1
  obtain ⟨_, rfl, _, rfl, _⟩ := h1
  exact ⟨h4.its, h5.its⟩

theorem LineN.r {C : Ctx} {H : AHeap} {lo hi : Nat} {x : LineA} {v : Value} (h : LineN C H lo hi x v) : LineR C H x v := by
  obtain ⟨m1, m2, o0, e0, o1, e1, f, k0, k1, k2, k3, k4, k5, k6⟩ := h
  exact ⟨o0, e0, o1, e1, f, k0, k4.parts.1, k4.parts.2, k5.parts.1, k5.parts.2, k6.its⟩

theorem copyLine_spec (w : World) {H : AHeap} (hw : WF H) {x : LineA} {v : Value} (hx : LineR (ctxW w) H x v) (hsm : LineS x) : wpCall (ctxW w) (.func (.func 9) #[] #[]) [v] H fun r H' => Same H H' ∧ LineN (ctxW w) H' H.next H'.next x r := by
  obtain ⟨o0, e0, o1, e1, f, rfl, h1, h2, h3, h4, h5⟩ := hx
  obtain ⟨a1, c1, rfl⟩ := h1.val
  obtain ⟨a2, c2, rfl⟩ := h2.val
  obtain ⟨a3, c3, rfl⟩ := h3.val
  obtain ⟨a4, c4, rfl⟩ := h4.val
  obtain ⟨a5, c5, rfl⟩ := h5.val
  refine wpCall_fn rfl (get9 w) ?_
  simp [ir9]
  refine w_box (cs := lineCells x (.slice a1 x.a.opens.length c1) (.slice a2 x.a.early.length c2) (.slice a3 x.b.opens.length c3) (.slice a4 x.b.early.length c4) (.slice a5 x.fly.length c5)) hw (by simp [lineV, lineCells]) rfl (by simp [lineCells]) fun p H1 hp => ?_
  refine w_mk hp.same.wf' fun q H2 hq => ?_
  have hs02 := hp.same.trans hq.same
  have hp2 := hp.obj.same hq.same
  have ld2 := fun off n => Obj1.load (C := ctxW w) (off := off) (n := n) hp2
  simp [ld2, lineCells]
  refine wpCall_mono (copyEnd_spec w hs02.wf' (x := x.a) ⟨_, _, rfl, h1.same hs02, h2.same hs02⟩ hsm.1) ?_
  rintro r3 H3 ⟨hs3, hn3⟩
  have hs03 := hs02.trans hs3
  have hp3 := hp2.same hs3
  have ld3 := fun off n => Obj1.load (C := ctxW w) (off := off) (n := n) hp3
  have f1 : free (ctxW w) (.call H2 H3) (.exp [p] []) = true := free_call_rd (eqbW w) hs3 (by simp; obtain ⟨e, h⟩ := hp2; rw [h]; simp)
  simp [ld3, f1, lineCells]
  refine wpCall_mono (copyEnd_spec w hs03.wf' (x := x.b) ⟨_, _, rfl, h3.same hs03, h4.same hs03⟩ hsm.2.1) ?_
  rintro r4 H4 ⟨hs4, hn4⟩
  obtain ⟨mid3, b1, b2, rfl, k3, k4, i1, i2⟩ := id hn3
  obtain ⟨mid4, b3, b4, rfl, k5, k6, i3, i4⟩ := id hn4
  obtain ⟨a6, c6, rfl⟩ := i1.val
  obtain ⟨a7, c7, rfl⟩ := i2.val
  obtain ⟨a8, c8, rfl⟩ := i3.val
  obtain ⟨a9, c9, rfl⟩ := i4.val
  have hs04 := hs03.trans hs4
  simp [endV]
  have hp4 := hp3.same hs4
  have hq4 := (hq.obj.same hs3).same hs4
  have n1 := hp.next
  have n1' := hp.new
  have n2 := hq.new
  have n2' := hq.next
  have n3 := hs3.grow.next
  have n4 := hs4.grow.next
  have g1 : Nat.beq H4.next p = false := nbeq' (by omega)
  have g2 : free (ctxW w) (.call H3 H4) (.exp [] [H4.next]) = true := free_call_new (Nat.le_refl _)
  have g3 : free (ctxW w) (.call H2 H3) (.exp [] [H4.next]) = true := free_call_new (by omega)
  refine d_mk hs04.wf' (by simp [g1, g2, g3]) fun s5 H5 hs5 => ?_
  simp
  have n5 := hs5.new
  have n5' := hs5.next
  refine d_store (p := s5) (off := 0) (xs := [.int .i64 x.a.last, .slice a6 x.a.opens.length c6, .int .i64 x.a.got, .slice a7 x.a.early.length c7, .int .i64 x.b.last, .slice a8 x.b.opens.length c8, .int .i64 x.b.got, .slice a9 x.b.early.length c9, .slice none 0 0]) hs5.same.wf' rfl hs5.obj (by simp) (by simp) rfl (by simp) (by simp) (by simp) fun H6 hm6 hn6 ho6 => ?_
  simp
  have hs45 := hs5.same
  have hs06 : Same H H6 := (hs04.trans hs45).then_mod hm6 (by omega)
  have ea : EndN (ctxW w) H6 H2.next H3.next x.a (endV x.a.last (.slice a6 x.a.opens.length c6) x.a.got (.slice a7 x.a.early.length c7)) := ((hn3.same hs4).same hs45).mod hm6 (by omega)
  have eb : EndN (ctxW w) H6 H3.next H4.next x.b (endV x.b.last (.slice a8 x.b.opens.length c8) x.b.got (.slice a9 x.b.early.length c9)) := (hn4.same hs45).mod hm6 (by omega)
  have hp6 : Obj1 H6 p _ := (hp4.same hs45).mod hm6 (by omega)
  have hq6 : Obj1 H6 q _ := (hq4.same hs45).mod hm6 (by omega)
  refine wp_loop' (fun n s => ∃ (T : Env) (H7 : AHeap) (i : Nat) (vf : Value), s = ⟨T, H7, []⟩ ∧ n = x.fly.length - i ∧ i ≤ x.fly.length ∧ T.val 1 = .pointer (some ⟨p, 0, none⟩) ∧ T.val 2 = .pointer (some ⟨q, 0, none⟩) ∧ T.val 3 = .pointer (some ⟨s5, 0, none⟩) ∧ T.val 4 = .int .i64 i ∧ Same H H7 ∧ Mod s5 H6 H7 ∧
      Obj1 H7 s5 [.int .i64 x.a.last, .slice a6 x.a.opens.length c6, .int .i64 x.a.got, .slice a7 x.a.early.length c7, .int .i64 x.b.last, .slice a8 x.b.opens.length c8, .int .i64 x.b.got, .slice a9 x.b.early.length c9, vf] ∧ ItsN (ctxW w) H7 H6.next H7.next vf (x.fly.take i)) (n := x.fly.length)
    ⟨_, H6, 0, _, rfl, rfl, Nat.zero_le _, by simp, by simp, by simp, by simp, hs06, (Same.refl hs06.wf').mod, by simpa using ho6, by simpa using ItsN.nil _ _ _ _⟩ ?_
  rintro n s K ⟨T, H7, i, vf, rfl, rfl, hi, t1, t2, t3, t4, hs07, hm67, ho7, hn7⟩ hnext hexit
  have hw7 := hs07.wf'
  have hfl := hsm.2.2.1
  have n67 := hm67.grow.next
  have hp7 : Obj1 H7 p _ := hp6.mod hm67 (by omega)
  have hq7 : Obj1 H7 q _ := hq6.mod hm67 (by omega)
  have ldp := fun off n => Obj1.load (C := ctxW w) (off := off) (n := n) hp7
  have lds := fun off n => Obj1.load (C := ctxW w) (off := off) (n := n) ho7
  by_cases hlt : i < x.fly.length
  · obtain ⟨b, da, dc, rfl, l1, l2, l3, hd⟩ := (h5.same hs07).at hlt
    have e3 : (i : Int) < x.fly.length := by omega
    have hblt := load_lt hw7 l1
    simp at hblt
    obtain ⟨av, cv, rfl⟩ := hn7.val
    obtain ⟨g, cs, k1, k2, j3, j4⟩ := hn7
    have hdl : x.fly[i].2.length ≤ 500 := by
      have := (List.all_eq_true.1 hsm.2.2.2) x.fly[i] (List.getElem_mem hlt)
      simpa [short] using this
    simp [t1, t3, t4, ldp, lds, e3, l1, lineCells]
    have f1 : Nat.beq H7.next b.block = false := nbeq' (by omega)
    have f3 : Nat.beq H7.next p = false := nbeq' (by omega)
    have f4 : Nat.beq H7.next s5 = false := nbeq' (by omega)
    refine d_bs (esz := 1) (cs := []) hw7 (by simp [f1, f3, f4]) (by simp) (by simp) (by simp) fun q8 H8 hq8 hb8 => ?_
    have n8 := hq8.new
    have n8' := hq8.next
    have l2' := hq8.same.load l2
    have f2 : Nat.beq q8 b.block = false := nbeq' (by omega)
    have f5 : Nat.beq q8 p = false := nbeq' (by omega)
    have ldp8 := fun off n => Obj1.load (C := ctxW w) (off := off) (n := n) (hp7.same hq8.same)
    simp [t1, t4, ldp8, e3, l2', f2, f5, lineCells]
    refine d_app' (g := q8) (n := 0) (m := x.fly[i].2.length) (cs := []) (xs := x.fly[i].2.map u8v) hq8.same.wf' (by simpa using hb8) (by simp; exact hd.same hq8.same) (u8_scalar _) (by simp [roomy]; omega)
      (fun rd' md hmd => by
        have k1 := free_rd_mod (C := ctxW w) (ri := rd') (mi := md) (x := b.block) fun y hy => by rw [hmd y hy]; omega
        have k2 := free_rd_mod (C := ctxW w) (ri := rd') (mi := md) (x := p) fun y hy => by rw [hmd y hy]; omega
        have k3 := free_rd_mod (C := ctxW w) (ri := rd') (mi := md) (x := s5) fun y hy => by rw [hmd y hy]; omega
        simp [k1, k2, k3]) fun v9 H9 rd9 md9 hm9 hb9 hmd9 hrd9 => ?_
    have hs79 : Same H7 H9 := hq8.same.then_mod hm9 (by omega)
    have hb9r : Bs (ctxW w) H9 v9 x.fly[i].2 := by
      have := hb9.row (C := ctxW w)
      simpa [Bs] using this
    obtain ⟨a9', ea9, hblk9, -⟩ := hb9.load (C := ctxW w)
    subst ea9
    simp only [Nat.zero_add] at hb9r
    have n9 := hs79.grow.next
    have f6 : Nat.beq H9.next s5 = false := nbeq' (by omega)
    simp
    refine d_bs (esz := 2) (cs := [.int .i64 x.fly[i].1, .slice (some a9') x.fly[i].2.length x.fly[i].2.length]) hs79.wf' (by simp [f6]) (by simp) (by simp) (by simp) fun q10 H10 hq10 hb10 => ?_
    simp
    have hs710 := hs79.trans hq10.same
    refine d_appN (g := g) (n := (x.fly.take i).length) (m := 1) (cs := cs) (xs := [.int .i64 x.fly[i].1, .slice (some a9') x.fly[i].2.length x.fly[i].2.length]) hs710.wf' (by simpa using k1.same hs710) (by simpa using hb10.row) (by simp) (by simp) (by simp [roomy]; omega) (by simp) fun v11 H11 rd11 md11 g11 hg11 hb11 => ?_
    simp [t3]
    have hs711 : Same H H11 ∧ Mod s5 H6 H11 ∧ H10.next ≤ H11.next ∧ Obj1 H11 s5 [.int .i64 x.a.last, .slice a6 x.a.opens.length c6, .int .i64 x.a.got, .slice a7 x.a.early.length c7, .int .i64 x.b.last, .slice a8 x.b.opens.length c8, .int .i64 x.b.got, .slice a9 x.b.early.length c9, .slice av (x.fly.take i).length cv] := by
      rcases hg11 with ⟨_, _, h⟩ | ⟨h0, rfl, _, h⟩
      · exact ⟨(hs07.trans hs710).trans h, (hm67.trans (hs710.trans h).mod), h.grow.next, (ho7.same hs710).same h⟩
      · have hg := k2 fun he => h0 (by rw [he]; rfl)
        refine ⟨(hs07.trans hs710).then_mod h (by omega), ?_, h.grow.next, (ho7.same hs710).mod h (by omega)⟩
        refine ⟨hs06.wf', (hm67.grow.trans hs710.grow).trans h.grow, fun j hj hne => ?_⟩
        rw [h.same j (by have := hs710.grow.next; omega) (by omega), hs710.same j (by omega), hm67.same j hj hne]
    obtain ⟨hs011, hm611, n11, ho11⟩ := hs711
    obtain ⟨a11, e11, hblk11, -⟩ := hb11.load (C := ctxW w)
    have hits : ItsN (ctxW w) H11 H6.next H11.next v11 (x.fly.take i ++ [(x.fly[i].1, x.fly[i].2)]) := ItsN.snoc hw7 hs710 n67 k2 j3 j4 (Bs.same hq10.same hb9r) (fun b hb hn => by cases hb; rw [hblk9]; omega) hg11 hb11
    subst e11
    refine d_store (p := s5) (off := 8) (xs := [.slice (some a11) ((x.fly.take i).length + 1) ((x.fly.take i).length + 1)]) hs011.wf' rfl ho11 (by simp) (by simp) rfl (by simp) (by simp) (by simp) fun H12 hm12 hn12 ho12 => ?_
    simp [t4]
    refine hnext (x.fly.length - (i + 1)) _ (by omega) ⟨_, H12, i + 1, _, rfl, rfl, by omega, by simp [t1], by simp [t2], by simp [t3], by simp; rw [i64_in _ (by omega)], hs011.then_mod hm12 (by omega), hm611.trans hm12, by simpa using ho12, ?_⟩
    have := (hits.mod hm12 (by omega)).mono (Nat.le_refl _) (by omega : H11.next ≤ H12.next)
    simp only [List.length_take, Nat.min_eq_left hi] at this ⊢
    rw [List.take_succ_eq_append_getElem hlt]
    exact this
  · have : i = x.fly.length := by omega
    subst this
    rw [List.take_length] at hn7
    obtain ⟨av, cv, rfl⟩ := hn7.val
    simp [t1, t4, ldp, lineCells]
    refine hexit _ _ (by simp) ?_
    simp [t3, lds]
    refine w_store (p := q) (off := 0) (xs := [.int .i64 x.a.last, .slice a6 x.a.opens.length c6, .int .i64 x.a.got, .slice a7 x.a.early.length c7, .int .i64 x.b.last, .slice a8 x.b.opens.length c8, .int .i64 x.b.got, .slice a9 x.b.early.length c9, .slice av x.fly.length cv]) hw7 hq7 (by simp [t2]) (by simp) rfl (by simp) (by simp) (by simp) fun H8 hm8 hn8 ho8 => ?_
    have ld8 := fun off n => Obj1.load (C := ctxW w) (off := off) (n := n) ho8
    simp [t2, ld8]
    refine ⟨hs07.then_mod hm8 (by omega), H3.next, H4.next, _, _, _, _, _, rfl, by omega, by omega, by omega, ?_, ?_, ?_⟩
    · exact ((ea.mod hm67 (by omega)).mod hm8 (by omega)).mono (by omega) (Nat.le_refl _)
    · exact (eb.mod hm67 (by omega)).mod hm8 (by omega)
    · exact (hn7.mod hm8 (by omega)).mono (by omega) (by omega)
end Go.Ai.Wire

namespace Go.Ai.Wire
open Go.Proofs Go.IntWalk
attribute [local irreducible] Trie.put

theorem thinE_s {x : EndA} (h : thinE x = true) : EndS x := by
  simp only [thinE, Bool.and_eq_true, decide_eq_true_eq] at h
  exact ⟨⟨by omega, h.2.2.1⟩, by omega, h.2.2.2⟩
theorem thinL_s {x : LineA} (h : thinL x = true) : LineS x := by
  simp only [thinL, Bool.and_eq_true, decide_eq_true_eq] at h
  exact ⟨thinE_s h.1, thinE_s h.2.1, by omega, h.2.2.2⟩

theorem both {p : Prop} {r : Value} {b : Bool} (h : ErrOut p r) (hb : b = true ↔ p) : (b = true ∧ r = .int .i64 0) ∨ (b = false ∧ r = .int .i64 4) := by
  rcases h with ⟨h1, h2⟩ | ⟨h1, h2⟩
  · exact .inl ⟨hb.2 h1, h2⟩
  · refine .inr ⟨?_, h2⟩
    cases b with
    | false => rfl
    | true => exact absurd (hb.1 rfl) h1

end Go.Ai.Wire
