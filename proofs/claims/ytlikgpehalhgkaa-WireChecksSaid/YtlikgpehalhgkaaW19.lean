/-
  Copies of frames with their numbers, in new memory.
-/
import Derived.Test.YtlikgpehalhgkaaW18
namespace Go.Ai

section
variable {C : Ctx} {H : AHeap} {T : Env} {d : Option Nat} {r : List IOper} {K : Env → AHeap → Prop}

/-- Nothing, or a row at its own end. -/
def NB (H : AHeap) (v : Value) (g esz n : Nat) (cs : List Value) : Prop := (v = .slice none 0 0 ∧ n = 0 ∧ cs = []) ∨ (n ≠ 0 ∧ Buf H v g esz n cs)

theorem NB.same {H' : AHeap} (hs : Same H H') {v : Value} {g esz n : Nat} {cs : List Value} (h : NB H v g esz n cs) : NB H' v g esz n cs := h.imp id fun h => ⟨h.1, h.2.same hs⟩

/-- How a row has grown: in a new object, or its own one has turned. -/
def Grown (H H' : AHeap) (n g g' : Nat) : Prop := (n = 0 ∧ g' = H.next ∧ Same H H') ∨ (n ≠ 0 ∧ g' = g ∧ g < H.next ∧ Mod g H H')

theorem w_appN {esz bytes g n m : Nat} {s x : IOpd} {cs xs : List Value} (hw : WF H) (hb : NB H (s.val T.val) g esz n cs) (hx : Row C H (x.val T.val) esz m xs) (hm : m ≠ 0) (hs : xs.all scalar = true) (hr : roomy (n + m) bytes = true)
    (hk : ∀ v H' g', Grown H H' n g g' → Buf H' v g' esz (n + m) (cs ++ xs) → wpO C r K (putDst T d v) H') : wpO C (⟨d, .append esz bytes s x, none⟩ :: r) K T H := by
  rcases hb with ⟨h1, rfl, rfl⟩ | ⟨hn, hb⟩
  · refine w_app0 hw h1 hx hm hs (by simpa using hr) fun v H' hs' hb' => hk v H' _ (.inl ⟨rfl, rfl, hs'⟩) (by simpa using hb')
  · exact w_app hw hb hx hs hr fun v H' hm' hb' => hk v H' _ (.inr ⟨hn, rfl, hb.lt hw, hm'⟩) hb'

theorem d_appN {rd : List (Nat × IOper × List Nat)} {log : List Info} {i : Nat} {un : List Nat} {esz bytes g n m : Nat} {s x : IOpd} {cs xs : List Value} (hw : WF H) (hb : NB H (s.val T.val) g esz n cs) (hx : Row C H (x.val T.val) esz m xs) (hm : m ≠ 0) (hs : xs.all scalar = true) (hr : roomy (n + m) bytes = true)
    (hf : ∀ rd' md, freeAll C log (.exp rd' md) un = true)
    (hk : ∀ v H' rd' md g', Grown H H' n g g' → Buf H' v g' esz (n + m) (cs ++ xs) → wpD C rd (.exp rd' md :: log) K (putDst T d v) H') : wpD C ((i, ⟨d, .append esz bytes s x, none⟩, un) :: rd) log K T H := by
  rcases hb with ⟨h0, rfl, rfl⟩ | ⟨hn, hb⟩
  · rw [wpD_append]
    obtain ⟨rd0, h1, h2, _⟩ := hx.src
    have : evalOp C H.get T.val H.next (.append esz bytes s x) = some ⟨.slice (some ⟨H.next, 0, none⟩) m m, none, some (.cells [⟨esz, xs⟩]), rd0⟩ := by
      simp only [evalOp, h2, h1, h0]
      unfold appendA
      rw [if_pos ⟨hx.1, hs⟩]
      simp at hr
      simp [hm, hr]
    rw [this]
    simp only [bindO_some, opKD_eq]
    rw [hf]
    refine hk _ _ _ _ H.next (.inl ⟨rfl, rfl, Same.push hw _⟩) ?_
    have := Buf.push H (e := esz) (.inr rfl) hx.1 hs
    simpa using this
  · exact d_app hw hb hx hs hr (fun rd' md _ => hf rd' md) fun v H' rd' md hm' hb' _ => hk v H' rd' md _ (.inr ⟨hn, rfl, hb.lt hw, hm'⟩) hb'
end
end Go.Ai
namespace Go.Ai.Wire
open Go.Proofs Go.IntWalk
attribute [local irreducible] Trie.put

section
variable {C : Ctx} {H H' : AHeap}

/-- All that is pointed at lies between two blocks, and off one. -/
def FarD (lo hi g : Nat) (cs : List Value) : Prop := ∀ v ∈ cs, ∀ a n c, v = .slice (some a) n c → n ≠ 0 → lo ≤ a.block ∧ a.block < hi ∧ a.block ≠ g

theorem FarD.off {lo hi g : Nat} {cs : List Value} (h : FarD lo hi g cs) : ∀ v ∈ cs, Off g v := fun v hv a n c he hn => (h v hv a n c he hn).2.2

theorem ItC.mod {g : Nat} (hm : Mod g H H') {l : List Itm} {cs : List Value} (h : ItC C H l cs) (hf : ∀ v ∈ cs, Off g v) : ItC C H' l cs := by
  induction h with
  | nil => exact .nil
  | cons h1 _ ih =>
    refine .cons (Row.mod hm h1 (hf _ (by simp))) (ih fun v hv => hf v ?_)
    simp [hv]

/-- Frames with their numbers in own memory, between two blocks. -/
def ItsN (C : Ctx) (H : AHeap) (lo hi : Nat) (v : Value) (l : List Itm) : Prop :=
  ∃ g cs, NB H v g 2 l.length cs ∧ (l ≠ [] → lo ≤ g ∧ g < hi) ∧ ItC C H l cs ∧ FarD lo hi g cs

theorem ItsN.nil (C : Ctx) (H : AHeap) (lo hi : Nat) : ItsN C H lo hi (.slice none 0 0) [] := ⟨0, [], .inl ⟨rfl, rfl, rfl⟩, fun h => absurd rfl h, .nil, fun v hv => by cases hv⟩
theorem ItsN.same (hs : Same H H') {lo hi : Nat} {v : Value} {l : List Itm} (h : ItsN C H lo hi v l) : ItsN C H' lo hi v l := by
  obtain ⟨g, cs, h1, h2, h3, h4⟩ := h
  exact ⟨g, cs, h1.same hs, h2, h3.same hs, h4⟩
theorem ItsN.mono {lo hi lo' hi' : Nat} (h1 : lo' ≤ lo) (h2 : hi ≤ hi') {v : Value} {l : List Itm} (h : ItsN C H lo hi v l) : ItsN C H lo' hi' v l := by
  obtain ⟨g, cs, k1, k2, k3, k4⟩ := h
  refine ⟨g, cs, k1, fun hl => ?_, k3, fun v hv a n c he hn => ?_⟩
  · have := k2 hl; omega
  · have := k4 v hv a n c he hn; omega
theorem ItsN.its {lo hi : Nat} {v : Value} {l : List Itm} (h : ItsN C H lo hi v l) : Its C H v l := by
  obtain ⟨g, cs, k1, k2, k3, k4⟩ := h
  rcases k1 with ⟨rfl, hn, rfl⟩ | ⟨_, hb⟩
  · have : l = [] := List.length_eq_zero_iff.1 hn
    subst this
    exact Its.nil C H
  · exact ⟨cs, k3, hb.row⟩
theorem ItsN.val {lo hi : Nat} {v : Value} {l : List Itm} (h : ItsN C H lo hi v l) : ∃ a c, v = .slice a l.length c := h.its.val

/-- One more. -/
theorem ItsN.snoc {H1 H4 H5 : AHeap} {lo g g' : Nat} {v' : Value} {l : List Itm} {cs : List Value} {n : Int} {d : List UInt8} {da : Option Addr} {dc : Nat} (hw1 : WF H1) (hs : Same H1 H4) (hlo : lo ≤ H1.next) (k2 : l ≠ [] → lo ≤ g ∧ g < H1.next) (k3 : ItC C H1 l cs)
    (k4 : FarD lo H1.next g cs) (hd : Bs C H4 (.slice da d.length dc) d) (hdq : ∀ b, da = some b → d.length ≠ 0 → H1.next ≤ b.block) (hg : Grown H4 H5 l.length g g') (hb : Buf H5 v' g' 2 (l.length + 1) (cs ++ [.int .i64 n, .slice da d.length dc])) :
    ItsN C H5 lo H5.next v' (l ++ [(n, d)]) := by
  have hw4 := hs.wf'
  have n14 := hs.grow.next
  have hblt : ∀ b, da = some b → d.length ≠ 0 → b.block < H4.next := by
    intro b hb0 hn
    obtain ⟨_, a, c, he, _, h4⟩ := id hd
    cases he
    exact load_lt hw4 (h4 b hb0 hn)
  have hfar : ∀ {q : Nat}, FarD lo H1.next q cs → q < H1.next ∨ H4.next ≤ q → ∀ v ∈ cs ++ [Value.int .i64 n, .slice da d.length dc], ∀ a m c, v = .slice (some a) m c → m ≠ 0 → lo ≤ a.block ∧ a.block < H4.next ∧ a.block ≠ q := by
    intro q hq hq2 v hv a m c he hm
    rw [List.mem_append] at hv
    rcases hv with hv | hv
    · have := hq v hv a m c he hm
      omega
    · simp only [List.mem_cons, List.not_mem_nil, or_false] at hv
      rcases hv with hv | hv
      · rw [hv] at he; cases he
      · rw [hv] at he
        cases he
        have h1 := hdq a rfl hm
        have h2 := hblt a rfl hm
        omega
  rcases hg with ⟨h0, rfl, hs5⟩ | ⟨hl0, rfl, hgl, hm5⟩
  · have : l = [] := List.length_eq_zero_iff.1 h0
    subst this
    cases k3
    have n45 := hs5.grow.next
    refine ⟨H4.next, [.int .i64 n, .slice da d.length dc], .inr ⟨by simp, by simpa using hb⟩, fun _ => ⟨by omega, by have := hb.lt hs5.wf'; omega⟩, .cons (hd.same hs5) .nil, ?_⟩
    intro v hv a m c he hm
    have := hfar (q := H4.next) (fun v hv => by cases hv) (.inr (Nat.le_refl _)) v (by simpa using hv) a m c he hm
    omega
  · have n45 := hm5.grow.next
    have hl : l ≠ [] := fun h => hl0 (by rw [h]; rfl)
    have hgg := k2 hl
    refine ⟨g', _, .inr ⟨by simp, by simpa using hb⟩, fun _ => ⟨hgg.1, by omega⟩, ?_, ?_⟩
    · refine ItC.mod hm5 ((k3.same hs).app (.cons hd .nil)) fun v hv a m c he hm => ?_
      exact (hfar k4 (.inl hgg.2) v hv a m c he hm).2.2
    · intro v hv a m c he hm
      have := hfar k4 (.inl hgg.2) v hv a m c he hm
      omega
end

theorem copyItems_spec (w : World) {H : AHeap} (hw : WF H) {v : Value} {l : List Itm} (hv : Its (ctxW w) H v l) (hsm : l.length ≤ 1000) (hds : l.all (short 500) = true) :
    wpCall (ctxW w) (.func (.func 54) #[] #[]) [v] H fun r H' => Same H H' ∧ ItsN (ctxW w) H' H.next H'.next r l := by
  obtain ⟨a, c, rfl⟩ := hv.val
  refine wpCall_fn rfl (get54 w) ?_
  simp [ir54]
  refine wp_loop' (fun n s => ∃ (T : Env) (H1 : AHeap) (i : Nat), s = ⟨T, H1, []⟩ ∧ n = l.length - i ∧ i ≤ l.length ∧ T.val 0 = .slice a l.length c ∧ T.val 4 = .int .i64 i ∧ Same H H1 ∧ ItsN (ctxW w) H1 H.next H1.next (T.val 3) (l.take i)) (n := l.length)
    ⟨_, H, 0, rfl, rfl, Nat.zero_le _, by simp, by simp, Same.refl hw, by simpa using ItsN.nil _ _ _ _⟩ ?_
  rintro n s K ⟨T, H1, i, rfl, rfl, hi, t0, t4, hs1, hn1⟩ hnext hexit
  have hw1 := hs1.wf'
  by_cases hlt : i < l.length
  · obtain ⟨b, da, dc, rfl, l1, l2, l3, hd⟩ := (hv.same hs1).at hlt
    have e3 : (i : Int) < l.length := by omega
    have hblt := load_lt hw1 l1
    simp at hblt
    obtain ⟨g, cs, k1, k2, k3, k4⟩ := hn1
    have hdl : l[i].2.length ≤ 500 := by
      have := (List.all_eq_true.1 hds) l[i] (List.getElem_mem hlt)
      simpa [short] using this
    simp [t0, t4, e3, l1]
    have f1 : Nat.beq H1.next b.block = false := nbeq' (by omega)
    refine d_bs (esz := 1) (cs := []) hw1 (by simp [f1]) (by simp) (by simp) (by simp) fun q2 H2 hq2 hb2 => ?_
    have l2' := hq2.same.load l2
    have f2 : Nat.beq q2 b.block = false := nbeq' (by have := hq2.new; omega)
    simp [t0, t4, e3, l2', f2]
    refine d_app' (g := q2) (n := 0) (m := l[i].2.length) (cs := []) (xs := l[i].2.map u8v) hq2.same.wf' (by simpa using hb2) (by simp; exact hd.same hq2.same) (u8_scalar _) (by simp [roomy]; omega)
      (fun rd' md hmd => by
        have hf := free_rd_mod (C := ctxW w) (ri := rd') (mi := md) (x := b.block) fun y hy => by rw [hmd y hy]; have := hq2.new; omega
        simp [hf]) fun v3 H3 rd3 md3 hm3 hb3 hmd3 hrd3 => ?_
    have hs13 : Same H1 H3 := hq2.same.then_mod hm3 (by have := hq2.new; omega)
    have hb3r : Bs (ctxW w) H3 v3 l[i].2 := by
      have := hb3.row (C := ctxW w)
      simpa [Bs] using this
    obtain ⟨a3, ea3, hblk3, -⟩ := hb3.load (C := ctxW w)
    subst ea3
    simp only [Nat.zero_add] at hb3r
    simp
    refine d_bs (esz := 2) (cs := [.int .i64 l[i].1, .slice (some a3) l[i].2.length l[i].2.length]) hs13.wf' rfl (by simp) (by simp) (by simp) fun q4 H4 hq4 hb4 => ?_
    simp
    have hs14 := hs13.trans hq4.same
    have hlt1 : (l.take i).length = i := by simp; omega
    refine d_appN (g := g) (n := (l.take i).length) (m := 1) (cs := cs) (xs := [.int .i64 l[i].1, .slice (some a3) l[i].2.length l[i].2.length]) hs14.wf' (by simpa using k1.same hs14) (by simpa using hb4.row) (by simp) (by simp) (by simp [roomy]; omega) (by simp) fun v5 H5 rd5 md5 g5 hg5 hb5 => ?_
    simp [t0, t4]
    have hs15 : Same H H5 := by
      rcases hg5 with ⟨_, _, h⟩ | ⟨h0, rfl, _, h⟩
      · exact (hs1.trans hs14).trans h
      · refine (hs1.trans hs14).then_mod h (k2 fun he => h0 (by rw [he]; rfl)).1
    refine hnext (l.length - (i + 1)) _ (by omega) ⟨_, H5, i + 1, rfl, rfl, by omega, by simp [t0], by simp; rw [i64_in _ (by omega)], hs15, ?_⟩
    simp
    rw [List.take_succ_eq_append_getElem hlt]
    exact ItsN.snoc hw1 hs14 hs1.grow.next k2 k3 k4 (Bs.same hq4.same hb3r) (fun b hb hn => by cases hb; rw [hblk3]; have := hq2.new; omega) hg5 hb5
  · have : i = l.length := by omega
    subst this
    rw [List.take_length] at hn1
    simp [t0, t4]
    refine hexit _ _ (by simp) ?_
    simp
    exact ⟨hs1, hn1⟩
end Go.Ai.Wire
