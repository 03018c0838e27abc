/-
  A line of the reference at work; a packet is put on it.
  'Turn' of the reference.
  'same' and 'fits' of the reference.
  'without' of the reference.
-/
import Derived.Test.YtlikgpehalhgkaaGreatPX2
import Derived.Test.YtlikgpehalhgkaaGreatPIr7
namespace Go.Ai.Wire
open Go.Proofs Go.IntWalk
attribute [local irreducible] Trie.put

structure RL (C : Ctx) (H : AHeap) (col : Nat → Nat) (t : Nat) (x : LineA) (o0 e0 o1 e1 f : Value) : Prop where
  obj : Obj1 H t (lineCells x o0 e0 o1 e1 f)
  c7 : col t = 7
  i0 : PIts C H col o0 x.a.opens
  i1 : PIts C H col e0 x.a.early
  i2 : PIts C H col o1 x.b.opens
  i3 : PIts C H col e1 x.b.early
  fl : WIts C H col 8 f x.fly
def RLine (C : Ctx) (H : AHeap) (col : Nat → Nat) (t : Nat) (x : LineA) : Prop := ∃ o0 e0 o1 e1 f, RL C H col t x o0 e0 o1 e1 f

section
variable {C : Ctx} {H H' : AHeap} {col col' : Nat → Nat} {A : List Nat}
theorem RL.step (hs : Step A H col H' col') (h0 : 0 ∉ A) (h7 : 7 ∉ A) (h8 : 8 ∉ A) {t : Nat} {x : LineA} {o0 e0 o1 e1 f : Value} (h : RL C H col t x o0 e0 o1 e1 f) : RL C H' col' t x o0 e0 o1 e1 f :=
  ⟨Obj1.step hs h.obj (by rw [h.c7]; exact h7), by rw [hs.keep t (h.obj.lt hs.wf)]; exact h.c7, h.i0.step hs h0, h.i1.step hs h0, h.i2.step hs h0, h.i3.step hs h0, h.fl.step hs h0 h8⟩
theorem RLine.step (hs : Step A H col H' col') (h0 : 0 ∉ A) (h7 : 7 ∉ A) (h8 : 8 ∉ A) {t : Nat} {x : LineA} (h : RLine C H col t x) : RLine C H' col' t x :=
  let ⟨a, b, c, d, e, h⟩ := h; ⟨a, b, c, d, e, h.step hs h0 h7 h8⟩
theorem RL.r {t : Nat} {x : LineA} {o0 e0 o1 e1 f : Value} (h : RL C H col t x o0 e0 o1 e1 f) : LineR C H x (lineV x.a.last o0 x.a.got e0 x.b.last o1 x.b.got e1 f) :=
  ⟨_, _, _, _, _, rfl, h.i0.its, h.i1.its, h.i2.its, h.i3.its, h.fl.its⟩
end

set_option maxHeartbeats 1000000 in
theorem refPut_spec (w : World) {H : AHeap} (hw : WF H) {col : Nat → Nat} (hbare : Bare col H) {t : Nat} {x : LineA} (hx : RLine (ctxW w) H col t x) {to : Int} {da : Option Addr} {dc : Nat} {d : List UInt8} (hd : Bs (ctxW w) H (.slice da d.length dc) d) (hdp : ∀ b, da = some b → d.length ≠ 0 → col b.block = 0) :
    wpCall (ctxW w) (.func (.func 34) #[] #[]) [.pointer (some ⟨t, 0, none⟩), .int .i64 to, .slice da d.length dc] H fun _ H' => ∃ col', Step [7, 8] H col H' col' ∧ RLine (ctxW w) H' col' t (putF x to d) := by
  obtain ⟨o0, e0, o1, e1, f, W⟩ := hx
  obtain ⟨fa, fc, rfl⟩ := W.fl.val
  have ldt := fun off n => Obj1.load (C := ctxW w) (off := off) (n := n) W.obj
  have htlt := W.obj.lt hw
  refine wpCall_fn rfl (get34 w) ?_
  simp [ir34]
  by_cases hlt : x.fly.length < 60
  · have e3 : (x.fly.length : Int) < 60 := by omega
    simp [ldt, lineCells, e3]
    refine w_bs (esz := 2) (cs := [.int .i64 to, .slice da d.length dc]) hw (by simp) (by simp) (by simp) fun q H1 hq hb => ?_
    have st1 : Step [] H col H1 col := Step.of_same hq.same hbare
    have W1 := W.step st1 (by simp) (by simp) (by simp)
    obtain ⟨g, cs, k1, k2, k3, k4⟩ := id W1.fl
    have n1 := hq.same.grow.next
    simp
    refine w_appW (g := g) (n := x.fly.length) (m := 1) (cs := cs) (xs := [.int .i64 to, .slice da d.length dc]) st1.wf' (by simpa using k1) (by omega) (by simpa using hb.row) (by simp) (by simp) (by simp [roomy]; omega) fun v2 H2 g2 hg2 hb2 => ?_
    simp at hg2
    obtain ⟨col2, st2, w2⟩ := WIts.snoc (C := ctxW w) (k := 8) st1.wf' st1.bare (by omega) k2 k3 k4 (hd.same hq.same) hdp hg2 hb2
    obtain ⟨a2, c2, rfl⟩ := w2.val
    have W2obj := Obj1.step st2 W1.obj (by rw [W1.c7]; simp)
    have hc2 : col2 t = 7 := by rw [st2.keep t (W1.obj.lt st1.wf')]; exact W1.c7
    simp
    refine w_store (p := t) (off := 8) (xs := [.slice a2 (x.fly ++ [(to, d)]).length c2]) st2.wf' W2obj (by simp) (by simp) rfl (by simp) (by simp [lineCells]) (by simp) fun H3 hm3 hn3 ho3 => ?_
    have st3 : Step [7] H2 col2 H3 col2 := Step.of_mod hm3 st2.bare (by rw [hc2]; simp)
    have st13 : Step [7, 8] H1 col H3 col2 := (st2.more (by simp)).trans (st3.more (by simp))
    simp
    refine ⟨col2, (st1.more (by simp)).trans st13, o0, e0, o1, e1, .slice a2 (x.fly ++ [(to, d)]).length c2, ?_⟩
    have hp : putF x to d = ⟨x.a, x.b, x.fly ++ [(to, d)]⟩ := by unfold putF; rw [if_pos hlt]
    rw [hp]
    exact ⟨by simpa [lineCells] using ho3, hc2, W1.i0.step st13 (by simp), W1.i1.step st13 (by simp), W1.i2.step st13 (by simp), W1.i3.step st13 (by simp), w2.step st3 (by simp) (by simp)⟩
  · have e3 : ¬ (x.fly.length : Int) < 60 := by omega
    simp [ldt, lineCells, e3]
    have hp : putF x to d = x := by unfold putF; rw [if_neg hlt]
    rw [hp]
    exact ⟨col, Step.of_same (Same.refl hw) hbare, o0, e0, o1, e1, _, W⟩

theorem ItsN.pits {C : Ctx} {H H1 : AHeap} {col : Nat → Nat} {lo hi : Nat} {v : Value} {l : List Itm} (h : ItsN C H lo hi v l) (hs : Same H H1) (hc : ∀ b, lo ≤ b → b < hi → col b = 0) : PIts C H1 col v l := by
  obtain ⟨g, cs, k1, k2, k3, k4⟩ := h
  rcases k1 with ⟨rfl, hn, rfl⟩ | ⟨hn, hb⟩
  · have : l = [] := List.length_eq_zero_iff.1 hn
    subst this
    exact PIts.nil C H1 col
  · refine ⟨cs, k3.same hs, (hb.same hs).row, fun u hu a n c he hm => ?_, fun a n c he hm => ?_⟩
    · have := k4 u hu a n c he hm
      exact hc _ this.1 this.2.1
    · obtain ⟨a', he', hbl, _⟩ := hb.load (C := C)
      rw [he] at he'
      cases he'
      have := k2 (fun h => hn (by rw [h]; rfl))
      exact hc _ (by omega) (by omega)

/-- The reference's copy of a line, at work in an object. -/
theorem LineN.rlG {C : Ctx} {H0 H H1 : AHeap} {col : Nat → Nat} {x : LineA} {v : Value} {hi : Nat} (h : LineN C H H0.next hi x v) (hhi : hi ≤ H.next) (hbare : Bare col H0) (hs0 : Same H0 H1) (hs : Same H H1) {t : Nat} (ht : hi ≤ t) :
    ∃ o0 e0 o1 e1 f, v = lineV x.a.last o0 x.a.got e0 x.b.last o1 x.b.got e1 f ∧ (Obj1 H1 t (lineCells x o0 e0 o1 e1 f) → ∃ col', Step [] H0 col H1 col' ∧ RL C H1 col' t x o0 e0 o1 e1 f) := by
  obtain ⟨m1, m2, o0, e0, o1, e1, f, rfl, l1, l2, l3, ⟨mid0, _, _, z0, a1, a2, a3, a4⟩, ⟨mid1, _, _, z1, b1, b2, b3, b4⟩, ⟨g, cs, c1, c2, c3, c4⟩⟩ := h
  simp only [endV, Value.agg.injEq, Array.mk.injEq, List.cons.injEq] at z0 z1
  obtain ⟨_, rfl, _, rfl, _⟩ := z0
  obtain ⟨_, rfl, _, rfl, _⟩ := z1
  refine ⟨_, _, _, _, _, rfl, fun ho => ?_⟩
  obtain ⟨col', hcol⟩ : ∃ col' : Nat → Nat, col' = fun b => if b = t then 7 else if x.fly.length ≠ 0 ∧ b = g then 8 else col b := ⟨_, rfl⟩
  have htl := ho.lt hs.wf'
  have hg : x.fly.length ≠ 0 → m2 ≤ g ∧ g < hi := fun h => c2 fun h' => h (by rw [h']; rfl)
  have hct : col' t = 7 := by rw [hcol]; simp
  have hc0 : ∀ b, H0.next ≤ b → b < m2 → col' b = 0 := fun b h1 h2 => by
    rw [hcol]
    dsimp only
    rw [if_neg (by omega), if_neg (fun h => by have := hg h.1; omega)]
    exact hbare b h1
  have n01 := hs0.grow.next
  have st : Step [] H0 col H1 col' := by
    refine ⟨hs0.wf, hs0.grow, fun b hb => ?_, fun b hb => ?_, fun b hb _ => hs0.same b hb⟩
    · rw [hcol]
      dsimp only
      rw [if_neg (by omega), if_neg (fun h => by have := hg h.1; have := hs.grow.next; omega)]
      exact hbare b (by omega)
    · rw [hcol]
      dsimp only
      rw [if_neg (by omega), if_neg (fun h => by have := hg h.1; omega)]
  refine ⟨col', st, ho, hct, a3.pits hs fun b h1 h2 => hc0 b h1 (by omega), a4.pits hs fun b h1 h2 => hc0 b (by omega) (by omega), b3.pits hs fun b h1 h2 => hc0 b (by omega) (by omega), b4.pits hs fun b h1 h2 => hc0 b (by omega) (by omega), ?_⟩
  refine ⟨g, cs, NB.ng (NB.same hs c1), fun hv => ?_, c3.same hs, fun u hu a n c he hm => ?_⟩
  · rcases c1 with ⟨h, _⟩ | ⟨hn, _⟩
    · exact absurd h hv
    · rw [hcol]
      dsimp only
      rw [if_neg (by have := hg hn; omega), if_pos ⟨hn, rfl⟩]
  · have := c4 u hu a n c he hm
    rw [hcol]
    dsimp only
    rw [if_neg (by omega), if_neg (fun h => this.2.2 h.2)]
    exact hbare _ (by omega)
theorem LineN.rl {C : Ctx} {H0 H H1 : AHeap} {col : Nat → Nat} {x : LineA} {v : Value} (h : LineN C H H0.next H.next x v) (hbare : Bare col H0) (hs0 : Same H0 H1) (hs : Same H H1) {t : Nat} (ht : H.next ≤ t) :
    ∃ o0 e0 o1 e1 f, v = lineV x.a.last o0 x.a.got e0 x.b.last o1 x.b.got e1 f ∧ (Obj1 H1 t (lineCells x o0 e0 o1 e1 f) → ∃ col', Step [] H0 col H1 col' ∧ RL C H1 col' t x o0 e0 o1 e1 f) :=
  h.rlG (Nat.le_refl _) hbare hs0 hs ht
theorem LineN.rlG' {C : Ctx} {H0 H H1 : AHeap} {col : Nat → Nat} {x : LineA} {o0 e0 o1 e1 f : Value} {hi : Nat} (h : LineN C H H0.next hi x (lineV x.a.last o0 x.a.got e0 x.b.last o1 x.b.got e1 f)) (hhi : hi ≤ H.next) (hbare : Bare col H0) (hs0 : Same H0 H1) (hs : Same H H1) {t : Nat} (ht : hi ≤ t) (ho : Obj1 H1 t (lineCells x o0 e0 o1 e1 f)) :
    ∃ col', Step [] H0 col H1 col' ∧ RL C H1 col' t x o0 e0 o1 e1 f := by
  obtain ⟨_, _, _, _, _, hz, k⟩ := h.rlG hhi hbare hs0 hs ht
  simp only [lineV, Value.agg.injEq, Array.mk.injEq, List.cons.injEq] at hz
  obtain ⟨_, rfl, _, rfl, _, rfl, _, rfl, rfl, _⟩ := hz
  exact k ho
theorem LineN.rl' {C : Ctx} {H0 H H1 : AHeap} {col : Nat → Nat} {x : LineA} {o0 e0 o1 e1 f : Value} (h : LineN C H H0.next H.next x (lineV x.a.last o0 x.a.got e0 x.b.last o1 x.b.got e1 f)) (hbare : Bare col H0) (hs0 : Same H0 H1) (hs : Same H H1) {t : Nat} (ht : H.next ≤ t) (ho : Obj1 H1 t (lineCells x o0 e0 o1 e1 f)) :
    ∃ col', Step [] H0 col H1 col' ∧ RL C H1 col' t x o0 e0 o1 e1 f := by
  obtain ⟨_, _, _, _, _, hz, k⟩ := h.rl hbare hs0 hs ht
  simp only [lineV, Value.agg.injEq, Array.mk.injEq, List.cons.injEq] at hz
  obtain ⟨_, rfl, _, rfl, _, rfl, _, rfl, rfl, _⟩ := hz
  exact k ho
end Go.Ai.Wire

namespace Go.Ai.Wire
open Go.Proofs Go.IntWalk
attribute [local irreducible] Trie.put

theorem ItC.set {C : Ctx} {H : AHeap} {l : List Itm} {cs : List Value} (h : ItC C H l cs) : ∀ {i : Nat} (hi : i < l.length) (n : Int), ItC C H (l.set i (n, l[i].2)) (cs.take (i * 2) ++ ([.int .i64 n] ++ cs.drop (i * 2 + 1))) := by
  induction h with
  | nil => intro i hi; simp at hi
  | @cons m d v l cs h1 h2 ih =>
    intro i hi n
    cases i with
    | zero => simp; exact .cons h1 h2
    | succ i =>
      have := ih (i := i) (by simpa using hi) n
      rw [show (i + 1) * 2 = i * 2 + 1 + 1 by omega, show i * 2 + 1 + 1 + 1 = (i * 2 + 1) + 1 + 1 by omega]
      simp only [List.take_succ_cons, List.drop_succ_cons, List.set_cons_succ, List.getElem_cons_succ, List.cons_append]
      exact .cons h1 this

end Go.Ai.Wire

namespace Go.Ai.Wire
open Go.Proofs Go.IntWalk
attribute [local irreducible] Trie.put

theorem refSame_spec (w : World) {H : AHeap} (hw : WF H) {k1 w1 n1 p1 x1 k2 w2 n2 p2 x2 : Int} {da : Option Addr} {dl dc : Nat} {db : Option Addr} {el ec : Nat} :
    wpCall (ctxW w) (.func (.func 56) #[] #[]) [.agg #[.int .u8 k1, .int .i64 w1, .int .i64 n1, .int .i64 p1, .int .i64 x1, .slice da dl dc], .agg #[.int .u8 k2, .int .i64 w2, .int .i64 n2, .int .i64 p2, .int .i64 x2, .slice db el ec]] H
      fun r H' => Same H H' ∧ Tells (w1 = w2 ∧ n1 = n2 ∧ p1 = p2 ∧ x1 = x2) r := by
  refine wpCall_fn rfl (get56 w) ?_
  simp [ir56]
  refine w_box (cs := [.int .u8 k1, .int .i64 w1, .int .i64 n1, .int .i64 p1, .int .i64 x1, .slice da dl dc]) hw (by simp) rfl (by simp) fun p H1 hp => ?_
  simp
  refine w_box (cs := [.int .u8 k2, .int .i64 w2, .int .i64 n2, .int .i64 p2, .int .i64 x2, .slice db el ec]) hp.same.wf' (by simp) rfl (by simp) fun q H2 hq => ?_
  have hs := hp.same.trans hq.same
  have ldp := fun off n => Obj1.load (C := ctxW w) (off := off) (n := n) (hp.obj.same hq.same)
  have ldq := fun off n => Obj1.load (C := ctxW w) (off := off) (n := n) hq.obj
  simp [ldp, ldq]
  by_cases h1 : w1 = w2
  · by_cases h2 : n1 = n2
    · by_cases h3 : p1 = p2
      · by_cases h4 : x1 = x2
        · simp [h1, h2, h3, h4, ldp, ldq]
          exact ⟨hs, .yes (by simp)⟩
        · simp [h1, h2, h3, h4, ldp, ldq]
          exact ⟨hs, .no (by simp)⟩
      · simp [h1, h2, h3, absent, ldp, ldq]
        exact ⟨hs, .no (by simp)⟩
    · simp [h1, h2, absent, ldp, ldq]
      exact ⟨hs, .no (by simp)⟩
  · simp [h1, absent]
    exact ⟨hs, .no (by simp)⟩

theorem fine1 {fly : List Itm} {a : ActA} (h : a.kind = 1) : FineA fly a ↔ FrameOK a.data ∧ WhoA a ∧ a.n = 0 ∧ a.pos = 0 ∧ a.xor = 0 := by
  unfold FineA
  constructor
  · rintro (h | h | h | h)
    · exact h.2
    · omega
    · omega
    · omega
  · exact fun k => .inl ⟨h, k⟩
theorem fine2 {fly : List Itm} {a : ActA} (h : a.kind = 2) : FineA fly a ↔ a.data = [] ∧ WhoA a ∧ a.n = 0 ∧ a.pos = 0 ∧ a.xor = 0 := by
  unfold FineA
  constructor
  · rintro (h | h | h | h)
    · omega
    · exact h.2
    · omega
    · omega
  · exact fun k => .inr (.inl ⟨h, k⟩)
theorem fine3 {fly : List Itm} {a : ActA} (h : a.kind = 3 ∨ a.kind = 4 ∨ a.kind = 5) : FineA fly a ↔ a.data = [] ∧ a.who = 0 ∧ AtA fly a ∧ a.pos = 0 ∧ a.xor = 0 := by
  unfold FineA
  constructor
  · rintro (h | h | h | h)
    · omega
    · omega
    · exact h.2
    · omega
  · exact fun k => .inr (.inr (.inl ⟨h, k⟩))
theorem fine6 {fly : List Itm} {a : ActA} (h : a.kind = 6) : FineA fly a ↔ a.data = [] ∧ a.who = 0 ∧ AtA fly a ∧ 0 ≤ a.pos ∧ (∀ h : a.n.toNat < fly.length, a.pos < fly[a.n.toNat].2.length) ∧ 1 ≤ a.xor ∧ a.xor ≤ 255 := by
  unfold FineA
  constructor
  · rintro (h | h | h | h)
    · omega
    · omega
    · omega
    · exact h.2
  · exact fun k => .inr (.inr (.inr ⟨h, k⟩))

set_option maxHeartbeats 8000000 in
theorem refFits_spec (w : World) {H : AHeap} (hw : WF H) {x : LineA} {v : Value} (hx : LineR (ctxW w) H x v) (hfl : x.fly.length ≤ 1000) (hfb : ∀ f ∈ x.fly, f.2.length ≤ 1000) {a : ActA} {da : Option Addr} {dc : Nat} :
    wpCall (ctxW w) (.func (.func 32) #[] #[]) [v, actV a (.slice da a.data.length dc)] H fun r H' => Same H H' ∧ Tells (FineA x.fly a) r := by
  obtain ⟨o0, e0, o1, e1, f, rfl, h1, h2, h3, h4, h5⟩ := hx
  obtain ⟨a1, c1, rfl⟩ := h1.val
  obtain ⟨a2, c2, rfl⟩ := h2.val
  obtain ⟨a3, c3, rfl⟩ := h3.val
  obtain ⟨a4, c4, rfl⟩ := h4.val
  obtain ⟨a5, c5, rfl⟩ := h5.val
  refine wpCall_fn rfl (get32 w) ?_
  simp [ir32]
  refine w_box (cs := lineCells x (.slice a1 x.a.opens.length c1) (.slice a2 x.a.early.length c2) (.slice a3 x.b.opens.length c3) (.slice a4 x.b.early.length c4) (.slice a5 x.fly.length c5)) hw (by simp [lineV, lineCells]) rfl (by simp [lineCells]) fun p H1 hp => ?_
  simp
  refine w_box (cs := actC a (.slice da a.data.length dc)) hp.same.wf' (by simp [actV, actC]) rfl (by simp [actC]) fun q H2 hq => ?_
  have hs2 := hp.same.trans hq.same
  have ldp2 := fun off n => Obj1.load (C := ctxW w) (off := off) (n := n) (hp.obj.same hq.same)
  have ldq2 := fun off n => Obj1.load (C := ctxW w) (off := off) (n := n) hq.obj
  have np := hp.new
  have np' := hp.next
  have nq := hq.new
  have nq' := hq.next
  simp [ldq2, actC]
  refine w_mk hs2.wf' fun t H3 ht => ?_
  have nt := ht.new
  have nt' := ht.next
  refine w_store (p := t) (off := 0) (xs := [.int .u8 a.kind, .int .i64 0, .int .i64 0, .int .i64 0, .int .i64 0, .slice none 0 0]) ht.same.wf' ht.obj (by simp) (by simp) rfl (by simp) (by simp) (by simp) fun H4 hm4 hn4 ho4 => ?_
  simp at ho4
  have hs4 : Same H H4 := (hs2.trans ht.same).then_mod hm4 (by omega)
  have hs24 : Same H2 H4 := ht.same.then_mod hm4 (by omega)
  have hq4 := hq.obj.same hs24
  have hp4 := (hp.obj.same hq.same).same hs24
  have ldq4 := fun off n => Obj1.load (C := ctxW w) (off := off) (n := n) hq4
  have ldp4 := fun off n => Obj1.load (C := ctxW w) (off := off) (n := n) hp4
  simp [ldq4, actC]
  by_cases k1 : a.kind = 1
  · simp [k1, ldq4, actC]
    refine w_store (p := t) (off := 1) (xs := [.int .i64 a.who]) hs4.wf' ho4 (by simp) (by simp) rfl (by simp) (by simp) (by simp) fun H5 hm5 hn5 ho5 => ?_
    simp at ho5
    have hs5 : Same H H5 := hs4.then_mod hm5 (by omega)
    have ldq5 := fun off n => Obj1.load (C := ctxW w) (off := off) (n := n) (hq4.mod hm5 (by omega))
    have ldt5 := fun off n => Obj1.load (C := ctxW w) (off := off) (n := n) ho5
    simp [ldq5, actC]
    refine wpCall_mono (in_spec w _ _ _) ?_
    rintro _ Hx ⟨hE, rfl⟩
    rw [hE]
    clear hE Hx
    rw [fine1 k1]
    by_cases hwo : 0 ≤ a.who ∧ a.who ≤ 1
    · simp [hwo.1, hwo.2, ldq5, actC]
      refine wpCall_mono (refFrame_spec w) ?_
      rintro _ Hx ⟨hE, rfl⟩
      rw [hE]
      clear hE Hx
      by_cases hf : FrameOK a.data
      · have g1 : (1 : Int) ≤ a.data.length := by have := hf.1; omega
        have g2 : (a.data.length : Int) ≤ 400 := by have := hf.2; omega
        simp [g1, g2, ldq5, ldt5, actC]
        refine wpCall_mono (refSame_spec w hs5.wf') ?_
        rintro _ H6 ⟨hs6, b6, rfl, hb6⟩
        simp
        exact ⟨hs5.trans hs6, b6, rfl, hb6.trans ⟨fun h => ⟨hf, hwo, h.2⟩, fun h => ⟨rfl, h.2.2⟩⟩⟩
      · have e4 : (decide ((1 : Int) ≤ a.data.length) && decide ((a.data.length : Int) ≤ 400)) = false := by
          simp only [FrameOK] at hf
          simp
          omega
        simp [e4, absent]
        exact ⟨hs5, .no fun h => hf h.1⟩
    · have e4 : (decide ((0 : Int) ≤ a.who) && decide (a.who ≤ 1)) = false := by
        simp
        omega
      simp [e4, absent]
      exact ⟨hs5, .no fun h => hwo h.2.1⟩
  · by_cases k2 : a.kind = 2
    · simp [k2, ldq4, actC]
      refine w_store (p := t) (off := 1) (xs := [.int .i64 a.who]) hs4.wf' ho4 (by simp) (by simp) rfl (by simp) (by simp) (by simp) fun H5 hm5 hn5 ho5 => ?_
      simp at ho5
      have hs5 : Same H H5 := hs4.then_mod hm5 (by omega)
      have ldq5 := fun off n => Obj1.load (C := ctxW w) (off := off) (n := n) (hq4.mod hm5 (by omega))
      have ldt5 := fun off n => Obj1.load (C := ctxW w) (off := off) (n := n) ho5
      simp [ldq5, actC]
      refine wpCall_mono (in_spec w _ _ _) ?_
      rintro _ Hx ⟨hE, rfl⟩
      rw [hE]
      clear hE Hx
      rw [fine2 k2]
      by_cases hwo : 0 ≤ a.who ∧ a.who ≤ 1
      · by_cases hd0 : a.data = []
        · have hdl : a.data.length = 0 := by rw [hd0]; rfl
          simp [hwo.1, hwo.2, ldq5, ldt5, actC, hdl]
          refine wpCall_mono (refSame_spec w hs5.wf') ?_
          rintro _ H6 ⟨hs6, b6, rfl, hb6⟩
          simp
          exact ⟨hs5.trans hs6, b6, rfl, hb6.trans ⟨fun h => ⟨hd0, hwo, h.2⟩, fun h => ⟨rfl, h.2.2⟩⟩⟩
        · simp [hwo.1, hwo.2, ldq5, actC, hd0, absent]
          exact ⟨hs5, .no (by simp)⟩
      · have e4 : (decide ((0 : Int) ≤ a.who) && decide (a.who ≤ 1)) = false := by
          simp
          omega
        simp [e4, absent]
        exact ⟨hs5, .no fun h => hwo h.2.1⟩
    · by_cases k3 : a.kind = 3 ∨ a.kind = 4 ∨ a.kind = 5
      · have hwl : IntKind.i64.wrap ((x.fly.length : Int) - 1) = (x.fly.length : Int) - 1 := i64_in _ (by omega)
        rw [fine3 k3]
        rcases k3 with k3 | k3 | k3 <;>
        · simp [k3, ldq4, actC]
          refine w_store (p := t) (off := 2) (xs := [.int .i64 a.n]) hs4.wf' ho4 (by simp) (by simp) rfl (by simp) (by simp) (by simp) fun H5 hm5 hn5 ho5 => ?_
          simp at ho5
          have hs5 : Same H H5 := hs4.then_mod hm5 (by omega)
          have ldq5 := fun off n => Obj1.load (C := ctxW w) (off := off) (n := n) (hq4.mod hm5 (by omega))
          have ldp5 := fun off n => Obj1.load (C := ctxW w) (off := off) (n := n) (hp4.mod hm5 (by omega))
          have ldt5 := fun off n => Obj1.load (C := ctxW w) (off := off) (n := n) ho5
          simp [ldq5, ldp5, actC, lineCells, hwl]
          refine wpCall_mono (in_spec w _ _ _) ?_
          rintro _ Hx ⟨hE, rfl⟩
          rw [hE]
          clear hE Hx
          by_cases hat : 0 ≤ a.n ∧ a.n < x.fly.length
          · have g2 : a.n ≤ (x.fly.length : Int) - 1 := by omega
            by_cases hd0 : a.data = []
            · have hdl : a.data.length = 0 := by rw [hd0]; rfl
              simp [hat.1, g2, ldq5, ldt5, actC, hdl]
              refine wpCall_mono (refSame_spec w hs5.wf') ?_
              rintro _ H6 ⟨hs6, b6, rfl, hb6⟩
              simp
              exact ⟨hs5.trans hs6, b6, rfl, hb6.trans ⟨fun h => ⟨hd0, h.1, hat, h.2.2⟩, fun h => ⟨h.2.1, rfl, h.2.2.2⟩⟩⟩
            · simp [hat.1, g2, ldq5, actC, hd0, absent]
              exact ⟨hs5, .no (by simp)⟩
          · have e4 : (decide ((0 : Int) ≤ a.n) && decide (a.n ≤ (x.fly.length : Int) - 1)) = false := by
              simp
              omega
            simp [e4, absent]
            exact ⟨hs5, .no fun h => hat h.2.2.1⟩
      · by_cases k6 : a.kind = 6
        · rw [fine6 k6]
          simp [k6, ldq4, actC]
          have z1 : free (ctxW w) (.exp [q] []) (.exp [t] [t]) = true := free_rd_mod fun y hy => by simp at hy; omega
          refine d_store (p := t) (off := 2) (xs := [.int .i64 a.n]) hs4.wf' (by simp [z1]) ho4 (by simp) (by simp) rfl (by simp) (by simp) (by simp) fun H5 hm5 hn5 ho5 => ?_
          simp at ho5
          simp
          refine d_store (p := t) (off := 3) (xs := [.int .i64 a.pos]) hm5.wf' (by simp [z1]) ho5 (by simp) (by simp) rfl (by simp) (by simp) (by simp) fun H6 hm6 hn6 ho6 => ?_
          simp at ho6
          simp
          refine d_store (p := t) (off := 4) (xs := [.int .i64 a.xor]) hm6.wf' (by simp) ho6 (by simp) (by simp) rfl (by simp) (by simp) (by simp) fun H7 hm7 hn7 ho7 => ?_
          simp at ho7
          have hs7 : Same H H7 := ((hs4.then_mod hm5 (by omega)).then_mod hm6 (by omega)).then_mod hm7 (by omega)
          have ldq7 := fun off n => Obj1.load (C := ctxW w) (off := off) (n := n) (((hq4.mod hm5 (by omega)).mod hm6 (by omega)).mod hm7 (by omega))
          have ldp7 := fun off n => Obj1.load (C := ctxW w) (off := off) (n := n) (((hp4.mod hm5 (by omega)).mod hm6 (by omega)).mod hm7 (by omega))
          have ldt7 := fun off n => Obj1.load (C := ctxW w) (off := off) (n := n) ho7
          have hwl : IntKind.i64.wrap ((x.fly.length : Int) - 1) = (x.fly.length : Int) - 1 := i64_in _ (by omega)
          simp [ldq7, ldp7, actC, lineCells, hwl]
          refine wpCall_mono (in_spec w _ _ _) ?_
          rintro _ Hx ⟨hE, rfl⟩
          rw [hE]
          clear hE Hx
          by_cases hat : 0 ≤ a.n ∧ a.n < x.fly.length
          · have g2 : a.n ≤ (x.fly.length : Int) - 1 := by omega
            obtain ⟨u, hu⟩ : ∃ u : Nat, a.n = u := ⟨a.n.toNat, by omega⟩
            have hul : u < x.fly.length := by omega
            have hut : a.n.toNat = u := by omega
            obtain ⟨b, db, ec, rfl, _, m2, _, _⟩ := (h5.same hs7).at hul
            have hbl := hfb _ (List.getElem_mem hul)
            have hwb : IntKind.i64.wrap ((x.fly[u].2.length : Int) - 1) = (x.fly[u].2.length : Int) - 1 := i64_in _ (by omega)
            have e5 : (u : Int) ≤ (x.fly.length : Int) - 1 := by omega
            have e6 : (u : Int) < x.fly.length := by omega
            have hall : (∀ h : a.n.toNat < x.fly.length, a.pos < x.fly[a.n.toNat].2.length) ↔ a.pos < x.fly[u].2.length := by
              constructor
              · intro h
                have := h (by omega)
                simpa [hut] using this
              · intro h _
                simpa [hut] using h
            rw [hall]
            clear hall
            simp [hu, e5, e6, ldq7, ldp7, actC, lineCells, m2, hwb]
            refine wpCall_mono (in_spec w _ _ _) ?_
            rintro _ Hx ⟨hE, rfl⟩
            rw [hE]
            clear hE Hx
            by_cases hpo : 0 ≤ a.pos ∧ a.pos < x.fly[u].2.length
            · have g3 : a.pos ≤ (x.fly[u].2.length : Int) - 1 := by omega
              simp [hpo.1, g3, ldq7, actC]
              refine wpCall_mono (in_spec w _ _ _) ?_
              rintro _ Hx ⟨hE, rfl⟩
              rw [hE]
              clear hE Hx
              by_cases hxo : 1 ≤ a.xor ∧ a.xor ≤ 255
              · by_cases hd0 : a.data = []
                · have hdl : a.data.length = 0 := by rw [hd0]; rfl
                  simp [hxo.1, hxo.2, ldq7, ldt7, actC, hdl]
                  refine wpCall_mono (refSame_spec w hs7.wf') ?_
                  rintro _ H8 ⟨hs8, b8, rfl, hb8⟩
                  simp
                  exact ⟨hs7.trans hs8, b8, rfl, hb8.trans ⟨fun h => ⟨hd0, h.1, hat, hpo.2⟩, fun h => ⟨h.2.1, rfl, rfl, rfl⟩⟩⟩
                · simp [hxo.1, hxo.2, ldq7, actC, hd0, absent]
                  exact ⟨hs7, .no (by simp)⟩
              · have e7 : (decide ((1 : Int) ≤ a.xor) && decide (a.xor ≤ 255)) = false := by
                  simp
                  omega
                simp [e7, absent]
                exact ⟨hs7, .no fun h => hxo h.2.2.2.2⟩
            · have e7 : (decide ((0 : Int) ≤ a.pos) && decide (a.pos ≤ (x.fly[u].2.length : Int) - 1)) = false := by
                simp
                omega
              simp [e7, absent]
              exact ⟨hs7, .no fun h => hpo ⟨h.2.2.2.1, h.2.2.2.2.1⟩⟩
          · have e4 : (decide ((0 : Int) ≤ a.n) && decide (a.n ≤ (x.fly.length : Int) - 1)) = false := by
              simp
              omega
            simp [e4, absent]
            exact ⟨hs7, .no fun h => hat h.2.2.1⟩
        · simp [k1, k2, k6, show ¬ a.kind = 3 by omega, show ¬ a.kind = 4 by omega, show ¬ a.kind = 5 by omega]
          refine ⟨hs4, .no fun h => ?_⟩
          rcases h with h | h | h | h
          · exact k1 h.1
          · exact k2 h.1
          · exact k3 h.1
          · exact k6 h.1
end Go.Ai.Wire

namespace Go.Ai.Wire
open Go.Proofs Go.IntWalk
attribute [local irreducible] Trie.put

/-- A row's part. -/
theorem BufG.part {C : Ctx} {H H' : AHeap} {a : Addr} {g n c : Nat} {cs : List Value} (h : BufG H (.slice (some a) n c) g 2 n cs) (hs : Same H H') {i m c' : Nat} (hi : i + m ≤ n) : Row C H' (.slice (some (Ai.aadd a (i * 2))) m c') 2 m ((cs.drop (i * 2)).take (m * 2)) := by
  obtain ⟨a', c1, he, hnc, hbl, hcl, hld⟩ := h.load (C := C)
  cases he
  refine ⟨by rw [List.length_take, List.length_drop]; omega, some (Ai.aadd a (i * 2)), c', rfl, (fun h => by cases h), fun b hb hm => ?_⟩
  cases hb
  exact loadN_same hs (loadN_sub hld (i := i * 2) (m := m * 2) (by omega))

set_option maxHeartbeats 1000000 in
theorem without_spec (w : World) {H : AHeap} (hw : WF H) {col : Nat → Nat} (hbare : Bare col H) {fa : Option Addr} {fc : Nat} {l : List Itm} (hl : WIts (ctxW w) H col 8 (.slice fa l.length fc) l) {i : Nat} (hi : i < l.length) (hsm : l.length ≤ 1000) :
    wpCall (ctxW w) (.func (.func 36) #[] #[]) [.slice fa l.length fc, .int .i64 i] H fun r H' => ∃ col', Step [] H col H' col' ∧ WIts (ctxW w) H' col' 8 r (l.eraseIdx i) := by
  obtain ⟨b, rfl⟩ : ∃ b, fa = some b := by
    cases fa with
    | some b => exact ⟨b, rfl⟩
    | none => have := hl.none.1; omega
  obtain ⟨g, cs, _, hb, hg, k3, k4⟩ := hl.cells
  have hcl : cs.length = l.length * 2 := k3.len
  obtain ⟨b', c', he', hnc, hbl, _, _⟩ := hb.load (C := ctxW w)
  cases he'
  have hglt := hb.lt hw
  refine wpCall_fn rfl (get36 w) ?_
  simp [ir36]
  refine d_bs (esz := 2) (cs := []) hw rfl (by simp) (by simp) (by simp) fun q H1 hq hb1 => ?_
  have nq := hq.new
  have nq' := hq.next
  have f0 : Nat.beq q b.block = false := nbeq' (by omega)
  simp
  refine d_sliceM (esz := 2) (a := b) (n := l.length) (c := fc) (l := 0) (h := i) (m := fc) (by simp) ((hb.same hq.same).slc) (bounds_of (by simp [bnd]) (bnd_some (k := .i64) (by simp) (by omega)) (by simp [bnd]) (by omega)) (by simp [f0]) ?_
  simp
  have hr1 := BufG.part (C := ctxW w) hb hq.same (i := 0) (m := i) (c' := fc) (by omega)
  simp at hr1
  refine d_app' (g := q) (n := 0) (m := i) (cs := []) (xs := cs.take (i * 2)) hq.same.wf' (by simpa using hb1) (by simpa using hr1) (k3.take i).scal (by simp [roomy]; omega) (fun rd' md hmd => rfl) fun v2 H2 rd2 md2 hm2 hb2 hmd2 hrd2 => ?_
  have hs02 : Same H H2 := hq.same.then_mod hm2 (by omega)
  have f1 : free (ctxW w) (.exp rd2 md2) (.exp [b.block] []) = true := free_exp_rd fun x hx hm => by
    simp at hm
    subst hm
    have := hmd2 _ hx
    omega
  have hw1 : IntKind.i64.wrap ((i : Int) + 1) = ((i + 1 : Nat) : Int) := by rw [i64_in _ (by omega)]; omega
  simp [hw1]
  refine d_sliceM (esz := 2) (a := b) (n := l.length) (c := fc) (l := i + 1) (h := l.length) (m := fc) (by simp) ((hb.same hs02).slc) (bounds_of (by simp [bnd]) (by simp [bnd]) (bnd_some (k := .i64) (by simp) (by omega)) (by omega)) (by simp [f0, f1]) ?_
  simp
  have hr2 := BufG.part (C := ctxW w) hb hs02 (i := i + 1) (m := l.length - (i + 1)) (c' := fc - (i + 1)) (by omega)
  rw [List.take_of_length_le (by rw [List.length_drop]; omega)] at hr2
  refine d_app' (g := q) (n := i) (m := l.length - (i + 1)) (cs := cs.take (i * 2)) (xs := cs.drop ((i + 1) * 2)) hs02.wf' (by simpa using hb2) (by simpa using hr2) (k3.drop (i + 1)).scal (by simp [roomy]; omega) (fun rd' md hmd => rfl) fun v3 H3 rd3 md3 hm3 hb3 hmd3 hrd3 => ?_
  have hs03 : Same H H3 := hs02.then_mod hm3 (by omega)
  simp
  have st : Step [] H col H3 (paint col q 8) := Step.of_made hs03 hbare (by omega) (hb3.lt hs03.wf')
  have hit : ItC (ctxW w) H (l.eraseIdx i) (cs.take (i * 2) ++ cs.drop ((i + 1) * 2)) := by
    rw [List.eraseIdx_eq_take_drop_succ]
    exact (k3.take i).app (k3.drop (i + 1))
  have hpl : Plain col (cs.take (i * 2) ++ cs.drop ((i + 1) * 2)) := fun u hu a n c he hm => by
    rcases List.mem_append.1 hu with hu | hu
    · exact k4 u (List.mem_of_mem_take hu) a n c he hm
    · exact k4 u (List.mem_of_mem_drop hu) a n c he hm
  have hlen : (l.eraseIdx i).length = i + (l.length - (i + 1)) := by rw [List.length_eraseIdx_of_lt hi]; omega
  exact ⟨_, st, WIts.of (g := q) (by rw [hlen]; exact hb3.g) (by simp [paint]) (hit.same hs03) (Plain.keep st hit hpl)⟩
end Go.Ai.Wire
