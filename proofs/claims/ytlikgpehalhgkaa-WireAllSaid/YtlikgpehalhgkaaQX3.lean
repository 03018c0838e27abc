/-
  The walk of 'WireAll'.
-/
import Derived.Test.YtlikgpehalhgkaaQX2
import Derived.Test.YtlikgpehalhgkaaQWU
namespace Go.Ai.Wire
open Go.Proofs Go.IntWalk
attribute [local irreducible] Trie.put
section
variable {C : Ctx} {H : AHeap} {T : Env} {d : Option Nat} {K : Env → AHeap → Prop} {rd : List (Nat × IOper × List Nat)} {log : List Info} {ix : Nat} {un : List Nat}

/-- Frames are put behind frames, be there any or none. -/
theorem d_appH {bytes k : Nat} {s x : IOpd} {col : Nat → Nat} {l fr : List (List UInt8)} {xs : List Value} (hw : WF H) (hbare : Bare col H) (k0 : k ≠ 0) (hR : WRow C H col k (s.val T.val) l) (hx : FrC C H fr xs) (hrow : Row C H (x.val T.val) 1 fr.length xs) (hp : Plain col xs)
    (hr : roomy (l.length + fr.length) bytes = true) (hf : ∀ rd' md, (∀ x ∈ md, col x = k ∨ x = H.next) → freeAll C log (.exp rd' md) un = true)
    (hk : ∀ v H' col' rd' md, Step [k] H col H' col' → WRow C H' col' k v (l ++ fr) → (∀ x ∈ md, col x = k ∨ x = H.next) → wpD C rd (.exp rd' md :: log) K (putDst T d v) H') : wpD C ((ix, ⟨d, .append 1 bytes s x, none⟩, un) :: rd) log K T H := by
  obtain ⟨g, cs, k1, k2, k3, k4⟩ := id hR
  by_cases h0 : fr = []
  · subst h0
    have hxs : xs = [] := List.length_eq_zero_iff.1 (by rw [hx.len]; rfl)
    subst hxs
    refine d_appZ (g := g) (n := l.length) (cs := cs) k1 (by simpa using hrow) (fun rd' => hf rd' [] (by simp)) fun rd' => ?_
    exact hk _ _ col rd' [] (Step.of_same (Same.refl hw) hbare) (by simpa using hR) (by simp)
  · have hm : fr.length ≠ 0 := fun h => h0 (List.length_eq_zero_iff.1 h)
    rcases k1 with ⟨hv, hn, rfl⟩ | hb
    · have hl : l = [] := List.length_eq_zero_iff.1 hn
      subst hl
      rw [wpD_append]
      obtain ⟨rd0, h1, h2, _⟩ := hrow.src
      have : evalOp C H.get T.val H.next (.append 1 bytes s x) = some ⟨.slice (some ⟨H.next, 0, none⟩) fr.length fr.length, none, some (.cells [⟨1, xs⟩]), rd0⟩ := by
        simp only [evalOp, h2, h1, hv]
        unfold appendA
        rw [if_pos ⟨hrow.1, hx.scal⟩]
        simp at hr
        simp [hm, hr]
      rw [this]
      simp only [bindO_some, opKD_eq]
      rw [hf _ _ (by intro x hx; simp [AOut.mods] at hx; exact .inr hx)]
      have hbn := (Buf.push H (e := 1) (.inr rfl) hrow.1 hx.scal).g
      obtain ⟨col', st, w⟩ := WRow.app (C := C) (v := s.val T.val) (l := []) (cs := []) (g := g) (g' := H.next) (H6 := H.push (.cells [⟨1, xs⟩])) (v' := .slice (some ⟨H.next, 0, none⟩) fr.length fr.length) hw hbare k0 (fun h => absurd hv h) .nil (fun v h => by cases h) hx hp (.inl ⟨hv, rfl, Same.push hw _⟩) (by simpa using hbn)
      exact hk _ _ col' _ _ st w (by intro x hx; simp [AOut.mods] at hx; exact .inr hx)
    · refine d_appG hw hb (Nat.le_refl _) hrow hx.scal hr (fun rd' md hmd => hf rd' md fun x hx => .inl (by rw [hmd x hx]; exact k2 hb.nn)) fun v H' rd' md hm' hb' hmd => ?_
      obtain ⟨col', st, w⟩ := WRow.app hw hbare k0 k2 k3 k4 hx hp (.inr ⟨hb.nn, rfl, hb.lt hw, hm'⟩) hb'
      exact hk _ _ col' _ _ st w fun x hx => .inl (by rw [hmd x hx]; exact k2 hb.nn)
end

theorem FrF.plain {C : Ctx} {H : AHeap} {col : Nat → Nat} {lo : Nat} {v : Value} {l : List (List UInt8)} (h : FrF C H lo v l) (hc : ∀ b, lo ≤ b → col b = 0) : ∃ xs, FrC C H l xs ∧ Row C H v 1 l.length xs ∧ Plain col xs :=
  let ⟨xs, h1, h2, h3, _⟩ := h; ⟨xs, h1, h2, fun u hu a n c he hn => hc _ (h3 u hu a n c he hn)⟩

set_option maxHeartbeats 8000000 in
theorem wireAll_walk (w : World) {H : AHeap} (hw : WF H) {v : Value} {l : List (UInt8 × UInt8 × UInt8)} (hv : Row (ctxW w) H v 3 l.length (trip l)) :
    wpCall (ctxW w) (.func (.func 11) #[] #[]) [v] H fun r _ => r = .bool true := by
  obtain ⟨_, a, c, rfl, _, _⟩ := id hv
  refine wpCall_fn rfl (get11 w) ?_
  simp [ir11]
  refine wpCall_mono (lived_spec w hw hv) ?_
  rintro _ H1 ⟨q, col, y, rfl, hs1, hbare, ⟨o0, e0, o1, e1, f, sv0, sv1, hv0, hv1, S⟩, hin, hn0, hn1⟩
  have hlok := hin.ok
  have hsm := lineS_ok hlok
  obtain ⟨a1, c1, rfl⟩ := S.ln.i0.val
  obtain ⟨a2, c2, rfl⟩ := S.ln.i1.val
  obtain ⟨a3, c3, rfl⟩ := S.ln.i2.val
  obtain ⟨a4, c4, rfl⟩ := S.ln.i3.val
  obtain ⟨a5, c5, rfl⟩ := S.ln.i4.val
  obtain ⟨b1, d1, rfl⟩ := S.r0.val
  obtain ⟨b2, d2, rfl⟩ := S.r1.val
  obtain ⟨b3, d3, rfl⟩ := S.r2.val
  obtain ⟨b4, d4, rfl⟩ := S.r3.val
  have ldq1 := fun off n => Obj1.load (C := ctxW w) (off := off) (n := n) S.obj
  simp [ldq1, storyCells]
  have hcall := copyLine_spec w hs1.wf' S.ln.r hsm
  simp only [lineV] at hcall
  refine wpCall_mono hcall ?_
  rintro r2 H2 ⟨hs2, hn2⟩
  simp
  refine wpCall_mono (settle_spec w hs2.wf' hn2.r hlok) ?_
  rintro r3 H3 ⟨hs3, z, lv, g0, g1, hset, rfl, hl3, hg0, hg1, hzok, hz0, hz1⟩
  obtain ⟨hquiet, hinz⟩ := settled_law hin hset
  obtain ⟨q1, q2, q3, q4, q5, q6, q7, q8⟩ := quiet_all hinz hquiet
  have hs13 := hs2.trans hs3
  have n3 := hs3.grow.next
  have n2 := hs2.grow.next
  have hl3' := hl3
  obtain ⟨p0, p1, p2, p3, p4, rfl, i0, i1, i2, i3, i4⟩ := hl3'
  obtain ⟨u1, v1, rfl⟩ := i0.its.val
  obtain ⟨u2, v2, rfl⟩ := i1.its.val
  obtain ⟨u3, v3, rfl⟩ := i2.its.val
  obtain ⟨u4, v4, rfl⟩ := i3.its.val
  obtain ⟨u5, v5, rfl⟩ := i4.its.val
  obtain ⟨x1, y1, rfl⟩ := hg0.frs.val
  obtain ⟨x2, y2, rfl⟩ := hg1.frs.val
  simp [lineV]
  refine w_mk hs13.wf' fun t5 H4 ht5 => ?_
  refine w_mk ht5.same.wf' fun t6 H5 ht6 => ?_
  have n5 := ht5.new
  have n5' := ht5.next
  have n6 := ht6.new
  have n6' := ht6.next
  have hs35 := ht5.same.trans ht6.same
  simp
  refine w_store (p := t5) (off := 0) (xs := lineCells z.x (.slice u1 z.x.a.opens.length v1) (.slice u2 z.x.a.early.length v2) (.slice u3 z.x.b.opens.length v3) (.slice u4 z.x.b.early.length v4) (.slice u5 z.x.fly.length v5)) hs35.wf' (ht5.obj.same ht6.same) (by simp) (by simp [lineCells]) (by simp [lineCells]) (by simp) (by simp) (by simp [lineCells]) fun H6 hm6 hn6 ho6 => ?_
  simp [lineCells] at ho6
  have hs36 : Same H3 H6 := hs35.then_mod hm6 (by omega)
  simp
  refine w_store (p := t6) (off := 0) (xs := [.slice x1 z.h0.length y1, .slice x2 z.h1.length y2]) hs36.wf' (ht6.obj.mod hm6 (by omega)) (by simp) (by simp) (by simp) (by simp) (by simp) (by simp) fun H7 hm7 hn7 ho7 => ?_
  simp at ho7
  have hs37 : Same H3 H7 := hs36.then_mod hm7 (by omega)
  have hs17 := hs13.trans hs37
  have ho57 := ho6.mod hm7 (by omega)
  have st17 : Step [] H1 col H7 col := Step.of_same hs17 hbare
  have b3' : Bare col H3 := fun b hb => hbare b (by omega)
  have st37 : Step [] H3 col H7 col := Step.of_same hs37 b3'
  have S7 := S.step st17 (by simp)
  have ldq7 := fun off n => Obj1.load (C := ctxW w) (off := off) (n := n) S7.obj
  have ld67 := fun off n => Obj1.load (C := ctxW w) (off := off) (n := n) ho7
  have hqlt := S.obj.lt hs1.wf'
  simp [ldq7, ld67, storyCells]
  have hc3 : ∀ b, H2.next ≤ b → col b = 0 := fun b hb => hbare b (by omega)
  obtain ⟨xs0, f1, f2, f3⟩ := hg0.plain hc3
  obtain ⟨xs1, f4, f5, f6⟩ := hg1.plain hc3
  have F1 := f1.step st37 (by simp) f3
  have F2 := Row.same hs37 f2
  have F3 := f1.keep st37 f3
  have F4 := f4.step st37 (by simp) f6
  have F5 := Row.same hs37 f5
  have F6 := f4.keep st37 f6
  have hh0 : y.h0.length ≤ 80 := by have := congrArg List.length q2; rw [List.length_append] at this; omega
  have hh1 : y.h1.length ≤ 80 := by have := congrArg List.length q1; rw [List.length_append] at this; omega
  refine d_appH (k := 4) (col := col) (l := y.h0) (fr := z.h0) (xs := xs0) st17.wf' st17.bare (by omega) (by simpa using S7.r2) F1 (by simpa using F2) F3 (by simp [roomy]; omega) (fun rd' md hmd => rfl) fun v8 H8 col8 rd8 md8 st8 W8 hmd8 => ?_
  have hc7q : col q = 1 := S.c1
  have hq7lt := S7.obj.lt st17.wf'
  have hf8 : free (ctxW w) (.exp rd8 md8) (.exp [q] []) = true := free_exp_rd fun x hx hm => by
    simp at hm
    subst hm
    rcases hmd8 x hx with h | h
    · rw [hc7q] at h; omega
    · omega
  have hq8 := Obj1.step st8 S7.obj (by rw [hc7q]; simp)
  have hc8q : col8 q = 1 := by rw [st8.keep q hq7lt]; exact hc7q
  have hc7n : ∀ b, b < H1.next → col b = 0 ∨ True := fun _ _ => .inr trivial
  have ht6c : col t6 = 0 := hbare t6 (by omega)
  have ht5c : col t5 = 0 := hbare t5 (by omega)
  have ho68 := Obj1.step st8 ho7 (by rw [ht6c]; simp)
  have ho58 := Obj1.step st8 ho57 (by rw [ht5c]; simp)
  have W1 := S7.r1.step st8 (by simp) (by simp)
  have W0 := S7.r0.step st8 (by simp) (by simp)
  have W3 := S7.r3.step st8 (by simp) (by simp)
  have ldq8 := fun off n => Obj1.load (C := ctxW w) (off := off) (n := n) hq8
  have ld68 := fun off n => Obj1.load (C := ctxW w) (off := off) (n := n) ho68
  simp [ldq8, storyCells, hf8]
  refine wpCall_mono (sameFrames_spec w W8.frs W1.frs (by rw [List.length_append]; omega)) ?_
  rintro _ Hx ⟨hE, rfl⟩
  rw [hE, decide_eq_true q2]
  clear hE Hx
  simp [ldq8, ld68, storyCells]
  have F5s : Row (ctxW w) H8 (.slice x2 z.h1.length y2) 1 z.h1.length xs1 := Row.step st8 (by simp) F5 fun a n c he hn => by
    obtain ⟨_, _, _, _, k4⟩ := hg1
    have := k4 a n c he hn
    exact hbare _ (by omega)
  refine d_appH (k := 5) (col := col8) (l := y.h1) (fr := z.h1) (xs := xs1) st8.wf' st8.bare (by omega) (by simpa using W3) (F4.step st8 (by simp) F6) (by simpa using F5s) (F4.keep st8 F6) (by simp [roomy]; omega) (fun rd' md hmd => rfl) fun v9 H9 col9 rd9 md9 st9 W9 hmd9 => ?_
  have hq8lt := hq8.lt st8.wf'
  have hf9 : free (ctxW w) (.exp rd9 md9) (.exp [q] []) = true := free_exp_rd fun x hx hm => by
    simp at hm
    subst hm
    rcases hmd9 x hx with h | h
    · rw [hc8q] at h; omega
    · omega
  have hq9 := Obj1.step st9 hq8 (by rw [hc8q]; simp)
  have ht5c8 : col8 t5 = 0 := by rw [st8.keep t5 (ho57.lt st17.wf')]; exact ht5c
  have ho59 := Obj1.step st9 ho58 (by rw [ht5c8]; simp)
  have W09 := W0.step st9 (by simp) (by simp)
  have ldq9 := fun off n => Obj1.load (C := ctxW w) (off := off) (n := n) hq9
  have ld59 := fun off n => Obj1.load (C := ctxW w) (off := off) (n := n) ho59
  simp [ldq9, storyCells, hf9]
  refine wpCall_mono (sameFrames_spec w W9.frs W09.frs (by rw [List.length_append]; omega)) ?_
  rintro _ Hx ⟨hE, rfl⟩
  rw [hE, decide_eq_true q1]
  clear hE Hx
  simp
  have st79 : Step [4, 5] H7 col H9 col9 := (st8.more (by simp)).trans (st9.more (by simp))
  have hz7 : LineR (ctxW w) H9 z.x (lineV z.x.a.last (.slice u1 z.x.a.opens.length v1) z.x.a.got (.slice u2 z.x.a.early.length v2) z.x.b.last (.slice u3 z.x.b.opens.length v3) z.x.b.got (.slice u4 z.x.b.early.length v4) (.slice u5 z.x.fly.length v5)) := by
    have s39 : Step [4, 5] H3 col H9 col9 := (st37.more (by simp)).trans st79
    exact ⟨_, _, _, _, _, rfl, ((i0.plain hc3).step s39 (by simp)).its, ((i1.plain hc3).step s39 (by simp)).its, ((i2.plain hc3).step s39 (by simp)).its, ((i3.plain hc3).step s39 (by simp)).its, ((i4.plain hc3).step s39 (by simp)).its⟩
  have e1 : z.x.a.opens.length = 0 := by rw [hquiet.2.1]; rfl
  have e2 : z.x.b.opens.length = 0 := by rw [hquiet.2.2]; rfl
  have e3 : z.x.a.early.length = 0 := by rw [q3]; rfl
  have e4 : z.x.b.early.length = 0 := by rw [q4]; rfl
  have e5 : z.x.fly.length = 0 := by rw [hquiet.1]; rfl
  refine wp_loop' (fun n s => ∃ (T : Env) (i : Nat), s = ⟨T, H9, []⟩ ∧ n = 2 - i ∧ i ≤ 2 ∧ T.val 3 = .pointer (some ⟨q, 0, none⟩) ∧ T.val 5 = .pointer (some ⟨t5, 0, none⟩) ∧ T.val 8 = .int .i64 i) (n := 2)
    ⟨_, 0, rfl, rfl, Nat.zero_le _, by simp, by simp, by simp⟩ ?_
  rintro n s K ⟨T, i, rfl, rfl, hi, T3, T5, T8⟩ hnext hexit
  have ew1 : IntKind.i64.wrap 1 = 1 := i64_in _ (by omega)
  have ew0 : IntKind.i64.wrap 0 = 0 := i64_in _ (by omega)
  by_cases hi0 : i = 0
  · subst hi0
    simp [ew1, T3, T5, T8, ldq9, ld59, storyCells, e1, e3, q5, q7]
    exact hnext 1 _ (by omega) ⟨_, 1, rfl, rfl, by omega, by simp [T3], by simp [T5], by simp⟩
  · by_cases hi1 : i = 1
    · subst hi1
      simp [ew0, T3, T5, T8, ldq9, ld59, storyCells, e2, e4, q6, q8]
      exact hnext 0 _ (by omega) ⟨_, 2, rfl, rfl, by omega, by simp [T3], by simp [T5], by simp; rfl⟩
    · have hi2 : i = 2 := by omega
      subst hi2
      simp [T8]
      refine hexit _ _ (by simp) ?_
      simp [T5, ld59]
      have hsmz := lineS_ok hzok
      have hcall := copyLine_spec w st9.wf' hz7 hsmz
      simp only [lineV] at hcall
      refine wpCall_mono hcall ?_
      rintro r10 H10 ⟨hs10, hn10⟩
      simp
      refine wpCall_mono (settle_spec w hs10.wf' hn10.r hzok) ?_
      rintro r11 H11 ⟨hs11, z', lv', g0', g1', hset', rfl, hl11, hg0', hg1', _⟩
      have ez := hset'.quiet hquiet
      subst ez
      have hs911 := hs10.trans hs11
      have hl11' := hl11
      obtain ⟨p0', p1', p2', p3', p4', rfl, j0, j1, j2, j3, j4⟩ := hl11'
      dsimp only at j0 j1 j2 j3 j4
      obtain ⟨s1', w1', rfl⟩ := j0.its.val
      obtain ⟨s2', w2', rfl⟩ := j1.its.val
      obtain ⟨s3', w3', rfl⟩ := j2.its.val
      obtain ⟨s4', w4', rfl⟩ := j3.its.val
      obtain ⟨s5', w5', rfl⟩ := j4.its.val
      obtain ⟨x1', y1', rfl⟩ := hg0'.frs.val
      obtain ⟨x2', y2', rfl⟩ := hg1'.frs.val
      have n11 := hs911.grow.next
      simp [lineV]
      refine w_mk hs911.wf' fun t9 H12 ht9 => ?_
      refine w_mk ht9.same.wf' fun t10 H13 ht10 => ?_
      have m9 := ht9.new
      have m9' := ht9.next
      have m10 := ht10.new
      have m10' := ht10.next
      have hs1113 := ht9.same.trans ht10.same
      simp
      refine w_store (p := t9) (off := 0) (xs := lineCells z.x (.slice s1' z.x.a.opens.length w1') (.slice s2' z.x.a.early.length w2') (.slice s3' z.x.b.opens.length w3') (.slice s4' z.x.b.early.length w4') (.slice s5' z.x.fly.length w5')) hs1113.wf' (ht9.obj.same ht10.same) (by simp) (by simp [lineCells]) (by simp [lineCells]) (by simp) (by simp) (by simp [lineCells]) fun H14 hm14 hn14 ho14 => ?_
      simp [lineCells] at ho14
      have hs1114 : Same H11 H14 := hs1113.then_mod hm14 (by omega)
      simp
      refine w_store (p := t10) (off := 0) (xs := [.slice x1' 0 y1', .slice x2' 0 y2']) hs1114.wf' (ht10.obj.mod hm14 (by omega)) (by simp) (by simp) (by simp) (by simp) (by simp) (by simp) fun H15 hm15 hn15 ho15 => ?_
      simp at ho15
      have hs1115 : Same H11 H15 := hs1114.then_mod hm15 (by omega)
      have hs915 := hs911.trans hs1115
      have ho915 := ho14.mod hm15 (by omega)
      have ld515 := fun off n => Obj1.load (C := ctxW w) (off := off) (n := n) (ho59.same hs915)
      have ld915 := fun off n => Obj1.load (C := ctxW w) (off := off) (n := n) ho915
      have ld1015 := fun off n => Obj1.load (C := ctxW w) (off := off) (n := n) ho15
      simp [T5, ld515, ld915, e5]
      have st1115 : Step [] H9 col9 H15 col9 := Step.of_same hs915 st9.bare
      have hzA : LineR (ctxW w) H15 z.x (lineV z.x.a.last (.slice u1 z.x.a.opens.length v1) z.x.a.got (.slice u2 z.x.a.early.length v2) z.x.b.last (.slice u3 z.x.b.opens.length v3) z.x.b.got (.slice u4 z.x.b.early.length v4) (.slice u5 z.x.fly.length v5)) := hz7.same hs915
      have hzB : LineR (ctxW w) H15 z.x (lineV z.x.a.last (.slice s1' z.x.a.opens.length w1') z.x.a.got (.slice s2' z.x.a.early.length w2') z.x.b.last (.slice s3' z.x.b.opens.length w3') z.x.b.got (.slice s4' z.x.b.early.length w4') (.slice s5' z.x.fly.length w5')) := (LineF.r hl11).same hs1115
      have hcall := sameLine_spec w hs1115.wf' hzA hzB hsmz
      simp only [lineV, e5] at hcall
      refine wpCall_mono hcall ?_
      rintro _ H16 ⟨hs16, b16, rfl, hb16⟩
      have : b16 = true := hb16.2 trivial
      subst this
      have ld1016 := fun off n => Obj1.load (C := ctxW w) (off := off) (n := n) (ho15.same hs16)
      simp [ld1016, ew0]
      refine wpCall_mono (awake_spec w) ?_
      rintro _ H17 ⟨rfl, rfl⟩
      simp
end Go.Ai.Wire
