/-
  Bytes, and whether bytes are equal.
-/
import Derived.Test.YtlikgpehalhgkaaW4
namespace Go.Ai.Wire
open Go.Proofs Go.IntWalk

theorem okP_spec {n g : Int} {len : Nat} (h : okP n g len = true) : ∃ (a b : Nat), n = a ∧ g = b ∧ a ≤ 60000 ∧ b ≤ 60000 ∧ len ≤ 400 := by
  simp only [okP, decide_eq_true_eq] at h
  obtain ⟨⟨h1, h2⟩, ⟨h3, h4⟩, h5⟩ := h
  refine ⟨n.toNat, g.toNat, by omega, by omega, by omega, by omega, ?_⟩
  split at h5 <;> omega

/-- What 'Bytes' gives. -/
def BytesOut (C : Ctx) (H : AHeap) (n g : Int) (d : List UInt8) (r : Value) (H' : AHeap) : Prop :=
  Same H H' ∧ ((okP n g d.length = true ∧ ∃ b, r = .tuple #[b, .int .i64 0] ∧ Bs C H' b (enc n.toNat g.toNat d)) ∨ (okP n g d.length = false ∧ r = .tuple #[.slice none 0 0, .int .i64 4]))

/-- The same, with a row that is at its own end. -/
def BytesBuf (H : AHeap) (n g : Int) (d : List UInt8) (r : Value) (H' : AHeap) : Prop :=
  Same H H' ∧ ((okP n g d.length = true ∧ ∃ b q, H.next ≤ q ∧ r = .tuple #[b, .int .i64 0] ∧ Buf H' b q 1 (enc n.toNat g.toNat d).length ((enc n.toNat g.toNat d).map u8v)) ∨ (okP n g d.length = false ∧ r = .tuple #[.slice none 0 0, .int .i64 4]))

theorem BytesBuf.out {C : Ctx} {H H' : AHeap} {n g : Int} {d : List UInt8} {r : Value} (h : BytesBuf H n g d r H') : BytesOut C H n g d r H' := by
  obtain ⟨h1, ⟨h2, b, q, _, h3, h4⟩ | h2⟩ := h
  · exact ⟨h1, .inl ⟨h2, b, h3, h4.row⟩⟩
  · exact ⟨h1, .inr h2⟩

theorem wireBytes_buf (w : World) {H : AHeap} (hw : WF H) (n g : Int) {v : Value} {d : List UInt8} (hd : Bs (ctxW w) H v d) : wpCall (ctxW w) (.func (.func 14) #[] #[]) [pkV n g v] H (BytesBuf H n g d) := by
  obtain ⟨a, c, rfl⟩ := hd.val
  refine wpCall_fn rfl (get14 w) ?_
  simp [ir14]
  refine w_box (cs := [.int .i64 n, .int .i64 g, .slice a d.length c]) hw (by simp [pkV]) rfl (by simp) fun p H1 hp => ?_
  have ld := fun off n => Obj1.load (C := ctxW w) (off := off) (n := n) hp.obj
  simp [ld]
  refine w_mk hp.same.wf' fun q H2 hq => ?_
  refine w_store (p := q) (off := 0) (xs := [.int .i64 n, .int .i64 g, .slice a d.length c]) hq.same.wf' hq.obj (by simp) (by simp) rfl (by simp) (by simp) (by simp) fun H3 hm3 hn3 ho3 => ?_
  have hs3 : Same H H3 := (hp.same.trans hq.same).then_mod hm3 (by have := hp.next; have := hp.new; have := hq.new; omega)
  have ld3 := fun off n => Obj1.load (C := ctxW w) (off := off) (n := n) ho3
  simp [ld3]
  refine wpCall_mono (isRight_spec w hs3.wf' n g (a := a) (len := d.length) (c := c)) ?_
  rintro r H4 ⟨hs4, rfl⟩
  have ld4 := fun off n => Obj1.load (C := ctxW w) (off := off) (n := n) (ho3.same hs4)
  cases hok : okP n g d.length with
  | false =>
    simp
    exact ⟨hs3.trans hs4, .inr ⟨hok, rfl⟩⟩
  | true =>
    obtain ⟨n', g', rfl, rfl, hn, hg, hl⟩ := okP_spec hok
    simp [ld4]
    refine wpCall_mono (bytes_buf w hs4.wf' hn hg ((hd.same hs3).same hs4) (by omega)) ?_
    rintro r H5 ⟨hs5, q5, hq5, hb5⟩
    simp
    exact ⟨(hs3.trans hs4).trans hs5, .inl ⟨hok, r, q5, by have := hs3.grow.next; have := hs4.grow.next; omega, rfl, by simpa using hb5⟩⟩

theorem wireBytes_spec (w : World) {H : AHeap} (hw : WF H) (n g : Int) {v : Value} {d : List UInt8} (hd : Bs (ctxW w) H v d) : wpCall (ctxW w) (.func (.func 14) #[] #[]) [pkV n g v] H (BytesOut (ctxW w) H n g d) :=
  wpCall_mono (wireBytes_buf w hw n g hd) fun _ _ h => h.out

theorem refBytes_spec (w : World) {H : AHeap} (hw : WF H) (n g : Int) {v : Value} {d : List UInt8} (hd : Bs (ctxW w) H v d) : wpCall (ctxW w) (.func (.func 15) #[] #[]) [pkV n g v] H (BytesOut (ctxW w) H n g d) := by
  obtain ⟨a, c, rfl⟩ := hd.val
  refine wpCall_fn rfl (get15 w) ?_
  simp [ir15]
  refine w_box (cs := [.int .i64 n, .int .i64 g, .slice a d.length c]) hw (by simp [pkV]) rfl (by simp) fun p H1 hp => ?_
  have ld := fun off n => Obj1.load (C := ctxW w) (off := off) (n := n) hp.obj
  simp [ld]
  refine wpCall_mono (isPacket_spec w hp.same.wf' n g (a := a) (len := d.length) (c := c)) ?_
  rintro r H2 ⟨hs2, rfl⟩
  have ho2 := hp.obj.same hs2
  have ld2 := fun off n => Obj1.load (C := ctxW w) (off := off) (n := n) ho2
  cases hok : okP n g d.length with
  | false =>
    simp
    exact ⟨hp.same.trans hs2, .inr ⟨hok, rfl⟩⟩
  | true =>
    obtain ⟨n', g', rfl, rfl, hn, hg, hl⟩ := okP_spec hok
    simp [ld2]
    refine wpCall_mono (refTwo_spec w hs2.wf' (n := n') (by omega)) ?_
    rintro r3 H3 ⟨hs3, hb3⟩
    have ho3 := ho2.same hs3
    have ld3 := fun off n => Obj1.load (C := ctxW w) (off := off) (n := n) ho3
    have hf3 : free (ctxW w) (.call H2 H3) (.exp [p] []) = true := free_call_rd (eqbW w) hs3 (by simp; obtain ⟨e, h⟩ := ho2; rw [h]; simp)
    simp [ld3, hf3]
    refine wpCall_mono (refTwo_spec w hs3.wf' (n := g') (by omega)) ?_
    rintro r4 H4 ⟨hs4, hb4⟩
    simp
    have hlt3 := hb3.lt hs3.wf'
    refine d_app (g := H2.next) (n := 2) (m := 2) (cs := (be n').map u8v) (xs := (be g').map u8v) hs4.wf' (by simpa using hb3.same hs4) (by simpa using hb4.row) (u8_scalar _) (by simp [roomy]) (by simp) fun v5 H5 rd5 md5 hm5 hb5 hmd5 => ?_
    have hs15 : Same H1 H5 := ((hs2.trans hs3).trans hs4).then_mod hm5 (hs2.grow.next)
    have ho5 := hp.obj.same hs15
    have ld5 := fun off n => Obj1.load (C := ctxW w) (off := off) (n := n) ho5
    simp [ld5]
    refine wpCall_mono (refTwo_spec w hs15.wf' (n := d.length) (by omega)) ?_
    rintro r6 H6 ⟨hs6, hb6⟩
    simp
    have hlt5 := hb5.lt hs15.wf'
    refine d_app (g := H2.next) (n := 4) (m := 2) (cs := (be n').map u8v ++ (be g').map u8v) (xs := (be d.length).map u8v) hs6.wf' (by simpa using hb5.same hs6) (by simpa using hb6.row) (u8_scalar _) (by simp [roomy]) (by simp) fun v7 H7 rd7 md7 hm7 hb7 hmd7 => ?_
    have hs17 : Same H1 H7 := (hs15.trans hs6).then_mod hm7 (hs2.grow.next)
    have ho7 := hp.obj.same hs17
    have ld7 := fun off n => Obj1.load (C := ctxW w) (off := off) (n := n) ho7
    have hf6 : free (ctxW w) (.call H5 H6) (.exp [p] []) = true := free_call_rd (eqbW w) hs6 (by simp; obtain ⟨e, h⟩ := ho5; rw [h]; simp)
    have hf7 : free (ctxW w) (.exp rd7 md7) (.exp [p] []) = true := free_exp_rd fun x hx => by
      have := hmd7 x hx
      have := hp.next
      have := hs2.grow.next
      simp
      omega
    simp [ld7, hf6, hf7]
    have hd7 := ((hd.same hp.same).same hs17)
    refine d_app (g := H2.next) (n := 6) (m := d.length) (cs := (be n').map u8v ++ (be g').map u8v ++ (be d.length).map u8v) (xs := d.map u8v) hs17.wf' (by simpa using hb7) (by simp; exact hd7) (u8_scalar _) (by simp [roomy]; omega) (by simp) fun v8 H8 rd8 md8 hm8 hb8 hmd8 => ?_
    have hs18 : Same H1 H8 := hs17.then_mod hm8 (hs2.grow.next)
    have hb8' : Buf H8 v8 H2.next 1 (headB n' g' d).length ((headB n' g' d).map u8v) := by
      have e : (headB n' g' d).length = 6 + d.length := by simp [headB, be]; omega
      rw [e]
      simpa [headB] using hb8
    simp
    refine wpCall_mono (refSum_spec w (bs := headB n' g' d) hb8'.row (by simp [headB, be]; omega)) ?_
    rintro _ _ ⟨rfl, rfl⟩
    simp
    refine wpCall_mono (refTwo_spec w hs18.wf' (n := sumF 0 0 (headB n' g' d)) (by have := sumF_lt (headB n' g' d) 0 0 (by omega); omega)) ?_
    rintro r9 H9 ⟨hs9, hb9⟩
    simp
    refine w_app (g := H2.next) (n := (headB n' g' d).length) (m := 2) (cs := (headB n' g' d).map u8v) (xs := (be (sumF 0 0 (headB n' g' d))).map u8v) hs9.wf' (by simpa using hb8'.same hs9) (by simpa using hb9.row) (u8_scalar _) (by simp [roomy, headB, be]; omega) fun v10 H10 hm10 hb10 => ?_
    simp
    refine ⟨hp.same.trans ((hs18.trans hs9).then_mod hm10 hs2.grow.next), .inl ⟨hok, v10, rfl, ?_⟩⟩
    have := hb10.row (C := ctxW w)
    simpa [Bs, enc, be] using this

theorem equal_spec (w : World) {H : AHeap} {v u : Value} {a b : List UInt8} (ha : Bs (ctxW w) H v a) (hb : Bs (ctxW w) H u b) (hla : a.length ≤ 1000000) : wpCall (ctxW w) (.func (.func 52) #[] #[]) [v, u] H fun r H' => H' = H ∧ r = .bool (decide (a = b)) := by
  obtain ⟨a1, c1, rfl⟩ := ha.val
  obtain ⟨a2, c2, rfl⟩ := hb.val
  refine wpCall_fn rfl (get52 w) ?_
  by_cases hl : a.length = b.length
  · have hl' : (a.length : Int) = b.length := by omega
    simp [ir52, hl']
    refine wp_loop' (fun n s => ∃ (T : Env) (i : Nat), s = ⟨T, H, []⟩ ∧ n = a.length - i ∧ i ≤ a.length ∧ T.val 0 = .slice a1 a.length c1 ∧ T.val 1 = .slice a2 b.length c2 ∧ T.val 12 = .int .i64 a.length ∧ T.val 13 = .int .i64 i ∧ a.take i = b.take i) (n := a.length)
      ⟨_, 0, rfl, rfl, Nat.zero_le _, by simp, by simp, by simp [hl], by simp, by simp⟩ ?_
    rintro n s K ⟨T, i, rfl, rfl, hi, h0, h1, h12, h13, heq⟩ hnext hexit
    by_cases hlt : i < a.length
    · obtain ⟨x, rfl, hx⟩ := ha.at hlt
      obtain ⟨y, rfl, hy⟩ := hb.at (i := i) (by omega)
      have hlt2 : i < b.length := by omega
      by_cases hab : a[i] = b[i]
      · simp [h0, h1, h12, h13, hlt, hlt2, hx, hy, hab]
        refine hnext (a.length - (i + 1)) _ (by omega) ⟨_, i + 1, rfl, rfl, by omega, by simp [h0], by simp [h1], by simp [h12], by simp; rw [i64_in _ (by omega)], ?_⟩
        rw [List.take_succ_eq_append_getElem hlt, List.take_succ_eq_append_getElem hlt2, heq, hab]
      · have hne : ¬ ((a[i].toNat : Int) = b[i].toNat) := by
          intro h
          exact hab (UInt8.toNat_inj.1 (by omega))
        simp [h0, h1, h12, h13, hlt, hlt2, hx, hy, hne]
        refine hexit _ _ (by simp) ?_
        have : a ≠ b := by
          rintro rfl
          exact hab rfl
        simp [this]
    · have hi' : i = a.length := by omega
      subst hi'
      simp [h0, h1, h12, h13]
      refine hexit _ _ (by simp) ?_
      rw [List.take_length, hl, List.take_length] at heq
      simp [heq]
  · have hl' : ¬ ((a.length : Int) = b.length) := by omega
    simp [ir52, hl']
    rintro rfl
    exact hl rfl
end Go.Ai.Wire
