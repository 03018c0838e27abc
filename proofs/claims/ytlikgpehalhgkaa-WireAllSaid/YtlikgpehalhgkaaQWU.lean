/-
  What a line has gone through.
  Arguments of three bytes each.
-/
import Derived.Test.YtlikgpehalhgkaaQWT
import Derived.Test.YtlikgpehalhgkaaQWE
import Derived.Test.YtlikgpehalhgkaaQWB
namespace Go.Ai.Wire
open Go.Proofs Go.IntWalk
attribute [local irreducible] Trie.put

theorem actS_fine {x : LineA} (h : LineOK x) (sp : Bool) (b0 b1 b2 : UInt8) : FineA x.fly (actS x.fly sp b0 b1 b2) ∧ ((actS x.fly sp b0 b1 b2).kind = 6 → sp = false) := by
  unfold actS
  split
  · rename_i h0
    have hN : b1.toNat % x.fly.length < x.fly.length := Nat.mod_lt _ h0.1
    split
    · exact ⟨.inr (.inr (.inl ⟨.inr (.inl rfl), rfl, rfl, ⟨by dsimp only; omega, by dsimp only; omega⟩, rfl, rfl⟩)), fun h => by cases h⟩
    · split
      · exact ⟨.inr (.inr (.inl ⟨.inr (.inr rfl), rfl, rfl, ⟨by dsimp only; omega, by dsimp only; omega⟩, rfl, rfl⟩)), fun h => by cases h⟩
      · split
        · rename_i h3
          have hgd : x.fly.getD (b1.toNat % x.fly.length) (0, []) = x.fly[b1.toNat % x.fly.length] := by rw [List.getD_eq_getElem?_getD, List.getElem?_eq_getElem hN]; rfl
          rw [hgd] at h3 ⊢
          have hM : b2.toNat % x.fly[b1.toNat % x.fly.length].2.length < x.fly[b1.toNat % x.fly.length].2.length := Nat.mod_lt _ h3.2.2
          refine ⟨.inr (.inr (.inr ⟨rfl, rfl, rfl, ⟨by dsimp only; omega, by dsimp only; omega⟩, by dsimp only; omega, fun hh => ?_, by dsimp only; omega, by dsimp only; omega⟩)), fun _ => h3.2.1⟩
          simp only [Int.toNat_natCast]
          omega
        · exact ⟨.inr (.inr (.inl ⟨.inl rfl, rfl, rfl, ⟨by dsimp only; omega, by dsimp only; omega⟩, rfl, rfl⟩)), fun h => by cases h⟩
  · split
    · exact ⟨.inr (.inl ⟨rfl, rfl, ⟨by dsimp only; omega, by dsimp only; omega⟩, rfl, rfl, rfl⟩), fun h => by cases h⟩
    · exact ⟨.inl ⟨rfl, ⟨by simp, by simp; omega⟩, ⟨by dsimp only; omega, by dsimp only; omega⟩, rfl, rfl, rfl⟩, fun h => by cases h⟩

/-- Three bytes a step. -/
def trip (l : List (UInt8 × UInt8 × UInt8)) : List Value := l.flatMap fun b => [u8v b.1, u8v b.2.1, u8v b.2.2]
theorem trip_len (l : List (UInt8 × UInt8 × UInt8)) : (trip l).length = l.length * 3 := by
  induction l with
  | nil => rfl
  | cons b l ih =>
    unfold trip at ih ⊢
    rw [List.flatMap_cons, List.length_append, ih]
    simp
    omega
theorem trip_at {l : List (UInt8 × UInt8 × UInt8)} : ∀ {i : Nat} (hi : i < l.length), ((trip l).drop (i * 3)).take 3 = [u8v l[i].1, u8v l[i].2.1, u8v l[i].2.2] := by
  induction l with
  | nil => intro i hi; simp at hi
  | cons b l ih =>
    intro i hi
    cases i with
    | zero => simp [trip]
    | succ i =>
      have := ih (i := i) (by simpa using hi)
      unfold trip at this ⊢
      rw [List.flatMap_cons, show (i + 1) * 3 = 3 + i * 3 by omega, ← List.drop_drop]
      simpa using this

theorem goS_len {y : StoryA} (a : ActA) {n : Nat} (h0 : y.s0.length ≤ n) (h1 : y.s1.length ≤ n) : (goS y a).s0.length ≤ n + 1 ∧ (goS y a).s1.length ≤ n + 1 := by
  unfold goS
  split
  · dsimp only
    constructor
    · split
      · simp; omega
      · omega
    · split
      · simp; omega
      · omega
  · omega

theorem zero_inv : InvL zeroL [] [] [] [] false := by
  have ho : EndOK ⟨0, [], 0, []⟩ := ⟨by decide, by decide, by decide, fun i hi => by simp at hi, fun i hi => by simp at hi⟩
  have hd : Dir ⟨0, [], 0, []⟩ ⟨0, [], 0, []⟩ [] [] := ⟨rfl, (fun y hy => by simp at hy), ⟨0, rfl, by simp, by simp, by simp⟩, (fun y hy => by simp at hy)⟩
  exact ⟨⟨ho, ho, by decide, fun i hi => by simp [zeroL] at hi⟩, hd, hd, (fun f hf => by simp [zeroL] at hf), (fun f hf => by simp [zeroL] at hf), fun _ f hf => by simp [zeroL] at hf⟩

def Lived (C : Ctx) (H : AHeap) (r : Value) (H' : AHeap) : Prop := ∃ q col y, r = .tuple #[.pointer (some ⟨q, 0, none⟩), .bool true] ∧ Same H H' ∧ Bare col H' ∧ SWork C H' col q y ∧ InvL y.x y.s0 y.s1 y.h0 y.h1 y.sp ∧ y.s0.length ≤ 80 ∧ y.s1.length ≤ 80

set_option maxHeartbeats 1000000 in
theorem lived_spec (w : World) {H : AHeap} (hw : WF H) {v : Value} {l : List (UInt8 × UInt8 × UInt8)} (hv : Row (ctxW w) H v 3 l.length (trip l)) :
    wpCall (ctxW w) (.func (.func 36) #[] #[]) [v] H (Lived (ctxW w) H) := by
  obtain ⟨_, a, c, rfl, _, hld⟩ := id hv
  refine wpCall_fn rfl (get36 w) ?_
  simp [ir36]
  refine wpCall_mono (new_spec w hw) ?_
  rintro _ H1 ⟨hs1, rfl⟩
  simp [lineV]
  refine w_box (cs := storyCells ⟨zeroL, [], [], [], [], false⟩ (.slice none 0 0) (.slice none 0 0) (.slice none 0 0) (.slice none 0 0) (.slice none 0 0) (.slice none 0 0) (.slice none 0 0) (.slice none 0 0) (.slice none 0 0)) hs1.wf' (by simp [storyCells, zeroL]) (by simp [storyCells]) (by simp [storyCells]) fun q H2 hq => ?_
  have hs02 := hs1.trans hq.same
  have n1 := hs1.grow.next
  have nq := hq.new
  have nq' := hq.next
  have ldq := fun off n => Obj1.load (C := ctxW w) (off := off) (n := n) hq.obj
  simp [ldq, storyCells, zeroL]
  have hz : LineR (ctxW w) H2 zeroL (lineV 0 (.slice none 0 0) 0 (.slice none 0 0) 0 (.slice none 0 0) 0 (.slice none 0 0) (.slice none 0 0)) := ⟨_, _, _, _, _, rfl, Its.nil _ _, Its.nil _ _, Its.nil _ _, Its.nil _ _, Its.nil _ _⟩
  have hzs : LineS zeroL := (smallOK (y := ⟨zeroL, [], []⟩) zero_inv.ok (by simp) (by simp)).small
  have hcall := sameLine_spec w hs02.wf' hz hz hzs
  simp only [lineV] at hcall
  refine wpCall_mono hcall ?_
  rintro _ H3 ⟨hs3, b3, rfl, hb3⟩
  have : b3 = true := hb3.2 trivial
  subst this
  simp
  have hs03 := hs02.trans hs3
  obtain ⟨col0, hcol0⟩ : ∃ col0 : Nat → Nat, col0 = paint (fun _ => 0) q 1 := ⟨_, rfl⟩
  have n3 := hs3.grow.next
  have hbare0 : Bare col0 H3 := fun b hb => by rw [hcol0]; unfold paint; rw [if_neg (by omega)]
  have hc0 : ∀ b, b < H.next → col0 b = 0 := fun b hb => by rw [hcol0]; unfold paint; rw [if_neg (by omega)]
  have S0 : SWork (ctxW w) H3 col0 q ⟨zeroL, [], [], [], [], false⟩ :=
    ⟨_, _, _, _, _, _, _, _, _, ⟨hq.obj.same hs3, by rw [hcol0]; simp [paint], ⟨PIts.nil _ _ _, PIts.nil _ _ _, PIts.nil _ _ _, PIts.nil _ _ _, PIts.nil _ _ _⟩, WRow.nil _ _ _ _, WRow.nil _ _ _ _, WRow.nil _ _ _ _, WRow.nil _ _ _ _⟩⟩
  refine wp_loop' (fun n s => ∃ (T : Env) (Hc : AHeap) (i : Nat) (col : Nat → Nat) (y : StoryA), s = ⟨T, Hc, []⟩ ∧ n = l.length - i ∧ i ≤ l.length ∧ i ≤ 80 ∧ T.val 0 = .slice a l.length c ∧ T.val 4 = .pointer (some ⟨q, 0, none⟩) ∧ T.val 5 = .int .i64 i ∧
    Step [1, 2, 3, 4, 5] H3 col0 Hc col ∧ SWork (ctxW w) Hc col q y ∧ InvL y.x y.s0 y.s1 y.h0 y.h1 y.sp ∧ y.s0.length ≤ i ∧ y.s1.length ≤ i) (n := l.length)
    ⟨_, H3, 0, col0, _, rfl, rfl, Nat.zero_le _, Nat.zero_le _, by simp, by simp, by simp, Step.of_same (Same.refl hs03.wf') hbare0, S0, zero_inv, by simp, by simp⟩ ?_
  rintro n s K ⟨T, Hc, i, col, y, rfl, rfl, hil, hi80, t0, t4, t5, st, S, hin, hn0, hn1⟩ hnext hexit
  have done : ∀ T' : Env, T'.val 4 = .pointer (some ⟨q, 0, none⟩) → K (.exit 0) ⟨T', Hc, []⟩ := by
    intro T' t4'
    refine hexit _ _ (by simp) ?_
    simp [t4']
    refine ⟨q, col, y, rfl, ⟨hw, hs03.grow.trans st.grow, fun b hb => ?_⟩, st.bare, S, hin, by omega, by omega⟩
    rw [st.same b (by omega) (by rw [hc0 b hb]; simp), hs03.same b hb]
  by_cases hlt : i < l.length
  · have e1 : (i : Int) < l.length := by omega
    by_cases h80 : i < 80
    · have e2 : (i : Int) < 80 := by omega
      obtain ⟨b, rfl⟩ : ∃ b, a = some b := by
        cases a with
        | some b => exact ⟨b, rfl⟩
        | none =>
          obtain ⟨_, a', c', he, h0, _⟩ := hv
          cases he
          have := (h0 rfl).1
          omega
      have hl1 : loadN (ctxW w) H.get b (l.length * 3) = some (trip l) := hld b rfl (by have := trip_len l; omega)
      have hl2 := loadN_sub hl1 (i := i * 3) (m := 3) (by omega)
      rw [trip_at hlt] at hl2
      have hblt : b.block < H.next := load_lt hw hl1
      have hl3 : loadN (ctxW w) Hc.get (aadd b (i * 3)) 3 = some [u8v l[i].1, u8v l[i].2.1, u8v l[i].2.2] := by
        have hsame : Hc.get (aadd b (i * 3)).block = H.get (aadd b (i * 3)).block := by
          show Hc.get b.block = H.get b.block
          rw [st.same b.block (by omega) (by rw [hc0 _ hblt]; simp), hs03.same _ hblt]
        rw [loadN_congr (M := H.get) hsame]
        exact hl2
      simp [t0, t4, t5, e1, e2, hl3]
      have hS : InvS y := ⟨hin, by omega, by omega⟩
      obtain ⟨hf, h6⟩ := actS_fine hin.ok y.sp l[i].1 l[i].2.1 l[i].2.2
      obtain ⟨hok, hin'⟩ := hS.act hf h6
      have hcall := step_spec w st.wf' st.bare S hS.small l[i].1 l[i].2.1 l[i].2.2 hok
      simp only [byteV] at hcall
      simp only [u8v]
      refine wpCall_mono hcall ?_
      rintro _ H5 ⟨⟨col5, st5, S5⟩, rfl⟩
      simp [t5]
      have hlen := goS_len (y := y) (actS y.x.fly y.sp l[i].1 l[i].2.1 l[i].2.2) hn0 hn1
      exact hnext (l.length - (i + 1)) _ (by omega) ⟨_, H5, i + 1, col5, _, rfl, rfl, by omega, by omega, by simp [t0], by simp [t4], by simp; rw [i64_in _ (by omega)], st.trans st5, S5, hin', hlen.1, hlen.2⟩
    · have e2 : ¬ (i : Int) < 80 := by omega
      simp [t0, t5, e1, e2]
      exact done _ (by simp [t4])
  · have : i = l.length := by omega
    subst this
    simp [t0, t5, absent]
    exact done _ (by simp [t4])

end Go.Ai.Wire

namespace Go.Ai.Wire
open Go.Proofs Go.IntWalk

section
variable {H : Type} {enc : TypeId × Value → H} {P : Program} {w : World} {held : Bool}

/-- Three integers. -/
theorem trod_three {base : Nat} {spare : Nat → Bool} {t e : TypeId} {k : IntKind} {fuel : Nat} {c0 c1 c2 : Value} {x : DataW H × List MemPlace} (ht : P.underlying t = some (.array 3 e)) (he : P.underlying e = some (.int k))
    (hc : P.cellsOf e = 1) (h : DataW.trod enc P w base spare held fuel t [c0, c1, c2] = some x) : ∃ m0 m1 m2, c0 = .int k m0 ∧ c1 = .int k m1 ∧ c2 = .int k m2 ∧ (Lit.int k m0).wf = true ∧ (Lit.int k m1).wf = true ∧ (Lit.int k m2).wf = true := by
  cases fuel with
  | zero => simp [DataW.trod] at h
  | succ m =>
    rw [DataW.trod_step] at h
    unfold DataW.trodStep at h
    simp only [ht, hc] at h
    split at h
    · simp only [Option.map_eq_some_iff] at h
      obtain ⟨xs, h1, _⟩ := h
      have e2 : List.range 3 = [0, 1, 2] := rfl
      rw [e2] at h1
      simp only [List.mapM_cons, List.mapM_nil, bind, Option.bind_eq_some_iff, pure] at h1
      obtain ⟨y0, h0, y1, ⟨z0, h2, z1, ⟨z2, h3, _⟩, _⟩, _⟩ := h1
      obtain ⟨a, ea, _, wa⟩ := DataW.trod_int he (cs := [c0]) h0
      obtain ⟨b, eb, _, wb⟩ := DataW.trod_int he (cs := [c1]) h2
      obtain ⟨c, ec, _, wc⟩ := DataW.trod_int he (cs := [c2]) h3
      cases ea
      cases eb
      cases ec
      exact ⟨a, b, c, rfl, rfl, rfl, wa, wb, wc⟩
    · cases h

theorem u8_of {n : Int} (h : (Lit.int .u8 n).wf = true) : ∃ y : UInt8, Value.int .u8 n = u8v y := by
  have h : IntKind.u8.min ≤ n ∧ n ≤ IntKind.u8.max := by simpa [Lit.wf] using h
  have : 0 ≤ n ∧ n ≤ 255 := h
  refine ⟨UInt8.ofNat n.toNat, ?_⟩
  unfold u8v
  rw [UInt8.toNat_ofNat_of_lt' (by show n.toNat < 256; omega)]
  congr 1
  omega

theorem list3 {α : Type} {l : List α} (h : l.length = 3) : ∃ x y z, l = [x, y, z] := by
  match l, h with
  | [x, y, z], _ => exact ⟨x, y, z, rfl⟩

theorem trip_snoc (l : List (UInt8 × UInt8 × UInt8)) (b : UInt8 × UInt8 × UInt8) : trip (l ++ [b]) = trip l ++ [u8v b.1, u8v b.2.1, u8v b.2.2] := by
  unfold trip
  rw [List.flatMap_append]
  simp

theorem open_trips {C : Ctx} (hC : C.w0 = w) {t ta e : TypeId} (ht : P.underlying t = some (.slice ta)) (ha : P.underlying ta = some (.array 3 e)) (he : P.underlying e = some (.int .u8)) (hca : P.cellsOf ta = 3) (hce : P.cellsOf e = 1) {fuel : Nat} {v : Value} {x : DataW H × List MemPlace}
    (h : DataW.trod enc P w 0 (fun _ => true) held fuel t [v] = some x) : ∃ l : List (UInt8 × UInt8 × UInt8), cleanS w.heap.size v = true ∧ Row C (rawHeap w) v 3 l.length (trip l) := by
  rcases DataW.trod_slice ht h with ⟨hcs, _⟩ | ⟨a, len, cap, elems, rest, n, _, hcs, _, _, hl, _, hlen, hel, hsp, _⟩
  · simp at hcs
    subst hcs
    exact ⟨[], by simp [cleanS], rfl, none, 0, rfl, by simp, by simp⟩
  · simp at hcs
    subst hcs
    by_cases h0 : cap = 0
    · subst h0
      have : len = 0 := by omega
      subst this
      exact ⟨[], by simp [cleanS], rfl, some a, 0, rfl, by simp, fun b hb hm => absurd rfl hm⟩
    · rw [hca] at hel hsp
      obtain ⟨hrl, hr⟩ := hsp rfl
      have each : ∀ i, i < cap → ∃ y, (w.cells? 0 (a.add (i * 3)) 3).bind (DataW.trod enc P w 0 (fun _ => true) held n ta) = some y := by
        intro i hi
        by_cases hil : i < len
        · exact ⟨elems[i], by rw [hel i hil, List.getElem?_eq_getElem (by omega)]⟩
        · have := hr (i - len) (by omega)
          rw [show len + (i - len) = i by omega] at this
          exact ⟨rest[i - len], by rw [this, List.getElem?_eq_getElem (by omega)]⟩
      have three : ∀ i, i < cap → ∃ y0 y1 y2 : UInt8, w.cell? (a.add (i * 3)) = some (u8v y0) ∧ w.cell? (a.add (i * 3 + 1)) = some (u8v y1) ∧ w.cell? (a.add (i * 3 + 2)) = some (u8v y2) := by
        intro i hi
        obtain ⟨y, hy⟩ := each i hi
        rw [Option.bind_eq_some_iff] at hy
        obtain ⟨cs, hcs, hy⟩ := hy
        obtain ⟨_, h2, h3⟩ := World.cells?_some hcs
        obtain ⟨z0, z1, z2, rfl⟩ := list3 h2
        obtain ⟨m0, m1, m2, rfl, rfl, rfl, w0, w1, w2⟩ := trod_three ha he hce hy
        obtain ⟨u0, e0⟩ := u8_of w0
        obtain ⟨u1, e1⟩ := u8_of w1
        obtain ⟨u2, e2⟩ := u8_of w2
        have c0 := h3 0 (by omega)
        have c1 := h3 1 (by omega)
        have c2 := h3 2 (by omega)
        rw [add_add'] at c0 c1 c2
        exact ⟨u0, u1, u2, by rw [← e0]; simpa using c0, by rw [← e1]; simpa using c1, by rw [← e2]; simpa using c2⟩
      obtain ⟨_, _, _, hc0, _⟩ := three 0 (by omega)
      rw [show a.add (0 * 3) = a from by simp [Addr.add]] at hc0
      obtain ⟨cs, ty, fz, hh, hspot, _⟩ := cell_inv hc0
      obtain ⟨b, off, sp⟩ := a
      simp at hspot hh
      subst hspot
      have hblt := (Array.getElem?_eq_some_iff.1 hh).1
      have hat : ∀ i, i < cap → ∃ y0 y1 y2 : UInt8, cs[off + i * 3]? = some (u8v y0) ∧ cs[off + (i * 3 + 1)]? = some (u8v y1) ∧ cs[off + (i * 3 + 2)]? = some (u8v y2) := by
        intro i hi
        obtain ⟨y0, y1, y2, k1, k2, k3⟩ := three i hi
        rw [addr_add] at k1 k2 k3
        exact ⟨y0, y1, y2, by simpa [World.cell?, hh] using k1, by simpa [World.cell?, hh] using k2, by simpa [World.cell?, hh] using k3⟩
      have hsz : off + cap * 3 ≤ cs.size := by
        obtain ⟨_, _, _, _, _, k2⟩ := hat (cap - 1) (by omega)
        have := (Array.getElem?_eq_some_iff.1 k2).1
        omega
      have build : ∀ k, k ≤ len → ∃ l : List (UInt8 × UInt8 × UInt8), l.length = k ∧ trip l = ((cs.toList.drop off).take (k * 3)).map (scrub w.heap.size) := by
        intro k
        induction k with
        | zero => intro _; exact ⟨[], rfl, by simp [trip]⟩
        | succ k ih =>
          intro hk
          obtain ⟨l, k1, k3⟩ := ih (by omega)
          obtain ⟨y0, y1, y2, j1, j2, j3⟩ := hat k (by omega)
          refine ⟨l ++ [(y0, y1, y2)], by simp [k1], ?_⟩
          have e1 : (cs.toList.drop off)[k * 3]? = some (u8v y0) := by rw [List.getElem?_drop, Array.getElem?_toList, j1]
          have e2 : (cs.toList.drop off)[k * 3 + 1]? = some (u8v y1) := by rw [List.getElem?_drop, Array.getElem?_toList, j2]
          have e3 : (cs.toList.drop off)[k * 3 + 1 + 1]? = some (u8v y2) := by rw [List.getElem?_drop, Array.getElem?_toList, show off + (k * 3 + 1 + 1) = off + (k * 3 + 2) by omega, j3]
          rw [trip_snoc, show (k + 1) * 3 = k * 3 + 1 + 1 + 1 from by omega, List.take_add_one, List.take_add_one, List.take_add_one, e1, e2, e3, k3]
          simp [u8v, scrub_clean (cleanS_int _ .u8 _)]
      obtain ⟨l, k1, k3⟩ := build len (Nat.le_refl _)
      subst k1
      refine ⟨l, by simp [cleanS, hblt], trip_len l, some ⟨b, off, none⟩, cap, rfl, by simp, fun b' hb' _ => ?_⟩
      cases hb'
      rw [raw_load hC hh (by omega), k3]
end
end Go.Ai.Wire
