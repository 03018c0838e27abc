/-
  A packet comes to its end.
  Maps; which fields an act has; numbers that are zero.
  Which acts are fine.
-/
import Derived.Test.YtlikgpehalhgkaaGreatPWM
namespace Go.Ai
section
variable {C : Ctx} {H : AHeap} {T : Env} {d : Option Nat} {K : Env → AHeap → Prop} {rd : List (Nat × IOper × List Nat)} {log : List Info} {ix : Nat} {un : List Nat}

/-- Nothing is appended. -/
theorem d_appZ {esz bytes n g : Nat} {s x : IOpd} {cs : List Value} (hs : NG H (s.val T.val) g esz n cs) (hx : Row C H (x.val T.val) esz 0 []) (hf : ∀ rd', freeAll C log (.exp rd' []) un = true)
    (hk : ∀ rd', wpD C rd (.exp rd' [] :: log) K (putDst T d (s.val T.val)) H) : wpD C ((ix, ⟨d, .append esz bytes s x, none⟩, un) :: rd) log K T H := by
  rw [wpD_append]
  obtain ⟨rd0, h1, h2, _⟩ := hx.src
  have hap : appendA C H.get esz bytes (s.val T.val) 0 [] rd0 H.next = some { v := s.val T.val, rd := rd0 } := by
    rcases hs with ⟨he, rfl, _⟩ | hb
    · rw [he]
      simp [appendA]
    · obtain ⟨a, c, he, hnc, _⟩ := hb.load (C := C)
      rw [he]
      unfold appendA
      rw [if_pos ⟨by simp, by simp⟩]
      dsimp only
      rw [if_pos (by omega), if_pos rfl]
  have : evalOp C H.get T.val H.next (.append esz bytes s x) = some { v := s.val T.val, rd := rd0 } := by
    simp only [evalOp, h2, h1]
    exact hap
  rw [this]
  simp only [bindO_some, opKD_eq]
  have e : AOut.mods { v := s.val T.val, rd := rd0 } H.next = [] := rfl
  rw [e, hf]
  exact hk rd0

theorem d_appV {esz bytes g n m : Nat} {s x : IOpd} {cs xs : List Value} (hw : WF H) (hb : NG H (s.val T.val) g esz n cs) (he : 1 ≤ esz) (hx : Row C H (x.val T.val) esz m xs) (hm : m ≠ 0) (hs : xs.all scalar = true) (hr : roomy (n + m) bytes = true)
    (hf : ∀ rd' md, (∀ x ∈ md, (s.val T.val ≠ .slice none 0 0 ∧ x = g) ∨ x = H.next) → freeAll C log (.exp rd' md) un = true)
    (hk : ∀ v H' rd' md g', GrownG H H' (s.val T.val) g g' → BufG H' v g' esz (n + m) (cs ++ xs) → wpD C rd (.exp rd' md :: log) K (putDst T d v) H') : wpD C ((ix, ⟨d, .append esz bytes s x, none⟩, un) :: rd) log K T H := by
  rcases hb with ⟨h0, rfl, rfl⟩ | hb
  · rw [wpD_append]
    obtain ⟨rd0, h1, h2, _⟩ := hx.src
    have : evalOp C H.get T.val H.next (.append esz bytes s x) = some ⟨.slice (some ⟨H.next, 0, none⟩) m m, none, some (.cells [⟨esz, xs⟩]), rd0⟩ := by
      simp only [evalOp, h2, h1, h0]
      unfold appendA
      rw [if_pos ⟨hx.1, hs⟩]
      simp at hr
      simp [hm, hr]
    rw [this]
    simp only [bindO_some, opKD_eq]
    rw [hf _ _ (by intro x hx; simp [AOut.mods] at hx; exact .inr hx)]
    refine hk _ _ _ _ H.next (.inl ⟨h0, rfl, Same.push hw _⟩) ?_
    have := (Buf.push H (e := esz) (.inr rfl) hx.1 hs).g
    simpa using this
  · exact d_appG hw hb he hx hs hr (fun rd' md hmd => hf rd' md fun x hx => .inl ⟨hb.nn, hmd x hx⟩) fun v H' rd' md hm' hb' _ => hk v H' rd' md _ (.inr ⟨hb.nn, rfl, hb.lt hw, hm'⟩) hb'
end
end Go.Ai
namespace Go.Ai.Wire
open Go.Proofs Go.IntWalk
attribute [local irreducible] Trie.put

def endW (y : LineW) (t : Nat) : EndA := if t = 0 then y.x.a else y.x.b
def heardW (y : LineW) (t : Nat) : List (List UInt8) := if t = 0 then y.h0 else y.h1
def setE (y : LineW) (t : Nat) (e : EndA) : LineW := if t = 0 then ⟨⟨e, y.x.b, y.x.fly⟩, y.h0, y.h1⟩ else ⟨⟨y.x.a, e, y.x.fly⟩, y.h0, y.h1⟩
def hearW (y : LineW) (t : Nat) (l : List (List UInt8)) : LineW := if t = 0 then ⟨y.x, y.h0 ++ l, y.h1⟩ else ⟨y.x, y.h0, y.h1 ++ l⟩

/-- A line behind a packet that came. -/
def arriveW (y : LineW) (t : Nat) (d : List UInt8) : LineW :=
  if (takeF (endW y t) d).2.2 = [] then hearW (setE y t (takeF (endW y t) d).1) t (takeF (endW y t) d).2.1
  else putW (hearW (setE y t (takeF (endW y t) d).1) t (takeF (endW y t) d).2.1) (1 - t) (takeF (endW y t) d).2.2

section
variable {C : Ctx} {H H' : AHeap} {col col' : Nat → Nat} {A : List Nat}

theorem WL.at {q qa qb : Nat} {fv s0 s1 : Value} {y : LineW} (W : WL C H col q qa qb fv s0 s1 y) {t : Nat} (ht : t ≤ 1) :
    loadN C H.get ⟨q, t, none⟩ 1 = some [.pointer (some ⟨if t = 0 then qa else qb, 0, none⟩)] ∧ WEnd C H col (1 + 3 * t) (if t = 0 then qa else qb) (endW y t) ∧
      loadN C H.get ⟨q, 3 + t, none⟩ 1 = some [if t = 0 then s0 else s1] ∧ WRow C H col (10 + t) (if t = 0 then s0 else s1) (heardW y t) := by
  have ld := fun off n => Obj1.load (C := C) (off := off) (n := n) W.obj
  rcases (by omega : t = 0 ∨ t = 1) with rfl | rfl
  · exact ⟨by simp [ld], by simpa [endW] using W.ea, by simp [ld], by simpa [heardW] using W.r0⟩
  · exact ⟨by simp [ld], by simpa [endW] using W.eb, by simp [ld], by simpa [heardW] using W.r1⟩

/-- Another end. -/
theorem WL.setE {q qa qb : Nat} {fv s0 s1 : Value} {y : LineW} {t : Nat} (ht : t ≤ 1) (W : WL C H col q qa qb fv s0 s1 y) (st : Step [1 + 3 * t, 1 + 3 * t + 1, 1 + 3 * t + 2] H col H' col') {e : EndA} (he : WEnd C H' col' (1 + 3 * t) (if t = 0 then qa else qb) e) : WL C H' col' q qa qb fv s0 s1 (setE y t e) := by
  rcases (by omega : t = 0 ∨ t = 1) with rfl | rfl
  · exact ⟨Obj1.step st W.obj (by rw [W.c7]; simp), by rw [st.keep q (W.obj.lt st.wf)]; exact W.c7, by simpa [Wire.setE] using he, W.eb.step st (by simp) (by simp), W.fl.step st (by simp) (by simp), W.r0.step st (by simp) (by simp), W.r1.step st (by simp) (by simp)⟩
  · exact ⟨Obj1.step st W.obj (by rw [W.c7]; simp), by rw [st.keep q (W.obj.lt st.wf)]; exact W.c7, W.ea.step st (by simp) (by simp), by simpa [Wire.setE] using he, W.fl.step st (by simp) (by simp), W.r0.step st (by simp) (by simp), W.r1.step st (by simp) (by simp)⟩

theorem WRow.app {H5 H6 : AHeap} {col5 : Nat → Nat} {k g g' : Nat} {v v' : Value} {l fr : List (List UInt8)} {cs xs : List Value} (hw : WF H5) (hbare : Bare col5 H5) (k0 : k ≠ 0) (k2 : v ≠ .slice none 0 0 → col5 g = k) (k3 : FrC C H5 l cs) (k4 : Plain col5 cs) (hf : FrC C H5 fr xs) (hp : Plain col5 xs)
    (hg : GrownG H5 H6 v g g') (hb : BufG H6 v' g' 1 (l.length + fr.length) (cs ++ xs)) : ∃ col6, Step [k] H5 col5 H6 col6 ∧ WRow C H6 col6 k v' (l ++ fr) := by
  have k3' := k3.app hf
  have k4' := k4.app hp
  have e : (l ++ fr).length = l.length + fr.length := List.length_append
  rcases hg with ⟨hvn, rfl, hs⟩ | ⟨hvn, rfl, hlt, hm⟩
  · have hgl := hb.lt hs.wf'
    have st : Step [] H5 col5 H6 (paint col5 H5.next k) := Step.of_made hs hbare (Nat.le_refl _) hgl
    exact ⟨_, st.more (by simp), H5.next, _, .inr (by rw [e]; exact hb), fun _ => by simp [paint], k3'.step st (by simp) k4', k3'.keep st k4'⟩
  · have st : Step [k] H5 col5 H6 col5 := Step.of_mod hm hbare (by rw [k2 hvn]; simp)
    exact ⟨col5, st, g', _, .inr (by rw [e]; exact hb), fun _ => k2 hvn, k3'.step st (by simp; omega) k4', k4'⟩
end

theorem takeF_reply (x : EndA) (bs : List UInt8) : (takeF x bs).2.2.length ≤ 8 := by
  unfold takeF
  cases readB bs with
  | none => simp
  | some y =>
    obtain ⟨n, g, d⟩ := y
    dsimp only
    split
    · simp
    · split
      · simp
      · split
        · dsimp only; rw [enc_len]; simp
        · split
          · dsimp only; rw [enc_len]; simp
          · dsimp only; rw [enc_len]; simp

set_option maxHeartbeats 1000000 in
theorem come_spec (w : World) {H : AHeap} (hw : WF H) {col : Nat → Nat} (hbare : Bare col H) {q : Nat} {y : LineW} (hy : WLine (ctxW w) H col q y) {i : Nat} (hi : i < y.x.fly.length) (hsm : y.x.fly.length ≤ 1000) {t : Nat} (ht : t ≤ 1) (hto : y.x.fly[i].1 = t) (hbl : y.x.fly[i].2.length ≤ 500)
    (hok : EndOK (endW y t)) (hel : (endW y t).early.length ≤ 1000) (hhl : (heardW y t).length ≤ 100000) :
    wpCall (ctxW w) (.func (.func 53) #[] #[]) [.pointer (some ⟨q, 0, none⟩), .int .i64 i] H fun _ H' => ∃ col', Step [1, 2, 3, 4, 5, 6, 7, 8, 10, 11] H col H' col' ∧ WLine (ctxW w) H' col' q (arriveW (awayW y i) t y.x.fly[i].2) := by
  refine wpCall_fn rfl (get53 w) ?_
  simp [ir53]
  refine wpCall_mono (away_spec w hw hbare hy hi hsm) ?_
  rintro r1 H1 ⟨st1, ⟨qa, qb, fv, s0, s1, W1⟩, bv, gb, rfl, hbuf1⟩
  obtain ⟨ba, rfl, _, _⟩ := hbuf1.load (C := ctxW w)
  simp
  refine w_mk st1.wf' fun p4 H2 hp4 => ?_
  refine w_store (p := p4) (off := 0) (xs := [.int .i64 y.x.fly[i].1, .slice (some ba) y.x.fly[i].2.length y.x.fly[i].2.length]) hp4.same.wf' hp4.obj (by simp) (by simp [itV]) rfl (by simp) (by simp) (by simp) fun H3 hm3 hn3 ho3 => ?_
  have n2 := hp4.new
  have n2' := hp4.next
  have hs13 : Same H1 H3 := hp4.same.then_mod hm3 (by omega)
  have st3 : Step [] H1 col H3 col := Step.of_same hs13 st1.bare
  have W3 := W1.step st3 (by simp)
  have hbuf3 : Buf H3 (.slice (some ba) y.x.fly[i].2.length y.x.fly[i].2.length) gb 1 y.x.fly[i].2.length (y.x.fly[i].2.map u8v) := (hbuf1.same hp4.same).mod hm3 (by have := hbuf1.lt st1.wf'; omega)
  obtain ⟨l1, we, l2, wr⟩ := W3.at ht
  have ldp4 := fun off n => Obj1.load (C := ctxW w) (off := off) (n := n) ho3
  have ht2 : (t : Int) < 2 := by omega
  simp [ldp4, hto, l1, ht2]
  have he1 : endW (awayW y i) t = endW y t := rfl
  have hh1 : heardW (awayW y i) t = heardW y t := rfl
  rw [he1] at we
  rw [hh1] at wr
  refine wpCall_mono (take_spec w st3.wf' st3.bare (k := 1 + 3 * t) (by omega) we hok hel (Buf.bsS hbuf3) hbl) ?_
  rintro r4 H4 ⟨col4, frv, rpv, rfl, st4, we4, wf4, wr4, hrp4⟩
  obtain ⟨fa, fc, rfl⟩ := wf4.val
  obtain ⟨ra, rc, rfl⟩ := wr4.val
  have hno : ∀ c ∈ [1 + 3 * t, 1 + 3 * t + 1, 1 + 3 * t + 2], 0 < c ∧ c < 7 := by
    intro c hc
    simp only [List.mem_cons, List.not_mem_nil, or_false] at hc
    omega
  have hp4c : col p4 = 0 := st1.bare p4 (by omega)
  have no0 : (0 : Nat) ∉ [1 + 3 * t, 1 + 3 * t + 1, 1 + 3 * t + 2] := fun h => by have := hno 0 h; omega
  have hp44 := Obj1.step st4 ho3 (by rw [hp4c]; exact no0)
  have W4 := W3.setE ht st4 we4
  have hwr4 := wr.step st4 no0 (fun h => by have := hno _ h; omega)
  have ldp44 := fun off n => Obj1.load (C := ctxW w) (off := off) (n := n) hp44
  obtain ⟨_, _, l24, _⟩ := W4.at ht
  obtain ⟨sv, hsv⟩ : ∃ sv, sv = if t = 0 then s0 else s1 := ⟨_, rfl⟩
  rw [← hsv] at l24 hwr4
  obtain ⟨sa, sc, rfl⟩ := hwr4.val
  simp [ldp44, hto, l24, ht2]
  obtain ⟨TK, hTK⟩ : ∃ TK, TK = takeF (endW y t) y.x.fly[i].2 := ⟨_, rfl⟩
  rw [← hTK] at we4 wf4 wr4 hrp4 W4 ⊢
  have hq4 := W4.obj.lt st4.wf'
  -- what follows the append
  have fin : ∀ (T : Env) (H5 : AHeap) (col5 : Nat → Nat) (sv : Value), T.val 0 = .pointer (some ⟨q, 0, none⟩) → T.val 4 = .pointer (some ⟨p4, 0, none⟩) → T.val 6 = .slice ra TK.2.2.length rc → Step [7, 10 + t] H4 col4 H5 col5 →
      Obj1 H5 q ([.pointer (some ⟨qa, 0, none⟩), .pointer (some ⟨qb, 0, none⟩), fv, if t = 0 then sv else s0, if t = 0 then s1 else sv]) → WRow (ctxW w) H5 col5 (10 + t) sv (heardW y t ++ TK.2.1) →
      wpC (ctxW w) none (.seq (.region [⟨some 38, .mv (.t 6), none⟩, ⟨some 39, .len (.t 38), none⟩, ⟨some 40, .bin .num .gtr (.t 39) (.c (.int .i64 0)), none⟩]) (.cond (.t 40) (.region [⟨some 41, .mv (.t 0), none⟩, ⟨some 42, .faddr 0 (.t 4), none⟩, ⟨some 43, .load1 (.t 42), none⟩, ⟨some 44, .bin .num .sub (.c (.int .i64 1)) (.t 43), none⟩,
        ⟨some 45, .mv (.t 6), none⟩, ⟨some 46, .buildSlice 1 [.slice none 0 0] [(0, 1, .t 45)], none⟩, ⟨some 47, .call (.c (.func (.func 84) #[] #[])) [.t 41, .t 44, .t 46], none⟩]) .skip))
        (finK (ctxW w) [] fun _ H' => ∃ col', Step [1, 2, 3, 4, 5, 6, 7, 8, 10, 11] H col H' col' ∧ WLine (ctxW w) H' col' q (arriveW (awayW y i) t y.x.fly[i].2)) ⟨T, H5, []⟩ := by
    intro T H5 col5 sv t0 t4 t6 st5 hq5 hr5
    have st05 : Step [1, 2, 3, 4, 5, 6, 7, 8, 10, 11] H col H5 col5 := by
      refine (((st1.more (by simp)).trans (st3.more (by simp))).trans (st4.more fun c hc => ?_)).trans (st5.more fun c hc => ?_)
      · have := hno c hc
        simp only [List.mem_cons, List.not_mem_nil, or_false]
        omega
      · simp only [List.mem_cons, List.not_mem_nil, or_false] at hc ⊢
        omega
    have W5 : WLine (ctxW w) H5 col5 q (hearW (setE (awayW y i) t TK.1) t TK.2.1) := by
      have hcq : col5 q = 7 := by rw [st5.keep q hq4]; exact W4.c7
      have na : ∀ c, c < 7 ∨ c = 8 ∨ c = 9 → c ∉ [7, 10 + t] := by
        intro c hc h
        simp only [List.mem_cons, List.not_mem_nil, or_false] at h
        omega
      have ea := W4.ea.step st5 (na 0 (by omega)) ⟨na _ (by omega), na _ (by omega), na _ (by omega)⟩
      have eb := W4.eb.step st5 (na 0 (by omega)) ⟨na _ (by omega), na _ (by omega), na _ (by omega)⟩
      have fl := W4.fl.step st5 (na 8 (by omega)) (na 9 (by omega))
      rcases (by omega : t = 0 ∨ t = 1) with rfl | rfl
      · exact ⟨qa, qb, fv, sv, s1, ⟨by simpa using hq5, hcq, by simpa [setE, hearW] using ea, by simpa [setE, hearW] using eb, by simpa [setE, hearW] using fl, by simpa [setE, hearW, heardW, awayW] using hr5, W4.r1.step st5 (by simp) (by simp)⟩⟩
      · exact ⟨qa, qb, fv, s0, sv, ⟨by simpa using hq5, hcq, by simpa [setE, hearW] using ea, by simpa [setE, hearW] using eb, by simpa [setE, hearW] using fl, W4.r0.step st5 (by simp) (by simp), by simpa [setE, hearW, heardW, awayW] using hr5⟩⟩
    have hcp5 : col4 p4 = 0 := by rw [st4.keep p4 (by omega)]; exact hp4c
    have hp45 := Obj1.step st5 hp44 (by rw [hcp5]; simp; omega)
    have ldp5 := fun off n => Obj1.load (C := ctxW w) (off := off) (n := n) hp45
    have hr5' : Bs (ctxW w) H5 (.slice ra TK.2.2.length rc) TK.2.2 := Bs.step st5 (by simp; omega) wr4 hrp4
    have hrl : TK.2.2.length ≤ 8 := by rw [hTK]; exact takeF_reply _ _
    by_cases hrn : TK.2.2 = []
    · have e : arriveW (awayW y i) t y.x.fly[i].2 = hearW (setE (awayW y i) t TK.1) t TK.2.1 := by
        unfold arriveW
        rw [he1, ← hTK, if_pos hrn]
      have hl0 : TK.2.2.length = 0 := by rw [hrn]; rfl
      simp [t6, hl0, e]
      exact ⟨col5, st05, W5⟩
    · have e : arriveW (awayW y i) t y.x.fly[i].2 = putW (hearW (setE (awayW y i) t TK.1) t TK.2.1) (1 - t) TK.2.2 := by
        unfold arriveW
        rw [he1, ← hTK, if_neg hrn]
      have hl0 : 0 < TK.2.2.length := List.length_pos_iff.2 hrn
      have hl1 : (0 : Int) < TK.2.2.length := by omega
      have w1 : IntKind.i64.wrap (1 - (t : Int)) = 1 - t := i64_in _ (by omega)
      simp [t0, t4, t6, hl0, e, ldp5, hto, w1]
      refine w_bs (esz := 1) (cs := [.slice ra TK.2.2.length rc]) st05.wf' (by simp) (by simp) (by simp) fun q6 H6 hq6 hb6 => ?_
      have st6 : Step [] H5 col5 H6 col5 := Step.of_same hq6.same st05.bare
      obtain ⟨qa', qb', fv', s0', s1', W5⟩ := W5
      simp
      refine wpCall_mono (put_spec w st6.wf' st6.bare ⟨_, _, _, _, _, W5.step st6 (by simp)⟩ (to := 1 - t) (pv := .slice (some ⟨q6, 0, none⟩) 1 1) (by simpa using hb6.row (C := ctxW w)) (hr5'.same hq6.same) (by omega) hrn) ?_
      rintro r7 H7 ⟨col7, st7, W7⟩
      simp
      exact ⟨col7, (st05.trans (st6.more (by simp))).trans (st7.more (by simp)), W7⟩
  have hgr : (takeF (endW y t) y.x.fly[i].2).2.1.length ≤ 1001 := by have := takeF_size (endW y t) y.x.fly[i].2; omega
  rw [← hTK] at hgr
  obtain ⟨g, cs, k1, k2, k3, k4⟩ := hwr4
  obtain ⟨xs, f1, f2, f3, f4⟩ := wf4
  have hqo := W4.obj
  by_cases hf0 : TK.2.1 = []
  · have hl0 : TK.2.1.length = 0 := by rw [hf0]; rfl
    have hxs : xs = [] := List.length_eq_zero_iff.1 (by rw [f1.len]; exact hl0)
    subst hxs
    refine d_appZ (g := g) (n := (heardW y t).length) (cs := cs) (by simpa using k1) (by rw [hl0] at f2; simpa [hl0] using f2) (fun rd' => by simp) fun rd' => ?_
    simp [ht2]
    refine d_store (p := q) (off := 3 + t) (xs := [.slice sa (heardW y t).length sc]) st4.wf' rfl hqo (by simp) (by simp) rfl (by simp) (by simp; omega) (by simp) fun H7 hm7 hn7 ho7 => ?_
    rw [wpD_nil]
    simp only [regK, seqK_normal]
    have st7 : Step [7] H4 col4 H7 col4 := Step.of_mod hm7 st4.bare (by rw [W4.c7]; simp)
    refine fin _ H7 col4 (.slice sa (heardW y t).length sc) (by simp) (by simp) (by simp) (st7.more (by simp)) ?_ ?_
    · rcases (by omega : t = 0 ∨ t = 1) with rfl | rfl
      · simpa using ho7
      · simpa using ho7
    · rw [hf0, List.append_nil]
      exact WRow.step st7 (by simp) (by simp; omega) ⟨g, cs, k1, k2, k3, k4⟩
  · have hl0 : TK.2.1.length ≠ 0 := fun h => hf0 (List.length_eq_zero_iff.1 h)
    refine d_appV (g := g) (n := (heardW y t).length) (m := TK.2.1.length) (cs := cs) (xs := xs) st4.wf' (by simpa using k1) (by omega) (by simpa using f2) hl0 f1.scal (by simp [roomy]; omega) (fun rd' md hmd => by
      have hf := free_rd_mod (C := ctxW w) (ri := rd') (mi := md) (x := p4) fun y hy => by
        rcases hmd y hy with ⟨hn, rfl⟩ | rfl
        · rintro rfl
          have := k2 (by simpa using hn)
          rw [st4.keep y (by omega), hp4c] at this
          omega
        · have := st4.grow.next; omega
      simp [hf]) fun v6 H6 rd6 md6 g6 hg6 hb6 => ?_
    simp at hg6
    obtain ⟨col6, st6, w6⟩ := WRow.app (k := 10 + t) st4.wf' st4.bare (by omega) k2 k3 k4 f1 f3 hg6 hb6
    obtain ⟨a6, c6, rfl⟩ := w6.val
    have hq6 := Obj1.step st6 hqo (by rw [W4.c7]; simp; omega)
    have hcq6 : col6 q = 7 := by rw [st6.keep q hq4]; exact W4.c7
    simp [ht2]
    refine d_store (p := q) (off := 3 + t) (xs := [.slice a6 (heardW y t ++ TK.2.1).length c6]) st6.wf' rfl hq6 (by simp) (by simp) rfl (by simp) (by simp; omega) (by simp) fun H7 hm7 hn7 ho7 => ?_
    have st7 : Step [7] H6 col6 H7 col6 := Step.of_mod hm7 st6.bare (by rw [hcq6]; simp)
    rw [wpD_nil]
    simp only [regK, seqK_normal]
    refine fin _ H7 col6 (.slice a6 (heardW y t ++ TK.2.1).length c6) (by simp) (by simp) (by simp) ((st6.more (by simp)).trans (st7.more (by simp))) ?_ (w6.step st7 (by simp) (by simp; omega))
    rcases (by omega : t = 0 ∨ t = 1) with rfl | rfl
    · simpa using ho7
    · simpa using ho7
end Go.Ai.Wire

namespace Go.Ai
section
variable {C : Ctx} {H : AHeap} {T : Env} {d : Option Nat} {r : List IOper} {K : Env → AHeap → Prop} {rd : List (Nat × IOper × List Nat)} {log : List Info} {ix : Nat} {un : List Nat}

theorem w_mkmap (hw : WF H) (hk : ∀ p H', Same H H' → p = H.next → H'.next = p + 1 → H'.get p = some (.map []) → wpO C r K (putDst T d (.map (some p))) H') : wpO C (⟨d, .mkmap, none⟩ :: r) K T H := by
  rw [wpO_mkmap]
  exact hk _ _ (Same.push hw _) rfl rfl (get_push_same H _)

theorem w_insert {m k x : IOpd} {p : Nat} {es : List (Value × Value)} (hw : WF H) (hm : m.val T.val = .map (some p)) (hg : H.get p = some (.map es)) (hk1 : isKey (k.val T.val) = true) (hf : findA (k.val T.val) es 0 = some none)
    (hk : ∀ H', Mod p H H' → H'.next = H.next → H'.get p = some (.map (es ++ [(k.val T.val, x.val T.val)])) → wpO C r K (putDst T d undef) H') : wpO C (⟨d, .insert m k x, none⟩ :: r) K T H := by
  rw [wpO_insert]
  have : evalOp C H.get T.val H.next (.insert m k x) = some { v := undef, put := some (p, .map (es ++ [(k.val T.val, x.val T.val)])), rd := [p] } := by
    simp only [evalOp, hm, hg, hk1, hf, if_true]
  rw [this]
  exact hk _ (Mod.put' hw _ hg (by simp)) rfl (get_put_same _ (base_le_of hg (by simp)))

/-- What a map's look-up gives. -/
def lookV (ok : Bool) (z : Value) : Option (Nat × Value) → Value
  | some (_, v) => if ok then .tuple #[v, .bool true] else v
  | none => if ok then .tuple #[z, .bool false] else z

theorem d_lookup {z : Value} {ok : Bool} {m k : IOpd} {p : Nat} {es : List (Value × Value)} {f : Option (Nat × Value)} {kv : Value} (hm : m.val T.val = .map (some p)) (hg : H.get p = some (.map es)) (hkv : k.val T.val = kv) (hk1 : isKey kv = true) (hf : findA kv es 0 = some f) (hfr : freeAll C log (.exp [p] []) un = true)
    (hk : wpD C rd (.exp [p] [] :: log) K (putDst T d (lookV ok z f)) H) : wpD C ((ix, ⟨d, .lookup z ok m k, none⟩, un) :: rd) log K T H := by
  rw [wpD_lookup]
  have : evalOp C H.get T.val H.next (.lookup z ok m k) = some { v := lookV ok z f, rd := [p] } := by
    simp only [evalOp, hm, hg, hkv, hk1, hf, if_true]
    cases f with
    | none => rfl
    | some y => rfl
  rw [this]
  simp only [bindO_some, opKD_eq, AOut.mods, List.append_nil]
  rw [hfr]
  exact hk
end
end Go.Ai
namespace Go.Ai.Wire
open Go.Proofs Go.IntWalk
attribute [local irreducible] Trie.put

def needV (a b c d : Bool) : Value := .agg #[.bool a, .bool b, .bool c, .bool d]
def kindV (k : Int) : Value := .int .u8 k
def fieldsL : List (Value × Value) := [(kindV 1, needV true false false true), (kindV 2, needV true false false false), (kindV 3, needV false true false false), (kindV 4, needV false true false false), (kindV 5, needV false true false false), (kindV 6, needV false true true false)]
def doesL : List (Value × Value) := [(kindV 1, .func (.func 76) #[] #[]), (kindV 2, .func (.func 77) #[] #[]), (kindV 3, .func (.func 78) #[] #[]), (kindV 4, .func (.func 79) #[] #[]), (kindV 5, .func (.func 80) #[] #[]), (kindV 6, .func (.func 81) #[] #[])]

theorem findA_cons_ne {k j : Int} {x : Value} {es : List (Value × Value)} {i : Nat} (h : k ≠ j) : findA (.int .u8 k) ((.int .u8 j, x) :: es) i = findA (.int .u8 k) es (i + 1) := by
  have : (k == j) = false := by simpa using h
  rw [findA]
  simp only [keyEq, if_true, this]
def MapNew (H : AHeap) (es : List (Value × Value)) (r : Value) (H' : AHeap) : Prop := Same H H' ∧ ∃ p, r = .map (some p) ∧ H.next ≤ p ∧ H'.get p = some (.map es)

theorem fields_spec (w : World) {H : AHeap} (hw : WF H) : wpCall (ctxW w) (.func (.func 74) #[] #[]) [] H (MapNew H fieldsL) := by
  refine wpCall_fn rfl (get74 w) ?_
  simp [ir74]
  refine w_mkmap hw fun p H1 hs1 hp n1 g1 => ?_
  simp
  refine w_insert hs1.wf' (by simp) g1 rfl rfl fun H2 hm2 n2 g2 => ?_
  simp
  refine w_insert hm2.wf' (by simp) g2 rfl rfl fun H3 hm3 n3 g3 => ?_
  simp
  refine w_insert hm3.wf' (by simp) g3 rfl rfl fun H4 hm4 n4 g4 => ?_
  simp
  refine w_insert hm4.wf' (by simp) g4 rfl rfl fun H5 hm5 n5 g5 => ?_
  simp
  refine w_insert hm5.wf' (by simp) g5 rfl rfl fun H6 hm6 n6 g6 => ?_
  simp
  refine w_insert hm6.wf' (by simp) g6 rfl rfl fun H7 hm7 n7 g7 => ?_
  simp
  refine ⟨(((((hs1.then_mod hm2 (by omega)).then_mod hm3 (by omega)).then_mod hm4 (by omega)).then_mod hm5 (by omega)).then_mod hm6 (by omega)).then_mod hm7 (by omega), p, rfl, by omega, ?_⟩
  simpa [fieldsL, kindV, needV] using g7

theorem does_spec (w : World) {H : AHeap} (hw : WF H) : wpCall (ctxW w) (.func (.func 48) #[] #[]) [] H (MapNew H doesL) := by
  refine wpCall_fn rfl (get48 w) ?_
  simp [ir48]
  refine w_mkmap hw fun p H1 hs1 hp n1 g1 => ?_
  simp
  refine w_insert hs1.wf' (by simp) g1 rfl rfl fun H2 hm2 n2 g2 => ?_
  simp
  refine w_insert hm2.wf' (by simp) g2 rfl rfl fun H3 hm3 n3 g3 => ?_
  simp
  refine w_insert hm3.wf' (by simp) g3 rfl rfl fun H4 hm4 n4 g4 => ?_
  simp
  refine w_insert hm4.wf' (by simp) g4 rfl rfl fun H5 hm5 n5 g5 => ?_
  simp
  refine w_insert hm5.wf' (by simp) g5 rfl rfl fun H6 hm6 n6 g6 => ?_
  simp
  refine w_insert hm6.wf' (by simp) g6 rfl rfl fun H7 hm7 n7 g7 => ?_
  simp
  refine ⟨(((((hs1.then_mod hm2 (by omega)).then_mod hm3 (by omega)).then_mod hm4 (by omega)).then_mod hm5 (by omega)).then_mod hm6 (by omega)).then_mod hm7 (by omega), p, rfl, by omega, ?_⟩
  simpa [doesL, kindV] using g7

theorem indexZ_spec (w : World) {H : AHeap} (hw : WF H) {p : Nat} (hp : Obj1 H p [.func (.func 93) #[] #[]]) {v : Value} {l : List Int} (hv : Row (ctxW w) H v 1 l.length (l.map fun n => .int .i64 n)) (hl : l.length ≤ 100) :
    wpCall (ctxW w) (.func (.func 112) #[] #[]) [v, .func (.func 104) #[] #[.pointer (some ⟨p, 0, none⟩)]] H fun r H' => H' = H ∧ ∃ k : Int, r = .int .i64 k ∧ (0 ≤ k ↔ ∃ x ∈ l, x ≠ 0) := by
  obtain ⟨_, a, c, rfl, _⟩ := id hv
  have ldp := fun off n => Obj1.load (C := ctxW w) (off := off) (n := n) hp
  have hpred : ∀ n : Int, wpCall (ctxW w) (.func (.func 104) #[] #[.pointer (some ⟨p, 0, none⟩)]) [.int .i64 n] H fun r H' => H' = H ∧ r = .bool (!decide (n = 0)) := by
    intro n
    refine wpCall_fn rfl (get104 w) ?_
    simp [ir104, ldp]
    refine wpCall_fn rfl (get93 w) ?_
    simp [ir93]
  refine wpCall_fn rfl (get112 w) ?_
  simp [ir112]
  refine wp_loop' (fun n s => ∃ (T : Env) (i : Nat), s = ⟨T, H, []⟩ ∧ n = l.length - i ∧ i ≤ l.length ∧ T.val 0 = .slice a l.length c ∧ T.val 1 = .func (.func 104) #[] #[.pointer (some ⟨p, 0, none⟩)] ∧ T.val 7 = .int .i64 l.length ∧ T.val 8 = .int .i64 i ∧ ∀ x ∈ l.take i, x = 0) (n := l.length)
    ⟨_, 0, rfl, rfl, Nat.zero_le _, by simp, by simp, by simp, by simp, by simp⟩ ?_
  rintro n s K ⟨T, i, rfl, rfl, hi, t0, t1, t7, t8, hz⟩ hnext hexit
  by_cases hlt : i < l.length
  · obtain ⟨b, hb, _, hld⟩ := Row.at hv (i := i) (by simpa using hlt)
    subst hb
    simp at hld
    have e3 : (i : Int) < l.length := by omega
    simp [t0, t1, t7, t8, e3, hld]
    refine wpCall_mono (hpred l[i]) ?_
    rintro _ H' ⟨rfl, rfl⟩
    by_cases h0 : l[i] = 0
    · simp [h0, t8]
      refine hnext (l.length - (i + 1)) _ (by omega) ⟨_, i + 1, rfl, rfl, by omega, by simp [t0], by simp [t1], by simp [t7], by simp; rw [i64_in _ (by omega)], ?_⟩
      intro x hx
      rw [List.take_add_one, List.getElem?_eq_getElem hlt] at hx
      rcases List.mem_append.1 hx with hx | hx
      · exact hz x hx
      · simp at hx
        rw [hx]; exact h0
    · simp [h0]
      refine hexit _ _ (by simp) ?_
      simp
      exact ⟨l[i], List.getElem_mem hlt, h0⟩
  · have : i = l.length := by omega
    subst this
    simp [t7, t8]
    refine hexit _ _ (by simp) ?_
    simp
    rw [List.take_length] at hz
    exact hz

theorem isZero_spec (w : World) {H : AHeap} (hw : WF H) {v : Value} {l : List Int} (hv : Row (ctxW w) H v 1 l.length (l.map fun n => .int .i64 n)) (hl : l.length ≤ 100) :
    wpCall (ctxW w) (.func (.func 75) #[] #[]) [v] H fun r H' => Same H H' ∧ r = .bool (decide (∀ x ∈ l, x = 0)) := by
  obtain ⟨_, a, c, rfl, _⟩ := id hv
  refine wpCall_fn rfl (get75 w) ?_
  simp [ir75]
  refine wpCall_fn rfl (get92 w) ?_
  simp [ir92]
  refine w_box (cs := [.func (.func 93) #[] #[]]) hw (by simp) rfl (by simp) fun p H1 hp => ?_
  simp
  refine wpCall_fn rfl (get103 w) ?_
  simp [ir103]
  refine wpCall_mono (indexZ_spec w hp.same.wf' hp.obj (Row.same hp.same hv) hl) ?_
  rintro _ H2 ⟨rfl, k, rfl, hk⟩
  simp
  refine ⟨hp.same, ?_⟩
  by_cases h : 0 ≤ k
  · obtain ⟨x, hx, hx0⟩ := hk.1 h
    have : ¬ ∀ x ∈ l, x = 0 := fun h' => hx0 (h' x hx)
    simp [h, this]
  · have : ∀ x ∈ l, x = 0 := fun x hx => by
      by_cases h0 : x = 0
      · exact h0
      · exact absurd (hk.2 ⟨x, hx, h0⟩) h
    simp [h]
    exact this
end Go.Ai.Wire

namespace Go.Ai.Wire
open Go.Proofs Go.IntWalk
attribute [local irreducible] Trie.put

/-- An act on a line. -/
structure ActA where
  kind : Int
  who : Int
  n : Int
  pos : Int
  xor : Int
  data : List UInt8

def deedV (a : ActA) (q : Nat) (dv : Value) : Value := .agg #[.int .u8 a.kind, .int .i64 a.who, .int .i64 a.n, .int .i64 a.pos, .int .i64 a.xor, dv, .pointer (some ⟨q, 0, none⟩)]
def deedC (a : ActA) (q : Nat) (dv : Value) : List Value := [.int .u8 a.kind, .int .i64 a.who, .int .i64 a.n, .int .i64 a.pos, .int .i64 a.xor, dv, .pointer (some ⟨q, 0, none⟩)]

def WhoA (a : ActA) : Prop := 0 ≤ a.who ∧ a.who ≤ 1
def AtA (fly : List Itm) (a : ActA) : Prop := 0 ≤ a.n ∧ a.n < fly.length

/-- Whether the fields of an act are as they must be. -/
def FineA (fly : List Itm) (a : ActA) : Prop :=
  (a.kind = 1 ∧ FrameOK a.data ∧ WhoA a ∧ a.n = 0 ∧ a.pos = 0 ∧ a.xor = 0) ∨ (a.kind = 2 ∧ a.data = [] ∧ WhoA a ∧ a.n = 0 ∧ a.pos = 0 ∧ a.xor = 0) ∨
  ((a.kind = 3 ∨ a.kind = 4 ∨ a.kind = 5) ∧ a.data = [] ∧ a.who = 0 ∧ AtA fly a ∧ a.pos = 0 ∧ a.xor = 0) ∨
  (a.kind = 6 ∧ a.data = [] ∧ a.who = 0 ∧ AtA fly a ∧ 0 ≤ a.pos ∧ (∀ h : a.n.toNat < fly.length, a.pos < fly[a.n.toNat].2.length) ∧ 1 ≤ a.xor ∧ a.xor ≤ 255)

theorem findFields (k : Int) : (k = 1 ∧ findA (.int .u8 k) fieldsL 0 = some (some (0, needV true false false true))) ∨ (k = 2 ∧ findA (.int .u8 k) fieldsL 0 = some (some (1, needV true false false false))) ∨
    ((k = 3 ∨ k = 4 ∨ k = 5) ∧ ∃ j, findA (.int .u8 k) fieldsL 0 = some (some (j, needV false true false false))) ∨ (k = 6 ∧ findA (.int .u8 k) fieldsL 0 = some (some (5, needV false true true false))) ∨
    ((k ≠ 1 ∧ k ≠ 2 ∧ k ≠ 3 ∧ k ≠ 4 ∧ k ≠ 5 ∧ k ≠ 6) ∧ findA (.int .u8 k) fieldsL 0 = some none) := by
  by_cases h1 : k = 1
  · subst h1; exact .inl ⟨rfl, rfl⟩
  by_cases h2 : k = 2
  · subst h2; exact .inr (.inl ⟨rfl, rfl⟩)
  by_cases h3 : k = 3
  · subst h3; exact .inr (.inr (.inl ⟨.inl rfl, 2, rfl⟩))
  by_cases h4 : k = 4
  · subst h4; exact .inr (.inr (.inl ⟨.inr (.inl rfl), 3, rfl⟩))
  by_cases h5 : k = 5
  · subst h5; exact .inr (.inr (.inl ⟨.inr (.inr rfl), 4, rfl⟩))
  by_cases h6 : k = 6
  · subst h6; exact .inr (.inr (.inr (.inl ⟨rfl, rfl⟩)))
  · refine .inr (.inr (.inr (.inr ⟨⟨h1, h2, h3, h4, h5, h6⟩, ?_⟩)))
    unfold fieldsL kindV
    rw [findA_cons_ne h1, findA_cons_ne h2, findA_cons_ne h3, findA_cons_ne h4, findA_cons_ne h5, findA_cons_ne h6]
    rfl

theorem FineA.kinds {fly : List Itm} {a : ActA} (h : FineA fly a) : a.kind = 1 ∨ a.kind = 2 ∨ (a.kind = 3 ∨ a.kind = 4 ∨ a.kind = 5) ∨ a.kind = 6 := by
  rcases h with h | h | h | h
  · exact .inl h.1
  · exact .inr (.inl h.1)
  · exact .inr (.inr (.inl h.1))
  · exact .inr (.inr (.inr h.1))

set_option maxHeartbeats 4000000 in
theorem isFine_spec (w : World) {H : AHeap} (hw : WF H) {q : Nat} {c0 c1 s0 s1 : Value} {fa : Option Addr} {fc : Nat} {fly : List Itm} (hq : Obj1 H q [c0, c1, .slice fa fly.length fc, s0, s1]) (hf : Its (ctxW w) H (.slice fa fly.length fc) fly) (hfl : fly.length ≤ 1000) (hfb : ∀ y ∈ fly, y.2.length ≤ 1000)
    {a : ActA} {da : Option Addr} {dc : Nat} : wpCall (ctxW w) (.func (.func 47) #[] #[]) [deedV a q (.slice da a.data.length dc)] H fun r H' => Same H H' ∧ Tells (FineA fly a) r := by
  refine wpCall_fn rfl (get47 w) ?_
  simp [ir47]
  refine w_box (cs := deedC a q (.slice da a.data.length dc)) hw (by simp [deedV, deedC]) rfl (by simp [deedC]) fun p H1 hp => ?_
  simp
  refine wpCall_mono (fields_spec w hp.same.wf') ?_
  rintro _ H2 ⟨hs2, m, rfl, hm, hg⟩
  have hs02 := hp.same.trans hs2
  have hp2 := hp.obj.same hs2
  have np := hp.new
  have np' := hp.next
  have n2 := hs2.grow.next
  have hml : m < H2.next := get_lt hs02.wf' (by rw [hg]; simp)
  have ld2 := fun off n => Obj1.load (C := ctxW w) (off := off) (n := n) hp2
  have f1 : free (ctxW w) (.call H1 H2) (.exp [p] []) = true := free_call_rd (eqbW w) hs2 (by simp; obtain ⟨e, h⟩ := hp.obj; rw [h]; simp)
  have f2 : free (ctxW w) (.call H1 H2) (.exp [] [H2.next]) = true := free_call_new (Nat.le_refl _)
  have f3 : Nat.beq H2.next m = false := nbeq' (by omega)
  have f4 : Nat.beq H2.next p = false := nbeq' (by omega)
  simp [ld2, deedC, f1]
  have hqlt := hq.lt hw
  have nolen : ¬ (0 : Int) < a.data.length → a.data.length = 0 := fun h => by omega
  have tell : ∀ (H' : AHeap) (b : Bool), Same H H' → (b = true ↔ FineA fly a) → Same H H' ∧ Tells (FineA fly a) (.bool b) := fun H' b hs hb => ⟨hs, b, rfl, hb⟩
  rcases findFields a.kind with ⟨hk, hfind⟩ | ⟨hk, hfind⟩ | ⟨hk, j, hfind⟩ | ⟨hk, hfind⟩ | ⟨hk, hfind⟩
  · refine d_lookup (p := m) (es := fieldsL) (f := some (0, needV true false false true)) (kv := .int .u8 a.kind) (by simp) hg (by simp) rfl hfind (by simp) ?_
    simp [lookV, needV]
    refine d_mk hs02.wf' (by simp [f2, f3, f4]) fun h H3 hh => ?_
    have nh := hh.new
    have nh' := hh.next
    refine d_store (p := h) (off := 0) (xs := [.bool true, .bool false, .bool false, .bool true]) hh.same.wf' rfl hh.obj (by simp) (by simp) rfl (by simp) (by simp) (by simp) fun H4 hm4 hn4 ho4 => ?_
    have hs24 : Same H2 H4 := hh.same.then_mod hm4 (by omega)
    have hs04 := hs02.trans hs24
    have hp4 := hp2.same hs24
    have hq4 := hq.same hs04
    have ldh := fun off n => Obj1.load (C := ctxW w) (off := off) (n := n) ho4
    have ldp := fun off n => Obj1.load (C := ctxW w) (off := off) (n := n) hp4
    have ldq := fun off n => Obj1.load (C := ctxW w) (off := off) (n := n) hq4
    simp only [deedC] at ldp
    have notk : ∀ P : Prop, (FineA fly a → P) → True := fun _ _ => trivial
    have fine1 : FineA fly a ↔ FrameOK a.data ∧ WhoA a ∧ a.n = 0 ∧ a.pos = 0 ∧ a.xor = 0 := by
      unfold FineA
      constructor
      · rintro (h | h | h | h)
        · exact h.2
        · omega
        · omega
        · omega
      · exact fun h => .inl ⟨hk, h⟩
    by_cases h1 : (0 : Int) < a.data.length
    · have h1' : 0 < a.data.length := by omega
      simp [ldh, ldp, h1']
      refine wpCall_mono (isFrame_spec w rfl) ?_
      rintro _ H5 ⟨rfl, rfl⟩
      by_cases h2 : a.data.length ≤ 400
      · have h3 : (1 : Int) ≤ a.data.length := by omega
        have h4 : (a.data.length : Int) ≤ 400 := by omega
        simp [absent, ldh, ldp, h3, h4]
        refine wpCall_mono (within_spec w a.who 0 1) ?_
        rintro _ H5 ⟨rfl, rfl⟩
        by_cases h5 : 0 ≤ a.who ∧ a.who ≤ 1
        · simp [ldh, ldp, h5]
          refine w_bs (esz := 1) (cs := [.int .i64 a.n, .int .i64 a.pos, .int .i64 a.xor]) hs04.wf' (by simp) (by simp) (by simp) fun z H6 hz hbz => ?_
          simp
          refine wpCall_mono (isZero_spec w hz.same.wf' (l := [a.n, a.pos, a.xor]) (by simpa using hbz.row (C := ctxW w)) (by simp)) ?_
          rintro _ H7 ⟨hs7, rfl⟩
          simp
          refine tell _ _ ((hs04.trans hz.same).trans hs7) ?_
          simp only [Bool.and_eq_true, decide_eq_true_eq]
          rw [fine1]
          simp only [FrameOK, WhoA]
          constructor
          · rintro h
            exact ⟨⟨h1', h2⟩, h5, by simpa using h⟩
          · rintro ⟨_, _, h⟩
            simpa using h
        · have e : (decide (0 ≤ a.who) && decide (a.who ≤ 1)) = false := by
            rw [← Bool.decide_and]
            exact decide_eq_false h5
          simp [e]
          refine tell _ _ hs04 ?_
          rw [fine1]
          simp only [WhoA]
          constructor
          · intro h; cases h
          · rintro ⟨_, h, _⟩; exact absurd h h5
      · have e : (decide ((1 : Int) ≤ a.data.length) && decide ((a.data.length : Int) ≤ 400)) = false := by
          rw [← Bool.decide_and]
          exact decide_eq_false (by omega)
        simp [absent, e]
        refine tell _ _ hs04 ?_
        rw [fine1]
        simp only [FrameOK]
        constructor
        · intro h; cases h
        · rintro ⟨h, _⟩; exact absurd h.2 h2
    · have h1' : ¬ 0 < a.data.length := by omega
      simp [absent, ldh, ldp, h1']
      refine tell _ _ hs04 ?_
      rw [fine1]
      simp only [FrameOK]
      constructor
      · intro h; cases h
      · rintro ⟨h, _⟩; exact absurd h.1 h1'
  · refine d_lookup (p := m) (es := fieldsL) (f := some (1, needV true false false false)) (kv := .int .u8 a.kind) (by simp) hg (by simp) rfl hfind (by simp) ?_
    simp [lookV, needV]
    refine d_mk hs02.wf' (by simp [f2, f3, f4]) fun h H3 hh => ?_
    have nh := hh.new
    have nh' := hh.next
    refine d_store (p := h) (off := 0) (xs := [.bool true, .bool false, .bool false, .bool false]) hh.same.wf' rfl hh.obj (by simp) (by simp) rfl (by simp) (by simp) (by simp) fun H4 hm4 hn4 ho4 => ?_
    have hs24 : Same H2 H4 := hh.same.then_mod hm4 (by omega)
    have hs04 := hs02.trans hs24
    have hp4 := hp2.same hs24
    have hq4 := hq.same hs04
    have ldh := fun off n => Obj1.load (C := ctxW w) (off := off) (n := n) ho4
    have ldp := fun off n => Obj1.load (C := ctxW w) (off := off) (n := n) hp4
    have ldq := fun off n => Obj1.load (C := ctxW w) (off := off) (n := n) hq4
    simp only [deedC] at ldp
    have fine1 : FineA fly a ↔ a.data = [] ∧ WhoA a ∧ a.n = 0 ∧ a.pos = 0 ∧ a.xor = 0 := by
      unfold FineA
      constructor
      · rintro (h | h | h | h)
        · omega
        · exact h.2
        · omega
        · omega
      · exact fun h => .inr (.inl ⟨hk, h⟩)
    by_cases h1 : (0 : Int) < a.data.length
    · have h1' : 0 < a.data.length := by omega
      simp [absent, ldh, ldp, h1']
      refine tell _ _ hs04 ?_
      rw [fine1]
      constructor
      · intro h; cases h
      · rintro ⟨h, _⟩; rw [h] at h1'; exact absurd h1' (by simp)
    · have h1' : ¬ 0 < a.data.length := by omega
      have h1e : a.data = [] := List.length_eq_zero_iff.1 (by omega)
      have h1l : a.data.length = 0 := by omega
      simp [absent, ldh, ldp, h1l]
      refine wpCall_mono (within_spec w a.who 0 1) ?_
      rintro _ H5 ⟨rfl, rfl⟩
      by_cases h5 : 0 ≤ a.who ∧ a.who ≤ 1
      · simp [ldh, ldp, h5]
        refine w_bs (esz := 1) (cs := [.int .i64 a.n, .int .i64 a.pos, .int .i64 a.xor]) hs04.wf' (by simp) (by simp) (by simp) fun z H6 hz hbz => ?_
        simp
        refine wpCall_mono (isZero_spec w hz.same.wf' (l := [a.n, a.pos, a.xor]) (by simpa using hbz.row (C := ctxW w)) (by simp)) ?_
        rintro _ H7 ⟨hs7, rfl⟩
        simp
        refine tell _ _ ((hs04.trans hz.same).trans hs7) ?_
        simp only [Bool.and_eq_true, decide_eq_true_eq]
        rw [fine1]
        simp only [WhoA]
        constructor
        · rintro h
          exact ⟨h1e, h5, by simpa using h⟩
        · rintro ⟨_, _, h⟩
          simpa using h
      · have e : (decide (0 ≤ a.who) && decide (a.who ≤ 1)) = false := by
          rw [← Bool.decide_and]
          exact decide_eq_false h5
        simp [e]
        refine tell _ _ hs04 ?_
        rw [fine1]
        simp only [WhoA]
        constructor
        · intro h; cases h
        · rintro ⟨_, h, _⟩; exact absurd h h5
  · refine d_lookup (p := m) (es := fieldsL) (f := some (j, needV false true false false)) (kv := .int .u8 a.kind) (by simp) hg (by simp) rfl hfind (by simp) ?_
    simp [lookV, needV]
    refine d_mk hs02.wf' (by simp [f2, f3, f4]) fun h H3 hh => ?_
    have nh := hh.new
    have nh' := hh.next
    refine d_store (p := h) (off := 0) (xs := [.bool false, .bool true, .bool false, .bool false]) hh.same.wf' rfl hh.obj (by simp) (by simp) rfl (by simp) (by simp) (by simp) fun H4 hm4 hn4 ho4 => ?_
    have hs24 : Same H2 H4 := hh.same.then_mod hm4 (by omega)
    have hs04 := hs02.trans hs24
    have hp4 := hp2.same hs24
    have hq4 := hq.same hs04
    have ldh := fun off n => Obj1.load (C := ctxW w) (off := off) (n := n) ho4
    have ldp := fun off n => Obj1.load (C := ctxW w) (off := off) (n := n) hp4
    have ldq := fun off n => Obj1.load (C := ctxW w) (off := off) (n := n) hq4
    simp only [deedC] at ldp
    have fine1 : FineA fly a ↔ a.data = [] ∧ a.who = 0 ∧ AtA fly a ∧ a.pos = 0 ∧ a.xor = 0 := by
      unfold FineA
      constructor
      · rintro (h | h | h | h)
        · omega
        · omega
        · exact h.2
        · omega
      · exact fun h => .inr (.inr (.inl ⟨hk, h⟩))
    have wl : IntKind.i64.wrap ((fly.length : Int) - 1) = (fly.length : Int) - 1 := i64_in _ (by omega)
    by_cases h1 : (0 : Int) < a.data.length
    · have h1' : 0 < a.data.length := by omega
      simp [absent, ldh, ldp, h1']
      refine tell _ _ hs04 ?_
      rw [fine1]
      constructor
      · intro h; cases h
      · rintro ⟨h, _⟩; rw [h] at h1'; exact absurd h1' (by simp)
    · have h1' : ¬ 0 < a.data.length := by omega
      have h1e : a.data = [] := List.length_eq_zero_iff.1 (by omega)
      have h1l : a.data.length = 0 := by omega
      by_cases h5 : a.who = 0
      · simp [absent, ldh, ldp, h1l, h5]
        refine wpCall_mono (within_spec w 0 0 1) ?_
        rintro _ H5 ⟨rfl, rfl⟩
        simp [ldh, ldp, ldq, wl]
        refine wpCall_mono (within_spec w _ _ _) ?_
        rintro _ H5 ⟨rfl, rfl⟩
        by_cases h6 : 0 ≤ a.n ∧ a.n ≤ (fly.length : Int) - 1
        · simp [ldh, ldp, h6]
          refine w_bs (esz := 1) (cs := [.int .i64 a.pos, .int .i64 a.xor]) hs04.wf' (by simp) (by simp) (by simp) fun z H6 hz hbz => ?_
          simp
          refine wpCall_mono (isZero_spec w hz.same.wf' (l := [a.pos, a.xor]) (by simpa using hbz.row (C := ctxW w)) (by simp)) ?_
          rintro _ H7 ⟨hs7, rfl⟩
          simp
          refine tell _ _ ((hs04.trans hz.same).trans hs7) ?_
          simp only [Bool.and_eq_true, decide_eq_true_eq]
          rw [fine1]
          simp only [AtA]
          constructor
          · rintro h
            exact ⟨h1e, h5, by omega, by simpa using h⟩
          · rintro ⟨_, _, _, h⟩
            simpa using h
        · have e : (decide (0 ≤ a.n) && decide (a.n ≤ (fly.length : Int) - 1)) = false := by
            rw [← Bool.decide_and]
            exact decide_eq_false h6
          simp [e]
          refine tell _ _ hs04 ?_
          rw [fine1]
          simp only [AtA]
          constructor
          · intro h; cases h
          · rintro ⟨_, _, h, _⟩; exact absurd (show 0 ≤ a.n ∧ a.n ≤ (fly.length : Int) - 1 by omega) h6
      · simp [absent, ldh, ldp, h1l, h5]
        refine tell _ _ hs04 ?_
        rw [fine1]
        constructor
        · intro h; cases h
        · rintro ⟨_, h, _⟩; exact absurd h h5
  · refine d_lookup (p := m) (es := fieldsL) (f := some (5, needV false true true false)) (kv := .int .u8 a.kind) (by simp) hg (by simp) rfl hfind (by simp) ?_
    simp [lookV, needV]
    refine d_mk hs02.wf' (by simp [f2, f3, f4]) fun h H3 hh => ?_
    have nh := hh.new
    have nh' := hh.next
    refine d_store (p := h) (off := 0) (xs := [.bool false, .bool true, .bool true, .bool false]) hh.same.wf' rfl hh.obj (by simp) (by simp) rfl (by simp) (by simp) (by simp) fun H4 hm4 hn4 ho4 => ?_
    have hs24 : Same H2 H4 := hh.same.then_mod hm4 (by omega)
    have hs04 := hs02.trans hs24
    have hp4 := hp2.same hs24
    have hq4 := hq.same hs04
    have ldh := fun off n => Obj1.load (C := ctxW w) (off := off) (n := n) ho4
    have ldp := fun off n => Obj1.load (C := ctxW w) (off := off) (n := n) hp4
    have ldq := fun off n => Obj1.load (C := ctxW w) (off := off) (n := n) hq4
    simp only [deedC] at ldp
    have fine1 : FineA fly a ↔ a.data = [] ∧ a.who = 0 ∧ AtA fly a ∧ 0 ≤ a.pos ∧ (∀ h : a.n.toNat < fly.length, a.pos < fly[a.n.toNat].2.length) ∧ 1 ≤ a.xor ∧ a.xor ≤ 255 := by
      unfold FineA
      constructor
      · rintro (h | h | h | h)
        · omega
        · omega
        · omega
        · exact h.2
      · exact fun h => .inr (.inr (.inr ⟨hk, h⟩))
    have wl : IntKind.i64.wrap ((fly.length : Int) - 1) = (fly.length : Int) - 1 := i64_in _ (by omega)
    by_cases h1 : (0 : Int) < a.data.length
    · have h1' : 0 < a.data.length := by omega
      simp [absent, ldh, ldp, h1']
      refine tell _ _ hs04 ?_
      rw [fine1]
      constructor
      · intro h; cases h
      · rintro ⟨h, _⟩; rw [h] at h1'; exact absurd h1' (by simp)
    · have h1' : ¬ 0 < a.data.length := by omega
      have h1e : a.data = [] := List.length_eq_zero_iff.1 (by omega)
      have h1l : a.data.length = 0 := by omega
      by_cases h5 : a.who = 0
      · simp [absent, ldh, ldp, h1l, h5]
        refine wpCall_mono (within_spec w 0 0 1) ?_
        rintro _ H5 ⟨rfl, rfl⟩
        simp [ldh, ldp, ldq, wl]
        refine wpCall_mono (within_spec w _ _ _) ?_
        rintro _ H5 ⟨rfl, rfl⟩
        by_cases h6 : 0 ≤ a.n ∧ a.n ≤ (fly.length : Int) - 1
        · simp [ldh, ldp, h6]
          obtain ⟨N, hN⟩ : ∃ N : Nat, a.n = N := ⟨a.n.toNat, by omega⟩
          have hNl : N < fly.length := by omega
          obtain ⟨bb, ya, yc, rfl, m1, m2, m3, hy⟩ := (hf.same hs04).at hNl
          have hNl' : (N : Int) < fly.length := by omega
          have hyl := hfb _ (List.getElem_mem hNl)
          have wl2 : IntKind.i64.wrap ((fly[N].2.length : Int) - 1) = (fly[N].2.length : Int) - 1 := i64_in _ (by omega)
          simp [ldq, ldp, hN, hNl', m2, wl2]
          refine wpCall_mono (within_spec w _ _ _) ?_
          rintro _ H5 ⟨rfl, rfl⟩
          have hfin : FineA fly a ↔ (0 ≤ a.pos ∧ a.pos ≤ (fly[N].2.length : Int) - 1) ∧ 1 ≤ a.xor ∧ a.xor ≤ 255 := by
            rw [fine1]
            have hnn : a.n.toNat = N := by omega
            constructor
            · rintro ⟨_, _, _, h7, h8, h9⟩
              have := h8 (by omega)
              simp only [hnn] at this
              exact ⟨⟨h7, by omega⟩, h9⟩
            · rintro ⟨⟨h7, h8⟩, h9⟩
              refine ⟨h1e, h5, ⟨by omega, by omega⟩, h7, fun h => ?_, h9⟩
              simp only [hnn]
              omega
          by_cases h7 : 0 ≤ a.pos ∧ a.pos ≤ (fly[N].2.length : Int) - 1
          · simp [ldp, h7]
            refine wpCall_mono (within_spec w _ _ _) ?_
            rintro _ H5 ⟨rfl, rfl⟩
            simp
            refine tell _ _ hs04 ?_
            rw [hfin]
            simp only [Bool.and_eq_true, decide_eq_true_eq]
            exact ⟨fun h => ⟨h7, h⟩, fun h => h.2⟩
          · have e : (decide (0 ≤ a.pos) && decide (a.pos ≤ (fly[N].2.length : Int) - 1)) = false := by
              rw [← Bool.decide_and]
              exact decide_eq_false h7
            simp [absent, e]
            refine tell _ _ hs04 ?_
            rw [hfin]
            constructor
            · intro h; cases h
            · rintro ⟨h, _⟩; exact absurd h h7
        · have e : (decide (0 ≤ a.n) && decide (a.n ≤ (fly.length : Int) - 1)) = false := by
            rw [← Bool.decide_and]
            exact decide_eq_false h6
          simp [e]
          refine tell _ _ hs04 ?_
          rw [fine1]
          simp only [AtA]
          constructor
          · intro h; cases h
          · rintro ⟨_, _, h, _⟩; exact absurd (show 0 ≤ a.n ∧ a.n ≤ (fly.length : Int) - 1 by omega) h6
      · simp [absent, ldh, ldp, h1l, h5]
        refine tell _ _ hs04 ?_
        rw [fine1]
        constructor
        · intro h; cases h
        · rintro ⟨_, h, _⟩; exact absurd h h5
  · refine d_lookup (p := m) (es := fieldsL) (f := none) (kv := .int .u8 a.kind) (by simp) hg (by simp) rfl hfind (by simp) ?_
    simp [lookV]
    refine d_mk hs02.wf' (by simp [f2, f3, f4]) fun h H3 hh => ?_
    have nh := hh.new
    have nh' := hh.next
    refine d_store (p := h) (off := 0) (xs := [.bool false, .bool false, .bool false, .bool false]) hh.same.wf' rfl hh.obj (by simp) (by simp) rfl (by simp) (by simp) (by simp) fun H4 hm4 hn4 ho4 => ?_
    have hs24 : Same H2 H4 := hh.same.then_mod hm4 (by omega)
    have hs04 := hs02.trans hs24
    have hp4 := hp2.same hs24
    have hq4 := hq.same hs04
    have ldh := fun off n => Obj1.load (C := ctxW w) (off := off) (n := n) ho4
    have ldp := fun off n => Obj1.load (C := ctxW w) (off := off) (n := n) hp4
    have ldq := fun off n => Obj1.load (C := ctxW w) (off := off) (n := n) hq4
    simp only [deedC] at ldp
    simp [absent]
    refine tell _ _ hs04 ?_
    constructor
    · intro h; cases h
    · intro h; have := h.kinds; omega
end Go.Ai.Wire
