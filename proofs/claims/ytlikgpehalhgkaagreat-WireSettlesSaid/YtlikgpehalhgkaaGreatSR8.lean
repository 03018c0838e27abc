/-
  How the reference's acts and the program's acts go together: the laws.
  'Settle' of the reference.
  'Settle' of the reference.
-/
import Derived.Test.YtlikgpehalhgkaaGreatSR5
import Derived.Test.YtlikgpehalhgkaaGreatSR7
namespace Go.Ai.Wire

theorem Calm.det {y z z' : LineW} (h : Calm y z) : Calm y z' → z = z' := by
  induction h with
  | done h => exact fun k => (k.none h).symm
  | step h _ ih =>
    intro k
    cases k with
    | done hf => exact absurd hf h
    | step _ k => exact ih k
theorem Settled.det {y z z' : LineW} : Settled y z → Settled y z' → z = z' := by
  rintro ⟨a, b, h1, h2, h3⟩ ⟨a', b', k1, k2, k3⟩
  have := h1.det k1
  subst this
  have := h2.det k2
  subst this
  exact h3.det k3

theorem putsW_x {to : Int} : ∀ (l : List (List UInt8)) (y : LineW), putsW y to l = ⟨(putsW ⟨y.x, [], []⟩ to l).x, y.h0, y.h1⟩
  | [], y => rfl
  | b :: l, y => by
    unfold putsW
    rw [List.foldl_cons, List.foldl_cons]
    have h1 := putsW_x l (putW y to b) (to := to)
    have h2 := putsW_x l (putW ⟨y.x, [], []⟩ to b) (to := to)
    unfold putsW at h1 h2
    rw [h1, h2]
    rfl

def comeA : ActA := ⟨3, 0, 0, 0, 0, []⟩
/-- What is handed on at an end is put behind what was. -/
def hearF (y : LineW) (t : Int) (X : LineA) (F : List (List UInt8)) : LineW := if t = 0 then ⟨X, y.h0 ++ F, y.h1⟩ else ⟨X, y.h0, y.h1 ++ F⟩

theorem again_x (y : LineW) (i : Nat) : againW y i = ⟨(againW ⟨y.x, [], []⟩ i).x, y.h0, y.h1⟩ := putsW_x _ _
theorem again_h (x : LineA) (i : Nat) : (againW ⟨x, [], []⟩ i).h0 = [] ∧ (againW ⟨x, [], []⟩ i).h1 = [] := putsW_h _ _

theorem arrive_x (y : LineW) {t : Nat} (ht : t ≤ 1) (d : List UInt8) : arriveW y t d = hearF y t (arriveW ⟨y.x, [], []⟩ t d).x ((arriveW ⟨y.x, [], []⟩ t d).h0 ++ (arriveW ⟨y.x, [], []⟩ t d).h1) := by
  unfold arriveW
  have he : endW (⟨y.x, [], []⟩ : LineW) t = endW y t := rfl
  rw [he]
  generalize takeF (endW y t) d = R
  rcases two ht with rfl | rfl
  · by_cases h : R.2.2 = []
    · rw [if_pos h, if_pos h]
      simp [hearF, hearW, setE]
    · rw [if_neg h, if_neg h]
      simp [hearF, hearW, setE, putW]
  · by_cases h : R.2.2 = []
    · rw [if_pos h, if_pos h]
      simp [hearF, hearW, setE]
    · rw [if_neg h, if_neg h]
      simp [hearF, hearW, setE, putW]

/-- What an act does to a line at work is what it does to the line alone. -/
theorem doW_doF {y : LineW} (hok : LineOK y.x) (a : ActA) :
    (doF y.x a).2.2 = (doW y a).2 ∧ ((doW y a).2 ≠ 0 → (doW y a).1 = y) ∧ ((doW y a).2 = 0 → (doW y a).1 = hearF y (hearsA y.x.fly a) (doF y.x a).1 (doF y.x a).2.1) := by
  have nil : ∀ (X : LineA), hearF y 0 X [] = ⟨X, y.h0, y.h1⟩ := fun X => by simp [hearF]
  by_cases hf : FineA y.x.fly a
  · have e := doF_fine hok hf
    have ew : doW y a = actW y a := by unfold doW; rw [if_pos hf]
    rw [ew]
    by_cases k1 : a.kind = 1
    · have h0 : hearsA y.x.fly a = 0 := by unfold hearsA; rw [if_neg (by omega)]
      rw [h0]
      unfold actW at e ⊢
      rw [if_pos k1] at e ⊢
      unfold sayW at e ⊢
      have he : endW (⟨y.x, [], []⟩ : LineW) a.who.toNat = endW y a.who.toNat := rfl
      rw [he] at e
      by_cases c1 : (endW y a.who.toNat).last = 60000
      · rw [if_pos c1] at e ⊢
        rw [e]
        simp
      · rw [if_neg c1] at e ⊢
        by_cases c2 : (endW y a.who.toNat).opens.length = 8
        · rw [if_pos c2] at e ⊢
          rw [e]
          simp
        · rw [if_neg c2] at e ⊢
          rw [if_pos rfl] at e
          rw [e]
          refine ⟨rfl, fun h => absurd rfl h, fun _ => ?_⟩
          have : ∀ (t : Nat) (E : EndA) (to : Int) (d : List UInt8), putW (setE y t E) to d = hearF y 0 (putW (setE ⟨y.x, [], []⟩ t E) to d).x ((putW (setE ⟨y.x, [], []⟩ t E) to d).h0 ++ (putW (setE ⟨y.x, [], []⟩ t E) to d).h1) := by
            intro t E to d
            unfold setE
            split <;> simp [hearF, putW]
          exact this _ _ _ _
    · by_cases k2 : a.kind = 2
      · have h0 : hearsA y.x.fly a = 0 := by unfold hearsA; rw [if_neg (by omega)]
        rw [h0]
        unfold actW at e ⊢
        rw [if_neg k1, if_pos k2] at e ⊢
        rw [if_pos rfl] at e
        rw [e]
        refine ⟨rfl, fun h => absurd rfl h, fun _ => ?_⟩
        dsimp only
        rw [(again_h _ _).1, (again_h _ _).2]
        show _ = hearF y 0 _ []
        rw [nil]
        exact again_x _ _
      · have hat : ∃ i : Nat, ∃ hi : i < y.x.fly.length, a.n = i := by
          have : AtA y.x.fly a := by
            rcases hf with h | h | h | h
            · exact absurd h.1 k1
            · exact absurd h.1 k2
            · exact h.2.2.2.1
            · exact h.2.2.2.1
          obtain ⟨h1, h2⟩ := this
          exact ⟨a.n.toNat, by omega, by omega⟩
        obtain ⟨i, hi, hn⟩ := hat
        obtain ⟨hok1, hok2⟩ := (hok.2.2.2 i hi).1
        have hnt : a.n.toNat = i := by omega
        unfold actW at e ⊢
        rw [if_neg k1, if_neg k2, dif_pos (by rw [hnt]; exact hi)] at e ⊢
        simp only [hnt] at e ⊢
        by_cases k3 : a.kind = 3
        · rw [if_pos k3] at e ⊢
          rw [if_pos rfl] at e
          rw [e]
          refine ⟨rfl, fun h => absurd rfl h, fun _ => ?_⟩
          have h0 : hearsA y.x.fly a = y.x.fly[i].1 := by
            unfold hearsA
            rw [if_pos ⟨k3, by omega, by omega⟩, hnt, List.getD_eq_getElem?_getD, List.getElem?_eq_getElem hi]
            rfl
          rw [h0]
          have h1 := arrive_x (awayW y i) (t := y.x.fly[i].1.toNat) (by omega) y.x.fly[i].2
          dsimp only
          rw [h1]
          have : ((y.x.fly[i].1.toNat : Nat) : Int) = y.x.fly[i].1 := by omega
          rw [this]
          rfl
        · have h0 : hearsA y.x.fly a = 0 := by unfold hearsA; rw [if_neg (by omega)]
          rw [h0]
          rw [if_neg k3] at e ⊢
          by_cases k4 : a.kind = 4
          · rw [if_pos k4] at e ⊢
            rw [if_pos rfl] at e
            rw [e]
            exact ⟨rfl, fun h => absurd rfl h, fun _ => (nil _).symm⟩
          · rw [if_neg k4] at e ⊢
            by_cases k5 : a.kind = 5
            · rw [if_pos k5] at e ⊢
              rw [if_pos rfl] at e
              rw [e]
              exact ⟨rfl, fun h => absurd rfl h, fun _ => (nil _).symm⟩
            · rw [if_neg k5] at e ⊢
              rw [if_pos rfl] at e
              rw [e]
              exact ⟨rfl, fun h => absurd rfl h, fun _ => (nil _).symm⟩
  · have ew : doW y a = (y, 2) := by unfold doW; rw [if_neg hf]
    have ef : doF y.x a = (zeroL, [], 2) := by
      have : doW ⟨y.x, [], []⟩ a = (⟨y.x, [], []⟩, 2) := by unfold doW; rw [if_neg hf]
      unfold doF
      rw [if_pos hok, this]
      rfl
    rw [ew, ef]
    simp

theorem doF_come {y : LineW} (hok : LineOK y.x) (hlt : 0 < y.x.fly.length) : (doF y.x comeA).2.2 = 0 ∧ comeW y = hearF y y.x.fly[0].1 (doF y.x comeA).1 (doF y.x comeA).2.1 := by
  have hf : FineA y.x.fly comeA := .inr (.inr (.inl ⟨.inl rfl, rfl, rfl, ⟨by show (0 : Int) ≤ 0; omega, by show (0 : Int) < _; omega⟩, rfl, rfl⟩))
  have hto := (hok.2.2.2 0 hlt).1
  have ha : doW y comeA = (comeW y, 0) := by
    unfold doW
    rw [if_pos hf]
    unfold actW
    rw [if_neg (by show ¬ ((3 : Int) = 1); decide), if_neg (by show ¬ ((3 : Int) = 2); decide), dif_pos (show comeA.n.toNat < _ from hlt), if_pos (by rfl)]
    rw [comeW_at hlt (t := y.x.fly[0].1.toNat) (by omega)]
    rfl
  obtain ⟨h1, _, h3⟩ := doW_doF hok comeA
  rw [ha] at h1 h3
  refine ⟨h1, ?_⟩
  have h4 := h3 rfl
  have h0 : hearsA y.x.fly comeA = y.x.fly[0].1 := by
    unfold hearsA
    rw [if_pos ⟨rfl, by show (0 : Int) ≤ 0; omega, by show (0 : Int) < _; omega⟩]
    show (y.x.fly.getD 0 (0, [])).1 = _
    rw [List.getD_eq_getElem?_getD, List.getElem?_eq_getElem hlt]
    rfl
  rw [h0] at h4
  exact h4
theorem doF_again {y : LineW} (hok : LineOK y.x) {i : Nat} (hi : i ≤ 1) : doF y.x (againA i) = ((againW y i).x, [], 0) := by
  have hf : FineA y.x.fly (againA i) := .inr (.inl ⟨rfl, rfl, ⟨by show (0 : Int) ≤ i; omega, by show (i : Int) ≤ 1; omega⟩, rfl, rfl, rfl⟩)
  have ha : actW ⟨y.x, [], []⟩ (againA i) = (againW ⟨y.x, [], []⟩ i, 0) := by
    unfold actW
    rw [if_neg (by show ¬ ((2 : Int) = 1); decide), if_pos (by rfl)]
    rfl
  have e := doF_fine hok hf
  rw [ha, if_pos rfl] at e
  dsimp only at e
  rw [e, (again_h _ _).1, (again_h _ _).2, again_x y i]
  rfl

end Go.Ai.Wire

namespace Go.Ai.Wire
open Go.Proofs Go.IntWalk
attribute [local irreducible] Trie.put

section
variable {C : Ctx} {H : AHeap} {T : Env} {d : Option Nat} {r : List IOper} {K : Env → AHeap → Prop}
/-- Nothing is appended. -/
theorem w_appZ {esz bytes n g : Nat} {s x : IOpd} {cs : List Value} (hs : NG H (s.val T.val) g esz n cs) (hx : Row C H (x.val T.val) esz 0 [])
    (hk : wpO C r K (putDst T d (s.val T.val)) H) : wpO C (⟨d, .append esz bytes s x, none⟩ :: r) K T H := by
  rw [wpO_append]
  obtain ⟨rd0, h1, h2, _⟩ := hx.src
  have hap : appendA C H.get esz bytes (s.val T.val) 0 [] rd0 H.next = some { v := s.val T.val, rd := rd0 } := by
    rcases hs with ⟨he, rfl, _⟩ | hb
    · rw [he]
      simp [appendA]
    · obtain ⟨a, c, he, hnc, _⟩ := hb.load (C := C)
      rw [he]
      unfold appendA
      rw [if_pos ⟨by simp, by simp⟩]
      dsimp only
      rw [if_pos (by omega), if_pos rfl]
  have : evalOp C H.get T.val H.next (.append esz bytes s x) = some { v := s.val T.val, rd := rd0 } := by
    simp only [evalOp, h2, h1]
    exact hap
  rw [this]
  exact hk
/-- Frames are put behind frames, be there any or none. -/
theorem w_appH {bytes k : Nat} {s x : IOpd} {col : Nat → Nat} {l fr : List (List UInt8)} (hw : WF H) (hbare : Bare col H) (k0 : k ≠ 0) (hR : WRow C H col k (s.val T.val) l) (hx : WFrs C H col (x.val T.val) fr) (hr : roomy (l.length + fr.length) bytes = true)
    (hk : ∀ v H' col', Step [k] H col H' col' → WRow C H' col' k v (l ++ fr) → wpO C r K (putDst T d v) H') : wpO C (⟨d, .append 1 bytes s x, none⟩ :: r) K T H := by
  obtain ⟨xs, hx, hrow, hp, _⟩ := hx
  obtain ⟨g, cs, k1, k2, k3, k4⟩ := id hR
  by_cases h0 : fr = []
  · subst h0
    have hxs : xs = [] := List.length_eq_zero_iff.1 (by rw [hx.len]; rfl)
    subst hxs
    exact w_appZ (g := g) (n := l.length) (cs := cs) k1 (by simpa using hrow) (hk _ _ col (Step.of_same (Same.refl hw) hbare) (by simpa using hR))
  · have hm : fr.length ≠ 0 := fun h => h0 (List.length_eq_zero_iff.1 h)
    refine w_appW (g := g) (n := l.length) (m := fr.length) (cs := cs) (xs := xs) hw k1 (Nat.le_refl _) hrow hm hx.scal hr fun v H' g' hg hb => ?_
    obtain ⟨col', st, w⟩ := WRow.app hw hbare k0 k2 k3 k4 hx hp hg hb
    exact hk _ _ col' st w
end

/-- A line of the reference, and what was handed on, at work. -/
structure RW (C : Ctx) (H : AHeap) (col : Nat → Nat) (o hh : Nat) (y : LineW) (o0 e0 o1 e1 f s0 s1 : Value) : Prop where
  obj : Obj1 H o (lineCells y.x o0 e0 o1 e1 f)
  c7 : col o = 7
  ln : PLine C H col y.x o0 e0 o1 e1 f
  hob : Obj1 H hh [s0, s1]
  c9 : col hh = 9
  r0 : WRow C H col 10 s0 y.h0
  r1 : WRow C H col 11 s1 y.h1
def RWork (C : Ctx) (H : AHeap) (col : Nat → Nat) (o hh : Nat) (y : LineW) : Prop := ∃ o0 e0 o1 e1 f s0 s1, RW C H col o hh y o0 e0 o1 e1 f s0 s1
def allR : List Nat := [7, 9, 10, 11]

section
variable {C : Ctx} {H H' : AHeap} {col col' : Nat → Nat} {A : List Nat}
theorem RW.step (hs : Step A H col H' col') (hA : ∀ c ∈ A, c ≠ 0 ∧ c ≠ 7 ∧ c ≠ 9 ∧ c ≠ 10 ∧ c ≠ 11) {o hh : Nat} {y : LineW} {o0 e0 o1 e1 f s0 s1 : Value} (h : RW C H col o hh y o0 e0 o1 e1 f s0 s1) : RW C H' col' o hh y o0 e0 o1 e1 f s0 s1 :=
  ⟨Obj1.step hs h.obj (fun hm => by have := hA _ hm; rw [h.c7] at this; omega), by rw [hs.keep o (h.obj.lt hs.wf)]; exact h.c7, h.ln.step hs (fun hm => by have := hA _ hm; omega),
    Obj1.step hs h.hob (fun hm => by have := hA _ hm; rw [h.c9] at this; omega), by rw [hs.keep hh (h.hob.lt hs.wf)]; exact h.c9, h.r0.step hs (fun hm => by have := hA _ hm; omega) (fun hm => by have := hA _ hm; omega), h.r1.step hs (fun hm => by have := hA _ hm; omega) (fun hm => by have := hA _ hm; omega)⟩
/-- What was handed on at an end. -/
theorem RW.at {o hh : Nat} {y : LineW} {o0 e0 o1 e1 f s0 s1 : Value} (W : RW C H col o hh y o0 e0 o1 e1 f s0 s1) {t : Nat} (ht : t ≤ 1) :
    loadN C H.get ⟨hh, t, none⟩ 1 = some [if t = 0 then s0 else s1] ∧ WRow C H col (10 + t) (if t = 0 then s0 else s1) (heardW y t) := by
  have ld := fun off n => Obj1.load (C := C) (off := off) (n := n) W.hob
  rcases two ht with rfl | rfl
  · exact ⟨by simp [ld], by simpa [heardW] using W.r0⟩
  · exact ⟨by simp [ld], by simpa [heardW] using W.r1⟩
/-- Another line. -/
theorem RW.setL {o hh : Nat} {y : LineW} {o0 e0 o1 e1 f s0 s1 : Value} (W : RW C H col o hh y o0 e0 o1 e1 f s0 s1) (st : Step [7] H col H' col) {X : LineA} {p0 q0 p1 q1 g : Value} (ho : Obj1 H' o (lineCells X p0 q0 p1 q1 g)) (hp : PLine C H col X p0 q0 p1 q1 g) : RW C H' col o hh ⟨X, y.h0, y.h1⟩ p0 q0 p1 q1 g s0 s1 :=
  ⟨ho, W.c7, hp.step st (by simp), Obj1.step st W.hob (by rw [W.c9]; simp), W.c9, W.r0.step st (by simp) (by simp), W.r1.step st (by simp) (by simp)⟩
/-- More is handed on. -/
theorem RW.setH {H2 : AHeap} {o hh : Nat} {y : LineW} {o0 e0 o1 e1 f s0 s1 v : Value} (W : RW C H col o hh y o0 e0 o1 e1 f s0 s1) {t : Nat} (ht : t ≤ 1) {F : List (List UInt8)} (st : Step [10 + t] H col H' col') (hr : WRow C H' col' (10 + t) v (heardW y t ++ F)) (st2 : Step [9] H' col' H2 col')
    (ho : Obj1 H2 hh (([s0, s1].take t) ++ ([v] ++ [s0, s1].drop (t + 1)))) : RWork C H2 col' o hh (hearF y t y.x F) := by
  have k7 : col' o = 7 := by rw [st.keep o (W.obj.lt st.wf)]; exact W.c7
  have k9 : col' hh = 9 := by rw [st.keep hh (W.hob.lt st.wf)]; exact W.c9
  have ob := Obj1.step st W.obj (by rw [W.c7]; simp; omega)
  have ob2 := Obj1.step st2 ob (by rw [k7]; simp)
  have ln2 := (W.ln.step st (by simp; omega)).step st2 (by simp)
  rcases two ht with rfl | rfl
  · exact ⟨o0, e0, o1, e1, f, v, s1, ⟨ob2, k7, ln2, by simpa using ho, k9, by simpa [heardW, hearF] using hr.step st2 (by simp) (by simp), (W.r1.step st (by simp) (by simp)).step st2 (by simp) (by simp)⟩⟩
  · exact ⟨o0, e0, o1, e1, f, s0, v, ⟨ob2, k7, ln2, by simpa using ho, k9, (W.r0.step st (by simp) (by simp)).step st2 (by simp) (by simp), by simpa [heardW, hearF] using hr.step st2 (by simp) (by simp)⟩⟩
theorem LineO.pline {lo : Nat} {x : LineA} {v : Value} (h : LineO C H lo x v) (hc : ∀ b, lo ≤ b → col b = 0) : ∃ o0 e0 o1 e1 f, v = lineV x.a.last o0 x.a.got e0 x.b.last o1 x.b.got e1 f ∧ PLine C H col x o0 e0 o1 e1 f :=
  let ⟨a, b, c, d, e, h0, h1, h2, h3, h4, h5⟩ := h; ⟨a, b, c, d, e, h0, ⟨h1.plain hc, h2.plain hc, h3.plain hc, h4.plain hc, h5.plain hc⟩⟩
end

theorem hearF_x (y : LineW) (t : Int) (X : LineA) (F : List (List UInt8)) : hearF ⟨X, y.h0, y.h1⟩ t X F = hearF y t X F := by
  unfold hearF
  split <;> rfl

/-- All packets come. -/
def calmL : ICode := (.loop
      (.seq (.seq (.region [⟨(some 34), .faddr 8 (.t 6), none⟩,
       ⟨(some 35), .load1 (.t 34), none⟩,
       ⟨(some 36), .len (.t 35), none⟩,
       ⟨(some 37), .bin .num .gtr (.t 36) (.c (.int .i64 0)), none⟩])
      (.cond (.t 37)
       .skip
       (.exit 2)))
      (.block 3
       (.seq (.region [⟨(some 38), .faddr 8 (.t 6), none⟩,
        ⟨(some 39), .load1 (.t 38), none⟩,
        ⟨(some 40), .idxS 2 (.t 39) (.c (.int .i64 0)), none⟩,
        ⟨(some 41), .faddr 0 (.t 40), none⟩,
        ⟨(some 42), .load1 (.t 41), none⟩,
        ⟨(some 8), .mv (.t 42), none⟩])
       (.seq (.region [⟨(some 44), .loadN 9 (.t 6), none⟩,
        ⟨(some 45), .build [(.int .u8 0), (.int .i64 0), (.int .i64 0), (.int .i64 0), (.int .i64 0), (.slice none 0 0)] [(0, 1, (.c (.int .u8 3)))], none⟩,
        ⟨(some 46), .call (.c (.func (.func 19) #[] #[])) [(.t 44), (.t 45)], none⟩,
        ⟨(some 43), .mv (.t 46), none⟩,
        ⟨(some 47), .extract 0 (.t 43), none⟩,
        ⟨(some 48), .extract 1 (.t 43), none⟩,
        ⟨(some 49), .extract 2 (.t 43), none⟩,
        ⟨(some 9), .mk [(.int .i64 0), (.slice none 0 0), (.int .i64 0), (.slice none 0 0), (.int .i64 0), (.slice none 0 0), (.int .i64 0), (.slice none 0 0), (.slice none 0 0)], none⟩,
        ⟨none, .store 9 (.t 9) (.t 47), none⟩,
        ⟨(some 10), .mv (.t 48), none⟩,
        ⟨(some 11), .mv (.t 49), none⟩])
       (.seq (.region [⟨(some 50), .loadN 9 (.t 9), none⟩,
        ⟨none, .store 9 (.t 6) (.t 50), none⟩])
       (.region [⟨(some 51), .mv (.t 8), none⟩,
        ⟨(some 52), .mv (.t 8), none⟩,
        ⟨(some 53), .idxA 2 1 (.t 5) (.t 52), none⟩,
        ⟨(some 54), .load1 (.t 53), none⟩,
        ⟨(some 55), .mv (.t 10), none⟩,
        ⟨(some 56), .append 1 24 (.t 54) (.t 55), none⟩,
        ⟨(some 57), .idxA 2 1 (.t 5) (.t 51), none⟩,
        ⟨none, .store 1 (.t 57) (.t 56), none⟩])))))))

set_option maxHeartbeats 4000000 in
theorem refCalm_wp (w : World) {H : AHeap} {col : Nat → Nat} {T : Env} {o hh : Nat} {y : LineW} (hw : WF H) (hbare : Bare col H) (hR : RWork (ctxW w) H col o hh y) (hok : LineOK y.x) {n0 n1 : Nat} (hr : Room y n0 n1) (h0 : n0 ≤ 50000) (h1 : n1 ≤ 50000)
    (t5 : T.val 5 = .pointer (some ⟨hh, 0, none⟩)) (t6 : T.val 6 = .pointer (some ⟨o, 0, none⟩)) :
    wpC (ctxW w) none calmL (fun e s => e = .exit 2 ∧ ∃ (T' : Env) (H' : AHeap) (col' : Nat → Nat) (z : LineW), s = ⟨T', H', []⟩ ∧ (T'.val 2 = T.val 2 ∧ T'.val 3 = T.val 3 ∧ T'.val 5 = T.val 5 ∧ T'.val 6 = T.val 6 ∧ T'.val 7 = T.val 7) ∧ Step allR H col H' col' ∧ RWork (ctxW w) H' col' o hh z ∧ Calm y z ∧ LineOK z.x ∧ z.h0.length ≤ n0 ∧ z.h1.length ≤ n1) ⟨T, H, []⟩ := by
  unfold calmL
  refine wp_loop' (fun n s => ∃ (T' : Env) (Hc : AHeap) (colc : Nat → Nat) (z : LineW), s = ⟨T', Hc, []⟩ ∧ n = rank z.x.fly ∧ (T'.val 2 = T.val 2 ∧ T'.val 3 = T.val 3 ∧ T'.val 5 = T.val 5 ∧ T'.val 6 = T.val 6 ∧ T'.val 7 = T.val 7) ∧ Step allR H col Hc colc ∧ RWork (ctxW w) Hc colc o hh z ∧ (∀ u, Calm z u → Calm y u) ∧ LineOK z.x ∧ Room z n0 n1) (n := rank y.x.fly)
    ⟨T, H, col, y, rfl, rfl, ⟨rfl, rfl, rfl, rfl, rfl⟩, Step.of_same (Same.refl hw) hbare, hR, fun u h => h, hok, hr⟩ ?_
  rintro n s K ⟨T', Hc, colc, z, rfl, rfl, ⟨e2, e3, e5, e6, e7⟩, st, ⟨o0, x0, o1, x1, f, s0, s1, W⟩, hcalm, hzok, hroom⟩ hnext hexit
  rw [t5] at e5
  rw [t6] at e6
  obtain ⟨a1, c1, rfl⟩ := W.ln.i0.val
  obtain ⟨a2, c2, rfl⟩ := W.ln.i1.val
  obtain ⟨a3, c3, rfl⟩ := W.ln.i2.val
  obtain ⟨a4, c4, rfl⟩ := W.ln.i3.val
  obtain ⟨a5, c5, rfl⟩ := W.ln.i4.val
  have ldo := fun off n => Obj1.load (C := ctxW w) (off := off) (n := n) W.obj
  by_cases hlt : 0 < z.x.fly.length
  · have hto := (hzok.2.2.2 0 hlt).1
    obtain ⟨t, ht, htl⟩ : ∃ t : Nat, z.x.fly[0].1 = t ∧ t ≤ 1 := ⟨z.x.fly[0].1.toNat, by omega, by omega⟩
    have htt2 : (t : Int) < 2 := by omega
    obtain ⟨b, db, dc', hbv, l1, l2, _, hbs⟩ := W.ln.i4.its.at hlt
    subst hbv
    rw [ht] at l1
    simp at l1
    have hne : z.x.fly ≠ [] := by intro h; rw [h] at hlt; simp at hlt
    simp [e6, ldo, lineCells, hlt, l1]
    obtain ⟨hd, hcome⟩ := doF_come hzok hlt
    obtain ⟨X, hX⟩ : ∃ X, X = (doF z.x comeA).1 := ⟨_, rfl⟩
    obtain ⟨F, hF⟩ : ∃ F, F = (doF z.x comeA).2.1 := ⟨_, rfl⟩
    have hdo : doF z.x comeA = (X, F, 0) := by rw [hX, hF, ← hd]
    rw [← hX, ← hF, ht] at hcome
    have hcall := refDo_spec w st.wf' W.ln.r (lineS_ok hzok) (a := comeA) (da := none) (dc := 0) (Bs.nil _ _)
    rw [hdo] at hcall
    simp only [lineV, actV, comeA, List.length_nil] at hcall
    refine wpCall_mono hcall ?_
    rintro _ H1 ⟨hs1, lv, fv, rfl, hlv, hfv⟩
    dsimp only at hlv hfv
    have n1 := hs1.grow.next
    have st1 : Step [] Hc colc H1 colc := Step.of_same hs1 st.bare
    obtain ⟨p0, p1, p2, p3, p4, rfl, PL⟩ := hlv.pline (col := colc) (fun b hb => st.bare b hb)
    have hW1 := FrO.w (col := colc) hfv (fun b hb => st.bare b hb)
    obtain ⟨u0, v0, rfl⟩ := PL.i0.val
    obtain ⟨u1, v1, rfl⟩ := PL.i1.val
    obtain ⟨u2, v2, rfl⟩ := PL.i2.val
    obtain ⟨u3, v3, rfl⟩ := PL.i3.val
    obtain ⟨u4, v4, rfl⟩ := PL.i4.val
    obtain ⟨fa, fc, rfl⟩ := hfv.frs.val
    simp [lineV]
    refine w_mk st1.wf' fun t9 H2 ht9 => ?_
    have n9 := ht9.new
    have n9' := ht9.next
    refine w_store (p := t9) (off := 0) (xs := lineCells X (.slice u0 X.a.opens.length v0) (.slice u1 X.a.early.length v1) (.slice u2 X.b.opens.length v2) (.slice u3 X.b.early.length v3) (.slice u4 X.fly.length v4)) ht9.same.wf' ht9.obj (by simp) (by simp [lineCells]) rfl (by simp) (by simp) (by simp [lineCells]) fun H3 hm3 hn3 ho3 => ?_
    simp [lineCells] at ho3
    have hs13 : Same H1 H3 := ht9.same.then_mod hm3 (by omega)
    have s13 : Step [] H1 colc H3 colc := Step.of_same hs13 st1.bare
    have st3 : Step [] Hc colc H3 colc := st1.trans s13
    have W3 := W.step st3 (by simp)
    have PL3 := PL.step s13 (by simp)
    have ld9 := fun off n => Obj1.load (C := ctxW w) (off := off) (n := n) ho3
    simp [ld9]
    refine w_store (p := o) (off := 0) (xs := lineCells X (.slice u0 X.a.opens.length v0) (.slice u1 X.a.early.length v1) (.slice u2 X.b.opens.length v2) (.slice u3 X.b.early.length v3) (.slice u4 X.fly.length v4)) st3.wf' W3.obj (by simp [e6]) (by simp [lineCells]) (by simp [lineCells]) (by simp) (by simp [lineCells]) (by simp [lineCells]) fun H4 hm4 hn4 ho4 => ?_
    have st4 : Step [7] H3 colc H4 colc := Step.of_mod hm4 st3.bare (by rw [W3.c7]; simp)
    have W4 := W3.setL st4 (X := X) (by simpa [lineCells] using ho4) PL3
    obtain ⟨ldh, wr⟩ := W4.at htl
    have hW4 := (hW1.step s13 (by simp)).step st4 (by simp)
    have hlen := come_h hzok
    have hrk := come_rank hzok hne
    have hFl : F.length ≤ 8 := by
      rw [hcome] at hlen
      rcases two htl with rfl | rfl
      · simpa [hearF] using hlen.1
      · simpa [hearF] using hlen.2
    have hhl : (heardW ⟨X, z.h0, z.h1⟩ t).length ≤ 50000 := by
      unfold heardW
      have := hroom.1
      have := hroom.2
      split <;> (dsimp only; omega)
    obtain ⟨sa, sc, hsv⟩ := wr.val
    simp [e5, htt2, ldh]
    refine w_appH (k := 10 + t) (l := heardW ⟨X, z.h0, z.h1⟩ t) (fr := F) st4.wf' st4.bare (by omega) (by simpa using wr) (by simpa using hW4) (by simp [roomy]; omega) fun v5 H5 col5 st5 w5 => ?_
    obtain ⟨ya, yc, rfl⟩ := w5.val
    have hob5 := Obj1.step st5 W4.hob (by rw [W4.c9]; simp; omega)
    have hc9 : col5 hh = 9 := by rw [st5.keep hh (W4.hob.lt st4.wf')]; exact W4.c9
    simp [e5, htt2]
    refine w_store (p := hh) (off := t) (xs := [.slice ya (heardW ⟨X, z.h0, z.h1⟩ t ++ F).length yc]) st5.wf' hob5 (by simp) (by simp) (by simp) (by simp) (by simp; omega) (by simp) fun H6 hm6 hn6 ho6 => ?_
    have st6 : Step [9] H5 col5 H6 col5 := Step.of_mod hm6 st5.bare (by rw [hc9]; simp)
    have W6 := W4.setH htl st5 w5 st6 (by simpa using ho6)
    dsimp only at W6
    rw [hearF_x, ← hcome] at W6
    simp
    have stA : Step allR Hc colc H6 col5 := (((st3.more (by simp)).trans (st4.more (by simp [allR]))).trans (st5.more (fun c hc => by simp at hc; subst hc; rcases two htl with rfl | rfl <;> simp [allR]))).trans (st6.more (by simp [allR]))
    refine hnext (rank (comeW z).x.fly) _ hrk ⟨_, H6, col5, comeW z, rfl, rfl, ⟨by simp [e2], by simp [e3], by simp [e5, t5], by simp [e6, t6], by simp [e7]⟩, st.trans stA, W6, fun u hu => hcalm u (.step hne hu), comeW_ok hzok, ?_, ?_⟩
    · have := hroom.1; have := hlen.1; omega
    · have := hroom.2; have := hlen.2; omega
  · have hn : z.x.fly = [] := List.length_eq_zero_iff.1 (by omega)
    simp [e6, ldo, lineCells, hlt]
    refine hexit _ _ (by simp) ?_
    exact ⟨rfl, _, Hc, colc, z, rfl, ⟨by simp [e2], by simp [e3], by simp [e5, t5], by simp [e6, t6], by simp [e7]⟩, st, ⟨_, _, _, _, _, _, _, W⟩, hcalm z (.done hn), hzok, by have := hroom.1; omega, by have := hroom.2; omega⟩
end Go.Ai.Wire

namespace Go.Ai.Wire
open Go.Proofs Go.IntWalk
attribute [local irreducible] Trie.put

theorem lineS_zero : LineS zeroL := by unfold LineS EndS zeroL; simp

def RSettleRes (C : Ctx) (H : AHeap) (x : LineA) (r : Value) (H' : AHeap) : Prop := Same H H' ∧ ∃ z lv g0 g1 e, r = .tuple #[lv, .agg #[g0, g1], .int .i64 e] ∧ LineR C H' z.x lv ∧ Frs C H' g0 z.h0 ∧ Frs C H' g1 z.h1 ∧ z.h0.length ≤ 4000 ∧ z.h1.length ≤ 4000 ∧ LineS z.x ∧ ((LineOK x ∧ e = 0 ∧ Settled ⟨x, [], []⟩ z) ∨ (¬ LineOK x ∧ e = 4 ∧ z = ⟨zeroL, [], []⟩))

set_option maxHeartbeats 4000000 in
theorem refSettle_spec (w : World) {H : AHeap} (hw : WF H) {x : LineA} {v : Value} (hx : LineR (ctxW w) H x v) (hsm : LineS x) : wpCall (ctxW w) (.func (.func 15) #[] #[]) [v] H (RSettleRes (ctxW w) H x) := by
  obtain ⟨o0, e0, o1, e1, f, rfl, h1, h2, h3, h4, h5⟩ := hx
  obtain ⟨a1, c1, rfl⟩ := h1.val
  obtain ⟨a2, c2, rfl⟩ := h2.val
  obtain ⟨a3, c3, rfl⟩ := h3.val
  obtain ⟨a4, c4, rfl⟩ := h4.val
  obtain ⟨a5, c5, rfl⟩ := h5.val
  refine wpCall_fn rfl (get15 w) ?_
  simp [ir15]
  refine w_box (cs := lineCells x (.slice a1 x.a.opens.length c1) (.slice a2 x.a.early.length c2) (.slice a3 x.b.opens.length c3) (.slice a4 x.b.early.length c4) (.slice a5 x.fly.length c5)) hw (by simp [lineV, lineCells]) rfl (by simp [lineCells]) fun p H1 hp => ?_
  refine w_mk hp.same.wf' fun t H2 ht => ?_
  refine w_mk ht.same.wf' fun u H3 hu => ?_
  simp
  refine w_mk hu.same.wf' fun hh H4 hhm => ?_
  have np := hp.new
  have np' := hp.next
  have nt := ht.new
  have nt' := ht.next
  have nu := hu.new
  have nu' := hu.next
  have nh := hhm.new
  have nh' := hhm.next
  have hs14 := (ht.same.trans hu.same).trans hhm.same
  have hs04 := hp.same.trans hs14
  have ht4 := (ht.obj.same hu.same).same hhm.same
  have hu4 := hu.obj.same hhm.same
  have hh4 := hhm.obj
  have hp4 := hp.obj.same hs14
  have ldp := fun off n => Obj1.load (C := ctxW w) (off := off) (n := n) hp4
  have hx4 : LineR (ctxW w) H4 x (lineV x.a.last (.slice a1 x.a.opens.length c1) x.a.got (.slice a2 x.a.early.length c2) x.b.last (.slice a3 x.b.opens.length c3) x.b.got (.slice a4 x.b.early.length c4) (.slice a5 x.fly.length c5)) := ⟨_, _, _, _, _, rfl, h1.same hs04, h2.same hs04, h3.same hs04, h4.same hs04, h5.same hs04⟩
  simp [ldp, lineCells]
  have hcall := isLine_spec w hs04.wf' hx4 (by have := hsm.1.2.1; have := hsm.2.1.2.1; omega)
  simp only [lineV] at hcall
  refine wpCall_mono hcall ?_
  rintro _ H5 ⟨hs5, b5, rfl, hb5⟩
  have hs05 := hs04.trans hs5
  have n5 := hs5.grow.next
  have ht5 := ht4.same hs5
  have hu5 := hu4.same hs5
  have hh5 := hh4.same hs5
  cases b5 with
  | false =>
    have hok : ¬ LineOK x := fun h => by simpa using hb5.2 h
    have ldh := fun off n => Obj1.load (C := ctxW w) (off := off) (n := n) hh5
    have f1 : free (ctxW w) (.exp [hh] []) (.exp [t] [t]) = true := free_rd_mod fun y hy => by simp at hy; omega
    simp [ldh]
    refine d_store (p := t) (off := 0) (xs := [.int .i64 0, .slice none 0 0, .int .i64 0, .slice none 0 0, .int .i64 0, .slice none 0 0, .int .i64 0, .slice none 0 0, .slice none 0 0]) hs05.wf' (by simp [f1]) ht5 (by simp) (by simp) rfl (by simp) (by simp) (by simp) fun H6 hm6 hn6 ho6 => ?_
    simp
    refine d_store (p := u) (off := 0) (xs := [.slice none 0 0, .slice none 0 0]) hm6.wf' (by simp) (hu5.mod hm6 (by omega)) (by simp) (by simp) (by simp) (by simp) (by simp) (by simp) fun H7 hm7 hn7 ho7 => ?_
    have ldt := fun off n => Obj1.load (C := ctxW w) (off := off) (n := n) (ho6.mod hm7 (by omega))
    have ldu := fun off n => Obj1.load (C := ctxW w) (off := off) (n := n) ho7
    simp [ldt, ldu]
    exact ⟨(hs05.then_mod hm6 (by omega)).then_mod hm7 (by omega), ⟨zeroL, [], []⟩, _, _, _, _, rfl, (LineO.zero (lo := 0)).r, Frs.nil _ _, Frs.nil _ _, by simp, by simp, lineS_zero, .inr ⟨hok, rfl, rfl⟩⟩
  | true =>
    have hok := hb5.1 rfl
    have hp5 := hp4.same hs5
    have ldp5 := fun off n => Obj1.load (C := ctxW w) (off := off) (n := n) hp5
    simp [ldp5, lineCells]
    have hcall := copyLine_spec w hs05.wf' (hx4.same hs5) hsm
    simp only [lineV] at hcall
    refine wpCall_mono hcall ?_
    rintro r6 H6 ⟨hs6, hn6⟩
    have n6 := hs6.grow.next
    obtain ⟨m1, m2, p0, p1, p2, p3, p4, rfl, l1, l2, l3, ⟨mid0, _, _, z0, b1, b2, b3, b4⟩, ⟨mid1, _, _, z1, d1, d2, d3, d4⟩, i4⟩ := hn6
    simp only [endV, Value.agg.injEq, Array.mk.injEq, List.cons.injEq] at z0 z1
    obtain ⟨_, rfl, _, rfl, _⟩ := z0
    obtain ⟨_, rfl, _, rfl, _⟩ := z1
    obtain ⟨u1, v1, rfl⟩ := b3.its.val
    obtain ⟨u2, v2, rfl⟩ := b4.its.val
    obtain ⟨u3, v3, rfl⟩ := d3.its.val
    obtain ⟨u4, v4, rfl⟩ := d4.its.val
    obtain ⟨u5, v5, rfl⟩ := i4.its.val
    simp [lineV]
    refine w_mk hs6.wf' fun o H7 ho => ?_
    have no := ho.new
    have no' := ho.next
    refine w_store (p := o) (off := 0) (xs := lineCells x (.slice u1 x.a.opens.length v1) (.slice u2 x.a.early.length v2) (.slice u3 x.b.opens.length v3) (.slice u4 x.b.early.length v4) (.slice u5 x.fly.length v5)) ho.same.wf' ho.obj (by simp) (by simp [lineCells]) rfl (by simp) (by simp) (by simp [lineCells]) fun H8 hm8 hn8 ho8 => ?_
    simp [lineCells] at ho8
    have hs68 : Same H6 H8 := ho.same.then_mod hm8 (by omega)
    have hs58 := hs6.trans hs68
    have hs08 := hs05.trans hs58
    have n8 := hm8.grow.next
    obtain ⟨col0, hcol0⟩ : ∃ col0 : Nat → Nat, col0 = fun b => if b = t ∨ b = u then 13 else if b = hh then 9 else if b = o then 7 else if b < H5.next then 14 else 0 := ⟨_, rfl⟩
    have hct : col0 t = 13 := by rw [hcol0]; simp
    have hcu : col0 u = 13 := by rw [hcol0]; simp
    have hch : col0 hh = 9 := by rw [hcol0]; dsimp only; rw [if_neg (by omega), if_pos rfl]
    have hco : col0 o = 7 := by rw [hcol0]; dsimp only; rw [if_neg (by omega), if_neg (by omega), if_pos rfl]
    have hc0 : ∀ b, H5.next ≤ b → b ≠ o → col0 b = 0 := fun b hb hbo => by rw [hcol0]; dsimp only; rw [if_neg (by omega), if_neg (by omega), if_neg hbo, if_neg (by omega)]
    have hb0 : Bare col0 H8 := fun b hb => hc0 b (by omega) (by omega)
    have hcn : ∀ b, b < H5.next → b ≠ t → b ≠ u → b ≠ hh → col0 b = 14 := fun b hb k1 k2 k3 => by rw [hcol0]; dsimp only; rw [if_neg (by omega), if_neg k3, if_neg (by omega), if_pos hb]
    have RW0 : RWork (ctxW w) H8 col0 o hh ⟨x, [], []⟩ := ⟨_, _, _, _, _, _, _, ⟨by simpa [lineCells] using ho8, hco, ⟨b3.pits hs68 fun b k1 k2 => hc0 b (by omega) (by omega), b4.pits hs68 fun b k1 k2 => hc0 b (by omega) (by omega), d3.pits hs68 fun b k1 k2 => hc0 b (by omega) (by omega), d4.pits hs68 fun b k1 k2 => hc0 b (by omega) (by omega), i4.pits hs68 fun b k1 k2 => hc0 b (by omega) (by omega)⟩, hh5.same hs58, hch, WRow.nil _ _ _ _, WRow.nil _ _ _ _⟩⟩
    simp
    refine wp_loop' (fun n s => ∃ (T : Env) (Hc : AHeap) (i : Nat) (col : Nat → Nat) (z : LineW), s = ⟨T, Hc, []⟩ ∧ n = 3 - i ∧ i ≤ 3 ∧ T.val 2 = .pointer (some ⟨t, 0, none⟩) ∧ T.val 3 = .pointer (some ⟨u, 0, none⟩) ∧ T.val 5 = .pointer (some ⟨hh, 0, none⟩) ∧ T.val 6 = .pointer (some ⟨o, 0, none⟩) ∧ T.val 7 = .int .i64 i ∧
      Step allR H8 col0 Hc col ∧ RWork (ctxW w) Hc col o hh z ∧ LineOK z.x ∧ z.h0.length ≤ 1000 * i ∧ z.h1.length ≤ 1000 * i ∧ (i = 0 → z = ⟨x, [], []⟩) ∧ (i = 1 → Calm ⟨x, [], []⟩ z) ∧ (i = 2 → ∃ y1, Calm ⟨x, [], []⟩ y1 ∧ Calm (againW y1 0) z) ∧ (i = 3 → Settled ⟨x, [], []⟩ z)) (n := 3)
      ⟨_, H8, 0, col0, ⟨x, [], []⟩, rfl, rfl, by omega, by simp, by simp, by simp, by simp, by simp, Step.of_same (Same.refl hs08.wf') hb0, RW0, hok, by simp, by simp, fun _ => rfl, fun h => by omega, fun h => by omega, fun h => by omega⟩ ?_
    rintro n s K ⟨T, Hc, i, col, z, rfl, rfl, hi, t2, t3, t5, t6, t7, st, W, hzok, k0, k1, z0, z1, z2, z3⟩ hnext hexit
    by_cases hlt : i < 3
    · have e1 : (i : Int) < 3 := by omega
      by_cases hi0 : i = 0
      · subst hi0
        simp [t7]
        have hrk := rank_le z.x.fly
        have hfl := hzok.2.2.1
        refine wpC_mono (refCalm_wp w st.wf' st.bare W hzok (n0 := 1000) (n1 := 1000) ⟨by omega, by omega⟩ (by omega) (by omega) (by simp [t5]) (by simp [t6])) ?_
        rintro e s ⟨rfl, T', H9, col9, z9, rfl, ⟨f2, f3, f5, f6, f7⟩, st9, W9, cm9, ok9, q0, q1⟩
        simp [t2] at f2
        simp [t3] at f3
        simp [t5] at f5
        simp [t6] at f6
        simp [t7] at f7
        simp [f7]
        refine hnext 2 _ (by omega) ⟨_, H9, 1, col9, z9, rfl, rfl, by omega, by simp [f2], by simp [f3], by simp [f5], by simp [f6], by simp; rw [i64_in _ (by omega)], st.trans st9, W9, ok9, by omega, by omega, fun h => by omega, fun _ => ?_, fun h => by omega, fun h => by omega⟩
        rw [z0 rfl] at cm9
        exact cm9
      · obtain ⟨j, rfl⟩ : ∃ j, i = j + 1 := ⟨i - 1, by omega⟩
        have hj : j ≤ 1 := by omega
        have e2 : (0 : Int) < (j : Int) + 1 := by omega
        have e3 : ((j : Int) + 1) < 3 := by omega
        have hw1 : IntKind.i64.wrap (j : Int) = j := i64_in _ (by omega)
        obtain ⟨o0, x0, o1, x1, f, s0, s1, W0⟩ := W
        obtain ⟨y1, w1, rfl⟩ := W0.ln.i0.val
        obtain ⟨y2, w2, rfl⟩ := W0.ln.i1.val
        obtain ⟨y3, w3, rfl⟩ := W0.ln.i2.val
        obtain ⟨y4, w4, rfl⟩ := W0.ln.i3.val
        obtain ⟨y5, w5, rfl⟩ := W0.ln.i4.val
        have ldo := fun off n => Obj1.load (C := ctxW w) (off := off) (n := n) W0.obj
        simp [t6, t7, e2, e3, ldo, lineCells, hw1]
        have hcall := refDo_spec w st.wf' W0.ln.r (lineS_ok hzok) (a := againA j) (da := none) (dc := 0) (Bs.nil _ _)
        rw [doF_again hzok hj] at hcall
        simp only [lineV, actV, againA, List.length_nil] at hcall
        refine wpCall_mono hcall ?_
        rintro _ H9 ⟨hs9, lv, fv, rfl, hlv, hfv⟩
        dsimp only at hlv hfv
        have n9 := hs9.grow.next
        have s9 : Step [] Hc col H9 col := Step.of_same hs9 st.bare
        obtain ⟨g0, g1, g2, g3, g4, rfl, PL⟩ := hlv.pline (col := col) (fun b hb => st.bare b hb)
        obtain ⟨X, hX⟩ : ∃ X, X = (againW z j).x := ⟨_, rfl⟩
        rw [← hX] at PL ⊢
        obtain ⟨x5, q5, rfl⟩ := PL.i0.val
        obtain ⟨x6, q6, rfl⟩ := PL.i1.val
        obtain ⟨x7, q7, rfl⟩ := PL.i2.val
        obtain ⟨x8, q8, rfl⟩ := PL.i3.val
        obtain ⟨x9, q9, rfl⟩ := PL.i4.val
        have W9 := W0.step s9 (by simp)
        simp [lineV]
        refine w_store (p := o) (off := 0) (xs := lineCells X (.slice x5 X.a.opens.length q5) (.slice x6 X.a.early.length q6) (.slice x7 X.b.opens.length q7) (.slice x8 X.b.early.length q8) (.slice x9 X.fly.length q9)) s9.wf' W9.obj (by simp [t6]) (by simp [lineCells]) (by simp [lineCells]) (by simp) (by simp [lineCells]) (by simp [lineCells]) fun H10 hm10 hn10 ho10 => ?_
        have s10 : Step [7] H9 col H10 col := Step.of_mod hm10 s9.bare (by rw [W9.c7]; simp)
        have W10 := W9.setL s10 (X := X) (by simpa [lineCells] using ho10) PL
        have hag : (⟨X, z.h0, z.h1⟩ : LineW) = againW z j := by rw [hX, again_x z j]
        rw [hag] at W10
        have hst := doW_ok hzok (againA j)
        have hfine : FineA z.x.fly (againA j) := .inr (.inl ⟨rfl, rfl, ⟨by show (0 : Int) ≤ j; omega, by show (j : Int) ≤ 1; omega⟩, rfl, rfl, rfl⟩)
        have edo : doW z (againA j) = (againW z j, 0) := by
          unfold doW
          rw [if_pos hfine]
          unfold actW
          rw [if_neg (by show ¬ ((2 : Int) = 1); decide), if_pos (by rfl)]
          rfl
        rw [edo] at hst
        have hh2 : (againW z j).h0 = z.h0 ∧ (againW z j).h1 = z.h1 := putsW_h _ _
        have hrk := rank_le (againW z j).x.fly
        have hfl := hst.2.2.1
        dsimp only at hst hfl
        simp
        refine wpC_mono (refCalm_wp w s10.wf' s10.bare ⟨_, _, _, _, _, _, _, W10⟩ hst (n0 := 1000 * (j + 2)) (n1 := 1000 * (j + 2)) ⟨by rw [hh2.1]; omega, by rw [hh2.2]; omega⟩ (by omega) (by omega) (by simp [t5]) (by simp [t6])) ?_
        rintro e s ⟨rfl, T', H11, col11, z11, rfl, ⟨f2, f3, f5, f6, f7⟩, st11, W11, cm11, ok11, k2, k3⟩
        simp [t2] at f2
        simp [t3] at f3
        simp [t5] at f5
        simp [t6] at f6
        simp [t7] at f7
        simp [f7]
        refine hnext (3 - (j + 2)) _ (by omega) ⟨_, H11, j + 2, col11, z11, rfl, rfl, by omega, by simp [f2], by simp [f3], by simp [f5], by simp [f6], by simp; rw [i64_in _ (by omega)]; omega, (st.trans ((s9.more (by simp)).trans (s10.more (by simp [allR])))).trans st11, W11, ok11, by omega, by omega, fun h => by omega, fun h => by omega, fun h => ?_, fun h => ?_⟩
        · have : j = 0 := by omega
          subst this
          exact ⟨z, z1 rfl, cm11⟩
        · have : j = 1 := by omega
          subst this
          obtain ⟨y1, r1, r2⟩ := z2 rfl
          exact ⟨y1, z, r1, r2, cm11⟩
    · have : i = 3 := by omega
      subst this
      simp [t7]
      refine hexit _ _ (by simp) ?_
      obtain ⟨q0, q1, q2, q3, q4, s0, s1, W0⟩ := W
      obtain ⟨y1, w1, rfl⟩ := W0.ln.i0.val
      obtain ⟨y2, w2, rfl⟩ := W0.ln.i1.val
      obtain ⟨y3, w3, rfl⟩ := W0.ln.i2.val
      obtain ⟨y4, w4, rfl⟩ := W0.ln.i3.val
      obtain ⟨y5, w5, rfl⟩ := W0.ln.i4.val
      obtain ⟨sa0, sc0, rfl⟩ := W0.r0.val
      obtain ⟨sa1, sc1, rfl⟩ := W0.r1.val
      have ldo := fun off n => Obj1.load (C := ctxW w) (off := off) (n := n) W0.obj
      have ldh := fun off n => Obj1.load (C := ctxW w) (off := off) (n := n) W0.hob
      have hctc : col t = 13 := by rw [st.keep t (by omega)]; exact hct
      have hcuc : col u = 13 := by rw [st.keep u (by omega)]; exact hcu
      have hto : t ≠ o := by intro h; have := W0.c7; rw [← h, hctc] at this; omega
      have hth : t ≠ hh := by intro h; have := W0.c9; rw [← h, hctc] at this; omega
      have f1 : free (ctxW w) (.exp [o] []) (.exp [t] [t]) = true := free_rd_mod fun y hy => by simp at hy; omega
      have f2 : free (ctxW w) (.exp [hh] []) (.exp [t] [t]) = true := free_rd_mod fun y hy => by simp at hy; omega
      have htc := Obj1.step st ((ht5.same hs58)) (by rw [hct]; simp [allR])
      have huc := Obj1.step st ((hu5.same hs58)) (by rw [hcu]; simp [allR])
      simp [t5, t6, ldo, ldh, lineCells]
      refine d_store (p := t) (off := 0) (xs := lineCells z.x (.slice y1 z.x.a.opens.length w1) (.slice y2 z.x.a.early.length w2) (.slice y3 z.x.b.opens.length w3) (.slice y4 z.x.b.early.length w4) (.slice y5 z.x.fly.length w5)) st.wf' (by simp [f2]) htc (by simp [t2]) (by simp [lineCells]) (by simp [lineCells]) (by simp) (by simp) (by simp [lineCells]) fun H9 hm9 hn9 ho9 => ?_
      simp
      refine d_store (p := u) (off := 0) (xs := [.slice sa0 z.h0.length sc0, .slice sa1 z.h1.length sc1]) hm9.wf' (by simp) (huc.mod hm9 (by omega)) (by simp [t3]) (by simp) (by simp) (by simp) (by simp) (by simp) fun H10 hm10 hn10 ho10 => ?_
      simp [lineCells] at ho9
      simp at ho10
      have ldt := fun off n => Obj1.load (C := ctxW w) (off := off) (n := n) (ho9.mod hm10 (by omega))
      have ldu := fun off n => Obj1.load (C := ctxW w) (off := off) (n := n) ho10
      simp [t2, t3, ldt, ldu]
      have s9 : Step [13] Hc col H9 col := Step.of_mod hm9 st.bare (by rw [hctc]; simp)
      have s10 : Step [13] Hc col H10 col := s9.trans (Step.of_mod hm10 s9.bare (by rw [hcuc]; simp))
      have hlow : Same H Hc := by
        refine ⟨hw, hs08.grow.trans st.grow, fun b hb => ?_⟩
        rw [st.same b (by have := hs08.grow.next; omega) (by rw [hcn b (by have := hs05.grow.next; omega) (by omega) (by omega) (by omega)]; simp [allR]), hs08.same b hb]
      exact ⟨(hlow.then_mod hm9 (by omega)).then_mod hm10 (by omega), z, _, _, _, _, rfl, (W0.ln.step s10 (by simp)).r, (W0.r0.step s10 (by simp) (by simp)).frs, (W0.r1.step s10 (by simp) (by simp)).frs, by omega, by omega, lineS_ok hzok, .inl ⟨hok, rfl, z3 rfl⟩⟩
end Go.Ai.Wire
