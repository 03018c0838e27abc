/-
  How the reference's acts and the program's acts go together: the laws.
  'Settle' of the reference.
  'Settle' of the reference.
-/
import Derived.Test.YtlikgpehalhgkaaGreatPR5
import Derived.Test.YtlikgpehalhgkaaGreatPR7
namespace Go.Ai.Wire

theorem putsW_x {to : Int} : ∀ (l : List (List UInt8)) (y : LineW), putsW y to l = ⟨(putsW ⟨y.x, [], []⟩ to l).x, y.h0, y.h1⟩
  | [], y => rfl
  | b :: l, y => by
    unfold putsW
    rw [List.foldl_cons, List.foldl_cons]
    have h1 := putsW_x l (putW y to b) (to := to)
    have h2 := putsW_x l (putW ⟨y.x, [], []⟩ to b) (to := to)
    unfold putsW at h1 h2
    rw [h1, h2]
    rfl

/-- What is handed on at an end is put behind what was. -/
def hearF (y : LineW) (t : Int) (X : LineA) (F : List (List UInt8)) : LineW := if t = 0 then ⟨X, y.h0 ++ F, y.h1⟩ else ⟨X, y.h0, y.h1 ++ F⟩

theorem again_x (y : LineW) (i : Nat) : againW y i = ⟨(againW ⟨y.x, [], []⟩ i).x, y.h0, y.h1⟩ := putsW_x _ _
theorem again_h (x : LineA) (i : Nat) : (againW ⟨x, [], []⟩ i).h0 = [] ∧ (againW ⟨x, [], []⟩ i).h1 = [] := putsW_h _ _

theorem arrive_x (y : LineW) {t : Nat} (ht : t ≤ 1) (d : List UInt8) : arriveW y t d = hearF y t (arriveW ⟨y.x, [], []⟩ t d).x ((arriveW ⟨y.x, [], []⟩ t d).h0 ++ (arriveW ⟨y.x, [], []⟩ t d).h1) := by
  unfold arriveW
  have he : endW (⟨y.x, [], []⟩ : LineW) t = endW y t := rfl
  rw [he]
  generalize takeF (endW y t) d = R
  rcases two ht with rfl | rfl
  · by_cases h : R.2.2 = []
    · rw [if_pos h, if_pos h]
      simp [hearF, hearW, setE]
    · rw [if_neg h, if_neg h]
      simp [hearF, hearW, setE, putW]
  · by_cases h : R.2.2 = []
    · rw [if_pos h, if_pos h]
      simp [hearF, hearW, setE]
    · rw [if_neg h, if_neg h]
      simp [hearF, hearW, setE, putW]

/-- What an act does to a line at work is what it does to the line alone. -/
theorem doW_doF {y : LineW} (hok : LineOK y.x) (a : ActA) :
    (doF y.x a).2.2 = (doW y a).2 ∧ ((doW y a).2 ≠ 0 → (doW y a).1 = y) ∧ ((doW y a).2 = 0 → (doW y a).1 = hearF y (hearsA y.x.fly a) (doF y.x a).1 (doF y.x a).2.1) := by
  have nil : ∀ (X : LineA), hearF y 0 X [] = ⟨X, y.h0, y.h1⟩ := fun X => by simp [hearF]
  by_cases hf : FineA y.x.fly a
  · have e := doF_fine hok hf
    have ew : doW y a = actW y a := by unfold doW; rw [if_pos hf]
    rw [ew]
    by_cases k1 : a.kind = 1
    · have h0 : hearsA y.x.fly a = 0 := by unfold hearsA; rw [if_neg (by omega)]
      rw [h0]
      unfold actW at e ⊢
      rw [if_pos k1] at e ⊢
      unfold sayW at e ⊢
      have he : endW (⟨y.x, [], []⟩ : LineW) a.who.toNat = endW y a.who.toNat := rfl
      rw [he] at e
      by_cases c1 : (endW y a.who.toNat).last = 60000
      · rw [if_pos c1] at e ⊢
        rw [e]
        simp
      · rw [if_neg c1] at e ⊢
        by_cases c2 : (endW y a.who.toNat).opens.length = 8
        · rw [if_pos c2] at e ⊢
          rw [e]
          simp
        · rw [if_neg c2] at e ⊢
          rw [if_pos rfl] at e
          rw [e]
          refine ⟨rfl, fun h => absurd rfl h, fun _ => ?_⟩
          have : ∀ (t : Nat) (E : EndA) (to : Int) (d : List UInt8), putW (setE y t E) to d = hearF y 0 (putW (setE ⟨y.x, [], []⟩ t E) to d).x ((putW (setE ⟨y.x, [], []⟩ t E) to d).h0 ++ (putW (setE ⟨y.x, [], []⟩ t E) to d).h1) := by
            intro t E to d
            unfold setE
            split <;> simp [hearF, putW]
          exact this _ _ _ _
    · by_cases k2 : a.kind = 2
      · have h0 : hearsA y.x.fly a = 0 := by unfold hearsA; rw [if_neg (by omega)]
        rw [h0]
        unfold actW at e ⊢
        rw [if_neg k1, if_pos k2] at e ⊢
        rw [if_pos rfl] at e
        rw [e]
        refine ⟨rfl, fun h => absurd rfl h, fun _ => ?_⟩
        dsimp only
        rw [(again_h _ _).1, (again_h _ _).2]
        show _ = hearF y 0 _ []
        rw [nil]
        exact again_x _ _
      · have hat : ∃ i : Nat, ∃ hi : i < y.x.fly.length, a.n = i := by
          have : AtA y.x.fly a := by
            rcases hf with h | h | h | h
            · exact absurd h.1 k1
            · exact absurd h.1 k2
            · exact h.2.2.2.1
            · exact h.2.2.2.1
          obtain ⟨h1, h2⟩ := this
          exact ⟨a.n.toNat, by omega, by omega⟩
        obtain ⟨i, hi, hn⟩ := hat
        obtain ⟨hok1, hok2⟩ := (hok.2.2.2 i hi).1
        have hnt : a.n.toNat = i := by omega
        unfold actW at e ⊢
        rw [if_neg k1, if_neg k2, dif_pos (by rw [hnt]; exact hi)] at e ⊢
        simp only [hnt] at e ⊢
        by_cases k3 : a.kind = 3
        · rw [if_pos k3] at e ⊢
          rw [if_pos rfl] at e
          rw [e]
          refine ⟨rfl, fun h => absurd rfl h, fun _ => ?_⟩
          have h0 : hearsA y.x.fly a = y.x.fly[i].1 := by
            unfold hearsA
            rw [if_pos ⟨k3, by omega, by omega⟩, hnt, List.getD_eq_getElem?_getD, List.getElem?_eq_getElem hi]
            rfl
          rw [h0]
          have h1 := arrive_x (awayW y i) (t := y.x.fly[i].1.toNat) (by omega) y.x.fly[i].2
          dsimp only
          rw [h1]
          have : ((y.x.fly[i].1.toNat : Nat) : Int) = y.x.fly[i].1 := by omega
          rw [this]
          rfl
        · have h0 : hearsA y.x.fly a = 0 := by unfold hearsA; rw [if_neg (by omega)]
          rw [h0]
          rw [if_neg k3] at e ⊢
          by_cases k4 : a.kind = 4
          · rw [if_pos k4] at e ⊢
            rw [if_pos rfl] at e
            rw [e]
            exact ⟨rfl, fun h => absurd rfl h, fun _ => (nil _).symm⟩
          · rw [if_neg k4] at e ⊢
            by_cases k5 : a.kind = 5
            · rw [if_pos k5] at e ⊢
              rw [if_pos rfl] at e
              rw [e]
              exact ⟨rfl, fun h => absurd rfl h, fun _ => (nil _).symm⟩
            · rw [if_neg k5] at e ⊢
              rw [if_pos rfl] at e
              rw [e]
              exact ⟨rfl, fun h => absurd rfl h, fun _ => (nil _).symm⟩
  · have ew : doW y a = (y, 2) := by unfold doW; rw [if_neg hf]
    have ef : doF y.x a = (zeroL, [], 2) := by
      have : doW ⟨y.x, [], []⟩ a = (⟨y.x, [], []⟩, 2) := by unfold doW; rw [if_neg hf]
      unfold doF
      rw [if_pos hok, this]
      rfl
    rw [ew, ef]
    simp

/-- What acts do, one after the other, until one is not right. -/
noncomputable def playW : LineW → List ActA → LineW × Int
  | y, [] => (y, 0)
  | y, a :: l => if (doW y a).2 = 0 then playW (doW y a).1 l else (y, (doW y a).2)
end Go.Ai.Wire

namespace Go.Ai.Wire
open Go.Proofs Go.IntWalk
attribute [local irreducible] Trie.put

section
variable {C : Ctx} {H : AHeap} {T : Env} {d : Option Nat} {r : List IOper} {K : Env → AHeap → Prop}
/-- Nothing is appended. -/
theorem w_appZ {esz bytes n g : Nat} {s x : IOpd} {cs : List Value} (hs : NG H (s.val T.val) g esz n cs) (hx : Row C H (x.val T.val) esz 0 [])
    (hk : wpO C r K (putDst T d (s.val T.val)) H) : wpO C (⟨d, .append esz bytes s x, none⟩ :: r) K T H := by
  rw [wpO_append]
  obtain ⟨rd0, h1, h2, _⟩ := hx.src
  have hap : appendA C H.get esz bytes (s.val T.val) 0 [] rd0 H.next = some { v := s.val T.val, rd := rd0 } := by
    rcases hs with ⟨he, rfl, _⟩ | hb
    · rw [he]
      simp [appendA]
    · obtain ⟨a, c, he, hnc, _⟩ := hb.load (C := C)
      rw [he]
      unfold appendA
      rw [if_pos ⟨by simp, by simp⟩]
      dsimp only
      rw [if_pos (by omega), if_pos rfl]
  have : evalOp C H.get T.val H.next (.append esz bytes s x) = some { v := s.val T.val, rd := rd0 } := by
    simp only [evalOp, h2, h1]
    exact hap
  rw [this]
  exact hk
/-- Frames are put behind frames, be there any or none. -/
theorem w_appH {bytes k : Nat} {s x : IOpd} {col : Nat → Nat} {l fr : List (List UInt8)} (hw : WF H) (hbare : Bare col H) (k0 : k ≠ 0) (hR : WRow C H col k (s.val T.val) l) (hx : WFrs C H col (x.val T.val) fr) (hr : roomy (l.length + fr.length) bytes = true)
    (hk : ∀ v H' col', Step [k] H col H' col' → WRow C H' col' k v (l ++ fr) → wpO C r K (putDst T d v) H') : wpO C (⟨d, .append 1 bytes s x, none⟩ :: r) K T H := by
  obtain ⟨xs, hx, hrow, hp, _⟩ := hx
  obtain ⟨g, cs, k1, k2, k3, k4⟩ := id hR
  by_cases h0 : fr = []
  · subst h0
    have hxs : xs = [] := List.length_eq_zero_iff.1 (by rw [hx.len]; rfl)
    subst hxs
    exact w_appZ (g := g) (n := l.length) (cs := cs) k1 (by simpa using hrow) (hk _ _ col (Step.of_same (Same.refl hw) hbare) (by simpa using hR))
  · have hm : fr.length ≠ 0 := fun h => h0 (List.length_eq_zero_iff.1 h)
    refine w_appW (g := g) (n := l.length) (m := fr.length) (cs := cs) (xs := xs) hw k1 (Nat.le_refl _) hrow hm hx.scal hr fun v H' g' hg hb => ?_
    obtain ⟨col', st, w⟩ := WRow.app hw hbare k0 k2 k3 k4 hx hp hg hb
    exact hk _ _ col' st w
end

/-- A line of the reference, and what was handed on, at work. -/
structure RW (C : Ctx) (H : AHeap) (col : Nat → Nat) (o hh : Nat) (y : LineW) (o0 e0 o1 e1 f s0 s1 : Value) : Prop where
  obj : Obj1 H o (lineCells y.x o0 e0 o1 e1 f)
  c7 : col o = 7
  ln : PLine C H col y.x o0 e0 o1 e1 f
  hob : Obj1 H hh [s0, s1]
  c9 : col hh = 9
  r0 : WRow C H col 10 s0 y.h0
  r1 : WRow C H col 11 s1 y.h1
def RWork (C : Ctx) (H : AHeap) (col : Nat → Nat) (o hh : Nat) (y : LineW) : Prop := ∃ o0 e0 o1 e1 f s0 s1, RW C H col o hh y o0 e0 o1 e1 f s0 s1
def allR : List Nat := [7, 9, 10, 11]

section
variable {C : Ctx} {H H' : AHeap} {col col' : Nat → Nat} {A : List Nat}
theorem RW.step (hs : Step A H col H' col') (hA : ∀ c ∈ A, c ≠ 0 ∧ c ≠ 7 ∧ c ≠ 9 ∧ c ≠ 10 ∧ c ≠ 11) {o hh : Nat} {y : LineW} {o0 e0 o1 e1 f s0 s1 : Value} (h : RW C H col o hh y o0 e0 o1 e1 f s0 s1) : RW C H' col' o hh y o0 e0 o1 e1 f s0 s1 :=
  ⟨Obj1.step hs h.obj (fun hm => by have := hA _ hm; rw [h.c7] at this; omega), by rw [hs.keep o (h.obj.lt hs.wf)]; exact h.c7, h.ln.step hs (fun hm => by have := hA _ hm; omega),
    Obj1.step hs h.hob (fun hm => by have := hA _ hm; rw [h.c9] at this; omega), by rw [hs.keep hh (h.hob.lt hs.wf)]; exact h.c9, h.r0.step hs (fun hm => by have := hA _ hm; omega) (fun hm => by have := hA _ hm; omega), h.r1.step hs (fun hm => by have := hA _ hm; omega) (fun hm => by have := hA _ hm; omega)⟩
/-- What was handed on at an end. -/
theorem RW.at {o hh : Nat} {y : LineW} {o0 e0 o1 e1 f s0 s1 : Value} (W : RW C H col o hh y o0 e0 o1 e1 f s0 s1) {t : Nat} (ht : t ≤ 1) :
    loadN C H.get ⟨hh, t, none⟩ 1 = some [if t = 0 then s0 else s1] ∧ WRow C H col (10 + t) (if t = 0 then s0 else s1) (heardW y t) := by
  have ld := fun off n => Obj1.load (C := C) (off := off) (n := n) W.hob
  rcases two ht with rfl | rfl
  · exact ⟨by simp [ld], by simpa [heardW] using W.r0⟩
  · exact ⟨by simp [ld], by simpa [heardW] using W.r1⟩
/-- Another line. -/
theorem RW.setL {o hh : Nat} {y : LineW} {o0 e0 o1 e1 f s0 s1 : Value} (W : RW C H col o hh y o0 e0 o1 e1 f s0 s1) (st : Step [7] H col H' col) {X : LineA} {p0 q0 p1 q1 g : Value} (ho : Obj1 H' o (lineCells X p0 q0 p1 q1 g)) (hp : PLine C H col X p0 q0 p1 q1 g) : RW C H' col o hh ⟨X, y.h0, y.h1⟩ p0 q0 p1 q1 g s0 s1 :=
  ⟨ho, W.c7, hp.step st (by simp), Obj1.step st W.hob (by rw [W.c9]; simp), W.c9, W.r0.step st (by simp) (by simp), W.r1.step st (by simp) (by simp)⟩
/-- More is handed on. -/
theorem RW.setH {H2 : AHeap} {o hh : Nat} {y : LineW} {o0 e0 o1 e1 f s0 s1 v : Value} (W : RW C H col o hh y o0 e0 o1 e1 f s0 s1) {t : Nat} (ht : t ≤ 1) {F : List (List UInt8)} (st : Step [10 + t] H col H' col') (hr : WRow C H' col' (10 + t) v (heardW y t ++ F)) (st2 : Step [9] H' col' H2 col')
    (ho : Obj1 H2 hh (([s0, s1].take t) ++ ([v] ++ [s0, s1].drop (t + 1)))) : RWork C H2 col' o hh (hearF y t y.x F) := by
  have k7 : col' o = 7 := by rw [st.keep o (W.obj.lt st.wf)]; exact W.c7
  have k9 : col' hh = 9 := by rw [st.keep hh (W.hob.lt st.wf)]; exact W.c9
  have ob := Obj1.step st W.obj (by rw [W.c7]; simp; omega)
  have ob2 := Obj1.step st2 ob (by rw [k7]; simp)
  have ln2 := (W.ln.step st (by simp; omega)).step st2 (by simp)
  rcases two ht with rfl | rfl
  · exact ⟨o0, e0, o1, e1, f, v, s1, ⟨ob2, k7, ln2, by simpa using ho, k9, by simpa [heardW, hearF] using hr.step st2 (by simp) (by simp), (W.r1.step st (by simp) (by simp)).step st2 (by simp) (by simp)⟩⟩
  · exact ⟨o0, e0, o1, e1, f, s0, v, ⟨ob2, k7, ln2, by simpa using ho, k9, (W.r0.step st (by simp) (by simp)).step st2 (by simp) (by simp), by simpa [heardW, hearF] using hr.step st2 (by simp) (by simp)⟩⟩
theorem LineO.pline {lo : Nat} {x : LineA} {v : Value} (h : LineO C H lo x v) (hc : ∀ b, lo ≤ b → col b = 0) : ∃ o0 e0 o1 e1 f, v = lineV x.a.last o0 x.a.got e0 x.b.last o1 x.b.got e1 f ∧ PLine C H col x o0 e0 o1 e1 f :=
  let ⟨a, b, c, d, e, h0, h1, h2, h3, h4, h5⟩ := h; ⟨a, b, c, d, e, h0, ⟨h1.plain hc, h2.plain hc, h3.plain hc, h4.plain hc, h5.plain hc⟩⟩
end

theorem hearF_x (y : LineW) (t : Int) (X : LineA) (F : List (List UInt8)) : hearF ⟨X, y.h0, y.h1⟩ t X F = hearF y t X F := by
  unfold hearF
  split <;> rfl

end Go.Ai.Wire

namespace Go.Ai.Wire
open Go.Proofs Go.IntWalk
attribute [local irreducible] Trie.put

theorem lineS_zero : LineS zeroL := by unfold LineS EndS zeroL; simp

end Go.Ai.Wire
