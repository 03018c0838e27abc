/-
  Frames with their numbers in memory; ends; lines.
-/
import Derived.Test.YtlikgpehalhgkaaWIr2
import Derived.Test.YtlikgpehalhgkaaW12
namespace Go.Ai.Wire
open Go.Proofs Go.IntWalk
attribute [local irreducible] Trie.put

abbrev Itm := Int × List UInt8

/-- The cells of frames with their numbers. -/
inductive ItC (C : Ctx) (H : AHeap) : List Itm → List Value → Prop
  | nil : ItC C H [] []
  | cons {n : Int} {d : List UInt8} {v : Value} {l : List Itm} {cs : List Value} : Bs C H v d → ItC C H l cs → ItC C H ((n, d) :: l) (.int .i64 n :: v :: cs)

section
variable {C : Ctx} {H H' : AHeap}

theorem ItC.same (hs : Same H H') {l : List Itm} {cs : List Value} (h : ItC C H l cs) : ItC C H' l cs := by
  induction h with
  | nil => exact .nil
  | cons h1 _ ih => exact .cons (h1.same hs) ih

theorem ItC.len {l : List Itm} {cs : List Value} (h : ItC C H l cs) : cs.length = l.length * 2 := by
  induction h with
  | nil => rfl
  | cons _ _ ih => simp only [List.length_cons, ih]; omega

theorem ItC.scal {l : List Itm} {cs : List Value} (h : ItC C H l cs) : cs.all scalar = true := by
  induction h with
  | nil => rfl
  | cons h1 _ ih =>
    obtain ⟨a, c, rfl⟩ := h1.val
    simp [scalar] at ih ⊢
    exact ih

theorem ItC.app {l l' : List Itm} {cs cs' : List Value} (h : ItC C H l cs) (h' : ItC C H l' cs') : ItC C H (l ++ l') (cs ++ cs') := by
  induction h with
  | nil => exact h'
  | cons h1 _ ih => exact .cons h1 ih

theorem ItC.at {l : List Itm} {cs : List Value} (h : ItC C H l cs) : ∀ {i : Nat} (hi : i < l.length), ∃ v, (cs.drop (i * 2)).take 2 = [.int .i64 l[i].1, v] ∧ Bs C H v l[i].2 := by
  induction h with
  | nil => intro i hi; simp at hi
  | @cons n d v l cs h1 _ ih =>
    intro i hi
    cases i with
    | zero => exact ⟨v, by simp, by simpa using h1⟩
    | succ i =>
      obtain ⟨u, h2, h3⟩ := ih (i := i) (by simpa using hi)
      refine ⟨u, ?_, by simpa using h3⟩
      rw [show (i + 1) * 2 = i * 2 + 2 from by omega]
      simpa using h2

/-- A slice of frames with their numbers. -/
def Its (C : Ctx) (H : AHeap) (v : Value) (l : List Itm) : Prop := ∃ cs, ItC C H l cs ∧ Row C H v 2 l.length cs

theorem Its.same (hs : Same H H') {v : Value} {l : List Itm} (h : Its C H v l) : Its C H' v l := by
  obtain ⟨cs, h1, h2⟩ := h
  exact ⟨cs, h1.same hs, Row.same hs h2⟩

theorem Its.val {v : Value} {l : List Itm} (h : Its C H v l) : ∃ a c, v = .slice a l.length c := by
  obtain ⟨_, _, _, a, c, h, _⟩ := h
  exact ⟨a, c, h⟩

theorem Its.at {a : Option Addr} {n c : Nat} {l : List Itm} (h : Its C H (.slice a n c) l) {i : Nat} (hi : i < l.length) :
    ∃ b da dc, a = some b ∧ loadN C H.get (aadd b (i * 2)) 1 = some [.int .i64 l[i].1] ∧ loadN C H.get (aadd b (i * 2 + 1)) 1 = some [.slice da l[i].2.length dc] ∧
      loadN C H.get (aadd b (i * 2)) 2 = some [.int .i64 l[i].1, .slice da l[i].2.length dc] ∧ Bs C H (.slice da l[i].2.length dc) l[i].2 := by
  obtain ⟨cs, h1, h2⟩ := h
  obtain ⟨v, h3, h4⟩ := h1.at hi
  obtain ⟨da, dc, rfl⟩ := h4.val
  obtain ⟨h5, a', c', he, h6, h7⟩ := h2
  cases he
  cases a with
  | none => have := (h6 rfl).1; omega
  | some b =>
    have hl := h7 b rfl (by omega)
    have hl2 := loadN_sub hl (i := i * 2) (m := 2) (by omega)
    rw [h3] at hl2
    refine ⟨b, da, dc, rfl, ?_, ?_, hl2, h4⟩
    · have := loadN_sub hl2 (i := 0) (m := 1) (by omega)
      simpa using this
    · have := loadN_sub hl2 (i := 1) (m := 1) (by omega)
      simpa using this

theorem Its.nil (C : Ctx) (H : AHeap) : Its C H (.slice none 0 0) [] := ⟨[], .nil, rfl, none, 0, rfl, by simp, by simp⟩
end

structure EndA where
  last : Int
  opens : List Itm
  got : Int
  early : List Itm

structure LineA where
  a : EndA
  b : EndA
  fly : List Itm

def endV (last : Int) (ov : Value) (got : Int) (ev : Value) : Value := .agg #[.int .i64 last, ov, .int .i64 got, ev]
def lineV (l0 : Int) (o0 : Value) (g0 : Int) (e0 : Value) (l1 : Int) (o1 : Value) (g1 : Int) (e1 : Value) (f : Value) : Value := .agg #[.int .i64 l0, o0, .int .i64 g0, e0, .int .i64 l1, o1, .int .i64 g1, e1, f]

def EndR (C : Ctx) (H : AHeap) (x : EndA) (v : Value) : Prop := ∃ ov ev, v = endV x.last ov x.got ev ∧ Its C H ov x.opens ∧ Its C H ev x.early
def LineR (C : Ctx) (H : AHeap) (x : LineA) (v : Value) : Prop :=
  ∃ o0 e0 o1 e1 f, v = lineV x.a.last o0 x.a.got e0 x.b.last o1 x.b.got e1 f ∧ Its C H o0 x.a.opens ∧ Its C H e0 x.a.early ∧ Its C H o1 x.b.opens ∧ Its C H e1 x.b.early ∧ Its C H f x.fly

theorem EndR.same {C : Ctx} {H H' : AHeap} (hs : Same H H') {x : EndA} {v : Value} (h : EndR C H x v) : EndR C H' x v := by
  obtain ⟨ov, ev, h1, h2, h3⟩ := h
  exact ⟨ov, ev, h1, h2.same hs, h3.same hs⟩
theorem LineR.same {C : Ctx} {H H' : AHeap} (hs : Same H H') {x : LineA} {v : Value} (h : LineR C H x v) : LineR C H' x v := by
  obtain ⟨o0, e0, o1, e1, f, h0, h1, h2, h3, h4, h5⟩ := h
  exact ⟨o0, e0, o1, e1, f, h0, h1.same hs, h2.same hs, h3.same hs, h4.same hs, h5.same hs⟩

theorem all_take_succ {α : Type} (p : α → Bool) {l : List α} {i : Nat} (hi : i < l.length) : (l.take (i + 1)).all p = ((l.take i).all p && p l[i]) := by
  rw [List.take_succ_eq_append_getElem hi, List.all_append]
  simp
theorem all_false {α : Type} (p : α → Bool) {l : List α} {i : Nat} (hi : i < l.length) (h : p l[i] = false) : l.all p = false := by
  rw [List.all_eq_false]
  exact ⟨l[i], List.getElem_mem hi, by simp [h]⟩

def short (n : Nat) (x : Itm) : Bool := decide (x.2.length ≤ n)
def thinE (x : EndA) : Bool := decide (x.opens.length ≤ 12) && (decide (x.early.length ≤ 12) && (x.opens.all (short 500) && x.early.all (short 500)))
def thinL (x : LineA) : Bool := thinE x.a && (thinE x.b && (decide (x.fly.length ≤ 70) && x.fly.all (short 500)))

theorem thinEnd_spec (w : World) {H : AHeap} (hw : WF H) {x : EndA} {v : Value} (hx : EndR (ctxW w) H x v) : wpCall (ctxW w) (.func (.func 27) #[] #[]) [v] H fun r H' => Same H H' ∧ r = .bool (thinE x) := by
  obtain ⟨ov, ev, rfl, ho, he⟩ := hx
  obtain ⟨a1, c1, rfl⟩ := ho.val
  obtain ⟨a2, c2, rfl⟩ := he.val
  refine wpCall_fn rfl (get27 w) ?_
  simp [ir27]
  refine w_box (cs := [.int .i64 x.last, .slice a1 x.opens.length c1, .int .i64 x.got, .slice a2 x.early.length c2]) hw (by simp [endV]) rfl (by simp) fun p H1 hp => ?_
  have ld := fun off n => Obj1.load (C := ctxW w) (off := off) (n := n) hp.obj
  have ho1 := ho.same hp.same
  have he1 := he.same hp.same
  by_cases h1 : x.opens.length ≤ 12
  · have e1 : ¬ (12 : Int) < x.opens.length := by omega
    by_cases h2 : x.early.length ≤ 12
    · have e2 : ¬ (12 : Int) < x.early.length := by omega
      simp [ld, e1, e2]
      refine wp_loop' (fun n s => ∃ (T : Env) (i : Nat), s = ⟨T, H1, []⟩ ∧ n = x.opens.length - i ∧ i ≤ x.opens.length ∧ T.val 1 = .pointer (some ⟨p, 0, none⟩) ∧ T.val 3 = .int .i64 i ∧ (x.opens.take i).all (short 500) = true) (n := x.opens.length)
        ⟨_, 0, rfl, rfl, Nat.zero_le _, by simp, by simp, by simp⟩ ?_
      rintro n s K ⟨T, i, rfl, rfl, hi, t1, t3, hall⟩ hnext hexit
      by_cases hlt : i < x.opens.length
      · obtain ⟨b, da, dc, rfl, _, l2, _, _⟩ := ho1.at hlt
        have e3 : (i : Int) < x.opens.length := by omega
        simp [t1, t3, ld, e3, l2]
        by_cases h5 : x.opens[i].2.length ≤ 500
        · have e5 : ¬ (500 : Int) < x.opens[i].2.length := by omega
          simp [e5, t1, t3]
          refine hnext (x.opens.length - (i + 1)) _ (by omega) ⟨_, i + 1, rfl, rfl, by omega, by simp [t1], by simp; rw [i64_in _ (by omega)], ?_⟩
          rw [all_take_succ _ hlt, hall]
          simp [short, h5]
        · have e5 : (500 : Int) < x.opens[i].2.length := by omega
          simp [e5]
          refine hexit _ _ (by simp) ?_
          simp
          refine ⟨hp.same, ?_⟩
          have := all_false (short 500) hlt (by simp [short]; omega)
          simp [thinE, this]
      · have : i = x.opens.length := by omega
        subst this
        rw [List.take_length] at hall
        simp [t1, t3, ld]
        refine hexit _ _ (by simp) ?_
        simp [t1, ld]
        refine wp_loop' (fun n s => ∃ (T : Env) (i : Nat), s = ⟨T, H1, []⟩ ∧ n = x.early.length - i ∧ i ≤ x.early.length ∧ T.val 1 = .pointer (some ⟨p, 0, none⟩) ∧ T.val 4 = .int .i64 i ∧ (x.early.take i).all (short 500) = true) (n := x.early.length)
          ⟨_, 0, rfl, rfl, Nat.zero_le _, by simp [t1], by simp, by simp⟩ ?_
        rintro n s K ⟨T, i, rfl, rfl, hi, t1, t3, hall2⟩ hnext hexit
        by_cases hlt : i < x.early.length
        · obtain ⟨b, da, dc, rfl, _, l2, _, _⟩ := he1.at hlt
          have e3 : (i : Int) < x.early.length := by omega
          simp [t1, t3, ld, e3, l2]
          by_cases h5 : x.early[i].2.length ≤ 500
          · have e5 : ¬ (500 : Int) < x.early[i].2.length := by omega
            simp [e5, t1, t3]
            refine hnext (x.early.length - (i + 1)) _ (by omega) ⟨_, i + 1, rfl, rfl, by omega, by simp [t1], by simp; rw [i64_in _ (by omega)], ?_⟩
            rw [all_take_succ _ hlt, hall2]
            simp [short, h5]
          · have e5 : (500 : Int) < x.early[i].2.length := by omega
            simp [e5]
            refine hexit _ _ (by simp) ?_
            simp
            refine ⟨hp.same, ?_⟩
            have := all_false (short 500) hlt (by simp [short]; omega)
            simp [thinE, this]
        · have : i = x.early.length := by omega
          subst this
          rw [List.take_length] at hall2
          simp [t1, t3, ld]
          refine hexit _ _ (by simp) ?_
          simp
          exact ⟨hp.same, by simp [thinE, hall, hall2, h1, h2]⟩
    · have e2 : (12 : Int) < x.early.length := by omega
      simp [ld, e1, e2]
      exact ⟨hp.same, by simp [thinE, h2]⟩
  · have e1 : (12 : Int) < x.opens.length := by omega
    simp [ld, e1]
    exact ⟨hp.same, by simp [thinE, h1]⟩
end Go.Ai.Wire
