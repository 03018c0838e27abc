/-
  Frames with their numbers in memory; ends; lines.
  Which ends and lines are right, by the reference; thin lines.
  Thin lines; lines that are right, by the reference.
  Lists of frames that are looked through; which ends are right, by the program.
  Which ends are right, by the program.
-/
import Derived.Test.YtlikgpehalhgkaaGreatPWIr2
import Derived.Test.YtlikgpehalhgkaaGreatPWA
namespace Go.Ai.Wire
open Go.Proofs Go.IntWalk
attribute [local irreducible] Trie.put

abbrev Itm := Int × List UInt8

/-- The cells of frames with their numbers. -/
inductive ItC (C : Ctx) (H : AHeap) : List Itm → List Value → Prop
  | nil : ItC C H [] []
  | cons {n : Int} {d : List UInt8} {v : Value} {l : List Itm} {cs : List Value} : Bs C H v d → ItC C H l cs → ItC C H ((n, d) :: l) (.int .i64 n :: v :: cs)

section
variable {C : Ctx} {H H' : AHeap}

theorem ItC.same (hs : Same H H') {l : List Itm} {cs : List Value} (h : ItC C H l cs) : ItC C H' l cs := by
  induction h with
  | nil => exact .nil
  | cons h1 _ ih => exact .cons (h1.same hs) ih

theorem ItC.len {l : List Itm} {cs : List Value} (h : ItC C H l cs) : cs.length = l.length * 2 := by
  induction h with
  | nil => rfl
  | cons _ _ ih => simp only [List.length_cons, ih]; omega

theorem ItC.scal {l : List Itm} {cs : List Value} (h : ItC C H l cs) : cs.all scalar = true := by
  induction h with
  | nil => rfl
  | cons h1 _ ih =>
    obtain ⟨a, c, rfl⟩ := h1.val
    simp [scalar] at ih ⊢
    exact ih

theorem ItC.app {l l' : List Itm} {cs cs' : List Value} (h : ItC C H l cs) (h' : ItC C H l' cs') : ItC C H (l ++ l') (cs ++ cs') := by
  induction h with
  | nil => exact h'
  | cons h1 _ ih => exact .cons h1 ih

theorem ItC.at {l : List Itm} {cs : List Value} (h : ItC C H l cs) : ∀ {i : Nat} (hi : i < l.length), ∃ v, (cs.drop (i * 2)).take 2 = [.int .i64 l[i].1, v] ∧ Bs C H v l[i].2 := by
  induction h with
  | nil => intro i hi; simp at hi
  | @cons n d v l cs h1 _ ih =>
    intro i hi
    cases i with
    | zero => exact ⟨v, by simp, by simpa using h1⟩
    | succ i =>
      obtain ⟨u, h2, h3⟩ := ih (i := i) (by simpa using hi)
      refine ⟨u, ?_, by simpa using h3⟩
      rw [show (i + 1) * 2 = i * 2 + 2 from by omega]
      simpa using h2

/-- A slice of frames with their numbers. -/
def Its (C : Ctx) (H : AHeap) (v : Value) (l : List Itm) : Prop := ∃ cs, ItC C H l cs ∧ Row C H v 2 l.length cs

theorem Its.same (hs : Same H H') {v : Value} {l : List Itm} (h : Its C H v l) : Its C H' v l := by
  obtain ⟨cs, h1, h2⟩ := h
  exact ⟨cs, h1.same hs, Row.same hs h2⟩

theorem Its.val {v : Value} {l : List Itm} (h : Its C H v l) : ∃ a c, v = .slice a l.length c := by
  obtain ⟨_, _, _, a, c, h, _⟩ := h
  exact ⟨a, c, h⟩

theorem Its.at {a : Option Addr} {n c : Nat} {l : List Itm} (h : Its C H (.slice a n c) l) {i : Nat} (hi : i < l.length) :
    ∃ b da dc, a = some b ∧ loadN C H.get (aadd b (i * 2)) 1 = some [.int .i64 l[i].1] ∧ loadN C H.get (aadd b (i * 2 + 1)) 1 = some [.slice da l[i].2.length dc] ∧
      loadN C H.get (aadd b (i * 2)) 2 = some [.int .i64 l[i].1, .slice da l[i].2.length dc] ∧ Bs C H (.slice da l[i].2.length dc) l[i].2 := by
  obtain ⟨cs, h1, h2⟩ := h
  obtain ⟨v, h3, h4⟩ := h1.at hi
  obtain ⟨da, dc, rfl⟩ := h4.val
  obtain ⟨h5, a', c', he, h6, h7⟩ := h2
  cases he
  cases a with
  | none => have := (h6 rfl).1; omega
  | some b =>
    have hl := h7 b rfl (by omega)
    have hl2 := loadN_sub hl (i := i * 2) (m := 2) (by omega)
    rw [h3] at hl2
    refine ⟨b, da, dc, rfl, ?_, ?_, hl2, h4⟩
    · have := loadN_sub hl2 (i := 0) (m := 1) (by omega)
      simpa using this
    · have := loadN_sub hl2 (i := 1) (m := 1) (by omega)
      simpa using this

theorem Its.nil (C : Ctx) (H : AHeap) : Its C H (.slice none 0 0) [] := ⟨[], .nil, rfl, none, 0, rfl, by simp, by simp⟩
end

structure EndA where
  last : Int
  opens : List Itm
  got : Int
  early : List Itm

structure LineA where
  a : EndA
  b : EndA
  fly : List Itm

def endV (last : Int) (ov : Value) (got : Int) (ev : Value) : Value := .agg #[.int .i64 last, ov, .int .i64 got, ev]
def lineV (l0 : Int) (o0 : Value) (g0 : Int) (e0 : Value) (l1 : Int) (o1 : Value) (g1 : Int) (e1 : Value) (f : Value) : Value := .agg #[.int .i64 l0, o0, .int .i64 g0, e0, .int .i64 l1, o1, .int .i64 g1, e1, f]

def EndR (C : Ctx) (H : AHeap) (x : EndA) (v : Value) : Prop := ∃ ov ev, v = endV x.last ov x.got ev ∧ Its C H ov x.opens ∧ Its C H ev x.early
def LineR (C : Ctx) (H : AHeap) (x : LineA) (v : Value) : Prop :=
  ∃ o0 e0 o1 e1 f, v = lineV x.a.last o0 x.a.got e0 x.b.last o1 x.b.got e1 f ∧ Its C H o0 x.a.opens ∧ Its C H e0 x.a.early ∧ Its C H o1 x.b.opens ∧ Its C H e1 x.b.early ∧ Its C H f x.fly

theorem EndR.same {C : Ctx} {H H' : AHeap} (hs : Same H H') {x : EndA} {v : Value} (h : EndR C H x v) : EndR C H' x v := by
  obtain ⟨ov, ev, h1, h2, h3⟩ := h
  exact ⟨ov, ev, h1, h2.same hs, h3.same hs⟩
theorem LineR.same {C : Ctx} {H H' : AHeap} (hs : Same H H') {x : LineA} {v : Value} (h : LineR C H x v) : LineR C H' x v := by
  obtain ⟨o0, e0, o1, e1, f, h0, h1, h2, h3, h4, h5⟩ := h
  exact ⟨o0, e0, o1, e1, f, h0, h1.same hs, h2.same hs, h3.same hs, h4.same hs, h5.same hs⟩

theorem all_take_succ {α : Type} (p : α → Bool) {l : List α} {i : Nat} (hi : i < l.length) : (l.take (i + 1)).all p = ((l.take i).all p && p l[i]) := by
  rw [List.take_succ_eq_append_getElem hi, List.all_append]
  simp
theorem all_false {α : Type} (p : α → Bool) {l : List α} {i : Nat} (hi : i < l.length) (h : p l[i] = false) : l.all p = false := by
  rw [List.all_eq_false]
  exact ⟨l[i], List.getElem_mem hi, by simp [h]⟩

def short (n : Nat) (x : Itm) : Bool := decide (x.2.length ≤ n)
def thinE (x : EndA) : Bool := decide (x.opens.length ≤ 12) && (decide (x.early.length ≤ 12) && (x.opens.all (short 500) && x.early.all (short 500)))
def thinL (x : LineA) : Bool := thinE x.a && (thinE x.b && (decide (x.fly.length ≤ 70) && x.fly.all (short 500)))

theorem thinEnd_spec (w : World) {H : AHeap} (hw : WF H) {x : EndA} {v : Value} (hx : EndR (ctxW w) H x v) : wpCall (ctxW w) (.func (.func 20) #[] #[]) [v] H fun r H' => Same H H' ∧ r = .bool (thinE x) := by
  obtain ⟨ov, ev, rfl, ho, he⟩ := hx
  obtain ⟨a1, c1, rfl⟩ := ho.val
  obtain ⟨a2, c2, rfl⟩ := he.val
  refine wpCall_fn rfl (get20 w) ?_
  simp [ir20]
  refine w_box (cs := [.int .i64 x.last, .slice a1 x.opens.length c1, .int .i64 x.got, .slice a2 x.early.length c2]) hw (by simp [endV]) rfl (by simp) fun p H1 hp => ?_
  have ld := fun off n => Obj1.load (C := ctxW w) (off := off) (n := n) hp.obj
  have ho1 := ho.same hp.same
  have he1 := he.same hp.same
  by_cases h1 : x.opens.length ≤ 12
  · have e1 : ¬ (12 : Int) < x.opens.length := by omega
    by_cases h2 : x.early.length ≤ 12
    · have e2 : ¬ (12 : Int) < x.early.length := by omega
      simp [ld, e1, e2]
      refine wp_loop' (fun n s => ∃ (T : Env) (i : Nat), s = ⟨T, H1, []⟩ ∧ n = x.opens.length - i ∧ i ≤ x.opens.length ∧ T.val 1 = .pointer (some ⟨p, 0, none⟩) ∧ T.val 3 = .int .i64 i ∧ (x.opens.take i).all (short 500) = true) (n := x.opens.length)
        ⟨_, 0, rfl, rfl, Nat.zero_le _, by simp, by simp, by simp⟩ ?_
      rintro n s K ⟨T, i, rfl, rfl, hi, t1, t3, hall⟩ hnext hexit
      by_cases hlt : i < x.opens.length
      · obtain ⟨b, da, dc, rfl, _, l2, _, _⟩ := ho1.at hlt
        have e3 : (i : Int) < x.opens.length := by omega
        simp [t1, t3, ld, e3, l2]
        by_cases h5 : x.opens[i].2.length ≤ 500
        · have e5 : ¬ (500 : Int) < x.opens[i].2.length := by omega
          simp [e5, t3]
          refine hnext (x.opens.length - (i + 1)) _ (by omega) ⟨_, i + 1, rfl, rfl, by omega, by simp [t1], by simp; rw [i64_in _ (by omega)], ?_⟩
          rw [all_take_succ _ hlt, hall]
          simp [short, h5]
        · have e5 : (500 : Int) < x.opens[i].2.length := by omega
          simp [e5]
          refine hexit _ _ (by simp) ?_
          simp
          refine ⟨hp.same, ?_⟩
          have := all_false (short 500) hlt (by simp [short]; omega)
          simp [thinE, this]
      · have : i = x.opens.length := by omega
        subst this
        rw [List.take_length] at hall
        simp [t1, t3, ld]
        refine hexit _ _ (by simp) ?_
        simp
        refine wp_loop' (fun n s => ∃ (T : Env) (i : Nat), s = ⟨T, H1, []⟩ ∧ n = x.early.length - i ∧ i ≤ x.early.length ∧ T.val 1 = .pointer (some ⟨p, 0, none⟩) ∧ T.val 4 = .int .i64 i ∧ (x.early.take i).all (short 500) = true) (n := x.early.length)
          ⟨_, 0, rfl, rfl, Nat.zero_le _, by simp [t1], by simp, by simp⟩ ?_
        rintro n s K ⟨T, i, rfl, rfl, hi, t1, t3, hall2⟩ hnext hexit
        by_cases hlt : i < x.early.length
        · obtain ⟨b, da, dc, rfl, _, l2, _, _⟩ := he1.at hlt
          have e3 : (i : Int) < x.early.length := by omega
          simp [t1, t3, ld, e3, l2]
          by_cases h5 : x.early[i].2.length ≤ 500
          · have e5 : ¬ (500 : Int) < x.early[i].2.length := by omega
            simp [e5, t3]
            refine hnext (x.early.length - (i + 1)) _ (by omega) ⟨_, i + 1, rfl, rfl, by omega, by simp [t1], by simp; rw [i64_in _ (by omega)], ?_⟩
            rw [all_take_succ _ hlt, hall2]
            simp [short, h5]
          · have e5 : (500 : Int) < x.early[i].2.length := by omega
            simp [e5]
            refine hexit _ _ (by simp) ?_
            simp
            refine ⟨hp.same, ?_⟩
            have := all_false (short 500) hlt (by simp [short]; omega)
            simp [thinE, this]
        · have : i = x.early.length := by omega
          subst this
          rw [List.take_length] at hall2
          simp [t1, t3, ld]
          refine hexit _ _ (by simp) ?_
          simp
          exact ⟨hp.same, by simp [thinE, hall, hall2, h1, h2]⟩
    · have e2 : (12 : Int) < x.early.length := by omega
      simp [ld, e1, e2]
      exact ⟨hp.same, by simp [thinE, h2]⟩
  · have e1 : (12 : Int) < x.opens.length := by omega
    simp [ld, e1]
    exact ⟨hp.same, by simp [thinE, h1]⟩
end Go.Ai.Wire

namespace Go.Ai.Wire
open Go.Proofs Go.IntWalk
attribute [local irreducible] Trie.put

def FrameOK (d : List UInt8) : Prop := 1 ≤ d.length ∧ d.length ≤ 400

/-- The open frame at a place is as it must be. -/
def OpenAt (x : EndA) (i : Nat) : Prop := ∀ h : i < x.opens.length, x.opens[i].1 = x.last - x.opens.length + 1 + i ∧ 1 ≤ x.opens[i].1 ∧ FrameOK x.opens[i].2
def EarlyAt (x : EndA) (i : Nat) : Prop := ∀ h : i < x.early.length, x.got + 2 ≤ x.early[i].1 ∧ x.early[i].1 ≤ min (x.got + 8) 60000 ∧ (∀ _ : 0 < i, x.early[i - 1].1 < x.early[i].1) ∧ FrameOK x.early[i].2

def EndOK (x : EndA) : Prop := (0 ≤ x.last ∧ x.last ≤ 60000) ∧ (0 ≤ x.got ∧ x.got ≤ 60000) ∧ x.opens.length ≤ 8 ∧ (∀ i, OpenAt x i) ∧ ∀ i, EarlyAt x i

def FlightAt (l : List Itm) (i : Nat) : Prop := ∀ h : i < l.length, (0 ≤ l[i].1 ∧ l[i].1 ≤ 1) ∧ 1 ≤ l[i].2.length ∧ l[i].2.length ≤ 408
def LineOK (x : LineA) : Prop := EndOK x.a ∧ EndOK x.b ∧ x.fly.length ≤ 60 ∧ ∀ i, FlightAt x.fly i

/-- An answer that says whether something is so. -/
def Tells (p : Prop) (r : Value) : Prop := ∃ b : Bool, r = .bool b ∧ (b = true ↔ p)

theorem Tells.yes {p : Prop} (h : p) : Tells p (.bool true) := ⟨true, rfl, by simp [h]⟩
theorem Tells.no {p : Prop} (h : ¬ p) : Tells p (.bool false) := ⟨false, rfl, by simp [h]⟩

set_option maxHeartbeats 1000000 in
theorem isEnd_spec (w : World) {H : AHeap} (hw : WF H) {x : EndA} {v : Value} (hx : EndR (ctxW w) H x v) (hsm : x.early.length ≤ 1000000) : wpCall (ctxW w) (.func (.func 50) #[] #[]) [v] H fun r H' => Same H H' ∧ Tells (EndOK x) r := by
  obtain ⟨ov, ev, rfl, ho, he⟩ := hx
  obtain ⟨a1, c1, rfl⟩ := ho.val
  obtain ⟨a2, c2, rfl⟩ := he.val
  refine wpCall_fn rfl (get50 w) ?_
  simp [ir50]
  refine w_box (cs := [.int .i64 x.last, .slice a1 x.opens.length c1, .int .i64 x.got, .slice a2 x.early.length c2]) hw (by simp [endV]) rfl (by simp) fun p H1 hp => ?_
  have ld := fun off n => Obj1.load (C := ctxW w) (off := off) (n := n) hp.obj
  have ho1 := ho.same hp.same
  have he1 := he.same hp.same
  simp [ld]
  refine wpCall_mono (in_spec w x.last 0 60000) ?_
  rintro _ H1 ⟨rfl, rfl⟩
  by_cases hl : 0 ≤ x.last ∧ x.last ≤ 60000
  · simp [ld, hl]
    refine wpCall_mono (in_spec w x.got 0 60000) ?_
    rintro _ H1 ⟨rfl, rfl⟩
    by_cases hg : 0 ≤ x.got ∧ x.got ≤ 60000
    · by_cases h8 : x.opens.length ≤ 8
      · have e8 : ¬ (8 : Int) < x.opens.length := by omega
        simp [ld, hg, e8]
        refine wp_loop' (fun n s => ∃ (T : Env) (i : Nat), s = ⟨T, H1, []⟩ ∧ n = x.opens.length - i ∧ i ≤ x.opens.length ∧ T.val 1 = .pointer (some ⟨p, 0, none⟩) ∧ T.val 3 = .int .i64 i ∧ ∀ j, j < i → OpenAt x j) (n := x.opens.length)
          ⟨_, 0, rfl, rfl, Nat.zero_le _, by simp, by simp, by intro j hj; omega⟩ ?_
        rintro n s K ⟨T, i, rfl, rfl, hi, t1, t3, hall⟩ hnext hexit
        by_cases hlt : i < x.opens.length
        · obtain ⟨b, da, dc, rfl, l1, l2, _, hd⟩ := ho1.at hlt
          have e3 : (i : Int) < x.opens.length := by omega
          have ew : IntKind.i64.wrap (IntKind.i64.wrap (IntKind.i64.wrap (x.last - x.opens.length) + 1) + i) = x.last - x.opens.length + 1 + i := by
            rw [i64_in (x.last - x.opens.length) (by omega), i64_in (x.last - x.opens.length + 1) (by omega), i64_in (x.last - x.opens.length + 1 + i) (by omega)]
          have bad : ¬ OpenAt x i → ¬ EndOK x := fun h hE => h (hE.2.2.2.1 i)
          simp [t1, t3, ld, e3, l1, ew]
          by_cases hn : x.opens[i].1 = x.last - x.opens.length + 1 + i
          · by_cases h1 : x.last - x.opens.length + 1 + i < 1
            · simp [hn, h1]
              refine hexit _ _ (by simp) ?_
              simp
              exact ⟨hp.same, .no (bad fun h => by have := (h hlt).2.1; omega)⟩
            · simp [hn, h1, t1, t3, ld, e3, l2]
              refine wpCall_mono (refFrame_spec w) ?_
              rintro _ H1 ⟨rfl, rfl⟩
              by_cases hf : FrameOK x.opens[i].2
              · have e4 : (1 : Int) ≤ x.opens[i].2.length := by have := hf.1; omega
                have e5 : (x.opens[i].2.length : Int) ≤ 400 := by have := hf.2; omega
                simp [e4, e5, t3]
                refine hnext (x.opens.length - (i + 1)) _ (by omega) ⟨_, i + 1, rfl, rfl, by omega, by simp [t1], by simp; rw [i64_in _ (by omega)], ?_⟩
                intro j hj
                by_cases hji : j = i
                · subst hji
                  exact fun h => ⟨hn, by omega, hf⟩
                · exact hall j (by omega)
              · have e4 : (decide ((1 : Int) ≤ x.opens[i].2.length) && decide ((x.opens[i].2.length : Int) ≤ 400)) = false := by
                  simp only [FrameOK] at hf
                  simp
                  omega
                simp [e4]
                refine hexit _ _ (by simp) ?_
                simp
                exact ⟨hp.same, .no (bad fun h => hf (h hlt).2.2)⟩
          · simp [hn]
            refine hexit _ _ (by simp) ?_
            simp
            exact ⟨hp.same, .no (bad fun h => hn (h hlt).1)⟩
        · have : i = x.opens.length := by omega
          subst this
          have hopen : ∀ j, OpenAt x j := fun j h => hall j h h
          simp [t1, t3, ld]
          refine hexit _ _ (by simp) ?_
          simp
          refine wp_loop' (fun n s => ∃ (T : Env) (i : Nat), s = ⟨T, H1, []⟩ ∧ n = x.early.length - i ∧ i ≤ x.early.length ∧ T.val 1 = .pointer (some ⟨p, 0, none⟩) ∧ T.val 5 = .int .i64 i ∧ ∀ j, j < i → EarlyAt x j) (n := x.early.length)
            ⟨_, 0, rfl, rfl, Nat.zero_le _, by simp [t1], by simp, by intro j hj; omega⟩ ?_
          rintro n s K ⟨T, i, rfl, rfl, hi, t1, t3, hall2⟩ hnext hexit
          by_cases hlt : i < x.early.length
          · obtain ⟨b, da, dc, rfl, l1, l2, _, hd⟩ := he1.at hlt
            have e3 : (i : Int) < x.early.length := by omega
            have bad : ¬ EarlyAt x i → ¬ EndOK x := fun h hE => h (hE.2.2.2.2 i)
            have e2 : IntKind.i64.wrap (x.got + 2) = x.got + 2 := i64_in _ (by omega)
            have e8' : IntKind.i64.wrap (x.got + 8) = x.got + 8 := i64_in _ (by omega)
            have hM : (if 60000 < x.got + 8 then 60000 else x.got + 8) = min (x.got + 8) 60000 := by omega
            simp [t1, t3, ld, e3, l1, e2, e8', hM]
            refine wpCall_mono (in_spec w x.early[i].1 (x.got + 2) (min (x.got + 8) 60000)) ?_
            rintro _ H1 ⟨rfl, rfl⟩
            by_cases hr : x.got + 2 ≤ x.early[i].1 ∧ x.early[i].1 ≤ min (x.got + 8) 60000
            · have er : (decide (x.got + 2 ≤ x.early[i].1) && decide (x.early[i].1 ≤ min (x.got + 8) 60000)) = true := by simp only [hr.1, hr.2, decide_true, Bool.and_self]
              by_cases h0 : i = 0
              · subst h0
                have ez : ¬ (0 : Int) < ((0 : Nat) : Int) := by omega
                simp only [Nat.zero_mul, Nat.zero_add] at l2
                simp [er, t1, t3, ld, hlt, l2]
                refine wpCall_mono (refFrame_spec w) ?_
                rintro _ H1 ⟨rfl, rfl⟩
                by_cases hf : FrameOK x.early[0].2
                · have e4 : (1 : Int) ≤ x.early[0].2.length := by have := hf.1; omega
                  have e5 : (x.early[0].2.length : Int) ≤ 400 := by have := hf.2; omega
                  simp [e4, e5, t3]
                  refine hnext (x.early.length - 1) _ (by omega) ⟨_, 1, rfl, rfl, by omega, by simp [t1], by simp; rw [i64_in _ (by omega)], ?_⟩
                  intro j hj
                  have : j = 0 := by omega
                  subst this
                  exact fun h => ⟨hr.1, hr.2, fun h => absurd h (by omega), hf⟩
                · have e4 : (decide ((1 : Int) ≤ x.early[0].2.length) && decide ((x.early[0].2.length : Int) ≤ 400)) = false := by
                    simp only [FrameOK] at hf
                    simp
                    omega
                  simp [e4]
                  refine hexit _ _ (by simp) ?_
                  simp
                  exact ⟨hp.same, .no (bad fun h => hf (h hlt).2.2.2)⟩
              · obtain ⟨b', da', dc', he', m1, _, _, _⟩ := he1.at (i := i - 1) (by omega)
                cases he'
                have ez : 0 < i := by omega
                have ei : IntKind.i64.wrap ((i : Int) - 1) = ((i - 1 : Nat) : Int) := by rw [i64_in ((i : Int) - 1) (by omega)]; omega
                have ej : ((i - 1 : Nat) : Int) < x.early.length := by omega
                by_cases hlt2 : x.early[i - 1].1 < x.early[i].1
                · have el : ¬ x.early[i].1 ≤ x.early[i - 1].1 := by omega
                  simp [er, t1, t3, ld, e3, l2, ez, ei, ej, m1, el]
                  refine wpCall_mono (refFrame_spec w) ?_
                  rintro _ H1 ⟨rfl, rfl⟩
                  by_cases hf : FrameOK x.early[i].2
                  · have e4 : (1 : Int) ≤ x.early[i].2.length := by have := hf.1; omega
                    have e5 : (x.early[i].2.length : Int) ≤ 400 := by have := hf.2; omega
                    simp [e4, e5, t3]
                    refine hnext (x.early.length - (i + 1)) _ (by omega) ⟨_, i + 1, rfl, rfl, by omega, by simp [t1], by simp; rw [i64_in _ (by omega)], ?_⟩
                    intro j hj
                    by_cases hji : j = i
                    · subst hji
                      exact fun h => ⟨hr.1, hr.2, fun _ => hlt2, hf⟩
                    · exact hall2 j (by omega)
                  · have e4 : (decide ((1 : Int) ≤ x.early[i].2.length) && decide ((x.early[i].2.length : Int) ≤ 400)) = false := by
                      simp only [FrameOK] at hf
                      simp
                      omega
                    simp [e4]
                    refine hexit _ _ (by simp) ?_
                    simp
                    exact ⟨hp.same, .no (bad fun h => hf (h hlt).2.2.2)⟩
                · have el : x.early[i].1 ≤ x.early[i - 1].1 := by omega
                  simp [er, t1, t3, ld, ez, ei, ej, m1, el]
                  refine hexit _ _ (by simp) ?_
                  simp
                  exact ⟨hp.same, .no (bad fun h => hlt2 ((h hlt).2.2.1 ez))⟩
            · have er : (decide (x.got + 2 ≤ x.early[i].1) && decide (x.early[i].1 ≤ min (x.got + 8) 60000)) = false := by
                simp only [Bool.and_eq_false_iff, decide_eq_false_iff_not]
                omega
              simp [er, absent]
              refine hexit _ _ (by simp) ?_
              simp
              exact ⟨hp.same, .no (bad fun h => hr ⟨(h hlt).1, (h hlt).2.1⟩)⟩
          · have : i = x.early.length := by omega
            subst this
            have hearly : ∀ j, EarlyAt x j := fun j h => hall2 j h h
            simp [t1, t3, ld]
            refine hexit _ _ (by simp) ?_
            simp
            exact ⟨hp.same, .yes ⟨hl, hg, h8, hopen, hearly⟩⟩
      · have e8 : (8 : Int) < x.opens.length := by omega
        simp [ld, hg, e8]
        exact ⟨hp.same, .no fun h => h8 h.2.2.1⟩
    · have : (decide (0 ≤ x.got) && decide (x.got ≤ 60000)) = false := by simp; omega
      simp [this]
      exact ⟨hp.same, .no fun h => hg h.2.1⟩
  · have : (decide (0 ≤ x.last) && decide (x.last ≤ 60000)) = false := by simp; omega
    simp [this]
    exact ⟨hp.same, .no fun h => hl h.1⟩
end Go.Ai.Wire

namespace Go.Ai.Wire
open Go.Proofs Go.IntWalk
attribute [local irreducible] Trie.put

theorem thin_spec (w : World) {H : AHeap} (hw : WF H) {x : LineA} {v : Value} (hx : LineR (ctxW w) H x v) : wpCall (ctxW w) (.func (.func 6) #[] #[]) [v] H fun r H' => Same H H' ∧ r = .bool (thinL x) := by
  obtain ⟨o0, e0, o1, e1, f, rfl, h1, h2, h3, h4, h5⟩ := hx
  obtain ⟨a1, c1, rfl⟩ := h1.val
  obtain ⟨a2, c2, rfl⟩ := h2.val
  obtain ⟨a3, c3, rfl⟩ := h3.val
  obtain ⟨a4, c4, rfl⟩ := h4.val
  obtain ⟨a5, c5, rfl⟩ := h5.val
  refine wpCall_fn rfl (get6 w) ?_
  simp [ir6]
  refine w_box (cs := [.int .i64 x.a.last, .slice a1 x.a.opens.length c1, .int .i64 x.a.got, .slice a2 x.a.early.length c2, .int .i64 x.b.last, .slice a3 x.b.opens.length c3, .int .i64 x.b.got, .slice a4 x.b.early.length c4, .slice a5 x.fly.length c5]) hw (by simp [lineV]) rfl (by simp) fun p H1 hp => ?_
  have ld := fun off n => Obj1.load (C := ctxW w) (off := off) (n := n) hp.obj
  simp [ld]
  refine wpCall_mono (thinEnd_spec w hp.same.wf' (x := x.a) ⟨_, _, rfl, h1.same hp.same, h2.same hp.same⟩) ?_
  rintro _ H2 ⟨hs2, rfl⟩
  have hs02 := hp.same.trans hs2
  have ld2 := fun off n => Obj1.load (C := ctxW w) (off := off) (n := n) (hp.obj.same hs2)
  cases ha : thinE x.a with
  | false =>
    simp
    exact ⟨hs02, by simp [thinL, ha]⟩
  | true =>
    simp [ld2]
    refine wpCall_mono (thinEnd_spec w hs02.wf' (x := x.b) ⟨_, _, rfl, h3.same hs02, h4.same hs02⟩) ?_
    rintro _ H3 ⟨hs3, rfl⟩
    have hs03 := hs02.trans hs3
    have ld3 := fun off n => Obj1.load (C := ctxW w) (off := off) (n := n) ((hp.obj.same hs2).same hs3)
    have hf := h5.same hs03
    cases hb : thinE x.b with
    | false =>
      simp
      exact ⟨hs03, by simp [thinL, hb]⟩
    | true =>
      by_cases h7 : x.fly.length ≤ 70
      · have e7 : ¬ (70 : Int) < x.fly.length := by omega
        simp [ld3, e7]
        refine wp_loop' (fun n s => ∃ (T : Env) (i : Nat), s = ⟨T, H3, []⟩ ∧ n = x.fly.length - i ∧ i ≤ x.fly.length ∧ T.val 1 = .pointer (some ⟨p, 0, none⟩) ∧ T.val 3 = .int .i64 i ∧ (x.fly.take i).all (short 500) = true) (n := x.fly.length)
          ⟨_, 0, rfl, rfl, Nat.zero_le _, by simp, by simp, by simp⟩ ?_
        rintro n s K ⟨T, i, rfl, rfl, hi, t1, t3, hall⟩ hnext hexit
        by_cases hlt : i < x.fly.length
        · obtain ⟨b, da, dc, rfl, _, l2, _, _⟩ := hf.at hlt
          have e3 : (i : Int) < x.fly.length := by omega
          simp [t1, t3, ld3, e3, l2]
          by_cases h5 : x.fly[i].2.length ≤ 500
          · have e5 : ¬ (500 : Int) < x.fly[i].2.length := by omega
            simp [e5, t3]
            refine hnext (x.fly.length - (i + 1)) _ (by omega) ⟨_, i + 1, rfl, rfl, by omega, by simp [t1], by simp; rw [i64_in _ (by omega)], ?_⟩
            rw [all_take_succ _ hlt, hall]
            simp [short, h5]
          · have e5 : (500 : Int) < x.fly[i].2.length := by omega
            simp [e5]
            refine hexit _ _ (by simp) ?_
            simp
            refine ⟨hs03, ?_⟩
            have := all_false (short 500) hlt (by simp [short]; omega)
            simp [thinL, this]
        · have : i = x.fly.length := by omega
          subst this
          rw [List.take_length] at hall
          simp [t1, t3, ld3]
          refine hexit _ _ (by simp) ?_
          simp
          exact ⟨hs03, by simp [thinL, ha, hb, h7, hall]⟩
      · have e7 : (70 : Int) < x.fly.length := by omega
        simp [ld3, e7]
        exact ⟨hs03, by simp [thinL, h7]⟩

theorem isLine_spec (w : World) {H : AHeap} (hw : WF H) {x : LineA} {v : Value} (hx : LineR (ctxW w) H x v) (hsm : x.a.early.length ≤ 1000000 ∧ x.b.early.length ≤ 1000000) : wpCall (ctxW w) (.func (.func 27) #[] #[]) [v] H fun r H' => Same H H' ∧ Tells (LineOK x) r := by
  obtain ⟨o0, e0, o1, e1, f, rfl, h1, h2, h3, h4, h5⟩ := hx
  obtain ⟨a1, c1, rfl⟩ := h1.val
  obtain ⟨a2, c2, rfl⟩ := h2.val
  obtain ⟨a3, c3, rfl⟩ := h3.val
  obtain ⟨a4, c4, rfl⟩ := h4.val
  obtain ⟨a5, c5, rfl⟩ := h5.val
  refine wpCall_fn rfl (get27 w) ?_
  simp [ir27]
  refine w_box (cs := [.int .i64 x.a.last, .slice a1 x.a.opens.length c1, .int .i64 x.a.got, .slice a2 x.a.early.length c2, .int .i64 x.b.last, .slice a3 x.b.opens.length c3, .int .i64 x.b.got, .slice a4 x.b.early.length c4, .slice a5 x.fly.length c5]) hw (by simp [lineV]) rfl (by simp) fun p H1 hp => ?_
  have ld := fun off n => Obj1.load (C := ctxW w) (off := off) (n := n) hp.obj
  simp [ld]
  refine wpCall_mono (isEnd_spec w hp.same.wf' (x := x.a) ⟨_, _, rfl, h1.same hp.same, h2.same hp.same⟩ hsm.1) ?_
  rintro _ H2 ⟨hs2, ba, rfl, hba⟩
  have hs02 := hp.same.trans hs2
  have ld2 := fun off n => Obj1.load (C := ctxW w) (off := off) (n := n) (hp.obj.same hs2)
  cases ba with
  | false =>
    simp
    exact ⟨hs02, .no fun h => by simpa using hba.2 h.1⟩
  | true =>
    have hba := hba.1 rfl
    simp [ld2]
    refine wpCall_mono (isEnd_spec w hs02.wf' (x := x.b) ⟨_, _, rfl, h3.same hs02, h4.same hs02⟩ hsm.2) ?_
    rintro _ H3 ⟨hs3, bb, rfl, hbb⟩
    have hs03 := hs02.trans hs3
    have ld3 := fun off n => Obj1.load (C := ctxW w) (off := off) (n := n) ((hp.obj.same hs2).same hs3)
    have hf := h5.same hs03
    cases bb with
    | false =>
      simp
      exact ⟨hs03, .no fun h => by simpa using hbb.2 h.2.1⟩
    | true =>
      have hbb := hbb.1 rfl
      by_cases h7 : x.fly.length ≤ 60
      · have e7 : ¬ (60 : Int) < x.fly.length := by omega
        simp [ld3, e7]
        refine wp_loop' (fun n s => ∃ (T : Env) (i : Nat), s = ⟨T, H3, []⟩ ∧ n = x.fly.length - i ∧ i ≤ x.fly.length ∧ T.val 1 = .pointer (some ⟨p, 0, none⟩) ∧ T.val 3 = .int .i64 i ∧ ∀ j, j < i → FlightAt x.fly j) (n := x.fly.length)
          ⟨_, 0, rfl, rfl, Nat.zero_le _, by simp, by simp, by intro j hj; omega⟩ ?_
        rintro n s K ⟨T, i, rfl, rfl, hi, t1, t3, hall⟩ hnext hexit
        by_cases hlt : i < x.fly.length
        · obtain ⟨b, da, dc, rfl, l1, l2, _, _⟩ := hf.at hlt
          have e3 : (i : Int) < x.fly.length := by omega
          have bad : ¬ FlightAt x.fly i → ¬ LineOK x := fun h hL => h (hL.2.2.2 i)
          simp [t1, t3, ld3, e3, l1]
          refine wpCall_mono (in_spec w x.fly[i].1 0 1) ?_
          rintro _ H3 ⟨rfl, rfl⟩
          by_cases hr : 0 ≤ x.fly[i].1 ∧ x.fly[i].1 ≤ 1
          · simp [hr, t1, t3, ld3, e3, l2]
            refine wpCall_mono (in_spec w x.fly[i].2.length 1 408) ?_
            rintro _ H3 ⟨rfl, rfl⟩
            by_cases hf : 1 ≤ x.fly[i].2.length ∧ x.fly[i].2.length ≤ 408
            · have e4 : (1 : Int) ≤ x.fly[i].2.length := by omega
              have e5 : (x.fly[i].2.length : Int) ≤ 408 := by omega
              simp [e4, e5, t3]
              refine hnext (x.fly.length - (i + 1)) _ (by omega) ⟨_, i + 1, rfl, rfl, by omega, by simp [t1], by simp; rw [i64_in _ (by omega)], ?_⟩
              intro j hj
              by_cases hji : j = i
              · subst hji
                exact fun h => ⟨hr, hf⟩
              · exact hall j (by omega)
            · have e4 : (decide ((1 : Int) ≤ x.fly[i].2.length) && decide ((x.fly[i].2.length : Int) ≤ 408)) = false := by
                simp
                omega
              simp [e4]
              refine hexit _ _ (by simp) ?_
              simp
              exact ⟨hs03, .no (bad fun h => hf (h hlt).2)⟩
          · have er : (decide (0 ≤ x.fly[i].1) && decide (x.fly[i].1 ≤ 1)) = false := by
              simp
              omega
            simp [er]
            refine hexit _ _ (by simp) ?_
            simp
            exact ⟨hs03, .no (bad fun h => hr (h hlt).1)⟩
        · have : i = x.fly.length := by omega
          subst this
          simp [t1, t3, ld3]
          refine hexit _ _ (by simp) ?_
          simp
          exact ⟨hs03, .yes ⟨hba, hbb, h7, fun j h => hall j h h⟩⟩
      · have e7 : (60 : Int) < x.fly.length := by omega
        simp [ld3, e7]
        exact ⟨hs03, .no fun h => h7 h.2.2.1⟩
end Go.Ai.Wire

namespace Go.Ai.Wire
open Go.Proofs Go.IntWalk
attribute [local irreducible] Trie.put

def itV (n : Int) (dv : Value) : Value := .agg #[.int .i64 n, dv]

/-- A function that tells of frames whether something is so. -/
def PredI (C : Ctx) (H0 : AHeap) (f : Value) (P : Itm → Bool) : Prop :=
  ∀ H1, Same H0 H1 → ∀ n da dc d, Bs C H1 (.slice da (List.length d) dc) d → wpCall C f [itV n (.slice da d.length dc)] H1 fun r H2 => Same H1 H2 ∧ r = .bool (P (n, d))

theorem PredI.same {C : Ctx} {H H' : AHeap} (hs : Same H H') {f : Value} {P : Itm → Bool} (h : PredI C H f P) : PredI C H' f P := fun H1 h1 => h H1 (hs.trans h1)

/-- The first place of which something is so, or -1. -/
def firstI (P : Itm → Bool) (l : List Itm) : Int := if l.findIdx P < l.length then (l.findIdx P : Int) else -1

theorem firstI_at {P : Itm → Bool} {l : List Itm} {i : Nat} (hi : i < l.length) (h : P l[i] = true) (hb : ∀ j (hj : j < l.length), j < i → P l[j] = false) : firstI P l = i := by
  have : l.findIdx P = i := (List.findIdx_eq hi).2 ⟨h, fun j hj => by simpa using hb j (by omega) hj⟩
  unfold firstI
  rw [this, if_pos hi]
theorem firstI_none {P : Itm → Bool} {l : List Itm} (hb : ∀ j (hj : j < l.length), P l[j] = false) : firstI P l = -1 := by
  unfold firstI
  rw [if_neg]
  intro h
  have h1 := List.findIdx_getElem (p := P) (w := h)
  rw [hb _ h] at h1
  cases h1
theorem firstI_any (P : Itm → Bool) (l : List Itm) : decide (0 ≤ firstI P l) = l.any P := by
  unfold firstI
  split
  · rename_i h
    have h1 := List.findIdx_getElem (p := P) (w := h)
    have : l.any P = true := List.any_eq_true.2 ⟨_, List.getElem_mem h, h1⟩
    rw [this]
    simp
  · rename_i h
    have : l.any P = false := by
      rw [List.any_eq_false]
      intro x hx hp
      exact h (List.findIdx_lt_length_of_exists ⟨x, hx, hp⟩)
    rw [this]
    rfl

theorem indexI_spec (w : World) {k : Nat} (hk : k = 102 ∨ k = 91) {H : AHeap} (hw : WF H) {v f : Value} {l : List Itm} {P : Itm → Bool} (hv : Its (ctxW w) H v l) (hf : PredI (ctxW w) H f P) (hsm : l.length ≤ 1000000) :
    wpCall (ctxW w) (.func (.func k) #[] #[]) [v, f] H fun r H' => Same H H' ∧ r = .int .i64 (firstI P l) := by
  obtain ⟨a, c, rfl⟩ := hv.val
  have main : ∀ {F : IFunc}, F = ir102 → (ctxW w).funcs.get k = some F → wpCall (ctxW w) (.func (.func k) #[] #[]) [.slice a l.length c, f] H fun r H' => Same H H' ∧ r = .int .i64 (firstI P l) := by
    intro F hF hg
    refine wpCall_fn (by rcases hk with rfl | rfl <;> rfl) hg ?_
    subst hF
    simp [ir102]
    refine wp_loop' (fun n s => ∃ (T : Env) (H1 : AHeap) (i : Nat), s = ⟨T, H1, []⟩ ∧ n = l.length - i ∧ i ≤ l.length ∧ T.val 0 = .slice a l.length c ∧ T.val 1 = f ∧ T.val 7 = .int .i64 l.length ∧ T.val 8 = .int .i64 i ∧ Same H H1 ∧ ∀ j (hj : j < l.length), j < i → P l[j] = false) (n := l.length)
      ⟨_, H, 0, rfl, rfl, Nat.zero_le _, by simp, by simp, by simp, by simp, Same.refl hw, by intro j hj h; omega⟩ ?_
    rintro n s K ⟨T, H1, i, rfl, rfl, hi, t0, t1, t7, t8, hs, hall⟩ hnext hexit
    by_cases hlt : i < l.length
    · obtain ⟨b, da, dc, rfl, _, _, l3, hd⟩ := (hv.same hs).at hlt
      have e3 : (i : Int) < l.length := by omega
      simp [t0, t1, t7, t8, e3, l3]
      refine wpCall_mono (hf H1 hs l[i].1 da dc l[i].2 hd) ?_
      rintro _ H2 ⟨hs2, rfl⟩
      simp
      cases hP : P l[i] with
      | true =>
        simp
        refine hexit _ _ (by simp) ?_
        simp
        exact ⟨hs.trans hs2, (firstI_at hlt hP hall).symm⟩
      | false =>
        simp [t8]
        refine hnext (l.length - (i + 1)) _ (by omega) ⟨_, H2, i + 1, rfl, rfl, by omega, by simp [t0], by simp [t1], by simp [t7], by simp; rw [i64_in _ (by omega)], hs.trans hs2, ?_⟩
        intro j hj hji
        by_cases h : j = i
        · subst h; exact hP
        · exact hall j hj (by omega)
    · have : i = l.length := by omega
      subst this
      simp [t7, t8]
      refine hexit _ _ (by simp) ?_
      simp
      exact ⟨hs, (firstI_none fun j hj => hall j hj hj).symm⟩
  rcases hk with rfl | rfl
  · exact main rfl (get102 w)
  · exact main rfl (get91 w)

theorem containsI_spec (w : World) {k : Nat} (hk : k = 89 ∨ k = 69) {H : AHeap} (hw : WF H) {v f : Value} {l : List Itm} {P : Itm → Bool} (hv : Its (ctxW w) H v l) (hf : PredI (ctxW w) H f P) (hsm : l.length ≤ 1000000) :
    wpCall (ctxW w) (.func (.func k) #[] #[]) [v, f] H fun r H' => Same H H' ∧ r = .bool (l.any P) := by
  rcases hk with rfl | rfl
  · refine wpCall_fn rfl (get89 w) ?_
    simp [ir89]
    refine wpCall_mono (indexI_spec w (.inl rfl) hw hv hf hsm) ?_
    rintro _ H1 ⟨hs, rfl⟩
    simp
    exact ⟨hs, firstI_any P l⟩
  · refine wpCall_fn rfl (get69 w) ?_
    simp [ir69]
    refine wpCall_mono (indexI_spec w (.inr rfl) hw hv hf hsm) ?_
    rintro _ H1 ⟨hs, rfl⟩
    simp
    exact ⟨hs, firstI_any P l⟩

theorem notI_spec (w : World) {k : Nat} (hk : k = 90 ∨ k = 70) {H : AHeap} {f : Value} {P : Itm → Bool} {q : Nat} (hq : Obj1 H q [f]) (hf : PredI (ctxW w) H f P) :
    PredI (ctxW w) H (.func (.func k) #[] #[.pointer (some ⟨q, 0, none⟩)]) fun x => !P x := by
  intro H1 hs n da dc d hd
  rcases hk with rfl | rfl
  · refine wpCall_fn rfl (get90 w) ?_
    simp [ir90]
    refine w_box (cs := [.int .i64 n, .slice da d.length dc]) hs.wf' (by simp [itV]) rfl (by simp) fun p H2 hp => ?_
    have ldq := fun off n => Obj1.load (C := ctxW w) (off := off) (n := n) ((hq.same hs).same hp.same)
    have ld := fun off n => Obj1.load (C := ctxW w) (off := off) (n := n) hp.obj
    simp [ldq, ld]
    refine wpCall_mono (hf H2 (hs.trans hp.same) n da dc d (hd.same hp.same)) ?_
    rintro _ H3 ⟨hs3, rfl⟩
    simp
    exact hp.same.trans hs3
  · refine wpCall_fn rfl (get70 w) ?_
    simp [ir70]
    refine w_box (cs := [.int .i64 n, .slice da d.length dc]) hs.wf' (by simp [itV]) rfl (by simp) fun p H2 hp => ?_
    have ldq := fun off n => Obj1.load (C := ctxW w) (off := off) (n := n) ((hq.same hs).same hp.same)
    have ld := fun off n => Obj1.load (C := ctxW w) (off := off) (n := n) hp.obj
    simp [ldq, ld]
    refine wpCall_mono (hf H2 (hs.trans hp.same) n da dc d (hd.same hp.same)) ?_
    rintro _ H3 ⟨hs3, rfl⟩
    simp
    exact hp.same.trans hs3

theorem any_not_all {α : Type} (P : α → Bool) (l : List α) : (!l.any fun x => !P x) = l.all P := by
  induction l with
  | nil => rfl
  | cons a r ih => simp only [List.any_cons, List.all_cons, Bool.not_or, Bool.not_not, ih]

theorem allI_spec (w : World) {k : Nat} (hk : k = 67 ∨ k = 42) {H : AHeap} (hw : WF H) {v : Value} {fn : FuncId} {l : List Itm} {P : Itm → Bool} (hv : Its (ctxW w) H v l) (hf : PredI (ctxW w) H (.func (.func fn) #[] #[]) P) (hsm : l.length ≤ 1000000) :
    wpCall (ctxW w) (.func (.func k) #[] #[]) [v, .func (.func fn) #[] #[]] H fun r H' => Same H H' ∧ r = .bool (l.all P) := by
  rcases hk with rfl | rfl
  · refine wpCall_fn rfl (get67 w) ?_
    simp [ir67]
    refine w_box (cs := [.func (.func fn) #[] #[]]) hw (by simp) rfl (by simp) fun p H1 hp => ?_
    simp
    refine wpCall_mono (containsI_spec w (.inl rfl) hp.same.wf' (hv.same hp.same) (notI_spec w (.inl rfl) hp.obj (hf.same hp.same)) hsm) ?_
    rintro _ H2 ⟨hs2, rfl⟩
    simp
    refine ⟨hp.same.trans hs2, ?_⟩
    rw [← any_not_all, Bool.not_not]
  · refine wpCall_fn rfl (get42 w) ?_
    simp [ir42]
    refine w_box (cs := [.func (.func fn) #[] #[]]) hw (by simp) rfl (by simp) fun p H1 hp => ?_
    simp
    refine wpCall_mono (containsI_spec w (.inr rfl) hp.same.wf' (hv.same hp.same) (notI_spec w (.inr rfl) hp.obj (hf.same hp.same)) hsm) ?_
    rintro _ H2 ⟨hs2, rfl⟩
    simp
    refine ⟨hp.same.trans hs2, ?_⟩
    rw [← any_not_all, Bool.not_not]

def frameB (x : Itm) : Bool := decide ((1 : Int) ≤ x.2.length) && decide ((x.2.length : Int) ≤ 400)
theorem frameB_iff (x : Itm) : frameB x = true ↔ FrameOK x.2 := by
  simp only [frameB, FrameOK, Bool.and_eq_true, decide_eq_true_eq]
  omega

theorem isItem_spec (w : World) {H : AHeap} : PredI (ctxW w) H (.func (.func 66) #[] #[]) frameB := by
  intro H1 hs n da dc d hd
  refine wpCall_fn rfl (get66 w) ?_
  simp [ir66]
  refine w_box (cs := [.int .i64 n, .slice da d.length dc]) hs.wf' (by simp [itV]) rfl (by simp) fun p H2 hp => ?_
  have ld := fun off n => Obj1.load (C := ctxW w) (off := off) (n := n) hp.obj
  simp [ld]
  refine wpCall_mono (isFrame_spec w rfl) ?_
  rintro _ H3 ⟨rfl, rfl⟩
  simp
  exact ⟨hp.same, rfl⟩

def flightB (x : Itm) : Bool := (decide (0 ≤ x.1) && decide (x.1 ≤ 1)) && (decide ((1 : Int) ≤ x.2.length) && decide ((x.2.length : Int) ≤ 408))

theorem isFlight_spec (w : World) {H : AHeap} : PredI (ctxW w) H (.func (.func 43) #[] #[]) flightB := by
  intro H1 hs n da dc d hd
  refine wpCall_fn rfl (get43 w) ?_
  simp [ir43]
  refine w_box (cs := [.int .i64 n, .slice da d.length dc]) hs.wf' (by simp [itV]) rfl (by simp) fun p H2 hp => ?_
  have ld := fun off n => Obj1.load (C := ctxW w) (off := off) (n := n) hp.obj
  simp [ld]
  refine wpCall_mono (within_spec w n 0 1) ?_
  rintro _ H3 ⟨rfl, rfl⟩
  by_cases hn : 0 ≤ n ∧ n ≤ 1
  · simp [hn, ld]
    refine wpCall_mono (within_spec w d.length 1 408) ?_
    rintro _ H3 ⟨rfl, rfl⟩
    simp
    exact ⟨hp.same, by simp [flightB, hn]⟩
  · have e : (decide (0 ≤ n) && decide (n ≤ 1)) = false := by simp; omega
    simp [e]
    exact ⟨hp.same, by simp only [flightB, e, Bool.false_and]⟩
end Go.Ai.Wire

namespace Go.Ai.Wire
open Go.Proofs Go.IntWalk
attribute [local irreducible] Trie.put

/-- Early frames' numbers rise, so they are few. -/
theorem early_few {x : EndA} (h : ∀ i, EarlyAt x i) (hlen : x.early.length ≤ 1000000) : x.early.length ≤ 8 := by
  have key : ∀ i (hi : i < x.early.length), x.got + 2 + i ≤ x.early[i].1 := by
    intro i
    induction i with
    | zero =>
      intro hi
      have := (h 0 hi).1
      omega
    | succ i ih =>
      intro hi
      have h1 := ih (by omega)
      have h2 := (h (i + 1) hi).2.2.1 (by omega)
      simp only [Nat.add_sub_cancel] at h2
      omega
  rcases Nat.lt_or_ge 8 x.early.length with h8 | h8
  · have h1 := key 8 h8
    have h2 := (h 8 h8).2.1
    omega
  · exact h8

theorem endOK_of {x : EndA} (hl : 0 ≤ x.last ∧ x.last ≤ 60000) (hg : 0 ≤ x.got ∧ x.got ≤ 60000) (ho : x.opens.length ≤ 8) (fo : x.opens.all frameB = true) (fe : x.early.all frameB = true)
    (no : ∀ j (h : j < x.opens.length), x.opens[j].1 = x.last - x.opens.length + 1 + j ∧ 1 ≤ x.opens[j].1) (ne : ∀ j (h : j < x.early.length), x.got + 2 ≤ x.early[j].1 ∧ x.early[j].1 ≤ min (x.got + 8) 60000 ∧ (∀ _ : 0 < j, x.early[j - 1].1 < x.early[j].1)) : EndOK x := by
  rw [List.all_eq_true] at fo fe
  refine ⟨hl, hg, ho, fun j h => ⟨(no j h).1, (no j h).2, (frameB_iff _).1 (fo _ (List.getElem_mem h))⟩, fun j h => ⟨(ne j h).1, (ne j h).2.1, (ne j h).2.2, (frameB_iff _).1 (fe _ (List.getElem_mem h))⟩⟩

theorem EndOK.opensB {x : EndA} (h : EndOK x) : x.opens.all frameB = true := by
  rw [List.all_eq_true]
  intro y hy
  obtain ⟨i, hi, rfl⟩ := List.getElem_of_mem hy
  exact (frameB_iff _).2 (h.2.2.2.1 i hi).2.2
theorem EndOK.earlyB {x : EndA} (h : EndOK x) : x.early.all frameB = true := by
  rw [List.all_eq_true]
  intro y hy
  obtain ⟨i, hi, rfl⟩ := List.getElem_of_mem hy
  exact (frameB_iff _).2 (h.2.2.2.2 i hi).2.2.2

set_option maxHeartbeats 1000000 in
theorem endRight_spec (w : World) {H : AHeap} (hw : WF H) {x : EndA} {v : Value} (hx : EndR (ctxW w) H x v) (hsm : x.opens.length ≤ 1000000 ∧ x.early.length ≤ 1000000) : wpCall (ctxW w) (.func (.func 41) #[] #[]) [v] H fun r H' => Same H H' ∧ Tells (EndOK x) r := by
  obtain ⟨ov, ev, rfl, ho, he⟩ := hx
  obtain ⟨a1, c1, rfl⟩ := ho.val
  obtain ⟨a2, c2, rfl⟩ := he.val
  refine wpCall_fn rfl (get41 w) ?_
  simp [ir41]
  refine w_box (cs := [.int .i64 x.last, .slice a1 x.opens.length c1, .int .i64 x.got, .slice a2 x.early.length c2]) hw (by simp [endV]) rfl (by simp) fun p H1 hp => ?_
  have ld := fun off n => Obj1.load (C := ctxW w) (off := off) (n := n) hp.obj
  have ho1 := ho.same hp.same
  have he1 := he.same hp.same
  simp [ld]
  refine wpCall_mono (isCount_spec w x.last) ?_
  rintro _ H1 ⟨rfl, rfl⟩
  by_cases hl : 0 ≤ x.last ∧ x.last ≤ 60000
  · simp [ld, hl]
    refine wpCall_mono (isCount_spec w x.got) ?_
    rintro _ H1 ⟨rfl, rfl⟩
    by_cases hg : 0 ≤ x.got ∧ x.got ≤ 60000
    · by_cases h8 : x.opens.length ≤ 8
      · have e8 : ¬ (8 : Int) < x.opens.length := by omega
        by_cases h9 : x.early.length ≤ 8
        · have e9 : ¬ (8 : Int) < x.early.length := by omega
          simp [ld, hg, e8, e9]
          refine wpCall_mono (allI_spec w (.inl rfl) hp.same.wf' ho1 (isItem_spec w) hsm.1) ?_
          rintro _ H2 ⟨hs2, rfl⟩
          have ld2 := fun off n => Obj1.load (C := ctxW w) (off := off) (n := n) (hp.obj.same hs2)
          cases fo : x.opens.all frameB with
          | false =>
            simp
            exact ⟨hp.same.trans hs2, .no fun h => by rw [h.opensB] at fo; cases fo⟩
          | true =>
            simp [ld2]
            refine wpCall_mono (allI_spec w (.inl rfl) (hp.same.trans hs2).wf' (he1.same hs2) (isItem_spec w) hsm.2) ?_
            rintro _ H3 ⟨hs3, rfl⟩
            have ho3 := (hp.obj.same hs2).same hs3
            have ld3 := fun off n => Obj1.load (C := ctxW w) (off := off) (n := n) ho3
            have hs03 := (hp.same.trans hs2).trans hs3
            cases fe : x.early.all frameB with
            | false =>
              simp
              exact ⟨hs03, .no fun h => by rw [h.earlyB] at fe; cases fe⟩
            | true =>
              have ew : IntKind.i64.wrap (IntKind.i64.wrap (x.last - x.opens.length) + 1) = x.last - x.opens.length + 1 := by
                rw [i64_in (x.last - x.opens.length) (by omega), i64_in (x.last - x.opens.length + 1) (by omega)]
              simp [ld3, ew]
              refine wp_loop' (fun n s => ∃ (T : Env) (H4 : AHeap) (i : Nat), s = ⟨T, H4, []⟩ ∧ n = x.opens.length - i ∧ i ≤ x.opens.length ∧ Same H3 H4 ∧ T.val 1 = .pointer (some ⟨p, 0, none⟩) ∧ T.val 4 = .int .i64 (x.last - x.opens.length + 1) ∧ T.val 54 = .slice a1 x.opens.length c1 ∧ T.val 55 = .int .i64 x.opens.length ∧ T.val 56 = .int .i64 i ∧
                ∀ j (h : j < x.opens.length), j < i → x.opens[j].1 = x.last - x.opens.length + 1 + j ∧ 1 ≤ x.opens[j].1) (n := x.opens.length)
                ⟨_, H3, 0, rfl, rfl, Nat.zero_le _, Same.refl hs03.wf', by simp, by simp, by simp, by simp, by simp, by intro j _ hj; omega⟩ ?_
              rintro n s K ⟨T, H4, i, rfl, rfl, hi, hs4, t1, t4, t54, t55, t56, hall⟩ hnext hexit
              have hs04 := hs03.trans hs4
              by_cases hlt : i < x.opens.length
              · obtain ⟨b, da, dc, rfl, _, _, l3, hd⟩ := (ho.same hs04).at hlt
                have e3 : (i : Int) < x.opens.length := by omega
                simp [t54, t55, t56, e3, l3]
                refine w_mk hs04.wf' fun q H5 hq => ?_
                simp
                refine w_store (p := q) (off := 0) (xs := [.int .i64 x.opens[i].1, .slice da x.opens[i].2.length dc]) hq.same.wf' hq.obj (by simp) (by simp) rfl (by simp) (by simp) (by simp) fun H6 hm6 hn6 ho6 => ?_
                have hs46 : Same H4 H6 := hq.same.then_mod hm6 (by have := hq.new; omega)
                have ld6 := fun off n => Obj1.load (C := ctxW w) (off := off) (n := n) ho6
                have ei : IntKind.i64.wrap (x.last - x.opens.length + 1 + i) = x.last - x.opens.length + 1 + i := by rw [i64_in _ (by omega)]
                have bad : ¬ OpenAt x i → ¬ EndOK x := fun h hE => h (hE.2.2.2.1 i)
                simp [t4, ld6, ei]
                by_cases hn : x.opens[i].1 = x.last - x.opens.length + 1 + i
                · by_cases h1 : x.last - x.opens.length + 1 + i < 1
                  · simp [hn, h1, ld6]
                    refine hexit _ _ (by simp) ?_
                    simp
                    exact ⟨hs04.trans hs46, .no (bad fun h => by have := (h hlt).2.1; omega)⟩
                  · simp [hn, h1, ld6, t56]
                    refine hnext (x.opens.length - (i + 1)) _ (by omega) ⟨_, H6, i + 1, rfl, rfl, by omega, hs4.trans hs46, by simp [t1], by simp [t4], by simp [t54], by simp [t55], by simp; rw [i64_in _ (by omega)], ?_⟩
                    intro j hj hji
                    by_cases h : j = i
                    · subst h; exact ⟨hn, by omega⟩
                    · exact hall j hj (by omega)
                · simp [hn]
                  refine hexit _ _ (by simp) ?_
                  simp
                  exact ⟨hs04.trans hs46, .no (bad fun h => hn (h hlt).1)⟩
              · have : i = x.opens.length := by omega
                subst this
                have hopen := fun j (h : j < x.opens.length) => hall j h h
                have ld4 := fun off n => Obj1.load (C := ctxW w) (off := off) (n := n) (ho3.same hs4)
                have e2 : IntKind.i64.wrap (x.got + 2) = x.got + 2 := i64_in _ (by omega)
                simp [t55, t56]
                refine hexit _ _ (by simp) ?_
                simp [t1, ld4, e2]
                refine wp_loop' (fun n s => ∃ (T : Env) (H5 : AHeap) (i : Nat), s = ⟨T, H5, []⟩ ∧ n = x.early.length - i ∧ i ≤ x.early.length ∧ Same H4 H5 ∧ T.val 1 = .pointer (some ⟨p, 0, none⟩) ∧ T.val 7 = .int .i64 (if h : 0 < i ∧ i ≤ x.early.length then x.early[i - 1].1 + 1 else x.got + 2) ∧ T.val 77 = .slice a2 x.early.length c2 ∧ T.val 78 = .int .i64 x.early.length ∧ T.val 79 = .int .i64 i ∧
                  ∀ j (h : j < x.early.length), j < i → x.got + 2 ≤ x.early[j].1 ∧ x.early[j].1 ≤ min (x.got + 8) 60000 ∧ (∀ _ : 0 < j, x.early[j - 1].1 < x.early[j].1)) (n := x.early.length)
                  ⟨_, H4, 0, rfl, rfl, Nat.zero_le _, Same.refl hs04.wf', by simp [t1], by simp, by simp, by simp, by simp, by intro j _ hj; omega⟩ ?_
                rintro n s K ⟨T, H5, i, rfl, rfl, hi, hs5, t1, t7, t77, t78, t79, hall2⟩ hnext hexit
                have hs05 := hs04.trans hs5
                by_cases hlt : i < x.early.length
                · obtain ⟨b, da, dc, rfl, _, _, l3, hd⟩ := (he.same hs05).at hlt
                  have e3 : (i : Int) < x.early.length := by omega
                  simp [t77, t78, t79, e3, l3]
                  refine w_mk hs05.wf' fun q H6 hq => ?_
                  refine w_store (p := q) (off := 0) (xs := [.int .i64 x.early[i].1, .slice da x.early[i].2.length dc]) hq.same.wf' hq.obj (by simp) (by simp) rfl (by simp) (by simp) (by simp) fun H7 hm7 hn7 ho7 => ?_
                  have hs57 : Same H5 H7 := hq.same.then_mod hm7 (by have := hq.new; omega)
                  have ld7 := fun off n => Obj1.load (C := ctxW w) (off := off) (n := n) ho7
                  have ldp := fun off n => Obj1.load (C := ctxW w) (off := off) (n := n) (((ho3.same hs4).same hs5).same hs57)
                  have e8' : IntKind.i64.wrap (x.got + 8) = x.got + 8 := i64_in _ (by omega)
                  have hM : (if 60000 < x.got + 8 then 60000 else x.got + 8) = min (x.got + 8) 60000 := by omega
                  obtain ⟨L, hL⟩ : ∃ L, L = (if h : 0 < i ∧ i ≤ x.early.length then x.early[i - 1].1 + 1 else x.got + 2) := ⟨_, rfl⟩
                  rw [← hL] at t7
                  have bad : ¬ EarlyAt x i → ¬ EndOK x := fun h hE => h (hE.2.2.2.2 i)
                  simp [t1, t7, ld7, ldp, e8', hM]
                  refine wpCall_mono (within_spec w x.early[i].1 L (min (x.got + 8) 60000)) ?_
                  rintro _ H7 ⟨rfl, rfl⟩
                  have hLow : (i = 0 ∧ L = x.got + 2) ∨ ∃ h : 0 < i, L = x.early[i - 1].1 + 1 ∧ x.got + 2 ≤ x.early[i - 1].1 := by
                    by_cases h0 : 0 < i
                    · exact .inr ⟨h0, by rw [hL, dif_pos ⟨h0, by omega⟩], (hall2 (i - 1) (by omega) (by omega)).1⟩
                    · exact .inl ⟨by omega, by rw [hL, dif_neg (by omega)]⟩
                  by_cases hr : L ≤ x.early[i].1 ∧ x.early[i].1 ≤ min (x.got + 8) 60000
                  · have er : (decide (L ≤ x.early[i].1) && decide (x.early[i].1 ≤ min (x.got + 8) 60000)) = true := by simp only [hr.1, hr.2, decide_true, Bool.and_self]
                    have hz : x.got + 2 ≤ x.early[i].1 := by rcases hLow with ⟨_, h⟩ | ⟨_, h, h'⟩ <;> omega
                    have hzw : IntKind.i64.wrap (x.early[i].1 + 1) = x.early[i].1 + 1 := by
                      have h1 := hr.2
                      generalize x.early[i].1 = z at *
                      exact i64_in _ (by omega)
                    simp [er, ld7, t79]
                    refine hnext (x.early.length - (i + 1)) _ (by omega) ⟨_, H7, i + 1, rfl, rfl, by omega, hs5.trans hs57, by simp [t1], ?_, by simp [t77], by simp [t78], by simp; rw [i64_in _ (by omega)], ?_⟩
                    · simp
                      rw [dif_pos (by omega), hzw]
                    · intro j hj hji
                      by_cases h : j = i
                      · subst h
                        refine ⟨?_, hr.2, fun h0 => ?_⟩
                        · rcases hLow with ⟨_, h⟩ | ⟨_, h, h'⟩ <;> omega
                        · rcases hLow with ⟨h, _⟩ | ⟨_, h, h'⟩ <;> omega
                      · exact hall2 j hj (by omega)
                  · have er : (decide (L ≤ x.early[i].1) && decide (x.early[i].1 ≤ min (x.got + 8) 60000)) = false := by
                      simp only [Bool.and_eq_false_iff, decide_eq_false_iff_not]
                      omega
                    simp [er]
                    refine hexit _ _ (by simp) ?_
                    simp
                    refine ⟨hs05.trans hs57, .no (bad fun h => ?_)⟩
                    have h1 := h hlt
                    refine hr ⟨?_, h1.2.1⟩
                    rcases hLow with ⟨_, h'⟩ | ⟨h0, h', _⟩
                    · have := h1.1; omega
                    · have := h1.2.2.1 h0; omega
                · have : i = x.early.length := by omega
                  subst this
                  simp [t78, t79]
                  refine hexit _ _ (by simp) ?_
                  simp
                  exact ⟨hs05, .yes (endOK_of hl hg h8 fo fe hopen fun j h => hall2 j h h)⟩
        · have e9 : (8 : Int) < x.early.length := by omega
          simp [ld, hg, e8, e9]
          exact ⟨hp.same, .no fun h => h9 (early_few h.2.2.2.2 hsm.2)⟩
      · have e8 : (8 : Int) < x.opens.length := by omega
        simp [ld, hg, e8]
        exact ⟨hp.same, .no fun h => h8 h.2.2.1⟩
    · have : (decide (0 ≤ x.got) && decide (x.got ≤ 60000)) = false := by simp; omega
      simp [this]
      exact ⟨hp.same, .no fun h => hg h.2.1⟩
  · have : (decide (0 ≤ x.last) && decide (x.last ≤ 60000)) = false := by simp; omega
    simp [this]
    exact ⟨hp.same, .no fun h => hl h.1⟩
end Go.Ai.Wire
