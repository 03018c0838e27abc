/-
  Packets that are right; fields; copies; the reference's sum.
-/
import Derived.Test.YtlikgpehalhgkaaW2
namespace Go.Ai.Wire
open Go.Proofs Go.IntWalk

def pkV (n g : Int) (v : Value) : Value := .agg #[.int .i64 n, .int .i64 g, v]

/-- Is a packet right? (By the length of its data.) -/
def okP (n g : Int) (len : Nat) : Bool := decide ((0 ≤ g ∧ g ≤ 60000) ∧ (0 ≤ n ∧ n ≤ 60000) ∧ if n = 0 then len = 0 else 1 ≤ len ∧ len ≤ 400)

theorem isRight_spec (w : World) {H : AHeap} (hw : WF H) (n g : Int) {a : Option Addr} {len c : Nat} :
    wpCall (ctxW w) (.func (.func 45) #[] #[]) [pkV n g (.slice a len c)] H fun r H' => Same H H' ∧ r = .bool (okP n g len) := by
  refine wpCall_fn rfl (get45 w) ?_
  simp [ir45]
  refine w_box (cs := [.int .i64 n, .int .i64 g, .slice a len c]) hw (by simp [pkV]) rfl (by simp) fun p H1 hp => ?_
  have ld := fun off n => Obj1.load (C := ctxW w) (off := off) (n := n) hp.obj
  simp [ld]
  refine wpCall_mono (isCount_spec w g) ?_
  rintro r H' ⟨rfl, rfl⟩
  by_cases hg : 0 ≤ g ∧ g ≤ 60000
  · simp [ld, hg]
    refine wpCall_mono (isCount_spec w n) ?_
    rintro r H' ⟨rfl, rfl⟩
    by_cases hn : 0 ≤ n ∧ n ≤ 60000
    · by_cases h0 : n = 0
      · subst h0
        simp [ld]
        exact ⟨hp.same, by simp [okP, hg]⟩
      · simp [ld, hn, h0]
        refine wpCall_mono (isFrame_spec w rfl) ?_
        rintro r H' ⟨rfl, rfl⟩
        simp
        refine ⟨hp.same, ?_⟩
        simp [okP, hg, hn, h0]
        congr 1 <;> (apply decide_eq_decide.2; omega)
    · have : (decide (0 ≤ n) && decide (n ≤ 60000)) = false := by simp; omega
      simp [ld, this]
      exact ⟨hp.same, by simp [okP, hn]⟩
  · have : (decide (0 ≤ g) && decide (g ≤ 60000)) = false := by simp; omega
    simp [ld, this]
    exact ⟨hp.same, by simp [okP, hg]⟩

theorem refFrame_spec (w : World) {H : AHeap} {a : Option Addr} {n c : Nat} : wpCall (ctxW w) (.func (.func 56) #[] #[]) [.slice a n c] H fun r H' => H' = H ∧ r = .bool (decide ((1 : Int) ≤ n) && decide ((n : Int) ≤ 400)) := by
  refine wpCall_fn rfl (get56 w) ?_
  simp [ir56]
  refine wpCall_mono (in_spec w n 1 400) ?_
  rintro r H' ⟨rfl, rfl⟩
  simp

theorem isPacket_spec (w : World) {H : AHeap} (hw : WF H) (n g : Int) {a : Option Addr} {len c : Nat} :
    wpCall (ctxW w) (.func (.func 47) #[] #[]) [pkV n g (.slice a len c)] H fun r H' => Same H H' ∧ r = .bool (okP n g len) := by
  refine wpCall_fn rfl (get47 w) ?_
  simp [ir47]
  refine w_box (cs := [.int .i64 n, .int .i64 g, .slice a len c]) hw (by simp [pkV]) rfl (by simp) fun p H1 hp => ?_
  have ld := fun off n => Obj1.load (C := ctxW w) (off := off) (n := n) hp.obj
  simp [ld]
  refine wpCall_mono (in_spec w g 0 60000) ?_
  rintro r H' ⟨rfl, rfl⟩
  by_cases hg : 0 ≤ g ∧ g ≤ 60000
  · by_cases h0 : n = 0
    · subst h0
      simp [ld, hg]
      exact ⟨hp.same, by simp [okP, hg]⟩
    · simp [ld, hg, h0]
      refine wpCall_mono (in_spec w n 1 60000) ?_
      rintro r H' ⟨rfl, rfl⟩
      by_cases hn : 1 ≤ n ∧ n ≤ 60000
      · simp [ld, hn]
        refine wpCall_mono (refFrame_spec w) ?_
        rintro r H' ⟨rfl, rfl⟩
        simp
        refine ⟨hp.same, ?_⟩
        have : 0 ≤ n := by omega
        simp [okP, hg, hn, h0, this]
        congr 1 <;> (apply decide_eq_decide.2; omega)
      · have : (decide (1 ≤ n) && decide (n ≤ 60000)) = false := by simp; omega
        simp [ld, this]
        refine ⟨hp.same, ?_⟩
        simp [okP]
        omega
  · have : (decide (0 ≤ g) && decide (g ≤ 60000)) = false := by simp; omega
    simp [ld, this]
    exact ⟨hp.same, by simp [okP, hg]⟩

theorem refSum_spec (w : World) {H : AHeap} {v : Value} {bs : List UInt8} (hb : Bs (ctxW w) H v bs) (hlen : bs.length ≤ 1000000) : wpCall (ctxW w) (.func (.func 19) #[] #[]) [v] H fun r H' => H' = H ∧ r = .int .i64 (sumF 0 0 bs) := by
  obtain ⟨a, c, rfl⟩ := hb.val
  refine wpCall_fn rfl (get19 w) ?_
  simp [ir19]
  refine wp_loop' (fun n s => ∃ (T : Env) (i acc : Nat), s = ⟨T, H, []⟩ ∧ n = bs.length - i ∧ i ≤ bs.length ∧ T.val 0 = .slice a bs.length c ∧ T.val 4 = .int .i64 i ∧ T.val 3 = .int .i64 acc ∧ acc < 65521 ∧
    sumF acc i (bs.drop i) = sumF 0 0 bs) (n := bs.length) ⟨_, 0, 0, rfl, rfl, Nat.zero_le _, by simp, by simp, by simp, by omega, by simp⟩ ?_
  rintro n s K ⟨T, i, acc, rfl, rfl, hi, h0, h4, h3, hacc, hs⟩ hnext hexit
  by_cases hlt : i < bs.length
  · obtain ⟨a, rfl, hl⟩ := hb.at hlt
    simp [h0, h4, h3, hlt, hl]
    have hx : (i + 1) * (bs[i].toNat + 1) ≤ 1000001 * 256 := Nat.mul_le_mul (by omega) (by have := bs[i].toNat_lt; omega)
    generalize hy : (i + 1) * (bs[i].toNat + 1) = y at hx
    have hyi : ((i : Int) + 1) * ((bs[i].toNat : Int) + 1) = (y : Int) := by rw [← hy]; simp
    refine hnext (bs.length - (i + 1)) _ (by omega) ⟨_, i + 1, (acc + y) % 65521, rfl, rfl, by omega, by simp [h0], ?_, ?_, by omega, ?_⟩
    · simp; rw [i64_in _ (by omega)]
    · simp
      rw [i64_in (bs[i].toNat : Int) (by have := bs[i].toNat_lt; omega), i64_in ((bs[i].toNat : Int) + 1) (by have := bs[i].toNat_lt; omega), i64_in ((i : Int) + 1) (by omega), hyi, i64_in (y : Int) (by omega), i64_in _ (by omega), Int.tmod_eq_emod_of_nonneg (by omega)]
    · rw [← hs, List.drop_eq_getElem_cons hlt, sumF, Nat.mul_comm, hy]
  · have : i = bs.length := by omega
    subst this
    simp [sumF] at hs
    simp [h0, h4, h3]
    refine hexit _ _ (by simp) ?_
    simp [h3, hs]

/-- A copy in new memory. -/
theorem clone_spec (w : World) {H : AHeap} (hw : WF H) {v : Value} {bs : List UInt8} (hb : Bs (ctxW w) H v bs) (hlen : bs.length ≤ 1000000) : wpCall (ctxW w) (.func (.func 51) #[] #[]) [v] H fun r H' => Same H H' ∧ Bs (ctxW w) H' r bs ∧ ∀ g, g < H.next → Off g r := by
  obtain ⟨a, c, rfl⟩ := hb.val
  refine wpCall_fn rfl (get51 w) ?_
  cases a with
  | none =>
    simp [ir51]
    obtain ⟨h1, a', c', he, h3, h4⟩ := hb
    cases he
    have := (h3 rfl).1
    have : bs = [] := List.length_eq_zero_iff.1 this
    subst this
    exact ⟨Same.refl hw, ⟨rfl, none, 0, rfl, by simp, by simp⟩, fun g _ a n c h => by cases h⟩
  | some a =>
    simp [ir51]
    refine w_bs (esz := 1) (cs := []) hw (by simp) (by simp) (by simp) fun p H1 hp hbp => ?_
    simp
    refine w_app (m := bs.length) (n := 0) (xs := bs.map u8v) hp.same.wf' (by simpa using hbp) (by simp; exact hb.same hp.same) (u8_scalar bs) (by simp [roomy]; omega) fun v' H2 hm hb2 => ?_
    simp
    refine ⟨hp.same.then_mod hm (by have := hp.new; omega), ?_⟩
    have := hb2.row (C := ctxW w)
    simp at this
    exact ⟨this, fun g hg => hb2.off (by have := hp.new; omega)⟩

/-- Two bytes as a number. -/
theorem field_spec (w : World) {H : AHeap} {v : Value} {bs : List UInt8} (hb : Bs (ctxW w) H v bs) {i : Nat} (hi : i + 1 < bs.length) (hlen : bs.length ≤ 1000000) :
    wpCall (ctxW w) (.func (.func 50) #[] #[]) [v, .int .i64 i] H fun r H' => H' = H ∧ r = .int .i64 (bs[i].toNat * 256 + bs[i + 1].toNat : Nat) := by
  obtain ⟨a, c, rfl⟩ := hb.val
  obtain ⟨a, rfl, hl1⟩ := hb.at (i := i) (by omega)
  obtain ⟨_, he, hl2⟩ := hb.at (i := i + 1) (by omega)
  cases he
  refine wpCall_fn rfl (get50 w) ?_
  have e1 : IntKind.i64.wrap ((i : Int) + 1) = ((i + 1 : Nat) : Int) := by rw [i64_in _ (by omega)]; simp
  have e2 : (i : Int) < bs.length := by omega
  have e3 : (i : Int) + 1 < bs.length := by omega
  have e4 : 0 ≤ (i : Int) + 1 := by omega
  have e5 : ((i : Int) + 1).toNat = i + 1 := by omega
  simp [ir50, hl1, hl2, e1, e2, e3, e4, e5, freeAll, free, disj]
  have := bs[i].toNat_lt
  have := bs[i + 1].toNat_lt
  rw [i64_in (bs[i].toNat : Int) (by omega), i64_in (bs[i + 1].toNat : Int) (by omega), i64_in ((bs[i].toNat : Int) * 256) (by omega), i64_in _ (by omega)]
end Go.Ai.Wire
