/-
  Bytes in memory; the sums.
-/
import Derived.Test.YtlikgpehalhgkaaWIr
import Derived.IntWalk
namespace Go.Ai.Wire
open Go.Proofs Go.IntWalk

attribute [simp] AOut.mods ofArgs evalOp binA binNum cmpNum wantedA resAll resA oneOrTuple lenA isNil refA fillA vcells scalar toBytes freeAll

@[simp] theorem int_beq (x y : Int) : (x == y) = decide (x = y) := by
  by_cases h : x = y <;> simp [h]
@[simp] theorem int_bne (x y : Int) : (x != y) = !decide (x = y) := by
  by_cases h : x = y <;> simp [h, bne]

theorem eqbW (w : World) (a : AObj) : (ctxW w).eqb a a = true := by simp [ctxW]

def u8v (b : UInt8) : Value := .int .u8 b.toNat

/-- A slice of bytes. -/
def Bs (C : Ctx) (H : AHeap) (v : Value) (bs : List UInt8) : Prop := Row C H v 1 bs.length (bs.map u8v)

theorem Bs.at {C : Ctx} {H : AHeap} {a : Option Addr} {n c : Nat} {bs : List UInt8} (h : Bs C H (.slice a n c) bs) {i : Nat} (hi : i < bs.length) : ∃ b, a = some b ∧ loadN C H.get (aadd b i) 1 = some [.int .u8 bs[i].toNat] := by
  obtain ⟨b, h1, _, h2⟩ := Row.at h (i := i) (by omega)
  exact ⟨b, h1, by simpa [u8v] using h2⟩
theorem Bs.val {C : Ctx} {H : AHeap} {v : Value} {bs : List UInt8} (h : Bs C H v bs) : ∃ a c, v = .slice a bs.length c := by
  obtain ⟨_, a, c, h, _⟩ := h
  exact ⟨a, c, h⟩
theorem Bs.same {C : Ctx} {H H' : AHeap} (hs : Same H H') {v : Value} {bs : List UInt8} (h : Bs C H v bs) : Bs C H' v bs := Row.same hs h
theorem u8_scalar (bs : List UInt8) : (bs.map u8v).all scalar = true := by simp [u8v]

def sumF (n i : Nat) : List UInt8 → Nat
  | [] => n
  | b :: r => sumF ((n + (b.toNat + 1) * (i + 1)) % 65521) (i + 1) r

theorem sum_spec (w : World) {H : AHeap} {v : Value} {bs : List UInt8} (hb : Bs (ctxW w) H v bs) (hlen : bs.length ≤ 1000000) : wpCall (ctxW w) (.func (.func 18) #[] #[]) [v] H fun r H' => H' = H ∧ r = .int .i64 (sumF 0 0 bs) := by
  obtain ⟨a, c, rfl⟩ := hb.val
  refine wpCall_fn rfl (get18 w) ?_
  simp [ir18]
  refine wp_loop (fun n s => ∃ (T : Env) (i acc : Nat), s = ⟨T, H, []⟩ ∧ n = bs.length - i ∧ i ≤ bs.length ∧ T.val 0 = .slice a bs.length c ∧ T.val 6 = .int .i64 bs.length ∧ T.val 7 = .int .i64 i ∧ T.val 3 = .int .i64 acc ∧ acc < 65521 ∧
    sumF acc i (bs.drop i) = sumF 0 0 bs) ?_ bs.length _ ⟨_, 0, 0, rfl, rfl, Nat.zero_le _, by simp, by simp, by simp, by simp, by omega, by simp⟩
  rintro n s ⟨T, i, acc, rfl, rfl, hi, h0, h6, h7, h3, hacc, hs⟩
  by_cases hlt : i < bs.length
  · obtain ⟨a, rfl, hl⟩ := hb.at hlt
    simp [h0, h6, h7, h3, hlt, hl]
    have hx : (bs[i].toNat + 1) * (i + 1) ≤ 256 * 1000001 := Nat.mul_le_mul (by have := bs[i].toNat_lt; omega) (by omega)
    generalize hy : (bs[i].toNat + 1) * (i + 1) = y at hx
    have hyi : ((bs[i].toNat : Int) + 1) * ((i : Int) + 1) = (y : Int) := by rw [← hy]; simp
    refine ⟨bs.length - (i + 1), by omega, i + 1, rfl, by omega, ?_, (acc + y) % 65521, ?_, by omega, ?_⟩
    · rw [i64_in _ (by omega)]; simp
    · rw [i64_in (bs[i].toNat : Int) (by have := bs[i].toNat_lt; omega), i64_in ((bs[i].toNat : Int) + 1) (by have := bs[i].toNat_lt; omega), i64_in ((i : Int) + 1) (by omega), hyi, i64_in (y : Int) (by omega), i64_in _ (by omega), Int.tmod_eq_emod_of_nonneg (by omega)]
      simp
    · rw [← hs, List.drop_eq_getElem_cons hlt, sumF, hy]
  · have : i = bs.length := by omega
    subst this
    simp [sumF] at hs
    simp [h0, h6, h7, h3, hs]

theorem within_spec (w : World) {H : AHeap} (n lo hi : Int) : wpCall (ctxW w) (.func (.func 49) #[] #[]) [.int .i64 n, .int .i64 lo, .int .i64 hi] H fun r H' => H' = H ∧ r = .bool (decide (lo ≤ n) && decide (n ≤ hi)) := by
  refine wpCall_fn rfl (get49 w) ?_
  by_cases h1 : lo ≤ n <;> by_cases h2 : n ≤ hi <;> simp [ir49, h1, h2]

theorem in_spec (w : World) {H : AHeap} (n lo hi : Int) : wpCall (ctxW w) (.func (.func 55) #[] #[]) [.int .i64 n, .int .i64 lo, .int .i64 hi] H fun r H' => H' = H ∧ r = .bool (decide (lo ≤ n) && decide (n ≤ hi)) := by
  refine wpCall_fn rfl (get55 w) ?_
  by_cases h1 : lo ≤ n <;> by_cases h2 : n ≤ hi <;> simp [ir55, h1, h2]

theorem isCount_spec (w : World) {H : AHeap} (n : Int) : wpCall (ctxW w) (.func (.func 70) #[] #[]) [.int .i64 n] H fun r H' => H' = H ∧ r = .bool (decide (0 ≤ n) && decide (n ≤ 60000)) := by
  refine wpCall_fn rfl (get70 w) ?_
  simp [ir70]
  refine wpCall_mono (within_spec w n 0 60000) ?_
  rintro r H' ⟨rfl, rfl⟩
  simp

theorem isFrame_spec (w : World) {H : AHeap} {v : Value} {n : Nat} {a : Option Addr} {c : Nat} (hv : v = .slice a n c) : wpCall (ctxW w) (.func (.func 61) #[] #[]) [v] H fun r H' => H' = H ∧ r = .bool (decide ((1 : Int) ≤ n) && decide ((n : Int) ≤ 400)) := by
  subst hv
  refine wpCall_fn rfl (get61 w) ?_
  simp [ir61]
  refine wpCall_mono (within_spec w n 1 400) ?_
  rintro r H' ⟨rfl, rfl⟩
  simp
end Go.Ai.Wire
