/-
  Settling a line: the law.
  Settling a line: all that was said is handed on.
-/
import Derived.Test.YtlikgpehalhgkaaGreatSWY
namespace Go.Ai.Wire

/-- The first packet comes. -/
def comeW (y : LineW) : LineW := match y.x.fly with
  | [] => y
  | f :: r => arriveW ⟨⟨y.x.a, y.x.b, r⟩, y.h0, y.h1⟩ f.1.toNat f.2

/-- All packets come. -/
inductive Calm : LineW → LineW → Prop
  | done {y : LineW} (h : y.x.fly = []) : Calm y y
  | step {y z : LineW} (h : y.x.fly ≠ []) (k : Calm (comeW y) z) : Calm y z

theorem Calm.keep {P : LineW → Prop} (hP : ∀ y, P y → y.x.fly ≠ [] → P (comeW y)) {y z : LineW} (h : Calm y z) : P y → P z ∧ z.x.fly = [] := by
  induction h with
  | done h => exact fun hp => ⟨hp, h⟩
  | step h k ih => exact fun hp => ih (hP _ hp h)

theorem Calm.none {y z : LineW} (h : Calm y z) (hf : y.x.fly = []) : z = y := by
  cases h with
  | done _ => rfl
  | step h k => exact absurd hf h

theorem come0 {y : LineW} {d : List UInt8} {r : List Itm} (hf : y.x.fly = (0, d) :: r) : comeW y =
    if (takeF y.x.a d).2.2 = [] then ⟨⟨(takeF y.x.a d).1, y.x.b, r⟩, y.h0 ++ (takeF y.x.a d).2.1, y.h1⟩ else ⟨putF ⟨(takeF y.x.a d).1, y.x.b, r⟩ 1 (takeF y.x.a d).2.2, y.h0 ++ (takeF y.x.a d).2.1, y.h1⟩ := by
  unfold comeW
  rw [hf]
  rfl
theorem come1 {y : LineW} {d : List UInt8} {r : List Itm} (hf : y.x.fly = (1, d) :: r) : comeW y =
    if (takeF y.x.b d).2.2 = [] then ⟨⟨y.x.a, (takeF y.x.b d).1, r⟩, y.h0, y.h1 ++ (takeF y.x.b d).2.1⟩ else ⟨putF ⟨y.x.a, (takeF y.x.b d).1, r⟩ 0 (takeF y.x.b d).2.2, y.h0, y.h1 ++ (takeF y.x.b d).2.1⟩ := by
  unfold comeW
  rw [hf]
  rfl

/-- A reply is there only for a packet with a number. -/
theorem reply_is {R : EndA} {bs : List UInt8} (h : (takeF R bs).2.2 ≠ []) : (∃ n g d, readB bs = some (n, g, d) ∧ n ≠ 0) ∧ (takeF R bs).2.2 = enc 0 (takeF R bs).1.got.toNat [] := by
  unfold takeF at h ⊢
  cases hr : readB bs with
  | none => rw [hr] at h; exact absurd rfl h
  | some y =>
    obtain ⟨n, g, d⟩ := y
    rw [hr] at h
    dsimp only at h ⊢
    by_cases hl : R.last < g
    · rw [if_pos hl] at h; exact absurd rfl h
    · rw [if_neg hl] at h ⊢
      by_cases hn : n = 0
      · rw [if_pos hn] at h; exact absurd rfl h
      · rw [if_neg hn]
        refine ⟨⟨n, g, d, rfl, hn⟩, ?_⟩
        split
        · rfl
        · split
          · rfl
          · rfl

/-! ### the way down -/
def weight (bs : List UInt8) : Nat := match readB bs with
  | none => 1
  | some (n, _, _) => if n = 0 then 1 else 2
def rank : List Itm → Nat
  | [] => 0
  | f :: r => weight f.2 + rank r
theorem rank_snoc (f : Itm) : ∀ l : List Itm, rank (l ++ [f]) = rank l + weight f.2
  | [] => by simp [rank]
  | a :: l => by simp only [List.cons_append, rank, rank_snoc f l]; omega
theorem weight_le (bs : List UInt8) : 1 ≤ weight bs ∧ weight bs ≤ 2 := by
  unfold weight
  split
  · exact ⟨by decide, by decide⟩
  · split
    · exact ⟨by decide, by decide⟩
    · exact ⟨by decide, by decide⟩
theorem rank_le : ∀ l : List Itm, rank l ≤ 2 * l.length
  | [] => by simp [rank]
  | f :: r => by
    have := rank_le r
    have := (weight_le f.2).2
    simp only [rank, List.length_cons]
    omega

theorem reply_weight {R : EndA} (hok : EndOK R) {bs : List UInt8} (h : (takeF R bs).2.2 ≠ []) : weight bs = 2 ∧ weight (takeF R bs).2.2 = 1 := by
  obtain ⟨⟨n, g, d, hr, hn⟩, hk⟩ := reply_is h
  have hg := (takeF_ok hok bs).2.1
  have ho : okP ((0 : Nat) : Int) (((takeF R bs).1.got.toNat : Nat) : Int) ([] : List UInt8).length = true := okP_of (n := 0) (g := (takeF R bs).1.got.toNat) (d := []) (by omega) (by omega) (by simp)
  refine ⟨by unfold weight; rw [hr]; simp [hn], ?_⟩
  rw [hk]
  unfold weight
  rw [readB_enc ho]
  simp

theorem come_rank {y : LineW} (hok : LineOK y.x) (hne : y.x.fly ≠ []) : rank (comeW y).x.fly < rank y.x.fly := by
  cases hf : y.x.fly with
  | nil => exact absurd hf hne
  | cons f r =>
    obtain ⟨to, d⟩ := f
    have hto := (flights_mem.1 hok.2.2.2 (to, d) (by rw [hf]; simp)).1
    have hw := (weight_le d).1
    have key : ∀ (R : EndA) (x : LineA) (to' : Int), EndOK R → (takeF R d).2.2 ≠ [] → x.fly = r → rank (putF x to' (takeF R d).2.2).fly < rank ((to, d) :: r) := by
      intro R x to' hR hne hx
      obtain ⟨w1, w2⟩ := reply_weight hR hne
      unfold putF
      split
      · dsimp only
        rw [hx, rank_snoc]
        simp only [rank]
        omega
      · rw [hx]
        simp only [rank]
        omega
    rcases (by dsimp only at hto; omega : to = 0 ∨ to = 1) with rfl | rfl
    · rw [come0 hf]
      split
      · dsimp only [rank]; omega
      · rename_i hn
        exact key y.x.a _ _ hok.1 hn rfl
    · rw [come1 hf]
      split
      · dsimp only [rank]; omega
      · rename_i hn
        exact key y.x.b _ _ hok.2.1 hn rfl

/-! ### what was said comes -/
def InvT (s0 s1 k0 k1 : List (List UInt8)) (sp : Bool) (y : LineW) : Prop := InvL y.x s0 s1 (k0 ++ y.h0) (k1 ++ y.h1) sp

end Go.Ai.Wire

namespace Go.Ai.Wire

/-- What 'Settle' does: all packets come, then what is open is sent again, end by end. -/
def Settled (y z : LineW) : Prop := ∃ y1 y2, Calm y y1 ∧ Calm (againW y1 0) y2 ∧ Calm (againW y2 1) z

theorem turn_come {y : LineW} (hok : LineOK y.x) : comeW (turnW y) = turnW (comeW y) := by
  cases hf : y.x.fly with
  | nil =>
    have e : (turnW y).x.fly = [] := by show y.x.fly.map flipI = []; rw [hf]; rfl
    unfold comeW
    rw [e, hf]
  | cons f r =>
    have hto := (flights_mem.1 hok.2.2.2 f (by rw [hf]; simp)).1
    have e : (turnW y).x.fly = flipI f :: r.map flipI := by show y.x.fly.map flipI = _; rw [hf]; rfl
    unfold comeW
    rw [e, hf]
    dsimp only
    have e1 : (flipI f).1.toNat = 1 - f.1.toNat := by show (1 - f.1).toNat = _; omega
    rw [e1, show (flipI f).2 = f.2 from rfl]
    exact turn_arrive ⟨⟨y.x.a, y.x.b, r⟩, y.h0, y.h1⟩ (by omega) f.2

theorem comeW_ok {y : LineW} (hok : LineOK y.x) : LineOK (comeW y).x := by
  unfold comeW
  cases hf : y.x.fly with
  | nil => exact hok
  | cons f r =>
    have hlen := hok.2.2.1
    rw [hf, List.length_cons] at hlen
    have hto := (flights_mem.1 hok.2.2.2 f (by rw [hf]; simp)).1
    dsimp only
    exact arriveW_ok (y := ⟨⟨y.x.a, y.x.b, r⟩, y.h0, y.h1⟩) ⟨hok.1, hok.2.1, by dsimp only; omega, flights_mem.2 fun g hg => flights_mem.1 hok.2.2.2 g (by rw [hf]; simp [hg])⟩ (by omega) f.2

theorem Calm.turn {y z : LineW} (h : Calm y z) : LineOK y.x → Calm (turnW y) (turnW z) := by
  induction h with
  | done h => exact fun _ => .done (by show List.map flipI _ = []; rw [h]; rfl)
  | step h k ih =>
    rename_i y z
    intro hok
    refine .step (fun hn => h ?_) ?_
    · have : y.x.fly.map flipI = [] := hn
      simpa using this
    · rw [turn_come hok]
      exact ih (comeW_ok hok)

theorem InvL.turn {x : LineA} {s0 s1 h0 h1 : List (List UInt8)} {sp : Bool} (h : InvL x s0 s1 h0 h1 sp) : InvL (turnL x) s1 s0 h1 h0 sp := by
  refine ⟨turnL_ok h.ok, h.d10, h.d01, fun f hf h1 => ?_, fun f hf h0 => ?_, fun hs f hf => ?_⟩
  · obtain ⟨f', hf', rfl⟩ := List.mem_map.1 hf
    exact h.p0 f' hf' (by have : (1 : Int) - f'.1 = 1 := h1; omega)
  · obtain ⟨f', hf', rfl⟩ := List.mem_map.1 hf
    exact h.p1 f' hf' (by have : (1 : Int) - f'.1 = 0 := h0; omega)
  · obtain ⟨f', hf', rfl⟩ := List.mem_map.1 hf
    exact h.rd hs f' hf'

theorem InvT.turn {s0 s1 k0 k1 : List (List UInt8)} {sp : Bool} {y : LineW} (h : InvT s0 s1 k0 k1 sp y) : InvT s1 s0 k1 k0 sp (turnW y) := InvL.turn h

/-! ### sizes on the way -/
theorem come_h {y : LineW} (hok : LineOK y.x) : (comeW y).h0.length ≤ y.h0.length + 8 ∧ (comeW y).h1.length ≤ y.h1.length + 8 := by
  unfold comeW
  cases hf : y.x.fly with
  | nil => dsimp only; exact ⟨by omega, by omega⟩
  | cons f r =>
    have hlen := hok.2.2.1
    rw [hf, List.length_cons] at hlen
    dsimp only
    exact arriveW_h (y := ⟨⟨y.x.a, y.x.b, r⟩, y.h0, y.h1⟩) ⟨hok.1, hok.2.1, by dsimp only; omega, flights_mem.2 fun g hg => flights_mem.1 hok.2.2.2 g (by rw [hf]; simp [hg])⟩ f.1.toNat f.2
end Go.Ai.Wire
