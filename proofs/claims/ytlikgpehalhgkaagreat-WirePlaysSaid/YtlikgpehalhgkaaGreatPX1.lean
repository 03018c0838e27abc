/-
  Settling a line: the law.
  Settling a line: all that was said is handed on.
-/
import Derived.Test.YtlikgpehalhgkaaGreatPWY
namespace Go.Ai.Wire

/-- The first packet comes. -/
def comeW (y : LineW) : LineW := match y.x.fly with
  | [] => y
  | f :: r => arriveW ⟨⟨y.x.a, y.x.b, r⟩, y.h0, y.h1⟩ f.1.toNat f.2

/-- All packets come. -/
inductive Calm : LineW → LineW → Prop
  | done {y : LineW} (h : y.x.fly = []) : Calm y y
  | step {y z : LineW} (h : y.x.fly ≠ []) (k : Calm (comeW y) z) : Calm y z

theorem Calm.keep {P : LineW → Prop} (hP : ∀ y, P y → y.x.fly ≠ [] → P (comeW y)) {y z : LineW} (h : Calm y z) : P y → P z ∧ z.x.fly = [] := by
  induction h with
  | done h => exact fun hp => ⟨hp, h⟩
  | step h k ih => exact fun hp => ih (hP _ hp h)

theorem Calm.none {y z : LineW} (h : Calm y z) (hf : y.x.fly = []) : z = y := by
  cases h with
  | done _ => rfl
  | step h k => exact absurd hf h

/-! ### the way down -/
/-! ### what was said comes -/
def InvT (s0 s1 k0 k1 : List (List UInt8)) (sp : Bool) (y : LineW) : Prop := InvL y.x s0 s1 (k0 ++ y.h0) (k1 ++ y.h1) sp

end Go.Ai.Wire

namespace Go.Ai.Wire

theorem turn_come {y : LineW} (hok : LineOK y.x) : comeW (turnW y) = turnW (comeW y) := by
  cases hf : y.x.fly with
  | nil =>
    have e : (turnW y).x.fly = [] := by show y.x.fly.map flipI = []; rw [hf]; rfl
    unfold comeW
    rw [e, hf]
  | cons f r =>
    have hto := (flights_mem.1 hok.2.2.2 f (by rw [hf]; simp)).1
    have e : (turnW y).x.fly = flipI f :: r.map flipI := by show y.x.fly.map flipI = _; rw [hf]; rfl
    unfold comeW
    rw [e, hf]
    dsimp only
    have e1 : (flipI f).1.toNat = 1 - f.1.toNat := by show (1 - f.1).toNat = _; omega
    rw [e1, show (flipI f).2 = f.2 from rfl]
    exact turn_arrive ⟨⟨y.x.a, y.x.b, r⟩, y.h0, y.h1⟩ (by omega) f.2

theorem comeW_ok {y : LineW} (hok : LineOK y.x) : LineOK (comeW y).x := by
  unfold comeW
  cases hf : y.x.fly with
  | nil => exact hok
  | cons f r =>
    have hlen := hok.2.2.1
    rw [hf, List.length_cons] at hlen
    have hto := (flights_mem.1 hok.2.2.2 f (by rw [hf]; simp)).1
    dsimp only
    exact arriveW_ok (y := ⟨⟨y.x.a, y.x.b, r⟩, y.h0, y.h1⟩) ⟨hok.1, hok.2.1, by dsimp only; omega, flights_mem.2 fun g hg => flights_mem.1 hok.2.2.2 g (by rw [hf]; simp [hg])⟩ (by omega) f.2

theorem Calm.turn {y z : LineW} (h : Calm y z) : LineOK y.x → Calm (turnW y) (turnW z) := by
  induction h with
  | done h => exact fun _ => .done (by show List.map flipI _ = []; rw [h]; rfl)
  | step h k ih =>
    rename_i y z
    intro hok
    refine .step (fun hn => h ?_) ?_
    · have : y.x.fly.map flipI = [] := hn
      simpa using this
    · rw [turn_come hok]
      exact ih (comeW_ok hok)

theorem InvL.turn {x : LineA} {s0 s1 h0 h1 : List (List UInt8)} {sp : Bool} (h : InvL x s0 s1 h0 h1 sp) : InvL (turnL x) s1 s0 h1 h0 sp := by
  refine ⟨turnL_ok h.ok, h.d10, h.d01, fun f hf h1 => ?_, fun f hf h0 => ?_, fun hs f hf => ?_⟩
  · obtain ⟨f', hf', rfl⟩ := List.mem_map.1 hf
    exact h.p0 f' hf' (by have : (1 : Int) - f'.1 = 1 := h1; omega)
  · obtain ⟨f', hf', rfl⟩ := List.mem_map.1 hf
    exact h.p1 f' hf' (by have : (1 : Int) - f'.1 = 0 := h0; omega)
  · obtain ⟨f', hf', rfl⟩ := List.mem_map.1 hf
    exact h.rd hs f' hf'

theorem InvT.turn {s0 s1 k0 k1 : List (List UInt8)} {sp : Bool} {y : LineW} (h : InvT s0 s1 k0 k1 sp y) : InvT s1 s0 k1 k0 sp (turnW y) := InvL.turn h

/-! ### sizes on the way -/
end Go.Ai.Wire
