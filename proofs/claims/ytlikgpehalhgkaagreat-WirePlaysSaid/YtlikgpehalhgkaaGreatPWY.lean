/-
  'Turn'.
  The law of 'Turn': acts on a turned line.
  'turned'.
-/
import Derived.Test.YtlikgpehalhgkaaGreatPWP
import Derived.Test.YtlikgpehalhgkaaGreatPWIr6
import Derived.Test.YtlikgpehalhgkaaGreatPWU
namespace Go.Ai
section
variable {C : Ctx} {H : AHeap} {T : Env} {d : Option Nat} {K : Env → AHeap → Prop} {rd : List (Nat × IOper × List Nat)} {log : List Info} {ix : Nat} {un : List Nat}

end
end Go.Ai
namespace Go.Ai.Wire
open Go.Proofs Go.IntWalk
attribute [local irreducible] Trie.put

def flipI (f : Itm) : Itm := (1 - f.1, f.2)
/-- A line the other way round. -/
def turnL (x : LineA) : LineA := ⟨x.b, x.a, x.fly.map flipI⟩

theorem FlC.set {H : AHeap} {l : List Itm} {cs : List Value} {gs : List Nat} (h : FlC H l cs gs) : ∀ {i : Nat} (hi : i < l.length) (n : Int), FlC H (l.set i (n, l[i].2)) (cs.take (i * 2) ++ ([.int .i64 n] ++ cs.drop (i * 2 + 1))) gs := by
  induction h with
  | nil => intro i hi; simp at hi
  | @cons m d v g l cs gs h1 h2 ih =>
    intro i hi n
    cases i with
    | zero => simp; exact .cons h1 h2
    | succ i =>
      have := ih (i := i) (by simpa using hi) n
      rw [show (i + 1) * 2 = i * 2 + 1 + 1 by omega, show i * 2 + 1 + 1 + 1 = (i * 2 + 1) + 1 + 1 by omega]
      simp only [List.take_succ_cons, List.drop_succ_cons, List.set_cons_succ, List.getElem_cons_succ, List.cons_append]
      exact .cons h1 this

/-- Other colours. -/
theorem Plain.recol {col : Nat → Nat} {cs : List Value} (σ : Nat → Nat) (h0 : σ 0 = 0) (h : Plain col cs) : Plain (fun b => σ (col b)) cs := fun v hv a n c he hm => by
  show σ (col a.block) = 0
  rw [h v hv a n c he hm, h0]
theorem WIts.recol {C : Ctx} {H : AHeap} {col : Nat → Nat} {k : Nat} {v : Value} {l : List Itm} (σ : Nat → Nat) (h0 : σ 0 = 0) (h : WIts C H col k v l) : WIts C H (fun b => σ (col b)) (σ k) v l := by
  obtain ⟨g, cs, k1, k2, k3, k4⟩ := h
  exact ⟨g, cs, k1, fun hv => by show σ (col g) = σ k; rw [k2 hv], k3, k4.recol σ h0⟩
theorem WEnd.recol {C : Ctx} {H : AHeap} {col : Nat → Nat} {k k' q : Nat} {x : EndA} (σ : Nat → Nat) (h0 : σ 0 = 0) (h1 : σ k = k') (h2 : σ (k + 1) = k' + 1) (h3 : σ (k + 2) = k' + 2) (h : WEnd C H col k q x) : WEnd C H (fun b => σ (col b)) k' q x := by
  obtain ⟨ov, ev, e1, e2, e3, e4⟩ := h
  refine ⟨ov, ev, e1, by show σ (col q) = k'; rw [e2, h1], ?_, ?_⟩
  · rw [← h2]; exact e3.recol σ h0
  · rw [← h3]; exact e4.recol σ h0

def sigma (k : Nat) : Nat := if k = 1 ∨ k = 2 ∨ k = 3 then k + 3 else if k = 4 ∨ k = 5 ∨ k = 6 then k - 3 else k

/-- The ends change places. -/
theorem WL.swap {C : Ctx} {H : AHeap} {col : Nat → Nat} {q qa qb : Nat} {fv s0 s1 : Value} {y : LineW} (hobj : Obj1 H q [.pointer (some ⟨qb, 0, none⟩), .pointer (some ⟨qa, 0, none⟩), fv, s0, s1]) (c7 : col q = 7) (ea : WEnd C H col 1 qa y.x.a) (eb : WEnd C H col 4 qb y.x.b) {l : List Itm} (fl : WFly H col fv l) (r0 : WRow C H col 10 s0 y.h0) (r1 : WRow C H col 11 s1 y.h1) :
    WLine C H (fun b => sigma (col b)) q ⟨⟨y.x.b, y.x.a, l⟩, y.h0, y.h1⟩ := by
  refine ⟨qb, qa, fv, s0, s1, ⟨hobj, by show sigma (col q) = 7; rw [c7]; rfl, eb.recol sigma rfl rfl rfl rfl, ea.recol sigma rfl rfl rfl rfl, ?_, ?_, ?_⟩⟩
  · obtain ⟨g, cs, gs, k1, k2, k3, k4, k5⟩ := fl
    exact ⟨g, cs, gs, k1, fun hv => by show sigma (col g) = 8; rw [k2 hv]; rfl, k3, fun b hb => by show sigma (col b) = 9; rw [k4 b hb]; rfl, k5⟩
  · obtain ⟨g, cs, k1, k2, k3, k4⟩ := r0
    exact ⟨g, cs, k1, fun hv => by show sigma (col g) = 10; rw [k2 hv]; rfl, k3, k4.recol sigma rfl⟩
  · obtain ⟨g, cs, k1, k2, k3, k4⟩ := r1
    exact ⟨g, cs, k1, fun hv => by show sigma (col g) = 11; rw [k2 hv]; rfl, k3, k4.recol sigma rfl⟩

theorem turnL_ok {x : LineA} (h : LineOK x) : LineOK (turnL x) := by
  refine ⟨h.2.1, h.1, by dsimp only [turnL]; rw [List.length_map]; exact h.2.2.1, flights_mem.2 fun f hf => ?_⟩
  obtain ⟨f', hf', rfl⟩ := List.mem_map.1 hf
  have := flights_mem.1 h.2.2.2 f' hf'
  exact ⟨by dsimp only [flipI]; have := this.1; omega, this.2⟩

end Go.Ai.Wire

namespace Go.Ai.Wire
open Go.Proofs Go.IntWalk

def turnW (y : LineW) : LineW := ⟨turnL y.x, y.h1, y.h0⟩

theorem two {t : Nat} (h : t ≤ 1) : t = 0 ∨ t = 1 := by omega
theorem turn_end (y : LineW) {t : Nat} (h : t ≤ 1) : endW (turnW y) (1 - t) = endW y t := by
  rcases two h with rfl | rfl <;> rfl
theorem turn_set (y : LineW) {t : Nat} (h : t ≤ 1) (e : EndA) : setE (turnW y) (1 - t) e = turnW (setE y t e) := by
  rcases two h with rfl | rfl <;> rfl
theorem turn_hear (y : LineW) {t : Nat} (h : t ≤ 1) (l : List (List UInt8)) : hearW (turnW y) (1 - t) l = turnW (hearW y t l) := by
  rcases two h with rfl | rfl <;> rfl
theorem turn_put (y : LineW) (to : Int) (d : List UInt8) : putW (turnW y) (1 - to) d = turnW (putW y to d) := by
  unfold putW putF turnW turnL
  dsimp only
  rw [List.length_map]
  split
  · simp [flipI]
  · rfl
theorem turn_arrive (y : LineW) {t : Nat} (h : t ≤ 1) (d : List UInt8) : arriveW (turnW y) (1 - t) d = turnW (arriveW y t d) := by
  unfold arriveW
  rw [turn_end y h, turn_set y h, turn_hear _ h]
  split
  · rfl
  · rw [show (1 : Int) - ((1 - t : Nat) : Int) = 1 - (1 - (t : Int)) by omega, turn_put]
end Go.Ai.Wire

namespace Go.Ai.Wire
open Go.Proofs Go.IntWalk
attribute [local irreducible] Trie.put

theorem lineS_ok {x : LineA} (hok : LineOK x) : LineS x := (smallOK (y := ⟨x, [], []⟩) hok (by simp) (by simp)).small

end Go.Ai.Wire
