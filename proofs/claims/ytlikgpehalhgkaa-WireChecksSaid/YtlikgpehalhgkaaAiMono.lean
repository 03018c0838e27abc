/-
  More fuel does not change an answer; what is answered, as relations.
-/
import Derived.Test.YtlikgpehalhgkaaAiClosed
namespace Go.Ai

structure OLe (o o' : Orc) : Prop where
  call : ∀ f as H r, o.call f as H = some r → o'.call f as H = some r
  loop : ∀ ro c s r, o.loop ro c s = some r → o'.loop ro c s = some r

theorem OLe.refl (o : Orc) : OLe o o := ⟨fun _ _ _ _ h => h, fun _ _ _ _ h => h⟩
theorem OLe.trans {a b c : Orc} (h : OLe a b) (k : OLe b c) : OLe a c := ⟨fun f as H r x => k.call f as H r (h.call f as H r x), fun ro c s r x => k.loop ro c s r (h.loop ro c s r x)⟩

section
variable {C : Ctx} {o o' : Orc}

theorem stepA_mono (h : OLe o o') {x : IOper} {T : Env} {H : AHeap} {r : Env × AHeap × Info} (hh : stepA C o x T H = some r) : stepA C o' x T H = some r := by
  unfold stepA at hh ⊢
  split at hh
  · exact hh
  · exact hh
  · split at hh
    · rename_i f as hop
      split at hh
      · rename_i v H' hc
        rw [h.call _ _ _ _ hc]
        exact hh
      · cases hh
    · exact hh

theorem opsA_mono (h : OLe o o') : ∀ (xs : List IOper) (T : Env) (H : AHeap) (r : Env × AHeap), opsA C o xs T H = some r → opsA C o' xs T H = some r
  | [], _, _, _, hh => hh
  | x :: xs, T, H, r, hh => by
    simp only [opsA] at hh ⊢
    split at hh
    · rename_i T' H' i hs
      rw [stepA_mono h hs]
      exact opsA_mono h xs _ _ _ hh
    · cases hh

theorem dopsA_mono (h : OLe o o') : ∀ (es : List (Nat × IOper × List Nat)) (log : List Info) (T : Env) (H : AHeap) (r : Env × AHeap), dopsA C o es log T H = some r → dopsA C o' es log T H = some r
  | [], _, _, _, _, hh => hh
  | (_, x, un) :: es, log, T, H, r, hh => by
    simp only [dopsA] at hh ⊢
    split at hh
    · rename_i T' H' i hs
      rw [stepA_mono h hs]
      dsimp only
      split at hh
      · rename_i hf
        rw [if_pos hf]
        exact dopsA_mono h es _ _ _ _ hh
      · cases hh
    · cases hh

theorem codeA_mono (h : OLe o o') : ∀ (c : ICode) (ro : Option Nat) (s : St) (r : AExit × St), codeA C o ro c s = some r → codeA C o' ro c s = some r := by
  intro c
  induction c with
  | skip | exit _ | ret | bad => intro ro s r hh; exact hh
  | region ops =>
    intro ro s r hh
    simp only [codeA] at hh ⊢
    split at hh
    · rename_i T H ho; rw [opsA_mono h _ _ _ _ ho]; exact hh
    · cases hh
  | dregion ops =>
    intro ro s r hh
    simp only [codeA] at hh ⊢
    split at hh
    · rename_i T H ho; rw [dopsA_mono h _ _ _ _ _ ho]; exact hh
    · cases hh
  | seq a b iha ihb =>
    intro ro s r hh
    simp only [codeA] at hh ⊢
    split at hh
    · rename_i s1 h1
      rw [iha _ _ _ h1]
      exact ihb _ _ _ hh
    · rename_i hne
      cases r with
      | mk e s' =>
        rw [iha _ _ _ hh]
        cases e with
        | normal => exact absurd hh (hne _)
        | exit id => rfl
        | ret => rfl
  | cond x a b iha ihb =>
    intro ro s r hh
    simp only [codeA] at hh ⊢
    split at hh
    · exact iha _ _ _ hh
    · exact ihb _ _ _ hh
    · cases hh
  | block id c ih =>
    intro ro s r hh
    simp only [codeA] at hh ⊢
    split at hh
    · rename_i i s1 h1
      rw [ih _ _ _ h1]
      exact hh
    · rename_i hne
      cases r with
      | mk e s' =>
        rw [ih _ _ _ hh]
        cases e with
        | exit i => exact absurd hh (hne _ _)
        | normal => rfl
        | ret => rfl
  | loop c ih => intro ro s r hh; exact h.loop _ _ _ _ hh
  | rangeFunc f ps assign body _ _ =>
    intro ro s r hh
    simp only [codeA] at hh ⊢
    split at hh
    · cases hh
    · split at hh
      · cases hh
      · rename_i v H3 hc
        rw [h.call _ _ _ _ hc]
        exact hh

theorem callFn_mono (h : OLe o o') {F : IFunc} {as : List Value} {H : AHeap} {r : Value × AHeap} (hh : callFn C o F as H = some r) : callFn C o' F as H = some r := by
  unfold callFn at hh ⊢
  split at hh
  · cases hh
  · rename_i e s hc
    rw [codeA_mono h _ _ _ _ hc]
    exact hh

theorem bodyRound_mono (h : OLe o o') {l : Nat} {b : ICode} {s : St} {r : Value × AHeap} (hh : bodyRound C o l b s = some r) : bodyRound C o' l b s = some r := by
  unfold bodyRound at hh ⊢
  split at hh
  · split at hh
    · rename_i hst
      rw [if_pos hst]
      split at hh
      · rename_i e s' hc
        rw [codeA_mono h _ _ _ _ hc]
        exact hh
      · cases hh
    · cases hh
  · cases hh

theorem callYield_mono (h : OLe o o') {l : Nat} {as : List Value} {H : AHeap} {r : Value × AHeap} (hh : callYield C o l as H = some r) : callYield C o' l as H = some r := by
  unfold callYield at hh ⊢
  split at hh
  · split at hh
    · rename_i hst
      rw [if_pos hst]
      split at hh
      · rename_i e s hc
        rw [codeA_mono h _ _ _ _ hc]
        dsimp only
        split at hh
        · rename_i he
          rw [if_pos he]
          exact bodyRound_mono h hh
        · cases hh
      · cases hh
    · cases hh
  · cases hh

theorem callA_mono (h : OLe o o') {f : Value} {as : List Value} {H : AHeap} {r : Value × AHeap} (hh : callA C o f as H = some r) : callA C o' f as H = some r := by
  unfold callA at hh ⊢
  split at hh
  · split at hh
    · split at hh
      · exact hh
      · split at hh
        · cases hh
        · exact callFn_mono h hh
    · split at hh
      · rename_i he
        rw [if_pos he]
        exact callYield_mono h hh
      · cases hh
    · cases hh
  · cases hh

theorem loopA_mono (h : OLe o o') {ro : Option Nat} {c : ICode} {s : St} {r : AExit × St} (hh : loopA C o ro c s = some r) : loopA C o' ro c s = some r := by
  unfold loopA at hh ⊢
  split at hh
  · rename_i s1 h1
    rw [codeA_mono h _ _ _ _ h1]
    exact h.loop _ _ _ _ hh
  · rename_i hne
    cases r with
    | mk e s' =>
      rw [codeA_mono h _ _ _ _ hh]
      cases e with
      | normal => exact absurd hh (hne _)
      | exit id => rfl
      | ret => rfl

theorem orc_succ (C : Ctx) : ∀ n, OLe (orc C n) (orc C (n + 1))
  | 0 => ⟨fun _ _ _ _ h => (by cases h), fun _ _ _ _ h => (by cases h)⟩
  | n + 1 => ⟨fun _ _ _ _ h => callA_mono (orc_succ C n) h, fun _ _ _ _ h => loopA_mono (orc_succ C n) h⟩

theorem orc_le (C : Ctx) {n m : Nat} (h : n ≤ m) : OLe (orc C n) (orc C m) := by
  induction h with
  | refl => exact .refl _
  | step _ ih => exact ih.trans (orc_succ C _)

end
end Go.Ai
