/-
  The evaluator without fuel: what some fuel answers. It is a fixed point, and sound.
-/
import Derived.Test.YtlikgpehalhgkaaAiMono
namespace Go.Ai
open Classical

section
variable (C : Ctx)

/-- All that some fuel answers. -/
noncomputable def fixO : Orc where
  call f as H := if h : ∃ r, ∃ n, (orc C n).call f as H = some r then some (Classical.choose h) else none
  loop ro c s := if h : ∃ r, ∃ n, (orc C n).loop ro c s = some r then some (Classical.choose h) else none

variable {C}

theorem fix_call {f : Value} {as : List Value} {H : AHeap} {r : Value × AHeap} : (fixO C).call f as H = some r ↔ ∃ n, (orc C n).call f as H = some r := by
  constructor
  · intro h
    simp only [fixO] at h
    split at h
    · rename_i hx
      cases h
      exact Classical.choose_spec hx
    · cases h
  · rintro ⟨n, hn⟩
    have hx : ∃ r, ∃ n, (orc C n).call f as H = some r := ⟨r, n, hn⟩
    simp only [fixO, dif_pos hx]
    obtain ⟨m, hm⟩ := Classical.choose_spec hx
    have h1 := (orc_le C (Nat.le_max_left n m)).call _ _ _ _ hn
    have h2 := (orc_le C (Nat.le_max_right n m)).call _ _ _ _ hm
    rw [h1] at h2
    exact h2.symm

theorem fix_loop {ro : Option Nat} {c : ICode} {s : St} {r : AExit × St} : (fixO C).loop ro c s = some r ↔ ∃ n, (orc C n).loop ro c s = some r := by
  constructor
  · intro h
    simp only [fixO] at h
    split at h
    · rename_i hx
      cases h
      exact Classical.choose_spec hx
    · cases h
  · rintro ⟨n, hn⟩
    have hx : ∃ r, ∃ n, (orc C n).loop ro c s = some r := ⟨r, n, hn⟩
    simp only [fixO, dif_pos hx]
    obtain ⟨m, hm⟩ := Classical.choose_spec hx
    have h1 := (orc_le C (Nat.le_max_left n m)).loop _ _ _ _ hn
    have h2 := (orc_le C (Nat.le_max_right n m)).loop _ _ _ _ hm
    rw [h1] at h2
    exact h2.symm

theorem orc_fix (n : Nat) : OLe (orc C n) (fixO C) := ⟨fun _ _ _ _ h => fix_call.2 ⟨n, h⟩, fun _ _ _ _ h => fix_loop.2 ⟨n, h⟩⟩

theorem step_fix {x : IOper} {T : Env} {H : AHeap} {r : Env × AHeap × Info} (h : stepA C (fixO C) x T H = some r) : ∃ n, stepA C (orc C n) x T H = some r := by
  unfold stepA at h
  split at h
  · cases h
  · rename_i hg; exact ⟨0, by unfold stepA; rw [hg]; exact h⟩
  · rename_i hg
    split at h
    · rename_i f as hop
      split at h
      · rename_i v H' hc
        obtain ⟨n, hn⟩ := fix_call.1 hc
        refine ⟨n, ?_⟩
        unfold stepA
        rw [hg, hop]
        dsimp only
        rw [hn]
        exact h
      · cases h
    · rename_i hop
      refine ⟨0, ?_⟩
      unfold stepA
      rw [hg]
      dsimp only
      split
      · rename_i f as hx; exact absurd hx (hop f as)
      · exact h

theorem ops_fix : ∀ (xs : List IOper) (T : Env) (H : AHeap) (r : Env × AHeap), opsA C (fixO C) xs T H = some r → ∃ n, opsA C (orc C n) xs T H = some r
  | [], _, _, _, h => ⟨0, h⟩
  | x :: xs, T, H, r, h => by
    simp only [opsA] at h
    split at h
    · rename_i T' H' i hs
      obtain ⟨n, hn⟩ := step_fix hs
      obtain ⟨m, hm⟩ := ops_fix xs _ _ _ h
      refine ⟨max n m, ?_⟩
      simp only [opsA]
      rw [stepA_mono (orc_le C (Nat.le_max_left n m)) hn]
      exact opsA_mono (orc_le C (Nat.le_max_right n m)) _ _ _ _ hm
    · cases h

theorem dops_fix : ∀ (es : List (Nat × IOper × List Nat)) (log : List Info) (T : Env) (H : AHeap) (r : Env × AHeap), dopsA C (fixO C) es log T H = some r → ∃ n, dopsA C (orc C n) es log T H = some r
  | [], _, _, _, _, h => ⟨0, h⟩
  | (_, x, un) :: es, log, T, H, r, h => by
    simp only [dopsA] at h
    split at h
    · rename_i T' H' i hs
      obtain ⟨n, hn⟩ := step_fix hs
      split at h
      · rename_i hf
        obtain ⟨m, hm⟩ := dops_fix es _ _ _ _ h
        refine ⟨max n m, ?_⟩
        simp only [dopsA]
        rw [stepA_mono (orc_le C (Nat.le_max_left n m)) hn]
        dsimp only
        rw [if_pos hf]
        exact dopsA_mono (orc_le C (Nat.le_max_right n m)) _ _ _ _ _ hm
      · cases h
    · cases h

theorem code_fix : ∀ (c : ICode) (ro : Option Nat) (s : St) (r : AExit × St), codeA C (fixO C) ro c s = some r → ∃ n, codeA C (orc C n) ro c s = some r := by
  intro c
  induction c with
  | skip | exit _ | ret | bad => intro ro s r h; exact ⟨0, h⟩
  | region ops =>
    intro ro s r h
    simp only [codeA] at h
    split at h
    · rename_i T H ho
      obtain ⟨n, hn⟩ := ops_fix _ _ _ _ ho
      exact ⟨n, by simp only [codeA]; rw [hn]; exact h⟩
    · cases h
  | dregion ops =>
    intro ro s r h
    simp only [codeA] at h
    split at h
    · rename_i T H ho
      obtain ⟨n, hn⟩ := dops_fix _ _ _ _ _ ho
      exact ⟨n, by simp only [codeA]; rw [hn]; exact h⟩
    · cases h
  | seq a b iha ihb =>
    intro ro s r h
    simp only [codeA] at h
    split at h
    · rename_i s1 h1
      obtain ⟨n, hn⟩ := iha _ _ _ h1
      obtain ⟨m, hm⟩ := ihb _ _ _ h
      refine ⟨max n m, ?_⟩
      simp only [codeA]
      rw [codeA_mono (orc_le C (Nat.le_max_left n m)) _ _ _ _ hn]
      exact codeA_mono (orc_le C (Nat.le_max_right n m)) _ _ _ _ hm
    · rename_i hne
      obtain ⟨n, hn⟩ := iha _ _ _ h
      refine ⟨n, ?_⟩
      simp only [codeA]
      rw [hn]
      obtain ⟨e, s'⟩ := r
      cases e with
      | normal => exact absurd h (hne _)
      | exit id => rfl
      | ret => rfl
  | cond x a b iha ihb =>
    intro ro s r h
    simp only [codeA] at h
    split at h
    · rename_i hv
      obtain ⟨n, hn⟩ := iha _ _ _ h
      exact ⟨n, by simp only [codeA]; rw [hv]; exact hn⟩
    · rename_i hv
      obtain ⟨n, hn⟩ := ihb _ _ _ h
      exact ⟨n, by simp only [codeA]; rw [hv]; exact hn⟩
    · cases h
  | block id c ih =>
    intro ro s r h
    simp only [codeA] at h
    split at h
    · rename_i i s1 h1
      obtain ⟨n, hn⟩ := ih _ _ _ h1
      exact ⟨n, by simp only [codeA]; rw [hn]; exact h⟩
    · rename_i hne
      obtain ⟨n, hn⟩ := ih _ _ _ h
      refine ⟨n, ?_⟩
      simp only [codeA]
      rw [hn]
      obtain ⟨e, s'⟩ := r
      cases e with
      | exit i => exact absurd h (hne _ _)
      | normal => rfl
      | ret => rfl
  | loop c ih =>
    intro ro s r h
    simp only [codeA] at h
    obtain ⟨n, hn⟩ := fix_loop.1 h
    exact ⟨n, by simp only [codeA]; exact hn⟩
  | rangeFunc f ps assign body _ _ =>
    intro ro s r h
    simp only [codeA] at h
    split at h
    · cases h
    · rename_i hin
      split at h
      · cases h
      · rename_i v H3 hc
        obtain ⟨n, hn⟩ := fix_call.1 hc
        refine ⟨n, ?_⟩
        simp only [codeA]
        rw [hin]
        dsimp only
        rw [hn]
        exact h

theorem callFn_fix {F : IFunc} {as : List Value} {H : AHeap} {r : Value × AHeap} (h : callFn C (fixO C) F as H = some r) : ∃ n, callFn C (orc C n) F as H = some r := by
  unfold callFn at h
  split at h
  · cases h
  · rename_i e s hc
    obtain ⟨n, hn⟩ := code_fix _ _ _ _ hc
    exact ⟨n, by unfold callFn; rw [hn]; exact h⟩

theorem bodyRound_fix {l : Nat} {b : ICode} {s : St} {r : Value × AHeap} (h : bodyRound C (fixO C) l b s = some r) : ∃ n, bodyRound C (orc C n) l b s = some r := by
  unfold bodyRound at h
  split at h
  · rename_i L hL
    split at h
    · rename_i hst
      split at h
      · rename_i e s' hc
        obtain ⟨n, hn⟩ := code_fix _ _ _ _ hc
        exact ⟨n, by unfold bodyRound; rw [hL]; dsimp only; rw [if_pos hst, hn]; exact h⟩
      · cases h
    · cases h
  · cases h

theorem callYield_fix {l : Nat} {as : List Value} {H : AHeap} {r : Value × AHeap} (h : callYield C (fixO C) l as H = some r) : ∃ n, callYield C (orc C n) l as H = some r := by
  unfold callYield at h
  split at h
  · rename_i L hL
    split at h
    · rename_i hst
      split at h
      · rename_i e s hc
        obtain ⟨n, hn⟩ := code_fix _ _ _ _ hc
        split at h
        · rename_i he
          obtain ⟨m, hm⟩ := bodyRound_fix h
          refine ⟨max n m, ?_⟩
          unfold callYield
          rw [hL]
          dsimp only
          rw [if_pos hst, codeA_mono (orc_le C (Nat.le_max_left n m)) _ _ _ _ hn]
          dsimp only
          rw [if_pos he]
          exact bodyRound_mono (orc_le C (Nat.le_max_right n m)) hm
        · cases h
      · cases h
    · cases h
  · cases h

/-- A call of the fixed point. -/
theorem fix_callA {f : Value} {as : List Value} {H : AHeap} {r : Value × AHeap} (h : callA C (fixO C) f as H = some r) : (fixO C).call f as H = some r := by
  have key : ∃ n, callA C (orc C n) f as H = some r := by
    unfold callA at h
    split at h
    · rename_i fn first captured
      split at h
      · rename_i k
        split at h
        · rename_i v hk
          exact ⟨0, by unfold callA; dsimp only; rw [hk]; exact h⟩
        · rename_i hk
          split at h
          · cases h
          · rename_i F hF
            obtain ⟨n, hn⟩ := callFn_fix h
            exact ⟨n, by unfold callA; dsimp only; rw [hk]; dsimp only; rw [hF]; exact hn⟩
      · rename_i l
        split at h
        · rename_i he
          obtain ⟨n, hn⟩ := callYield_fix h
          exact ⟨n, by unfold callA; dsimp only; rw [if_pos he]; exact hn⟩
        · cases h
      · cases h
    · cases h
  obtain ⟨n, hn⟩ := key
  exact fix_call.2 ⟨n + 1, hn⟩

/-- A loop of the fixed point. -/
theorem fix_loopA {ro : Option Nat} {c : ICode} {s : St} {r : AExit × St} (h : loopA C (fixO C) ro c s = some r) : (fixO C).loop ro c s = some r := by
  unfold loopA at h
  split at h
  · rename_i s1 h1
    obtain ⟨n, hn⟩ := code_fix _ _ _ _ h1
    obtain ⟨m, hm⟩ := fix_loop.1 h
    refine fix_loop.2 ⟨max n m + 1, ?_⟩
    show loopA C (orc C (max n m)) ro c s = some r
    unfold loopA
    rw [codeA_mono (orc_le C (Nat.le_max_left n m)) _ _ _ _ hn]
    exact (orc_le C (Nat.le_max_right n m)).loop _ _ _ _ hm
  · rename_i hne
    obtain ⟨n, hn⟩ := code_fix _ _ _ _ h
    refine fix_loop.2 ⟨n + 1, ?_⟩
    show loopA C (orc C n) ro c s = some r
    unfold loopA
    rw [hn]
    obtain ⟨e, s'⟩ := r
    cases e with
    | normal => exact absurd h (hne _)
    | exit id => rfl
    | ret => rfl

theorem fix_sound {P : Program} (hE : ∀ a b, C.eqb a b = true → a = b) (hmo : P.follows .mixedOrders = true) (hfuncs : FuncsOK P C) (hknown : KnownOK P C) : CallsOK P C (fixO C) := by
  intro f args H v H' h
  obtain ⟨n, hn⟩ := fix_call.1 h
  exact (all_sound hE hmo hfuncs hknown n).1 f args H v H' hn

end
end Go.Ai
