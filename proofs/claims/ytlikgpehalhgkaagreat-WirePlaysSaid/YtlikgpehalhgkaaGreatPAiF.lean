/-
  More fuel does not change an answer; what is answered, as relations.
  The evaluator without fuel: what some fuel answers. It is a fixed point, and sound.
  Weakest preconditions of the evaluator's fixed point: the rules for proofs about functions with parameters.
  The abstract memory in proofs: what stays, what is read, what 'append' does to a row that is at its own end.
  Rules for the operations that make or turn objects: the memory behind them is a new name, with what is known of it.
-/
import Derived.Test.YtlikgpehalhgkaaGreatPAiE
namespace Go.Ai

structure OLe (o o' : Orc) : Prop where
  call : ∀ f as H r, o.call f as H = some r → o'.call f as H = some r
  loop : ∀ ro c s r, o.loop ro c s = some r → o'.loop ro c s = some r

theorem OLe.refl (o : Orc) : OLe o o := ⟨fun _ _ _ _ h => h, fun _ _ _ _ h => h⟩
theorem OLe.trans {a b c : Orc} (h : OLe a b) (k : OLe b c) : OLe a c := ⟨fun f as H r x => k.call f as H r (h.call f as H r x), fun ro c s r x => k.loop ro c s r (h.loop ro c s r x)⟩

section
variable {C : Ctx} {o o' : Orc}

theorem stepA_mono (h : OLe o o') {x : IOper} {T : Env} {H : AHeap} {r : Env × AHeap × Info} (hh : stepA C o x T H = some r) : stepA C o' x T H = some r := by
  unfold stepA at hh ⊢
  split at hh
  · exact hh
  · exact hh
  · split at hh
    · rename_i f as hop
      split at hh
      · rename_i v H' hc
        rw [h.call _ _ _ _ hc]
        exact hh
      · cases hh
    · exact hh

theorem opsA_mono (h : OLe o o') : ∀ (xs : List IOper) (T : Env) (H : AHeap) (r : Env × AHeap), opsA C o xs T H = some r → opsA C o' xs T H = some r
  | [], _, _, _, hh => hh
  | x :: xs, T, H, r, hh => by
    simp only [opsA] at hh ⊢
    split at hh
    · rename_i T' H' i hs
      rw [stepA_mono h hs]
      exact opsA_mono h xs _ _ _ hh
    · cases hh

theorem dopsA_mono (h : OLe o o') : ∀ (es : List (Nat × IOper × List Nat)) (log : List Info) (T : Env) (H : AHeap) (r : Env × AHeap), dopsA C o es log T H = some r → dopsA C o' es log T H = some r
  | [], _, _, _, _, hh => hh
  | (_, x, un) :: es, log, T, H, r, hh => by
    simp only [dopsA] at hh ⊢
    split at hh
    · rename_i T' H' i hs
      rw [stepA_mono h hs]
      dsimp only
      split at hh
      · rename_i hf
        rw [if_pos hf]
        exact dopsA_mono h es _ _ _ _ hh
      · cases hh
    · cases hh

theorem codeA_mono (h : OLe o o') : ∀ (c : ICode) (ro : Option Nat) (s : St) (r : AExit × St), codeA C o ro c s = some r → codeA C o' ro c s = some r := by
  intro c
  induction c with
  | skip | exit _ | ret | bad => intro ro s r hh; exact hh
  | region ops =>
    intro ro s r hh
    simp only [codeA] at hh ⊢
    split at hh
    · rename_i T H ho; rw [opsA_mono h _ _ _ _ ho]; exact hh
    · cases hh
  | dregion ops =>
    intro ro s r hh
    simp only [codeA] at hh ⊢
    split at hh
    · rename_i T H ho; rw [dopsA_mono h _ _ _ _ _ ho]; exact hh
    · cases hh
  | seq a b iha ihb =>
    intro ro s r hh
    simp only [codeA] at hh ⊢
    split at hh
    · rename_i s1 h1
      rw [iha _ _ _ h1]
      exact ihb _ _ _ hh
    · rename_i hne
      cases r with
      | mk e s' =>
        rw [iha _ _ _ hh]
        cases e with
        | normal => exact absurd hh (hne _)
        | exit id => rfl
        | ret => rfl
  | cond x a b iha ihb =>
    intro ro s r hh
    simp only [codeA] at hh ⊢
    split at hh
    · exact iha _ _ _ hh
    · exact ihb _ _ _ hh
    · cases hh
  | block id c ih =>
    intro ro s r hh
    simp only [codeA] at hh ⊢
    split at hh
    · rename_i i s1 h1
      rw [ih _ _ _ h1]
      exact hh
    · rename_i hne
      cases r with
      | mk e s' =>
        rw [ih _ _ _ hh]
        cases e with
        | exit i => exact absurd hh (hne _ _)
        | normal => rfl
        | ret => rfl
  | loop c ih => intro ro s r hh; exact h.loop _ _ _ _ hh
  | rangeFunc f ps assign body _ _ =>
    intro ro s r hh
    simp only [codeA] at hh ⊢
    split at hh
    · cases hh
    · split at hh
      · cases hh
      · rename_i v H3 hc
        rw [h.call _ _ _ _ hc]
        exact hh

theorem callFn_mono (h : OLe o o') {F : IFunc} {as : List Value} {H : AHeap} {r : Value × AHeap} (hh : callFn C o F as H = some r) : callFn C o' F as H = some r := by
  unfold callFn at hh ⊢
  split at hh
  · cases hh
  · rename_i e s hc
    rw [codeA_mono h _ _ _ _ hc]
    exact hh

theorem bodyRound_mono (h : OLe o o') {l : Nat} {b : ICode} {s : St} {r : Value × AHeap} (hh : bodyRound C o l b s = some r) : bodyRound C o' l b s = some r := by
  unfold bodyRound at hh ⊢
  split at hh
  · split at hh
    · rename_i hst
      rw [if_pos hst]
      split at hh
      · rename_i e s' hc
        rw [codeA_mono h _ _ _ _ hc]
        exact hh
      · cases hh
    · cases hh
  · cases hh

theorem callYield_mono (h : OLe o o') {l : Nat} {as : List Value} {H : AHeap} {r : Value × AHeap} (hh : callYield C o l as H = some r) : callYield C o' l as H = some r := by
  unfold callYield at hh ⊢
  split at hh
  · split at hh
    · rename_i hst
      rw [if_pos hst]
      split at hh
      · rename_i e s hc
        rw [codeA_mono h _ _ _ _ hc]
        dsimp only
        split at hh
        · rename_i he
          rw [if_pos he]
          exact bodyRound_mono h hh
        · cases hh
      · cases hh
    · cases hh
  · cases hh

theorem callA_mono (h : OLe o o') {f : Value} {as : List Value} {H : AHeap} {r : Value × AHeap} (hh : callA C o f as H = some r) : callA C o' f as H = some r := by
  unfold callA at hh ⊢
  split at hh
  · split at hh
    · split at hh
      · exact hh
      · split at hh
        · cases hh
        · exact callFn_mono h hh
    · split at hh
      · rename_i he
        rw [if_pos he]
        exact callYield_mono h hh
      · cases hh
    · cases hh
  · cases hh

theorem loopA_mono (h : OLe o o') {ro : Option Nat} {c : ICode} {s : St} {r : AExit × St} (hh : loopA C o ro c s = some r) : loopA C o' ro c s = some r := by
  unfold loopA at hh ⊢
  split at hh
  · rename_i s1 h1
    rw [codeA_mono h _ _ _ _ h1]
    exact h.loop _ _ _ _ hh
  · rename_i hne
    cases r with
    | mk e s' =>
      rw [codeA_mono h _ _ _ _ hh]
      cases e with
      | normal => exact absurd hh (hne _)
      | exit id => rfl
      | ret => rfl

theorem orc_succ (C : Ctx) : ∀ n, OLe (orc C n) (orc C (n + 1))
  | 0 => ⟨fun _ _ _ _ h => (by cases h), fun _ _ _ _ h => (by cases h)⟩
  | n + 1 => ⟨fun _ _ _ _ h => callA_mono (orc_succ C n) h, fun _ _ _ _ h => loopA_mono (orc_succ C n) h⟩

theorem orc_le (C : Ctx) {n m : Nat} (h : n ≤ m) : OLe (orc C n) (orc C m) := by
  induction h with
  | refl => exact .refl _
  | step _ ih => exact ih.trans (orc_succ C _)

end
end Go.Ai

namespace Go.Ai
open Classical

section
variable (C : Ctx)

/-- All that some fuel answers. -/
noncomputable def fixO : Orc where
  call f as H := if h : ∃ r, ∃ n, (orc C n).call f as H = some r then some (Classical.choose h) else none
  loop ro c s := if h : ∃ r, ∃ n, (orc C n).loop ro c s = some r then some (Classical.choose h) else none

variable {C}

theorem fix_call {f : Value} {as : List Value} {H : AHeap} {r : Value × AHeap} : (fixO C).call f as H = some r ↔ ∃ n, (orc C n).call f as H = some r := by
  constructor
  · intro h
    simp only [fixO] at h
    split at h
    · rename_i hx
      cases h
      exact Classical.choose_spec hx
    · cases h
  · rintro ⟨n, hn⟩
    have hx : ∃ r, ∃ n, (orc C n).call f as H = some r := ⟨r, n, hn⟩
    simp only [fixO, dif_pos hx]
    obtain ⟨m, hm⟩ := Classical.choose_spec hx
    have h1 := (orc_le C (Nat.le_max_left n m)).call _ _ _ _ hn
    have h2 := (orc_le C (Nat.le_max_right n m)).call _ _ _ _ hm
    rw [h1] at h2
    exact h2.symm

theorem fix_loop {ro : Option Nat} {c : ICode} {s : St} {r : AExit × St} : (fixO C).loop ro c s = some r ↔ ∃ n, (orc C n).loop ro c s = some r := by
  constructor
  · intro h
    simp only [fixO] at h
    split at h
    · rename_i hx
      cases h
      exact Classical.choose_spec hx
    · cases h
  · rintro ⟨n, hn⟩
    have hx : ∃ r, ∃ n, (orc C n).loop ro c s = some r := ⟨r, n, hn⟩
    simp only [fixO, dif_pos hx]
    obtain ⟨m, hm⟩ := Classical.choose_spec hx
    have h1 := (orc_le C (Nat.le_max_left n m)).loop _ _ _ _ hn
    have h2 := (orc_le C (Nat.le_max_right n m)).loop _ _ _ _ hm
    rw [h1] at h2
    exact h2.symm

theorem step_fix {x : IOper} {T : Env} {H : AHeap} {r : Env × AHeap × Info} (h : stepA C (fixO C) x T H = some r) : ∃ n, stepA C (orc C n) x T H = some r := by
  unfold stepA at h
  split at h
  · cases h
  · rename_i hg; exact ⟨0, by unfold stepA; rw [hg]; exact h⟩
  · rename_i hg
    split at h
    · rename_i f as hop
      split at h
      · rename_i v H' hc
        obtain ⟨n, hn⟩ := fix_call.1 hc
        refine ⟨n, ?_⟩
        unfold stepA
        rw [hg, hop]
        dsimp only
        rw [hn]
        exact h
      · cases h
    · rename_i hop
      refine ⟨0, ?_⟩
      unfold stepA
      rw [hg]
      dsimp only
      split
      · rename_i f as hx; exact absurd hx (hop f as)
      · exact h

theorem ops_fix : ∀ (xs : List IOper) (T : Env) (H : AHeap) (r : Env × AHeap), opsA C (fixO C) xs T H = some r → ∃ n, opsA C (orc C n) xs T H = some r
  | [], _, _, _, h => ⟨0, h⟩
  | x :: xs, T, H, r, h => by
    simp only [opsA] at h
    split at h
    · rename_i T' H' i hs
      obtain ⟨n, hn⟩ := step_fix hs
      obtain ⟨m, hm⟩ := ops_fix xs _ _ _ h
      refine ⟨max n m, ?_⟩
      simp only [opsA]
      rw [stepA_mono (orc_le C (Nat.le_max_left n m)) hn]
      exact opsA_mono (orc_le C (Nat.le_max_right n m)) _ _ _ _ hm
    · cases h

theorem dops_fix : ∀ (es : List (Nat × IOper × List Nat)) (log : List Info) (T : Env) (H : AHeap) (r : Env × AHeap), dopsA C (fixO C) es log T H = some r → ∃ n, dopsA C (orc C n) es log T H = some r
  | [], _, _, _, _, h => ⟨0, h⟩
  | (_, x, un) :: es, log, T, H, r, h => by
    simp only [dopsA] at h
    split at h
    · rename_i T' H' i hs
      obtain ⟨n, hn⟩ := step_fix hs
      split at h
      · rename_i hf
        obtain ⟨m, hm⟩ := dops_fix es _ _ _ _ h
        refine ⟨max n m, ?_⟩
        simp only [dopsA]
        rw [stepA_mono (orc_le C (Nat.le_max_left n m)) hn]
        dsimp only
        rw [if_pos hf]
        exact dopsA_mono (orc_le C (Nat.le_max_right n m)) _ _ _ _ _ hm
      · cases h
    · cases h

theorem code_fix : ∀ (c : ICode) (ro : Option Nat) (s : St) (r : AExit × St), codeA C (fixO C) ro c s = some r → ∃ n, codeA C (orc C n) ro c s = some r := by
  intro c
  induction c with
  | skip | exit _ | ret | bad => intro ro s r h; exact ⟨0, h⟩
  | region ops =>
    intro ro s r h
    simp only [codeA] at h
    split at h
    · rename_i T H ho
      obtain ⟨n, hn⟩ := ops_fix _ _ _ _ ho
      exact ⟨n, by simp only [codeA]; rw [hn]; exact h⟩
    · cases h
  | dregion ops =>
    intro ro s r h
    simp only [codeA] at h
    split at h
    · rename_i T H ho
      obtain ⟨n, hn⟩ := dops_fix _ _ _ _ _ ho
      exact ⟨n, by simp only [codeA]; rw [hn]; exact h⟩
    · cases h
  | seq a b iha ihb =>
    intro ro s r h
    simp only [codeA] at h
    split at h
    · rename_i s1 h1
      obtain ⟨n, hn⟩ := iha _ _ _ h1
      obtain ⟨m, hm⟩ := ihb _ _ _ h
      refine ⟨max n m, ?_⟩
      simp only [codeA]
      rw [codeA_mono (orc_le C (Nat.le_max_left n m)) _ _ _ _ hn]
      exact codeA_mono (orc_le C (Nat.le_max_right n m)) _ _ _ _ hm
    · rename_i hne
      obtain ⟨n, hn⟩ := iha _ _ _ h
      refine ⟨n, ?_⟩
      simp only [codeA]
      rw [hn]
      obtain ⟨e, s'⟩ := r
      cases e with
      | normal => exact absurd h (hne _)
      | exit id => rfl
      | ret => rfl
  | cond x a b iha ihb =>
    intro ro s r h
    simp only [codeA] at h
    split at h
    · rename_i hv
      obtain ⟨n, hn⟩ := iha _ _ _ h
      exact ⟨n, by simp only [codeA]; rw [hv]; exact hn⟩
    · rename_i hv
      obtain ⟨n, hn⟩ := ihb _ _ _ h
      exact ⟨n, by simp only [codeA]; rw [hv]; exact hn⟩
    · cases h
  | block id c ih =>
    intro ro s r h
    simp only [codeA] at h
    split at h
    · rename_i i s1 h1
      obtain ⟨n, hn⟩ := ih _ _ _ h1
      exact ⟨n, by simp only [codeA]; rw [hn]; exact h⟩
    · rename_i hne
      obtain ⟨n, hn⟩ := ih _ _ _ h
      refine ⟨n, ?_⟩
      simp only [codeA]
      rw [hn]
      obtain ⟨e, s'⟩ := r
      cases e with
      | exit i => exact absurd h (hne _ _)
      | normal => rfl
      | ret => rfl
  | loop c ih =>
    intro ro s r h
    simp only [codeA] at h
    obtain ⟨n, hn⟩ := fix_loop.1 h
    exact ⟨n, by simp only [codeA]; exact hn⟩
  | rangeFunc f ps assign body _ _ =>
    intro ro s r h
    simp only [codeA] at h
    split at h
    · cases h
    · rename_i hin
      split at h
      · cases h
      · rename_i v H3 hc
        obtain ⟨n, hn⟩ := fix_call.1 hc
        refine ⟨n, ?_⟩
        simp only [codeA]
        rw [hin]
        dsimp only
        rw [hn]
        exact h

theorem callFn_fix {F : IFunc} {as : List Value} {H : AHeap} {r : Value × AHeap} (h : callFn C (fixO C) F as H = some r) : ∃ n, callFn C (orc C n) F as H = some r := by
  unfold callFn at h
  split at h
  · cases h
  · rename_i e s hc
    obtain ⟨n, hn⟩ := code_fix _ _ _ _ hc
    exact ⟨n, by unfold callFn; rw [hn]; exact h⟩

theorem bodyRound_fix {l : Nat} {b : ICode} {s : St} {r : Value × AHeap} (h : bodyRound C (fixO C) l b s = some r) : ∃ n, bodyRound C (orc C n) l b s = some r := by
  unfold bodyRound at h
  split at h
  · rename_i L hL
    split at h
    · rename_i hst
      split at h
      · rename_i e s' hc
        obtain ⟨n, hn⟩ := code_fix _ _ _ _ hc
        exact ⟨n, by unfold bodyRound; rw [hL]; dsimp only; rw [if_pos hst, hn]; exact h⟩
      · cases h
    · cases h
  · cases h

theorem callYield_fix {l : Nat} {as : List Value} {H : AHeap} {r : Value × AHeap} (h : callYield C (fixO C) l as H = some r) : ∃ n, callYield C (orc C n) l as H = some r := by
  unfold callYield at h
  split at h
  · rename_i L hL
    split at h
    · rename_i hst
      split at h
      · rename_i e s hc
        obtain ⟨n, hn⟩ := code_fix _ _ _ _ hc
        split at h
        · rename_i he
          obtain ⟨m, hm⟩ := bodyRound_fix h
          refine ⟨max n m, ?_⟩
          unfold callYield
          rw [hL]
          dsimp only
          rw [if_pos hst, codeA_mono (orc_le C (Nat.le_max_left n m)) _ _ _ _ hn]
          dsimp only
          rw [if_pos he]
          exact bodyRound_mono (orc_le C (Nat.le_max_right n m)) hm
        · cases h
      · cases h
    · cases h
  · cases h

/-- A call of the fixed point. -/
theorem fix_callA {f : Value} {as : List Value} {H : AHeap} {r : Value × AHeap} (h : callA C (fixO C) f as H = some r) : (fixO C).call f as H = some r := by
  have key : ∃ n, callA C (orc C n) f as H = some r := by
    unfold callA at h
    split at h
    · rename_i fn first captured
      split at h
      · rename_i k
        split at h
        · rename_i v hk
          exact ⟨0, by unfold callA; dsimp only; rw [hk]; exact h⟩
        · rename_i hk
          split at h
          · cases h
          · rename_i F hF
            obtain ⟨n, hn⟩ := callFn_fix h
            exact ⟨n, by unfold callA; dsimp only; rw [hk]; dsimp only; rw [hF]; exact hn⟩
      · rename_i l
        split at h
        · rename_i he
          obtain ⟨n, hn⟩ := callYield_fix h
          exact ⟨n, by unfold callA; dsimp only; rw [if_pos he]; exact hn⟩
        · cases h
      · cases h
    · cases h
  obtain ⟨n, hn⟩ := key
  exact fix_call.2 ⟨n + 1, hn⟩

/-- A loop of the fixed point. -/
theorem fix_loopA {ro : Option Nat} {c : ICode} {s : St} {r : AExit × St} (h : loopA C (fixO C) ro c s = some r) : (fixO C).loop ro c s = some r := by
  unfold loopA at h
  split at h
  · rename_i s1 h1
    obtain ⟨n, hn⟩ := code_fix _ _ _ _ h1
    obtain ⟨m, hm⟩ := fix_loop.1 h
    refine fix_loop.2 ⟨max n m + 1, ?_⟩
    show loopA C (orc C (max n m)) ro c s = some r
    unfold loopA
    rw [codeA_mono (orc_le C (Nat.le_max_left n m)) _ _ _ _ hn]
    exact (orc_le C (Nat.le_max_right n m)).loop _ _ _ _ hm
  · rename_i hne
    obtain ⟨n, hn⟩ := code_fix _ _ _ _ h
    refine fix_loop.2 ⟨n + 1, ?_⟩
    show loopA C (orc C n) ro c s = some r
    unfold loopA
    rw [hn]
    obtain ⟨e, s'⟩ := r
    cases e with
    | normal => exact absurd h (hne _)
    | exit id => rfl
    | ret => rfl

theorem fix_sound {P : Program} (hE : ∀ a b, C.eqb a b = true → a = b) (hmo : P.follows .mixedOrders = true) (hfuncs : FuncsOK P C) (hknown : KnownOK P C) : CallsOK P C (fixO C) := by
  intro f args H v H' h
  obtain ⟨n, hn⟩ := fix_call.1 h
  exact (all_sound hE hmo hfuncs hknown n).1 f args H v H' hn

end
end Go.Ai

namespace Go.Ai

def bindO {α : Type} (e : Option α) (k : α → Prop) : Prop := match e with
  | some a => k a
  | none => False

@[simp] theorem bindO_some {α : Type} (a : α) (k : α → Prop) : bindO (some a) k ↔ k a := Iff.rfl
@[simp] theorem bindO_none {α : Type} (k : α → Prop) : bindO none k ↔ False := Iff.rfl
@[simp] theorem bindO_map {α β : Type} (f : α → β) (e : Option α) (k : β → Prop) : bindO (e.map f) k ↔ bindO e fun a => k (f a) := by cases e <;> exact Iff.rfl
@[congr] theorem bindO_congr {α : Type} {e e' : Option α} {k : α → Prop} (h : e = e') : bindO e k = bindO e' k := by rw [h]
theorem bindO_mono {α : Type} {e : Option α} {k k' : α → Prop} (h : bindO e k) (hk : ∀ a, k a → k' a) : bindO e k' := by cases e <;> first | exact h.elim | exact hk _ h

/-- A choice whose branches are looked at only when it is known. -/
def condB (b : Bool) (x y : Prop) : Prop := match b with
  | true => x
  | false => y
@[simp] theorem condB_true (x y : Prop) : condB true x y ↔ x := Iff.rfl
@[simp] theorem condB_false (x y : Prop) : condB false x y ↔ y := Iff.rfl
@[congr] theorem condB_congr {b b' : Bool} {x y : Prop} (h : b = b') : condB b x y = condB b' x y := by rw [h]

def condV (v : Value) (x y : Prop) : Prop := match v with
  | .bool b => condB b x y
  | _ => False
@[simp] theorem condV_bool (b : Bool) (x y : Prop) : condV (.bool b) x y ↔ condB b x y := Iff.rfl
@[congr] theorem condV_congr {b b' : Value} {x y : Prop} (h : b = b') : condV b x y = condV b' x y := by rw [h]

/-! ### the environment, the memory -/
@[simp] theorem Env.val_put (T : Env) (d : Nat) (v : Value) (i : Nat) : Env.val (Trie.put T d v) i = if i = d then v else T.val i := by
  show ((Trie.put T d v).get i).getD undef = _
  rw [Trie.get_put]
  split <;> rfl
@[simp] theorem putDst_some (T : Env) (d : Nat) (v : Value) : putDst T (some d) v = T.put d v := rfl
@[simp] theorem putDst_none (T : Env) (v : Value) : putDst T none v = T := rfl
@[simp] theorem apply_dry (H : AHeap) (v : Value) (rd : List Nat) : H.apply ⟨v, none, none, rd⟩ = H := rfl
@[simp] theorem apply_put (H : AHeap) (v : Value) (rd : List Nat) (b : Nat) (x : AObj) : H.apply ⟨v, some (b, x), none, rd⟩ = H.put b x := rfl
@[simp] theorem apply_new (H : AHeap) (v : Value) (rd : List Nat) (x : AObj) : H.apply ⟨v, none, some x, rd⟩ = H.push x := rfl
@[simp] theorem IOpd.val_t (T : Nat → Value) (n : Nat) : IOpd.val T (.t n) = T n := rfl
@[simp] theorem IOpd.val_c (T : Nat → Value) (v : Value) : IOpd.val T (.c v) = v := rfl
@[simp] theorem asCell_ptr (a : Addr) : asCell (.pointer (some a)) = some a := rfl

section
variable (C : Ctx)

def wpC (ro : Option Nat) (c : ICode) (Q : AExit → St → Prop) (s : St) : Prop := bindO (codeA C (fixO C) ro c s) fun r => Q r.1 r.2
def wpO (xs : List IOper) (K : Env → AHeap → Prop) (T : Env) (H : AHeap) : Prop := bindO (opsA C (fixO C) xs T H) fun r => K r.1 r.2
def wpD (es : List (Nat × IOper × List Nat)) (log : List Info) (K : Env → AHeap → Prop) (T : Env) (H : AHeap) : Prop := bindO (dopsA C (fixO C) es log T H) fun r => K r.1 r.2
def wpCall (f : Value) (as : List Value) (H : AHeap) (K : Value → AHeap → Prop) : Prop := bindO ((fixO C).call f as H) fun r => K r.1 r.2

@[congr] theorem wpC_congr {ro : Option Nat} {c : ICode} {Q : AExit → St → Prop} {s s' : St} (h : s = s') : wpC C ro c Q s = wpC C ro c Q s' := by rw [h]
@[congr] theorem wpO_congr {xs : List IOper} {K : Env → AHeap → Prop} {T T' : Env} {H H' : AHeap} (h : T = T') (k : H = H') : wpO C xs K T H = wpO C xs K T' H' := by rw [h, k]
@[congr] theorem wpD_congr {es : List (Nat × IOper × List Nat)} {log log' : List Info} {K : Env → AHeap → Prop} {T T' : Env} {H H' : AHeap} (l : log = log') (h : T = T') (k : H = H') : wpD C es log K T H = wpD C es log' K T' H' := by rw [h, k, l]
@[congr] theorem wpCall_congr {f f' : Value} {as as' : List Value} {H H' : AHeap} {K : Value → AHeap → Prop} (h : f = f') (k : as = as') (l : H = H') : wpCall C f as H K = wpCall C f' as' H' K := by rw [h, k, l]

variable {C}

/-! ### continuations: looked into only when they are reached -/
def callK (C : Ctx) (r : List IOper) (K : Env → AHeap → Prop) (T : Env) (d : Option Nat) : Value → AHeap → Prop := fun v H' => wpO C r K (putDst T d v) H'
def opK (C : Ctx) (r : List IOper) (K : Env → AHeap → Prop) (T : Env) (d : Option Nat) (H : AHeap) : AOut → Prop := fun out => wpO C r K (putDst T d out.v) (H.apply out)
def guardK (C : Ctx) (w : Option Bool) (d : Option Nat) (op : IOp) (r : List IOper) (K : Env → AHeap → Prop) (T : Env) (H : AHeap) : Prop := match w with
  | some true => wpO C (⟨d, op, none⟩ :: r) K T H
  | some false => wpO C r K (putDst T d absent) H
  | none => False
def freeW (C : Ctx) (b : Bool) (r : List (Nat × IOper × List Nat)) (log : List Info) (K : Env → AHeap → Prop) (T : Env) (H : AHeap) : Prop := match b with
  | true => wpD C r log K T H
  | false => False
def callKD (C : Ctx) (un : List Nat) (r : List (Nat × IOper × List Nat)) (log : List Info) (K : Env → AHeap → Prop) (T : Env) (d : Option Nat) (H : AHeap) : Value → AHeap → Prop :=
  fun v H' => freeW C (freeAll C log (.call H H') un) r (.call H H' :: log) K (putDst T d v) H'
def opKD (C : Ctx) (un : List Nat) (r : List (Nat × IOper × List Nat)) (log : List Info) (K : Env → AHeap → Prop) (T : Env) (d : Option Nat) (H : AHeap) : AOut → Prop :=
  fun out => freeW C (freeAll C log (.exp out.rd (out.mods H.next)) un) r (.exp out.rd (out.mods H.next) :: log) K (putDst T d out.v) (H.apply out)
def guardKD (C : Ctx) (w : Option Bool) (i : Nat) (un : List Nat) (d : Option Nat) (op : IOp) (r : List (Nat × IOper × List Nat)) (log : List Info) (K : Env → AHeap → Prop) (T : Env) (H : AHeap) : Prop := match w with
  | some true => wpD C ((i, ⟨d, op, none⟩, un) :: r) log K T H
  | some false => freeW C (freeAll C log (.exp [] []) un) r (.exp [] [] :: log) K (putDst T d absent) H
  | none => False
def condW (C : Ctx) (ro : Option Nat) (v : Value) (a b : ICode) (Q : AExit → St → Prop) (s : St) : Prop := match v with
  | .bool true => wpC C ro a Q s
  | .bool false => wpC C ro b Q s
  | _ => False

@[simp] theorem callK_eq (r : List IOper) (K : Env → AHeap → Prop) (T : Env) (d : Option Nat) (v : Value) (H' : AHeap) : callK C r K T d v H' ↔ wpO C r K (putDst T d v) H' := Iff.rfl
@[simp] theorem opK_eq (r : List IOper) (K : Env → AHeap → Prop) (T : Env) (d : Option Nat) (H : AHeap) (out : AOut) : opK C r K T d H out ↔ wpO C r K (putDst T d out.v) (H.apply out) := Iff.rfl
@[simp] theorem guardK_true (d : Option Nat) (op : IOp) (r : List IOper) (K : Env → AHeap → Prop) (T : Env) (H : AHeap) : guardK C (some true) d op r K T H ↔ wpO C (⟨d, op, none⟩ :: r) K T H := Iff.rfl
@[simp] theorem guardK_false (d : Option Nat) (op : IOp) (r : List IOper) (K : Env → AHeap → Prop) (T : Env) (H : AHeap) : guardK C (some false) d op r K T H ↔ wpO C r K (putDst T d absent) H := Iff.rfl
@[simp] theorem freeW_true (r : List (Nat × IOper × List Nat)) (log : List Info) (K : Env → AHeap → Prop) (T : Env) (H : AHeap) : freeW C true r log K T H ↔ wpD C r log K T H := Iff.rfl
@[simp] theorem callKD_eq (un : List Nat) (r : List (Nat × IOper × List Nat)) (log : List Info) (K : Env → AHeap → Prop) (T : Env) (d : Option Nat) (H : AHeap) (v : Value) (H' : AHeap) :
    callKD C un r log K T d H v H' ↔ freeW C (freeAll C log (.call H H') un) r (.call H H' :: log) K (putDst T d v) H' := Iff.rfl
@[simp] theorem opKD_eq (un : List Nat) (r : List (Nat × IOper × List Nat)) (log : List Info) (K : Env → AHeap → Prop) (T : Env) (d : Option Nat) (H : AHeap) (out : AOut) :
    opKD C un r log K T d H out ↔ freeW C (freeAll C log (.exp out.rd (out.mods H.next)) un) r (.exp out.rd (out.mods H.next) :: log) K (putDst T d out.v) (H.apply out) := Iff.rfl
@[simp] theorem guardKD_true (i : Nat) (un : List Nat) (d : Option Nat) (op : IOp) (r : List (Nat × IOper × List Nat)) (log : List Info) (K : Env → AHeap → Prop) (T : Env) (H : AHeap) :
    guardKD C (some true) i un d op r log K T H ↔ wpD C ((i, ⟨d, op, none⟩, un) :: r) log K T H := Iff.rfl
@[simp] theorem guardKD_false (i : Nat) (un : List Nat) (d : Option Nat) (op : IOp) (r : List (Nat × IOper × List Nat)) (log : List Info) (K : Env → AHeap → Prop) (T : Env) (H : AHeap) :
    guardKD C (some false) i un d op r log K T H ↔ freeW C (freeAll C log (.exp [] []) un) r (.exp [] [] :: log) K (putDst T d absent) H := Iff.rfl
@[simp] theorem condW_true (ro : Option Nat) (a b : ICode) (Q : AExit → St → Prop) (s : St) : condW C ro (.bool true) a b Q s ↔ wpC C ro a Q s := Iff.rfl
@[simp] theorem condW_false (ro : Option Nat) (a b : ICode) (Q : AExit → St → Prop) (s : St) : condW C ro (.bool false) a b Q s ↔ wpC C ro b Q s := Iff.rfl

/-! ### code -/
def seqK (C : Ctx) (ro : Option Nat) (b : ICode) (Q : AExit → St → Prop) : AExit → St → Prop
  | .normal, s => wpC C ro b Q s
  | e, s => Q e s
def blockK (id : Nat) (Q : AExit → St → Prop) : AExit → St → Prop
  | .exit i, s => if i = id then Q .normal s else Q (.exit i) s
  | e, s => Q e s
def regK (Q : AExit → St → Prop) (ds : List Nat) (T : Env) (H : AHeap) : Prop := Q .normal ⟨T, H, ds⟩

@[simp] theorem seqK_normal (ro : Option Nat) (b : ICode) (Q : AExit → St → Prop) (s : St) : seqK C ro b Q .normal s ↔ wpC C ro b Q s := Iff.rfl
@[simp] theorem seqK_exit (ro : Option Nat) (b : ICode) (Q : AExit → St → Prop) (s : St) (i : Nat) : seqK C ro b Q (.exit i) s ↔ Q (.exit i) s := Iff.rfl
@[simp] theorem seqK_ret (ro : Option Nat) (b : ICode) (Q : AExit → St → Prop) (s : St) : seqK C ro b Q .ret s ↔ Q .ret s := Iff.rfl
@[simp] theorem blockK_normal (id : Nat) (Q : AExit → St → Prop) (s : St) : blockK id Q .normal s ↔ Q .normal s := Iff.rfl
@[simp] theorem blockK_ret (id : Nat) (Q : AExit → St → Prop) (s : St) : blockK id Q .ret s ↔ Q .ret s := Iff.rfl
@[simp] theorem blockK_exit (id : Nat) (Q : AExit → St → Prop) (s : St) : blockK id Q (.exit id) s ↔ Q .normal s := by simp [blockK]
@[simp] theorem regK_eq (Q : AExit → St → Prop) (ds : List Nat) (T : Env) (H : AHeap) : regK Q ds T H ↔ Q .normal ⟨T, H, ds⟩ := Iff.rfl

@[simp↓] theorem wpC_skip (ro : Option Nat) (Q : AExit → St → Prop) (s : St) : wpC C ro .skip Q s ↔ Q .normal s := Iff.rfl
@[simp↓] theorem wpC_exit (ro : Option Nat) (i : Nat) (Q : AExit → St → Prop) (s : St) : wpC C ro (.exit i) Q s ↔ Q (.exit i) s := Iff.rfl
@[simp↓] theorem wpC_ret (ro : Option Nat) (Q : AExit → St → Prop) (s : St) : wpC C ro .ret Q s ↔ Q .ret s := Iff.rfl
@[simp↓] theorem wpC_seq (ro : Option Nat) (a b : ICode) (Q : AExit → St → Prop) (s : St) : wpC C ro (.seq a b) Q s ↔ wpC C ro a (seqK C ro b Q) s := by
  unfold wpC
  simp only [codeA]
  cases h : codeA C (fixO C) ro a s with
  | none => exact Iff.rfl
  | some r =>
    obtain ⟨e, s1⟩ := r
    cases e <;> exact Iff.rfl
@[simp↓] theorem wpC_block (ro : Option Nat) (id : Nat) (c : ICode) (Q : AExit → St → Prop) (s : St) : wpC C ro (.block id c) Q s ↔ wpC C ro c (blockK id Q) s := by
  unfold wpC
  simp only [codeA]
  cases h : codeA C (fixO C) ro c s with
  | none => exact Iff.rfl
  | some r =>
    obtain ⟨e, s1⟩ := r
    cases e with
    | normal => exact Iff.rfl
    | ret => exact Iff.rfl
    | exit i =>
      show bindO (if i = id then some (AExit.normal, s1) else some (AExit.exit i, s1)) (fun r => Q r.1 r.2) ↔ (if i = id then Q .normal s1 else Q (.exit i) s1)
      split <;> exact Iff.rfl
@[simp↓] theorem wpC_cond (ro : Option Nat) (x : IOpd) (a b : ICode) (Q : AExit → St → Prop) (s : St) : wpC C ro (.cond x a b) Q s ↔ condW C ro (x.val s.T.val) a b Q s := by
  unfold condW wpC
  simp only [codeA]
  generalize x.val s.T.val = v
  cases v with
  | bool b => cases b <;> exact Iff.rfl
  | _ => exact Iff.rfl
@[simp↓] theorem wpC_region (ro : Option Nat) (xs : List IOper) (Q : AExit → St → Prop) (s : St) : wpC C ro (.region xs) Q s ↔ wpO C xs (regK Q s.ds) s.T s.H := by
  unfold wpC wpO
  simp only [codeA]
  cases h : opsA C (fixO C) xs s.T s.H with
  | none => exact Iff.rfl
  | some r => exact Iff.rfl
@[simp↓] theorem wpC_dregion (ro : Option Nat) (es : List (Nat × IOper × List Nat)) (Q : AExit → St → Prop) (s : St) : wpC C ro (.dregion es) Q s ↔ wpD C es [] (regK Q s.ds) s.T s.H := by
  unfold wpC wpD
  simp only [codeA]
  cases h : dopsA C (fixO C) es [] s.T s.H with
  | none => exact Iff.rfl
  | some r => exact Iff.rfl

/-! ### operations -/
@[simp↓] theorem wpO_nil (K : Env → AHeap → Prop) (T : Env) (H : AHeap) : wpO C [] K T H ↔ K T H := Iff.rfl
@[simp↓] theorem wpO_call (d : Option Nat) (f : IOpd) (as : List IOpd) (r : List IOper) (K : Env → AHeap → Prop) (T : Env) (H : AHeap) :
    wpO C (⟨d, .call f as, none⟩ :: r) K T H ↔ wpCall C (f.val T.val) (as.map (·.val T.val)) H (callK C r K T d) := by
  unfold wpCall callK wpO
  simp only [opsA, stepA, wantedA]
  cases h : (fixO C).call (f.val T.val) (as.map (·.val T.val)) H with
  | none => exact Iff.rfl
  | some p => exact Iff.rfl
theorem stepA_exp {op : IOp} (hc : isCall op = false) (d : Option Nat) (T : Env) (H : AHeap) :
    stepA C (fixO C) ⟨d, op, none⟩ T H = (evalOp C H.get T.val H.next op).map fun out => (putDst T d out.v, H.apply out, Info.exp out.rd (out.mods H.next)) := by
  cases op with
  | call f as => cases hc
  | _ =>
    dsimp only [stepA, wantedA]
    split
    · rename_i h; rw [h]; rfl
    · rename_i h; rw [h]; rfl
theorem wpO_op {op : IOp} (hc : isCall op = false) (d : Option Nat) (r : List IOper) (K : Env → AHeap → Prop) (T : Env) (H : AHeap) :
    wpO C (⟨d, op, none⟩ :: r) K T H ↔ bindO (evalOp C H.get T.val H.next op) (opK C r K T d H) := by
  unfold opK wpO
  simp only [opsA, stepA_exp hc]
  cases evalOp C H.get T.val H.next op <;> exact Iff.rfl
/-- With a guard. -/
@[simp↓] theorem wpO_guard (d : Option Nat) (op : IOp) (t : Nat) (b : Bool) (r : List IOper) (K : Env → AHeap → Prop) (T : Env) (H : AHeap) :
    wpO C (⟨d, op, some (t, b)⟩ :: r) K T H ↔ guardK C (wantedA T.val (some (t, b))) d op r K T H := by
  unfold guardK wpO
  simp only [opsA, stepA]
  cases h : wantedA T.val (some (t, b)) with
  | none => exact Iff.rfl
  | some w => cases w <;> exact Iff.rfl

/-! ### operations of a region whose order is open -/
@[simp↓] theorem wpD_nil (log : List Info) (K : Env → AHeap → Prop) (T : Env) (H : AHeap) : wpD C [] log K T H ↔ K T H := Iff.rfl
@[simp↓] theorem wpD_call (i : Nat) (un : List Nat) (d : Option Nat) (f : IOpd) (as : List IOpd) (r : List (Nat × IOper × List Nat)) (log : List Info) (K : Env → AHeap → Prop) (T : Env) (H : AHeap) :
    wpD C ((i, ⟨d, .call f as, none⟩, un) :: r) log K T H ↔ wpCall C (f.val T.val) (as.map (·.val T.val)) H (callKD C un r log K T d H) := by
  unfold wpCall callKD freeW wpD
  simp only [dopsA, stepA, wantedA]
  cases h : (fixO C).call (f.val T.val) (as.map (·.val T.val)) H with
  | none => exact Iff.rfl
  | some p =>
    simp only [bindO_some]
    cases h2 : freeAll C log (.call H p.2) un with
    | true => exact Iff.rfl
    | false => exact Iff.rfl
theorem wpD_op {op : IOp} (hc : isCall op = false) (i : Nat) (un : List Nat) (d : Option Nat) (r : List (Nat × IOper × List Nat)) (log : List Info) (K : Env → AHeap → Prop) (T : Env) (H : AHeap) :
    wpD C ((i, ⟨d, op, none⟩, un) :: r) log K T H ↔ bindO (evalOp C H.get T.val H.next op) (opKD C un r log K T d H) := by
  unfold opKD freeW wpD
  simp only [dopsA, stepA_exp hc]
  cases evalOp C H.get T.val H.next op with
  | none => exact Iff.rfl
  | some out =>
    simp only [Option.map_some, bindO_some]
    cases h2 : freeAll C log (.exp out.rd (out.mods H.next)) un with
    | true => exact Iff.rfl
    | false => exact Iff.rfl
@[simp↓] theorem wpD_guard (i : Nat) (un : List Nat) (d : Option Nat) (op : IOp) (t : Nat) (b : Bool) (r : List (Nat × IOper × List Nat)) (log : List Info) (K : Env → AHeap → Prop) (T : Env) (H : AHeap) :
    wpD C ((i, ⟨d, op, some (t, b)⟩, un) :: r) log K T H ↔ guardKD C (wantedA T.val (some (t, b))) i un d op r log K T H := by
  unfold guardKD freeW wpD
  simp only [dopsA, stepA]
  cases h : wantedA T.val (some (t, b)) with
  | none => exact Iff.rfl
  | some w =>
    cases w with
    | true => exact Iff.rfl
    | false =>
      dsimp only
      cases h2 : freeAll C log (.exp [] []) un with
      | true => exact Iff.rfl
      | false => exact Iff.rfl

/-! ### each operation (printed by program) -/
@[simp↓] theorem wpO_mv (x : IOpd) (d : Option Nat) (r : List IOper) (K : Env → AHeap → Prop) (T : Env) (H : AHeap) : wpO C (⟨d, .mv x, none⟩ :: r) K T H ↔ bindO (evalOp C H.get T.val H.next (.mv x)) (opK C r K T d H) := wpO_op rfl d r K T H
@[simp↓] theorem wpD_mv (x : IOpd) (ix : Nat) (un : List Nat) (d : Option Nat) (r : List (Nat × IOper × List Nat)) (log : List Info) (K : Env → AHeap → Prop) (T : Env) (H : AHeap) : wpD C ((ix, ⟨d, .mv x, none⟩, un) :: r) log K T H ↔ bindO (evalOp C H.get T.val H.next (.mv x)) (opKD C un r log K T d H) := wpD_op rfl ix un d r log K T H
@[simp↓] theorem wpO_pick (c a b : IOpd) (d : Option Nat) (r : List IOper) (K : Env → AHeap → Prop) (T : Env) (H : AHeap) : wpO C (⟨d, .pick c a b, none⟩ :: r) K T H ↔ bindO (evalOp C H.get T.val H.next (.pick c a b)) (opK C r K T d H) := wpO_op rfl d r K T H
@[simp↓] theorem wpD_pick (c a b : IOpd) (ix : Nat) (un : List Nat) (d : Option Nat) (r : List (Nat × IOper × List Nat)) (log : List Info) (K : Env → AHeap → Prop) (T : Env) (H : AHeap) : wpD C ((ix, ⟨d, .pick c a b, none⟩, un) :: r) log K T H ↔ bindO (evalOp C H.get T.val H.next (.pick c a b)) (opKD C un r log K T d H) := wpD_op rfl ix un d r log K T H
theorem wpO_mk (cells : List Value) (d : Option Nat) (r : List IOper) (K : Env → AHeap → Prop) (T : Env) (H : AHeap) : wpO C (⟨d, .mk cells, none⟩ :: r) K T H ↔ bindO (evalOp C H.get T.val H.next (.mk cells)) (opK C r K T d H) := wpO_op rfl d r K T H
theorem wpD_mk (cells : List Value) (ix : Nat) (un : List Nat) (d : Option Nat) (r : List (Nat × IOper × List Nat)) (log : List Info) (K : Env → AHeap → Prop) (T : Env) (H : AHeap) : wpD C ((ix, ⟨d, .mk cells, none⟩, un) :: r) log K T H ↔ bindO (evalOp C H.get T.val H.next (.mk cells)) (opKD C un r log K T d H) := wpD_op rfl ix un d r log K T H
theorem wpO_box (n : Nat) (x : IOpd) (d : Option Nat) (r : List IOper) (K : Env → AHeap → Prop) (T : Env) (H : AHeap) : wpO C (⟨d, .box n x, none⟩ :: r) K T H ↔ bindO (evalOp C H.get T.val H.next (.box n x)) (opK C r K T d H) := wpO_op rfl d r K T H
theorem wpD_box (n : Nat) (x : IOpd) (ix : Nat) (un : List Nat) (d : Option Nat) (r : List (Nat × IOper × List Nat)) (log : List Info) (K : Env → AHeap → Prop) (T : Env) (H : AHeap) : wpD C ((ix, ⟨d, .box n x, none⟩, un) :: r) log K T H ↔ bindO (evalOp C H.get T.val H.next (.box n x)) (opKD C un r log K T d H) := wpD_op rfl ix un d r log K T H
@[simp↓] theorem wpO_build (z : List Value) (ps : List (Nat × Nat × IOpd)) (d : Option Nat) (r : List IOper) (K : Env → AHeap → Prop) (T : Env) (H : AHeap) : wpO C (⟨d, .build z ps, none⟩ :: r) K T H ↔ bindO (evalOp C H.get T.val H.next (.build z ps)) (opK C r K T d H) := wpO_op rfl d r K T H
@[simp↓] theorem wpD_build (z : List Value) (ps : List (Nat × Nat × IOpd)) (ix : Nat) (un : List Nat) (d : Option Nat) (r : List (Nat × IOper × List Nat)) (log : List Info) (K : Env → AHeap → Prop) (T : Env) (H : AHeap) : wpD C ((ix, ⟨d, .build z ps, none⟩, un) :: r) log K T H ↔ bindO (evalOp C H.get T.val H.next (.build z ps)) (opKD C un r log K T d H) := wpD_op rfl ix un d r log K T H
theorem wpO_buildSlice (len : Nat) (z : List Value) (ps : List (Nat × Nat × IOpd)) (d : Option Nat) (r : List IOper) (K : Env → AHeap → Prop) (T : Env) (H : AHeap) : wpO C (⟨d, .buildSlice len z ps, none⟩ :: r) K T H ↔ bindO (evalOp C H.get T.val H.next (.buildSlice len z ps)) (opK C r K T d H) := wpO_op rfl d r K T H
theorem wpD_buildSlice (len : Nat) (z : List Value) (ps : List (Nat × Nat × IOpd)) (ix : Nat) (un : List Nat) (d : Option Nat) (r : List (Nat × IOper × List Nat)) (log : List Info) (K : Env → AHeap → Prop) (T : Env) (H : AHeap) : wpD C ((ix, ⟨d, .buildSlice len z ps, none⟩, un) :: r) log K T H ↔ bindO (evalOp C H.get T.val H.next (.buildSlice len z ps)) (opKD C un r log K T d H) := wpD_op rfl ix un d r log K T H
@[simp↓] theorem wpO_load1 (x : IOpd) (d : Option Nat) (r : List IOper) (K : Env → AHeap → Prop) (T : Env) (H : AHeap) : wpO C (⟨d, .load1 x, none⟩ :: r) K T H ↔ bindO (evalOp C H.get T.val H.next (.load1 x)) (opK C r K T d H) := wpO_op rfl d r K T H
@[simp↓] theorem wpD_load1 (x : IOpd) (ix : Nat) (un : List Nat) (d : Option Nat) (r : List (Nat × IOper × List Nat)) (log : List Info) (K : Env → AHeap → Prop) (T : Env) (H : AHeap) : wpD C ((ix, ⟨d, .load1 x, none⟩, un) :: r) log K T H ↔ bindO (evalOp C H.get T.val H.next (.load1 x)) (opKD C un r log K T d H) := wpD_op rfl ix un d r log K T H
@[simp↓] theorem wpO_loadN (n : Nat) (x : IOpd) (d : Option Nat) (r : List IOper) (K : Env → AHeap → Prop) (T : Env) (H : AHeap) : wpO C (⟨d, .loadN n x, none⟩ :: r) K T H ↔ bindO (evalOp C H.get T.val H.next (.loadN n x)) (opK C r K T d H) := wpO_op rfl d r K T H
@[simp↓] theorem wpD_loadN (n : Nat) (x : IOpd) (ix : Nat) (un : List Nat) (d : Option Nat) (r : List (Nat × IOper × List Nat)) (log : List Info) (K : Env → AHeap → Prop) (T : Env) (H : AHeap) : wpD C ((ix, ⟨d, .loadN n x, none⟩, un) :: r) log K T H ↔ bindO (evalOp C H.get T.val H.next (.loadN n x)) (opKD C un r log K T d H) := wpD_op rfl ix un d r log K T H
theorem wpO_store (n : Nat) (a x : IOpd) (d : Option Nat) (r : List IOper) (K : Env → AHeap → Prop) (T : Env) (H : AHeap) : wpO C (⟨d, .store n a x, none⟩ :: r) K T H ↔ bindO (evalOp C H.get T.val H.next (.store n a x)) (opK C r K T d H) := wpO_op rfl d r K T H
theorem wpD_store (n : Nat) (a x : IOpd) (ix : Nat) (un : List Nat) (d : Option Nat) (r : List (Nat × IOper × List Nat)) (log : List Info) (K : Env → AHeap → Prop) (T : Env) (H : AHeap) : wpD C ((ix, ⟨d, .store n a x, none⟩, un) :: r) log K T H ↔ bindO (evalOp C H.get T.val H.next (.store n a x)) (opKD C un r log K T d H) := wpD_op rfl ix un d r log K T H
@[simp↓] theorem wpO_nilCheck (x : IOpd) (d : Option Nat) (r : List IOper) (K : Env → AHeap → Prop) (T : Env) (H : AHeap) : wpO C (⟨d, .nilCheck x, none⟩ :: r) K T H ↔ bindO (evalOp C H.get T.val H.next (.nilCheck x)) (opK C r K T d H) := wpO_op rfl d r K T H
@[simp↓] theorem wpD_nilCheck (x : IOpd) (ix : Nat) (un : List Nat) (d : Option Nat) (r : List (Nat × IOper × List Nat)) (log : List Info) (K : Env → AHeap → Prop) (T : Env) (H : AHeap) : wpD C ((ix, ⟨d, .nilCheck x, none⟩, un) :: r) log K T H ↔ bindO (evalOp C H.get T.val H.next (.nilCheck x)) (opKD C un r log K T d H) := wpD_op rfl ix un d r log K T H
@[simp↓] theorem wpO_bin (k : BK) (op : BinOp) (x y : IOpd) (d : Option Nat) (r : List IOper) (K : Env → AHeap → Prop) (T : Env) (H : AHeap) : wpO C (⟨d, .bin k op x y, none⟩ :: r) K T H ↔ bindO (evalOp C H.get T.val H.next (.bin k op x y)) (opK C r K T d H) := wpO_op rfl d r K T H
@[simp↓] theorem wpD_bin (k : BK) (op : BinOp) (x y : IOpd) (ix : Nat) (un : List Nat) (d : Option Nat) (r : List (Nat × IOper × List Nat)) (log : List Info) (K : Env → AHeap → Prop) (T : Env) (H : AHeap) : wpD C ((ix, ⟨d, .bin k op x y, none⟩, un) :: r) log K T H ↔ bindO (evalOp C H.get T.val H.next (.bin k op x y)) (opKD C un r log K T d H) := wpD_op rfl ix un d r log K T H
@[simp↓] theorem wpO_not (x : IOpd) (d : Option Nat) (r : List IOper) (K : Env → AHeap → Prop) (T : Env) (H : AHeap) : wpO C (⟨d, .not x, none⟩ :: r) K T H ↔ bindO (evalOp C H.get T.val H.next (.not x)) (opK C r K T d H) := wpO_op rfl d r K T H
@[simp↓] theorem wpD_not (x : IOpd) (ix : Nat) (un : List Nat) (d : Option Nat) (r : List (Nat × IOper × List Nat)) (log : List Info) (K : Env → AHeap → Prop) (T : Env) (H : AHeap) : wpD C ((ix, ⟨d, .not x, none⟩, un) :: r) log K T H ↔ bindO (evalOp C H.get T.val H.next (.not x)) (opKD C un r log K T d H) := wpD_op rfl ix un d r log K T H
@[simp↓] theorem wpO_neg (x : IOpd) (d : Option Nat) (r : List IOper) (K : Env → AHeap → Prop) (T : Env) (H : AHeap) : wpO C (⟨d, .neg x, none⟩ :: r) K T H ↔ bindO (evalOp C H.get T.val H.next (.neg x)) (opK C r K T d H) := wpO_op rfl d r K T H
@[simp↓] theorem wpD_neg (x : IOpd) (ix : Nat) (un : List Nat) (d : Option Nat) (r : List (Nat × IOper × List Nat)) (log : List Info) (K : Env → AHeap → Prop) (T : Env) (H : AHeap) : wpD C ((ix, ⟨d, .neg x, none⟩, un) :: r) log K T H ↔ bindO (evalOp C H.get T.val H.next (.neg x)) (opKD C un r log K T d H) := wpD_op rfl ix un d r log K T H
@[simp↓] theorem wpO_conv (k : IntKind) (x : IOpd) (d : Option Nat) (r : List IOper) (K : Env → AHeap → Prop) (T : Env) (H : AHeap) : wpO C (⟨d, .conv k x, none⟩ :: r) K T H ↔ bindO (evalOp C H.get T.val H.next (.conv k x)) (opK C r K T d H) := wpO_op rfl d r K T H
@[simp↓] theorem wpD_conv (k : IntKind) (x : IOpd) (ix : Nat) (un : List Nat) (d : Option Nat) (r : List (Nat × IOper × List Nat)) (log : List Info) (K : Env → AHeap → Prop) (T : Env) (H : AHeap) : wpD C ((ix, ⟨d, .conv k x, none⟩, un) :: r) log K T H ↔ bindO (evalOp C H.get T.val H.next (.conv k x)) (opKD C un r log K T d H) := wpD_op rfl ix un d r log K T H
@[simp↓] theorem wpO_toStr (x : IOpd) (d : Option Nat) (r : List IOper) (K : Env → AHeap → Prop) (T : Env) (H : AHeap) : wpO C (⟨d, .toStr x, none⟩ :: r) K T H ↔ bindO (evalOp C H.get T.val H.next (.toStr x)) (opK C r K T d H) := wpO_op rfl d r K T H
@[simp↓] theorem wpD_toStr (x : IOpd) (ix : Nat) (un : List Nat) (d : Option Nat) (r : List (Nat × IOper × List Nat)) (log : List Info) (K : Env → AHeap → Prop) (T : Env) (H : AHeap) : wpD C ((ix, ⟨d, .toStr x, none⟩, un) :: r) log K T H ↔ bindO (evalOp C H.get T.val H.next (.toStr x)) (opKD C un r log K T d H) := wpD_op rfl ix un d r log K T H
@[simp↓] theorem wpO_faddr (off : Nat) (x : IOpd) (d : Option Nat) (r : List IOper) (K : Env → AHeap → Prop) (T : Env) (H : AHeap) : wpO C (⟨d, .faddr off x, none⟩ :: r) K T H ↔ bindO (evalOp C H.get T.val H.next (.faddr off x)) (opK C r K T d H) := wpO_op rfl d r K T H
@[simp↓] theorem wpD_faddr (off : Nat) (x : IOpd) (ix : Nat) (un : List Nat) (d : Option Nat) (r : List (Nat × IOper × List Nat)) (log : List Info) (K : Env → AHeap → Prop) (T : Env) (H : AHeap) : wpD C ((ix, ⟨d, .faddr off x, none⟩, un) :: r) log K T H ↔ bindO (evalOp C H.get T.val H.next (.faddr off x)) (opKD C un r log K T d H) := wpD_op rfl ix un d r log K T H
@[simp↓] theorem wpO_field (off n : Nat) (agg : Bool) (x : IOpd) (d : Option Nat) (r : List IOper) (K : Env → AHeap → Prop) (T : Env) (H : AHeap) : wpO C (⟨d, .field off n agg x, none⟩ :: r) K T H ↔ bindO (evalOp C H.get T.val H.next (.field off n agg x)) (opK C r K T d H) := wpO_op rfl d r K T H
@[simp↓] theorem wpD_field (off n : Nat) (agg : Bool) (x : IOpd) (ix : Nat) (un : List Nat) (d : Option Nat) (r : List (Nat × IOper × List Nat)) (log : List Info) (K : Env → AHeap → Prop) (T : Env) (H : AHeap) : wpD C ((ix, ⟨d, .field off n agg x, none⟩, un) :: r) log K T H ↔ bindO (evalOp C H.get T.val H.next (.field off n agg x)) (opKD C un r log K T d H) := wpD_op rfl ix un d r log K T H
@[simp↓] theorem wpO_idxS (esz : Nat) (x i : IOpd) (d : Option Nat) (r : List IOper) (K : Env → AHeap → Prop) (T : Env) (H : AHeap) : wpO C (⟨d, .idxS esz x i, none⟩ :: r) K T H ↔ bindO (evalOp C H.get T.val H.next (.idxS esz x i)) (opK C r K T d H) := wpO_op rfl d r K T H
@[simp↓] theorem wpD_idxS (esz : Nat) (x i : IOpd) (ix : Nat) (un : List Nat) (d : Option Nat) (r : List (Nat × IOper × List Nat)) (log : List Info) (K : Env → AHeap → Prop) (T : Env) (H : AHeap) : wpD C ((ix, ⟨d, .idxS esz x i, none⟩, un) :: r) log K T H ↔ bindO (evalOp C H.get T.val H.next (.idxS esz x i)) (opKD C un r log K T d H) := wpD_op rfl ix un d r log K T H
@[simp↓] theorem wpO_idxA (len esz : Nat) (x i : IOpd) (d : Option Nat) (r : List IOper) (K : Env → AHeap → Prop) (T : Env) (H : AHeap) : wpO C (⟨d, .idxA len esz x i, none⟩ :: r) K T H ↔ bindO (evalOp C H.get T.val H.next (.idxA len esz x i)) (opK C r K T d H) := wpO_op rfl d r K T H
@[simp↓] theorem wpD_idxA (len esz : Nat) (x i : IOpd) (ix : Nat) (un : List Nat) (d : Option Nat) (r : List (Nat × IOper × List Nat)) (log : List Info) (K : Env → AHeap → Prop) (T : Env) (H : AHeap) : wpD C ((ix, ⟨d, .idxA len esz x i, none⟩, un) :: r) log K T H ↔ bindO (evalOp C H.get T.val H.next (.idxA len esz x i)) (opKD C un r log K T d H) := wpD_op rfl ix un d r log K T H
@[simp↓] theorem wpO_idxV (len esz : Nat) (agg : Bool) (x i : IOpd) (d : Option Nat) (r : List IOper) (K : Env → AHeap → Prop) (T : Env) (H : AHeap) : wpO C (⟨d, .idxV len esz agg x i, none⟩ :: r) K T H ↔ bindO (evalOp C H.get T.val H.next (.idxV len esz agg x i)) (opK C r K T d H) := wpO_op rfl d r K T H
@[simp↓] theorem wpD_idxV (len esz : Nat) (agg : Bool) (x i : IOpd) (ix : Nat) (un : List Nat) (d : Option Nat) (r : List (Nat × IOper × List Nat)) (log : List Info) (K : Env → AHeap → Prop) (T : Env) (H : AHeap) : wpD C ((ix, ⟨d, .idxV len esz agg x i, none⟩, un) :: r) log K T H ↔ bindO (evalOp C H.get T.val H.next (.idxV len esz agg x i)) (opKD C un r log K T d H) := wpD_op rfl ix un d r log K T H
@[simp↓] theorem wpO_idxStr (x i : IOpd) (d : Option Nat) (r : List IOper) (K : Env → AHeap → Prop) (T : Env) (H : AHeap) : wpO C (⟨d, .idxStr x i, none⟩ :: r) K T H ↔ bindO (evalOp C H.get T.val H.next (.idxStr x i)) (opK C r K T d H) := wpO_op rfl d r K T H
@[simp↓] theorem wpD_idxStr (x i : IOpd) (ix : Nat) (un : List Nat) (d : Option Nat) (r : List (Nat × IOper × List Nat)) (log : List Info) (K : Env → AHeap → Prop) (T : Env) (H : AHeap) : wpD C ((ix, ⟨d, .idxStr x i, none⟩, un) :: r) log K T H ↔ bindO (evalOp C H.get T.val H.next (.idxStr x i)) (opKD C un r log K T d H) := wpD_op rfl ix un d r log K T H
theorem wpO_sliceS (esz : Nat) (x : IOpd) (lo hi mx : Option IOpd) (d : Option Nat) (r : List IOper) (K : Env → AHeap → Prop) (T : Env) (H : AHeap) : wpO C (⟨d, .sliceS esz x lo hi mx, none⟩ :: r) K T H ↔ bindO (evalOp C H.get T.val H.next (.sliceS esz x lo hi mx)) (opK C r K T d H) := wpO_op rfl d r K T H
theorem wpD_sliceS (esz : Nat) (x : IOpd) (lo hi mx : Option IOpd) (ix : Nat) (un : List Nat) (d : Option Nat) (r : List (Nat × IOper × List Nat)) (log : List Info) (K : Env → AHeap → Prop) (T : Env) (H : AHeap) : wpD C ((ix, ⟨d, .sliceS esz x lo hi mx, none⟩, un) :: r) log K T H ↔ bindO (evalOp C H.get T.val H.next (.sliceS esz x lo hi mx)) (opKD C un r log K T d H) := wpD_op rfl ix un d r log K T H
@[simp↓] theorem wpO_sliceA (n esz : Nat) (x : IOpd) (lo hi mx : Option IOpd) (d : Option Nat) (r : List IOper) (K : Env → AHeap → Prop) (T : Env) (H : AHeap) : wpO C (⟨d, .sliceA n esz x lo hi mx, none⟩ :: r) K T H ↔ bindO (evalOp C H.get T.val H.next (.sliceA n esz x lo hi mx)) (opK C r K T d H) := wpO_op rfl d r K T H
@[simp↓] theorem wpD_sliceA (n esz : Nat) (x : IOpd) (lo hi mx : Option IOpd) (ix : Nat) (un : List Nat) (d : Option Nat) (r : List (Nat × IOper × List Nat)) (log : List Info) (K : Env → AHeap → Prop) (T : Env) (H : AHeap) : wpD C ((ix, ⟨d, .sliceA n esz x lo hi mx, none⟩, un) :: r) log K T H ↔ bindO (evalOp C H.get T.val H.next (.sliceA n esz x lo hi mx)) (opKD C un r log K T d H) := wpD_op rfl ix un d r log K T H
@[simp↓] theorem wpO_sliceStr (x : IOpd) (lo hi : Option IOpd) (d : Option Nat) (r : List IOper) (K : Env → AHeap → Prop) (T : Env) (H : AHeap) : wpO C (⟨d, .sliceStr x lo hi, none⟩ :: r) K T H ↔ bindO (evalOp C H.get T.val H.next (.sliceStr x lo hi)) (opK C r K T d H) := wpO_op rfl d r K T H
@[simp↓] theorem wpD_sliceStr (x : IOpd) (lo hi : Option IOpd) (ix : Nat) (un : List Nat) (d : Option Nat) (r : List (Nat × IOper × List Nat)) (log : List Info) (K : Env → AHeap → Prop) (T : Env) (H : AHeap) : wpD C ((ix, ⟨d, .sliceStr x lo hi, none⟩, un) :: r) log K T H ↔ bindO (evalOp C H.get T.val H.next (.sliceStr x lo hi)) (opKD C un r log K T d H) := wpD_op rfl ix un d r log K T H
@[simp↓] theorem wpO_lenC (n : Nat) (d : Option Nat) (r : List IOper) (K : Env → AHeap → Prop) (T : Env) (H : AHeap) : wpO C (⟨d, .lenC n, none⟩ :: r) K T H ↔ bindO (evalOp C H.get T.val H.next (.lenC n)) (opK C r K T d H) := wpO_op rfl d r K T H
@[simp↓] theorem wpD_lenC (n : Nat) (ix : Nat) (un : List Nat) (d : Option Nat) (r : List (Nat × IOper × List Nat)) (log : List Info) (K : Env → AHeap → Prop) (T : Env) (H : AHeap) : wpD C ((ix, ⟨d, .lenC n, none⟩, un) :: r) log K T H ↔ bindO (evalOp C H.get T.val H.next (.lenC n)) (opKD C un r log K T d H) := wpD_op rfl ix un d r log K T H
@[simp↓] theorem wpO_len (x : IOpd) (d : Option Nat) (r : List IOper) (K : Env → AHeap → Prop) (T : Env) (H : AHeap) : wpO C (⟨d, .len x, none⟩ :: r) K T H ↔ bindO (evalOp C H.get T.val H.next (.len x)) (opK C r K T d H) := wpO_op rfl d r K T H
@[simp↓] theorem wpD_len (x : IOpd) (ix : Nat) (un : List Nat) (d : Option Nat) (r : List (Nat × IOper × List Nat)) (log : List Info) (K : Env → AHeap → Prop) (T : Env) (H : AHeap) : wpD C ((ix, ⟨d, .len x, none⟩, un) :: r) log K T H ↔ bindO (evalOp C H.get T.val H.next (.len x)) (opKD C un r log K T d H) := wpD_op rfl ix un d r log K T H
@[simp↓] theorem wpO_lenStr (x : IOpd) (d : Option Nat) (r : List IOper) (K : Env → AHeap → Prop) (T : Env) (H : AHeap) : wpO C (⟨d, .lenStr x, none⟩ :: r) K T H ↔ bindO (evalOp C H.get T.val H.next (.lenStr x)) (opK C r K T d H) := wpO_op rfl d r K T H
@[simp↓] theorem wpD_lenStr (x : IOpd) (ix : Nat) (un : List Nat) (d : Option Nat) (r : List (Nat × IOper × List Nat)) (log : List Info) (K : Env → AHeap → Prop) (T : Env) (H : AHeap) : wpD C ((ix, ⟨d, .lenStr x, none⟩, un) :: r) log K T H ↔ bindO (evalOp C H.get T.val H.next (.lenStr x)) (opKD C un r log K T d H) := wpD_op rfl ix un d r log K T H
@[simp↓] theorem wpO_lenM (x : IOpd) (d : Option Nat) (r : List IOper) (K : Env → AHeap → Prop) (T : Env) (H : AHeap) : wpO C (⟨d, .lenM x, none⟩ :: r) K T H ↔ bindO (evalOp C H.get T.val H.next (.lenM x)) (opK C r K T d H) := wpO_op rfl d r K T H
@[simp↓] theorem wpD_lenM (x : IOpd) (ix : Nat) (un : List Nat) (d : Option Nat) (r : List (Nat × IOper × List Nat)) (log : List Info) (K : Env → AHeap → Prop) (T : Env) (H : AHeap) : wpD C ((ix, ⟨d, .lenM x, none⟩, un) :: r) log K T H ↔ bindO (evalOp C H.get T.val H.next (.lenM x)) (opKD C un r log K T d H) := wpD_op rfl ix un d r log K T H
@[simp↓] theorem wpO_cap (x : IOpd) (d : Option Nat) (r : List IOper) (K : Env → AHeap → Prop) (T : Env) (H : AHeap) : wpO C (⟨d, .cap x, none⟩ :: r) K T H ↔ bindO (evalOp C H.get T.val H.next (.cap x)) (opK C r K T d H) := wpO_op rfl d r K T H
@[simp↓] theorem wpD_cap (x : IOpd) (ix : Nat) (un : List Nat) (d : Option Nat) (r : List (Nat × IOper × List Nat)) (log : List Info) (K : Env → AHeap → Prop) (T : Env) (H : AHeap) : wpD C ((ix, ⟨d, .cap x, none⟩, un) :: r) log K T H ↔ bindO (evalOp C H.get T.val H.next (.cap x)) (opKD C un r log K T d H) := wpD_op rfl ix un d r log K T H
theorem wpO_append (esz bytes : Nat) (s x : IOpd) (d : Option Nat) (r : List IOper) (K : Env → AHeap → Prop) (T : Env) (H : AHeap) : wpO C (⟨d, .append esz bytes s x, none⟩ :: r) K T H ↔ bindO (evalOp C H.get T.val H.next (.append esz bytes s x)) (opK C r K T d H) := wpO_op rfl d r K T H
theorem wpD_append (esz bytes : Nat) (s x : IOpd) (ix : Nat) (un : List Nat) (d : Option Nat) (r : List (Nat × IOper × List Nat)) (log : List Info) (K : Env → AHeap → Prop) (T : Env) (H : AHeap) : wpD C ((ix, ⟨d, .append esz bytes s x, none⟩, un) :: r) log K T H ↔ bindO (evalOp C H.get T.val H.next (.append esz bytes s x)) (opKD C un r log K T d H) := wpD_op rfl ix un d r log K T H
theorem wpO_clear (z : List Value) (x : IOpd) (d : Option Nat) (r : List IOper) (K : Env → AHeap → Prop) (T : Env) (H : AHeap) : wpO C (⟨d, .clear z x, none⟩ :: r) K T H ↔ bindO (evalOp C H.get T.val H.next (.clear z x)) (opK C r K T d H) := wpO_op rfl d r K T H
@[simp↓] theorem wpO_minI (x y : IOpd) (d : Option Nat) (r : List IOper) (K : Env → AHeap → Prop) (T : Env) (H : AHeap) : wpO C (⟨d, .minI x y, none⟩ :: r) K T H ↔ bindO (evalOp C H.get T.val H.next (.minI x y)) (opK C r K T d H) := wpO_op rfl d r K T H
@[simp↓] theorem wpD_minI (x y : IOpd) (ix : Nat) (un : List Nat) (d : Option Nat) (r : List (Nat × IOper × List Nat)) (log : List Info) (K : Env → AHeap → Prop) (T : Env) (H : AHeap) : wpD C ((ix, ⟨d, .minI x y, none⟩, un) :: r) log K T H ↔ bindO (evalOp C H.get T.val H.next (.minI x y)) (opKD C un r log K T d H) := wpD_op rfl ix un d r log K T H
@[simp↓] theorem wpO_maxI (x y : IOpd) (d : Option Nat) (r : List IOper) (K : Env → AHeap → Prop) (T : Env) (H : AHeap) : wpO C (⟨d, .maxI x y, none⟩ :: r) K T H ↔ bindO (evalOp C H.get T.val H.next (.maxI x y)) (opK C r K T d H) := wpO_op rfl d r K T H
@[simp↓] theorem wpD_maxI (x y : IOpd) (ix : Nat) (un : List Nat) (d : Option Nat) (r : List (Nat × IOper × List Nat)) (log : List Info) (K : Env → AHeap → Prop) (T : Env) (H : AHeap) : wpD C ((ix, ⟨d, .maxI x y, none⟩, un) :: r) log K T H ↔ bindO (evalOp C H.get T.val H.next (.maxI x y)) (opKD C un r log K T d H) := wpD_op rfl ix un d r log K T H
@[simp↓] theorem wpO_extract (k : Nat) (x : IOpd) (d : Option Nat) (r : List IOper) (K : Env → AHeap → Prop) (T : Env) (H : AHeap) : wpO C (⟨d, .extract k x, none⟩ :: r) K T H ↔ bindO (evalOp C H.get T.val H.next (.extract k x)) (opK C r K T d H) := wpO_op rfl d r K T H
@[simp↓] theorem wpD_extract (k : Nat) (x : IOpd) (ix : Nat) (un : List Nat) (d : Option Nat) (r : List (Nat × IOper × List Nat)) (log : List Info) (K : Env → AHeap → Prop) (T : Env) (H : AHeap) : wpD C ((ix, ⟨d, .extract k x, none⟩, un) :: r) log K T H ↔ bindO (evalOp C H.get T.val H.next (.extract k x)) (opKD C un r log K T d H) := wpD_op rfl ix un d r log K T H
@[simp↓] theorem wpO_mkfn (fn : Fn) (first captured : List IOpd) (d : Option Nat) (r : List IOper) (K : Env → AHeap → Prop) (T : Env) (H : AHeap) : wpO C (⟨d, .mkfn fn first captured, none⟩ :: r) K T H ↔ bindO (evalOp C H.get T.val H.next (.mkfn fn first captured)) (opK C r K T d H) := wpO_op rfl d r K T H
@[simp↓] theorem wpD_mkfn (fn : Fn) (first captured : List IOpd) (ix : Nat) (un : List Nat) (d : Option Nat) (r : List (Nat × IOper × List Nat)) (log : List Info) (K : Env → AHeap → Prop) (T : Env) (H : AHeap) : wpD C ((ix, ⟨d, .mkfn fn first captured, none⟩, un) :: r) log K T H ↔ bindO (evalOp C H.get T.val H.next (.mkfn fn first captured)) (opKD C un r log K T d H) := wpD_op rfl ix un d r log K T H
theorem wpO_mkmap  (d : Option Nat) (r : List IOper) (K : Env → AHeap → Prop) (T : Env) (H : AHeap) : wpO C (⟨d, .mkmap, none⟩ :: r) K T H ↔ bindO (evalOp C H.get T.val H.next (.mkmap)) (opK C r K T d H) := wpO_op rfl d r K T H
theorem wpO_insert (m k v : IOpd) (d : Option Nat) (r : List IOper) (K : Env → AHeap → Prop) (T : Env) (H : AHeap) : wpO C (⟨d, .insert m k v, none⟩ :: r) K T H ↔ bindO (evalOp C H.get T.val H.next (.insert m k v)) (opK C r K T d H) := wpO_op rfl d r K T H
theorem wpD_lookup (z : Value) (ok : Bool) (m k : IOpd) (ix : Nat) (un : List Nat) (d : Option Nat) (r : List (Nat × IOper × List Nat)) (log : List Info) (K : Env → AHeap → Prop) (T : Env) (H : AHeap) : wpD C ((ix, ⟨d, .lookup z ok m k, none⟩, un) :: r) log K T H ↔ bindO (evalOp C H.get T.val H.next (.lookup z ok m k)) (opKD C un r log K T d H) := wpD_op rfl ix un d r log K T H

/-! ### loops, functions -/
theorem wpC_mono {ro : Option Nat} {c : ICode} {Q Q' : AExit → St → Prop} {s : St} (h : wpC C ro c Q s) (hq : ∀ e s, Q e s → Q' e s) : wpC C ro c Q' s := bindO_mono h fun r hr => hq _ _ hr
theorem wpCall_mono {f : Value} {as : List Value} {H : AHeap} {K K' : Value → AHeap → Prop} (h : wpCall C f as H K) (hk : ∀ v H', K v H' → K' v H') : wpCall C f as H K' := bindO_mono h fun r hr => hk _ _ hr

/-- A loop, with a number that falls. -/
theorem wp_loop {ro : Option Nat} {c : ICode} {Q : AExit → St → Prop} (I : Nat → St → Prop) (h : ∀ n s, I n s → wpC C ro c (fun e s' => match e with | .normal => ∃ m, m < n ∧ I m s' | e => Q e s') s) :
    ∀ n s, I n s → wpC C ro (.loop c) Q s := by
  intro n
  induction n using Nat.strongRecOn with
  | _ n ih =>
    intro s hs
    have h1 := h n s hs
    unfold wpC at h1 ⊢
    cases hc : codeA C (fixO C) ro c s with
    | none => rw [hc] at h1; exact h1.elim
    | some r =>
      rw [hc] at h1
      obtain ⟨e, s1⟩ := r
      simp only [codeA]
      cases e with
      | normal =>
        obtain ⟨m, hm, hI⟩ := h1
        have h2 := ih m hm s1 hI
        unfold wpC at h2
        simp only [codeA] at h2
        cases hl : (fixO C).loop ro c s1 with
        | none => rw [hl] at h2; exact h2.elim
        | some r2 =>
          rw [hl] at h2
          have : (fixO C).loop ro c s = some r2 := fix_loopA (by unfold loopA; rw [hc]; exact hl)
          rw [this]
          exact h2
      | exit i =>
        have : (fixO C).loop ro c s = some (.exit i, s1) := fix_loopA (by unfold loopA; rw [hc])
        rw [this]
        exact h1
      | ret =>
        have : (fixO C).loop ro c s = some (.ret, s1) := fix_loopA (by unfold loopA; rw [hc])
        rw [this]
        exact h1

/-- The same, with a continuation that is not looked into. -/
theorem wp_loop' {ro : Option Nat} {c : ICode} {Q : AExit → St → Prop} (I : Nat → St → Prop) {n : Nat} {s : St} (h0 : I n s)
    (h : ∀ n s (K : AExit → St → Prop), I n s → (∀ m s', m < n → I m s' → K .normal s') → (∀ e s', e ≠ .normal → Q e s' → K e s') → wpC C ro c K s) : wpC C ro (.loop c) Q s := by
  refine wp_loop I (fun n s hI => h n s _ hI (fun m s' hm hI' => ⟨m, hm, hI'⟩) fun e s' hne hq => ?_) n s h0
  cases e with
  | normal => exact absurd rfl hne
  | exit i => exact hq
  | ret => exact hq

def finK (C : Ctx) (rs : List IRes) (K : Value → AHeap → Prop) : AExit → St → Prop
  | .exit _, _ => False
  | _, s => bindO (shut s.ds s.H) fun H' => bindO (resAll C s.T.val H'.get rs) fun vs => K (oneOrTuple vs) H'

@[simp] theorem finK_ret (rs : List IRes) (K : Value → AHeap → Prop) (T : Env) (H : AHeap) : finK C rs K .ret ⟨T, H, []⟩ ↔ bindO (resAll C T.val H.get rs) fun vs => K (oneOrTuple vs) H := Iff.rfl
@[simp] theorem finK_normal (rs : List IRes) (K : Value → AHeap → Prop) (T : Env) (H : AHeap) : finK C rs K .normal ⟨T, H, []⟩ ↔ bindO (resAll C T.val H.get rs) fun vs => K (oneOrTuple vs) H := Iff.rfl

theorem wpCall_fn {k : FuncId} {first cap : Array Value} {as : List Value} {H : AHeap} {F : IFunc} {K : Value → AHeap → Prop} (hk : C.known k (first.toList ++ (as ++ cap.toList)) H.get = none) (hF : C.funcs.get k = some F)
    (h : wpC C none F.body (finK C F.results K) ⟨ofArgs (first.toList ++ (as ++ cap.toList)) 0 .leaf, H, []⟩) : wpCall C (.func (.func k) first cap) as H K := by
  unfold wpC at h
  unfold wpCall
  cases hc : codeA C (fixO C) none F.body ⟨ofArgs (first.toList ++ (as ++ cap.toList)) 0 .leaf, H, []⟩ with
  | none => rw [hc] at h; exact h.elim
  | some r =>
    rw [hc] at h
    obtain ⟨e, s⟩ := r
    have key : ∃ r, callFn C (fixO C) F (first.toList ++ (as ++ cap.toList)) H = some r ∧ K r.1 r.2 := by
      unfold callFn
      rw [hc]
      have h' : e ≠ .exit 0 → True := fun _ => trivial
      cases e with
      | exit i => exact h.elim
      | normal =>
        have h : bindO (shut s.ds s.H) fun H' => bindO (resAll C s.T.val H'.get F.results) fun vs => K (oneOrTuple vs) H' := h
        dsimp only
        cases h1 : shut s.ds s.H with
        | none => rw [h1] at h; exact h.elim
        | some H1 =>
          rw [h1] at h
          simp only [bindO_some] at h
          dsimp only
          cases h2 : resAll C s.T.val H1.get F.results with
          | none => rw [h2] at h; exact h.elim
          | some vs => rw [h2] at h; exact ⟨_, rfl, h⟩
      | ret =>
        have h : bindO (shut s.ds s.H) fun H' => bindO (resAll C s.T.val H'.get F.results) fun vs => K (oneOrTuple vs) H' := h
        dsimp only
        cases h1 : shut s.ds s.H with
        | none => rw [h1] at h; exact h.elim
        | some H1 =>
          rw [h1] at h
          simp only [bindO_some] at h
          dsimp only
          cases h2 : resAll C s.T.val H1.get F.results with
          | none => rw [h2] at h; exact h.elim
          | some vs => rw [h2] at h; exact ⟨_, rfl, h⟩
    obtain ⟨r, h1, h2⟩ := key
    have : (fixO C).call (.func (.func k) first cap) as H = some r := fix_callA (by unfold callA; dsimp only; rw [hk]; dsimp only; rw [hF]; exact h1)
    rw [this]
    exact h2

end
end Go.Ai

namespace Go.Ai

theorem base_le_next (H : AHeap) : H.base ≤ H.next := by unfold AHeap.next; omega
@[simp] theorem next_push (H : AHeap) (o : AObj) : (H.push o).next = H.next + 1 := rfl
@[simp] theorem next_put (H : AHeap) (b : Nat) (o : AObj) : (H.put b o).next = H.next := rfl
@[simp] theorem base_push (H : AHeap) (o : AObj) : (H.push o).base = H.base := rfl
@[simp] theorem base_put (H : AHeap) (b : Nat) (o : AObj) : (H.put b o).base = H.base := rfl

@[simp] theorem get_push_same (H : AHeap) (o : AObj) : (H.push o).get H.next = some o := by
  unfold AHeap.get AHeap.push AHeap.next
  dsimp only
  rw [if_neg (by omega), Trie.get_put, if_pos (by omega)]
theorem get_push_other {H : AHeap} (o : AObj) {b : Nat} (h : b < H.next) : (H.push o).get b = H.get b := by
  unfold AHeap.next at h
  unfold AHeap.get AHeap.push
  dsimp only
  split
  · rfl
  · rw [Trie.get_put, if_neg (by omega)]
theorem get_put_same {H : AHeap} (o : AObj) {b : Nat} (h : H.base ≤ b) : (H.put b o).get b = some o := by
  unfold AHeap.get AHeap.put
  dsimp only
  rw [if_neg (by omega), Trie.get_put, if_pos rfl]
theorem get_put_other {H : AHeap} (o : AObj) {b c : Nat} (hc : H.base ≤ c) (h : b ≠ c) : (H.put c o).get b = H.get b := by
  unfold AHeap.get AHeap.put
  dsimp only
  split
  · rfl
  · rw [Trie.get_put, if_neg (by omega)]

theorem WF.push {H : AHeap} (h : WF H) (o : AObj) : WF (H.push o) := (push_spec H o h).1.wf h
theorem base_le_of {H : AHeap} {b : Nat} {x : AObj} (h : H.get b = some x) (hx : x ≠ .raw) : H.base ≤ b := by
  unfold AHeap.get at h
  split at h
  · cases h; exact absurd rfl hx
  · omega
theorem WF.put {H : AHeap} (h : WF H) {b : Nat} {vs : List AVer} (o : AObj) (hb : H.get b = some (.cells vs)) : WF (H.put b o) := (put_spec o h hb (by simp)).1.wf h

/-- All that was there is there. -/
structure Same (H H' : AHeap) : Prop where
  wf : WF H
  grow : Grow H H'
  same : ∀ b, b < H.next → H'.get b = H.get b

/-- All that was there is there, but for one object. -/
structure Mod (g : Nat) (H H' : AHeap) : Prop where
  wf : WF H
  grow : Grow H H'
  same : ∀ b, b < H.next → b ≠ g → H'.get b = H.get b

theorem Same.wf' {H H' : AHeap} (h : Same H H') : WF H' := h.grow.wf h.wf
theorem Mod.wf' {g : Nat} {H H' : AHeap} (h : Mod g H H') : WF H' := h.grow.wf h.wf
theorem Same.refl {H : AHeap} (h : WF H) : Same H H := ⟨h, .refl _, fun _ _ => rfl⟩
theorem Same.trans {a b c : AHeap} (h : Same a b) (k : Same b c) : Same a c := ⟨h.wf, h.grow.trans k.grow, fun i hi => (k.same i (Nat.lt_of_lt_of_le hi h.grow.next)).trans (h.same i hi)⟩
theorem Same.mod {g : Nat} {H H' : AHeap} (h : Same H H') : Mod g H H' := ⟨h.wf, h.grow, fun b hb _ => h.same b hb⟩
theorem Mod.trans {g : Nat} {a b c : AHeap} (h : Mod g a b) (k : Mod g b c) : Mod g a c := ⟨h.wf, h.grow.trans k.grow, fun i hi hg => (k.same i (Nat.lt_of_lt_of_le hi h.grow.next) hg).trans (h.same i hi hg)⟩
/-- What turned is new. -/
theorem Mod.same_of {g : Nat} {H H' : AHeap} (h : Mod g H H') (hg : H.next ≤ g) : Same H H' := ⟨h.wf, h.grow, fun b hb => h.same b hb (by omega)⟩
theorem Same.then_mod {g : Nat} {a b c : AHeap} (h : Same a b) (k : Mod g b c) (hg : a.next ≤ g) : Same a c :=
  ⟨h.wf, h.grow.trans k.grow, fun i hi => (k.same i (Nat.lt_of_lt_of_le hi h.grow.next) (by omega)).trans (h.same i hi)⟩
theorem Same.push {H : AHeap} (h : WF H) (o : AObj) : Same H (H.push o) := ⟨h, (push_spec H o h).1, fun b hb => get_push_other o hb⟩
theorem Mod.put {H : AHeap} (h : WF H) {b : Nat} {vs : List AVer} (o : AObj) (hb : H.get b = some (.cells vs)) : Mod b H (H.put b o) :=
  ⟨h, (put_spec o h hb (by simp)).1, fun c _ hc => get_put_other o (base_le_of hb (by simp)) hc⟩

section
variable {C : Ctx} {H H' : AHeap}

theorem load_lt (h : WF H) {a : Addr} {n : Nat} {l : List Value} (hl : loadN C H.get a n = some l) : a.block < H.next := get_lt h (loadN_there hl)
theorem Same.load (h : Same H H') {a : Addr} {n : Nat} {l : List Value} (hl : loadN C H.get a n = some l) : loadN C H'.get a n = some l := by
  rw [loadN_congr (M := H.get) (h.same _ (load_lt h.wf hl))]
  exact hl
theorem Mod.load {g : Nat} (h : Mod g H H') {a : Addr} {n : Nat} {l : List Value} (hl : loadN C H.get a n = some l) (hg : a.block ≠ g) : loadN C H'.get a n = some l := by
  rw [loadN_congr (M := H.get) (h.same _ (load_lt h.wf hl) hg)]
  exact hl

/-- A row that is at its own end: what is appended goes behind. -/
def Buf (H : AHeap) (v : Value) (g esz n : Nat) (cs : List Value) : Prop :=
  ∃ k vs e, v = .slice (some (mkAddr g k 0)) n n ∧ H.get g = some (.cells vs) ∧ vs.length = k + 1 ∧ vs[k]? = some ⟨e, cs⟩ ∧ ((e = 0 ∧ k = 0) ∨ (e = esz ∧ e ≠ 0)) ∧ cs.length = n * esz ∧ cs.all scalar = true

theorem ver_mkAddr (g k off : Nat) : ver (mkAddr g k off) = k := by cases k <;> rfl
theorem block_mkAddr (g k off : Nat) : (mkAddr g k off).block = g := rfl
theorem off_mkAddr (g k off : Nat) : (mkAddr g k off).off = off := rfl

theorem Buf.load {v : Value} {g esz n : Nat} {cs : List Value} (h : Buf H v g esz n cs) : ∃ a, v = .slice (some a) n n ∧ a.block = g ∧ loadN C H.get a (n * esz) = some cs := by
  obtain ⟨k, vs, e, rfl, hg, hl, hk, he, hlen, hs⟩ := h
  refine ⟨_, rfl, rfl, ?_⟩
  unfold loadN cellsAt
  rw [block_mkAddr, hg, ver_mkAddr]
  dsimp only
  rw [hk]
  dsimp only
  rw [off_mkAddr, List.drop_zero, if_pos (by omega), List.take_of_length_le (by omega)]

theorem Buf.lt (hw : WF H) {v : Value} {g esz n : Nat} {cs : List Value} (h : Buf H v g esz n cs) : g < H.next := by
  obtain ⟨k, vs, e, rfl, hg, _⟩ := h
  exact get_lt hw (by rw [hg]; simp)

theorem Buf.same (h : Same H H') {v : Value} {g esz n : Nat} {cs : List Value} (hb : Buf H v g esz n cs) : Buf H' v g esz n cs := by
  obtain ⟨k, vs, e, h1, hg, h2⟩ := hb
  exact ⟨k, vs, e, h1, by rw [h.same g (get_lt h.wf (by rw [hg]; simp))]; exact hg, h2⟩
theorem Buf.mod {g' : Nat} (h : Mod g' H H') {v : Value} {g esz n : Nat} {cs : List Value} (hb : Buf H v g esz n cs) (hne : g ≠ g') : Buf H' v g esz n cs := by
  obtain ⟨k, vs, e, h1, hg, h2⟩ := hb
  exact ⟨k, vs, e, h1, by rw [h.same g (get_lt h.wf (by rw [hg]; simp)) hne]; exact hg, h2⟩

/-- A new row. -/
theorem Buf.push (H : AHeap) {esz n e : Nat} {cs : List Value} (he : e = 0 ∨ e = esz) (hl : cs.length = n * esz) (hs : cs.all scalar = true) :
    Buf (H.push (.cells [⟨e, cs⟩])) (.slice (some ⟨H.next, 0, none⟩) n n) H.next esz n cs := ⟨0, _, e, rfl, get_push_same H _, rfl, rfl, by by_cases h : e = 0 <;> simp_all, hl, hs⟩

/-- Rows that are no exact later versions. -/
theorem not_exact {g k off e esz : Nat} (h : (e = 0 ∧ k = 0) ∨ (e = esz ∧ e ≠ 0)) : ¬ (e = 0 ∧ (mkAddr g k off).spot.isSome = true) := by
  rintro ⟨h1, h2⟩
  rcases h with ⟨_, rfl⟩ | ⟨_, h3⟩
  · simp [mkAddr] at h2
  · exact h3 h1
theorem either_esz {k e esz : Nat} (h : (e = 0 ∧ k = 0) ∨ (e = esz ∧ e ≠ 0)) : e = 0 ∨ e = esz := by omega

/-- What 'append' does to a row at its end. -/
theorem appendA_buf {s : Value} {g esz n m bytes : Nat} {cs xs : List Value} {rd : List Nat} {nid : Nat} (hw : WF H) (hb : Buf H s g esz n cs) (h1 : 1 ≤ esz) (hx : xs.length = m * esz) (hs : xs.all scalar = true) (hr : roomy (n + m) bytes = true) :
    ∃ v put rd', appendA C H.get esz bytes s m xs rd nid = some ⟨v, put, none, rd'⟩ ∧ Buf (H.apply ⟨v, put, none, rd'⟩) v g esz (n + m) (cs ++ xs) ∧ Mod g H (H.apply ⟨v, put, none, rd'⟩) ∧ (∀ x ∈ rd', x = g ∨ x ∈ rd) ∧
      (∀ b x, put = some (b, x) → b = g) := by
  obtain ⟨k, vs, e, rfl, hg, hl, hk, he, hlen, hsc⟩ := hb
  by_cases hm : m = 0
  · subst hm
    have hxs : xs = [] := by simpa using hx
    subst hxs
    refine ⟨_, none, rd, ?_, ⟨k, vs, e, rfl, hg, hl, by simpa using hk, he, by simpa using hlen, by simpa using hsc⟩, (Same.refl hw).mod, fun x hx => .inr hx, by simp⟩
    unfold appendA
    rw [if_pos ⟨hx, hs⟩]
    simp
  · have hE : (mkAddr g k 0).off + n * esz = cs.length := by rw [off_mkAddr, hlen]; omega
    refine ⟨.slice (some (mkAddr g vs.length 0)) (n + m) (n + m), some (g, .cells ((if cs.length = cs.length ∧ cs ≠ [] then killAfter vs k else setVer vs k (cs.take cs.length)) ++ [⟨esz, cs ++ xs⟩])), g :: rd, ?_, ?_, ?_, ?_, ?_⟩
    · unfold appendA
      rw [if_pos ⟨hx, hs⟩]
      dsimp only
      rw [if_neg (by omega), if_pos hr, block_mkAddr, hg]
      dsimp only
      rw [ver_mkAddr, hk]
      dsimp only
      rw [if_neg (not_exact he), hE, if_pos ⟨either_esz he, Nat.le_refl _, by rw [off_mkAddr, List.drop_zero, ← hlen, List.take_length]; exact hsc⟩, off_mkAddr, List.drop_zero, ← hlen, List.take_length]
    · refine ⟨vs.length, _, esz, rfl, get_put_same _ (base_le_of hg (by simp)), ?_, ?_, .inr ⟨rfl, by omega⟩, ?_, ?_⟩
      · split <;> simp [length_killAfter, length_setVer]
      · split
        · rw [List.getElem?_append_right (by simp [length_killAfter])]; simp [length_killAfter]
        · rw [List.getElem?_append_right (by simp [length_setVer])]; simp [length_setVer]
      · rw [List.length_append, hlen, hx, Nat.add_mul]
      · rw [List.all_append, hsc, hs]; rfl
    · exact Mod.put hw _ hg
    · intro x hx; simpa using hx
    · rintro b x h; cases h; rfl

end
end Go.Ai

namespace Go.Ai

section
variable {C : Ctx} {H : AHeap} {T : Env} {d : Option Nat} {r : List IOper} {K : Env → AHeap → Prop}

/-! ### loads of an object of one version -/
def objLoad : Option AObj → Nat → Nat → Option (List Value)
  | some (.cells (v :: _)), off, n => if n ≤ (v.cells.drop off).length then some ((v.cells.drop off).take n) else none
  | _, _, _ => none

@[simp] theorem objLoad_cells (e : Nat) (cs : List Value) (vs : List AVer) (off n : Nat) : objLoad (some (.cells (⟨e, cs⟩ :: vs))) off n = if n ≤ (cs.drop off).length then some ((cs.drop off).take n) else none := rfl

theorem loadN_obj {M : Nat → Option AObj} {p off n : Nat} {v : AVer} {vs : List AVer} (h : M p = some (.cells (v :: vs))) : loadN C M ⟨p, off, none⟩ n = objLoad (M p) off n := by
  unfold loadN cellsAt
  simp only [h, ver]
  rfl

@[simp] theorem aadd_mk (p off n : Nat) (sp : Option Nat) : aadd ⟨p, off, sp⟩ n = ⟨p, off + n, sp⟩ := rfl
@[simp] theorem aadd_aadd (a : Addr) (m n : Nat) : aadd (aadd a m) n = aadd a (m + n) := by simp [aadd, Nat.add_assoc]
@[simp] theorem aadd_zero (a : Addr) : aadd a 0 = a := rfl

/-- A one-version object. -/
def Obj1 (H : AHeap) (p : Nat) (cs : List Value) : Prop := ∃ e, H.get p = some (.cells [⟨e, cs⟩])

theorem Obj1.lt (hw : WF H) {p : Nat} {cs : List Value} (h : Obj1 H p cs) : p < H.next := by obtain ⟨e, h⟩ := h; exact get_lt hw (by rw [h]; simp)
theorem Obj1.same {H' : AHeap} (hs : Same H H') {p : Nat} {cs : List Value} (h : Obj1 H p cs) : Obj1 H' p cs := by
  obtain ⟨e, h⟩ := h
  exact ⟨e, by rw [hs.same p (get_lt hs.wf (by rw [h]; simp))]; exact h⟩
theorem Obj1.mod {g : Nat} {H' : AHeap} (hs : Mod g H H') {p : Nat} {cs : List Value} (h : Obj1 H p cs) (hne : p ≠ g) : Obj1 H' p cs := by
  obtain ⟨e, h⟩ := h
  exact ⟨e, by rw [hs.same p (get_lt hs.wf (by rw [h]; simp)) hne]; exact h⟩
theorem Obj1.load {p off n : Nat} {cs : List Value} (h : Obj1 H p cs) : loadN C H.get ⟨p, off, none⟩ n = if n ≤ (cs.drop off).length then some ((cs.drop off).take n) else none := by
  obtain ⟨e, h⟩ := h
  rw [loadN_obj h, h]
  rfl

/-- What a rule for a new object tells. -/
structure Made (H H' : AHeap) (p : Nat) (cs : List Value) : Prop where
  same : Same H H'
  new : p = H.next
  next : H'.next = p + 1
  obj : Obj1 H' p cs

theorem Made.push (hw : WF H) (e : Nat) (cs : List Value) : Made H (H.push (.cells [⟨e, cs⟩])) H.next cs := ⟨.push hw _, rfl, rfl, e, get_push_same H _⟩

theorem w_box {n : Nat} {x : IOpd} {cs : List Value} (hw : WF H) (hx : vcells (x.val T.val) = some cs) (hn : cs.length = n) (hs : cs.all scalar = true)
    (hk : ∀ p H', Made H H' p cs → wpO C r K (putDst T d (.pointer (some ⟨p, 0, none⟩))) H') : wpO C (⟨d, .box n x, none⟩ :: r) K T H := by
  rw [wpO_box]
  have : evalOp C H.get T.val H.next (.box n x) = some { v := .pointer (some ⟨H.next, 0, none⟩), new := some (.cells [⟨0, cs⟩]) } := by
    simp only [evalOp, hx]
    rw [if_pos ⟨hn, hs⟩]
  rw [this]
  exact hk _ _ (Made.push hw 0 cs)

theorem w_mk {cs : List Value} (hw : WF H) (hk : ∀ p H', Made H H' p cs → wpO C r K (putDst T d (.pointer (some ⟨p, 0, none⟩))) H') : wpO C (⟨d, .mk cs, none⟩ :: r) K T H := by
  rw [wpO_mk]
  exact hk _ _ (Made.push hw 0 cs)

theorem w_bs {len esz : Nat} {z cs : List Value} {ps : List (Nat × Nat × IOpd)} (hw : WF H) (hx : fillA T.val z ps = some cs) (hl : cs.length = len * esz) (hs : cs.all scalar = true)
    (hk : ∀ p H', Made H H' p cs → Buf H' (.slice (some ⟨p, 0, none⟩) len len) p esz len cs → wpO C r K (putDst T d (.slice (some ⟨p, 0, none⟩) len len)) H') : wpO C (⟨d, .buildSlice len z ps, none⟩ :: r) K T H := by
  rw [wpO_buildSlice]
  have : evalOp C H.get T.val H.next (.buildSlice len z ps) = some { v := .slice (some ⟨H.next, 0, none⟩) len len, new := some (.cells [⟨0, cs⟩]) } := by
    simp only [evalOp, hx]
    rw [if_pos hs]
  rw [this]
  exact hk _ _ (Made.push hw 0 cs) (Buf.push H (.inl rfl) hl hs)

/-- A store into an object of one version. -/
theorem storeN_obj {p off e : Nat} {cs xs : List Value} (h : H.get p = some (.cells [⟨e, cs⟩])) (hx : xs.length ≠ 0) (hl : off + xs.length ≤ cs.length) (hs : xs.all scalar = true) :
    storeN H.get ⟨p, off, none⟩ xs = some (.cells [⟨e, cs.take off ++ (xs ++ cs.drop (off + xs.length))⟩]) := by
  unfold storeN
  simp only [h, ver]
  simp only [List.getElem?_cons_zero]
  rw [if_pos ⟨hx, hl, hs⟩]
  rfl

theorem w_store {n p off : Nat} {a x : IOpd} {cs xs : List Value} (hw : WF H) (ho : Obj1 H p cs) (ha : a.val T.val = .pointer (some ⟨p, off, none⟩)) (hx : vcells (x.val T.val) = some xs) (hn : xs.length = n) (h0 : n ≠ 0) (hl : off + n ≤ cs.length)
    (hs : xs.all scalar = true) (hk : ∀ H', Mod p H H' → H'.next = H.next → Obj1 H' p (cs.take off ++ (xs ++ cs.drop (off + n))) → wpO C r K (putDst T d undef) H') : wpO C (⟨d, .store n a x, none⟩ :: r) K T H := by
  rw [wpO_store]
  obtain ⟨e, ho⟩ := ho
  subst hn
  have : evalOp C H.get T.val H.next (.store xs.length a x) = some { v := undef, put := some (p, .cells [⟨e, cs.take off ++ (xs ++ cs.drop (off + xs.length))⟩]), rd := [p] } := by
    simp only [evalOp, ha, hx, asCell_ptr]
    rw [if_pos trivial, storeN_obj ho h0 hl hs]
  rw [this]
  exact hk _ (Mod.put hw _ ho) rfl ⟨e, get_put_same _ (base_le_of ho (by simp))⟩

/-- A row that is read. -/
def Row (C : Ctx) (H : AHeap) (v : Value) (esz m : Nat) (xs : List Value) : Prop :=
  xs.length = m * esz ∧ ∃ a c, v = .slice a m c ∧ (a = none → m = 0 ∧ c = 0) ∧ ∀ b, a = some b → m ≠ 0 → loadN C H.get b (m * esz) = some xs

theorem Row.same {H' : AHeap} (hs : Same H H') {v : Value} {esz m : Nat} {xs : List Value} (h : Row C H v esz m xs) : Row C H' v esz m xs := by
  obtain ⟨h1, a, c, h2, h3, h4⟩ := h
  exact ⟨h1, a, c, h2, h3, fun b hb hm => hs.load (h4 b hb hm)⟩
/-- The object behind a row, if there is one, is another one. -/
def Off (g : Nat) (v : Value) : Prop := ∀ a n c, v = .slice (some a) n c → n ≠ 0 → a.block ≠ g
theorem Row.mod {g : Nat} {H' : AHeap} (hs : Mod g H H') {v : Value} {esz m : Nat} {xs : List Value} (h : Row C H v esz m xs) (hg : Off g v) : Row C H' v esz m xs := by
  obtain ⟨h1, a, c, rfl, h3, h4⟩ := h
  exact ⟨h1, a, c, rfl, h3, fun b hb hm => hs.load (h4 b hb hm) (by subst hb; exact hg b m c rfl hm)⟩
theorem Row.off (hw : WF H) {v : Value} {esz m : Nat} {xs : List Value} (h : Row C H v esz m xs) {g : Nat} (hg : H.next ≤ g) : Off g v := by
  obtain ⟨h1, a, c, rfl, h3, h4⟩ := h
  intro b n c' he hn
  cases he
  have := load_lt hw (h4 b rfl hn)
  omega
theorem Buf.row {v : Value} {g esz n : Nat} {cs : List Value} (h : Buf H v g esz n cs) : Row C H v esz n cs := by
  have hl : cs.length = n * esz := by obtain ⟨_, _, _, _, _, _, _, _, h, _⟩ := h; exact h
  obtain ⟨a, rfl, _, h1⟩ := h.load (C := C)
  exact ⟨hl, some a, n, rfl, by simp, fun b hb _ => by cases hb; exact h1⟩
theorem Buf.off {v : Value} {g g' esz n : Nat} {cs : List Value} (h : Buf H v g esz n cs) (hne : g ≠ g') : Off g' v := by
  obtain ⟨k, vs, e, rfl, _⟩ := h
  intro b n c he hn
  cases he
  exact hne

theorem Row.src {v : Value} {esz m : Nat} {xs : List Value} (h : Row C H v esz m xs) : ∃ rd, srcCells C H.get esz m v = some (xs, rd) ∧ lenA v = some m ∧ ∀ g, Off g v → ∀ x ∈ rd, x ≠ g := by
  obtain ⟨h1, a, c, rfl, h3, h4⟩ := h
  by_cases hm : m = 0
  · subst hm
    have : xs = [] := by simpa using h1
    subst this
    refine ⟨[], ?_, rfl, by simp⟩
    cases a <;> simp [srcCells]
  · cases a with
    | none => exact absurd (h3 rfl).1 hm
    | some b =>
      refine ⟨[b.block], ?_, rfl, fun g hg x hx => ?_⟩
      · simp [srcCells, hm, h4 b rfl hm]
      · simp at hx
        subst hx
        exact hg b m c rfl hm

theorem w_app {esz bytes g n m : Nat} {s x : IOpd} {cs xs : List Value} (hw : WF H) (hb : Buf H (s.val T.val) g esz n cs) (hx : Row C H (x.val T.val) esz m xs) (hs : xs.all scalar = true) (hr : roomy (n + m) bytes = true)
    (hk : ∀ v H', Mod g H H' → Buf H' v g esz (n + m) (cs ++ xs) → wpO C r K (putDst T d v) H') (h1e : 1 ≤ esz := by omega) : wpO C (⟨d, .append esz bytes s x, none⟩ :: r) K T H := by
  rw [wpO_append]
  obtain ⟨rd, h1, h2, _⟩ := hx.src
  obtain ⟨v, put, rd', h3, h4, h5, _, _⟩ := appendA_buf (C := C) (bytes := bytes) (rd := rd) (nid := H.next) hw hb h1e hx.1 hs hr
  have : evalOp C H.get T.val H.next (.append esz bytes s x) = some ⟨v, put, none, rd'⟩ := by
    simp only [evalOp, h2, h1]
    exact h3
  rw [this]
  exact hk v _ h5 h4

/-- 'append' to the nil slice. -/
theorem w_app0 {esz bytes m : Nat} {s x : IOpd} {xs : List Value} (hw : WF H) (hs0 : s.val T.val = .slice none 0 0) (hx : Row C H (x.val T.val) esz m xs) (hm : m ≠ 0) (hs : xs.all scalar = true) (hr : roomy m bytes = true)
    (hk : ∀ v H', Same H H' → Buf H' v H.next esz m xs → wpO C r K (putDst T d v) H') : wpO C (⟨d, .append esz bytes s x, none⟩ :: r) K T H := by
  rw [wpO_append]
  obtain ⟨rd, h1, h2, _⟩ := hx.src
  have : evalOp C H.get T.val H.next (.append esz bytes s x) = some ⟨.slice (some ⟨H.next, 0, none⟩) m m, none, some (.cells [⟨esz, xs⟩]), rd⟩ := by
    simp only [evalOp, h2, h1, hs0]
    unfold appendA
    rw [if_pos ⟨hx.1, hs⟩]
    simp [hm, hr]
  rw [this]
  exact hk _ _ (Same.push hw _) (Buf.push H (.inr rfl) hx.1 hs)

theorem cellsAt_aadd {M : Nat → Option AObj} (a : Addr) (i : Nat) : cellsAt C M (aadd a i) = (cellsAt C M a).map (List.drop i) := by
  obtain ⟨b, off, sp⟩ := a
  show cellsAt C M ⟨b, off + i, sp⟩ = _
  unfold cellsAt
  dsimp only
  cases M b with
  | none => rfl
  | some o =>
    cases o with
    | raw =>
      dsimp only
      cases C.w0.heap[b]? with
      | none => rfl
      | some ob =>
        cases ob with
        | cells c e f =>
          dsimp only
          cases sp with
          | none => simp [List.drop_drop, Nat.add_comm]
          | some k => simp
        | _ => rfl
    | cells vs =>
      dsimp only [ver]
      generalize vs[(match sp with | none => 0 | some k => k + 1)]? = q
      cases q with
      | none => rfl
      | some v => simp [List.drop_drop, Nat.add_comm]
    | _ => rfl

theorem load_get {M : Nat → Option AObj} {a : Addr} {n : Nat} {l : List Value} (h : loadN C M a n = some l) {i : Nat} (hi : i < l.length) : loadN C M (aadd a i) 1 = some [l[i]] := by
  unfold loadN at h ⊢
  rw [cellsAt_aadd]
  split at h
  · rename_i cs hcs
    rw [hcs]
    split at h
    · rename_i hn
      cases h
      simp only [List.length_take] at hi
      simp only [Option.map_some, List.length_drop]
      rw [if_pos (by omega), List.take_one, List.head?_drop]
      simp
    · cases h
  · cases h

theorem Row.at {a : Option Addr} {n c esz m : Nat} {xs : List Value} (h : Row C H (.slice a n c) esz m xs) {i : Nat} (hi : i < m * esz) : ∃ b, a = some b ∧ n = m ∧ loadN C H.get (aadd b i) 1 = some [xs[i]'(by rw [h.1]; exact hi)] := by
  obtain ⟨h1, a', c', he, h3, h4⟩ := h
  cases he
  have hm : n ≠ 0 := by rintro rfl; simp at hi
  cases a with
  | none => exact absurd (h3 rfl).1 hm
  | some b => exact ⟨b, rfl, rfl, load_get (h4 b rfl hm) (by rw [h1]; exact hi)⟩

/-- A row has grown. -/
structure Grew (H : AHeap) (g : Nat) (esz n : Nat) (cs : List Value) (r : Value) (H' : AHeap) : Prop where
  mod : Mod g H H'
  buf : ∃ g', (g' = g ∨ H.next ≤ g') ∧ Buf H' r g' esz n cs

theorem Mod.after {g g' : Nat} {a b c : AHeap} (h : Mod g a b) (k : Mod g' b c) (hg : g' = g ∨ a.next ≤ g') : Mod g a c :=
  ⟨h.wf, h.grow.trans k.grow, fun i hi hne => (k.same i (Nat.lt_of_lt_of_le hi h.grow.next) (by omega)).trans (h.same i hi hne)⟩

/-! ### the same in a region whose order is open -/
section
variable {rd : List (Nat × IOper × List Nat)} {log : List Info} {i : Nat} {un : List Nat}

theorem d_mk {cs : List Value} (hw : WF H) (hf : freeAll C log (.exp [] [H.next]) un = true) (hk : ∀ p H', Made H H' p cs → wpD C rd (.exp [] [p] :: log) K (putDst T d (.pointer (some ⟨p, 0, none⟩))) H') :
    wpD C ((i, ⟨d, .mk cs, none⟩, un) :: rd) log K T H := by
  rw [wpD_mk]
  simp only [evalOp, bindO_some, opKD_eq, AOut.mods, List.nil_append]
  rw [hf]
  exact hk _ _ (Made.push hw 0 cs)

theorem d_bs {len esz : Nat} {z cs : List Value} {ps : List (Nat × Nat × IOpd)} (hw : WF H) (hf : freeAll C log (.exp [] [H.next]) un = true) (hx : fillA T.val z ps = some cs) (hl : cs.length = len * esz) (hs : cs.all scalar = true)
    (hk : ∀ p H', Made H H' p cs → Buf H' (.slice (some ⟨p, 0, none⟩) len len) p esz len cs → wpD C rd (.exp [] [p] :: log) K (putDst T d (.slice (some ⟨p, 0, none⟩) len len)) H') : wpD C ((i, ⟨d, .buildSlice len z ps, none⟩, un) :: rd) log K T H := by
  rw [wpD_buildSlice]
  have : evalOp C H.get T.val H.next (.buildSlice len z ps) = some { v := .slice (some ⟨H.next, 0, none⟩) len len, new := some (.cells [⟨0, cs⟩]) } := by
    simp only [evalOp, hx]
    rw [if_pos hs]
  rw [this]
  simp only [bindO_some, opKD_eq, AOut.mods, List.nil_append]
  rw [hf]
  exact hk _ _ (Made.push hw 0 cs) (Buf.push H (.inl rfl) hl hs)

theorem d_store {n p off : Nat} {a x : IOpd} {cs xs : List Value} (hw : WF H) (hf : freeAll C log (.exp [p] [p]) un = true) (ho : Obj1 H p cs) (ha : a.val T.val = .pointer (some ⟨p, off, none⟩)) (hx : vcells (x.val T.val) = some xs) (hn : xs.length = n) (h0 : n ≠ 0)
    (hl : off + n ≤ cs.length) (hs : xs.all scalar = true) (hk : ∀ H', Mod p H H' → H'.next = H.next → Obj1 H' p (cs.take off ++ (xs ++ cs.drop (off + n))) → wpD C rd (.exp [p] [p] :: log) K (putDst T d undef) H') :
    wpD C ((i, ⟨d, .store n a x, none⟩, un) :: rd) log K T H := by
  rw [wpD_store]
  obtain ⟨e, ho⟩ := ho
  subst hn
  have : evalOp C H.get T.val H.next (.store xs.length a x) = some { v := undef, put := some (p, .cells [⟨e, cs.take off ++ (xs ++ cs.drop (off + xs.length))⟩]), rd := [p] } := by
    simp only [evalOp, ha, hx, asCell_ptr]
    rw [if_pos trivial, storeN_obj ho h0 hl hs]
  rw [this]
  simp only [bindO_some, opKD_eq, AOut.mods, List.append_nil]
  rw [hf]
  exact hk _ (Mod.put hw _ ho) rfl ⟨e, get_put_same _ (base_le_of ho (by simp))⟩

theorem d_app {esz bytes g n m : Nat} {s x : IOpd} {cs xs : List Value} (hw : WF H) (hb : Buf H (s.val T.val) g esz n cs) (hx : Row C H (x.val T.val) esz m xs) (hs : xs.all scalar = true) (hr : roomy (n + m) bytes = true)
    (hf : ∀ rd' md, (∀ x ∈ md, x = g) → freeAll C log (.exp rd' md) un = true)
    (hk : ∀ v H' rd' md, Mod g H H' → Buf H' v g esz (n + m) (cs ++ xs) → (∀ x ∈ md, x = g) → wpD C rd (.exp rd' md :: log) K (putDst T d v) H') (h1e : 1 ≤ esz := by omega) : wpD C ((i, ⟨d, .append esz bytes s x, none⟩, un) :: rd) log K T H := by
  rw [wpD_append]
  obtain ⟨rd0, h1, h2, _⟩ := hx.src
  obtain ⟨v, put, rd', h3, h4, h5, _, h6⟩ := appendA_buf (C := C) (bytes := bytes) (rd := rd0) (nid := H.next) hw hb h1e hx.1 hs hr
  have : evalOp C H.get T.val H.next (.append esz bytes s x) = some ⟨v, put, none, rd'⟩ := by
    simp only [evalOp, h2, h1]
    exact h3
  rw [this]
  simp only [bindO_some, opKD_eq]
  have hmd : ∀ x ∈ AOut.mods ⟨v, put, none, rd'⟩ H.next, x = g := by
    intro x hx
    cases put with
    | none => simp [AOut.mods] at hx
    | some p =>
      obtain ⟨b, o⟩ := p
      simp [AOut.mods] at hx
      rw [hx]
      exact h6 b o rfl
  rw [hf _ _ hmd]
  exact hk v _ _ _ h5 h4 hmd

end

/-! ### which pairs are free -/
theorem nbeq {x y : Nat} (h : x ≠ y) : (!Nat.beq x y) = true := by
  cases hb : Nat.beq x y with
  | false => rfl
  | true => exact absurd (Nat.eq_of_beq_eq_true hb) h
theorem same_refl (hE : ∀ a : AObj, C.eqb a a = true) {a : Option AObj} (h : a ≠ none) : same C a a = true := by
  cases a with
  | none => exact absurd rfl h
  | some a => exact hE a
/-- A reading behind a call that left all as it was. -/
theorem free_call_rd (hE : ∀ a : AObj, C.eqb a a = true) {Hb Ha : AHeap} (h : Same Hb Ha) {ri : List Nat} (hr : ∀ b ∈ ri, Ha.next ≤ b ∨ Hb.get b ≠ none) : free C (.call Hb Ha) (.exp ri []) = true := by
  simp only [free, List.all_nil, Bool.and_true, List.all_eq_true, Bool.or_eq_true, Bool.and_eq_true, Nat.ble_eq, Nat.blt_eq]
  intro b hb
  rcases hr b hb with h1 | h1
  · exact .inl h1
  · have hlt := get_lt h.wf h1
    refine .inr ⟨hlt, ?_⟩
    rw [h.same b hlt]
    exact same_refl hE h1
theorem free_call_new {Hb Ha : AHeap} {p : Nat} (h : Ha.next ≤ p) : free C (.call Hb Ha) (.exp [] [p]) = true := by simp [free, h]
theorem free_exp_rd {rk mk ri : List Nat} (h : ∀ x ∈ mk, x ∉ ri) : free C (.exp rk mk) (.exp ri []) = true := by
  simp only [free, disj, Bool.and_eq_true, List.all_eq_true]
  refine ⟨fun x hx y hy => ?_, by simp, by simp⟩
  exact nbeq fun e => h x hx (e ▸ hy)
theorem free_exp_new {rk mk : List Nat} {p : Nat} (h1 : ∀ x ∈ mk, x ≠ p) (h2 : ∀ x ∈ rk, x ≠ p) : free C (.exp rk mk) (.exp [] [p]) = true := by
  simp only [free, disj, Bool.and_eq_true, List.all_eq_true]
  refine ⟨by simp, fun x hx y hy => ?_, fun x hx y hy => ?_⟩
  · simp at hy; subst hy; exact nbeq (h1 x hx)
  · simp at hx; subst hx; exact nbeq (Ne.symm (h2 y hy))

theorem nbeq' {x y : Nat} (h : x ≠ y) : Nat.beq x y = false := by simpa using nbeq h
@[simp] theorem free_dry (rk ri : List Nat) : free C (.exp rk []) (.exp ri []) = true := by simp [free, disj]
@[simp] theorem free_none (rk mk : List Nat) : free C (.exp rk mk) (.exp [] []) = true := by simp [free, disj]
@[simp] theorem free_call_none (a b : AHeap) : free C (.call a b) (.exp [] []) = true := by simp [free]
@[simp] theorem free_none_any (ri mi : List Nat) : free C (.exp [] []) (.exp ri mi) = true := by simp [free, disj]
@[simp] theorem free_new_rd (rk : List Nat) (q p : Nat) : free C (.exp rk [q]) (.exp [p] []) = !Nat.beq q p := by simp [free, disj]
@[simp] theorem free_rd_new (p q : Nat) : free C (.exp [p] []) (.exp [] [q]) = !Nat.beq q p := by simp [free, disj]
@[simp] theorem free_new_new (p q : Nat) : free C (.exp [] [p]) (.exp [] [q]) = !Nat.beq p q := by simp [free, disj]

/-! ### slices of slices -/
/-- What lies behind an address can be cut. -/
def Slc (H : AHeap) (a : Addr) (esz : Nat) : Prop := (H.get a.block = some .raw ∧ a.spot = none) ∨ ∃ vs v, H.get a.block = some (.cells vs) ∧ vs[ver a]? = some v ∧ (v.esz = 0 ∨ v.esz = esz)

theorem Slc.ne {a : Addr} {esz : Nat} (h : Slc H a esz) : H.get a.block ≠ none := by
  rcases h with ⟨h, _⟩ | ⟨vs, v, h, _⟩ <;> rw [h] <;> simp
theorem Slc.same {H' : AHeap} (hs : Same H H') {a : Addr} {esz : Nat} (h : Slc H a esz) : Slc H' a esz := by
  have := get_lt hs.wf h.ne
  unfold Slc
  rw [hs.same _ this]
  exact h
theorem Slc.mod {g : Nat} {H' : AHeap} (hs : Mod g H H') {a : Addr} {esz : Nat} (h : Slc H a esz) (hne : a.block ≠ g) : Slc H' a esz := by
  have := get_lt hs.wf h.ne
  unfold Slc
  rw [hs.same _ this hne]
  exact h
theorem Slc.aadd {a : Addr} {esz : Nat} (h : Slc H a esz) (n : Nat) : Slc H (aadd a n) esz := h
theorem Buf.slc {a : Addr} {g esz n m c : Nat} {cs : List Value} (h : Buf H (.slice (some a) n c) g esz m cs) : Slc H a esz := by
  obtain ⟨k, vs, e, he, hg, hl, hk, h1, _⟩ := h
  cases he
  exact .inr ⟨vs, _, hg, by rw [ver_mkAddr]; exact hk, either_esz h1⟩

theorem evalOp_sliceS {M : Nat → Option AObj} {T : Nat → Value} {nid esz n c : Nat} {x lo hi : IOpd} {a : Addr} {k1 k2 : IntKind} {l h : Nat} (hx : x.val T = .slice (some a) n c)
    (hsl : (M a.block = some .raw ∧ a.spot = none) ∨ ∃ vs v, M a.block = some (.cells vs) ∧ vs[ver a]? = some v ∧ (v.esz = 0 ∨ v.esz = esz)) (hlo : lo.val T = .int k1 l) (hhi : hi.val T = .int k2 h) (h1 : l ≤ h) (h2 : h ≤ c) :
    evalOp C M T nid (.sliceS esz x (some lo) (some hi) none) = some { v := .slice (some (aadd a (l * esz))) (h - l) (c - l), rd := [a.block] } := by
  have hb : bounds T n c (some lo) (some hi) none = some (l, h, c) := by
    simp only [bounds, bnd, hlo, hhi]
    rw [if_pos (by omega)]
    simp only [Int.toNat_natCast]
    rw [if_pos (by omega)]
    simp [h2]
  simp only [evalOp, hx, hb]
  rcases hsl with ⟨hM, hs⟩ | ⟨vs, v, hM, hv, he⟩
  · simp [hM, hs]
  · simp only [hM, hv]
    rw [if_pos he]

theorem d_sliceS {i : Nat} {un : List Nat} {rd : List (Nat × IOper × List Nat)} {log : List Info} {esz n c : Nat} {x lo hi : IOpd} {a : Addr} {k1 k2 : IntKind} {l h : Nat} (hx : x.val T.val = .slice (some a) n c) (hsl : Slc H a esz)
    (hlo : lo.val T.val = .int k1 l) (hhi : hi.val T.val = .int k2 h) (h1 : l ≤ h) (h2 : h ≤ c) (hf : freeAll C log (.exp [a.block] []) un = true)
    (hk : wpD C rd (.exp [a.block] [] :: log) K (putDst T d (.slice (some (aadd a (l * esz))) (h - l) (c - l))) H) : wpD C ((i, ⟨d, .sliceS esz x (some lo) (some hi) none, none⟩, un) :: rd) log K T H := by
  rw [wpD_sliceS, evalOp_sliceS hx hsl hlo hhi h1 h2]
  simp only [bindO_some, opKD_eq, AOut.mods, List.append_nil]
  rw [hf]
  exact hk

theorem loadN_sub {M : Nat → Option AObj} {a : Addr} {n : Nat} {l : List Value} (h : loadN C M a n = some l) {i m : Nat} (hi : i + m ≤ n) : loadN C M (Ai.aadd a i) m = some ((l.drop i).take m) := by
  unfold loadN at h ⊢
  rw [cellsAt_aadd]
  split at h
  · rename_i cs hcs
    rw [hcs]
    split at h
    · rename_i hn
      cases h
      simp only [Option.map_some, List.length_drop]
      rw [if_pos (by omega), List.drop_take, List.take_take, Nat.min_eq_left (by omega)]
    · cases h
  · cases h

theorem Row.sub {a : Addr} {n c c' esz : Nat} {xs : List Value} (hr : Row C H (.slice (some a) n c) esz n xs) {l h : Nat} (h1 : l ≤ h) (h2 : h ≤ n) :
    Row C H (.slice (some (Ai.aadd a (l * esz))) (h - l) c') esz (h - l) ((xs.drop (l * esz)).take ((h - l) * esz)) := by
  obtain ⟨e1, a', c0, he, h3, h4⟩ := hr
  cases he
  have hle : l * esz + (h - l) * esz ≤ n * esz := by rw [← Nat.add_mul]; exact Nat.mul_le_mul_right _ (by omega)
  refine ⟨?_, some _, _, rfl, by simp, fun b hb hm => ?_⟩
  · simp only [List.length_take, List.length_drop, e1]
    omega
  · cases hb
    exact loadN_sub (h4 a rfl (by omega)) hle

end
end Go.Ai
