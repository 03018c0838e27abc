/-
  The evaluator never takes an object away.
-/
import Derived.Test.YtlikgpehalhgkaaAiCode
namespace Go.Ai

structure GrowSt (ro : Option Nat) (s s' : St) : Prop where
  grow : Grow s.H s'.H
  ds : ∃ pre, s'.ds = pre ++ s.ds ∧ (ro ≠ none → pre = [])

theorem GrowSt.refl (ro : Option Nat) (s : St) : GrowSt ro s s := ⟨.refl _, [], rfl, fun _ => rfl⟩
theorem GrowSt.trans {ro : Option Nat} {a b c : St} (h : GrowSt ro a b) (k : GrowSt ro b c) : GrowSt ro a c := by
  obtain ⟨p1, e1, q1⟩ := h.ds
  obtain ⟨p2, e2, q2⟩ := k.ds
  exact ⟨h.grow.trans k.grow, p2 ++ p1, by rw [e2, e1, List.append_assoc], fun h => by rw [q1 h, q2 h]; rfl⟩

section
variable {C : Ctx} {o : Orc}

structure GrowOK (o : Orc) : Prop where
  call : ∀ f as H v H', o.call f as H = some (v, H') → WF H → Grow H H'
  loop : ∀ ro c s e s', o.loop ro c s = some (e, s') → WF s.H → GrowSt ro s s'

theorem opsA_grow (h : GrowOK o) : ∀ (xs : List IOper) (T : Env) (H : AHeap) (T' : Env) (H' : AHeap), opsA C o xs T H = some (T', H') → WF H → Grow H H'
  | [], T, H, T', H', h, _ => by simp only [opsA, Option.some.injEq, Prod.mk.injEq] at h; obtain ⟨_, rfl⟩ := h; exact .refl _
  | x :: r, T, H, T', H', hh, hw => by
    simp only [opsA] at hh
    split at hh
    · rename_i T1 H1 i hs
      have g1 := (step_ev h.call hw hs).1
      exact g1.trans (opsA_grow h r T1 H1 T' H' hh (g1.wf hw))
    · cases hh

theorem dopsA_grow (h : GrowOK o) : ∀ (es : List (Nat × IOper × List Nat)) (log : List Info) (T : Env) (H : AHeap) (T' : Env) (H' : AHeap), dopsA C o es log T H = some (T', H') → WF H → Grow H H'
  | [], _, T, H, T', H', h, _ => by simp only [dopsA, Option.some.injEq, Prod.mk.injEq] at h; obtain ⟨_, rfl⟩ := h; exact .refl _
  | (_, x, un) :: r, log, T, H, T', H', hh, hw => by
    simp only [dopsA] at hh
    split at hh
    · rename_i T1 H1 i hs
      have g1 := (step_ev h.call hw hs).1
      split at hh
      · exact g1.trans (dopsA_grow h r _ T1 H1 T' H' hh (g1.wf hw))
      · cases hh
    · cases hh

theorem push_grow (H : AHeap) (x : AObj) (hw : WF H) : Grow H (H.push x) := (push_spec H x hw).1

theorem code_grow (h : GrowOK o) : ∀ (c : ICode) (ro : Option Nat) (s : St) (e : AExit) (s' : St), codeA C o ro c s = some (e, s') → WF s.H → GrowSt ro s s' := by
  intro c
  induction c with
  | skip => intro ro s e s' hh _; simp only [codeA] at hh; cases hh; exact .refl _ _
  | exit id => intro ro s e s' hh _; simp only [codeA] at hh; cases hh; exact .refl _ _
  | ret => intro ro s e s' hh _; simp only [codeA] at hh; cases hh; exact .refl _ _
  | bad => intro ro s e s' hh _; simp only [codeA] at hh; cases hh
  | region ops =>
    intro ro s e s' hh hw
    simp only [codeA] at hh
    split at hh
    · rename_i T H ho; cases hh; exact ⟨opsA_grow h _ _ _ _ _ ho hw, [], rfl, fun _ => rfl⟩
    · cases hh
  | dregion ops =>
    intro ro s e s' hh hw
    simp only [codeA] at hh
    split at hh
    · rename_i T H ho; cases hh; exact ⟨dopsA_grow h _ _ _ _ _ _ ho hw, [], rfl, fun _ => rfl⟩
    · cases hh
  | seq a b iha ihb =>
    intro ro s e s' hh hw
    simp only [codeA] at hh
    split at hh
    · rename_i s1 h1
      have g := iha _ _ _ _ h1 hw
      exact g.trans (ihb _ _ _ _ hh (g.grow.wf hw))
    · exact iha _ _ _ _ hh hw
  | cond x a b iha ihb =>
    intro ro s e s' hh hw
    simp only [codeA] at hh
    split at hh
    · exact iha _ _ _ _ hh hw
    · exact ihb _ _ _ _ hh hw
    · cases hh
  | block id c ih =>
    intro ro s e s' hh hw
    simp only [codeA] at hh
    split at hh
    · rename_i i s1 h1
      have g := ih _ _ _ _ h1 hw
      split at hh <;> (cases hh; exact g)
    · exact ih _ _ _ _ hh hw
  | loop c ih => intro ro s e s' hh hw; exact h.loop _ _ _ _ _ hh hw
  | rangeFunc f ps assign body _ _ =>
    intro ro s e s' hh hw
    simp only [codeA] at hh
    split at hh
    · cases hh
    · rename_i hin
      split at hh
      · cases hh
      · rename_i v H3 hc
        split at hh
        · rename_i L hL
          split at hh
          · cases hh
          · cases hh
            cases ro with
            | none =>
              dsimp only at hc hL ⊢
              have g1 := push_grow s.H (.deferred true) hw
              have g2 := push_grow _ (.loop { state := .ready, pending := none, T := s.T, params := ps, assign, body }) (g1.wf hw)
              have g3 := h.call _ _ _ _ _ hc (g2.wf (g1.wf hw))
              have g4 := (put_spec (.loop { L with state := .exhausted }) (g3.wf (g2.wf (g1.wf hw))) hL (by simp)).1
              exact ⟨((g1.trans g2).trans g3).trans g4, [s.H.next], rfl, fun h => absurd rfl h⟩
            | some r =>
              dsimp only at hc hL ⊢
              have g2 := push_grow s.H (.loop { state := .ready, pending := none, T := s.T, params := ps, assign, body }) hw
              have g3 := h.call _ _ _ _ _ hc (g2.wf hw)
              have g4 := (put_spec (.loop { L with state := .exhausted }) (g3.wf (g2.wf hw)) hL (by simp)).1
              exact ⟨(g2.trans g3).trans g4, [], rfl, fun _ => rfl⟩
        · cases hh

theorem shut_grow : ∀ (ds : List Nat) (H H' : AHeap), shut ds H = some H' → WF H → Grow H H'
  | [], H, H', h, _ => by simp only [shut, Option.some.injEq] at h; subst h; exact .refl _
  | d :: ds, H, H', h, hw => by
    simp only [shut] at h
    split at h
    · rename_i hd
      have g := (put_spec (.deferred false) hw hd (by simp)).1
      exact g.trans (shut_grow ds _ _ h (g.wf hw))
    · cases h

theorem callFn_grow (h : GrowOK o) {F : IFunc} {as : List Value} {H : AHeap} {v : Value} {H' : AHeap} (hh : callFn C o F as H = some (v, H')) (hw : WF H) : Grow H H' := by
  unfold callFn at hh
  split at hh
  · cases hh
  · rename_i e s hc
    have g := (code_grow h _ _ _ _ _ hc hw).grow
    split at hh
    · cases hh
    · split at hh
      · cases hh
      · rename_i H1 hs
        split at hh
        · cases hh; exact g.trans (shut_grow _ _ _ hs (g.wf hw))
        · cases hh

theorem endRound_grow {l : Nat} {e : AExit} {s : St} {v : Value} {H' : AHeap} (hh : endRound l e s = some (v, H')) (hw : WF s.H) : Grow s.H H' := by
  unfold endRound at hh
  split at hh
  · rename_i L hL
    split at hh
    · split at hh <;> (cases hh; exact (put_spec _ hw hL (by simp)).1)
    · cases hh
  · cases hh

theorem bodyRound_grow (h : GrowOK o) {l : Nat} {body : ICode} {s : St} {v : Value} {H' : AHeap} (hh : bodyRound C o l body s = some (v, H')) (hw : WF s.H) : Grow s.H H' := by
  unfold bodyRound at hh
  split at hh
  · rename_i L hL
    split at hh
    · split at hh
      · rename_i e s' hc
        have g1 := (put_spec (.loop { L with state := .busy }) hw hL (by simp)).1
        have g2 := (code_grow h _ _ _ _ _ hc (g1.wf hw)).grow
        exact (g1.trans g2).trans (endRound_grow hh (g2.wf (g1.wf hw)))
      · cases hh
    · cases hh
  · cases hh

theorem callYield_grow (h : GrowOK o) {l : Nat} {args : List Value} {H : AHeap} {v : Value} {H' : AHeap} (hh : callYield C o l args H = some (v, H')) (hw : WF H) : Grow H H' := by
  unfold callYield at hh
  split at hh
  · split at hh
    · split at hh
      · rename_i e s hc
        have g := (code_grow h _ _ _ _ _ hc hw).grow
        split at hh
        · exact g.trans (bodyRound_grow h hh (g.wf hw))
        · cases hh
      · cases hh
    · cases hh
  · cases hh

theorem callA_grow (h : GrowOK o) {f : Value} {args : List Value} {H : AHeap} {v : Value} {H' : AHeap} (hh : callA C o f args H = some (v, H')) (hw : WF H) : Grow H H' := by
  unfold callA at hh
  split at hh
  · split at hh
    · split at hh
      · cases hh; exact .refl _
      · split at hh
        · cases hh
        · exact callFn_grow h hh hw
    · split at hh
      · exact callYield_grow h hh hw
      · cases hh
    · cases hh
  · cases hh

theorem all_grow : ∀ n, GrowOK (orc C n)
  | 0 => ⟨fun _ _ _ _ _ h => (by cases h), fun _ _ _ _ _ h => (by cases h)⟩
  | n + 1 => by
    have ih := all_grow n
    refine ⟨fun f as H v H' h hw => callA_grow ih h hw, fun ro c s e s' h hw => ?_⟩
    have h : loopA C (orc C n) ro c s = some (e, s') := h
    unfold loopA at h
    split at h
    · rename_i s1 h1
      have g := code_grow ih _ _ _ _ _ h1 hw
      exact g.trans (ih.loop _ _ _ _ _ h (g.grow.wf hw))
    · exact code_grow ih _ _ _ _ _ h hw

end
end Go.Ai
