/-
  The evaluator is sound: what it answers, every walk of the model answers.
-/
import Derived.Test.YtlikgpehalhgkaaAiGrow
namespace Go.Ai

section
variable {P : Program} {C : Ctx} {o : Orc}

/-! ### the results of a function -/
def resOf (tmps : Array Value) : ResultVar → Sem Value
  | .tmp t => pure (tmps.getD t undef)
  | .cell a t => do loadVar t (← asAddr (tmps.getD a undef))

theorem mapM_run {α β : Type} {f : α → Sem β} {w : World} {r : α} {rs : List α} {v : β} {vs : List β} (h1 : (f r).run P w = .ok v w) (h2 : (rs.mapM f).run P w = .ok vs w) : ((r :: rs).mapM f).run P w = .ok (v :: vs) w := by
  simp [List.mapM_cons, h1, h2]

theorem resA_rel {φ : Phi} {M : Nat → Option AObj} {w : World} {T : Nat → Value} {tmps : Array Value} (hT : TRel φ T tmps) (h : R P C φ M w) : ∀ {rs : List ResultVar} {irs : List IRes} {vs : List Value}, compRes P rs = some irs → resAll C T M irs = some vs →
    ∃ vs', (rs.mapM (resOf tmps)).run P w = .ok vs' w ∧ VsRel φ vs vs'
  | [], irs, vs, hc, hr => by
    simp only [compRes, Option.some.injEq] at hc
    subst hc
    simp only [resAll, Option.some.injEq] at hr
    subst hr
    exact ⟨[], by simp, .nil⟩
  | .tmp t :: rs, irs, vs, hc, hr => by
    simp only [compRes, Option.map_eq_some_iff] at hc
    obtain ⟨irs', hc', rfl⟩ := hc
    simp only [resAll, resA] at hr
    split at hr
    · rename_i v vs1 h1 h2
      cases h1
      cases hr
      obtain ⟨vs', hrun, hrel⟩ := resA_rel hT h hc' h2
      exact ⟨tmps.getD t undef :: vs', mapM_run (Sem.run_pure _ _ _) hrun, .cons _ _ _ _ (hT t) hrel⟩
    · cases hr
  | .cell a t :: rs, irs, vs, hc, hr => by
    simp only [compRes] at hc
    split at hc
    · rename_i n irs' hb hn hc'
      cases hc
      simp only [resAll] at hr
      split at hr
      · rename_i v vs1 h1 h2
        cases hr
        simp only [resA] at h1
        split at h1
        · rename_i ad had
          simp only [Option.map_eq_some_iff] at h1
          obtain ⟨l, hl, rfl⟩ := h1
          have hv := hT a
          rw [asCell_inv had] at hv
          obtain ⟨a', e1, e2⟩ := ptr_inv hv
          obtain ⟨_, xs', _, _, hx, hrun1⟩ := loadN_rel h e2 hl
          obtain ⟨vs', hrun, hrel⟩ := resA_rel hT h hc' h2
          exact ⟨.agg xs'.toArray :: vs', mapM_run (by simp only [resOf, e1]; simp [asAddr, loadVar, run_isAgg hb, run_sizeOf hn, hrun1]) hrun, .cons _ _ _ _ (.agg _ _ (by simpa using hx)) hrel⟩
        · cases h1
      · cases hr
    · rename_i n irs' hb hn hc'
      cases hc
      simp only [resAll] at hr
      split at hr
      · rename_i v vs1 h1 h2
        cases hr
        simp only [resA] at h1
        split at h1
        · rename_i ad had
          split at h1
          · rename_i v0 hl
            cases h1
            have hv := hT a
            rw [asCell_inv had] at hv
            obtain ⟨a', e1, e2⟩ := ptr_inv hv
            obtain ⟨_, xs', hcell, _, hx, _⟩ := loadN_rel h e2 hl
            obtain ⟨v', p, q⟩ := hx.get (i := 0) (v := v) rfl
            have hc0 := hcell 0 v' p
            rw [show a'.add 0 = a' from by simp [Addr.add]] at hc0
            obtain ⟨vs', hrun, hrel⟩ := resA_rel hT h hc' h2
            exact ⟨v' :: vs', mapM_run (by simp only [resOf, e1]; simp [asAddr, loadVar, run_isAgg hb, hc0]) hrun, .cons _ _ _ _ q hrel⟩
          · cases h1
        · cases h1
      · cases hr
    · cases hc

theorem oneOrTuple_rel {φ : Phi} {vs vs' : List Value} (h : VsRel φ vs vs') : VRel φ (oneOrTuple vs) (if h : vs'.toArray.size = 1 then vs'.toArray[0] else .tuple vs'.toArray) := by
  cases h with
  | nil => exact .undef _
  | cons v v' r r' h1 h2 =>
    cases h2 with
    | nil => exact h1
    | cons u u' r2 r2' h3 h4 => exact .tup _ _ (by simp) (.cons _ _ _ _ h1 (.cons _ _ _ _ h3 h4))

theorem results_rel {φ : Phi} {M : Nat → Option AObj} {w : World} {T : Nat → Value} {tmps : Array Value} (hT : TRel φ T tmps) (h : R P C φ M w) {fn : Func} {irs : List IRes} {vs : List Value} (hc : compRes P fn.results.toList = some irs)
    (hr : resAll C T M irs = some vs) : ∃ v', (results fn tmps).run P w = .ok v' w ∧ VRel φ (oneOrTuple vs) v' := by
  obtain ⟨vs', hrun, hrel⟩ := resA_rel hT h hc hr
  refine ⟨_, ?_, oneOrTuple_rel hrel⟩
  have e : results fn tmps = (do let vs ← fn.results.mapM (resOf tmps); pure (if h : vs.size = 1 then vs[0] else .tuple vs)) := by
    unfold results
    congr 1
  rw [e, Array.mapM_eq_mapM_toList]
  simp only [bind_map_left, Sem.run_bind]
  rw [hrun]
  rfl

/-! ### a loop -/
theorem least {p : Nat → Prop} : ∀ n, p n → ∃ n, p n ∧ ∀ m, p m → n ≤ m := by
  intro n
  induction n using Nat.strongRecOn with
  | _ n ih =>
    intro hn
    by_cases h : ∃ m, m < n ∧ p m
    · obtain ⟨m, h1, h2⟩ := h
      exact ih m h1 h2
    · exact ⟨n, hn, fun m hm => by
        rcases Nat.lt_or_ge m n with h' | h'
        · exact absurd ⟨m, h', hm⟩ h
        · exact h'⟩

/-- A loop, with a number that falls. -/
theorem wpIn_loop_ix {F : Fence} {n : Nat} {c : Code} {Q : Exit → Act → World → Prop} {a : Act} {w : World} (I : Nat → Act → World → Prop) {j : Nat} (h0 : I j a w)
    (round : ∀ j a w, I j a w → c.wpIn F n P (Exit.then (fun a' w' => ∃ i, i < j ∧ I i a' w') Q) a w) : (Code.loop c).wpIn F n P Q a w := by
  classical
  have ex : ∀ a w, (∃ j, I j a w) → ∃ j, I j a w ∧ ∀ i, I i a w → j ≤ i := fun a w ⟨j, hj⟩ => least (p := fun j => I j a w) j hj
  let μ : Act → World → Nat := fun a w => if h : ∃ j, I j a w then Classical.choose (ex a w h) else 0
  have hμ : ∀ a w, (∃ j, I j a w) → I (μ a w) a w ∧ ∀ i, I i a w → μ a w ≤ i := fun a w h => by
    have e : μ a w = Classical.choose (ex a w h) := by simp only [μ, dif_pos h]
    rw [e]
    exact Classical.choose_spec (ex a w h)
  refine wpIn_loop (fun a w => ∃ j, I j a w) μ ⟨j, h0⟩ fun a w hI => wpIn_mono (round (μ a w) a w (hμ a w hI).1) fun e a' w' hq => ?_
  cases e with
  | normal =>
    obtain ⟨i, hi, hI'⟩ := hq
    exact ⟨⟨i, hI'⟩, Nat.lt_of_le_of_lt ((hμ a' w' ⟨i, hI'⟩).2 i hI') hi⟩
  | exit _ => exact hq
  | goto _ => exact hq
  | ret => exact hq
  | panic _ => exact hq
  | outgrown => exact hq

/-- The code is sound at an oracle. -/
def CodesOK (P : Program) (C : Ctx) (o : Orc) : Prop := ∀ (code : Code) (nt : Nat) (ro : Option Nat) (s : St) (e : AExit) (s' : St), codeA C o ro (compCode P nt code) s = some (e, s') → WF s.H → CodeOK P C ro code nt s e s'

theorem loop_exit (n : Nat) {ro : Option Nat} {c : ICode} : ∀ {s : St} {e : AExit} {s' : St}, (orc C n).loop ro c s = some (e, s') → e ≠ .normal := by
  induction n with
  | zero => intro s e s' h; cases h
  | succ n ih =>
    intro s e s' h
    have h : loopA C (orc C n) ro c s = some (e, s') := h
    unfold loopA at h
    split at h
    · exact ih h
    · rename_i hne
      rintro rfl
      exact hne _ h

theorem loops_ok (n : Nat) (hcs : ∀ m, m < n → CodesOK P C (orc C m)) : LoopsOK P C (orc C n) := by
  intro ro code nt s e s' h hw
  have g := (all_grow (C := C) n).loop _ _ _ _ _ h hw
  refine ⟨g.grow, g.ds, fun φ M a w ro' hE hF hR hT hnt hD hro => ?_⟩
  have hne := loop_exit n h
  refine wpIn_loop_ix (fun j a1 w1 => j ≤ n ∧ ∃ s1 φ1, (orc C j).loop ro (compCode P nt code) s1 = some (e, s') ∧ WF s1.H ∧ Grow s.H s1.H ∧ φ.le φ1 ∧ TRel φ1 s1.T.val a1.tmps ∧ R P C φ1 (over s1.H M) w1 ∧ a1.tmps.size = a.tmps.size ∧ DsRel φ1 s1.ds a1.defers)
    (j := n) ⟨Nat.le_refl _, s, φ, h, hw, .refl _, Phi.le_refl φ, hT, by rw [over_self hE]; exact hR, rfl, hD⟩ ?_
  rintro j a1 w1 ⟨hj, s1, φ1, h1, hw1, g1, hle1, hT1, hR1, hs1, hD1⟩
  cases j with
  | zero => cases h1
  | succ m =>
    have h2 : loopA C (orc C m) ro (compCode P nt code) s1 = some (e, s') := h1
    unfold loopA at h2
    have gall := ((all_grow (C := C) (m + 1)).loop _ _ _ _ _ h1 hw1).grow
    have hF1 : Fresh s1.H s'.H (over s1.H M) := hF.right g1
    split at h2
    · rename_i s2 hc
      have ok := hcs m (by omega) code nt ro s1 .normal s2 hc hw1
      have g2 := ((all_grow (C := C) m).loop _ _ _ _ _ h2 (ok.grow.wf hw1)).grow
      refine wpIn_mono (ok.walk φ1 (over s1.H M) a1 w1 ro' (ext_over _ _) (hF1.left g2) hR1 hT1 (hs1 ▸ hnt) hD1 (hro.mono hle1)) ?_
      rintro x a2 w2 ⟨rfl, φ2, hle2, hT2, hR2, hs2, hD2⟩
      rw [over_over ok.grow.next] at hR2
      exact ⟨m, Nat.lt_succ_self m, by omega, s2, φ2, h2, ok.grow.wf hw1, g1.trans ok.grow, Phi.le_trans hle1 hle2, hT2, hR2, hs2.trans hs1, hD2⟩
    · rename_i hnn
      have ok := hcs m (by omega) code nt ro s1 e s' h2 hw1
      refine wpIn_mono (ok.walk φ1 (over s1.H M) a1 w1 ro' (ext_over _ _) hF1 hR1 hT1 (hs1 ▸ hnt) hD1 (hro.mono hle1)) fun x a2 w2 hp => ?_
      have hx := hp.1
      have hp' := hp.later hle1 hs1 ok.grow.next
      cases e with
      | normal => exact absurd rfl hne
      | exit id => subst hx; exact hp'
      | ret => subst hx; exact hp'

end
end Go.Ai
