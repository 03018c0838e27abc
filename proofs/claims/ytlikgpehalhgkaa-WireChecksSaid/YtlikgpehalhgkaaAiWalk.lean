/-
  One event in the model's walk; a region whose order is fixed.
-/
import Derived.Test.YtlikgpehalhgkaaAiStep
namespace Go.Ai

theorem Upon.mono {P : Program} {w : World} {f : Value} {args : Array Value} {K K' : Value → World → Prop} (h : Upon P w f args K) (hk : ∀ v w, K v w → K' v w) : Upon P w f args K' := by
  unfold Upon at *
  split at h
  · exact ⟨h.1, h.2.mono fun e w' he => by cases e <;> first | exact hk _ _ he | exact he⟩
  · obtain ⟨r, h1, h2, h3⟩ := h
    exact ⟨r, h1, h2, h3.mono fun e w' he => by cases e <;> first | exact hk _ _ he | exact he⟩
  · exact h.elim

section
variable {P : Program} {C : Ctx} {o : Orc} {φ : Phi} {M : Nat → Option AObj} {w : World} {T : Nat → Value} {ops : Array Oper} {ro : Option Nat} {nt : Nat} {Q : Exit → Act → World → Prop}

theorem trel_put {φ : Phi} {T : Nat → Value} {a : Act} {d : Option Nat} {v v' : Value} (hT : TRel φ T a.tmps) (hd : ∀ k, d = some k → k < a.tmps.size) (hv : VRel φ v v') : TRel φ (upT T d v) (a.put d v').tmps := by
  intro i
  cases d with
  | none => exact hT i
  | some d =>
    show VRel φ (if i = d then v else T i) ((a.tmps.setIfInBounds d v').getD i undef)
    have hlt := hd d rfl
    by_cases h : i = d
    · subst h
      simp [Array.getD, hlt]
      exact hv
    · rw [if_neg h]
      have := hT i
      simp only [Array.getD_eq_getD_getElem?] at this ⊢
      rw [Array.getElem?_setIfInBounds_ne (Ne.symm h)]
      exact this

theorem put_size (a : Act) (d : Option Nat) (v : Value) : (a.put d v).tmps.size = a.tmps.size := by cases d <;> simp [Act.put]
theorem put_defers (a : Act) (d : Option Nat) (v : Value) : (a.put d v).defers = a.defers := by cases d <;> rfl

theorem compOper_ok {oo : Oper} {x : IOper} (hx : x = compOper P nt ops oo) (hb : ¬ (x.op = .bad ∧ x.g = none)) :
    (∀ d, oo.dst = some d → d < nt) ∧ x.dst = oo.dst ∧ x.op = compOp P oo.op ∧
    ((oo.guard = none ∧ x.g = none) ∨ ∃ j b t, oo.guard = some (j, b) ∧ (ops[j]?).bind (·.dst) = some t ∧ x.g = some (t, b)) := by
  unfold compOper at hx
  split at hx
  · subst hx; exact absurd ⟨rfl, rfl⟩ hb
  · rename_i hd
    have hd' : ∀ d, oo.dst = some d → d < nt := fun d he => by rw [he] at hd; simpa using hd
    split at hx
    · rename_i hg; subst hx; exact ⟨hd', rfl, rfl, .inl ⟨hg, rfl⟩⟩
    · rename_i j b hg
      split at hx
      · rename_i t ht; subst hx; exact ⟨hd', rfl, rfl, .inr ⟨j, b, t, hg, ht, rfl⟩⟩
      · subst hx; exact absurd ⟨rfl, rfl⟩ hb

theorem wanted_rel {oo : Oper} {x : IOper} {b : Bool} {a : Act} (hT : TRel φ T a.tmps)
    (hg : (oo.guard = none ∧ x.g = none) ∨ ∃ j b t, oo.guard = some (j, b) ∧ (ops[j]?).bind (·.dst) = some t ∧ x.g = some (t, b)) (h : wantedA T x.g = some b) :
    Region.wanted oo (yielded ops a.tmps) = b := by
  rcases hg with ⟨h1, h2⟩ | ⟨j, c, t, h1, h2, h3⟩
  · rw [h2] at h
    simp only [wantedA, Option.some.injEq] at h
    simp [Region.wanted, h1, h]
  · rw [h3] at h
    have ht := hT t
    simp only [wantedA] at h
    simp only [Region.wanted, h1, yielded, h2, Option.bind_some]
    split at h
    · rename_i y hy
      rw [hy] at ht
      have := bool_inv ht
      simp only [Array.getD_eq_getD_getElem?] at this
      cases hh : a.tmps[t]? with
      | none => rw [hh] at this; cases this
      | some z =>
        rw [hh] at this
        simp only [Option.getD_some] at this
        subst this
        simp only [Option.some.injEq] at h
        subst h
        cases y <;> cases c <;> rfl
    · rename_i vs hy
      split at h
      · rename_i hl
        simp only [Option.some.injEq] at h
        rw [hy] at ht
        have hv : a.tmps.getD t undef = .tuple #[] := by
          generalize a.tmps.getD t undef = u at ht
          cases ht with
          | undef => simp at hl
          | absent => rfl
          | tup _ _ h2 => simp only [Array.length_toList] at hl; omega
        simp only [Array.getD_eq_getD_getElem?] at hv
        subst h
        cases hh : a.tmps[t]? with
        | none => rfl
        | some z =>
          rw [hh] at hv
          simp only [Option.getD_some] at hv
          subst hv
          rfl
      · cases h
    · cases h

theorem builtin_call {b : Builtin} {ts : Array TypeId} {xs : List Operand} {f : IOpd} {as : List IOpd} (h : compBuiltin P b ts xs = some (.call f as)) : False := by
  unfold compBuiltin at h
  split at h <;> (repeat' split at h) <;> cases h

theorem comp_call {op : Op} {f : IOpd} {as : List IOpd} (h : compOp? P op = some (.call f as)) : ∃ c g, op = .call c ∧ c.callee = .value g ∧ opd g = some f ∧ opds c.args.toList = some as := by
  unfold compOp? at h
  split at h <;> first
    | (cases h; done)
    | (obtain ⟨_, _, h⟩ := Option.map_eq_some_iff.1 h; cases h; done)
    | ((repeat' split at h) <;> first | (cases h; done) | (obtain ⟨_, _, h⟩ := Option.map_eq_some_iff.1 h; cases h; done))
    | skip
  rename_i c
  split at h
  · exact (builtin_call h).elim
  · rename_i g hg
    split at h
    · rename_i a b h1 h2
      cases h
      exact ⟨c, g, rfl, hg, h1, h2⟩
    · cases h
  · cases h

/-- A call, by what is known of the value called. -/
theorem upon_call {oo : Oper} {c : Call} {g : Operand} {a : Act} {K : Value → World → Prop} {next : Act → World → Prop} (hop : oo.op = .call c) (hcal : c.callee = .value g)
    (h : Upon P w (a.eval g) (c.args.map a.eval) K) (hK : ∀ v w, K v w → next (a.put oo.dst v) w) : oo.uponIn (fen ro) 0 P a next Q ((execOp a.eval oo).run P w) := by
  have hx : execOp a.eval oo = (Deferred.ofValue (a.eval g) (c.args.map a.eval) >>= fun d => invoke d.target d.args) := by
    simp only [execOp, hop, resolve, hcal]
  rw [hx]
  unfold Upon at h
  split at h
  · rename_i k first cap hg
    obtain ⟨h1, h2⟩ := h
    rw [hg]
    simp only [Deferred.ofValue, Sem.run_bind, Sem.run_pure, Result.andThen_ok, invoke, h1]
    rw [Oper.uponIn_enter]
    refine ⟨fen_depth ro, callsIn_fen.2 (h2.mono fun e w' he => ?_)⟩
    cases e with
    | returned v => exact hK v w' he
    | panicked ch => exact he.elim
    | outgrown => exact he.elim
  · rename_i l first cap hg
    obtain ⟨r, h1, h2, h3⟩ := h
    rw [hg]
    simp only [Deferred.ofValue, Sem.run_bind, Sem.run_pure, Result.andThen_ok, invoke, run_yield h1 h2]
    rw [Oper.uponIn_round]
    refine ⟨fen_depth ro, roundIn_fen.2 (h3.mono fun e w' he => ?_)⟩
    cases e with
    | returned v => exact hK v w' he
    | panicked ch => exact he.elim
    | outgrown => exact he.elim
  · exact h.elim

/-- One event is walked. -/
theorem ev_sound (hcall : CallsOK P C o) {i : Nat} {oo : Oper} {x : IOper} {e : Eff} {a : Act} (ho : ops[i]? = some oo) (hx : x = compOper P nt ops oo) (hok : e.ok C o x T M) (hT : TRel φ T a.tmps) (hR : R P C φ M w)
    (hnt : nt ≤ a.tmps.size) {K : Act → World → Prop}
    (hK : ∀ φ' a' w', φ.le φ' → TRel φ' (upT T x.dst e.val) a'.tmps → R P C φ' (e.mem M) w' → a'.tmps.size = a.tmps.size → a'.defers = a.defers → K a' w') :
    wpOpIn (fen ro) 0 P ops Q i K a w := by
  unfold wpOpIn
  rw [ho]
  dsimp only
  cases e with
  | skip =>
    obtain ⟨h1, h2, h3, h4⟩ := compOper_ok hx fun hb => by
      have hok : wantedA T x.g = some false := hok
      rw [hb.2] at hok
      cases hok
    rw [wanted_rel hT h4 hok]
    refine ⟨fun f _ => fen_fn ro f, ?_⟩
    rw [← h2]
    exact hK φ _ w (Phi.le_refl φ) (trel_put hT (fun k hk => Nat.lt_of_lt_of_le (h1 k (h2 ▸ hk)) hnt) .absent) hR (put_size _ _ _) (put_defers _ _ _)
  | exp nid out =>
    obtain ⟨k1, k2, k3, k4⟩ := hok
    have hnb : x.op ≠ .bad := fun hb => by rw [hb] at k3; cases k3
    obtain ⟨h1, h2, h3, h4⟩ := compOper_ok hx fun hb => hnb hb.1
    rw [wanted_rel hT h4 k1, if_pos rfl]
    have hc : compOp? P oo.op = some x.op := by
      rw [h3] at hnb ⊢
      unfold compOp at hnb ⊢
      cases hh : compOp? P oo.op with
      | none => rw [hh] at hnb; exact absurd rfl hnb
      | some y => rfl
    obtain ⟨v', w', φ', hrun, hle, hv, hR'⟩ := op_sound hc k2 (opds_of hT) hR k4 k3
    refine ⟨fun f _ => fen_fn ro f, ?_⟩
    rw [fen_round, Oper.semAt_eq _ _ _ fun c hd => by rw [hd] at hc; simp [compOp?] at hc]
    have hdst : ∀ k, x.dst = some k → k < a.tmps.size := fun k hk => Nat.lt_of_lt_of_le (h1 k (h2 ▸ hk)) hnt
    rcases hrun with hrun | ⟨hrun, rfl⟩
    · rw [hrun, Oper.uponIn_value, ← h2]
      exact hK φ' _ w' hle (trel_put (hT.mono hle) hdst hv) hR' (put_size _ _ _) (put_defers _ _ _)
    · rw [hrun, Oper.uponIn_skip, ← h2]
      exact hK φ' _ w' hle (trel_put (hT.mono hle) hdst hv) hR' (put_size _ _ _) (put_defers _ _ _)
  | call b c v =>
    obtain ⟨k1, f, as, k2, k3, ⟨k4, _⟩, k5, k6⟩ := hok
    have hnb : x.op ≠ .bad := fun hb => by rw [k2] at hb; cases hb
    obtain ⟨h1, h2, h3, h4⟩ := compOper_ok hx fun hb => hnb hb.1
    rw [wanted_rel hT h4 k1, if_pos rfl]
    have hc : compOp? P oo.op = some (.call f as) := by
      rw [← k2]
      rw [h3] at hnb ⊢
      unfold compOp at hnb ⊢
      cases hh : compOp? P oo.op with
      | none => rw [hh] at hnb; exact absurd rfl hnb
      | some y => rfl
    obtain ⟨cc, g, hop, hcal, hf, has⟩ := comp_call hc
    refine ⟨fun f _ => fen_fn ro f, ?_⟩
    rw [fen_round, Oper.semAt_eq _ _ _ fun c hd => by rw [hd] at hop; cases hop]
    have hdst : ∀ k, x.dst = some k → k < a.tmps.size := fun k hk => Nat.lt_of_lt_of_le (h1 k (h2 ▸ hk)) hnt
    have hfv := opds_of hT g f hf
    have hav := opds_rel has (opds_of hT)
    have hup := (hcall _ _ _ _ _ k3 k4).2 φ M w (a.eval g) (cc.args.map a.eval) k5 k6 hR hfv (by simpa using hav)
    exact upon_call hop hcal hup fun v' w' ⟨φ', hle, hv, hR'⟩ => by
      rw [← h2]
      exact hK φ' _ w' hle (trel_put (hT.mono hle) hdst hv) hR' (put_size _ _ _) (put_defers _ _ _)
end
end Go.Ai
