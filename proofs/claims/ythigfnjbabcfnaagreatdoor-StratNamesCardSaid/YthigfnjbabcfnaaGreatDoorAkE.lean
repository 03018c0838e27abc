/-
  The evaluator is sound: loops over functions, rounds, functions; all together.
  Closed calls: a function without parameters, run by the evaluator from an empty memory.
  More fuel does not change an answer; what is answered, as relations.
  The evaluator without fuel: what some fuel answers. It is a fixed point, and sound.
-/
import Derived.Test.YthigfnjbabcfnaaGreatDoorAkD
import Derived.Below
namespace Go.Ak

section
variable {P : Program} {C : Ctx} {o : Orc}

theorem exit_cases {e : AExit} (h : e ≠ .normal) : (∃ id, e = .exit id) ∨ e = .ret := by
  cases e with
  | normal => exact absurd rfl h
  | exit id => exact .inl ⟨id, rfl⟩
  | ret => exact .inr rfl

theorem over_at {H : AHeap} {M : Nat → Option AObj} (hw : WF H) {b : Nat} {x : AObj} (h : H.get b = some x) : over H M b = some x := by
  unfold over
  rw [if_pos (get_lt hw (by rw [h]; simp)), h]

/-- A loop's record in the world. -/
theorem loop_at {φ : Phi} {M : Nat → Option AObj} {w : World} (hR : R P C φ M w) {l : Nat} {L : ALoop} (h : M l = some (.loop L)) {loc : Loc} (hl : φ l 0 = some loc) :
    ∃ L', w.heap[loc.cb]? = some (.loop L') ∧ LoopRel P φ L L' ∧ ∀ k l', φ l k = some l' → l' = loc := by
  obtain ⟨l2, L', h1, h2, h3, h4⟩ := hR.obj _ _ h
  rw [hl] at h1
  cases h1
  exact ⟨L', h3, h4, h2⟩

/-- The record becomes another. -/
theorem loop_put {φ : Phi} {M : Nat → Option AObj} {w : World} (hR : R P C φ M w) {l : Nat} {L L2 : ALoop} (h : M l = some (.loop L)) {loc : Loc} (hl : φ l 0 = some loc) {L2' : Loop} (hrel : LoopRel P φ L2 L2') :
    R P C φ (upd M l (.loop L2)) (w.putObj loc.cb (.loop L2')) := by
  obtain ⟨L', h1, _, h3⟩ := loop_at hR h hl
  exact hR.putObj h hl h1 (fun k l' hk => by rw [h3 k l' hk]) ⟨loc, L2', hl, h3, putObj_at h1, hrel⟩

theorem range_end {φ φ' : Phi} {M : Nat → Option AObj} {a a' : Act} {w3 : World} {H3 : AHeap} {l : Nat} {loc : Loc} {L : ALoop} {T : Env} {ds : List Nat} {ro' : Option Nat} (hw3 : WF H3) (hg : H3.get l = some (.loop L)) (hb : L.state ≠ .busy)
    (hloc : φ' l 0 = some loc) (hle : φ.le φ') (hR : R P C φ' (over H3 M) w3) (hT : TRel φ' T.val a'.tmps) (hs : a'.tmps.size = a.tmps.size) (hD : DsRel φ' ds a'.defers) (v : Value) :
    rangePost (fen ro') 0 P loc.cb (Post P C φ a (L.pending.getD .normal) ⟨T, H3.put l (.loop { L with state := .exhausted }), ds⟩ M) a' (.returned v) w3 := by
  obtain ⟨L', h1, h2, h3⟩ := loop_at hR (over_at hw3 hg) hloc
  obtain ⟨e1, e2, e3, e4, e5, e6⟩ := h2
  have hR' := loop_put hR (over_at hw3 hg) hloc (L2 := { L with state := .exhausted }) (L2' := { L' with state := .exhausted }) ⟨rfl, e2, e3, e4, e5, e6⟩
  rw [← over_put _ hw3 hg (by simp)] at hR'
  refine ⟨L'.pending, _, run_endLoop h1 (by rw [e1]; exact hb), ?_⟩
  have hp : ∀ x, x = (L.pending.getD AExit.normal).exit' → Post P C φ a (L.pending.getD .normal) ⟨T, H3.put l (.loop { L with state := .exhausted }), ds⟩ M x a' (w3.putObj loc.cb (.loop { L' with state := .exhausted })) :=
    fun x hx => ⟨hx, φ', hle, hT, hR', hs, hD⟩
  generalize w3.putObj loc.cb (.loop { L' with state := .exhausted }) = W at hp ⊢
  rw [e2]
  cases hL : L.pending with
  | none => rw [hL] at hp; exact hp _ rfl
  | some e =>
    rw [hL] at hp
    rcases exit_cases (e3 e hL) with ⟨id, rfl⟩ | rfl
    · exact wpIn_exit (hp _ rfl)
    · exact wpIn_ret (hp _ rfl)

theorem fn_inv {φ : Phi} {v v' : Value} (h : VRel φ v v') (hf : isFn v = true) : ∃ k first cap, v' = .func (.func k) first cap := by
  cases h <;> simp [isFn] at hf
  exact ⟨_, _, _, rfl⟩

theorem range_ok (hcall : CallsOK P C o) (hgo : GrowOK o) {ro : Option Nat} {f : Operand} {g : IOpd} {ps : Array Tmp} {assign body : Code} {nt : Nat} {s : St} {e : AExit} {s' : St} (hf : opd f = some g) (hps : ∀ p ∈ ps, p < nt) (hw : WF s.H)
    (h : codeA C o ro (.rangeFunc g ps.toList (compCode P nt assign) (compCode P nt body)) s = some (e, s')) : CodeOK P C ro (.rangeFunc f ps assign body) nt s e s' := by
  have hgr := code_grow hgo _ _ _ _ _ h hw
  refine ⟨hgr.grow, hgr.ds, fun φ M a w ro' hE hF hR hT hnt hD hro => ?_⟩
  simp only [codeA] at h
  split at h
  · cases h
  rename_i hin
  simp only [Bool.and_eq_true] at hin
  obtain ⟨hfn, hin⟩ := hin
  split at h
  · cases h
  rename_i v H3 hc
  split at h
  · rename_i L hL
    split at h
    · cases h
    rename_i hbusy
    cases h
    refine wpIn_rangeFunc fun fn _ => ?_
    rw [fen_round]
    have hfv := opds_of hT f g hf
    obtain ⟨k, first, cap, hev⟩ := fn_inv hfv hfn
    rw [hev] at hfv
    -- what is common to both
    have main : ∀ (Ha : AHeap) (φ1 : Phi) (w1 : World) (mark : List Deferred) (ds : List Nat) (rec : Loop), WF Ha → Grow s.H Ha → φ.le φ1 → R P C φ1 (over Ha M) w1 → Fresh Ha H3 M → LoopRel P φ1 { state := .ready, pending := none, T := s.T, params := ps.toList, assign := compCode P nt assign, body := compCode P nt body } rec →
        o.call (g.val s.T.val) [.func (.yield Ha.next) #[] #[]] (Ha.push (.loop { state := .ready, pending := none, T := s.T, params := ps.toList, assign := compCode P nt assign, body := compCode P nt body })) = some (v, H3) →
        H3.get Ha.next = some (.loop L) → (Instr.enterLoop fn a.tmps ps assign body ro').run P w = .ok (w1.heap.size, mark) (w1.alloc (.loop rec)) → DsRel φ1 ds (mark ++ a.defers) →
        ∃ (l : Nat) (mark : List Deferred) (w₁ : World) (d : Deferred) (w₁' : World) (f' : FuncId) (args : Array Value) (w₂ : World),
          (Instr.enterLoop fn a.tmps ps assign body ro').run P w = .ok (l, mark) w₁ ∧ (resolve a.eval (rangeCall f l) 0).run P w₁ = .ok d w₁' ∧ (∀ f', Target.leads P w₁' d.target d.args = some f' → (fen ro').fn f') ∧
          (invoke d.target d.args).run P w₁' = .ok (.enter f' args) w₂ ∧ ((fen ro').depth.isSome = true → 1 ≤ 0) ∧
          CallsIn (fen ro') (0 - 1) P f' args w₂ (rangePost (fen ro') 0 P l (Post P C φ a (L.pending.getD .normal) ⟨s.T, H3.put Ha.next (.loop { L with state := .exhausted }), ds⟩ M) { a with defers := mark ++ a.defers }) := by
      intro Ha φ1 w1 mark ds rec hwa hga hle hR1 hFa hrec hc hL hent hds
      obtain ⟨g1, g2, g3, g4⟩ := push_spec Ha (.loop { state := .ready, pending := none, T := s.T, params := ps.toList, assign := compCode P nt assign, body := compCode P nt body }) hwa
      have hcs := hcall _ _ _ _ _ hc (g1.wf hwa)
      have hnone : over Ha M Ha.next = none := by
        unfold over
        rw [if_neg (by omega)]
        exact hFa _ (Nat.le_refl _) (by have := hcs.1.next; omega)
      obtain ⟨hle2, hR2⟩ := hR1.new hnone (o' := .loop { state := .ready, pending := none, T := s.T, params := ps.toList, assign := compCode P nt assign, body := compCode P nt body }) (.loop rec) 0 0 (fun hle2 hs2 =>
        ⟨_, rec, Phi.set_self φ1 _ 0 _, hs2, heap_alloc_self w1 _, hrec.1, hrec.2.1, hrec.2.2.1, hrec.2.2.2.1, hrec.2.2.2.2.1.mono hle2, hrec.2.2.2.2.2⟩)
      have hov : over (Ha.push (.loop { state := .ready, pending := none, T := s.T, params := ps.toList, assign := compCode P nt assign, body := compCode P nt body })) M = upd (over Ha M) Ha.next (.loop { state := .ready, pending := none, T := s.T, params := ps.toList, assign := compCode P nt assign, body := compCode P nt body }) := by
        rw [← over_over g1.next M]
        exact over_push _ hwa (ext_over _ _)
      rw [← hov] at hR2
      have hup := hcs.2 _ (over (Ha.push (.loop { state := .ready, pending := none, T := s.T, params := ps.toList, assign := compCode P nt assign, body := compCode P nt body })) M) (w1.alloc (.loop rec)) (.func (.func k) first cap) #[.func (.yield w1.heap.size) #[] #[]] (ext_over _ _) (hFa.right g1) hR2
        (hfv.mono (Phi.le_trans hle hle2)) (.cons _ _ _ _ (.yield _ _ _ _ (Phi.set_self φ1 Ha.next 0 ⟨w1.heap.size, 0, 0, 0⟩) rfl rfl) .nil)
      rcases hup with ⟨hcf, hci⟩ | ⟨hno, _⟩
      case inr => exact absurd (by simp) (hno w1.heap.size #[] #[])
      refine ⟨w1.heap.size, mark, w1.alloc (.loop rec), { target := .fn (.func k) cap, args := first ++ #[.func (.yield w1.heap.size) #[] #[]] }, w1.alloc (.loop rec), k, _, _, hent, ?_, fun f' _ => fen_fn ro' f', hcf, fen_depth ro', ?_⟩
      · simp only [resolve, hev, Deferred.ofValue, Sem.run_pure]
        simp [Act.eval]
      · refine callsIn_fen.2 (hci.mono fun e3 w3 he => ?_)
        cases e3 with
        | panicked ch => exact he.elim
        | outgrown => exact he.elim
        | returned v3 =>
          obtain ⟨φ3, hle3, _, hR3⟩ := he
          rw [over_over hcs.1.next] at hR3
          exact range_end (a := a) (a' := { a with defers := mark ++ a.defers }) (hcs.1.wf (g1.wf hwa)) hL hbusy (hle3 _ _ _ (Phi.set_self φ1 Ha.next 0 ⟨w1.heap.size, 0, 0, 0⟩)) (Phi.le_trans hle (Phi.le_trans hle2 hle3)) hR3
            (hT.mono (Phi.le_trans hle (Phi.le_trans hle2 hle3))) rfl (hds.mono (Phi.le_trans hle2 hle3)) v3
    have hparams : ∀ p ∈ ps.toList, p < nt := fun p hp => hps p (by simpa using hp)
    cases ro with
    | none =>
      dsimp only at hc hL ⊢
      cases ro' with
      | some r => exact hro.elim
      | none =>
        have g1 := push_spec s.H (.deferred true) hw
        have gl := push_spec _ (.loop { state := .ready, pending := none, T := s.T, params := ps.toList, assign := compCode P nt assign, body := compCode P nt body }) (g1.1.wf hw)
        have gc := (hcall _ _ _ _ _ hc (gl.1.wf (g1.1.wf hw))).1
        have hF3 : Fresh s.H H3 M := fun b h1 h2 => hF b h1 (by
          have : (H3.put (s.H.push (.deferred true)).next (.loop { L with state := .exhausted })).next = H3.next := rfl
          exact Nat.lt_of_lt_of_le h2 (Nat.le_of_eq this.symm))
        have hlt : s.H.next < H3.next := by
          have := gc.next
          have := gl.1.next
          have := g1.2.1
          omega
        obtain ⟨hle1, hR1⟩ := hR.new (hF3 _ (Nat.le_refl _) hlt) (o' := .deferred true) (.deferred (some [])) 0 0 (fun hle1 hs1 => ⟨_, Phi.set_self φ _ 0 _, hs1, heap_alloc_self w _⟩)
        rw [← over_push _ hw hE] at hR1
        refine main (s.H.push (.deferred true)) _ _ [{ target := .collected w.heap.size, args := #[] }] (s.H.next :: s.ds) { state := .ready, pending := none, fn, tmps := a.tmps, params := ps, assign, body, defers := w.heap.size } (g1.1.wf hw) g1.1 hle1 hR1 (fun b h1 h2 => hF3 b (Nat.le_trans g1.1.next h1) h2) ?_ hc hL ?_ ?_
        · exact ⟨rfl, rfl, by simp, rfl, hT.mono hle1, nt, hnt, hparams, rfl, rfl⟩
        · rw [run_enterLoop_outer]
          simp
        · exact ⟨⟨_, Phi.set_self φ _ 0 _, rfl⟩, hD.mono hle1⟩
    | some r =>
      dsimp only at hc hL ⊢
      cases ro' with
      | none => exact hro.elim
      | some r' =>
        have gl := push_spec s.H (.loop { state := .ready, pending := none, T := s.T, params := ps.toList, assign := compCode P nt assign, body := compCode P nt body }) hw
        have hF3 : Fresh s.H H3 M := fun b h1 h2 => hF b h1 (by
          have : (H3.put s.H.next (.loop { L with state := .exhausted })).next = H3.next := rfl
          exact Nat.lt_of_lt_of_le h2 (Nat.le_of_eq this.symm))
        obtain ⟨loc, hl1, rfl⟩ := hro
        simp only [inLoop] at hin
        split at hin
        · rename_i L0 hL0
          obtain ⟨L0', h1, _, _⟩ := loop_at hR (by rw [hE _ (get_lt hw (by rw [hL0]; simp)), hL0]) hl1
          refine main s.H φ w [] s.ds _ hw (.refl _) (Phi.le_refl φ) (by rw [over_self hE]; exact hR) hF3 ?_ hc hL (run_enterLoop_inner h1 fn a.tmps ps assign body) ?_
          · exact ⟨rfl, rfl, by simp, rfl, hT, nt, hnt, hparams, rfl, rfl⟩
          · exact hD
        · cases hin
  · cases h

/-! ### a round -/
theorem params_rel {φ : Phi} : ∀ (ps : List Nat) (vs vs' : List Value) (T : Env) (tmps : Array Value), TRel φ T.val tmps → (∀ p ∈ ps, p < tmps.size) → VsRel φ vs vs' →
    TRel φ (setParams T ps vs).val ((ps.zip vs').foldl (fun t (p, v) => t.setIfInBounds p v) tmps) ∧ ((ps.zip vs').foldl (fun t (p, v) => t.setIfInBounds p v) tmps).size = tmps.size
  | [], vs, vs', T, tmps, h, _, _ => by cases vs <;> exact ⟨h, rfl⟩
  | p :: ps, _, _, T, tmps, h, _, .nil => ⟨h, rfl⟩
  | p :: ps, _, _, T, tmps, h, hp, .cons v v' vs vs' h1 h2 => by
    have ht : TRel φ (Env.val (T.put p v)) (tmps.setIfInBounds p v') := by
      have := trel_put (a := { tmps := tmps, defers := [] }) (d := some p) h (fun k hk => by cases hk; exact hp p (by simp)) h1
      rw [← putDst_val] at this
      exact this
    obtain ⟨r1, r2⟩ := params_rel ps vs vs' (T.put p v) (tmps.setIfInBounds p v') ht (fun q hq => by rw [Array.size_setIfInBounds]; exact hp q (by simp [hq])) h2
    exact ⟨r1, by simpa using r2⟩

theorem yield_ok (hcs : CodesOK P C o) (_hgo : GrowOK o) {l : Nat} {args : List Value} {H : AHeap} {v : Value} {H' : AHeap} (h : callYield C o l args H = some (v, H')) (hw : WF H) {φ : Phi} {M : Nat → Option AObj} {w : World} {loc : Loc} {args' : Array Value}
    (hE : Ext H M) (hF : Fresh H H' M) (hR : R P C φ M w) (hl : φ l 0 = some loc) (ha : VsRel φ args args'.toList) :
    Upon P w (.func (.yield loc.cb) #[] #[]) args' fun v' w' => ∃ φ', φ.le φ' ∧ VRel φ' v v' ∧ R P C φ' (over H' M) w' := by
  unfold callYield at h
  split at h
  case h_2 => cases h
  rename_i L hL
  split at h
  case isFalse => cases h
  rename_i hst
  obtain ⟨hst, hlen⟩ := hst
  split at h
  case h_2 => cases h
  rename_i e s hc
  split at h
  case isFalse => cases h
  rename_i he
  subst he
  obtain ⟨L', h1, h2, h3⟩ := loop_at hR (by rw [hE _ (get_lt hw (by rw [hL]; simp)), hL]) hl
  obtain ⟨e1, e2, e3, e4, e5, nt, hnt, hp, hca, hcb⟩ := h2
  rw [← hca] at hc
  have ok := hcs _ _ _ _ _ _ hc hw
  unfold bodyRound at h
  split at h
  case h_2 => cases h
  rename_i L2 hL2
  split at h
  case isFalse => cases h
  rename_i hst2
  split at h
  case h_2 => cases h
  rename_i e s2 hc2
  rw [← hcb] at hc2
  have hws := ok.grow.wf hw
  obtain ⟨gp1, gp2, gp3⟩ := put_spec (.loop { L2 with state := .busy }) hws hL2 (by simp)
  have ok2 := hcs _ _ _ _ _ _ hc2 (gp1.wf hws)
  have hws2 := ok2.grow.wf (gp1.wf hws)
  have gend := endRound_grow h hws2
  have hFs : Fresh H s.H M := hF.left (gp1.trans (ok2.grow.trans gend))
  have hds : s.ds = [] := by
    obtain ⟨pre, q1, q2⟩ := ok.ds
    rw [q1, q2 (by simp)]
    rfl
  have hargs : args'.toList.length = L'.params.toList.length := by rw [← ha.length, hlen, e4]
  refine ⟨L', h1, by simpa using hargs, ?_⟩
  have hpar := params_rel L.params args args'.toList L.T L'.tmps e5 (fun p hp' => Nat.lt_of_lt_of_le (hp p hp') hnt) ha
  have hfold : (L'.params.zip (#[] ++ args')).foldl (fun tmps (t, a) => tmps.setIfInBounds t a) L'.tmps = (L.params.zip args'.toList).foldl (fun t (p, v) => t.setIfInBounds p v) L'.tmps := by
    rw [← Array.foldl_toList, Array.toList_zip, e4]
    simp
  rw [hfold]
  refine roundIn_of_wpIn (F := Fence.wide) trivial ?_
  have hwalk := ok.walk φ M { tmps := (L.params.zip args'.toList).foldl (fun t (p, v) => t.setIfInBounds p v) L'.tmps, defers := [] } w (some loc.cb) hE hFs hR hpar.1 (by rw [hpar.2]; exact hnt) trivial ⟨loc, hl, rfl⟩
  refine wpIn_mono hwalk ?_
  rintro x a1 w1 ⟨rfl, φ1, hle1, hT1, hR1, hs1, hD1⟩
  have hl1 := hle1 _ _ _ hl
  obtain ⟨L2', g1, g2, _⟩ := loop_at hR1 (over_at hws hL2) hl1
  refine ⟨_, run_beginRound g1 (by rw [g2.1]; exact hst2), ?_⟩
  have hR2 := loop_put hR1 (over_at hws hL2) hl1 (L2 := { L2 with state := .busy }) (L2' := { L2' with state := .busy }) ⟨rfl, g2.2⟩
  rw [← over_put _ hws hL2 (by simp)] at hR2
  have hFb : Fresh (s.H.put l (.loop { L2 with state := .busy })) s2.H M := fun b b1 b2 => (hF.left gend) b (Nat.le_trans (ok.grow.trans gp1).next b1) b2
  have hwalk2 := ok2.walk φ1 (over (s.H.put l (.loop { L2 with state := .busy })) M) a1 _ (some loc.cb) (ext_over _ _) (fun b b1 b2 => by unfold over; rw [if_neg (Nat.not_lt.2 b1)]; exact hFb b b1 b2) hR2 hT1 (by rw [hs1]; show nt ≤ _; rw [hpar.2]; exact hnt)
    hD1 ⟨loc, hl1, rfl⟩
  refine wpIn_mono hwalk2 ?_
  rintro x a2 w2 ⟨rfl, φ2, hle2, hT2, hR2', hs2, hD2⟩
  rw [over_over ok2.grow.next] at hR2'
  have hl2 := hle2 _ _ _ hl1
  unfold endRound at h
  split at h
  case h_2 => cases h
  rename_i L3 hL3
  split at h
  case isFalse => cases h
  obtain ⟨L3', k1, k2, _⟩ := loop_at hR2' (over_at hws2 hL3) hl2
  by_cases hn : e = .normal
  · subst hn
    simp only [if_true, Option.some.injEq, Prod.mk.injEq] at h
    obtain ⟨rfl, rfl⟩ := h
    refine ⟨_, _, run_endRound none k1, φ2, Phi.le_trans hle1 hle2, .bool true, ?_⟩
    have := loop_put hR2' (over_at hws2 hL3) hl2 (L2 := { L3 with state := .ready, pending := none }) (L2' := { L3' with state := .ready, pending := none }) ⟨rfl, rfl, by simp, k2.2.2.2⟩
    rw [← over_put _ hws2 hL3 (by simp)] at this
    exact this
  · rw [if_neg hn] at h
    simp only [Option.some.injEq, Prod.mk.injEq] at h
    obtain ⟨rfl, rfl⟩ := h
    have key : ∀ c, exitCode e = some c → ∃ v' w', (Instr.endRound loc.cb (some c)).run P w2 = .ok v' w' ∧ ∃ φ', φ.le φ' ∧ VRel φ' (.bool false) v' ∧ R P C φ' (over (s2.H.put l (.loop { L3 with state := .done, pending := some e })) M) w' := by
      intro c hcx
      refine ⟨_, _, run_endRound (some c) k1, φ2, Phi.le_trans hle1 hle2, .bool false, ?_⟩
      have := loop_put hR2' (over_at hws2 hL3) hl2 (L2 := { L3 with state := .done, pending := some e }) (L2' := { L3' with state := .done, pending := some c }) ⟨rfl, by simp [hcx], by rintro e' he'; cases he'; exact hn, k2.2.2.2⟩
      rw [← over_put _ hws2 hL3 (by simp)] at this
      exact this
    rcases exit_cases hn with ⟨id, rfl⟩ | rfl
    · exact key (.exit id) rfl
    · exact key .ret rfl

/-! ### a function -/
theorem resA_over {H : AHeap} {M : Nat → Option AObj} {T : Nat → Value} (hw : WF H) {r : IRes} {v : Value} (h : resA C T H.get r = some v) : resA C T (over H M) r = some v := by
  have hg : ∀ (a : Addr) (n : Nat) (l : List Value), loadN C H.get a n = some l → loadN C (over H M) a n = some l := fun a n l hl => by
    have hlt := get_lt hw (loadN_there hl)
    rw [loadN_congr (M := H.get) (by unfold over; rw [if_pos hlt])]
    exact hl
  cases r with
  | tmp t => exact h
  | cell1 t =>
    simp only [resA] at h ⊢
    split at h
    · rename_i a ha
      split at h
      · rename_i v0 hl; cases h; rw [hg _ _ _ hl]
      · cases h
    · cases h
  | cellN t n =>
    simp only [resA] at h ⊢
    split at h
    · rename_i a ha
      simp only [Option.map_eq_some_iff] at h
      obtain ⟨l, hl, rfl⟩ := h
      rw [hg _ _ _ hl]; rfl
    · cases h

theorem resAll_over {H : AHeap} {M : Nat → Option AObj} {T : Nat → Value} (hw : WF H) : ∀ {rs : List IRes} {vs : List Value}, resAll C T H.get rs = some vs → resAll C T (over H M) rs = some vs
  | [], vs, h => h
  | r :: rs, vs, h => by
    simp only [resAll] at h ⊢
    split at h
    · rename_i v vs1 h1 h2
      rw [resA_over hw h1, resAll_over hw h2]
      exact h
    · cases h

theorem leaves_ok {fn : Func} {tmps : Array Value} {T : Nat → Value} {irs : List IRes} {vs : List Value} {M : Nat → Option AObj} {H' : AHeap} {φ0 : Phi} (hres : compRes P fn.results.toList = some irs) (hr : resAll C T H'.get irs = some vs) :
    ∀ (ds : List Nat) (H : AHeap) (φ : Phi) (defers : List Deferred) (w : World), shut ds H = some H' → WF H → DsRel φ ds defers → R P C φ (over H M) w → TRel φ T tmps → φ0.le φ →
      LeavesInM Fence.wide 0 P fn tmps (retPost fun v' w' => ∃ φ', φ0.le φ' ∧ VRel φ' (oneOrTuple vs) v' ∧ R P C φ' (over H' M) w') defers .returning w
  | [], H, φ, [], w, h, hw, _, hR, hT, hle => by
    simp only [shut, Option.some.injEq] at h
    subst h
    obtain ⟨v', hrun, hv⟩ := results_rel hT hR hres (resAll_over hw hr)
    exact ⟨v', hrun, φ, hle, hv, hR⟩
  | [], _, _, _ :: _, _, _, _, hD, _, _, _ => hD.elim
  | _ :: _, _, _, [], _, _, _, hD, _, _, _ => hD.elim
  | d :: ds, H, φ, x :: xs, w, h, hw, hD, hR, hT, hle => by
    obtain ⟨⟨l, hl, htar⟩, hD'⟩ := hD
    simp only [shut] at h
    split at h
    case h_2 => cases h
    rename_i hd
    obtain ⟨l2, q1, q2, q3⟩ := hR.obj _ _ (over_at hw hd)
    rw [hl] at q1
    cases q1
    have hg := put_spec (.deferred false) hw hd (by simp)
    have hR' := hR.putObj (over_at hw hd) hl q3 (o' := .deferred false) (ob' := .deferred none) (fun k l' hk => by rw [q2 k l' hk]) ⟨l, hl, q2, putObj_at q3⟩
    rw [← over_put _ hw hd (by simp)] at hR'
    refine ⟨by simp, .inl ⟨l.cb, _, htar, run_takeDeferred q3, ?_⟩⟩
    exact leaves_ok hres hr ds _ φ xs _ h (hg.1.wf hw) hD' hR' hT hle

theorem ofArgs_val : ∀ (as : List Value) (i : Nat) (T : Env) (j : Nat), (ofArgs as i T).val j = if i ≤ j ∧ j < i + as.length then as.getD (j - i) undef else T.val j
  | [], i, T, j => by simp [ofArgs]; intro h1 h2; omega
  | v :: vs, i, T, j => by
    rw [ofArgs, ofArgs_val vs (i + 1) (T.put i v) j]
    have hput : Env.val (T.put i v) j = if j = i then v else T.val j := Env.val_put T i j v
    rw [hput, List.length_cons]
    by_cases h1 : j = i
    · subst h1
      rw [if_neg (by omega), if_pos rfl, if_pos (by omega), Nat.sub_self]
      rfl
    · by_cases h2 : i + 1 ≤ j ∧ j < i + 1 + vs.length
      · rw [if_pos h2, if_pos (by omega), show j - i = (j - (i + 1)) + 1 by omega]
        rfl
      · rw [if_neg h2, if_neg h1, if_neg (by omega)]

theorem args_rel {φ : Phi} {as : List Value} {args' : Array Value} (h : VsRel φ as args'.toList) (n : Nat) : TRel φ (ofArgs as 0 .empty).val (args' ++ Array.replicate n undef) := by
  intro i
  rw [ofArgs_val]
  have hl := h.length
  by_cases hi : i < as.length
  · rw [if_pos (by omega), Nat.sub_zero, Array.getD_eq_getD_getElem?, Array.getElem?_append_left (by simp at hl; omega)]
    obtain ⟨v', h1, h2⟩ := h.get (i := i) (v := as[i]) (List.getElem?_eq_getElem hi)
    rw [List.getD_eq_getElem?_getD, List.getElem?_eq_getElem hi]
    simp only [Option.getD_some]
    rw [Array.getElem?_toList] at h1
    rw [h1]
    exact h2
  · rw [if_neg (by omega)]
    rw [Env.val_empty]
    exact .undef _

theorem fn_ok (hcs : CodesOK P C o) (_hgo : GrowOK o) {k : FuncId} {fn : Func} {F : IFunc} {as : List Value} {H : AHeap} {v : Value} {H' : AHeap} (hfn : P.funcs[k]? = some fn) (hcF : compFunc P fn = some F) (h : callFn C o F as H = some (v, H')) (hw : WF H)
    {φ : Phi} {M : Nat → Option AObj} {w : World} {args' : Array Value} (hE : Ext H M) (hF : Fresh H H' M) (hR : R P C φ M w) (ha : VsRel φ as args'.toList) :
    (callFunc k args').run P w = .ok (.enter k args') w ∧ CallsIn Fence.wide 0 P k args' w (retPost fun v' w' => ∃ φ', φ.le φ' ∧ VRel φ' v v' ∧ R P C φ' (over H' M) w') := by
  unfold compFunc at hcF
  split at hcF
  case isTrue => cases hcF
  rename_i hname
  split at hcF
  case h_2 => cases hcF
  rename_i c irs hb hres
  cases hcF
  unfold callFn at h
  split at h
  case h_1 => cases h
  rename_i e s hc
  have ok := hcs _ _ _ _ _ _ hc hw
  have hws := ok.grow.wf hw
  have hex : (∃ id, e = .exit id) → False := by
    rintro ⟨id, rfl⟩
    cases h
  have h : (match shut s.ds s.H with | none => none | some H' => match resAll C s.T.val H'.get irs with | some vs => some (oneOrTuple vs, H') | none => none) = some (v, H') := by
    cases e with
    | exit id => exact (hex ⟨id, rfl⟩).elim
    | normal => exact h
    | ret => exact h
  split at h
  case h_1 => cases h
  rename_i H1 hs
  split at h
  case h_2 => cases h
  rename_i vs hvs
  cases h
  refine ⟨?_, ?_⟩
  · simp only [callFunc, Sem.run_bind]
    simp [program, Sem.run, hfn, hname, hb, Result.andThen]
  · refine callsIn_of_wp_marks hfn hb trivial ?_
    have gs := shut_grow _ _ _ hs hws
    have hwalk := ok.walk φ M { tmps := args' ++ Array.replicate (fn.ntmps - args'.size) undef, defers := [] } w none hE (hF.left gs) hR (args_rel ha _) (by simp; omega) trivial trivial
    refine wpIn_mono hwalk ?_
    rintro x a1 w1 ⟨rfl, φ1, hle1, hT1, hR1, hs1, hD1⟩
    have hl := leaves_ok (M := M) (φ0 := φ) hres hvs s.ds s.H φ1 a1.defers w1 hs hws hD1 hR1 hT1 hle1
    cases e with
    | exit id => exact (hex ⟨id, rfl⟩).elim
    | normal => exact hl
    | ret => exact hl

/-! ### all together -/
theorem codes_ok (hE : ∀ a b, C.eqb a b = true → a = b) (hmo : P.follows .mixedOrders = true) (hcall : CallsOK P C o) (hloop : LoopsOK P C o) (hgo : GrowOK o) : CodesOK P C o := by
  intro code
  induction code with
  | skip =>
    intro nt ro s e s' h hw
    simp only [compCode, codeA] at h
    cases h
    exact ⟨.refl _, ⟨[], rfl, fun _ => rfl⟩, fun φ M a w ro' hX hF hR hT hnt hD hro => wpIn_skip (.here hX hR hT hD)⟩
  | exit id =>
    intro nt ro s e s' h hw
    simp only [compCode, codeA] at h
    cases h
    exact ⟨.refl _, ⟨[], rfl, fun _ => rfl⟩, fun φ M a w ro' hX hF hR hT hnt hD hro => wpIn_exit (.here (e := .exit id) hX hR hT hD)⟩
  | ret =>
    intro nt ro s e s' h hw
    simp only [compCode, codeA] at h
    cases h
    exact ⟨.refl _, ⟨[], rfl, fun _ => rfl⟩, fun φ M a w ro' hX hF hR hT hnt hD hro => wpIn_ret (.here (e := .ret) hX hR hT hD)⟩
  | region id ops draw => intro nt ro s e s' h hw; exact region_ok hE hmo hcall hw h
  | seq a b iha ihb =>
    intro nt ro s e s' h hw
    simp only [compCode, codeA] at h
    split at h
    · rename_i s1 h1
      have ok := iha nt ro s .normal s1 h1 hw
      exact seq_ok ok (ihb nt ro s1 e s' h (ok.grow.wf hw))
    · rename_i hne
      exact seq_ok_left (iha nt ro s e s' h hw) fun hn => by subst hn; exact hne _ h
  | cond x a b iha ihb =>
    intro nt ro s e s' h hw
    simp only [compCode] at h
    split at h
    · rename_i y hy
      simp only [codeA] at h
      split at h
      · rename_i hv; exact cond_ok hy hv (iha nt ro s e s' h hw)
      · rename_i hv; exact cond_ok hy hv (ihb nt ro s e s' h hw)
      · cases h
    · simp only [codeA] at h; cases h
  | block id c ih =>
    intro nt ro s e s' h hw
    simp only [compCode, codeA] at h
    split at h
    · rename_i i s1 h1
      have ok := block_ok (id := id) (ih nt ro s (.exit i) s1 h1 hw)
      dsimp only at ok
      split at h
      · rename_i hi; cases h; rw [if_pos hi] at ok; exact ok
      · rename_i hi; cases h; rw [if_neg hi] at ok; exact ok
    · rename_i hne
      have ok := block_ok (id := id) (ih nt ro s e s' h hw)
      cases e with
      | exit i => exact absurd h (hne i s')
      | normal => exact ok
      | ret => exact ok
  | loop c ih =>
    intro nt ro s e s' h hw
    simp only [compCode, codeA] at h
    exact hloop ro c nt s e s' h hw
  | rangeFunc f ps a b _ _ =>
    intro nt ro s e s' h hw
    simp only [compCode] at h
    split at h
    · rename_i g hg
      split at h
      · rename_i hps
        exact range_ok hcall hgo hg (fun p hp => by simpa using (Array.all_eq_true_iff_forall_mem.1 hps) p hp) hw h
      · simp only [codeA] at h; cases h
    · simp only [codeA] at h; cases h
  | scope c _ => intro nt ro s e s' h hw; simp only [compCode, codeA] at h; cases h
  | label l => intro nt ro s e s' h hw; simp only [compCode, codeA] at h; cases h
  | goto l => intro nt ro s e s' h hw; simp only [compCode, codeA] at h; cases h
  | refuse y => intro nt ro s e s' h hw; simp only [compCode, codeA] at h; cases h

/-- What is known of calls. -/
def KnownOK (P : Program) (C : Ctx) : Prop := ∀ (k : FuncId) (as : List Value) (H : AHeap) (v : Value) (H' : AHeap), C.known k as H = some (v, H') → WF H →
  ∀ (φ : Phi) (M : Nat → Option AObj) (w : World) (as' : Array Value), Ext H M → Fresh H H' M → R P C φ M w → VsRel φ as as'.toList →
  ((callFunc k as').run P w = .ok (.enter k as') w ∧ CallsIn Fence.wide 0 P k as' w (retPost fun v' w' => ∃ φ', φ.le φ' ∧ VRel φ' v v' ∧ R P C φ' (over H' M) w')) ∨
  ((∀ l a b, Value.func (.yield l) a b ∉ as'.toList) ∧ ∃ v' w', (callFunc k as').run P w = .ok (.value v') w' ∧ ∃ φ', φ.le φ' ∧ VRel φ' v v' ∧ R P C φ' (over H' M) w')

def FuncsOK (P : Program) (C : Ctx) : Prop := ∀ (k : FuncId) (F : IFunc), C.funcs.get k = some F → ∃ fn, P.funcs[k]? = some fn ∧ compFunc P fn = some F

theorem calls_ok (hfuncs : FuncsOK P C) (hknown : KnownOK P C) (hcs : CodesOK P C o) (hgo : GrowOK o) : CallsOK P C { call := callA C o, loop := loopA C o } := by
  intro f args H v H' h hw
  refine ⟨callA_grow hgo h hw, fun φ M w f' args' hE hF hR hf ha => ?_⟩
  change callA C o f args H = some (v, H') at h
  unfold callA at h
  split at h
  case h_2 => cases h
  rename_i fn first captured
  split at h
  · rename_i k
    obtain ⟨a', b', rfl, h1, h2⟩ : ∃ a' b', f' = .func (.func k) a' b' ∧ VsRel φ first.toList a'.toList ∧ VsRel φ captured.toList b'.toList := by
      cases hf with | func => exact ⟨_, _, rfl, by assumption, by assumption⟩
    have hall : VsRel φ (first.toList ++ (args ++ captured.toList)) (a' ++ args' ++ b').toList := by
      simp only [Array.toList_append, List.append_assoc]
      exact h1.append (ha.append h2)
    split at h
    · rename_i r hk
      cases h
      rcases hknown k _ _ _ _ hk hw φ M w (a' ++ args' ++ b') hE hF hR hall with h | ⟨h1, h2⟩
      · exact .inl h
      · exact .inr ⟨fun l a b hm => h1 l a b (by simp [Array.mem_def.2 hm]), h2⟩
    · split at h
      · cases h
      · rename_i F hF'
        obtain ⟨fn, g1, g2⟩ := hfuncs k F hF'
        exact .inl (fn_ok hcs hgo g1 g2 h hw hE hF hR hall)
  · rename_i l
    split at h
    case isFalse => cases h
    cases hf with
    | yield _ loc _ _ hl _ _ => exact yield_ok hcs hgo h hw hE hF hR hl ha
  · cases h

theorem all_sound (hE : ∀ a b, C.eqb a b = true → a = b) (hmo : P.follows .mixedOrders = true) (hfuncs : FuncsOK P C) (hknown : KnownOK P C) : ∀ n, CallsOK P C (orc C n) ∧ CodesOK P C (orc C n) := by
  intro n
  induction n using Nat.strongRecOn with
  | _ n ih =>
    have hloop : LoopsOK P C (orc C n) := loops_ok n fun m hm => (ih m hm).2
    have hgo := all_grow (C := C) n
    have hcall : CallsOK P C (orc C n) := by
      cases n with
      | zero => intro f args H v H' h; cases h
      | succ m => exact calls_ok hfuncs hknown (ih m (Nat.lt_succ_self m)).2 (all_grow m)
    exact ⟨hcall, codes_ok hE hmo hcall hloop hgo⟩

end
end Go.Ak

namespace Go.Ak
open Go.RowKit

/-! ### a test of two objects -/
def natOptEqb : Option Nat → Option Nat → Bool
  | none, none => true
  | some a, some b => Nat.beq a b
  | _, _ => false

theorem natOptEqb_eq {a b : Option Nat} (h : natOptEqb a b = true) : a = b := by
  cases a <;> cases b <;> simp [natOptEqb] at h <;> simp [h]

def addrEqb : Option Addr → Option Addr → Bool
  | none, none => true
  | some a, some b => Nat.beq a.block b.block && (Nat.beq a.off b.off && natOptEqb a.spot b.spot)
  | _, _ => false

theorem addrEqb_eq {a b : Option Addr} (h : addrEqb a b = true) : a = b := by
  cases a with
  | none => cases b <;> simp [addrEqb] at h; rfl
  | some a => cases b with
    | none => simp [addrEqb] at h
    | some b =>
      obtain ⟨x, y, z⟩ := a
      obtain ⟨x', y', z'⟩ := b
      simp [addrEqb] at h
      obtain ⟨rfl, rfl, h⟩ := h
      rw [natOptEqb_eq h]

theorem bytesEq_eq : ∀ {a b : List UInt8}, bytesEq a b = true → a = b
  | [], [], _ => rfl
  | [], _ :: _, h => by simp [bytesEq] at h
  | _ :: _, [], h => by simp [bytesEq] at h
  | x :: r, y :: s, h => by
    simp [bytesEq] at h
    rw [bytesEq_eq h.2, UInt8.toNat_inj.1 h.1]

def kindEqb (a b : IntKind) : Bool := decide (a = b)

def valEqb : Value → Value → Bool
  | .bool a, .bool b => a == b
  | .int k n, .int l m => kindEqb k l && decide (n = m)
  | .string s, .string t => bytesEq s.data.toList t.data.toList
  | .pointer a, .pointer b => addrEqb a b
  | .slice a n c, .slice b m d => addrEqb a b && (Nat.beq n m && Nat.beq c d)
  | .map a, .map b => natOptEqb a b
  | .nilFunc, .nilFunc => true
  | .nilIface, .nilIface => true
  | .func (.func f) a b, .func (.func g) c d => Nat.beq f g && ((a.isEmpty && b.isEmpty) && (c.isEmpty && d.isEmpty))
  | _, _ => false

theorem valEqb_eq {a b : Value} (h : valEqb a b = true) : a = b := by
  unfold valEqb at h
  split at h
  · simp at h; rw [h]
  · simp [kindEqb] at h; rw [h.1, h.2]
  · rename_i s t
    obtain ⟨⟨s⟩⟩ := s
    obtain ⟨⟨t⟩⟩ := t
    rw [show s = t from bytesEq_eq h]
  · rw [addrEqb_eq h]
  · simp at h; rw [addrEqb_eq h.1, h.2.1, h.2.2]
  · rw [natOptEqb_eq h]
  · rfl
  · rfl
  · simp at h
    obtain ⟨rfl, ⟨rfl, rfl⟩, rfl, rfl⟩ := h
    rfl
  · cases h

def listEqb {α : Type} (f : α → α → Bool) : List α → List α → Bool
  | [], [] => true
  | a :: r, b :: s => f a b && listEqb f r s
  | _, _ => false

theorem listEqb_eq {α : Type} {f : α → α → Bool} (hf : ∀ a b, f a b = true → a = b) : ∀ {a b : List α}, listEqb f a b = true → a = b
  | [], [], _ => rfl
  | [], _ :: _, h => by simp [listEqb] at h
  | _ :: _, [], h => by simp [listEqb] at h
  | x :: r, y :: s, h => by
    simp [listEqb] at h
    rw [hf _ _ h.1, listEqb_eq hf h.2]

def verEqb (a b : AVer) : Bool := Nat.beq a.esz b.esz && (listEqb valEqb a.cells b.cells && natOptEqb a.ty b.ty)

theorem verEqb_eq (a b : AVer) (h : verEqb a b = true) : a = b := by
  obtain ⟨x, y, z⟩ := a
  obtain ⟨x', y', z'⟩ := b
  simp [verEqb] at h
  rw [h.1, listEqb_eq (fun _ _ => valEqb_eq) h.2.1, natOptEqb_eq h.2.2]

def objEqb : AObj → AObj → Bool
  | .raw, .raw => true
  | .cells a, .cells b => listEqb verEqb a b
  | .deferred a, .deferred b => a == b
  | .map a, .map b => listEqb (fun x y => valEqb x.1 y.1 && valEqb x.2 y.2) a b
  | _, _ => false

theorem objEqb_eq (a b : AObj) (h : objEqb a b = true) : a = b := by
  unfold objEqb at h
  split at h
  · rfl
  · rw [listEqb_eq verEqb_eq h]
  · simp at h; rw [h]
  · rw [listEqb_eq (fun x y h => by
      simp at h
      exact Prod.ext (valEqb_eq h.1) (valEqb_eq h.2)) h]
  · cases h

/-! ### the functions of a program -/
def funcsFrom (P : Program) : List Nat → Trie IFunc → Trie IFunc
  | [], t => t
  | k :: r, t => match (P.funcs[k]?).bind (compFunc P) with
    | some g => funcsFrom P r (t.put k g)
    | none => funcsFrom P r t

theorem funcsFrom_ok (P : Program) : ∀ (l : List Nat) (t : Trie IFunc), (∀ k F, t.get k = some F → ∃ fn, P.funcs[k]? = some fn ∧ compFunc P fn = some F) →
    ∀ k F, (funcsFrom P l t).get k = some F → ∃ fn, P.funcs[k]? = some fn ∧ compFunc P fn = some F
  | [], t, h => h
  | i :: r, t, h => by
    intro k F
    rw [funcsFrom]
    split
    · rename_i g hg
      refine funcsFrom_ok P r _ (fun k F hk => ?_) k F
      rw [Trie.get_put] at hk
      split at hk
      · rename_i he
        cases hk
        subst he
        simpa [Option.bind_eq_some_iff] using hg
      · exact h k F hk
    · exact funcsFrom_ok P r t h k F

/-- The context of a closed call. -/
def ctxOf (P : Program) (n : Nat) (w : World) (known : FuncId → List Value → AHeap → Option (Value × AHeap)) (kgrow : ∀ k as H v H', known k as H = some (v, H') → WF H → Grow H H') : Ctx := { funcs := funcsFrom P (List.range n) .leaf, w0 := w, known, kgrow, eqb := objEqb, old := 0 }

theorem ctxOf_funcs (P : Program) (n : Nat) (w : World) (known : FuncId → List Value → AHeap → Option (Value × AHeap)) (kgrow : ∀ k as H v H', known k as H = some (v, H') → WF H → Grow H H') : FuncsOK P (ctxOf P n w known kgrow) := funcsFrom_ok P _ .leaf (by simp)

def isTrue : Option (Value × AHeap) → Bool
  | some (.bool b, _) => b
  | _ => false

/-- The memory at the beginning: so many old blocks are named by their numbers. -/
def startHeap (B : Nat) : AHeap := { base := B, t := .leaf, cnt := 0 }

section
variable {P : Program} {C : Ctx} {φ : Phi} {M : Nat → Option AObj} {w w' : World}

/-- The relation abides where nothing old has turned. -/
theorem R.below (h : R P C φ M w) (hb : Below w.heap.size w w') : R P C φ M w' := by
  have hbl : ∀ g k l, φ g k = some l → w'.heap[l.cb]? = w.heap[l.cb]? := fun g k l hl => hb.block _ (h.bound g k l hl)
  refine ⟨hb.os.trans h.os, hb.tape.trans h.tape, hb.output.trans h.output, Nat.le_trans h.size hb.size, fun g o hM => ?_, h.inj, fun g k l hl => Nat.lt_of_lt_of_le (h.bound g k l hl) hb.size, h.dom⟩
  exact (h.obj g o hM).frame (Phi.le_refl φ) (fun _ => rfl) fun k l hl => hbl g k l hl

theorem start_wf (B : Nat) : WF (startHeap B) := fun i _ => Tab.get_leaf i

/-- **A CLOSED CALL.** -/
theorem closed_run {B : Nat} (hE : ∀ a b, C.eqb a b = true → a = b) (hmo : P.follows .mixedOrders = true) (hfuncs : FuncsOK P C) (hknown : KnownOK P C) (hw0 : C.w0 = w) (hold : C.old = B) (hB : B ≤ w.heap.size) {m : Nat} {k : FuncId}
    (hno : C.known k [] (startHeap B) = none) {H' : AHeap} (hrun : run C m k [] (startHeap B) = some (.bool true, H')) :
    (callFunc k #[]).run P w = .ok (.enter k #[]) w ∧ CallsIn Fence.wide 0 P k #[] w (retPost fun v w' => v = .bool true ∧ Below w.heap.size w w') := by
  have hg := (all_grow (C := C) m).call _ _ _ _ _ hrun (start_wf B)
  have hbase : H'.base = B := hg.base
  have hnext : B ≤ H'.next := by unfold AHeap.next; omega
  subst hw0
  generalize hwe : C.w0 = w at *
  have hup0 : ∀ (φ : Phi) (M : Nat → Option AObj), Ext (startHeap B) M → Fresh (startHeap B) H' M → R P C φ M w →
      (callFunc k #[]).run P w = .ok (.enter k #[]) w ∧ CallsIn Fence.wide 0 P k #[] w (retPost fun v' w' => ∃ φ', φ.le φ' ∧ VRel φ' (.bool true) v' ∧ R P C φ' (over H' M) w') := by
    intro φ M h1 h2 h3
    cases m with
    | zero => cases hrun
    | succ m =>
      have hs := all_sound (C := C) hE hmo hfuncs hknown m
      unfold run at hrun
      rw [show (orc C (m + 1)).call = callA C (orc C m) from rfl] at hrun
      unfold callA at hrun
      dsimp only at hrun
      rw [show (#[] : Array Value).toList ++ ([] ++ (#[] : Array Value).toList) = [] from rfl, hno] at hrun
      dsimp only at hrun
      split at hrun
      · cases hrun
      · rename_i F hF
        obtain ⟨fn, g1, g2⟩ := hfuncs k F hF
        exact fn_ok (args' := #[]) hs.2 (all_grow m) g1 g2 hrun (start_wf B) h1 h2 h3 .nil
  let M0 : Nat → Option AObj := fun b => if b < B then some .raw else if b < H'.next then none else (w.heap[b - H'.next + B]?).map .exact
  let φ0 : Phi := fun g k => if k = 0 ∧ g < B then some (idLoc g) else if k = 0 ∧ H'.next ≤ g ∧ g - H'.next + B < w.heap.size then some (idLoc (g - H'.next + B)) else none
  have hφ : ∀ g k l, φ0 g k = some l → (g < B ∧ k = 0 ∧ l = idLoc g) ∨ (k = 0 ∧ H'.next ≤ g ∧ g - H'.next + B < w.heap.size ∧ l = idLoc (g - H'.next + B)) := by
    intro g k l hl
    simp only [φ0] at hl
    split at hl
    · rename_i hc
      cases hl
      exact .inl ⟨hc.2, hc.1, rfl⟩
    · split at hl
      · rename_i hc
        cases hl
        exact .inr ⟨hc.1, hc.2.1, hc.2.2, rfl⟩
      · cases hl
  have hold0 : Old φ0 B := fun b hb => by simp only [φ0]; rw [if_pos ⟨trivial, hb⟩]
  have hR : R P C φ0 M0 w := by
    refine ⟨by rw [hwe], by rw [hwe], by rw [hwe], by rw [hwe]; exact Nat.le_refl _, fun g o hM => ?_, fun g g' o o' k k' l l' hM hM' hl hl' hcb => ?_, fun g k l hl => ?_, fun g k l hl => ?_⟩
    · simp only [M0] at hM
      split at hM
      · rename_i hlt
        cases hM
        exact ⟨by rw [hold]; exact hlt, by rw [hold]; exact hold0, by rw [hwe]⟩
      · split at hM
        · cases hM
        · rename_i hge hlt
          simp only [Option.map_eq_some_iff] at hM
          obtain ⟨ob, hob, rfl⟩ := hM
          have hsz := (Array.getElem?_eq_some_iff.1 hob).1
          refine ⟨idLoc (g - H'.next + B), ?_, hob⟩
          simp only [φ0]
          rw [if_neg (by omega), if_pos ⟨trivial, by omega, hsz⟩]
    · rcases hφ _ _ _ hl with ⟨h1, _, rfl⟩ | ⟨_, h2, _, rfl⟩ <;> rcases hφ _ _ _ hl' with ⟨g1, _, rfl⟩ | ⟨_, g2, _, rfl⟩ <;> simp [idLoc] at hcb <;> omega
    · rcases hφ _ _ _ hl with ⟨h1, _, rfl⟩ | ⟨_, h2, h3, rfl⟩
      · show g < w.heap.size
        omega
      · exact h3
    · rcases hφ _ _ _ hl with ⟨h1, _, rfl⟩ | ⟨_, h2, h3, rfl⟩
      · simp only [M0]
        rw [if_pos h1]
        simp
      · simp only [M0]
        rw [if_neg (by omega), if_neg (by omega), Array.getElem?_eq_getElem h3]
        simp
  have hst : ∀ b, b < B → (startHeap B).get b = some .raw := fun b hb => by
    unfold AHeap.get
    exact if_pos hb
  obtain ⟨h1, h2⟩ := hup0 φ0 M0 (fun b hb => by
      have hb' : b < B := hb
      rw [hst b hb']
      simp only [M0]
      rw [if_pos hb']) (fun b hb1 hb => by
      have hb2 : B ≤ b := hb1
      simp only [M0]
      rw [if_neg (by omega), if_pos hb]) hR
  refine ⟨h1, ?_⟩
  refine h2.mono fun e w' he => ?_
  cases e with
  | panicked _ => exact he
  | outgrown => exact he
  | returned v =>
    obtain ⟨φ', hle, hv, hR'⟩ := he
    refine ⟨bool_inv hv, by rw [hR'.os, hwe], by rw [hR'.tape, hwe], by rw [hR'.output, hwe], by have := hR'.size; rw [hwe] at this; exact this, fun b hb => ?_⟩
    rcases Nat.lt_or_ge b B with hbB | hbB
    · have hg : over H' M0 b = some .raw := by
        unfold over
        rw [if_pos (by omega)]
        unfold AHeap.get
        rw [hbase, if_pos hbB]
      obtain ⟨_, _, q⟩ := hR'.obj _ _ hg
      rw [q, hwe]
    · have hg : over H' M0 (b - B + H'.next) = some (.exact w.heap[b]) := by
        unfold over
        rw [if_neg (by omega)]
        simp only [M0]
        rw [if_neg (by omega), if_neg (by omega), show b - B + H'.next - H'.next + B = b by omega, Array.getElem?_eq_getElem hb]
        rfl
      obtain ⟨l, q1, q2⟩ := hR'.obj _ _ hg
      have hl0 : φ0 (b - B + H'.next) 0 = some (idLoc b) := by
        simp only [φ0]
        rw [if_neg (by omega), if_pos ⟨trivial, by omega, by omega⟩, show b - B + H'.next - H'.next + B = b by omega]
      rw [hle _ _ _ hl0] at q1
      cases q1
      rw [show (idLoc b).cb = b from rfl] at q2
      rw [q2, Array.getElem?_eq_getElem hb]

theorem calls_of_ret {k : FuncId} {args : Array Value} {K : Value → World → Prop} (h : CallsIn Fence.wide 0 P k args w (retPost K)) : Calls P k args w fun e w' => ∃ v, e = .returned v ∧ K v w' :=
  (callsIn_wide.1 h).mono fun e w' he => by
    cases e with
    | panicked _ => exact he.elim
    | outgrown => exact he.elim
    | returned v => exact ⟨v, rfl, he⟩

end
end Go.Ak

namespace Go.Ak

structure OLe (o o' : Orc) : Prop where
  call : ∀ f as H r, o.call f as H = some r → o'.call f as H = some r
  loop : ∀ ro c s r, o.loop ro c s = some r → o'.loop ro c s = some r

theorem OLe.refl (o : Orc) : OLe o o := ⟨fun _ _ _ _ h => h, fun _ _ _ _ h => h⟩
theorem OLe.trans {a b c : Orc} (h : OLe a b) (k : OLe b c) : OLe a c := ⟨fun f as H r x => k.call f as H r (h.call f as H r x), fun ro c s r x => k.loop ro c s r (h.loop ro c s r x)⟩

section
variable {C : Ctx} {o o' : Orc}

theorem stepA_mono (h : OLe o o') {x : IOper} {T : Env} {H : AHeap} {r : Env × AHeap × Info} (hh : stepA C o x T H = some r) : stepA C o' x T H = some r := by
  unfold stepA at hh ⊢
  split at hh
  · exact hh
  · exact hh
  · split at hh
    · rename_i f as hop
      split at hh
      · rename_i v H' hc
        rw [h.call _ _ _ _ hc]
        exact hh
      · cases hh
    · exact hh

theorem opsA_mono (h : OLe o o') : ∀ (xs : List IOper) (T : Env) (H : AHeap) (r : Env × AHeap), opsA C o xs T H = some r → opsA C o' xs T H = some r
  | [], _, _, _, hh => hh
  | x :: xs, T, H, r, hh => by
    simp only [opsA] at hh ⊢
    split at hh
    · rename_i T' H' i hs
      rw [stepA_mono h hs]
      exact opsA_mono h xs _ _ _ hh
    · cases hh

theorem dopsA_mono (h : OLe o o') : ∀ (es : List (Nat × IOper × List Nat)) (log : List Info) (T : Env) (H : AHeap) (r : Env × AHeap), dopsA C o es log T H = some r → dopsA C o' es log T H = some r
  | [], _, _, _, _, hh => hh
  | (_, x, un) :: es, log, T, H, r, hh => by
    simp only [dopsA] at hh ⊢
    split at hh
    · rename_i T' H' i hs
      rw [stepA_mono h hs]
      dsimp only
      split at hh
      · rename_i hf
        rw [if_pos hf]
        exact dopsA_mono h es _ _ _ _ hh
      · cases hh
    · cases hh

theorem codeA_mono (h : OLe o o') : ∀ (c : ICode) (ro : Option Nat) (s : St) (r : AExit × St), codeA C o ro c s = some r → codeA C o' ro c s = some r := by
  intro c
  induction c with
  | skip | exit _ | ret | bad => intro ro s r hh; exact hh
  | region ops =>
    intro ro s r hh
    simp only [codeA] at hh ⊢
    split at hh
    · rename_i T H ho; rw [opsA_mono h _ _ _ _ ho]; exact hh
    · cases hh
  | dregion ops =>
    intro ro s r hh
    simp only [codeA] at hh ⊢
    split at hh
    · rename_i T H ho; rw [dopsA_mono h _ _ _ _ _ ho]; exact hh
    · cases hh
  | seq a b iha ihb =>
    intro ro s r hh
    simp only [codeA] at hh ⊢
    split at hh
    · rename_i s1 h1
      rw [iha _ _ _ h1]
      exact ihb _ _ _ hh
    · rename_i hne
      cases r with
      | mk e s' =>
        rw [iha _ _ _ hh]
        cases e with
        | normal => exact absurd hh (hne _)
        | exit id => rfl
        | ret => rfl
  | cond x a b iha ihb =>
    intro ro s r hh
    simp only [codeA] at hh ⊢
    split at hh
    · exact iha _ _ _ hh
    · exact ihb _ _ _ hh
    · cases hh
  | block id c ih =>
    intro ro s r hh
    simp only [codeA] at hh ⊢
    split at hh
    · rename_i i s1 h1
      rw [ih _ _ _ h1]
      exact hh
    · rename_i hne
      cases r with
      | mk e s' =>
        rw [ih _ _ _ hh]
        cases e with
        | exit i => exact absurd hh (hne _ _)
        | normal => rfl
        | ret => rfl
  | loop c ih => intro ro s r hh; exact h.loop _ _ _ _ hh
  | rangeFunc f ps assign body _ _ =>
    intro ro s r hh
    simp only [codeA] at hh ⊢
    split at hh
    · cases hh
    · split at hh
      · cases hh
      · rename_i v H3 hc
        rw [h.call _ _ _ _ hc]
        exact hh

theorem callFn_mono (h : OLe o o') {F : IFunc} {as : List Value} {H : AHeap} {r : Value × AHeap} (hh : callFn C o F as H = some r) : callFn C o' F as H = some r := by
  unfold callFn at hh ⊢
  split at hh
  · cases hh
  · rename_i e s hc
    rw [codeA_mono h _ _ _ _ hc]
    exact hh

theorem bodyRound_mono (h : OLe o o') {l : Nat} {b : ICode} {s : St} {r : Value × AHeap} (hh : bodyRound C o l b s = some r) : bodyRound C o' l b s = some r := by
  unfold bodyRound at hh ⊢
  split at hh
  · split at hh
    · rename_i hst
      rw [if_pos hst]
      split at hh
      · rename_i e s' hc
        rw [codeA_mono h _ _ _ _ hc]
        exact hh
      · cases hh
    · cases hh
  · cases hh

theorem callYield_mono (h : OLe o o') {l : Nat} {as : List Value} {H : AHeap} {r : Value × AHeap} (hh : callYield C o l as H = some r) : callYield C o' l as H = some r := by
  unfold callYield at hh ⊢
  split at hh
  · split at hh
    · rename_i hst
      rw [if_pos hst]
      split at hh
      · rename_i e s hc
        rw [codeA_mono h _ _ _ _ hc]
        dsimp only
        split at hh
        · rename_i he
          rw [if_pos he]
          exact bodyRound_mono h hh
        · cases hh
      · cases hh
    · cases hh
  · cases hh

theorem callA_mono (h : OLe o o') {f : Value} {as : List Value} {H : AHeap} {r : Value × AHeap} (hh : callA C o f as H = some r) : callA C o' f as H = some r := by
  unfold callA at hh ⊢
  split at hh
  · split at hh
    · split at hh
      · exact hh
      · split at hh
        · cases hh
        · exact callFn_mono h hh
    · split at hh
      · rename_i he
        rw [if_pos he]
        exact callYield_mono h hh
      · cases hh
    · cases hh
  · cases hh

theorem loopA_mono (h : OLe o o') {ro : Option Nat} {c : ICode} {s : St} {r : AExit × St} (hh : loopA C o ro c s = some r) : loopA C o' ro c s = some r := by
  unfold loopA at hh ⊢
  split at hh
  · rename_i s1 h1
    rw [codeA_mono h _ _ _ _ h1]
    exact h.loop _ _ _ _ hh
  · rename_i hne
    cases r with
    | mk e s' =>
      rw [codeA_mono h _ _ _ _ hh]
      cases e with
      | normal => exact absurd hh (hne _)
      | exit id => rfl
      | ret => rfl

theorem orc_succ (C : Ctx) : ∀ n, OLe (orc C n) (orc C (n + 1))
  | 0 => ⟨fun _ _ _ _ h => (by cases h), fun _ _ _ _ h => (by cases h)⟩
  | n + 1 => ⟨fun _ _ _ _ h => callA_mono (orc_succ C n) h, fun _ _ _ _ h => loopA_mono (orc_succ C n) h⟩

theorem orc_le (C : Ctx) {n m : Nat} (h : n ≤ m) : OLe (orc C n) (orc C m) := by
  induction h with
  | refl => exact .refl _
  | step _ ih => exact ih.trans (orc_succ C _)

end
end Go.Ak

namespace Go.Ak
open Classical

section
variable (C : Ctx)

/-- All that some fuel answers. -/
noncomputable def fixO : Orc where
  call f as H := if h : ∃ r, ∃ n, (orc C n).call f as H = some r then some (Classical.choose h) else none
  loop ro c s := if h : ∃ r, ∃ n, (orc C n).loop ro c s = some r then some (Classical.choose h) else none

variable {C}

theorem fix_call {f : Value} {as : List Value} {H : AHeap} {r : Value × AHeap} : (fixO C).call f as H = some r ↔ ∃ n, (orc C n).call f as H = some r := by
  constructor
  · intro h
    simp only [fixO] at h
    split at h
    · rename_i hx
      cases h
      exact Classical.choose_spec hx
    · cases h
  · rintro ⟨n, hn⟩
    have hx : ∃ r, ∃ n, (orc C n).call f as H = some r := ⟨r, n, hn⟩
    simp only [fixO, dif_pos hx]
    obtain ⟨m, hm⟩ := Classical.choose_spec hx
    have h1 := (orc_le C (Nat.le_max_left n m)).call _ _ _ _ hn
    have h2 := (orc_le C (Nat.le_max_right n m)).call _ _ _ _ hm
    rw [h1] at h2
    exact h2.symm

theorem fix_loop {ro : Option Nat} {c : ICode} {s : St} {r : AExit × St} : (fixO C).loop ro c s = some r ↔ ∃ n, (orc C n).loop ro c s = some r := by
  constructor
  · intro h
    simp only [fixO] at h
    split at h
    · rename_i hx
      cases h
      exact Classical.choose_spec hx
    · cases h
  · rintro ⟨n, hn⟩
    have hx : ∃ r, ∃ n, (orc C n).loop ro c s = some r := ⟨r, n, hn⟩
    simp only [fixO, dif_pos hx]
    obtain ⟨m, hm⟩ := Classical.choose_spec hx
    have h1 := (orc_le C (Nat.le_max_left n m)).loop _ _ _ _ hn
    have h2 := (orc_le C (Nat.le_max_right n m)).loop _ _ _ _ hm
    rw [h1] at h2
    exact h2.symm

theorem orc_fix (n : Nat) : OLe (orc C n) (fixO C) := ⟨fun _ _ _ _ h => fix_call.2 ⟨n, h⟩, fun _ _ _ _ h => fix_loop.2 ⟨n, h⟩⟩

theorem step_fix {x : IOper} {T : Env} {H : AHeap} {r : Env × AHeap × Info} (h : stepA C (fixO C) x T H = some r) : ∃ n, stepA C (orc C n) x T H = some r := by
  unfold stepA at h
  split at h
  · cases h
  · rename_i hg; exact ⟨0, by unfold stepA; rw [hg]; exact h⟩
  · rename_i hg
    split at h
    · rename_i f as hop
      split at h
      · rename_i v H' hc
        obtain ⟨n, hn⟩ := fix_call.1 hc
        refine ⟨n, ?_⟩
        unfold stepA
        rw [hg, hop]
        dsimp only
        rw [hn]
        exact h
      · cases h
    · rename_i hop
      refine ⟨0, ?_⟩
      unfold stepA
      rw [hg]
      dsimp only
      split
      · rename_i f as hx; exact absurd hx (hop f as)
      · exact h

theorem ops_fix : ∀ (xs : List IOper) (T : Env) (H : AHeap) (r : Env × AHeap), opsA C (fixO C) xs T H = some r → ∃ n, opsA C (orc C n) xs T H = some r
  | [], _, _, _, h => ⟨0, h⟩
  | x :: xs, T, H, r, h => by
    simp only [opsA] at h
    split at h
    · rename_i T' H' i hs
      obtain ⟨n, hn⟩ := step_fix hs
      obtain ⟨m, hm⟩ := ops_fix xs _ _ _ h
      refine ⟨max n m, ?_⟩
      simp only [opsA]
      rw [stepA_mono (orc_le C (Nat.le_max_left n m)) hn]
      exact opsA_mono (orc_le C (Nat.le_max_right n m)) _ _ _ _ hm
    · cases h

theorem dops_fix : ∀ (es : List (Nat × IOper × List Nat)) (log : List Info) (T : Env) (H : AHeap) (r : Env × AHeap), dopsA C (fixO C) es log T H = some r → ∃ n, dopsA C (orc C n) es log T H = some r
  | [], _, _, _, _, h => ⟨0, h⟩
  | (_, x, un) :: es, log, T, H, r, h => by
    simp only [dopsA] at h
    split at h
    · rename_i T' H' i hs
      obtain ⟨n, hn⟩ := step_fix hs
      split at h
      · rename_i hf
        obtain ⟨m, hm⟩ := dops_fix es _ _ _ _ h
        refine ⟨max n m, ?_⟩
        simp only [dopsA]
        rw [stepA_mono (orc_le C (Nat.le_max_left n m)) hn]
        dsimp only
        rw [if_pos hf]
        exact dopsA_mono (orc_le C (Nat.le_max_right n m)) _ _ _ _ _ hm
      · cases h
    · cases h

theorem code_fix : ∀ (c : ICode) (ro : Option Nat) (s : St) (r : AExit × St), codeA C (fixO C) ro c s = some r → ∃ n, codeA C (orc C n) ro c s = some r := by
  intro c
  induction c with
  | skip | exit _ | ret | bad => intro ro s r h; exact ⟨0, h⟩
  | region ops =>
    intro ro s r h
    simp only [codeA] at h
    split at h
    · rename_i T H ho
      obtain ⟨n, hn⟩ := ops_fix _ _ _ _ ho
      exact ⟨n, by simp only [codeA]; rw [hn]; exact h⟩
    · cases h
  | dregion ops =>
    intro ro s r h
    simp only [codeA] at h
    split at h
    · rename_i T H ho
      obtain ⟨n, hn⟩ := dops_fix _ _ _ _ _ ho
      exact ⟨n, by simp only [codeA]; rw [hn]; exact h⟩
    · cases h
  | seq a b iha ihb =>
    intro ro s r h
    simp only [codeA] at h
    split at h
    · rename_i s1 h1
      obtain ⟨n, hn⟩ := iha _ _ _ h1
      obtain ⟨m, hm⟩ := ihb _ _ _ h
      refine ⟨max n m, ?_⟩
      simp only [codeA]
      rw [codeA_mono (orc_le C (Nat.le_max_left n m)) _ _ _ _ hn]
      exact codeA_mono (orc_le C (Nat.le_max_right n m)) _ _ _ _ hm
    · rename_i hne
      obtain ⟨n, hn⟩ := iha _ _ _ h
      refine ⟨n, ?_⟩
      simp only [codeA]
      rw [hn]
      obtain ⟨e, s'⟩ := r
      cases e with
      | normal => exact absurd h (hne _)
      | exit id => rfl
      | ret => rfl
  | cond x a b iha ihb =>
    intro ro s r h
    simp only [codeA] at h
    split at h
    · rename_i hv
      obtain ⟨n, hn⟩ := iha _ _ _ h
      exact ⟨n, by simp only [codeA]; rw [hv]; exact hn⟩
    · rename_i hv
      obtain ⟨n, hn⟩ := ihb _ _ _ h
      exact ⟨n, by simp only [codeA]; rw [hv]; exact hn⟩
    · cases h
  | block id c ih =>
    intro ro s r h
    simp only [codeA] at h
    split at h
    · rename_i i s1 h1
      obtain ⟨n, hn⟩ := ih _ _ _ h1
      exact ⟨n, by simp only [codeA]; rw [hn]; exact h⟩
    · rename_i hne
      obtain ⟨n, hn⟩ := ih _ _ _ h
      refine ⟨n, ?_⟩
      simp only [codeA]
      rw [hn]
      obtain ⟨e, s'⟩ := r
      cases e with
      | exit i => exact absurd h (hne _ _)
      | normal => rfl
      | ret => rfl
  | loop c ih =>
    intro ro s r h
    simp only [codeA] at h
    obtain ⟨n, hn⟩ := fix_loop.1 h
    exact ⟨n, by simp only [codeA]; exact hn⟩
  | rangeFunc f ps assign body _ _ =>
    intro ro s r h
    simp only [codeA] at h
    split at h
    · cases h
    · rename_i hin
      split at h
      · cases h
      · rename_i v H3 hc
        obtain ⟨n, hn⟩ := fix_call.1 hc
        refine ⟨n, ?_⟩
        simp only [codeA]
        rw [hin]
        dsimp only
        rw [hn]
        exact h

theorem callFn_fix {F : IFunc} {as : List Value} {H : AHeap} {r : Value × AHeap} (h : callFn C (fixO C) F as H = some r) : ∃ n, callFn C (orc C n) F as H = some r := by
  unfold callFn at h
  split at h
  · cases h
  · rename_i e s hc
    obtain ⟨n, hn⟩ := code_fix _ _ _ _ hc
    exact ⟨n, by unfold callFn; rw [hn]; exact h⟩

theorem bodyRound_fix {l : Nat} {b : ICode} {s : St} {r : Value × AHeap} (h : bodyRound C (fixO C) l b s = some r) : ∃ n, bodyRound C (orc C n) l b s = some r := by
  unfold bodyRound at h
  split at h
  · rename_i L hL
    split at h
    · rename_i hst
      split at h
      · rename_i e s' hc
        obtain ⟨n, hn⟩ := code_fix _ _ _ _ hc
        exact ⟨n, by unfold bodyRound; rw [hL]; dsimp only; rw [if_pos hst, hn]; exact h⟩
      · cases h
    · cases h
  · cases h

theorem callYield_fix {l : Nat} {as : List Value} {H : AHeap} {r : Value × AHeap} (h : callYield C (fixO C) l as H = some r) : ∃ n, callYield C (orc C n) l as H = some r := by
  unfold callYield at h
  split at h
  · rename_i L hL
    split at h
    · rename_i hst
      split at h
      · rename_i e s hc
        obtain ⟨n, hn⟩ := code_fix _ _ _ _ hc
        split at h
        · rename_i he
          obtain ⟨m, hm⟩ := bodyRound_fix h
          refine ⟨max n m, ?_⟩
          unfold callYield
          rw [hL]
          dsimp only
          rw [if_pos hst, codeA_mono (orc_le C (Nat.le_max_left n m)) _ _ _ _ hn]
          dsimp only
          rw [if_pos he]
          exact bodyRound_mono (orc_le C (Nat.le_max_right n m)) hm
        · cases h
      · cases h
    · cases h
  · cases h

/-- A call of the fixed point. -/
theorem fix_callA {f : Value} {as : List Value} {H : AHeap} {r : Value × AHeap} (h : callA C (fixO C) f as H = some r) : (fixO C).call f as H = some r := by
  have key : ∃ n, callA C (orc C n) f as H = some r := by
    unfold callA at h
    split at h
    · rename_i fn first captured
      split at h
      · rename_i k
        split at h
        · rename_i v hk
          exact ⟨0, by unfold callA; dsimp only; rw [hk]; exact h⟩
        · rename_i hk
          split at h
          · cases h
          · rename_i F hF
            obtain ⟨n, hn⟩ := callFn_fix h
            exact ⟨n, by unfold callA; dsimp only; rw [hk]; dsimp only; rw [hF]; exact hn⟩
      · rename_i l
        split at h
        · rename_i he
          obtain ⟨n, hn⟩ := callYield_fix h
          exact ⟨n, by unfold callA; dsimp only; rw [if_pos he]; exact hn⟩
        · cases h
      · cases h
    · cases h
  obtain ⟨n, hn⟩ := key
  exact fix_call.2 ⟨n + 1, hn⟩

/-- A loop of the fixed point. -/
theorem fix_loopA {ro : Option Nat} {c : ICode} {s : St} {r : AExit × St} (h : loopA C (fixO C) ro c s = some r) : (fixO C).loop ro c s = some r := by
  unfold loopA at h
  split at h
  · rename_i s1 h1
    obtain ⟨n, hn⟩ := code_fix _ _ _ _ h1
    obtain ⟨m, hm⟩ := fix_loop.1 h
    refine fix_loop.2 ⟨max n m + 1, ?_⟩
    show loopA C (orc C (max n m)) ro c s = some r
    unfold loopA
    rw [codeA_mono (orc_le C (Nat.le_max_left n m)) _ _ _ _ hn]
    exact (orc_le C (Nat.le_max_right n m)).loop _ _ _ _ hm
  · rename_i hne
    obtain ⟨n, hn⟩ := code_fix _ _ _ _ h
    refine fix_loop.2 ⟨n + 1, ?_⟩
    show loopA C (orc C n) ro c s = some r
    unfold loopA
    rw [hn]
    obtain ⟨e, s'⟩ := r
    cases e with
    | normal => exact absurd h (hne _)
    | exit id => rfl
    | ret => rfl

theorem fix_sound {P : Program} (hE : ∀ a b, C.eqb a b = true → a = b) (hmo : P.follows .mixedOrders = true) (hfuncs : FuncsOK P C) (hknown : KnownOK P C) : CallsOK P C (fixO C) := by
  intro f args H v H' h
  obtain ⟨n, hn⟩ := fix_call.1 h
  exact (all_sound hE hmo hfuncs hknown n).1 f args H v H' hn

end
end Go.Ak
