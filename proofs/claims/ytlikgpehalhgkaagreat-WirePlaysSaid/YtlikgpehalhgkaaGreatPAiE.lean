/-
  Regions: in their own order, and in whatever order.
  Code: the evaluator's way through it, and the model's walk.
  The evaluator never takes an object away.
  The evaluator is sound: what it answers, every walk of the model answers.
  The evaluator is sound: loops over functions, rounds, functions; all together.
  Closed calls: a function without parameters, run by the evaluator from an empty memory.
-/
import Derived.Test.YtlikgpehalhgkaaGreatPAiD
import Derived.Below
namespace Go.Ai

theorem over_over {H H' : AHeap} (h : H.next ≤ H'.next) (M : Nat → Option AObj) : over H' (over H M) = over H' M := by
  funext b
  unfold over
  split
  · rfl
  · rw [if_neg (by omega)]

theorem over_self {H : AHeap} {M : Nat → Option AObj} (h : Ext H M) : over H M = M := by
  funext b
  unfold over
  split
  · exact (h b (by assumption)).symm
  · rfl

theorem ext_over (H : AHeap) (M : Nat → Option AObj) : Ext H (over H M) := fun b hb => by unfold over; rw [if_pos hb]

theorem Fresh.left {H H1 H2 : AHeap} {M : Nat → Option AObj} (h : Fresh H H2 M) (g : Grow H1 H2) : Fresh H H1 M := fun b h1 h2 => h b h1 (Nat.lt_of_lt_of_le h2 g.next)
theorem Fresh.right {H H1 H2 : AHeap} {M : Nat → Option AObj} (h : Fresh H H2 M) (g : Grow H H1) : Fresh H1 H2 (over H1 M) := fun b h1 h2 => by
  unfold over
  rw [if_neg (by omega)]
  exact h b (Nat.le_trans g.next h1) h2

theorem Grow.refl (H : AHeap) : Grow H H := ⟨rfl, Nat.le_refl _, fun h => h⟩
theorem Grow.trans {a b c : AHeap} (h : Grow a b) (k : Grow b c) : Grow a c := ⟨k.base.trans h.base, Nat.le_trans h.cnt k.cnt, fun x => k.wf (h.wf x)⟩

section
variable {P : Program} {C : Ctx} {o : Orc} {ops : Array Oper} {ro : Option Nat} {nt : Nat} {Q : Exit → Act → World → Prop}

theorem CallsOK.grow (h : CallsOK P C o) : ∀ f as H v H', o.call f as H = some (v, H') → WF H → Grow H H' := fun f as H v H' hc hw => (h f as H v H' hc hw).1

theorem ops_grow (hcall : CallsOK P C o) : ∀ (xs : List IOper) (T : Env) (H : AHeap) (T' : Env) (H' : AHeap), opsA C o xs T H = some (T', H') → WF H → Grow H H'
  | [], T, H, T', H', h, _ => by simp only [opsA, Option.some.injEq, Prod.mk.injEq] at h; obtain ⟨_, rfl⟩ := h; exact .refl _
  | x :: r, T, H, T', H', h, hw => by
    simp only [opsA] at h
    split at h
    · rename_i T1 H1 i hs
      have g1 := (step_ev hcall.grow hw hs).1
      exact g1.trans (ops_grow hcall r T1 H1 T' H' h (g1.wf hw))
    · cases h

/-- What is asked behind a piece of code that has been walked. -/
def Then (P : Program) (C : Ctx) (φ : Phi) (a : Act) (T' : Nat → Value) (M' : Nat → Option AObj) (K : Act → World → Prop) : Prop :=
  ∀ φ' a' w', φ.le φ' → TRel φ' T' a'.tmps → R P C φ' M' w' → a'.tmps.size = a.tmps.size → a'.defers = a.defers → K a' w'

theorem ops_sound (hcall : CallsOK P C o) : ∀ (n k : Nat), k + n = ops.size → ∀ (T : Env) (H : AHeap) (T' : Env) (H' : AHeap) (φ : Phi) (M : Nat → Option AObj) (a : Act) (w : World),
    opsA C o ((ops.toList.drop k).map (compOper P nt ops)) T H = some (T', H') → WF H → Ext H M → Fresh H H' M → TRel φ T.val a.tmps → R P C φ M w → nt ≤ a.tmps.size →
    Then P C φ a T'.val (over H' M) (Q .normal) → wpOpsIn (fen ro) 0 P ops Q (List.range' k n) a w := by
  intro n
  induction n with
  | zero =>
    intro k hk T H T' H' φ M a w h hw hE hF hT hR hnt hK
    have : ops.toList.drop k = [] := List.drop_eq_nil_of_le (by simp; omega)
    rw [this] at h
    simp only [List.map_nil, opsA, Option.some.injEq, Prod.mk.injEq] at h
    obtain ⟨rfl, rfl⟩ := h
    rw [over_self hE] at hK
    exact hK φ a w (Phi.le_refl φ) hT hR rfl rfl
  | succ n ih =>
    intro k hk T H T' H' φ M a w h hw hE hF hT hR hnt hK
    have hlt : k < ops.toList.length := by simp; omega
    rw [List.drop_eq_getElem_cons hlt] at h
    simp only [List.map_cons, opsA] at h
    split at h
    · rename_i T1 H1 i hs
      obtain ⟨g1, hev⟩ := step_ev hcall.grow hw hs
      have g2 := ops_grow hcall _ _ _ _ _ h (g1.wf hw)
      obtain ⟨e, _, hok, hT1, hM1, _⟩ := hev M hE (hF.left g2)
      rw [List.range'_succ, wpOpsIn_cons]
      refine ev_sound hcall (nt := nt) (oo := ops.toList[k]) (by simp [Array.getElem?_eq_getElem (show k < ops.size by omega)]) rfl hok hT hR hnt fun φ' a' w' hle hT' hR' hsz hdf => ?_
      rw [← hT1] at hT'
      rw [hM1] at hR'
      refine ih (k + 1) (by omega) T1 H1 T' H' φ' (over H1 M) a' w' h (g1.wf hw) (ext_over _ _) (hF.right g1) hT' hR' (hsz ▸ hnt) fun φ2 a2 w2 hle2 hT2 hR2 hsz2 hdf2 => ?_
      rw [over_over g2.next] at hR2
      exact hK φ2 a2 w2 (Phi.le_trans hle hle2) hT2 hR2 (hsz2.trans hsz) (hdf2.trans hdf)
    · cases h

theorem region_sound (hcall : CallsOK P C o) {id : Nat} {T : Env} {H : AHeap} {T' : Env} {H' : AHeap} {φ : Phi} {M : Nat → Option AObj} {a : Act} {w : World}
    (h : opsA C o (ops.toList.map (compOper P nt ops)) T H = some (T', H')) (hw : WF H) (hE : Ext H M) (hF : Fresh H H' M) (hT : TRel φ T.val a.tmps) (hR : R P C φ M w) (hnt : nt ≤ a.tmps.size)
    (hK : Then P C φ a T'.val (over H' M) (Q .normal)) : (Code.region id ops false).wpIn (fen ro) 0 P Q a w := by
  refine wpIn_region ?_
  rw [List.range_eq_range']
  exact ops_sound hcall ops.size 0 (by omega) T H T' H' φ M a w (by simpa using h) hw hE hF hT hR hnt hK

/-! ### whatever order -/
def PairP (C : Ctx) (ms : List Nat) (k e : Ev) : Prop := k.idx ≠ e.idx ∧ ((ms.getD e.idx 0).testBit k.idx = true ∨ Free C k e)

theorem pairs_spec {ms : List Nat} {e : Nat × IOper × List Nat} : ∀ {l : List (Nat × IOper × List Nat)} {d : Nat}, pairsOK ms e d l = true → ∀ (j : Nat) (k : Nat × IOper × List Nat), l[j]? = some k → pairOK ms (d + j) k e = true
  | [], _, _, j, k, hk => by simp at hk
  | x :: r, d, h, j, k, hk => by
    simp only [pairsOK, Bool.and_eq_true] at h
    cases j with
    | zero => simp at hk; subst hk; exact h.1
    | succ j =>
      simp at hk
      have := pairs_spec h.2 j k hk
      rwa [show d + 1 + j = d + (j + 1) by omega] at this

theorem freeAll_spec {log : List Info} {i : Info} : ∀ {un : List Nat}, freeAll C log i un = true → ∀ d ∈ un, ∃ k, log[d]? = some k ∧ free C k i = true
  | [], _, d, hd => by simp at hd
  | x :: r, h, d, hd => by
    simp only [freeAll] at h
    split at h
    · rename_i k hk
      simp only [Bool.and_eq_true] at h
      rcases List.mem_cons.1 hd with rfl | hd
      · exact ⟨k, hk, h.1⟩
      · exact freeAll_spec h.2 d hd
    · cases h

theorem notIn_spec {d : Option Nat} {l : List Nat} (h : notIn d l = true) : ∀ k, d = some k → k ∉ l := by
  rintro k rfl hm
  have := List.all_eq_true.1 h k hm
  simp at this

theorem clash_spec {a b : Option Nat} (h : (!clash a b) = true) : ∀ d, a = some d → b ≠ some d := by
  rintro d rfl rfl
  simp [clash] at h

theorem pair_free {ms : List Nat} {d : Nat} {k e : Nat × IOper × List Nat} {ek ee : Ev} (h : pairOK ms d k e = true) (hk : ek.idx = k.1 ∧ ek.x = k.2.1) (he : ee.idx = e.1 ∧ ee.x = e.2.1)
    (hpk : isPure ek.x.op = true → ek.eff.info = .exp [] []) (hpe : isPure ee.x.op = true → ee.eff.info = .exp [] []) (hfree : d ∈ e.2.2 → free C ek.eff.info ee.eff.info = true) : PairP C ms ek ee := by
  simp only [pairOK, Bool.and_eq_true, Bool.or_eq_true, Bool.not_eq_true'] at h
  obtain ⟨h0, h⟩ := h
  refine ⟨(by rw [hk.1, he.1]; intro hh; rw [hh, Nat.beq_refl] at h0; cases h0), ?_⟩
  rw [hk.1, he.1]
  rcases h with h | ⟨h1, h2, h3, h4⟩
  · exact .inl h
  · refine .inr ⟨⟨?_, ?_, ?_⟩, ?_⟩
    · rw [hk.2, he.2]; exact notIn_spec h1
    · rw [hk.2, he.2]; exact notIn_spec h2
    · rw [hk.2, he.2]; exact clash_spec (by simpa using h3)
    · rcases h4 with h4 | h4 | h4
      · exact .inr (.inl (hpk (by rw [hk.2]; exact h4)))
      · exact .inr (.inr (hpe (by rw [he.2]; exact h4)))
      · refine .inl (hfree ?_)
        obtain ⟨x, hx, hb⟩ := List.any_eq_true.1 h4
        simp at hb
        rw [hb]
        exact hx

theorem dops_grow (hcall : CallsOK P C o) : ∀ (es : List (Nat × IOper × List Nat)) (log : List Info) (T : Env) (H : AHeap) (T' : Env) (H' : AHeap), dopsA C o es log T H = some (T', H') → WF H → Grow H H'
  | [], _, T, H, T', H', h, _ => by simp only [dopsA, Option.some.injEq, Prod.mk.injEq] at h; obtain ⟨_, rfl⟩ := h; exact .refl _
  | (_, x, un) :: r, log, T, H, T', H', h, hw => by
    simp only [dopsA] at h
    split at h
    · rename_i T1 H1 i hs
      have g1 := (step_ev hcall.grow hw hs).1
      split at h
      · exact g1.trans (dops_grow hcall r _ T1 H1 T' H' h (g1.wf hw))
      · cases h
    · cases h

/-- The evaluator's one order, as a row of events. -/
theorem dops_runs (hcall : CallsOK P C o) {ms : List Nat} : ∀ (es done : List (Nat × IOper × List Nat)) (past : List Ev) (log : List Info) (T : Env) (H : AHeap) (T' : Env) (H' : AHeap) (M : Nat → Option AObj),
    dopsA C o es log T H = some (T', H') → planFrom ms done es = true → past.length = done.length → (∀ (j : Nat) (p : Ev), past[j]? = some p → ∃ k, done[j]? = some k ∧ p.idx = k.1 ∧ p.x = k.2.1) → past.map (·.eff.info) = log →
    (∀ p ∈ past, isPure p.x.op = true → p.eff.info = .exp [] []) → WF H → Ext H M → Fresh H H' M →
    ∃ L : List Ev, L.length = es.length ∧ (∀ (j : Nat) (p : Ev), L[j]? = some p → ∃ k, es[j]? = some k ∧ p.idx = k.1 ∧ p.x = k.2.1) ∧ Runs C o L T.val M T'.val (over H' M) ∧ L.Pairwise (PairP C ms) ∧ ∀ k ∈ past, ∀ e ∈ L, PairP C ms k e := by
  intro es
  induction es with
  | nil =>
    intro done past log T H T' H' M h _ _ _ _ _ _ hE _
    simp only [dopsA, Option.some.injEq, Prod.mk.injEq] at h
    obtain ⟨rfl, rfl⟩ := h
    exact ⟨[], rfl, by simp, ⟨rfl, (over_self hE).symm⟩, .nil, by simp⟩
  | cons y r ih =>
    obtain ⟨i, x, un⟩ := y
    intro done past log T H T' H' M h hplan hlen hpast hlog hpure hw hE hF
    simp only [dopsA] at h
    split at h
    · rename_i T1 H1 info hs
      split at h
      · rename_i hfree
        obtain ⟨g1, hev⟩ := step_ev hcall.grow hw hs
        have g2 := dops_grow hcall _ _ _ _ _ _ h (g1.wf hw)
        obtain ⟨e, hinfo, hok, hT1, hM1, hpe⟩ := hev M hE (hF.left g2)
        simp only [planFrom, Bool.and_eq_true] at hplan
        obtain ⟨hp1, hp2⟩ := hplan
        let E : Ev := ⟨i, x, e⟩
        have hpurE : isPure E.x.op = true → E.eff.info = .exp [] [] := fun hh => by
          show e.info = _
          rw [hinfo]; exact hpe hh
        have hpastE : ∀ k ∈ past, PairP C ms k E := by
          intro k hk
          obtain ⟨j, hj⟩ := List.getElem?_of_mem hk
          obtain ⟨d, hd, hd1, hd2⟩ := hpast j k hj
          have hpo := pairs_spec hp1 j d hd
          rw [Nat.zero_add] at hpo
          refine pair_free hpo ⟨hd1, hd2⟩ ⟨rfl, rfl⟩ (hpure k hk) hpurE fun hju => ?_
          obtain ⟨ki, hki, hfr⟩ := freeAll_spec hfree j hju
          rw [← hlog] at hki
          simp only [List.getElem?_map, hj, Option.map_some, Option.some.injEq] at hki
          show free C k.eff.info e.info = true
          rw [hki, hinfo]; exact hfr
        obtain ⟨L, hL1, hL2, hL3, hL4, hL5⟩ := ih ((i, x, un) :: done) (E :: past) (info :: log) T1 H1 T' H' (over H1 M) h hp2 (by simp [hlen])
          (fun j p hj => by
            cases j with
            | zero => simp only [List.getElem?_cons_zero, Option.some.injEq] at hj ⊢; subst hj; exact ⟨_, rfl, rfl, rfl⟩
            | succ j => simp only [List.getElem?_cons_succ] at hj ⊢; exact hpast j p hj)
          (by simp only [List.map_cons, hlog]; congr 1)
          (fun p hp => by rcases List.mem_cons.1 hp with rfl | hp; exact hpurE; exact hpure p hp)
          (g1.wf hw) (ext_over _ _) (hF.right g1)
        refine ⟨E :: L, by simp [hL1], fun j p hj => ?_, ⟨hok, ?_⟩, ?_, fun k hk e' he' => ?_⟩
        · cases j with
          | zero => simp only [List.getElem?_cons_zero, Option.some.injEq] at hj ⊢; subst hj; exact ⟨_, rfl, rfl, rfl⟩
          | succ j => simp only [List.getElem?_cons_succ] at hj ⊢; exact hL2 j p hj
        · rw [over_over g2.next] at hL3
          show Runs C o L (upT T.val x.dst e.val) (e.mem M) T'.val (over H' M)
          rw [← hT1, hM1]
          exact hL3
        · exact List.pairwise_cons.2 ⟨fun e' he' => hL5 E (by simp) e' he', hL4⟩
        · rcases List.mem_cons.1 he' with rfl | he'
          · exact hpastE k hk
          · exact hL5 k (List.mem_cons_of_mem _ hk) e' he'
      · cases h
    · cases h

/-! ### the masks -/
theorem hard_binds (e : Edge) : Region.binds .any e = hard e := by
  unfold Region.binds hard
  cases e.ground <;> rfl

theorem maskOf_bit {acc : List Nat} {k : Nat} : ∀ {es : List Edge}, (maskOf acc es).testBit k = true → ∃ e ∈ es, hard e = true ∧ (k = e.on ∨ (acc.getD e.on 0).testBit k = true)
  | [], h => by simp [maskOf] at h
  | e :: r, h => by
    simp only [maskOf] at h
    split at h
    · rename_i hh
      simp only [Nat.testBit_or, Bool.or_eq_true, Nat.testBit_two_pow, decide_eq_true_eq] at h
      rcases h with (h | h) | h
      · exact ⟨e, by simp, hh, .inl h.symm⟩
      · exact ⟨e, by simp, hh, .inr h⟩
      · obtain ⟨e', h1, h2⟩ := maskOf_bit h
        exact ⟨e', List.mem_cons_of_mem _ h1, h2⟩
    · obtain ⟨e', h1, h2⟩ := maskOf_bit h
      exact ⟨e', List.mem_cons_of_mem _ h1, h2⟩

theorem masks_keep : ∀ (l : List Oper) (acc : List Nat) (i : Nat), i < acc.length → (masks l acc)[i]? = acc[i]?
  | [], _, _, _ => rfl
  | o :: r, acc, i, h => by
    simp only [masks]
    rw [masks_keep r _ i (by simp; omega), List.getElem?_append_left h]

theorem masks_at : ∀ (l : List Oper) (acc : List Nat) (j : Nat) (o : Oper), l[j]? = some o → (masks l acc)[acc.length + j]? = some (maskOf ((masks l acc).take (acc.length + j)) o.after.toList)
  | [], _, j, o, h => by simp at h
  | x :: r, acc, j, o, h => by
    simp only [masks]
    cases j with
    | zero =>
      simp at h
      subst h
      rw [Nat.add_zero, masks_keep r _ _ (by simp)]
      have : (masks r (acc ++ [maskOf acc x.after.toList])).take acc.length = acc := by
        apply List.ext_getElem?
        intro i
        rw [List.getElem?_take]
        split
        · rename_i hi
          rw [masks_keep r _ i (by simp; omega), List.getElem?_append_left hi]
        · rename_i hi
          rw [List.getElem?_eq_none (by omega)]
      rw [this]
      simp
    | succ j =>
      simp at h
      have := masks_at r (acc ++ [maskOf acc x.after.toList]) j o h
      rw [List.length_append, List.length_singleton, show acc.length + 1 + j = acc.length + (j + 1) by omega] at this
      exact this

theorem masks_bit {i k : Nat} {oo : Oper} (ho : ops[i]? = some oo) (h : ((masks ops.toList []).getD i 0).testBit k = true) :
    ∃ e ∈ oo.after, hard e = true ∧ (k = e.on ∨ ((masks ops.toList []).getD e.on 0).testBit k = true) := by
  have hm := masks_at ops.toList [] i oo (by simpa using ho)
  simp only [List.length_nil, Nat.zero_add] at hm
  rw [List.getD_eq_getElem?_getD, hm] at h
  obtain ⟨e, h1, h2, h3⟩ := maskOf_bit h
  refine ⟨e, by simpa using h1, h2, h3.imp id fun h => ?_⟩
  rw [List.getD_eq_getElem?_getD, List.getElem?_take] at h
  rw [List.getD_eq_getElem?_getD]
  split at h
  · exact h
  · simp at h

theorem edges_spec : ∀ {l : List Oper} {i : Nat}, edgesOK i l = true → ∀ (j : Nat) (oo : Oper), l[j]? = some oo → ∀ e ∈ oo.after, hard e = true → e.on < i + j
  | [], _, _, j, oo, h, _, _, _ => by simp at h
  | x :: r, i, hok, j, oo, h, e, he, hh => by
    simp only [edgesOK, Bool.and_eq_true] at hok
    cases j with
    | zero =>
      simp at h
      subst h
      have := List.all_eq_true.1 hok.1 e (by simpa using he)
      rw [hh] at this
      simpa using this
    | succ j =>
      simp at h
      have := edges_spec hok.2 j oo h e he hh
      omega

/-- All orders lead to the same end. -/
theorem any_sound (hE : ∀ a b, C.eqb a b = true → a = b) (hcall : CallsOK P C o) {ms : List Nat} (hms : ms = masks ops.toList []) (hedge : edgesOK 0 ops.toList = true) {Tf : Nat → Value} {Mf : Nat → Option AObj} :
    ∀ (fuel : Nat) (L : List Ev) (listed : Array Bool) (φ : Phi) (T : Nat → Value) (M : Nat → Option AObj) (a : Act) (w : World),
      Runs C o L T M Tf Mf → L.Pairwise (PairP C ms) → (∀ e ∈ L, ∃ oo, ops[e.idx]? = some oo ∧ e.x = compOper P nt ops oo) → listed.size = ops.size → (∀ i, i < ops.size → (listed[i]? = some false ↔ ∃ e ∈ L, e.idx = i)) →
      (∀ i k, listed[i]? = some true → (ms.getD i 0).testBit k = true → listed[k]? = some true) → L.length ≤ fuel → TRel φ T a.tmps → R P C φ M w → nt ≤ a.tmps.size →
      Then P C φ a Tf Mf (Q .normal) → wpAnyIn (fen ro) 0 P .any ops Q fuel listed a w := by
  intro fuel
  have done : ∀ (L : List Ev) (listed : Array Bool) (φ : Phi) (T : Nat → Value) (M : Nat → Option AObj) (a : Act) (w : World),
      L = [] → Runs C o L T M Tf Mf → TRel φ T a.tmps → R P C φ M w → Then P C φ a Tf Mf (Q .normal) → Q .normal a w := by
    rintro L listed φ T M a w rfl ⟨rfl, rfl⟩ hT hR hK
    exact hK φ a w (Phi.le_refl φ) hT hR rfl rfl
  induction fuel with
  | zero =>
    intro L listed φ T M a w hrun _ _ hsz hlist _ hlen hT hR _ hK
    have hL : L = [] := List.length_eq_zero_iff.1 (by omega)
    refine ⟨?_, done L listed φ T M a w hL hrun hT hR hK⟩
    rw [List.eq_nil_iff_forall_not_mem]
    intro i hi
    obtain ⟨h1, oo, h2, _⟩ := mem_ready.1 hi
    have hlt : i < ops.size := (Array.getElem?_eq_some_iff.1 h2).1
    have : listed[i]? = some false := by
      rw [Array.getD_eq_getD_getElem?] at h1
      cases hh : listed[i]? with
      | none => rw [hh] at h1; cases h1
      | some b => rw [hh] at h1; simp at h1; rw [h1]
    obtain ⟨e, he, _⟩ := (hlist i hlt).1 this
    rw [hL] at he
    cases he
  | succ fuel ih =>
    intro L listed φ T M a w hrun hpair hops hsz hlist hclosed hlen hT hR hnt hK
    refine ⟨fun hready => ?_, fun i hi => ?_⟩
    · refine done L listed φ T M a w ?_ hrun hT hR hK
      have hall : ∀ i, i < ops.size → listed[i]? = some true := by
        intro i
        induction i using Nat.strongRecOn with
        | _ i ihi =>
          intro hlt
          cases hh : listed[i]? with
          | none => rw [Array.getElem?_eq_none_iff] at hh; omega
          | some b =>
            cases b with
            | true => rfl
            | false =>
              have hmem : i ∈ Region.ready .any ops listed := by
                refine mem_ready.2 ⟨by rw [Array.getD_eq_getD_getElem?, hh]; rfl, ops[i], Array.getElem?_eq_getElem hlt, fun e he hb => ?_⟩
                rw [hard_binds] at hb
                have hon := edges_spec hedge i ops[i] (by simp [Array.getElem?_eq_getElem hlt]) e he hb
                rw [Array.getD_eq_getD_getElem?, ihi e.on (by omega) (by omega)]
                rfl
              rw [hready] at hmem
              cases hmem
      rw [List.eq_nil_iff_forall_not_mem]
      intro e he
      obtain ⟨oo, h1, _⟩ := hops e he
      have hlt := (Array.getElem?_eq_some_iff.1 h1).1
      have := (hlist e.idx hlt).2 ⟨e, he, rfl⟩
      rw [hall _ hlt] at this
      cases this
    · obtain ⟨h1, oo, h2, h3⟩ := mem_ready.1 hi
      have hlt : i < ops.size := (Array.getElem?_eq_some_iff.1 h2).1
      have hfalse : listed[i]? = some false := by
        rw [Array.getD_eq_getD_getElem?] at h1
        cases hh : listed[i]? with
        | none => rw [hh] at h1; cases h1
        | some b => rw [hh] at h1; simp at h1; rw [h1]
      obtain ⟨e, he, hei⟩ := (hlist i hlt).1 hfalse
      subst hei
      obtain ⟨pre, post, rfl⟩ := List.append_of_mem he
      have hanc : ∀ k, (ms.getD e.idx 0).testBit k = true → listed[k]? = some true := by
        intro k hk
        rw [hms] at hk
        obtain ⟨ed, g1, g2, g3⟩ := masks_bit h2 hk
        have hl : listed[ed.on]? = some true := by
          have := h3 ed g1 (by rw [hard_binds]; exact g2)
          rw [Array.getD_eq_getD_getElem?] at this
          cases hh : listed[ed.on]? with
          | none => rw [hh] at this; cases this
          | some b => rw [hh] at this; simp at this; rw [this]
        rcases g3 with rfl | g3
        · exact hl
        · exact hclosed ed.on k hl (by rw [hms]; exact g3)
      have hfree : ∀ k ∈ pre, Free C k e := by
        intro k hk
        have hp : PairP C ms k e := (List.pairwise_append.1 hpair).2.2 k hk e (by simp)
        rcases hp.2 with hb | hf
        · obtain ⟨ok, hok, _⟩ := hops k (by simp [hk])
          have hkl := (Array.getElem?_eq_some_iff.1 hok).1
          have := (hlist k.idx hkl).2 ⟨k, by simp [hk], rfl⟩
          rw [hanc _ hb] at this
          cases this
        · exact hf
      obtain ⟨hok, hrest⟩ := bubble hE pre T M hfree hrun
      obtain ⟨oo', ho', hx'⟩ := hops e he
      have hne : ∀ k ∈ pre ++ post, k.idx ≠ e.idx := by
        intro k hk
        rcases List.mem_append.1 hk with hk | hk
        · exact ((List.pairwise_append.1 hpair).2.2 k hk e (by simp)).1
        · exact Ne.symm ((List.pairwise_cons.1 (List.pairwise_append.1 hpair).2.1).1 k hk).1
      refine ev_sound hcall ho' hx' hok hT hR hnt fun φ' a' w' hle hT' hR' hs' hd' => ?_
      refine ih (pre ++ post) (listed.setIfInBounds e.idx true) φ' (e.eT T) (e.eff.mem M) a' w' hrest ?_ (fun k hk => hops k ?_) (by simp [hsz]) ?_ ?_ (by simp at hlen ⊢; omega) hT' hR' (hs' ▸ hnt) fun φ2 a2 w2 hle2 hT2 hR2 hs2 hd2 => ?_
      · rw [List.pairwise_append] at hpair ⊢
        exact ⟨hpair.1, (List.pairwise_cons.1 hpair.2.1).2, fun x hx y hy => hpair.2.2 x hx y (List.mem_cons_of_mem _ hy)⟩
      · rcases List.mem_append.1 hk with hk | hk <;> simp [hk]
      · intro j hj
        by_cases hje : j = e.idx
        · subst hje
          rw [Array.getElem?_setIfInBounds_self_of_lt (by omega)]
          constructor
          · intro h; cases h
          · rintro ⟨k, hk, hke⟩; exact absurd hke (hne k hk)
        · rw [Array.getElem?_setIfInBounds_ne (Ne.symm hje), hlist j hj]
          constructor
          · rintro ⟨k, hk, hkj⟩
            refine ⟨k, ?_, hkj⟩
            rcases List.mem_append.1 hk with hk | hk
            · simp [hk]
            · rcases List.mem_cons.1 hk with rfl | hk
              · exact absurd hkj.symm hje
              · simp [hk]
          · rintro ⟨k, hk, hkj⟩
            refine ⟨k, ?_, hkj⟩
            rcases List.mem_append.1 hk with hk | hk <;> simp [hk]
      · intro j k hj hk
        have hkt : listed[k]? = some true := by
          by_cases hje : j = e.idx
          · subst hje; exact hanc k hk
          · rw [Array.getElem?_setIfInBounds_ne (Ne.symm hje)] at hj
            exact hclosed j k hj hk
        by_cases hke : k = e.idx
        · subst hke; rw [hkt] at hfalse; cases hfalse
        · rw [Array.getElem?_setIfInBounds_ne (Ne.symm hke)]; exact hkt
      · exact hK φ2 a2 w2 (Phi.le_trans hle hle2) hT2 hR2 (hs2.trans hs') (hd2.trans hd')

theorem planOf_spec {ms : List Nat} {xs : List IOper} : ∀ {ord : List Nat} {done : List (Nat × IOper)}, ∀ e ∈ planOf ms xs ord done, xs[e.1]? = some e.2.1
  | [], _, e, h => by simp [planOf] at h
  | i :: r, done, e, h => by
    simp only [planOf] at h
    split at h
    · rename_i x hx
      rcases List.mem_cons.1 h with rfl | h
      · exact hx
      · exact planOf_spec e h
    · exact planOf_spec e h

theorem dregion_sound (hE : ∀ a b, C.eqb a b = true → a = b) (hmo : P.follows .mixedOrders = true) (hcall : CallsOK P C o) {id : Nat} {es : List (Nat × IOper × List Nat)} {T : Env} {H : AHeap} {T' : Env} {H' : AHeap} {φ : Phi}
    {M : Nat → Option AObj} {a : Act} {w : World} (hes : es = planOf (masks ops.toList []) (ops.toList.map (compOper P nt ops)) (orderOf (masks ops.toList []) (ops.toList.map (compOper P nt ops))) [])
    (hok : planOK (masks ops.toList []) (ops.toList.map (compOper P nt ops)) es = true) (hedge : edgesOK 0 ops.toList = true)
    (h : dopsA C o es [] T H = some (T', H')) (hw : WF H) (hX : Ext H M) (hF : Fresh H H' M) (hT : TRel φ T.val a.tmps) (hR : R P C φ M w) (hnt : nt ≤ a.tmps.size)
    (hK : Then P C φ a T'.val (over H' M) (Q .normal)) : (Code.region id ops true).wpIn (fen ro) 0 P Q a w := by
  refine wpIn_region_any hmo ?_
  simp only [planOK, Bool.and_eq_true] at hok
  obtain ⟨⟨hlen, hcov⟩, hplan⟩ := hok
  have hlen : es.length = ops.size := by simpa using hlen
  obtain ⟨L, hL1, hL2, hL3, hL4, _⟩ := dops_runs hcall es [] [] [] T H T' H' M h hplan rfl (by simp) rfl (by simp) hw hX hF
  have hback : ∀ (j : Nat) (k : Nat × IOper × List Nat), es[j]? = some k → ∃ p ∈ L, p.idx = k.1 := by
    intro j k hk
    have hj : j < L.length := by rw [hL1]; exact (List.getElem?_eq_some_iff.1 hk).1
    obtain ⟨k', h1, h2, _⟩ := hL2 j L[j] (List.getElem?_eq_getElem hj)
    rw [hk] at h1
    cases h1
    exact ⟨L[j], List.getElem_mem hj, h2⟩
  have hops : ∀ e ∈ L, ∃ oo, ops[e.idx]? = some oo ∧ e.x = compOper P nt ops oo := by
    intro e he
    obtain ⟨j, hj⟩ := List.getElem?_of_mem he
    obtain ⟨k, h1, h2, h3⟩ := hL2 j e hj
    have h4 : k ∈ es := List.mem_of_getElem? h1
    rw [hes] at h4
    have := planOf_spec k h4
    simp only [List.getElem?_map, Option.map_eq_some_iff] at this
    obtain ⟨oo, g1, g2⟩ := this
    exact ⟨oo, by rw [h2]; simpa using g1, by rw [h3, g2]⟩
  refine any_sound hE hcall (nt := nt) rfl hedge ops.size L _ φ T.val M a _ hL3 hL4 hops (by simp) ?_ ?_ (by omega) hT (hR.of_heap rfl rfl rfl rfl) hnt hK
  · intro i hi
    simp only [Array.getElem?_replicate, hi, if_true, true_iff]
    have := List.all_eq_true.1 hcov i (by simpa using hi)
    obtain ⟨e, he, heq⟩ := List.any_eq_true.1 this
    obtain ⟨j, hj⟩ := List.getElem?_of_mem he
    obtain ⟨p, hp, hpi⟩ := hback j e hj
    refine ⟨p, hp, ?_⟩
    rw [hpi]
    simpa using heq
  · intro i k hi
    simp [Array.getElem?_replicate] at hi

end
end Go.Ai

namespace Go.Ai

def AExit.exit' : AExit → Exit
  | .normal => .normal
  | .exit id => .exit id
  | .ret => .ret

def DsRel (φ : Phi) : List Nat → List Deferred → Prop
  | [], [] => True
  | d :: ds, x :: xs => (∃ l, φ d 0 = some l ∧ x.target = .collected l.cb) ∧ DsRel φ ds xs
  | _, _ => False

theorem DsRel.mono {φ ψ : Phi} (h : φ.le ψ) : ∀ {ds : List Nat} {xs : List Deferred}, DsRel φ ds xs → DsRel ψ ds xs
  | [], [], _ => trivial
  | _ :: _, _ :: _, ⟨⟨l, h1, h2⟩, h3⟩ => ⟨⟨l, h _ _ _ h1, h2⟩, h3.mono h⟩
  | [], _ :: _, h => h.elim
  | _ :: _, [], h => h.elim

def RoRel (φ : Phi) : Option Nat → Option Nat → Prop
  | none, none => True
  | some g, some c => ∃ l, φ g 0 = some l ∧ l.cb = c
  | _, _ => False

theorem RoRel.mono {φ ψ : Phi} (h : φ.le ψ) {a b : Option Nat} (k : RoRel φ a b) : RoRel ψ a b := by
  cases a <;> cases b <;> first | trivial | exact k.elim | exact let ⟨l, h1, h2⟩ := k; ⟨l, h _ _ _ h1, h2⟩

section
variable (P : Program) (C : Ctx)

def Post (φ : Phi) (a : Act) (e : AExit) (s' : St) (M : Nat → Option AObj) : Exit → Act → World → Prop := fun x a' w' =>
  x = e.exit' ∧ ∃ φ', φ.le φ' ∧ TRel φ' s'.T.val a'.tmps ∧ R P C φ' (over s'.H M) w' ∧ a'.tmps.size = a.tmps.size ∧ DsRel φ' s'.ds a'.defers

structure CodeOK (ro : Option Nat) (code : Code) (nt : Nat) (s : St) (e : AExit) (s' : St) : Prop where
  grow : Grow s.H s'.H
  ds : ∃ pre, s'.ds = pre ++ s.ds ∧ (ro ≠ none → pre = [])
  walk : ∀ (φ : Phi) (M : Nat → Option AObj) (a : Act) (w : World) (ro' : Option Nat), Ext s.H M → Fresh s.H s'.H M → R P C φ M w → TRel φ s.T.val a.tmps → nt ≤ a.tmps.size → DsRel φ s.ds a.defers → RoRel φ ro ro' →
    code.wpIn (fen ro') 0 P (Post P C φ a e s' M) a w

def LoopsOK (o : Orc) : Prop := ∀ (ro : Option Nat) (code : Code) (nt : Nat) (s : St) (e : AExit) (s' : St), o.loop ro (compCode P nt code) s = some (e, s') → WF s.H → CodeOK P C ro (.loop code) nt s e s'

variable {P C} {o : Orc}

theorem Post.later {φ φ1 : Phi} {a a1 : Act} {e : AExit} {s1 s' : St} {M : Nat → Option AObj} {x : Exit} {a' : Act} {w' : World} (h : Post P C φ1 a1 e s' (over s1.H M) x a' w') (hle : φ.le φ1) (hs : a1.tmps.size = a.tmps.size)
    (hn : s1.H.next ≤ s'.H.next) : Post P C φ a e s' M x a' w' := by
  obtain ⟨h1, φ', h2, h3, h4, h5, h6⟩ := h
  rw [over_over hn] at h4
  exact ⟨h1, φ', Phi.le_trans hle h2, h3, h4, h5.trans hs, h6⟩

/-- Where nothing has become of the memory. -/
theorem Post.here {φ : Phi} {a : Act} {e : AExit} {s : St} {M : Nat → Option AObj} {w : World} (hE : Ext s.H M) (hR : R P C φ M w) (hT : TRel φ s.T.val a.tmps) (hD : DsRel φ s.ds a.defers) : Post P C φ a e s M e.exit' a w :=
  ⟨rfl, φ, Phi.le_refl φ, hT, by rw [over_self hE]; exact hR, rfl, hD⟩

/-- One after the other. -/
theorem seq_ok {ro : Option Nat} {x y : Code} {nt : Nat} {s s1 : St} {e : AExit} {s' : St} (h1 : CodeOK P C ro x nt s .normal s1) (h2 : CodeOK P C ro y nt s1 e s') : CodeOK P C ro (.seq x y) nt s e s' := by
  refine ⟨h1.grow.trans h2.grow, ?_, fun φ M a w ro' hE hF hR hT hnt hD hro => ?_⟩
  · obtain ⟨p1, e1, q1⟩ := h1.ds
    obtain ⟨p2, e2, q2⟩ := h2.ds
    exact ⟨p2 ++ p1, by rw [e2, e1, List.append_assoc], fun h => by rw [q1 h, q2 h]; rfl⟩
  · refine wpIn_seq (wpIn_mono (h1.walk φ M a w ro' hE (hF.left h2.grow) hR hT hnt hD hro) ?_)
    rintro x a1 w1 ⟨rfl, φ1, hle, hT1, hR1, hs1, hD1⟩
    exact wpIn_mono (h2.walk φ1 (over s1.H M) a1 w1 ro' (ext_over _ _) (hF.right h1.grow) hR1 hT1 (hs1 ▸ hnt) hD1 (hro.mono hle)) fun x a' w' hp => hp.later hle hs1 h2.grow.next

theorem seq_ok_left {ro : Option Nat} {x y : Code} {nt : Nat} {s : St} {e : AExit} {s' : St} (h1 : CodeOK P C ro x nt s e s') (hne : e ≠ .normal) : CodeOK P C ro (.seq x y) nt s e s' := by
  refine ⟨h1.grow, h1.ds, fun φ M a w ro' hE hF hR hT hnt hD hro => ?_⟩
  refine wpIn_seq (wpIn_mono (h1.walk φ M a w ro' hE hF hR hT hnt hD hro) ?_)
  intro x a1 w1 hp
  have hx := hp.1
  cases e with
  | normal => exact absurd rfl hne
  | exit id => subst hx; exact hp
  | ret => subst hx; exact hp

theorem block_ok {ro : Option Nat} {id : Nat} {x : Code} {nt : Nat} {s : St} {e : AExit} {s' : St} (h1 : CodeOK P C ro x nt s e s') :
    CodeOK P C ro (.block id x) nt s (match e with | .exit i => if i = id then .normal else .exit i | e => e) s' := by
  refine ⟨h1.grow, h1.ds, fun φ M a w ro' hE hF hR hT hnt hD hro => ?_⟩
  refine wpIn_block (wpIn_mono (h1.walk φ M a w ro' hE hF hR hT hnt hD hro) ?_)
  intro x a1 w1 hp
  have hx := hp.1
  cases e with
  | normal => subst hx; exact hp
  | exit i =>
    subst hx
    show if i = id then _ else _
    by_cases hi : i = id
    · rw [if_pos hi]
      simp only [hi, if_true]
      exact ⟨rfl, hp.2⟩
    · rw [if_neg hi]
      simp only [hi, if_false]
      exact hp
  | ret => subst hx; exact hp

theorem cond_ok {ro : Option Nat} {c : Operand} {y : IOpd} {b : Bool} {x z : Code} {nt : Nat} {s : St} {e : AExit} {s' : St} (hc : opd c = some y) (hv : y.val s.T.val = .bool b) (h1 : CodeOK P C ro (if b then x else z) nt s e s') :
    CodeOK P C ro (.cond c x z) nt s e s' := by
  refine ⟨h1.grow, h1.ds, fun φ M a w ro' hE hF hR hT hnt hD hro => ?_⟩
  have := opds_of hT c y hc
  rw [hv] at this
  exact wpIn_cond (bool_inv this) (h1.walk φ M a w ro' hE hF hR hT hnt hD hro)

/-- A region of the evaluator. -/
theorem region_ok (hE : ∀ a b, C.eqb a b = true → a = b) (hmo : P.follows .mixedOrders = true) (hcall : CallsOK P C o) {ro : Option Nat} {id : Nat} {ops : Array Oper} {draw : Bool} {nt : Nat} {s : St} {e : AExit} {s' : St} (hw : WF s.H)
    (h : codeA C o ro (compRegion P nt ops draw) s = some (e, s')) : CodeOK P C ro (.region id ops draw) nt s e s' := by
  unfold compRegion at h
  dsimp only at h
  cases draw with
  | false =>
    simp only [Bool.false_eq_true, if_false, codeA] at h
    split at h
    · rename_i T' H' ho
      cases h
      refine ⟨ops_grow hcall _ _ _ _ _ ho hw, ⟨[], rfl, fun _ => rfl⟩, fun φ M a w ro' hX hF hR hT hnt hD hro => ?_⟩
      exact region_sound hcall ho hw hX hF hT hR hnt fun φ' a' w' hle hT' hR' hs hd => ⟨rfl, φ', hle, hT', hR', hs, by rw [hd]; exact hD.mono hle⟩
    · cases h
  | true =>
    simp only [if_true] at h
    split at h
    · rename_i hok
      simp only [Bool.and_eq_true] at hok
      simp only [codeA] at h
      split at h
      · rename_i T' H' ho
        cases h
        refine ⟨dops_grow hcall _ _ _ _ _ _ ho hw, ⟨[], rfl, fun _ => rfl⟩, fun φ M a w ro' hX hF hR hT hnt hD hro => ?_⟩
        exact dregion_sound hE hmo hcall rfl hok.1 hok.2 ho hw hX hF hT hR hnt fun φ' a' w' hle hT' hR' hs hd => ⟨rfl, φ', hle, hT', hR', hs, by rw [hd]; exact hD.mono hle⟩
      · cases h
    · simp only [codeA] at h; cases h

/-! ### a loop over a function -/
theorem push_spec (H : AHeap) (o : AObj) (hw : WF H) : Grow H (H.push o) ∧ (H.push o).next = H.next + 1 ∧ (∀ b, b < H.next → (H.push o).get b = H.get b) ∧ (H.push o).get H.next = some o := by
  obtain ⟨hg, hp⟩ := apply_spec hw (out := { v := undef, new := some o }) (by simp)
  have e : H.apply { v := undef, new := some o } = H.push o := rfl
  rw [e] at hg hp
  refine ⟨hg, rfl, fun b hb => ?_, ?_⟩
  · rw [hp]
    show upd H.get H.next o b = H.get b
    unfold upd
    rw [if_neg (by omega)]
  · rw [hp]
    show upd H.get H.next o H.next = some o
    simp [upd]

theorem put_spec {H : AHeap} {b : Nat} {x : AObj} (o : AObj) (hw : WF H) (hb : H.get b = some x) (hx : x ≠ .raw) : Grow H (H.put b o) ∧ (H.put b o).next = H.next ∧ ∀ c, (H.put b o).get c = upd H.get b o c := by
  obtain ⟨hg, hp⟩ := apply_spec hw (out := { v := undef, put := some (b, o) }) (fun c y he => by
    simp only [Option.some.injEq, Prod.mk.injEq] at he
    obtain ⟨rfl, _⟩ := he
    exact ⟨by rw [hb]; simp, by rw [hb]; simpa using hx⟩)
  exact ⟨hg, rfl, hp⟩

theorem over_push {H : AHeap} {M : Nat → Option AObj} (o : AObj) (hw : WF H) (hE : Ext H M) : over (H.push o) M = upd M H.next o := by
  obtain ⟨_, h2, h3, h4⟩ := push_spec H o hw
  funext b
  unfold over upd
  rw [h2]
  by_cases h : b = H.next
  · subst h; rw [if_pos (by omega), if_pos rfl, h4]
  · by_cases hb : b < H.next
    · rw [if_pos (by omega), if_neg h, h3 b hb, hE b hb]
    · rw [if_neg (by omega), if_neg h]

theorem over_put {H : AHeap} {M : Nat → Option AObj} {b : Nat} {x : AObj} (o : AObj) (hw : WF H) (hb : H.get b = some x) (hx : x ≠ .raw) : over (H.put b o) M = upd (over H M) b o := by
  obtain ⟨_, h2, h3⟩ := put_spec o hw hb hx
  have hlt := get_lt hw (b := b) (by rw [hb]; simp)
  funext c
  unfold over
  rw [h2, h3]
  unfold upd
  by_cases h : c = b
  · subst h; simp [hlt]
  · simp [h]

end
end Go.Ai

namespace Go.Ai

structure GrowSt (ro : Option Nat) (s s' : St) : Prop where
  grow : Grow s.H s'.H
  ds : ∃ pre, s'.ds = pre ++ s.ds ∧ (ro ≠ none → pre = [])

theorem GrowSt.refl (ro : Option Nat) (s : St) : GrowSt ro s s := ⟨.refl _, [], rfl, fun _ => rfl⟩
theorem GrowSt.trans {ro : Option Nat} {a b c : St} (h : GrowSt ro a b) (k : GrowSt ro b c) : GrowSt ro a c := by
  obtain ⟨p1, e1, q1⟩ := h.ds
  obtain ⟨p2, e2, q2⟩ := k.ds
  exact ⟨h.grow.trans k.grow, p2 ++ p1, by rw [e2, e1, List.append_assoc], fun h => by rw [q1 h, q2 h]; rfl⟩

section
variable {C : Ctx} {o : Orc}

structure GrowOK (o : Orc) : Prop where
  call : ∀ f as H v H', o.call f as H = some (v, H') → WF H → Grow H H'
  loop : ∀ ro c s e s', o.loop ro c s = some (e, s') → WF s.H → GrowSt ro s s'

theorem opsA_grow (h : GrowOK o) : ∀ (xs : List IOper) (T : Env) (H : AHeap) (T' : Env) (H' : AHeap), opsA C o xs T H = some (T', H') → WF H → Grow H H'
  | [], T, H, T', H', h, _ => by simp only [opsA, Option.some.injEq, Prod.mk.injEq] at h; obtain ⟨_, rfl⟩ := h; exact .refl _
  | x :: r, T, H, T', H', hh, hw => by
    simp only [opsA] at hh
    split at hh
    · rename_i T1 H1 i hs
      have g1 := (step_ev h.call hw hs).1
      exact g1.trans (opsA_grow h r T1 H1 T' H' hh (g1.wf hw))
    · cases hh

theorem dopsA_grow (h : GrowOK o) : ∀ (es : List (Nat × IOper × List Nat)) (log : List Info) (T : Env) (H : AHeap) (T' : Env) (H' : AHeap), dopsA C o es log T H = some (T', H') → WF H → Grow H H'
  | [], _, T, H, T', H', h, _ => by simp only [dopsA, Option.some.injEq, Prod.mk.injEq] at h; obtain ⟨_, rfl⟩ := h; exact .refl _
  | (_, x, un) :: r, log, T, H, T', H', hh, hw => by
    simp only [dopsA] at hh
    split at hh
    · rename_i T1 H1 i hs
      have g1 := (step_ev h.call hw hs).1
      split at hh
      · exact g1.trans (dopsA_grow h r _ T1 H1 T' H' hh (g1.wf hw))
      · cases hh
    · cases hh

theorem push_grow (H : AHeap) (x : AObj) (hw : WF H) : Grow H (H.push x) := (push_spec H x hw).1

theorem code_grow (h : GrowOK o) : ∀ (c : ICode) (ro : Option Nat) (s : St) (e : AExit) (s' : St), codeA C o ro c s = some (e, s') → WF s.H → GrowSt ro s s' := by
  intro c
  induction c with
  | skip => intro ro s e s' hh _; simp only [codeA] at hh; cases hh; exact .refl _ _
  | exit id => intro ro s e s' hh _; simp only [codeA] at hh; cases hh; exact .refl _ _
  | ret => intro ro s e s' hh _; simp only [codeA] at hh; cases hh; exact .refl _ _
  | bad => intro ro s e s' hh _; simp only [codeA] at hh; cases hh
  | region ops =>
    intro ro s e s' hh hw
    simp only [codeA] at hh
    split at hh
    · rename_i T H ho; cases hh; exact ⟨opsA_grow h _ _ _ _ _ ho hw, [], rfl, fun _ => rfl⟩
    · cases hh
  | dregion ops =>
    intro ro s e s' hh hw
    simp only [codeA] at hh
    split at hh
    · rename_i T H ho; cases hh; exact ⟨dopsA_grow h _ _ _ _ _ _ ho hw, [], rfl, fun _ => rfl⟩
    · cases hh
  | seq a b iha ihb =>
    intro ro s e s' hh hw
    simp only [codeA] at hh
    split at hh
    · rename_i s1 h1
      have g := iha _ _ _ _ h1 hw
      exact g.trans (ihb _ _ _ _ hh (g.grow.wf hw))
    · exact iha _ _ _ _ hh hw
  | cond x a b iha ihb =>
    intro ro s e s' hh hw
    simp only [codeA] at hh
    split at hh
    · exact iha _ _ _ _ hh hw
    · exact ihb _ _ _ _ hh hw
    · cases hh
  | block id c ih =>
    intro ro s e s' hh hw
    simp only [codeA] at hh
    split at hh
    · rename_i i s1 h1
      have g := ih _ _ _ _ h1 hw
      split at hh <;> (cases hh; exact g)
    · exact ih _ _ _ _ hh hw
  | loop c ih => intro ro s e s' hh hw; exact h.loop _ _ _ _ _ hh hw
  | rangeFunc f ps assign body _ _ =>
    intro ro s e s' hh hw
    simp only [codeA] at hh
    split at hh
    · cases hh
    · rename_i hin
      split at hh
      · cases hh
      · rename_i v H3 hc
        split at hh
        · rename_i L hL
          split at hh
          · cases hh
          · cases hh
            cases ro with
            | none =>
              dsimp only at hc hL ⊢
              have g1 := push_grow s.H (.deferred true) hw
              have g2 := push_grow _ (.loop { state := .ready, pending := none, T := s.T, params := ps, assign, body }) (g1.wf hw)
              have g3 := h.call _ _ _ _ _ hc (g2.wf (g1.wf hw))
              have g4 := (put_spec (.loop { L with state := .exhausted }) (g3.wf (g2.wf (g1.wf hw))) hL (by simp)).1
              exact ⟨((g1.trans g2).trans g3).trans g4, [s.H.next], rfl, fun h => absurd rfl h⟩
            | some r =>
              dsimp only at hc hL ⊢
              have g2 := push_grow s.H (.loop { state := .ready, pending := none, T := s.T, params := ps, assign, body }) hw
              have g3 := h.call _ _ _ _ _ hc (g2.wf hw)
              have g4 := (put_spec (.loop { L with state := .exhausted }) (g3.wf (g2.wf hw)) hL (by simp)).1
              exact ⟨(g2.trans g3).trans g4, [], rfl, fun _ => rfl⟩
        · cases hh

theorem shut_grow : ∀ (ds : List Nat) (H H' : AHeap), shut ds H = some H' → WF H → Grow H H'
  | [], H, H', h, _ => by simp only [shut, Option.some.injEq] at h; subst h; exact .refl _
  | d :: ds, H, H', h, hw => by
    simp only [shut] at h
    split at h
    · rename_i hd
      have g := (put_spec (.deferred false) hw hd (by simp)).1
      exact g.trans (shut_grow ds _ _ h (g.wf hw))
    · cases h

theorem callFn_grow (h : GrowOK o) {F : IFunc} {as : List Value} {H : AHeap} {v : Value} {H' : AHeap} (hh : callFn C o F as H = some (v, H')) (hw : WF H) : Grow H H' := by
  unfold callFn at hh
  split at hh
  · cases hh
  · rename_i e s hc
    have g := (code_grow h _ _ _ _ _ hc hw).grow
    split at hh
    · cases hh
    · split at hh
      · cases hh
      · rename_i H1 hs
        split at hh
        · cases hh; exact g.trans (shut_grow _ _ _ hs (g.wf hw))
        · cases hh

theorem endRound_grow {l : Nat} {e : AExit} {s : St} {v : Value} {H' : AHeap} (hh : endRound l e s = some (v, H')) (hw : WF s.H) : Grow s.H H' := by
  unfold endRound at hh
  split at hh
  · rename_i L hL
    split at hh
    · split at hh <;> (cases hh; exact (put_spec _ hw hL (by simp)).1)
    · cases hh
  · cases hh

theorem bodyRound_grow (h : GrowOK o) {l : Nat} {body : ICode} {s : St} {v : Value} {H' : AHeap} (hh : bodyRound C o l body s = some (v, H')) (hw : WF s.H) : Grow s.H H' := by
  unfold bodyRound at hh
  split at hh
  · rename_i L hL
    split at hh
    · split at hh
      · rename_i e s' hc
        have g1 := (put_spec (.loop { L with state := .busy }) hw hL (by simp)).1
        have g2 := (code_grow h _ _ _ _ _ hc (g1.wf hw)).grow
        exact (g1.trans g2).trans (endRound_grow hh (g2.wf (g1.wf hw)))
      · cases hh
    · cases hh
  · cases hh

theorem callYield_grow (h : GrowOK o) {l : Nat} {args : List Value} {H : AHeap} {v : Value} {H' : AHeap} (hh : callYield C o l args H = some (v, H')) (hw : WF H) : Grow H H' := by
  unfold callYield at hh
  split at hh
  · split at hh
    · split at hh
      · rename_i e s hc
        have g := (code_grow h _ _ _ _ _ hc hw).grow
        split at hh
        · exact g.trans (bodyRound_grow h hh (g.wf hw))
        · cases hh
      · cases hh
    · cases hh
  · cases hh

theorem knownA_grow {H : AHeap} {r : Value × Option (Nat × List AVer)} {v : Value} {H' : AHeap} (hh : knownA H r = some (v, H')) (hw : WF H) : Grow H H' := by
  obtain ⟨u, p⟩ := r
  cases p with
  | none => cases hh; exact .refl _
  | some q =>
    obtain ⟨b, vs⟩ := q
    simp only [knownA] at hh
    split at hh
    · rename_i x hx
      cases hh
      exact (put_spec _ hw hx (by simp)).1
    · cases hh

theorem callA_grow (h : GrowOK o) {f : Value} {args : List Value} {H : AHeap} {v : Value} {H' : AHeap} (hh : callA C o f args H = some (v, H')) (hw : WF H) : Grow H H' := by
  unfold callA at hh
  split at hh
  · split at hh
    · split at hh
      · exact knownA_grow hh hw
      · split at hh
        · cases hh
        · exact callFn_grow h hh hw
    · split at hh
      · exact callYield_grow h hh hw
      · cases hh
    · cases hh
  · cases hh

theorem all_grow : ∀ n, GrowOK (orc C n)
  | 0 => ⟨fun _ _ _ _ _ h => (by cases h), fun _ _ _ _ _ h => (by cases h)⟩
  | n + 1 => by
    have ih := all_grow n
    refine ⟨fun f as H v H' h hw => callA_grow ih h hw, fun ro c s e s' h hw => ?_⟩
    have h : loopA C (orc C n) ro c s = some (e, s') := h
    unfold loopA at h
    split at h
    · rename_i s1 h1
      have g := code_grow ih _ _ _ _ _ h1 hw
      exact g.trans (ih.loop _ _ _ _ _ h (g.grow.wf hw))
    · exact code_grow ih _ _ _ _ _ h hw

end
end Go.Ai

namespace Go.Ai

section
variable {P : Program} {C : Ctx} {o : Orc}

/-! ### the results of a function -/
def resOf (tmps : Array Value) : ResultVar → Sem Value
  | .tmp t => pure (tmps.getD t undef)
  | .cell a t => do loadVar t (← asAddr (tmps.getD a undef))

theorem mapM_run {α β : Type} {f : α → Sem β} {w : World} {r : α} {rs : List α} {v : β} {vs : List β} (h1 : (f r).run P w = .ok v w) (h2 : (rs.mapM f).run P w = .ok vs w) : ((r :: rs).mapM f).run P w = .ok (v :: vs) w := by
  simp [List.mapM_cons, h1, h2]

theorem resA_rel {φ : Phi} {M : Nat → Option AObj} {w : World} {T : Nat → Value} {tmps : Array Value} (hT : TRel φ T tmps) (h : R P C φ M w) : ∀ {rs : List ResultVar} {irs : List IRes} {vs : List Value}, compRes P rs = some irs → resAll C T M irs = some vs →
    ∃ vs', (rs.mapM (resOf tmps)).run P w = .ok vs' w ∧ VsRel φ vs vs'
  | [], irs, vs, hc, hr => by
    simp only [compRes, Option.some.injEq] at hc
    subst hc
    simp only [resAll, Option.some.injEq] at hr
    subst hr
    exact ⟨[], by simp, .nil⟩
  | .tmp t :: rs, irs, vs, hc, hr => by
    simp only [compRes, Option.map_eq_some_iff] at hc
    obtain ⟨irs', hc', rfl⟩ := hc
    simp only [resAll, resA] at hr
    split at hr
    · rename_i v vs1 h1 h2
      cases h1
      cases hr
      obtain ⟨vs', hrun, hrel⟩ := resA_rel hT h hc' h2
      exact ⟨tmps.getD t undef :: vs', mapM_run (Sem.run_pure _ _ _) hrun, .cons _ _ _ _ (hT t) hrel⟩
    · cases hr
  | .cell a t :: rs, irs, vs, hc, hr => by
    simp only [compRes] at hc
    split at hc
    · rename_i n irs' hb hn hc'
      cases hc
      simp only [resAll] at hr
      split at hr
      · rename_i v vs1 h1 h2
        cases hr
        simp only [resA] at h1
        split at h1
        · rename_i ad had
          simp only [Option.map_eq_some_iff] at h1
          obtain ⟨l, hl, rfl⟩ := h1
          have hv := hT a
          rw [asCell_inv had] at hv
          obtain ⟨a', e1, e2⟩ := ptr_inv hv
          obtain ⟨_, xs', _, _, hx, hrun1⟩ := loadN_rel h e2 hl
          obtain ⟨vs', hrun, hrel⟩ := resA_rel hT h hc' h2
          exact ⟨.agg xs'.toArray :: vs', mapM_run (by simp only [resOf, e1]; simp [asAddr, loadVar, run_isAgg hb, run_sizeOf hn, hrun1]) hrun, .cons _ _ _ _ (.agg _ _ (by simpa using hx)) hrel⟩
        · cases h1
      · cases hr
    · rename_i n irs' hb hn hc'
      cases hc
      simp only [resAll] at hr
      split at hr
      · rename_i v vs1 h1 h2
        cases hr
        simp only [resA] at h1
        split at h1
        · rename_i ad had
          split at h1
          · rename_i v0 hl
            cases h1
            have hv := hT a
            rw [asCell_inv had] at hv
            obtain ⟨a', e1, e2⟩ := ptr_inv hv
            obtain ⟨_, xs', hcell, _, hx, _⟩ := loadN_rel h e2 hl
            obtain ⟨v', p, q⟩ := hx.get (i := 0) (v := v) rfl
            have hc0 := hcell 0 v' p
            rw [show a'.add 0 = a' from by simp [Addr.add]] at hc0
            obtain ⟨vs', hrun, hrel⟩ := resA_rel hT h hc' h2
            exact ⟨v' :: vs', mapM_run (by simp only [resOf, e1]; simp [asAddr, loadVar, run_isAgg hb, hc0]) hrun, .cons _ _ _ _ q hrel⟩
          · cases h1
        · cases h1
      · cases hr
    · cases hc

theorem oneOrTuple_rel {φ : Phi} {vs vs' : List Value} (h : VsRel φ vs vs') : VRel φ (oneOrTuple vs) (if h : vs'.toArray.size = 1 then vs'.toArray[0] else .tuple vs'.toArray) := by
  cases h with
  | nil => exact .undef _
  | cons v v' r r' h1 h2 =>
    cases h2 with
    | nil => exact h1
    | cons u u' r2 r2' h3 h4 => exact .tup _ _ (by simp) (.cons _ _ _ _ h1 (.cons _ _ _ _ h3 h4))

theorem results_rel {φ : Phi} {M : Nat → Option AObj} {w : World} {T : Nat → Value} {tmps : Array Value} (hT : TRel φ T tmps) (h : R P C φ M w) {fn : Func} {irs : List IRes} {vs : List Value} (hc : compRes P fn.results.toList = some irs)
    (hr : resAll C T M irs = some vs) : ∃ v', (results fn tmps).run P w = .ok v' w ∧ VRel φ (oneOrTuple vs) v' := by
  obtain ⟨vs', hrun, hrel⟩ := resA_rel hT h hc hr
  refine ⟨_, ?_, oneOrTuple_rel hrel⟩
  have e : results fn tmps = (do let vs ← fn.results.mapM (resOf tmps); pure (if h : vs.size = 1 then vs[0] else .tuple vs)) := by
    unfold results
    congr 1
  rw [e, Array.mapM_eq_mapM_toList]
  simp only [bind_map_left, Sem.run_bind]
  rw [hrun]
  rfl

/-! ### a loop -/
theorem least {p : Nat → Prop} : ∀ n, p n → ∃ n, p n ∧ ∀ m, p m → n ≤ m := by
  intro n
  induction n using Nat.strongRecOn with
  | _ n ih =>
    intro hn
    by_cases h : ∃ m, m < n ∧ p m
    · obtain ⟨m, h1, h2⟩ := h
      exact ih m h1 h2
    · exact ⟨n, hn, fun m hm => by
        rcases Nat.lt_or_ge m n with h' | h'
        · exact absurd ⟨m, h', hm⟩ h
        · exact h'⟩

/-- A loop, with a number that falls. -/
theorem wpIn_loop_ix {F : Fence} {n : Nat} {c : Code} {Q : Exit → Act → World → Prop} {a : Act} {w : World} (I : Nat → Act → World → Prop) {j : Nat} (h0 : I j a w)
    (round : ∀ j a w, I j a w → c.wpIn F n P (Exit.then (fun a' w' => ∃ i, i < j ∧ I i a' w') Q) a w) : (Code.loop c).wpIn F n P Q a w := by
  classical
  have ex : ∀ a w, (∃ j, I j a w) → ∃ j, I j a w ∧ ∀ i, I i a w → j ≤ i := fun a w ⟨j, hj⟩ => least (p := fun j => I j a w) j hj
  let μ : Act → World → Nat := fun a w => if h : ∃ j, I j a w then Classical.choose (ex a w h) else 0
  have hμ : ∀ a w, (∃ j, I j a w) → I (μ a w) a w ∧ ∀ i, I i a w → μ a w ≤ i := fun a w h => by
    have e : μ a w = Classical.choose (ex a w h) := by simp only [μ, dif_pos h]
    rw [e]
    exact Classical.choose_spec (ex a w h)
  refine wpIn_loop (fun a w => ∃ j, I j a w) μ ⟨j, h0⟩ fun a w hI => wpIn_mono (round (μ a w) a w (hμ a w hI).1) fun e a' w' hq => ?_
  cases e with
  | normal =>
    obtain ⟨i, hi, hI'⟩ := hq
    exact ⟨⟨i, hI'⟩, Nat.lt_of_le_of_lt ((hμ a' w' ⟨i, hI'⟩).2 i hI') hi⟩
  | exit _ => exact hq
  | goto _ => exact hq
  | ret => exact hq
  | panic _ => exact hq
  | outgrown => exact hq

/-- The code is sound at an oracle. -/
def CodesOK (P : Program) (C : Ctx) (o : Orc) : Prop := ∀ (code : Code) (nt : Nat) (ro : Option Nat) (s : St) (e : AExit) (s' : St), codeA C o ro (compCode P nt code) s = some (e, s') → WF s.H → CodeOK P C ro code nt s e s'

theorem loop_exit (n : Nat) {ro : Option Nat} {c : ICode} : ∀ {s : St} {e : AExit} {s' : St}, (orc C n).loop ro c s = some (e, s') → e ≠ .normal := by
  induction n with
  | zero => intro s e s' h; cases h
  | succ n ih =>
    intro s e s' h
    have h : loopA C (orc C n) ro c s = some (e, s') := h
    unfold loopA at h
    split at h
    · exact ih h
    · rename_i hne
      rintro rfl
      exact hne _ h

theorem loops_ok (n : Nat) (hcs : ∀ m, m < n → CodesOK P C (orc C m)) : LoopsOK P C (orc C n) := by
  intro ro code nt s e s' h hw
  have g := (all_grow (C := C) n).loop _ _ _ _ _ h hw
  refine ⟨g.grow, g.ds, fun φ M a w ro' hE hF hR hT hnt hD hro => ?_⟩
  have hne := loop_exit n h
  refine wpIn_loop_ix (fun j a1 w1 => j ≤ n ∧ ∃ s1 φ1, (orc C j).loop ro (compCode P nt code) s1 = some (e, s') ∧ WF s1.H ∧ Grow s.H s1.H ∧ φ.le φ1 ∧ TRel φ1 s1.T.val a1.tmps ∧ R P C φ1 (over s1.H M) w1 ∧ a1.tmps.size = a.tmps.size ∧ DsRel φ1 s1.ds a1.defers)
    (j := n) ⟨Nat.le_refl _, s, φ, h, hw, .refl _, Phi.le_refl φ, hT, by rw [over_self hE]; exact hR, rfl, hD⟩ ?_
  rintro j a1 w1 ⟨hj, s1, φ1, h1, hw1, g1, hle1, hT1, hR1, hs1, hD1⟩
  cases j with
  | zero => cases h1
  | succ m =>
    have h2 : loopA C (orc C m) ro (compCode P nt code) s1 = some (e, s') := h1
    unfold loopA at h2
    have gall := ((all_grow (C := C) (m + 1)).loop _ _ _ _ _ h1 hw1).grow
    have hF1 : Fresh s1.H s'.H (over s1.H M) := hF.right g1
    split at h2
    · rename_i s2 hc
      have ok := hcs m (by omega) code nt ro s1 .normal s2 hc hw1
      have g2 := ((all_grow (C := C) m).loop _ _ _ _ _ h2 (ok.grow.wf hw1)).grow
      refine wpIn_mono (ok.walk φ1 (over s1.H M) a1 w1 ro' (ext_over _ _) (hF1.left g2) hR1 hT1 (hs1 ▸ hnt) hD1 (hro.mono hle1)) ?_
      rintro x a2 w2 ⟨rfl, φ2, hle2, hT2, hR2, hs2, hD2⟩
      rw [over_over ok.grow.next] at hR2
      exact ⟨m, Nat.lt_succ_self m, by omega, s2, φ2, h2, ok.grow.wf hw1, g1.trans ok.grow, Phi.le_trans hle1 hle2, hT2, hR2, hs2.trans hs1, hD2⟩
    · rename_i hnn
      have ok := hcs m (by omega) code nt ro s1 e s' h2 hw1
      refine wpIn_mono (ok.walk φ1 (over s1.H M) a1 w1 ro' (ext_over _ _) hF1 hR1 hT1 (hs1 ▸ hnt) hD1 (hro.mono hle1)) fun x a2 w2 hp => ?_
      have hx := hp.1
      have hp' := hp.later hle1 hs1 ok.grow.next
      cases e with
      | normal => exact absurd rfl hne
      | exit id => subst hx; exact hp'
      | ret => subst hx; exact hp'

end
end Go.Ai

namespace Go.Ai

section
variable {P : Program} {C : Ctx} {o : Orc}

theorem exit_cases {e : AExit} (h : e ≠ .normal) : (∃ id, e = .exit id) ∨ e = .ret := by
  cases e with
  | normal => exact absurd rfl h
  | exit id => exact .inl ⟨id, rfl⟩
  | ret => exact .inr rfl

theorem over_at {H : AHeap} {M : Nat → Option AObj} (hw : WF H) {b : Nat} {x : AObj} (h : H.get b = some x) : over H M b = some x := by
  unfold over
  rw [if_pos (get_lt hw (by rw [h]; simp)), h]

/-- A loop's record in the world. -/
theorem loop_at {φ : Phi} {M : Nat → Option AObj} {w : World} (hR : R P C φ M w) {l : Nat} {L : ALoop} (h : M l = some (.loop L)) {loc : Loc} (hl : φ l 0 = some loc) :
    ∃ L', w.heap[loc.cb]? = some (.loop L') ∧ LoopRel P φ L L' ∧ ∀ k l', φ l k = some l' → l' = loc := by
  obtain ⟨l2, L', h1, h2, h3, h4⟩ := hR.obj _ _ h
  rw [hl] at h1
  cases h1
  exact ⟨L', h3, h4, h2⟩

/-- The record becomes another. -/
theorem loop_put {φ : Phi} {M : Nat → Option AObj} {w : World} (hR : R P C φ M w) {l : Nat} {L L2 : ALoop} (h : M l = some (.loop L)) {loc : Loc} (hl : φ l 0 = some loc) {L2' : Loop} (hrel : LoopRel P φ L2 L2') :
    R P C φ (upd M l (.loop L2)) (w.putObj loc.cb (.loop L2')) := by
  obtain ⟨L', h1, _, h3⟩ := loop_at hR h hl
  exact hR.putObj h hl h1 (fun k l' hk => by rw [h3 k l' hk]) ⟨loc, L2', hl, h3, putObj_at h1, hrel⟩

theorem range_end {φ φ' : Phi} {M : Nat → Option AObj} {a a' : Act} {w3 : World} {H3 : AHeap} {l : Nat} {loc : Loc} {L : ALoop} {T : Env} {ds : List Nat} {ro' : Option Nat} (hw3 : WF H3) (hg : H3.get l = some (.loop L)) (hb : L.state ≠ .busy)
    (hloc : φ' l 0 = some loc) (hle : φ.le φ') (hR : R P C φ' (over H3 M) w3) (hT : TRel φ' T.val a'.tmps) (hs : a'.tmps.size = a.tmps.size) (hD : DsRel φ' ds a'.defers) (v : Value) :
    rangePost (fen ro') 0 P loc.cb (Post P C φ a (L.pending.getD .normal) ⟨T, H3.put l (.loop { L with state := .exhausted }), ds⟩ M) a' (.returned v) w3 := by
  obtain ⟨L', h1, h2, h3⟩ := loop_at hR (over_at hw3 hg) hloc
  obtain ⟨e1, e2, e3, e4, e5, e6⟩ := h2
  have hR' := loop_put hR (over_at hw3 hg) hloc (L2 := { L with state := .exhausted }) (L2' := { L' with state := .exhausted }) ⟨rfl, e2, e3, e4, e5, e6⟩
  rw [← over_put _ hw3 hg (by simp)] at hR'
  refine ⟨L'.pending, _, run_endLoop h1 (by rw [e1]; exact hb), ?_⟩
  have hp : ∀ x, x = (L.pending.getD AExit.normal).exit' → Post P C φ a (L.pending.getD .normal) ⟨T, H3.put l (.loop { L with state := .exhausted }), ds⟩ M x a' (w3.putObj loc.cb (.loop { L' with state := .exhausted })) :=
    fun x hx => ⟨hx, φ', hle, hT, hR', hs, hD⟩
  generalize w3.putObj loc.cb (.loop { L' with state := .exhausted }) = W at hp ⊢
  rw [e2]
  cases hL : L.pending with
  | none => rw [hL] at hp; exact hp _ rfl
  | some e =>
    rw [hL] at hp
    rcases exit_cases (e3 e hL) with ⟨id, rfl⟩ | rfl
    · exact wpIn_exit (hp _ rfl)
    · exact wpIn_ret (hp _ rfl)

theorem fn_inv {φ : Phi} {v v' : Value} (h : VRel φ v v') (hf : isFn v = true) : ∃ k first cap, v' = .func (.func k) first cap := by
  cases h <;> simp [isFn] at hf
  exact ⟨_, _, _, rfl⟩

theorem range_ok (hcall : CallsOK P C o) (hgo : GrowOK o) {ro : Option Nat} {f : Operand} {g : IOpd} {ps : Array Tmp} {assign body : Code} {nt : Nat} {s : St} {e : AExit} {s' : St} (hf : opd f = some g) (hps : ∀ p ∈ ps, p < nt) (hw : WF s.H)
    (h : codeA C o ro (.rangeFunc g ps.toList (compCode P nt assign) (compCode P nt body)) s = some (e, s')) : CodeOK P C ro (.rangeFunc f ps assign body) nt s e s' := by
  have hgr := code_grow hgo _ _ _ _ _ h hw
  refine ⟨hgr.grow, hgr.ds, fun φ M a w ro' hE hF hR hT hnt hD hro => ?_⟩
  simp only [codeA] at h
  split at h
  · cases h
  rename_i hin
  simp only [Bool.and_eq_true] at hin
  obtain ⟨hfn, hin⟩ := hin
  split at h
  · cases h
  rename_i v H3 hc
  split at h
  · rename_i L hL
    split at h
    · cases h
    rename_i hbusy
    cases h
    refine wpIn_rangeFunc fun fn _ => ?_
    rw [fen_round]
    have hfv := opds_of hT f g hf
    obtain ⟨k, first, cap, hev⟩ := fn_inv hfv hfn
    rw [hev] at hfv
    -- what is common to both
    have main : ∀ (Ha : AHeap) (φ1 : Phi) (w1 : World) (mark : List Deferred) (ds : List Nat) (rec : Loop), WF Ha → Grow s.H Ha → φ.le φ1 → R P C φ1 (over Ha M) w1 → Fresh Ha H3 M → LoopRel P φ1 { state := .ready, pending := none, T := s.T, params := ps.toList, assign := compCode P nt assign, body := compCode P nt body } rec →
        o.call (g.val s.T.val) [.func (.yield Ha.next) #[] #[]] (Ha.push (.loop { state := .ready, pending := none, T := s.T, params := ps.toList, assign := compCode P nt assign, body := compCode P nt body })) = some (v, H3) →
        H3.get Ha.next = some (.loop L) → (Instr.enterLoop fn a.tmps ps assign body ro').run P w = .ok (w1.heap.size, mark) (w1.alloc (.loop rec)) → DsRel φ1 ds (mark ++ a.defers) →
        ∃ (l : Nat) (mark : List Deferred) (w₁ : World) (d : Deferred) (w₁' : World) (f' : FuncId) (args : Array Value) (w₂ : World),
          (Instr.enterLoop fn a.tmps ps assign body ro').run P w = .ok (l, mark) w₁ ∧ (resolve a.eval (rangeCall f l) 0).run P w₁ = .ok d w₁' ∧ (∀ f', Target.leads P w₁' d.target d.args = some f' → (fen ro').fn f') ∧
          (invoke d.target d.args).run P w₁' = .ok (.enter f' args) w₂ ∧ ((fen ro').depth.isSome = true → 1 ≤ 0) ∧
          CallsIn (fen ro') (0 - 1) P f' args w₂ (rangePost (fen ro') 0 P l (Post P C φ a (L.pending.getD .normal) ⟨s.T, H3.put Ha.next (.loop { L with state := .exhausted }), ds⟩ M) { a with defers := mark ++ a.defers }) := by
      intro Ha φ1 w1 mark ds rec hwa hga hle hR1 hFa hrec hc hL hent hds
      obtain ⟨g1, g2, g3, g4⟩ := push_spec Ha (.loop { state := .ready, pending := none, T := s.T, params := ps.toList, assign := compCode P nt assign, body := compCode P nt body }) hwa
      have hcs := hcall _ _ _ _ _ hc (g1.wf hwa)
      have hnone : over Ha M Ha.next = none := by
        unfold over
        rw [if_neg (by omega)]
        exact hFa _ (Nat.le_refl _) (by have := hcs.1.next; omega)
      obtain ⟨hle2, hR2⟩ := hR1.new hnone (o' := .loop { state := .ready, pending := none, T := s.T, params := ps.toList, assign := compCode P nt assign, body := compCode P nt body }) (.loop rec) 0 0 (fun hle2 hs2 =>
        ⟨_, rec, Phi.set_self φ1 _ 0 _, hs2, heap_alloc_self w1 _, hrec.1, hrec.2.1, hrec.2.2.1, hrec.2.2.2.1, hrec.2.2.2.2.1.mono hle2, hrec.2.2.2.2.2⟩)
      have hov : over (Ha.push (.loop { state := .ready, pending := none, T := s.T, params := ps.toList, assign := compCode P nt assign, body := compCode P nt body })) M = upd (over Ha M) Ha.next (.loop { state := .ready, pending := none, T := s.T, params := ps.toList, assign := compCode P nt assign, body := compCode P nt body }) := by
        rw [← over_over g1.next M]
        exact over_push _ hwa (ext_over _ _)
      rw [← hov] at hR2
      have hup := hcs.2 _ (over (Ha.push (.loop { state := .ready, pending := none, T := s.T, params := ps.toList, assign := compCode P nt assign, body := compCode P nt body })) M) (w1.alloc (.loop rec)) (.func (.func k) first cap) #[.func (.yield w1.heap.size) #[] #[]] (ext_over _ _) (hFa.right g1) hR2
        (hfv.mono (Phi.le_trans hle hle2)) (.cons _ _ _ _ (.yield _ _ _ _ (Phi.set_self φ1 Ha.next 0 ⟨w1.heap.size, 0, 0, 0⟩) rfl rfl) .nil)
      obtain ⟨hcf, hci⟩ := hup
      refine ⟨w1.heap.size, mark, w1.alloc (.loop rec), { target := .fn (.func k) cap, args := first ++ #[.func (.yield w1.heap.size) #[] #[]] }, w1.alloc (.loop rec), k, _, _, hent, ?_, fun f' _ => fen_fn ro' f', hcf, fen_depth ro', ?_⟩
      · simp only [resolve, hev, Deferred.ofValue, Sem.run_pure]
        simp [Act.eval]
      · refine callsIn_fen.2 (hci.mono fun e3 w3 he => ?_)
        cases e3 with
        | panicked ch => exact he.elim
        | outgrown => exact he.elim
        | returned v3 =>
          obtain ⟨φ3, hle3, _, hR3⟩ := he
          rw [over_over hcs.1.next] at hR3
          exact range_end (a := a) (a' := { a with defers := mark ++ a.defers }) (hcs.1.wf (g1.wf hwa)) hL hbusy (hle3 _ _ _ (Phi.set_self φ1 Ha.next 0 ⟨w1.heap.size, 0, 0, 0⟩)) (Phi.le_trans hle (Phi.le_trans hle2 hle3)) hR3
            (hT.mono (Phi.le_trans hle (Phi.le_trans hle2 hle3))) rfl (hds.mono (Phi.le_trans hle2 hle3)) v3
    have hparams : ∀ p ∈ ps.toList, p < nt := fun p hp => hps p (by simpa using hp)
    cases ro with
    | none =>
      dsimp only at hc hL ⊢
      cases ro' with
      | some r => exact hro.elim
      | none =>
        have g1 := push_spec s.H (.deferred true) hw
        have gl := push_spec _ (.loop { state := .ready, pending := none, T := s.T, params := ps.toList, assign := compCode P nt assign, body := compCode P nt body }) (g1.1.wf hw)
        have gc := (hcall _ _ _ _ _ hc (gl.1.wf (g1.1.wf hw))).1
        have hF3 : Fresh s.H H3 M := fun b h1 h2 => hF b h1 (by
          have : (H3.put (s.H.push (.deferred true)).next (.loop { L with state := .exhausted })).next = H3.next := rfl
          exact Nat.lt_of_lt_of_le h2 (Nat.le_of_eq this.symm))
        have hlt : s.H.next < H3.next := by
          have := gc.next
          have := gl.1.next
          have := g1.2.1
          omega
        obtain ⟨hle1, hR1⟩ := hR.new (hF3 _ (Nat.le_refl _) hlt) (o' := .deferred true) (.deferred (some [])) 0 0 (fun hle1 hs1 => ⟨_, Phi.set_self φ _ 0 _, hs1, heap_alloc_self w _⟩)
        rw [← over_push _ hw hE] at hR1
        refine main (s.H.push (.deferred true)) _ _ [{ target := .collected w.heap.size, args := #[] }] (s.H.next :: s.ds) { state := .ready, pending := none, fn, tmps := a.tmps, params := ps, assign, body, defers := w.heap.size } (g1.1.wf hw) g1.1 hle1 hR1 (fun b h1 h2 => hF3 b (Nat.le_trans g1.1.next h1) h2) ?_ hc hL ?_ ?_
        · exact ⟨rfl, rfl, by simp, rfl, hT.mono hle1, nt, hnt, hparams, rfl, rfl⟩
        · rw [run_enterLoop_outer]
          simp
        · exact ⟨⟨_, Phi.set_self φ _ 0 _, rfl⟩, hD.mono hle1⟩
    | some r =>
      dsimp only at hc hL ⊢
      cases ro' with
      | none => exact hro.elim
      | some r' =>
        have gl := push_spec s.H (.loop { state := .ready, pending := none, T := s.T, params := ps.toList, assign := compCode P nt assign, body := compCode P nt body }) hw
        have hF3 : Fresh s.H H3 M := fun b h1 h2 => hF b h1 (by
          have : (H3.put s.H.next (.loop { L with state := .exhausted })).next = H3.next := rfl
          exact Nat.lt_of_lt_of_le h2 (Nat.le_of_eq this.symm))
        obtain ⟨loc, hl1, rfl⟩ := hro
        simp only [inLoop] at hin
        split at hin
        · rename_i L0 hL0
          obtain ⟨L0', h1, _, _⟩ := loop_at hR (by rw [hE _ (get_lt hw (by rw [hL0]; simp)), hL0]) hl1
          refine main s.H φ w [] s.ds _ hw (.refl _) (Phi.le_refl φ) (by rw [over_self hE]; exact hR) hF3 ?_ hc hL (run_enterLoop_inner h1 fn a.tmps ps assign body) ?_
          · exact ⟨rfl, rfl, by simp, rfl, hT, nt, hnt, hparams, rfl, rfl⟩
          · exact hD
        · cases hin
  · cases h

/-! ### a round -/
theorem params_rel {φ : Phi} : ∀ (ps : List Nat) (vs vs' : List Value) (T : Env) (tmps : Array Value), TRel φ T.val tmps → (∀ p ∈ ps, p < tmps.size) → VsRel φ vs vs' →
    TRel φ (setParams T ps vs).val ((ps.zip vs').foldl (fun t (p, v) => t.setIfInBounds p v) tmps) ∧ ((ps.zip vs').foldl (fun t (p, v) => t.setIfInBounds p v) tmps).size = tmps.size
  | [], vs, vs', T, tmps, h, _, _ => by cases vs <;> exact ⟨h, rfl⟩
  | p :: ps, _, _, T, tmps, h, _, .nil => ⟨h, rfl⟩
  | p :: ps, _, _, T, tmps, h, hp, .cons v v' vs vs' h1 h2 => by
    have ht : TRel φ (Env.val (T.put p v)) (tmps.setIfInBounds p v') := by
      have := trel_put (a := { tmps := tmps, defers := [] }) (d := some p) h (fun k hk => by cases hk; exact hp p (by simp)) h1
      rw [← putDst_val] at this
      exact this
    obtain ⟨r1, r2⟩ := params_rel ps vs vs' (T.put p v) (tmps.setIfInBounds p v') ht (fun q hq => by rw [Array.size_setIfInBounds]; exact hp q (by simp [hq])) h2
    exact ⟨r1, by simpa using r2⟩

theorem yield_ok (hcs : CodesOK P C o) (hgo : GrowOK o) {l : Nat} {args : List Value} {H : AHeap} {v : Value} {H' : AHeap} (h : callYield C o l args H = some (v, H')) (hw : WF H) {φ : Phi} {M : Nat → Option AObj} {w : World} {loc : Loc} {args' : Array Value}
    (hE : Ext H M) (hF : Fresh H H' M) (hR : R P C φ M w) (hl : φ l 0 = some loc) (ha : VsRel φ args args'.toList) :
    Upon P w (.func (.yield loc.cb) #[] #[]) args' fun v' w' => ∃ φ', φ.le φ' ∧ VRel φ' v v' ∧ R P C φ' (over H' M) w' := by
  unfold callYield at h
  split at h
  case h_2 => cases h
  rename_i L hL
  split at h
  case isFalse => cases h
  rename_i hst
  obtain ⟨hst, hlen⟩ := hst
  split at h
  case h_2 => cases h
  rename_i e s hc
  split at h
  case isFalse => cases h
  rename_i he
  subst he
  obtain ⟨L', h1, h2, h3⟩ := loop_at hR (by rw [hE _ (get_lt hw (by rw [hL]; simp)), hL]) hl
  obtain ⟨e1, e2, e3, e4, e5, nt, hnt, hp, hca, hcb⟩ := h2
  rw [← hca] at hc
  have ok := hcs _ _ _ _ _ _ hc hw
  unfold bodyRound at h
  split at h
  case h_2 => cases h
  rename_i L2 hL2
  split at h
  case isFalse => cases h
  rename_i hst2
  split at h
  case h_2 => cases h
  rename_i e s2 hc2
  rw [← hcb] at hc2
  have hws := ok.grow.wf hw
  obtain ⟨gp1, gp2, gp3⟩ := put_spec (.loop { L2 with state := .busy }) hws hL2 (by simp)
  have ok2 := hcs _ _ _ _ _ _ hc2 (gp1.wf hws)
  have hws2 := ok2.grow.wf (gp1.wf hws)
  have gend := endRound_grow h hws2
  have hFs : Fresh H s.H M := hF.left (gp1.trans (ok2.grow.trans gend))
  have hds : s.ds = [] := by
    obtain ⟨pre, q1, q2⟩ := ok.ds
    rw [q1, q2 (by simp)]
    rfl
  have hargs : args'.toList.length = L'.params.toList.length := by rw [← ha.length, hlen, e4]
  refine ⟨L', h1, by simpa using hargs, ?_⟩
  have hpar := params_rel L.params args args'.toList L.T L'.tmps e5 (fun p hp' => Nat.lt_of_lt_of_le (hp p hp') hnt) ha
  have hfold : (L'.params.zip (#[] ++ args')).foldl (fun tmps (t, a) => tmps.setIfInBounds t a) L'.tmps = (L.params.zip args'.toList).foldl (fun t (p, v) => t.setIfInBounds p v) L'.tmps := by
    rw [← Array.foldl_toList, Array.toList_zip, e4]
    simp
  rw [hfold]
  refine roundIn_of_wpIn (F := Fence.wide) trivial ?_
  have hwalk := ok.walk φ M { tmps := (L.params.zip args'.toList).foldl (fun t (p, v) => t.setIfInBounds p v) L'.tmps, defers := [] } w (some loc.cb) hE hFs hR hpar.1 (by rw [hpar.2]; exact hnt) trivial ⟨loc, hl, rfl⟩
  refine wpIn_mono hwalk ?_
  rintro x a1 w1 ⟨rfl, φ1, hle1, hT1, hR1, hs1, hD1⟩
  have hl1 := hle1 _ _ _ hl
  obtain ⟨L2', g1, g2, _⟩ := loop_at hR1 (over_at hws hL2) hl1
  refine ⟨_, run_beginRound g1 (by rw [g2.1]; exact hst2), ?_⟩
  have hR2 := loop_put hR1 (over_at hws hL2) hl1 (L2 := { L2 with state := .busy }) (L2' := { L2' with state := .busy }) ⟨rfl, g2.2⟩
  rw [← over_put _ hws hL2 (by simp)] at hR2
  have hFb : Fresh (s.H.put l (.loop { L2 with state := .busy })) s2.H M := fun b b1 b2 => (hF.left gend) b (Nat.le_trans (ok.grow.trans gp1).next b1) b2
  have hwalk2 := ok2.walk φ1 (over (s.H.put l (.loop { L2 with state := .busy })) M) a1 _ (some loc.cb) (ext_over _ _) (fun b b1 b2 => by unfold over; rw [if_neg (Nat.not_lt.2 b1)]; exact hFb b b1 b2) hR2 hT1 (by rw [hs1]; show nt ≤ _; rw [hpar.2]; exact hnt)
    hD1 ⟨loc, hl1, rfl⟩
  refine wpIn_mono hwalk2 ?_
  rintro x a2 w2 ⟨rfl, φ2, hle2, hT2, hR2', hs2, hD2⟩
  rw [over_over ok2.grow.next] at hR2'
  have hl2 := hle2 _ _ _ hl1
  unfold endRound at h
  split at h
  case h_2 => cases h
  rename_i L3 hL3
  split at h
  case isFalse => cases h
  obtain ⟨L3', k1, k2, _⟩ := loop_at hR2' (over_at hws2 hL3) hl2
  by_cases hn : e = .normal
  · subst hn
    simp only [if_true, Option.some.injEq, Prod.mk.injEq] at h
    obtain ⟨rfl, rfl⟩ := h
    refine ⟨_, _, run_endRound none k1, φ2, Phi.le_trans hle1 hle2, .bool true, ?_⟩
    have := loop_put hR2' (over_at hws2 hL3) hl2 (L2 := { L3 with state := .ready, pending := none }) (L2' := { L3' with state := .ready, pending := none }) ⟨rfl, rfl, by simp, k2.2.2.2⟩
    rw [← over_put _ hws2 hL3 (by simp)] at this
    exact this
  · rw [if_neg hn] at h
    simp only [Option.some.injEq, Prod.mk.injEq] at h
    obtain ⟨rfl, rfl⟩ := h
    have key : ∀ c, exitCode e = some c → ∃ v' w', (Instr.endRound loc.cb (some c)).run P w2 = .ok v' w' ∧ ∃ φ', φ.le φ' ∧ VRel φ' (.bool false) v' ∧ R P C φ' (over (s2.H.put l (.loop { L3 with state := .done, pending := some e })) M) w' := by
      intro c hcx
      refine ⟨_, _, run_endRound (some c) k1, φ2, Phi.le_trans hle1 hle2, .bool false, ?_⟩
      have := loop_put hR2' (over_at hws2 hL3) hl2 (L2 := { L3 with state := .done, pending := some e }) (L2' := { L3' with state := .done, pending := some c }) ⟨rfl, by simp [hcx], by rintro e' he'; cases he'; exact hn, k2.2.2.2⟩
      rw [← over_put _ hws2 hL3 (by simp)] at this
      exact this
    rcases exit_cases hn with ⟨id, rfl⟩ | rfl
    · exact key (.exit id) rfl
    · exact key .ret rfl

/-! ### a function -/
theorem resA_over {H : AHeap} {M : Nat → Option AObj} {T : Nat → Value} (hw : WF H) {r : IRes} {v : Value} (h : resA C T H.get r = some v) : resA C T (over H M) r = some v := by
  have hg : ∀ (a : Addr) (n : Nat) (l : List Value), loadN C H.get a n = some l → loadN C (over H M) a n = some l := fun a n l hl => by
    have hlt := get_lt hw (loadN_there hl)
    rw [loadN_congr (M := H.get) (by unfold over; rw [if_pos hlt])]
    exact hl
  cases r with
  | tmp t => exact h
  | cell1 t =>
    simp only [resA] at h ⊢
    split at h
    · rename_i a ha
      split at h
      · rename_i v0 hl; cases h; rw [hg _ _ _ hl]
      · cases h
    · cases h
  | cellN t n =>
    simp only [resA] at h ⊢
    split at h
    · rename_i a ha
      simp only [Option.map_eq_some_iff] at h
      obtain ⟨l, hl, rfl⟩ := h
      rw [hg _ _ _ hl]; rfl
    · cases h

theorem resAll_over {H : AHeap} {M : Nat → Option AObj} {T : Nat → Value} (hw : WF H) : ∀ {rs : List IRes} {vs : List Value}, resAll C T H.get rs = some vs → resAll C T (over H M) rs = some vs
  | [], vs, h => h
  | r :: rs, vs, h => by
    simp only [resAll] at h ⊢
    split at h
    · rename_i v vs1 h1 h2
      rw [resA_over hw h1, resAll_over hw h2]
      exact h
    · cases h

theorem leaves_ok {fn : Func} {tmps : Array Value} {T : Nat → Value} {irs : List IRes} {vs : List Value} {M : Nat → Option AObj} {H' : AHeap} {φ0 : Phi} (hres : compRes P fn.results.toList = some irs) (hr : resAll C T H'.get irs = some vs) :
    ∀ (ds : List Nat) (H : AHeap) (φ : Phi) (defers : List Deferred) (w : World), shut ds H = some H' → WF H → DsRel φ ds defers → R P C φ (over H M) w → TRel φ T tmps → φ0.le φ →
      LeavesInM Fence.wide 0 P fn tmps (retPost fun v' w' => ∃ φ', φ0.le φ' ∧ VRel φ' (oneOrTuple vs) v' ∧ R P C φ' (over H' M) w') defers .returning w
  | [], H, φ, [], w, h, hw, _, hR, hT, hle => by
    simp only [shut, Option.some.injEq] at h
    subst h
    obtain ⟨v', hrun, hv⟩ := results_rel hT hR hres (resAll_over hw hr)
    exact ⟨v', hrun, φ, hle, hv, hR⟩
  | [], _, _, _ :: _, _, _, _, hD, _, _, _ => hD.elim
  | _ :: _, _, _, [], _, _, _, hD, _, _, _ => hD.elim
  | d :: ds, H, φ, x :: xs, w, h, hw, hD, hR, hT, hle => by
    obtain ⟨⟨l, hl, htar⟩, hD'⟩ := hD
    simp only [shut] at h
    split at h
    case h_2 => cases h
    rename_i hd
    obtain ⟨l2, q1, q2, q3⟩ := hR.obj _ _ (over_at hw hd)
    rw [hl] at q1
    cases q1
    have hg := put_spec (.deferred false) hw hd (by simp)
    have hR' := hR.putObj (over_at hw hd) hl q3 (o' := .deferred false) (ob' := .deferred none) (fun k l' hk => by rw [q2 k l' hk]) ⟨l, hl, q2, putObj_at q3⟩
    rw [← over_put _ hw hd (by simp)] at hR'
    refine ⟨by simp, .inl ⟨l.cb, _, htar, run_takeDeferred q3, ?_⟩⟩
    exact leaves_ok hres hr ds _ φ xs _ h (hg.1.wf hw) hD' hR' hT hle

theorem ofArgs_val : ∀ (as : List Value) (i : Nat) (T : Env) (j : Nat), (ofArgs as i T).val j = if i ≤ j ∧ j < i + as.length then as.getD (j - i) undef else T.val j
  | [], i, T, j => by simp [ofArgs]; intro h1 h2; omega
  | v :: vs, i, T, j => by
    rw [ofArgs, ofArgs_val vs (i + 1) (T.put i v) j]
    have hput : Env.val (T.put i v) j = if j = i then v else T.val j := by
      show ((T.put i v).get j).getD undef = _
      rw [Trie.get_put]
      split <;> rfl
    rw [hput, List.length_cons]
    by_cases h1 : j = i
    · subst h1
      rw [if_neg (by omega), if_pos rfl, if_pos (by omega), Nat.sub_self]
      rfl
    · by_cases h2 : i + 1 ≤ j ∧ j < i + 1 + vs.length
      · rw [if_pos h2, if_pos (by omega), show j - i = (j - (i + 1)) + 1 by omega]
        rfl
      · rw [if_neg h2, if_neg h1, if_neg (by omega)]

theorem args_rel {φ : Phi} {as : List Value} {args' : Array Value} (h : VsRel φ as args'.toList) (n : Nat) : TRel φ (ofArgs as 0 .leaf).val (args' ++ Array.replicate n undef) := by
  intro i
  rw [ofArgs_val]
  have hl := h.length
  by_cases hi : i < as.length
  · rw [if_pos (by omega), Nat.sub_zero, Array.getD_eq_getD_getElem?, Array.getElem?_append_left (by simp at hl; omega)]
    obtain ⟨v', h1, h2⟩ := h.get (i := i) (v := as[i]) (List.getElem?_eq_getElem hi)
    rw [List.getD_eq_getElem?_getD, List.getElem?_eq_getElem hi]
    simp only [Option.getD_some]
    rw [Array.getElem?_toList] at h1
    rw [h1]
    exact h2
  · rw [if_neg (by omega)]
    show VRel φ ((Trie.leaf.get i).getD undef) _
    rw [Trie.get_leaf]
    exact .undef _

theorem fn_ok (hcs : CodesOK P C o) (hgo : GrowOK o) {k : FuncId} {fn : Func} {F : IFunc} {as : List Value} {H : AHeap} {v : Value} {H' : AHeap} (hfn : P.funcs[k]? = some fn) (hcF : compFunc P fn = some F) (h : callFn C o F as H = some (v, H')) (hw : WF H)
    {φ : Phi} {M : Nat → Option AObj} {w : World} {args' : Array Value} (hE : Ext H M) (hF : Fresh H H' M) (hR : R P C φ M w) (ha : VsRel φ as args'.toList) :
    (callFunc k args').run P w = .ok (.enter k args') w ∧ CallsIn Fence.wide 0 P k args' w (retPost fun v' w' => ∃ φ', φ.le φ' ∧ VRel φ' v v' ∧ R P C φ' (over H' M) w') := by
  unfold compFunc at hcF
  split at hcF
  case isTrue => cases hcF
  rename_i hname
  split at hcF
  case h_2 => cases hcF
  rename_i c irs hb hres
  cases hcF
  unfold callFn at h
  split at h
  case h_1 => cases h
  rename_i e s hc
  have ok := hcs _ _ _ _ _ _ hc hw
  have hws := ok.grow.wf hw
  have hex : (∃ id, e = .exit id) → False := by
    rintro ⟨id, rfl⟩
    cases h
  have h : (match shut s.ds s.H with | none => none | some H' => match resAll C s.T.val H'.get irs with | some vs => some (oneOrTuple vs, H') | none => none) = some (v, H') := by
    cases e with
    | exit id => exact (hex ⟨id, rfl⟩).elim
    | normal => exact h
    | ret => exact h
  split at h
  case h_1 => cases h
  rename_i H1 hs
  split at h
  case h_2 => cases h
  rename_i vs hvs
  cases h
  refine ⟨?_, ?_⟩
  · simp only [callFunc, Sem.run_bind]
    simp [program, Sem.run, hfn, hname, hb, Result.andThen]
  · refine callsIn_of_wp_marks hfn hb trivial ?_
    have gs := shut_grow _ _ _ hs hws
    have hwalk := ok.walk φ M { tmps := args' ++ Array.replicate (fn.ntmps - args'.size) undef, defers := [] } w none hE (hF.left gs) hR (args_rel ha _) (by simp; omega) trivial trivial
    refine wpIn_mono hwalk ?_
    rintro x a1 w1 ⟨rfl, φ1, hle1, hT1, hR1, hs1, hD1⟩
    have hl := leaves_ok (M := M) (φ0 := φ) hres hvs s.ds s.H φ1 a1.defers w1 hs hws hD1 hR1 hT1 hle1
    cases e with
    | exit id => exact (hex ⟨id, rfl⟩).elim
    | normal => exact hl
    | ret => exact hl

/-! ### all together -/
theorem codes_ok (hE : ∀ a b, C.eqb a b = true → a = b) (hmo : P.follows .mixedOrders = true) (hcall : CallsOK P C o) (hloop : LoopsOK P C o) (hgo : GrowOK o) : CodesOK P C o := by
  intro code
  induction code with
  | skip =>
    intro nt ro s e s' h hw
    simp only [compCode, codeA] at h
    cases h
    exact ⟨.refl _, ⟨[], rfl, fun _ => rfl⟩, fun φ M a w ro' hX hF hR hT hnt hD hro => wpIn_skip (.here hX hR hT hD)⟩
  | exit id =>
    intro nt ro s e s' h hw
    simp only [compCode, codeA] at h
    cases h
    exact ⟨.refl _, ⟨[], rfl, fun _ => rfl⟩, fun φ M a w ro' hX hF hR hT hnt hD hro => wpIn_exit (.here (e := .exit id) hX hR hT hD)⟩
  | ret =>
    intro nt ro s e s' h hw
    simp only [compCode, codeA] at h
    cases h
    exact ⟨.refl _, ⟨[], rfl, fun _ => rfl⟩, fun φ M a w ro' hX hF hR hT hnt hD hro => wpIn_ret (.here (e := .ret) hX hR hT hD)⟩
  | region id ops draw => intro nt ro s e s' h hw; exact region_ok hE hmo hcall hw h
  | seq a b iha ihb =>
    intro nt ro s e s' h hw
    simp only [compCode, codeA] at h
    split at h
    · rename_i s1 h1
      have ok := iha nt ro s .normal s1 h1 hw
      exact seq_ok ok (ihb nt ro s1 e s' h (ok.grow.wf hw))
    · rename_i hne
      exact seq_ok_left (iha nt ro s e s' h hw) fun hn => by subst hn; exact hne _ h
  | cond x a b iha ihb =>
    intro nt ro s e s' h hw
    simp only [compCode] at h
    split at h
    · rename_i y hy
      simp only [codeA] at h
      split at h
      · rename_i hv; exact cond_ok hy hv (iha nt ro s e s' h hw)
      · rename_i hv; exact cond_ok hy hv (ihb nt ro s e s' h hw)
      · cases h
    · simp only [codeA] at h; cases h
  | block id c ih =>
    intro nt ro s e s' h hw
    simp only [compCode, codeA] at h
    split at h
    · rename_i i s1 h1
      have ok := block_ok (id := id) (ih nt ro s (.exit i) s1 h1 hw)
      dsimp only at ok
      split at h
      · rename_i hi; cases h; rw [if_pos hi] at ok; exact ok
      · rename_i hi; cases h; rw [if_neg hi] at ok; exact ok
    · rename_i hne
      have ok := block_ok (id := id) (ih nt ro s e s' h hw)
      cases e with
      | exit i => exact absurd h (hne i s')
      | normal => exact ok
      | ret => exact ok
  | loop c ih =>
    intro nt ro s e s' h hw
    simp only [compCode, codeA] at h
    exact hloop ro c nt s e s' h hw
  | rangeFunc f ps a b _ _ =>
    intro nt ro s e s' h hw
    simp only [compCode] at h
    split at h
    · rename_i g hg
      split at h
      · rename_i hps
        exact range_ok hcall hgo hg (fun p hp => by simpa using (Array.all_eq_true_iff_forall_mem.1 hps) p hp) hw h
      · simp only [codeA] at h; cases h
    · simp only [codeA] at h; cases h
  | scope c _ => intro nt ro s e s' h hw; simp only [compCode, codeA] at h; cases h
  | label l => intro nt ro s e s' h hw; simp only [compCode, codeA] at h; cases h
  | goto l => intro nt ro s e s' h hw; simp only [compCode, codeA] at h; cases h
  | refuse y => intro nt ro s e s' h hw; simp only [compCode, codeA] at h; cases h

/-- The memory behind a call that is known. -/
def turned (M : Nat → Option AObj) : Option (Nat × List AVer) → Nat → Option AObj
  | none => M
  | some (b, vs) => upd M b (.cells vs)

/-- What is known of calls. -/
def KnownOK (P : Program) (C : Ctx) : Prop := ∀ (k : FuncId) (as : List Value) (M0 : Nat → Option AObj) (v : Value) (p : Option (Nat × List AVer)), C.known k as M0 = some (v, p) →
  ∀ (φ : Phi) (M : Nat → Option AObj) (w : World) (as' : Array Value), (∀ b x, M0 b = some x → M b = some x) → (∀ b vs, p = some (b, vs) → ∃ x, M b = some (.cells x)) → R P C φ M w → VsRel φ as as'.toList →
  (callFunc k as').run P w = .ok (.enter k as') w ∧ CallsIn Fence.wide 0 P k as' w (retPost fun v' w' => ∃ φ', φ.le φ' ∧ VRel φ' v v' ∧ R P C φ' (turned M p) w')

def FuncsOK (P : Program) (C : Ctx) : Prop := ∀ (k : FuncId) (F : IFunc), C.funcs.get k = some F → ∃ fn, P.funcs[k]? = some fn ∧ compFunc P fn = some F

theorem calls_ok (hfuncs : FuncsOK P C) (hknown : KnownOK P C) (hcs : CodesOK P C o) (hgo : GrowOK o) : CallsOK P C { call := callA C o, loop := loopA C o } := by
  intro f args H v H' h hw
  refine ⟨callA_grow hgo h hw, fun φ M w f' args' hE hF hR hf ha => ?_⟩
  change callA C o f args H = some (v, H') at h
  unfold callA at h
  split at h
  case h_2 => cases h
  rename_i fn first captured
  split at h
  · rename_i k
    obtain ⟨a', b', rfl, h1, h2⟩ : ∃ a' b', f' = .func (.func k) a' b' ∧ VsRel φ first.toList a'.toList ∧ VsRel φ captured.toList b'.toList := by
      cases hf with | func => exact ⟨_, _, rfl, by assumption, by assumption⟩
    have hall : VsRel φ (first.toList ++ (args ++ captured.toList)) (a' ++ args' ++ b').toList := by
      simp only [Array.toList_append, List.append_assoc]
      exact h1.append (ha.append h2)
    split at h
    · rename_i r hk
      obtain ⟨v0, p⟩ := r
      have hM0 : ∀ b x, H.get b = some x → M b = some x := fun b x hb => by rw [hE b (get_lt hw (by rw [hb]; simp))]; exact hb
      cases p with
      | none =>
        cases h
        have := hknown k _ _ _ _ hk φ M w (a' ++ args' ++ b') hM0 (by intro b vs hb; cases hb) hR hall
        rw [over_self hE]
        exact this
      | some q =>
        obtain ⟨b, vs⟩ := q
        simp only [knownA] at h
        split at h
        · rename_i x hx
          cases h
          have := hknown k _ _ _ _ hk φ M w (a' ++ args' ++ b') hM0 (by intro b' vs' hb'; cases hb'; exact ⟨x, hM0 _ _ hx⟩) hR hall
          have e : over (H.put b (.cells vs)) M = turned M (some (b, vs)) := by
            funext c
            have hb := get_lt hw (b := b) (by rw [hx]; simp)
            obtain ⟨_, h2, h3⟩ := put_spec (.cells vs) hw hx (by simp)
            unfold over turned
            rw [h2, h3]
            unfold upd
            by_cases hc : c = b
            · subst hc
              simp [hb]
            · by_cases hl : c < H.next
              · simp [hc, hl, hE c hl]
              · simp [hc, hl]
          rw [e]
          exact this
        · cases h
    · split at h
      · cases h
      · rename_i F hF'
        obtain ⟨fn, g1, g2⟩ := hfuncs k F hF'
        exact fn_ok hcs hgo g1 g2 h hw hE hF hR hall
  · rename_i l
    split at h
    case isFalse => cases h
    cases hf with
    | yield _ loc _ _ hl _ _ => exact yield_ok hcs hgo h hw hE hF hR hl ha
  · cases h

theorem all_sound (hE : ∀ a b, C.eqb a b = true → a = b) (hmo : P.follows .mixedOrders = true) (hfuncs : FuncsOK P C) (hknown : KnownOK P C) : ∀ n, CallsOK P C (orc C n) ∧ CodesOK P C (orc C n) := by
  intro n
  induction n using Nat.strongRecOn with
  | _ n ih =>
    have hloop : LoopsOK P C (orc C n) := loops_ok n fun m hm => (ih m hm).2
    have hgo := all_grow (C := C) n
    have hcall : CallsOK P C (orc C n) := by
      cases n with
      | zero => intro f args H v H' h; cases h
      | succ m => exact calls_ok hfuncs hknown (ih m (Nat.lt_succ_self m)).2 (all_grow m)
    exact ⟨hcall, codes_ok hE hmo hcall hloop hgo⟩

end
end Go.Ai

namespace Go.Ai
open Go.RowKit

/-! ### a test of two objects -/
def natOptEqb : Option Nat → Option Nat → Bool
  | none, none => true
  | some a, some b => Nat.beq a b
  | _, _ => false

theorem natOptEqb_eq {a b : Option Nat} (h : natOptEqb a b = true) : a = b := by
  cases a <;> cases b <;> simp [natOptEqb] at h <;> simp [h]

def addrEqb : Option Addr → Option Addr → Bool
  | none, none => true
  | some a, some b => Nat.beq a.block b.block && (Nat.beq a.off b.off && natOptEqb a.spot b.spot)
  | _, _ => false

theorem addrEqb_eq {a b : Option Addr} (h : addrEqb a b = true) : a = b := by
  cases a with
  | none => cases b <;> simp [addrEqb] at h; rfl
  | some a => cases b with
    | none => simp [addrEqb] at h
    | some b =>
      obtain ⟨x, y, z⟩ := a
      obtain ⟨x', y', z'⟩ := b
      simp [addrEqb] at h
      obtain ⟨rfl, rfl, h⟩ := h
      rw [natOptEqb_eq h]

theorem bytesEq_eq : ∀ {a b : List UInt8}, bytesEq a b = true → a = b
  | [], [], _ => rfl
  | [], _ :: _, h => by simp [bytesEq] at h
  | _ :: _, [], h => by simp [bytesEq] at h
  | x :: r, y :: s, h => by
    simp [bytesEq] at h
    rw [bytesEq_eq h.2, UInt8.toNat_inj.1 h.1]

def kindEqb (a b : IntKind) : Bool := decide (a = b)

def valEqb : Value → Value → Bool
  | .bool a, .bool b => a == b
  | .int k n, .int l m => kindEqb k l && decide (n = m)
  | .string s, .string t => bytesEq s.data.toList t.data.toList
  | .pointer a, .pointer b => addrEqb a b
  | .slice a n c, .slice b m d => addrEqb a b && (Nat.beq n m && Nat.beq c d)
  | .map a, .map b => natOptEqb a b
  | .nilFunc, .nilFunc => true
  | .nilIface, .nilIface => true
  | .func (.func f) a b, .func (.func g) c d => Nat.beq f g && ((a.isEmpty && b.isEmpty) && (c.isEmpty && d.isEmpty))
  | _, _ => false

theorem valEqb_eq {a b : Value} (h : valEqb a b = true) : a = b := by
  unfold valEqb at h
  split at h
  · simp at h; rw [h]
  · simp [kindEqb] at h; rw [h.1, h.2]
  · rename_i s t
    obtain ⟨⟨s⟩⟩ := s
    obtain ⟨⟨t⟩⟩ := t
    rw [show s = t from bytesEq_eq h]
  · rw [addrEqb_eq h]
  · simp at h; rw [addrEqb_eq h.1, h.2.1, h.2.2]
  · rw [natOptEqb_eq h]
  · rfl
  · rfl
  · simp at h
    obtain ⟨rfl, ⟨rfl, rfl⟩, rfl, rfl⟩ := h
    rfl
  · cases h

def listEqb {α : Type} (f : α → α → Bool) : List α → List α → Bool
  | [], [] => true
  | a :: r, b :: s => f a b && listEqb f r s
  | _, _ => false

theorem listEqb_eq {α : Type} {f : α → α → Bool} (hf : ∀ a b, f a b = true → a = b) : ∀ {a b : List α}, listEqb f a b = true → a = b
  | [], [], _ => rfl
  | [], _ :: _, h => by simp [listEqb] at h
  | _ :: _, [], h => by simp [listEqb] at h
  | x :: r, y :: s, h => by
    simp [listEqb] at h
    rw [hf _ _ h.1, listEqb_eq hf h.2]

def verEqb (a b : AVer) : Bool := Nat.beq a.esz b.esz && listEqb valEqb a.cells b.cells

theorem verEqb_eq (a b : AVer) (h : verEqb a b = true) : a = b := by
  obtain ⟨x, y⟩ := a
  obtain ⟨x', y'⟩ := b
  simp [verEqb] at h
  rw [h.1, listEqb_eq (fun _ _ => valEqb_eq) h.2]

def objEqb : AObj → AObj → Bool
  | .raw, .raw => true
  | .cells a, .cells b => listEqb verEqb a b
  | .deferred a, .deferred b => a == b
  | .map a, .map b => listEqb (fun x y => valEqb x.1 y.1 && valEqb x.2 y.2) a b
  | _, _ => false

theorem objEqb_eq (a b : AObj) (h : objEqb a b = true) : a = b := by
  unfold objEqb at h
  split at h
  · rfl
  · rw [listEqb_eq verEqb_eq h]
  · simp at h; rw [h]
  · rw [listEqb_eq (fun x y h => by
      simp at h
      exact Prod.ext (valEqb_eq h.1) (valEqb_eq h.2)) h]
  · cases h

/-! ### the functions of a program -/
def funcsFrom (P : Program) : List Nat → Trie IFunc → Trie IFunc
  | [], t => t
  | k :: r, t => match (P.funcs[k]?).bind (compFunc P) with
    | some g => funcsFrom P r (t.put k g)
    | none => funcsFrom P r t

theorem funcsFrom_ok (P : Program) : ∀ (l : List Nat) (t : Trie IFunc), (∀ k F, t.get k = some F → ∃ fn, P.funcs[k]? = some fn ∧ compFunc P fn = some F) →
    ∀ k F, (funcsFrom P l t).get k = some F → ∃ fn, P.funcs[k]? = some fn ∧ compFunc P fn = some F
  | [], t, h => h
  | i :: r, t, h => by
    intro k F
    rw [funcsFrom]
    split
    · rename_i g hg
      refine funcsFrom_ok P r _ (fun k F hk => ?_) k F
      rw [Trie.get_put] at hk
      split at hk
      · rename_i he
        cases hk
        subst he
        simpa [Option.bind_eq_some_iff] using hg
      · exact h k F hk
    · exact funcsFrom_ok P r t h k F

/-- The context of a closed call. -/
def ctxOf (P : Program) (n : Nat) (known : FuncId → List Value → (Nat → Option AObj) → Option (Value × Option (Nat × List AVer))) (w : World) : Ctx := { funcs := funcsFrom P (List.range n) .leaf, w0 := w, known, eqb := objEqb }

theorem ctxOf_funcs (P : Program) (n : Nat) (known : FuncId → List Value → (Nat → Option AObj) → Option (Value × Option (Nat × List AVer))) (w : World) : FuncsOK P (ctxOf P n known w) := funcsFrom_ok P _ .leaf (by simp)

def isTrue : Option (Value × AHeap) → Bool
  | some (.bool b, _) => b
  | _ => false

def emptyHeap : AHeap := { base := 0, t := .leaf, cnt := 0 }

section
variable {P : Program} {C : Ctx} {φ : Phi} {M : Nat → Option AObj} {w w' : World}

/-- The relation abides where nothing old has turned. -/
theorem R.below (h : R P C φ M w) (hb : Below w.heap.size w w') : R P C φ M w' := by
  have hbl : ∀ g k l, φ g k = some l → w'.heap[l.cb]? = w.heap[l.cb]? := fun g k l hl => hb.block _ (h.bound g k l hl)
  refine ⟨hb.os.trans h.os, hb.tape.trans h.tape, hb.output.trans h.output, Nat.le_trans h.size hb.size, fun g o hM => ?_, h.inj, fun g k l hl => Nat.lt_of_lt_of_le (h.bound g k l hl) hb.size, h.dom⟩
  exact (h.obj g o hM).frame (Phi.le_refl φ) (fun _ => rfl) fun k l hl => hbl g k l hl

/-- A closed call that is known. -/
theorem known_of {k : FuncId} {v : Value} (hc : ∀ w : World, CallsIn Fence.wide 0 P k #[] w (retPost fun v' w' => v' = v ∧ Below w.heap.size w w')) (hcf : ∀ w, (callFunc k #[]).run P w = .ok (.enter k #[]) w) (hv : cleanS 0 v = true) {φ : Phi} {M : Nat → Option AObj} {w : World} (hR : R P C φ M w) :
    (callFunc k #[]).run P w = .ok (.enter k #[]) w ∧ CallsIn Fence.wide 0 P k #[] w (retPost fun v' w' => ∃ φ', φ.le φ' ∧ VRel φ' v v' ∧ R P C φ' M w') := by
  refine ⟨hcf w, (hc w).mono fun e w' he => ?_⟩
  cases e with
  | panicked _ => exact he
  | outgrown => exact he
  | returned v' =>
    obtain ⟨rfl, hb⟩ := he
    exact ⟨φ, Phi.le_refl φ, cleanS_rel (old_zero φ) hv, hR.below hb⟩

/-- **A CLOSED CALL.** -/
theorem closed_true (hmo : P.follows .mixedOrders = true) {n m : Nat} {k : FuncId} {known : FuncId → List Value → (Nat → Option AObj) → Option (Value × Option (Nat × List AVer))} (w : World) (hknown : KnownOK P (ctxOf P n known w))
    (h : isTrue (run (ctxOf P n known w) m k [] emptyHeap) = true) :
    (callFunc k #[]).run P w = .ok (.enter k #[]) w ∧ CallsIn Fence.wide 0 P k #[] w (retPost fun v w' => v = .bool true ∧ Below w.heap.size w w') := by
  obtain ⟨H', hrun⟩ : ∃ H', run (ctxOf P n known w) m k [] emptyHeap = some (.bool true, H') := by
    unfold isTrue at h
    split at h
    · rename_i b H' hr
      subst h
      exact ⟨H', hr⟩
    · cases h
  have hs := (all_sound (C := ctxOf P n known w) objEqb_eq hmo (ctxOf_funcs P n known w) hknown m).1 _ _ _ _ _ hrun (fun i _ => Trie.get_leaf i)
  let M0 : Nat → Option AObj := fun b => if b < H'.next then none else (w.heap[b - H'.next]?).map .exact
  let φ0 : Phi := fun g k => if k = 0 ∧ H'.next ≤ g ∧ g - H'.next < w.heap.size then some (idLoc (g - H'.next)) else none
  have hφ : ∀ g k l, φ0 g k = some l → k = 0 ∧ H'.next ≤ g ∧ g - H'.next < w.heap.size ∧ l = idLoc (g - H'.next) := by
    intro g k l hl
    simp only [φ0] at hl
    split at hl
    · rename_i hc
      cases hl
      exact ⟨hc.1, hc.2.1, hc.2.2, rfl⟩
    · cases hl
  have hR : R P (ctxOf P n known w) φ0 M0 w := by
    refine ⟨rfl, rfl, rfl, Nat.le_refl _, fun g o hM => ?_, fun g g' o o' k k' l l' hM hM' hl hl' hcb => ?_, fun g k l hl => ?_, fun g k l hl => ?_⟩
    · simp only [M0] at hM
      split at hM
      · cases hM
      · rename_i hlt
        simp only [Option.map_eq_some_iff] at hM
        obtain ⟨ob, hob, rfl⟩ := hM
        have hsz := (Array.getElem?_eq_some_iff.1 hob).1
        exact ⟨idLoc (g - H'.next), by show (if 0 = 0 ∧ H'.next ≤ g ∧ g - H'.next < w.heap.size then some (idLoc (g - H'.next)) else none) = _; rw [if_pos ⟨rfl, by omega, hsz⟩], hob⟩
    · obtain ⟨_, h2, _, rfl⟩ := hφ _ _ _ hl
      obtain ⟨_, g2, _, rfl⟩ := hφ _ _ _ hl'
      simp [idLoc] at hcb
      omega
    · obtain ⟨_, h2, h3, rfl⟩ := hφ _ _ _ hl
      exact h3
    · obtain ⟨_, h2, h3, rfl⟩ := hφ _ _ _ hl
      simp only [M0]
      rw [if_neg (by omega), Array.getElem?_eq_getElem h3]
      simp
  have hup := hs.2 φ0 M0 w (.func (.func k) #[] #[]) #[] (fun b hb => absurd hb (Nat.not_lt_zero b)) (fun b _ hb => by simp only [M0]; rw [if_pos hb]) hR (.func _ _ _ _ _ .nil .nil) .nil
  obtain ⟨h1, h2⟩ := hup
  refine ⟨by simpa using h1, ?_⟩
  rw [show (#[] ++ #[] ++ #[] : Array Value) = #[] from rfl] at h2
  refine h2.mono fun e w' he => ?_
  cases e with
  | panicked _ => exact he
  | outgrown => exact he
  | returned v =>
    obtain ⟨φ', hle, hv, hR'⟩ := he
    refine ⟨bool_inv hv, hR'.os, hR'.tape, hR'.output, hR'.size, fun b hb => ?_⟩
    have hg : over H' M0 (b + H'.next) = some (.exact w.heap[b]) := by
      unfold over
      rw [if_neg (by omega)]
      simp only [M0]
      rw [if_neg (by omega), Nat.add_sub_cancel, Array.getElem?_eq_getElem hb]
      rfl
    obtain ⟨l, q1, q2⟩ := hR'.obj _ _ hg
    have hl0 : φ0 (b + H'.next) 0 = some (idLoc b) := by
      show (if 0 = 0 ∧ H'.next ≤ b + H'.next ∧ b + H'.next - H'.next < w.heap.size then some (idLoc (b + H'.next - H'.next)) else none) = _
      rw [if_pos ⟨rfl, by omega, by omega⟩, Nat.add_sub_cancel]
    rw [hle _ _ _ hl0] at q1
    cases q1
    rw [show (idLoc b).cb = b from rfl] at q2
    rw [q2, Array.getElem?_eq_getElem hb]

theorem no_known (P : Program) (C : Ctx) (h : C.known = fun _ _ _ => none) : KnownOK P C := by
  intro k as M0 v p hk
  rw [h] at hk
  cases hk

theorem calls_of_ret {k : FuncId} {args : Array Value} {K : Value → World → Prop} (h : CallsIn Fence.wide 0 P k args w (retPost K)) : Calls P k args w fun e w' => ∃ v, e = .returned v ∧ K v w' :=
  (callsIn_wide.1 h).mono fun e w' he => by
    cases e with
    | panicked _ => exact he.elim
    | outgrown => exact he.elim
    | returned v => exact ⟨v, rfl, he⟩

end
end Go.Ai
