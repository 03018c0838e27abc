/-
  Regions: in their own order, and in whatever order.
-/
import Derived.Test.YtlikgpehalhgkaaAiWalk
namespace Go.Ai

theorem over_over {H H' : AHeap} (h : H.next ≤ H'.next) (M : Nat → Option AObj) : over H' (over H M) = over H' M := by
  funext b
  unfold over
  split
  · rfl
  · rw [if_neg (by omega)]

theorem over_self {H : AHeap} {M : Nat → Option AObj} (h : Ext H M) : over H M = M := by
  funext b
  unfold over
  split
  · exact (h b (by assumption)).symm
  · rfl

theorem ext_over (H : AHeap) (M : Nat → Option AObj) : Ext H (over H M) := fun b hb => by unfold over; rw [if_pos hb]

theorem Fresh.left {H H1 H2 : AHeap} {M : Nat → Option AObj} (h : Fresh H H2 M) (g : Grow H1 H2) : Fresh H H1 M := fun b h1 h2 => h b h1 (Nat.lt_of_lt_of_le h2 g.next)
theorem Fresh.right {H H1 H2 : AHeap} {M : Nat → Option AObj} (h : Fresh H H2 M) (g : Grow H H1) : Fresh H1 H2 (over H1 M) := fun b h1 h2 => by
  unfold over
  rw [if_neg (by omega)]
  exact h b (Nat.le_trans g.next h1) h2

theorem Grow.refl (H : AHeap) : Grow H H := ⟨rfl, Nat.le_refl _, fun h => h⟩
theorem Grow.trans {a b c : AHeap} (h : Grow a b) (k : Grow b c) : Grow a c := ⟨k.base.trans h.base, Nat.le_trans h.cnt k.cnt, fun x => k.wf (h.wf x)⟩

section
variable {P : Program} {C : Ctx} {o : Orc} {ops : Array Oper} {ro : Option Nat} {nt : Nat} {Q : Exit → Act → World → Prop}

theorem CallsOK.grow (h : CallsOK P C o) : ∀ f as H v H', o.call f as H = some (v, H') → WF H → Grow H H' := fun f as H v H' hc hw => (h f as H v H' hc hw).1

theorem ops_grow (hcall : CallsOK P C o) : ∀ (xs : List IOper) (T : Env) (H : AHeap) (T' : Env) (H' : AHeap), opsA C o xs T H = some (T', H') → WF H → Grow H H'
  | [], T, H, T', H', h, _ => by simp only [opsA, Option.some.injEq, Prod.mk.injEq] at h; obtain ⟨_, rfl⟩ := h; exact .refl _
  | x :: r, T, H, T', H', h, hw => by
    simp only [opsA] at h
    split at h
    · rename_i T1 H1 i hs
      have g1 := (step_ev hcall.grow hw hs).1
      exact g1.trans (ops_grow hcall r T1 H1 T' H' h (g1.wf hw))
    · cases h

/-- What is asked behind a piece of code that has been walked. -/
def Then (P : Program) (C : Ctx) (φ : Phi) (a : Act) (T' : Nat → Value) (M' : Nat → Option AObj) (K : Act → World → Prop) : Prop :=
  ∀ φ' a' w', φ.le φ' → TRel φ' T' a'.tmps → R P C φ' M' w' → a'.tmps.size = a.tmps.size → a'.defers = a.defers → K a' w'

theorem ops_sound (hcall : CallsOK P C o) : ∀ (n k : Nat), k + n = ops.size → ∀ (T : Env) (H : AHeap) (T' : Env) (H' : AHeap) (φ : Phi) (M : Nat → Option AObj) (a : Act) (w : World),
    opsA C o ((ops.toList.drop k).map (compOper P nt ops)) T H = some (T', H') → WF H → Ext H M → Fresh H H' M → TRel φ T.val a.tmps → R P C φ M w → nt ≤ a.tmps.size →
    Then P C φ a T'.val (over H' M) (Q .normal) → wpOpsIn (fen ro) 0 P ops Q (List.range' k n) a w := by
  intro n
  induction n with
  | zero =>
    intro k hk T H T' H' φ M a w h hw hE hF hT hR hnt hK
    have : ops.toList.drop k = [] := List.drop_eq_nil_of_le (by simp; omega)
    rw [this] at h
    simp only [List.map_nil, opsA, Option.some.injEq, Prod.mk.injEq] at h
    obtain ⟨rfl, rfl⟩ := h
    rw [over_self hE] at hK
    exact hK φ a w (Phi.le_refl φ) hT hR rfl rfl
  | succ n ih =>
    intro k hk T H T' H' φ M a w h hw hE hF hT hR hnt hK
    have hlt : k < ops.toList.length := by simp; omega
    rw [List.drop_eq_getElem_cons hlt] at h
    simp only [List.map_cons, opsA] at h
    split at h
    · rename_i T1 H1 i hs
      obtain ⟨g1, hev⟩ := step_ev hcall.grow hw hs
      have g2 := ops_grow hcall _ _ _ _ _ h (g1.wf hw)
      obtain ⟨e, _, hok, hT1, hM1, _⟩ := hev M hE (hF.left g2)
      rw [List.range'_succ, wpOpsIn_cons]
      refine ev_sound hcall (nt := nt) (oo := ops.toList[k]) (by simp [Array.getElem?_eq_getElem (show k < ops.size by omega)]) rfl hok hT hR hnt fun φ' a' w' hle hT' hR' hsz hdf => ?_
      rw [← hT1] at hT'
      rw [hM1] at hR'
      refine ih (k + 1) (by omega) T1 H1 T' H' φ' (over H1 M) a' w' h (g1.wf hw) (ext_over _ _) (hF.right g1) hT' hR' (hsz ▸ hnt) fun φ2 a2 w2 hle2 hT2 hR2 hsz2 hdf2 => ?_
      rw [over_over g2.next] at hR2
      exact hK φ2 a2 w2 (Phi.le_trans hle hle2) hT2 hR2 (hsz2.trans hsz) (hdf2.trans hdf)
    · cases h

theorem region_sound (hcall : CallsOK P C o) {id : Nat} {T : Env} {H : AHeap} {T' : Env} {H' : AHeap} {φ : Phi} {M : Nat → Option AObj} {a : Act} {w : World}
    (h : opsA C o (ops.toList.map (compOper P nt ops)) T H = some (T', H')) (hw : WF H) (hE : Ext H M) (hF : Fresh H H' M) (hT : TRel φ T.val a.tmps) (hR : R P C φ M w) (hnt : nt ≤ a.tmps.size)
    (hK : Then P C φ a T'.val (over H' M) (Q .normal)) : (Code.region id ops false).wpIn (fen ro) 0 P Q a w := by
  refine wpIn_region ?_
  rw [List.range_eq_range']
  exact ops_sound hcall ops.size 0 (by omega) T H T' H' φ M a w (by simpa using h) hw hE hF hT hR hnt hK

/-! ### whatever order -/
def PairP (C : Ctx) (ms : List Nat) (k e : Ev) : Prop := k.idx ≠ e.idx ∧ ((ms.getD e.idx 0).testBit k.idx = true ∨ Free C k e)

theorem pairs_spec {ms : List Nat} {e : Nat × IOper × List Nat} : ∀ {l : List (Nat × IOper × List Nat)} {d : Nat}, pairsOK ms e d l = true → ∀ (j : Nat) (k : Nat × IOper × List Nat), l[j]? = some k → pairOK ms (d + j) k e = true
  | [], _, _, j, k, hk => by simp at hk
  | x :: r, d, h, j, k, hk => by
    simp only [pairsOK, Bool.and_eq_true] at h
    cases j with
    | zero => simp at hk; subst hk; exact h.1
    | succ j =>
      simp at hk
      have := pairs_spec h.2 j k hk
      rwa [show d + 1 + j = d + (j + 1) by omega] at this

theorem freeAll_spec {log : List Info} {i : Info} : ∀ {un : List Nat}, freeAll C log i un = true → ∀ d ∈ un, ∃ k, log[d]? = some k ∧ free C k i = true
  | [], _, d, hd => by simp at hd
  | x :: r, h, d, hd => by
    simp only [freeAll] at h
    split at h
    · rename_i k hk
      simp only [Bool.and_eq_true] at h
      rcases List.mem_cons.1 hd with rfl | hd
      · exact ⟨k, hk, h.1⟩
      · exact freeAll_spec h.2 d hd
    · cases h

theorem notIn_spec {d : Option Nat} {l : List Nat} (h : notIn d l = true) : ∀ k, d = some k → k ∉ l := by
  rintro k rfl hm
  have := List.all_eq_true.1 h k hm
  simp at this

theorem clash_spec {a b : Option Nat} (h : (!clash a b) = true) : ∀ d, a = some d → b ≠ some d := by
  rintro d rfl rfl
  simp [clash] at h

theorem pair_free {ms : List Nat} {d : Nat} {k e : Nat × IOper × List Nat} {ek ee : Ev} (h : pairOK ms d k e = true) (hk : ek.idx = k.1 ∧ ek.x = k.2.1) (he : ee.idx = e.1 ∧ ee.x = e.2.1)
    (hpk : isPure ek.x.op = true → ek.eff.info = .exp [] []) (hpe : isPure ee.x.op = true → ee.eff.info = .exp [] []) (hfree : d ∈ e.2.2 → free C ek.eff.info ee.eff.info = true) : PairP C ms ek ee := by
  simp only [pairOK, Bool.and_eq_true, Bool.or_eq_true, Bool.not_eq_true'] at h
  obtain ⟨h0, h⟩ := h
  refine ⟨(by rw [hk.1, he.1]; intro hh; rw [hh, Nat.beq_refl] at h0; cases h0), ?_⟩
  rw [hk.1, he.1]
  rcases h with h | ⟨h1, h2, h3, h4⟩
  · exact .inl h
  · refine .inr ⟨⟨?_, ?_, ?_⟩, ?_⟩
    · rw [hk.2, he.2]; exact notIn_spec h1
    · rw [hk.2, he.2]; exact notIn_spec h2
    · rw [hk.2, he.2]; exact clash_spec (by simpa using h3)
    · rcases h4 with h4 | h4 | h4
      · exact .inr (.inl (hpk (by rw [hk.2]; exact h4)))
      · exact .inr (.inr (hpe (by rw [he.2]; exact h4)))
      · refine .inl (hfree ?_)
        obtain ⟨x, hx, hb⟩ := List.any_eq_true.1 h4
        simp at hb
        rw [hb]
        exact hx

theorem dops_grow (hcall : CallsOK P C o) : ∀ (es : List (Nat × IOper × List Nat)) (log : List Info) (T : Env) (H : AHeap) (T' : Env) (H' : AHeap), dopsA C o es log T H = some (T', H') → WF H → Grow H H'
  | [], _, T, H, T', H', h, _ => by simp only [dopsA, Option.some.injEq, Prod.mk.injEq] at h; obtain ⟨_, rfl⟩ := h; exact .refl _
  | (_, x, un) :: r, log, T, H, T', H', h, hw => by
    simp only [dopsA] at h
    split at h
    · rename_i T1 H1 i hs
      have g1 := (step_ev hcall.grow hw hs).1
      split at h
      · exact g1.trans (dops_grow hcall r _ T1 H1 T' H' h (g1.wf hw))
      · cases h
    · cases h

/-- The evaluator's one order, as a row of events. -/
theorem dops_runs (hcall : CallsOK P C o) {ms : List Nat} : ∀ (es done : List (Nat × IOper × List Nat)) (past : List Ev) (log : List Info) (T : Env) (H : AHeap) (T' : Env) (H' : AHeap) (M : Nat → Option AObj),
    dopsA C o es log T H = some (T', H') → planFrom ms done es = true → past.length = done.length → (∀ (j : Nat) (p : Ev), past[j]? = some p → ∃ k, done[j]? = some k ∧ p.idx = k.1 ∧ p.x = k.2.1) → past.map (·.eff.info) = log →
    (∀ p ∈ past, isPure p.x.op = true → p.eff.info = .exp [] []) → WF H → Ext H M → Fresh H H' M →
    ∃ L : List Ev, L.length = es.length ∧ (∀ (j : Nat) (p : Ev), L[j]? = some p → ∃ k, es[j]? = some k ∧ p.idx = k.1 ∧ p.x = k.2.1) ∧ Runs C o L T.val M T'.val (over H' M) ∧ L.Pairwise (PairP C ms) ∧ ∀ k ∈ past, ∀ e ∈ L, PairP C ms k e := by
  intro es
  induction es with
  | nil =>
    intro done past log T H T' H' M h _ _ _ _ _ _ hE _
    simp only [dopsA, Option.some.injEq, Prod.mk.injEq] at h
    obtain ⟨rfl, rfl⟩ := h
    exact ⟨[], rfl, by simp, ⟨rfl, (over_self hE).symm⟩, .nil, by simp⟩
  | cons y r ih =>
    obtain ⟨i, x, un⟩ := y
    intro done past log T H T' H' M h hplan hlen hpast hlog hpure hw hE hF
    simp only [dopsA] at h
    split at h
    · rename_i T1 H1 info hs
      split at h
      · rename_i hfree
        obtain ⟨g1, hev⟩ := step_ev hcall.grow hw hs
        have g2 := dops_grow hcall _ _ _ _ _ _ h (g1.wf hw)
        obtain ⟨e, hinfo, hok, hT1, hM1, hpe⟩ := hev M hE (hF.left g2)
        simp only [planFrom, Bool.and_eq_true] at hplan
        obtain ⟨hp1, hp2⟩ := hplan
        let E : Ev := ⟨i, x, e⟩
        have hpurE : isPure E.x.op = true → E.eff.info = .exp [] [] := fun hh => by
          show e.info = _
          rw [hinfo]; exact hpe hh
        have hpastE : ∀ k ∈ past, PairP C ms k E := by
          intro k hk
          obtain ⟨j, hj⟩ := List.getElem?_of_mem hk
          obtain ⟨d, hd, hd1, hd2⟩ := hpast j k hj
          have hpo := pairs_spec hp1 j d hd
          rw [Nat.zero_add] at hpo
          refine pair_free hpo ⟨hd1, hd2⟩ ⟨rfl, rfl⟩ (hpure k hk) hpurE fun hju => ?_
          obtain ⟨ki, hki, hfr⟩ := freeAll_spec hfree j hju
          rw [← hlog] at hki
          simp only [List.getElem?_map, hj, Option.map_some, Option.some.injEq] at hki
          show free C k.eff.info e.info = true
          rw [hki, hinfo]; exact hfr
        obtain ⟨L, hL1, hL2, hL3, hL4, hL5⟩ := ih ((i, x, un) :: done) (E :: past) (info :: log) T1 H1 T' H' (over H1 M) h hp2 (by simp [hlen])
          (fun j p hj => by
            cases j with
            | zero => simp only [List.getElem?_cons_zero, Option.some.injEq] at hj ⊢; subst hj; exact ⟨_, rfl, rfl, rfl⟩
            | succ j => simp only [List.getElem?_cons_succ] at hj ⊢; exact hpast j p hj)
          (by simp only [List.map_cons, hlog]; congr 1)
          (fun p hp => by rcases List.mem_cons.1 hp with rfl | hp; exact hpurE; exact hpure p hp)
          (g1.wf hw) (ext_over _ _) (hF.right g1)
        refine ⟨E :: L, by simp [hL1], fun j p hj => ?_, ⟨hok, ?_⟩, ?_, fun k hk e' he' => ?_⟩
        · cases j with
          | zero => simp only [List.getElem?_cons_zero, Option.some.injEq] at hj ⊢; subst hj; exact ⟨_, rfl, rfl, rfl⟩
          | succ j => simp only [List.getElem?_cons_succ] at hj ⊢; exact hL2 j p hj
        · rw [over_over g2.next] at hL3
          show Runs C o L (upT T.val x.dst e.val) (e.mem M) T'.val (over H' M)
          rw [← hT1, hM1]
          exact hL3
        · exact List.pairwise_cons.2 ⟨fun e' he' => hL5 E (by simp) e' he', hL4⟩
        · rcases List.mem_cons.1 he' with rfl | he'
          · exact hpastE k hk
          · exact hL5 k (List.mem_cons_of_mem _ hk) e' he'
      · cases h
    · cases h

/-! ### the masks -/
theorem hard_binds (e : Edge) : Region.binds .any e = hard e := by
  unfold Region.binds hard
  cases e.ground <;> rfl

theorem maskOf_bit {acc : List Nat} {k : Nat} : ∀ {es : List Edge}, (maskOf acc es).testBit k = true → ∃ e ∈ es, hard e = true ∧ (k = e.on ∨ (acc.getD e.on 0).testBit k = true)
  | [], h => by simp [maskOf] at h
  | e :: r, h => by
    simp only [maskOf] at h
    split at h
    · rename_i hh
      simp only [Nat.testBit_or, Bool.or_eq_true, Nat.testBit_two_pow, decide_eq_true_eq] at h
      rcases h with (h | h) | h
      · exact ⟨e, by simp, hh, .inl h.symm⟩
      · exact ⟨e, by simp, hh, .inr h⟩
      · obtain ⟨e', h1, h2⟩ := maskOf_bit h
        exact ⟨e', List.mem_cons_of_mem _ h1, h2⟩
    · obtain ⟨e', h1, h2⟩ := maskOf_bit h
      exact ⟨e', List.mem_cons_of_mem _ h1, h2⟩

theorem masks_keep : ∀ (l : List Oper) (acc : List Nat) (i : Nat), i < acc.length → (masks l acc)[i]? = acc[i]?
  | [], _, _, _ => rfl
  | o :: r, acc, i, h => by
    simp only [masks]
    rw [masks_keep r _ i (by simp; omega), List.getElem?_append_left h]

theorem masks_at : ∀ (l : List Oper) (acc : List Nat) (j : Nat) (o : Oper), l[j]? = some o → (masks l acc)[acc.length + j]? = some (maskOf ((masks l acc).take (acc.length + j)) o.after.toList)
  | [], _, j, o, h => by simp at h
  | x :: r, acc, j, o, h => by
    simp only [masks]
    cases j with
    | zero =>
      simp at h
      subst h
      rw [Nat.add_zero, masks_keep r _ _ (by simp)]
      have : (masks r (acc ++ [maskOf acc x.after.toList])).take acc.length = acc := by
        apply List.ext_getElem?
        intro i
        rw [List.getElem?_take]
        split
        · rename_i hi
          rw [masks_keep r _ i (by simp; omega), List.getElem?_append_left hi]
        · rename_i hi
          rw [List.getElem?_eq_none (by omega)]
      rw [this]
      simp
    | succ j =>
      simp at h
      have := masks_at r (acc ++ [maskOf acc x.after.toList]) j o h
      rw [List.length_append, List.length_singleton, show acc.length + 1 + j = acc.length + (j + 1) by omega] at this
      exact this

theorem masks_bit {i k : Nat} {oo : Oper} (ho : ops[i]? = some oo) (h : ((masks ops.toList []).getD i 0).testBit k = true) :
    ∃ e ∈ oo.after, hard e = true ∧ (k = e.on ∨ ((masks ops.toList []).getD e.on 0).testBit k = true) := by
  have hm := masks_at ops.toList [] i oo (by simpa using ho)
  simp only [List.length_nil, Nat.zero_add] at hm
  rw [List.getD_eq_getElem?_getD, hm] at h
  obtain ⟨e, h1, h2, h3⟩ := maskOf_bit h
  refine ⟨e, by simpa using h1, h2, h3.imp id fun h => ?_⟩
  rw [List.getD_eq_getElem?_getD, List.getElem?_take] at h
  rw [List.getD_eq_getElem?_getD]
  split at h
  · exact h
  · simp at h

theorem edges_spec : ∀ {l : List Oper} {i : Nat}, edgesOK i l = true → ∀ (j : Nat) (oo : Oper), l[j]? = some oo → ∀ e ∈ oo.after, hard e = true → e.on < i + j
  | [], _, _, j, oo, h, _, _, _ => by simp at h
  | x :: r, i, hok, j, oo, h, e, he, hh => by
    simp only [edgesOK, Bool.and_eq_true] at hok
    cases j with
    | zero =>
      simp at h
      subst h
      have := List.all_eq_true.1 hok.1 e (by simpa using he)
      rw [hh] at this
      simpa using this
    | succ j =>
      simp at h
      have := edges_spec hok.2 j oo h e he hh
      omega

/-- All orders lead to the same end. -/
theorem any_sound (hE : ∀ a b, C.eqb a b = true → a = b) (hcall : CallsOK P C o) {ms : List Nat} (hms : ms = masks ops.toList []) (hedge : edgesOK 0 ops.toList = true) {Tf : Nat → Value} {Mf : Nat → Option AObj} :
    ∀ (fuel : Nat) (L : List Ev) (listed : Array Bool) (φ : Phi) (T : Nat → Value) (M : Nat → Option AObj) (a : Act) (w : World),
      Runs C o L T M Tf Mf → L.Pairwise (PairP C ms) → (∀ e ∈ L, ∃ oo, ops[e.idx]? = some oo ∧ e.x = compOper P nt ops oo) → listed.size = ops.size → (∀ i, i < ops.size → (listed[i]? = some false ↔ ∃ e ∈ L, e.idx = i)) →
      (∀ i k, listed[i]? = some true → (ms.getD i 0).testBit k = true → listed[k]? = some true) → L.length ≤ fuel → TRel φ T a.tmps → R P C φ M w → nt ≤ a.tmps.size →
      Then P C φ a Tf Mf (Q .normal) → wpAnyIn (fen ro) 0 P .any ops Q fuel listed a w := by
  intro fuel
  have done : ∀ (L : List Ev) (listed : Array Bool) (φ : Phi) (T : Nat → Value) (M : Nat → Option AObj) (a : Act) (w : World),
      L = [] → Runs C o L T M Tf Mf → TRel φ T a.tmps → R P C φ M w → Then P C φ a Tf Mf (Q .normal) → Q .normal a w := by
    rintro L listed φ T M a w rfl ⟨rfl, rfl⟩ hT hR hK
    exact hK φ a w (Phi.le_refl φ) hT hR rfl rfl
  induction fuel with
  | zero =>
    intro L listed φ T M a w hrun _ _ hsz hlist _ hlen hT hR _ hK
    have hL : L = [] := List.length_eq_zero_iff.1 (by omega)
    refine ⟨?_, done L listed φ T M a w hL hrun hT hR hK⟩
    rw [List.eq_nil_iff_forall_not_mem]
    intro i hi
    obtain ⟨h1, oo, h2, _⟩ := mem_ready.1 hi
    have hlt : i < ops.size := (Array.getElem?_eq_some_iff.1 h2).1
    have : listed[i]? = some false := by
      rw [Array.getD_eq_getD_getElem?] at h1
      cases hh : listed[i]? with
      | none => rw [hh] at h1; cases h1
      | some b => rw [hh] at h1; simp at h1; rw [h1]
    obtain ⟨e, he, _⟩ := (hlist i hlt).1 this
    rw [hL] at he
    cases he
  | succ fuel ih =>
    intro L listed φ T M a w hrun hpair hops hsz hlist hclosed hlen hT hR hnt hK
    refine ⟨fun hready => ?_, fun i hi => ?_⟩
    · refine done L listed φ T M a w ?_ hrun hT hR hK
      have hall : ∀ i, i < ops.size → listed[i]? = some true := by
        intro i
        induction i using Nat.strongRecOn with
        | _ i ihi =>
          intro hlt
          cases hh : listed[i]? with
          | none => rw [Array.getElem?_eq_none_iff] at hh; omega
          | some b =>
            cases b with
            | true => rfl
            | false =>
              have hmem : i ∈ Region.ready .any ops listed := by
                refine mem_ready.2 ⟨by rw [Array.getD_eq_getD_getElem?, hh]; rfl, ops[i], Array.getElem?_eq_getElem hlt, fun e he hb => ?_⟩
                rw [hard_binds] at hb
                have hon := edges_spec hedge i ops[i] (by simp [Array.getElem?_eq_getElem hlt]) e he hb
                rw [Array.getD_eq_getD_getElem?, ihi e.on (by omega) (by omega)]
                rfl
              rw [hready] at hmem
              cases hmem
      rw [List.eq_nil_iff_forall_not_mem]
      intro e he
      obtain ⟨oo, h1, _⟩ := hops e he
      have hlt := (Array.getElem?_eq_some_iff.1 h1).1
      have := (hlist e.idx hlt).2 ⟨e, he, rfl⟩
      rw [hall _ hlt] at this
      cases this
    · obtain ⟨h1, oo, h2, h3⟩ := mem_ready.1 hi
      have hlt : i < ops.size := (Array.getElem?_eq_some_iff.1 h2).1
      have hfalse : listed[i]? = some false := by
        rw [Array.getD_eq_getD_getElem?] at h1
        cases hh : listed[i]? with
        | none => rw [hh] at h1; cases h1
        | some b => rw [hh] at h1; simp at h1; rw [h1]
      obtain ⟨e, he, hei⟩ := (hlist i hlt).1 hfalse
      subst hei
      obtain ⟨pre, post, rfl⟩ := List.append_of_mem he
      have hanc : ∀ k, (ms.getD e.idx 0).testBit k = true → listed[k]? = some true := by
        intro k hk
        rw [hms] at hk
        obtain ⟨ed, g1, g2, g3⟩ := masks_bit h2 hk
        have hl : listed[ed.on]? = some true := by
          have := h3 ed g1 (by rw [hard_binds]; exact g2)
          rw [Array.getD_eq_getD_getElem?] at this
          cases hh : listed[ed.on]? with
          | none => rw [hh] at this; cases this
          | some b => rw [hh] at this; simp at this; rw [this]
        rcases g3 with rfl | g3
        · exact hl
        · exact hclosed ed.on k hl (by rw [hms]; exact g3)
      have hfree : ∀ k ∈ pre, Free C k e := by
        intro k hk
        have hp : PairP C ms k e := (List.pairwise_append.1 hpair).2.2 k hk e (by simp)
        rcases hp.2 with hb | hf
        · obtain ⟨ok, hok, _⟩ := hops k (by simp [hk])
          have hkl := (Array.getElem?_eq_some_iff.1 hok).1
          have := (hlist k.idx hkl).2 ⟨k, by simp [hk], rfl⟩
          rw [hanc _ hb] at this
          cases this
        · exact hf
      obtain ⟨hok, hrest⟩ := bubble hE pre T M hfree hrun
      obtain ⟨oo', ho', hx'⟩ := hops e he
      have hne : ∀ k ∈ pre ++ post, k.idx ≠ e.idx := by
        intro k hk
        rcases List.mem_append.1 hk with hk | hk
        · exact ((List.pairwise_append.1 hpair).2.2 k hk e (by simp)).1
        · exact Ne.symm ((List.pairwise_cons.1 (List.pairwise_append.1 hpair).2.1).1 k hk).1
      refine ev_sound hcall ho' hx' hok hT hR hnt fun φ' a' w' hle hT' hR' hs' hd' => ?_
      refine ih (pre ++ post) (listed.setIfInBounds e.idx true) φ' (e.eT T) (e.eff.mem M) a' w' hrest ?_ (fun k hk => hops k ?_) (by simp [hsz]) ?_ ?_ (by simp at hlen ⊢; omega) hT' hR' (hs' ▸ hnt) fun φ2 a2 w2 hle2 hT2 hR2 hs2 hd2 => ?_
      · rw [List.pairwise_append] at hpair ⊢
        exact ⟨hpair.1, (List.pairwise_cons.1 hpair.2.1).2, fun x hx y hy => hpair.2.2 x hx y (List.mem_cons_of_mem _ hy)⟩
      · rcases List.mem_append.1 hk with hk | hk <;> simp [hk]
      · intro j hj
        by_cases hje : j = e.idx
        · subst hje
          rw [Array.getElem?_setIfInBounds_self_of_lt (by omega)]
          constructor
          · intro h; cases h
          · rintro ⟨k, hk, hke⟩; exact absurd hke (hne k hk)
        · rw [Array.getElem?_setIfInBounds_ne (Ne.symm hje), hlist j hj]
          constructor
          · rintro ⟨k, hk, hkj⟩
            refine ⟨k, ?_, hkj⟩
            rcases List.mem_append.1 hk with hk | hk
            · simp [hk]
            · rcases List.mem_cons.1 hk with rfl | hk
              · exact absurd hkj.symm hje
              · simp [hk]
          · rintro ⟨k, hk, hkj⟩
            refine ⟨k, ?_, hkj⟩
            rcases List.mem_append.1 hk with hk | hk <;> simp [hk]
      · intro j k hj hk
        have hkt : listed[k]? = some true := by
          by_cases hje : j = e.idx
          · subst hje; exact hanc k hk
          · rw [Array.getElem?_setIfInBounds_ne (Ne.symm hje)] at hj
            exact hclosed j k hj hk
        by_cases hke : k = e.idx
        · subst hke; rw [hkt] at hfalse; cases hfalse
        · rw [Array.getElem?_setIfInBounds_ne (Ne.symm hke)]; exact hkt
      · exact hK φ2 a2 w2 (Phi.le_trans hle hle2) hT2 hR2 (hs2.trans hs') (hd2.trans hd')

theorem planOf_spec {ms : List Nat} {xs : List IOper} : ∀ {ord : List Nat} {done : List (Nat × IOper)}, ∀ e ∈ planOf ms xs ord done, xs[e.1]? = some e.2.1
  | [], _, e, h => by simp [planOf] at h
  | i :: r, done, e, h => by
    simp only [planOf] at h
    split at h
    · rename_i x hx
      rcases List.mem_cons.1 h with rfl | h
      · exact hx
      · exact planOf_spec e h
    · exact planOf_spec e h

theorem dregion_sound (hE : ∀ a b, C.eqb a b = true → a = b) (hmo : P.follows .mixedOrders = true) (hcall : CallsOK P C o) {id : Nat} {es : List (Nat × IOper × List Nat)} {T : Env} {H : AHeap} {T' : Env} {H' : AHeap} {φ : Phi}
    {M : Nat → Option AObj} {a : Act} {w : World} (hes : es = planOf (masks ops.toList []) (ops.toList.map (compOper P nt ops)) (orderOf (masks ops.toList []) (ops.toList.map (compOper P nt ops))) [])
    (hok : planOK (masks ops.toList []) (ops.toList.map (compOper P nt ops)) es = true) (hedge : edgesOK 0 ops.toList = true)
    (h : dopsA C o es [] T H = some (T', H')) (hw : WF H) (hX : Ext H M) (hF : Fresh H H' M) (hT : TRel φ T.val a.tmps) (hR : R P C φ M w) (hnt : nt ≤ a.tmps.size)
    (hK : Then P C φ a T'.val (over H' M) (Q .normal)) : (Code.region id ops true).wpIn (fen ro) 0 P Q a w := by
  refine wpIn_region_any hmo ?_
  simp only [planOK, Bool.and_eq_true] at hok
  obtain ⟨⟨hlen, hcov⟩, hplan⟩ := hok
  have hlen : es.length = ops.size := by simpa using hlen
  obtain ⟨L, hL1, hL2, hL3, hL4, _⟩ := dops_runs hcall es [] [] [] T H T' H' M h hplan rfl (by simp) rfl (by simp) hw hX hF
  have hback : ∀ (j : Nat) (k : Nat × IOper × List Nat), es[j]? = some k → ∃ p ∈ L, p.idx = k.1 := by
    intro j k hk
    have hj : j < L.length := by rw [hL1]; exact (List.getElem?_eq_some_iff.1 hk).1
    obtain ⟨k', h1, h2, _⟩ := hL2 j L[j] (List.getElem?_eq_getElem hj)
    rw [hk] at h1
    cases h1
    exact ⟨L[j], List.getElem_mem hj, h2⟩
  have hops : ∀ e ∈ L, ∃ oo, ops[e.idx]? = some oo ∧ e.x = compOper P nt ops oo := by
    intro e he
    obtain ⟨j, hj⟩ := List.getElem?_of_mem he
    obtain ⟨k, h1, h2, h3⟩ := hL2 j e hj
    have h4 : k ∈ es := List.mem_of_getElem? h1
    rw [hes] at h4
    have := planOf_spec k h4
    simp only [List.getElem?_map, Option.map_eq_some_iff] at this
    obtain ⟨oo, g1, g2⟩ := this
    exact ⟨oo, by rw [h2]; simpa using g1, by rw [h3, g2]⟩
  refine any_sound hE hcall (nt := nt) rfl hedge ops.size L _ φ T.val M a _ hL3 hL4 hops (by simp) ?_ ?_ (by omega) hT (hR.of_heap rfl rfl rfl rfl) hnt hK
  · intro i hi
    simp only [Array.getElem?_replicate, hi, if_true, true_iff]
    have := List.all_eq_true.1 hcov i (by simpa using hi)
    obtain ⟨e, he, heq⟩ := List.any_eq_true.1 this
    obtain ⟨j, hj⟩ := List.getElem?_of_mem he
    obtain ⟨p, hp, hpi⟩ := hback j e hj
    refine ⟨p, hp, ?_⟩
    rw [hpi]
    simpa using heq
  · intro i k hi
    simp [Array.getElem?_replicate] at hi

end
end Go.Ai
