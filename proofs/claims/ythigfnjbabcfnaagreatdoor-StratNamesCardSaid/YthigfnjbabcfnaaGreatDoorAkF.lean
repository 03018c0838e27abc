/-
  A memory of which only a part is known: what is evaluated there is what is evaluated in the whole one.
  The evaluator's tables, made for the kernel: recursors whose minor premises are closed.
  One operation, made for the kernel: its continuation gets what the evaluator gives.
  The other operations, made for the kernel.
  Steps, code and calls, made for the kernel.
-/
import Derived.Test.YthigfnjbabcfnaaGreatDoorAkE
namespace Go.Ak

/-! ### parts of memories -/
theorem get_push (H : AHeap) (o : AObj) (b : Nat) : (H.push o).get b = if b = H.next then some o else H.get b := by
  unfold AHeap.get AHeap.push AHeap.next
  dsimp only
  by_cases h : b < H.base
  · rw [if_pos h, if_neg (by omega)]
    simp [h]
  · rw [if_neg h, Tab.get_put]
    by_cases hb : b = H.base + H.cnt
    · rw [if_pos (by omega), if_pos hb]
    · rw [if_neg (by omega), if_neg hb]
      simp [h]

theorem get_put (H : AHeap) {b : Nat} (o : AObj) (h : H.base ≤ b) (c : Nat) : (H.put b o).get c = if c = b then some o else H.get c := by
  unfold AHeap.get AHeap.put
  dsimp only
  by_cases hc : c < H.base
  · rw [if_pos hc, if_neg (by omega)]
    simp [hc]
  · rw [if_neg hc, Tab.get_put]
    by_cases hb : c = b
    · rw [if_pos (by omega), if_pos hb]
    · rw [if_neg (by omega), if_neg hb]
      simp [hc]

theorem base_le {H : AHeap} {b : Nat} (h : H.get b ≠ some .raw) : H.base ≤ b := by
  unfold AHeap.get at h
  split at h
  · exact absurd rfl h
  · omega

/-- A memory is a part of another one. -/
structure HLe (H Hf : AHeap) : Prop where
  base : Hf.base = H.base
  cnt : Hf.cnt = H.cnt
  sub : ∀ b x, H.get b = some x → Hf.get b = some x
  low : ∀ b x, H.get b = some x → b < H.next

theorem HLe.trans {A B D : AHeap} (h : HLe A B) (k : HLe B D) : HLe A D := ⟨k.base.trans h.base, k.cnt.trans h.cnt, fun b x hx => k.sub b x (h.sub b x hx), h.low⟩

variable {H Hf : AHeap}
theorem HLe.next (h : HLe H Hf) : Hf.next = H.next := by unfold AHeap.next; rw [h.base, h.cnt]
theorem HLe.eq (h : HLe H Hf) {b : Nat} (hb : H.get b ≠ none) : Hf.get b = H.get b := by
  cases hx : H.get b with
  | none => exact absurd hx hb
  | some x => exact h.sub b x hx

theorem next_push' (H : AHeap) (o : AObj) : (H.push o).next = H.next + 1 := rfl
theorem next_put' (H : AHeap) (b : Nat) (o : AObj) : (H.put b o).next = H.next := rfl

theorem HLe.push (h : HLe H Hf) (o : AObj) : HLe (H.push o) (Hf.push o) := by
  refine ⟨h.base, by show Hf.cnt + 1 = H.cnt + 1; rw [h.cnt], fun b x hx => ?_, fun b x hx => ?_⟩
  · rw [get_push] at hx ⊢
    rw [h.next]
    split at hx
    · rename_i hb; rw [if_pos hb]; exact hx
    · rename_i hb; rw [if_neg hb]; exact h.sub b x hx
  · rw [get_push] at hx
    rw [next_push']
    split at hx
    · omega
    · have := h.low b x hx; omega

theorem HLe.put (h : HLe H Hf) {b : Nat} (o : AObj) (hb : H.base ≤ b) (hn : H.get b ≠ none) : HLe (H.put b o) (Hf.put b o) := by
  refine ⟨h.base, h.cnt, fun c x hx => ?_, fun c x hx => ?_⟩
  · rw [get_put _ _ hb] at hx
    rw [get_put _ _ (by rw [h.base]; exact hb)]
    split at hx
    · rename_i hb; rw [if_pos hb]; exact hx
    · rename_i hb; rw [if_neg hb]; exact h.sub c x hx
  · rw [get_put _ _ hb] at hx
    rw [next_put']
    split at hx
    · rename_i hc
      cases hq : H.get b with
      | none => exact absurd hq hn
      | some y => rw [hc]; exact h.low b y hq
    · exact h.low c x hx

/-- What comes of a part and of the whole: what was not in the part stays as it was. -/
structure After (H Hf H1 Hf1 : AHeap) : Prop where
  le : HLe H1 Hf1
  base : H1.base = H.base
  next : H.next ≤ H1.next
  out : ∀ b, b < H.next → H.get b = none → H1.get b = none ∧ Hf1.get b = Hf.get b

theorem After.refl (h : HLe H Hf) : After H Hf H Hf := ⟨h, rfl, Nat.le_refl _, fun _ _ hb => ⟨hb, rfl⟩⟩
theorem After.trans {H1 Hf1 H2 Hf2 : AHeap} (a : After H Hf H1 Hf1) (b : After H1 Hf1 H2 Hf2) : After H Hf H2 Hf2 :=
  ⟨b.le, b.base.trans a.base, Nat.le_trans a.next b.next, fun c hc hn => by
    obtain ⟨h1, h2⟩ := a.out c hc hn
    obtain ⟨h3, h4⟩ := b.out c (Nat.lt_of_lt_of_le hc a.next) h1
    exact ⟨h3, h4.trans h2⟩⟩

theorem After.push (h : HLe H Hf) (o : AObj) : After H Hf (H.push o) (Hf.push o) := by
  refine ⟨h.push o, rfl, by show H.base + H.cnt ≤ H.base + (H.cnt + 1); omega, fun b hb hn => ?_⟩
  rw [get_push, get_push, if_neg (by omega), if_neg (by rw [h.next]; omega)]
  exact ⟨hn, rfl⟩

theorem After.put (h : HLe H Hf) {b : Nat} (o : AObj) (h1 : H.get b ≠ some .raw) (h2 : H.get b ≠ none) : After H Hf (H.put b o) (Hf.put b o) := by
  have hb := base_le h1
  refine ⟨h.put o hb h2, rfl, Nat.le_refl _, fun c hc hn => ?_⟩
  have hcb : c ≠ b := fun e => h2 (e ▸ hn)
  rw [get_put _ _ hb, get_put _ _ (by rw [h.base]; exact hb), if_neg hcb, if_neg hcb]
  exact ⟨hn, rfl⟩

/-- What is remembered, of a part and of the whole. -/
inductive InfoLe : Info → Info → Prop
  | exp (rd md) : InfoLe (.exp rd md) (.exp rd md)
  | call {b a bf af : AHeap} (hb : HLe b bf) (ha : HLe a af) : InfoLe (.call b a) (.call bf af)
  | look (a : Addr) (l : List Value) : InfoLe (.look a l) (.look a l)

theorem InfoLe.out (out : AOut) (nid : Nat) : InfoLe (out.info nid) (out.info nid) := by
  unfold AOut.info
  split
  · exact .look _ _
  · exact .exp _ _

section
variable {C : Ctx}

theorem same_le {a b a' b' : Option AObj} (ha : ∀ x, a = some x → a' = some x) (hb : ∀ x, b = some x → b' = some x) (h : same C a b = true) : same C a' b' = true := by
  unfold same at h
  split at h
  · rename_i x y; rw [ha x rfl, hb y rfl]; exact h
  · cases h

theorem free_le {k i k' i' : Info} (hk : InfoLe k k') (hi : InfoLe i i') (h : free C k i = true) : free C k' i' = true := by
  cases hi with
  | look a l =>
    cases hk with
    | exp rk mk => exact h
    | look _ _ => exact h
    | call hb ha =>
      simp only [free, hb.next, ha.next, Bool.and_eq_true, Bool.or_eq_true] at h ⊢
      rcases h with h | ⟨h1, h2⟩
      · exact .inl h
      · refine .inr ⟨h1, ?_⟩
        unfold reads at h2 ⊢
        split at h2
        · rename_i l' hl'
          rw [loadN_congr (hb.eq (loadN_there hl')), hl']
          exact h2
        · cases h2
  | exp ri mi =>
    cases hk with
    | exp rk mk => exact h
    | look _ _ => exact h
    | call hb ha =>
      simp only [free, hb.next, ha.next, Bool.and_eq_true, List.all_eq_true, Bool.or_eq_true] at h ⊢
      refine ⟨fun b hx => ?_, h.2⟩
      cases h.1 b hx with
      | inl h => exact .inl h
      | inr h => exact .inr ⟨h.1, same_le (hb.sub b) (ha.sub b) h.2⟩
  | call hb ha =>
    cases hk <;> simp [free] at h

/-- Remembered things, one by one. -/
inductive InfosLe : List Info → List Info → Prop
  | nil : InfosLe [] []
  | cons {k k' : Info} {l l' : List Info} (h : InfoLe k k') (t : InfosLe l l') : InfosLe (k :: l) (k' :: l')

theorem InfosLe.get {l l' : List Info} (h : InfosLe l l') : ∀ (n : Nat) (k : Info), l[n]? = some k → ∃ k', l'[n]? = some k' ∧ InfoLe k k' := by
  induction h with
  | nil => intro n k h; simp at h
  | cons h t ih =>
    intro n k hk
    cases n with
    | zero => simp at hk; subst hk; exact ⟨_, by simp, h⟩
    | succ n => simp at hk; obtain ⟨k', h1, h2⟩ := ih n k hk; exact ⟨k', by simpa using h1, h2⟩

theorem freeAll_le {l l' : List Info} (hl : InfosLe l l') {i i' : Info} (hi : InfoLe i i') : ∀ (un : List Nat), freeAll C l i un = true → freeAll C l' i' un = true
  | [], _ => rfl
  | d :: r, h => by
    simp only [freeAll] at h ⊢
    split at h
    · rename_i k hk
      obtain ⟨k', h1, h2⟩ := hl.get d k hk
      rw [h1]
      dsimp only
      simp only [Bool.and_eq_true] at h ⊢
      exact ⟨free_le h2 hi h.1, freeAll_le hl hi r h.2⟩
    · cases h
end

/-! ### the evaluator -/
/-- One evaluator answers in parts what the other one answers in the whole. -/
structure Sim (o o' : Orc) : Prop where
  call : ∀ f as H v H1, o.call f as H = some (v, H1) → ∀ Hf, HLe H Hf → ∃ Hf1, o'.call f as Hf = some (v, Hf1) ∧ After H Hf H1 Hf1
  loop : ∀ ro c (s : St) e (s1 : St), o.loop ro c s = some (e, s1) → ∀ Hf, HLe s.H Hf → ∃ Hf1, o'.loop ro c ⟨s.T, Hf, s.ds⟩ = some (e, ⟨s1.T, Hf1, s1.ds⟩) ∧ After s.H Hf s1.H Hf1

/-- What is known in parts is so. -/
def KnownSim (C' C : Ctx) (o : Orc) : Prop := ∀ k first captured as H, 
  (∀ v H1, C'.known k (first.toList ++ (as ++ captured.toList)) H = some (v, H1) → ∀ Hf, HLe H Hf → ∃ Hf1, o.call (.func (.func k) first captured) as Hf = some (v, Hf1) ∧ After H Hf H1 Hf1) ∧
  (C'.known k (first.toList ++ (as ++ captured.toList)) H = none → ∀ Hf, HLe H Hf → C.known k (first.toList ++ (as ++ captured.toList)) Hf = none)

section
variable {C' C : Ctx} {o o' : Orc}

theorem evalOp_ctx (hw : C'.w0 = C.w0 ∧ C'.old = C.old) (M : Nat → Option AObj) (T : Nat → Value) (nid : Nat) (op : IOp) : evalOp C' M T nid op = evalOp C M T nid op := by
  have h1 : ∀ (M : Nat → Option AObj) (a : Addr) n, loadN C' M a n = loadN C M a n := fun M a n => by simp only [loadN, cellsAt, hw.1, hw.2]
  have h2 : ∀ (M : Nat → Option AObj) esz n v, srcCells C' M esz n v = srcCells C M esz n v := fun M esz n v => by
    unfold srcCells
    split <;> simp only [h1]
  have h3 : ∀ (M : Nat → Option AObj) ty esz bytes s m xs rd nid, appendA C' M ty esz bytes s m xs rd nid = appendA C M ty esz bytes s m xs rd nid := fun M ty esz bytes s m xs rd nid => by
    unfold appendA
    simp only [h1]
  cases op <;> simp only [evalOp, h1, h2, h3]

theorem resA_ctx (hw : C'.w0 = C.w0 ∧ C'.old = C.old) (T : Nat → Value) (M : Nat → Option AObj) (r : IRes) : resA C' T M r = resA C T M r := by
  cases r <;> simp only [resA, loadN, cellsAt, hw.1, hw.2]

theorem apply_after (h : HLe H Hf) {T : Nat → Value} {op : IOp} {out : AOut} (hl : Local C H.get T H.next op out) : After H Hf (H.apply out) (Hf.apply out) := by
  unfold AHeap.apply
  have hp : After H Hf (match out.put with | some (b, x) => H.put b x | none => H) (match out.put with | some (b, x) => Hf.put b x | none => Hf) := by
    cases ho : out.put with
    | none => exact .refl h
    | some p =>
      obtain ⟨b, x⟩ := p
      obtain ⟨h1, h2, _⟩ := hl.turns b x ho
      exact .put h x h2 (hl.there b h1)
  dsimp only
  cases out.new with
  | none => exact hp
  | some x => exact hp.trans (.push hp.le x)

variable (hw : C'.w0 = C.w0 ∧ C'.old = C.old) (he : C'.eqb = C.eqb) (hs : Sim o o')
include hw hs

theorem stepA_sim {x : IOper} {T T1 : Env} {H1 : AHeap} {i : Info} (hh : stepA C' o x T H = some (T1, H1, i)) (h : HLe H Hf) :
    ∃ Hf1 i', stepA C o' x T Hf = some (T1, Hf1, i') ∧ After H Hf H1 Hf1 ∧ InfoLe i i' := by
  unfold stepA at hh ⊢
  split at hh
  · cases hh
  · cases hh; exact ⟨Hf, _, rfl, .refl h, .exp _ _⟩
  · split at hh
    · rename_i f as hop
      split at hh
      · rename_i v H' hc
        cases hh
        obtain ⟨Hf1, h1, h2⟩ := hs.call _ _ _ _ _ hc Hf h
        rw [h1]
        exact ⟨Hf1, _, rfl, h2, .call h h2.le⟩
      · cases hh
    · rename_i hop
      split at hh
      · rename_i out ho
        cases hh
        rw [evalOp_ctx hw] at ho
        have hl := evalOp_local ho
        have hag := hl.again Hf.get fun b hb => h.eq (hl.there b hb)
        rw [h.next, hag]
        exact ⟨_, _, rfl, apply_after h hl, .out _ _⟩
      · cases hh

theorem opsA_sim : ∀ (xs : List IOper) (T : Env) (H Hf : AHeap) (T1 : Env) (H1 : AHeap), opsA C' o xs T H = some (T1, H1) → HLe H Hf → ∃ Hf1, opsA C o' xs T Hf = some (T1, Hf1) ∧ After H Hf H1 Hf1
  | [], _, _, Hf, _, _, hh, h => by cases hh; exact ⟨Hf, rfl, .refl h⟩
  | x :: xs, T, H, Hf, T1, H1, hh, h => by
    simp only [opsA] at hh ⊢
    split at hh
    · rename_i T' H' i hx
      obtain ⟨Hf', i', h1, h2, _⟩ := stepA_sim hw hs hx h
      rw [h1]
      obtain ⟨Hf1, h3, h4⟩ := opsA_sim xs _ _ _ _ _ hh h2.le
      exact ⟨Hf1, h3, h2.trans h4⟩
    · cases hh

omit hs in
include he in
theorem free_ctx (k i : Info) : free C' k i = free C k i := by
  cases k <;> cases i <;> simp only [free, same, reads, loadN, cellsAt, he, hw.1, hw.2]

omit hs in
include he in
theorem freeAll_ctx (l : List Info) (i : Info) (un : List Nat) : freeAll C' l i un = freeAll C l i un := by
  induction un with
  | nil => rfl
  | cons d r ih =>
    simp only [freeAll, ih]
    split
    · rw [free_ctx hw he]
    · rfl

include he in
theorem dopsA_sim : ∀ (es : List (Nat × IOper × List Nat)) (log log' : List Info) (T : Env) (H Hf : AHeap) (T1 : Env) (H1 : AHeap), InfosLe log log' → dopsA C' o es log T H = some (T1, H1) → HLe H Hf →
    ∃ Hf1, dopsA C o' es log' T Hf = some (T1, Hf1) ∧ After H Hf H1 Hf1
  | [], _, _, _, _, Hf, _, _, _, hh, h => by cases hh; exact ⟨Hf, rfl, .refl h⟩
  | (_, x, un) :: es, log, log', T, H, Hf, T1, H1, hlog, hh, h => by
    simp only [dopsA] at hh ⊢
    split at hh
    · rename_i T' H' i hx
      obtain ⟨Hf', i', h1, h2, hi⟩ := stepA_sim hw hs hx h
      rw [h1]
      dsimp only
      split at hh
      · rename_i hf
        rw [freeAll_ctx hw he] at hf
        rw [if_pos (freeAll_le hlog hi un hf)]
        obtain ⟨Hf1, h3, h4⟩ := dopsA_sim es _ _ _ _ _ _ _ (.cons hi hlog) hh h2.le
        exact ⟨Hf1, h3, h2.trans h4⟩
      · cases hh
    · cases hh

omit hw hs in
theorem inLoop_le {ro : Option Nat} (h : HLe H Hf) (hh : inLoop ro H = true) : inLoop ro Hf = true := by
  unfold inLoop at hh ⊢
  split at hh
  · rfl
  · rename_i l
    split at hh
    · rename_i L hL; rw [h.sub _ _ hL]
    · cases hh

include he in
theorem codeA_sim : ∀ (c : ICode) (ro : Option Nat) (s : St) (Hf : AHeap) (e : AExit) (s1 : St), codeA C' o ro c s = some (e, s1) → HLe s.H Hf →
    ∃ Hf1, codeA C o' ro c ⟨s.T, Hf, s.ds⟩ = some (e, ⟨s1.T, Hf1, s1.ds⟩) ∧ After s.H Hf s1.H Hf1 := by
  intro c
  induction c with
  | skip | exit _ | ret => intro ro s Hf e s1 hh h; cases hh; exact ⟨Hf, rfl, .refl h⟩
  | bad => intro ro s Hf e s1 hh h; cases hh
  | region ops =>
    intro ro s Hf e s1 hh h
    simp only [codeA] at hh ⊢
    split at hh
    · rename_i T H ho
      cases hh
      obtain ⟨Hf1, h1, h2⟩ := opsA_sim hw hs _ _ _ _ _ _ ho h
      rw [h1]
      exact ⟨Hf1, rfl, h2⟩
    · cases hh
  | dregion ops =>
    intro ro s Hf e s1 hh h
    simp only [codeA] at hh ⊢
    split at hh
    · rename_i T H ho
      cases hh
      obtain ⟨Hf1, h1, h2⟩ := dopsA_sim hw he hs _ _ _ _ _ _ _ _ .nil ho h
      rw [h1]
      exact ⟨Hf1, rfl, h2⟩
    · cases hh
  | seq a b iha ihb =>
    intro ro s Hf e s1 hh h
    simp only [codeA] at hh ⊢
    split at hh
    · rename_i s2 h1
      obtain ⟨Hf2, h2, h3⟩ := iha _ _ Hf _ _ h1 h
      rw [h2]
      obtain ⟨Hf3, h4, h5⟩ := ihb _ _ Hf2 _ _ hh h3.le
      exact ⟨Hf3, h4, h3.trans h5⟩
    · rename_i hne
      obtain ⟨Hf2, h2, h3⟩ := iha _ _ Hf _ _ hh h
      rw [h2]
      cases e with
      | normal => exact absurd hh (hne _)
      | exit id => exact ⟨Hf2, rfl, h3⟩
      | ret => exact ⟨Hf2, rfl, h3⟩
  | cond x a b iha ihb =>
    intro ro s Hf e s1 hh h
    simp only [codeA] at hh ⊢
    split at hh
    · exact iha _ _ _ _ _ hh h
    · exact ihb _ _ _ _ _ hh h
    · cases hh
  | block id c ih =>
    intro ro s Hf e s1 hh h
    simp only [codeA] at hh ⊢
    split at hh
    · rename_i i s2 h1
      obtain ⟨Hf2, h2, h3⟩ := ih _ _ Hf _ _ h1 h
      rw [h2]
      dsimp only
      split at hh
      · rename_i hi; cases hh; rw [if_pos hi]; exact ⟨Hf2, rfl, h3⟩
      · rename_i hi; cases hh; rw [if_neg hi]; exact ⟨Hf2, rfl, h3⟩
    · rename_i hne
      obtain ⟨Hf2, h2, h3⟩ := ih _ _ Hf _ _ hh h
      rw [h2]
      cases e with
      | exit i => exact absurd hh (hne _ _)
      | normal => exact ⟨Hf2, rfl, h3⟩
      | ret => exact ⟨Hf2, rfl, h3⟩
  | loop c ih => intro ro s Hf e s1 hh h; exact hs.loop _ _ _ _ _ hh Hf h
  | rangeFunc f ps assign body _ _ =>
    intro ro s Hf e s1 hh h
    simp only [codeA] at hh ⊢
    split at hh
    · cases hh
    · rename_i hin
      simp only [Bool.and_eq_true] at hin
      have hin' : (isFn (f.val s.T.val) && inLoop ro Hf) = true := by rw [hin.1, inLoop_le h hin.2]; rfl
      rw [hin']
      dsimp only
      split at hh
      · cases hh
      · rename_i v H3 hc
        cases ro with
        | none =>
          dsimp only at hc hh ⊢
          have a1 : After s.H Hf (s.H.push (.deferred true)) (Hf.push (.deferred true)) := .push h _
          have a2 := a1.trans (.push a1.le (.loop { state := .ready, pending := none, T := s.T, params := ps, assign, body }))
          obtain ⟨Hf3, h1, h2⟩ := hs.call _ _ _ _ _ hc _ a2.le
          rw [a1.le.next, h1]
          dsimp only
          split at hh
          · rename_i L hL
            rw [h2.le.sub _ _ hL]
            dsimp only
            split at hh
            · cases hh
            · rename_i hb
              cases hh
              rw [if_neg hb, h.next]
              exact ⟨_, rfl, (a2.trans h2).trans (.put h2.le _ (by rw [hL]; simp) (by rw [hL]; simp))⟩
          · cases hh
        | some l0 =>
          dsimp only at hc hh ⊢
          have a2 : After s.H Hf (s.H.push (.loop { state := .ready, pending := none, T := s.T, params := ps, assign, body })) (Hf.push (.loop { state := .ready, pending := none, T := s.T, params := ps, assign, body })) := .push h _
          obtain ⟨Hf3, h1, h2⟩ := hs.call _ _ _ _ _ hc _ a2.le
          rw [h.next, h1]
          dsimp only
          split at hh
          · rename_i L hL
            rw [h2.le.sub _ _ hL]
            dsimp only
            split at hh
            · cases hh
            · rename_i hb
              cases hh
              rw [if_neg hb]
              exact ⟨_, rfl, (a2.trans h2).trans (.put h2.le _ (by rw [hL]; simp) (by rw [hL]; simp))⟩
          · cases hh

omit hs in
theorem resAll_sim (T : Nat → Value) (h : HLe H Hf) : ∀ (rs : List IRes) (vs : List Value), resAll C' T H.get rs = some vs → resAll C T Hf.get rs = some vs
  | [], _, hh => hh
  | r :: rs, vs, hh => by
    simp only [resAll] at hh ⊢
    split at hh
    · rename_i v vs' h1 h2
      cases hh
      have h3 : resA C T Hf.get r = some v := by
        have hld : ∀ (a : Addr) n l, loadN C H.get a n = some l → loadN C Hf.get a n = some l := fun a n l hl => by
          rw [loadN_congr (h.eq (loadN_there hl))]; exact hl
        rw [resA_ctx hw] at h1
        cases r with
        | tmp t => exact h1
        | cell1 t =>
          simp only [resA] at h1 ⊢
          split at h1
          · rename_i a ha
            split at h1
            · rename_i w hl
              rw [hld _ _ _ hl]
              exact h1
            · cases h1
          · cases h1
        | cellN t n =>
          simp only [resA] at h1 ⊢
          split at h1
          · rename_i a ha
            simp only [Option.map_eq_some_iff] at h1
            obtain ⟨l, hl, rfl⟩ := h1
            rw [hld _ _ _ hl]
            rfl
          · cases h1
      rw [h3, resAll_sim T h rs _ h2]
    · cases hh

omit hw hs in
theorem shut_sim : ∀ (ds : List Nat) (H Hf H1 : AHeap), HLe H Hf → shut ds H = some H1 → ∃ Hf1, shut ds Hf = some Hf1 ∧ After H Hf H1 Hf1
  | [], H, Hf, H1, h, hh => by cases hh; exact ⟨Hf, rfl, .refl h⟩
  | d :: ds, H, Hf, H1, h, hh => by
    simp only [shut] at hh ⊢
    split at hh
    · rename_i hd
      have a : After H Hf (H.put d (.deferred false)) (Hf.put d (.deferred false)) := .put h _ (by rw [hd]; simp) (by rw [hd]; simp)
      obtain ⟨Hf1, h1, h2⟩ := shut_sim ds _ _ _ a.le hh
      rw [h.sub _ _ hd]
      exact ⟨Hf1, h1, a.trans h2⟩
    · cases hh

include he in
theorem callFn_sim {F : IFunc} {as : List Value} {v : Value} {H1 : AHeap} (hh : callFn C' o F as H = some (v, H1)) (h : HLe H Hf) : ∃ Hf1, callFn C o' F as Hf = some (v, Hf1) ∧ After H Hf H1 Hf1 := by
  unfold callFn at hh ⊢
  split at hh
  · cases hh
  · rename_i e s hc
    obtain ⟨Hf2, h1, h2⟩ := codeA_sim hw he hs _ _ _ Hf _ _ hc h
    dsimp only at h1
    rw [h1]
    dsimp only
    split at hh
    · cases hh
    · rename_i hne
      split at hh
      · cases hh
      · rename_i H' hsh
        obtain ⟨Hf3, h3, h4⟩ := shut_sim _ _ _ _ h2.le hsh
        split at hh
        · rename_i vs hr
          cases hh
          refine ⟨Hf3, ?_, h2.trans h4⟩
          cases e with
          | exit id => exact absurd rfl (hne id)
          | normal => simp only [h3, resAll_sim hw _ h4.le _ _ hr]
          | ret => simp only [h3, resAll_sim hw _ h4.le _ _ hr]
        · cases hh

omit hw hs in
theorem endRound_sim {l : Nat} {e : AExit} {s : St} {v : Value} {H1 : AHeap} (hh : endRound l e s = some (v, H1)) {Hf : AHeap} (h : HLe s.H Hf) : ∃ Hf1, endRound l e ⟨s.T, Hf, s.ds⟩ = some (v, Hf1) ∧ After s.H Hf H1 Hf1 := by
  unfold endRound at hh ⊢
  split at hh
  · rename_i L hL
    rw [h.sub _ _ hL]
    dsimp only
    have a : ∀ o : AObj, After s.H Hf (s.H.put l o) (Hf.put l o) := fun o => .put h _ (by rw [hL]; simp) (by rw [hL]; simp)
    split at hh
    · rename_i hd
      rw [if_pos hd]
      split at hh
      · rename_i hn; cases hh; rw [if_pos hn]; exact ⟨_, rfl, a _⟩
      · rename_i hn; cases hh; rw [if_neg hn]; exact ⟨_, rfl, a _⟩
    · cases hh
  · cases hh

include he in
theorem bodyRound_sim {l : Nat} {b : ICode} {s : St} {v : Value} {H1 : AHeap} (hh : bodyRound C' o l b s = some (v, H1)) {Hf : AHeap} (h : HLe s.H Hf) : ∃ Hf1, bodyRound C o' l b ⟨s.T, Hf, s.ds⟩ = some (v, Hf1) ∧ After s.H Hf H1 Hf1 := by
  unfold bodyRound at hh ⊢
  split at hh
  · rename_i L hL
    rw [h.sub _ _ hL]
    dsimp only
    split at hh
    · rename_i hst
      rw [if_pos hst]
      have a : ∀ o : AObj, After s.H Hf (s.H.put l o) (Hf.put l o) := fun o => .put h _ (by rw [hL]; simp) (by rw [hL]; simp)
      split at hh
      · rename_i e s' hc
        obtain ⟨Hf2, h1, h2⟩ := codeA_sim hw he hs _ _ _ _ _ _ hc (a _).le
        dsimp only at h1
        rw [h1]
        obtain ⟨Hf3, h3, h4⟩ := endRound_sim hh h2.le
        exact ⟨Hf3, h3, ((a _).trans h2).trans h4⟩
      · cases hh
    · cases hh
  · cases hh

include he in
theorem callYield_sim {l : Nat} {as : List Value} {v : Value} {H1 : AHeap} (hh : callYield C' o l as H = some (v, H1)) (h : HLe H Hf) : ∃ Hf1, callYield C o' l as Hf = some (v, Hf1) ∧ After H Hf H1 Hf1 := by
  unfold callYield at hh ⊢
  split at hh
  · rename_i L hL
    rw [h.sub _ _ hL]
    dsimp only
    split at hh
    · rename_i hst
      rw [if_pos hst]
      split at hh
      · rename_i e s hc
        obtain ⟨Hf2, h1, h2⟩ := codeA_sim hw he hs _ _ _ Hf _ _ hc h
        dsimp only at h1
        rw [h1]
        dsimp only
        split at hh
        · rename_i hx
          rw [if_pos hx]
          obtain ⟨Hf3, h3, h4⟩ := bodyRound_sim hw he hs hh h2.le
          exact ⟨Hf3, h3, h2.trans h4⟩
        · cases hh
      · cases hh
    · cases hh
  · cases hh

include he in
theorem loopA_sim {ro : Option Nat} {c : ICode} {s s1 : St} {e : AExit} (hh : loopA C' o ro c s = some (e, s1)) {Hf : AHeap} (h : HLe s.H Hf) : ∃ Hf1, loopA C o' ro c ⟨s.T, Hf, s.ds⟩ = some (e, ⟨s1.T, Hf1, s1.ds⟩) ∧ After s.H Hf s1.H Hf1 := by
  unfold loopA at hh ⊢
  split at hh
  · rename_i s2 h1
    obtain ⟨Hf2, h2, h3⟩ := codeA_sim hw he hs _ _ _ Hf _ _ h1 h
    rw [h2]
    obtain ⟨Hf3, h4, h5⟩ := hs.loop _ _ _ _ _ hh Hf2 h3.le
    exact ⟨Hf3, h4, h3.trans h5⟩
  · rename_i hne
    obtain ⟨Hf2, h2, h3⟩ := codeA_sim hw he hs _ _ _ Hf _ _ hh h
    rw [h2]
    cases e with
    | normal => exact absurd hh (hne _)
    | exit id => exact ⟨Hf2, rfl, h3⟩
    | ret => exact ⟨Hf2, rfl, h3⟩
end

/-- **A PART SAYS WHAT THE WHOLE SAYS.** -/
theorem part_sim {C' C : Ctx} (hw : C'.w0 = C.w0 ∧ C'.old = C.old) (he : C'.eqb = C.eqb) (hf : ∀ k F, C'.funcs.get k = some F → C.funcs.get k = some F) (hk : KnownSim C' C (fixO C)) : ∀ n, Sim (orc C' n) (fixO C)
  | 0 => ⟨fun _ _ _ _ _ h => (by cases h), fun _ _ _ _ _ h => (by cases h)⟩
  | n + 1 => by
    have ih := part_sim hw he hf hk n
    refine ⟨fun f as H v H1 hh Hf h => ?_, fun ro c s e s1 hh Hf h => ?_⟩
    · change callA C' (orc C' n) f as H = some (v, H1) at hh
      unfold callA at hh
      split at hh
      · rename_i fn first captured
        split at hh
        · rename_i k
          split at hh
          · rename_i r hr
            cases hh
            exact (hk k first captured as H).1 _ _ hr Hf h
          · rename_i hr
            have hr' := (hk k first captured as H).2 hr Hf h
            split at hh
            · cases hh
            · rename_i F hF
              obtain ⟨Hf1, h1, h2⟩ := callFn_sim hw he ih hh h
              refine ⟨Hf1, fix_callA ?_, h2⟩
              unfold callA
              dsimp only
              rw [hr']
              dsimp only
              rw [hf k F hF]
              exact h1
        · rename_i l
          split at hh
          · rename_i hx
            obtain ⟨Hf1, h1, h2⟩ := callYield_sim hw he ih hh h
            refine ⟨Hf1, fix_callA ?_, h2⟩
            unfold callA
            dsimp only
            rw [if_pos hx]
            exact h1
          · cases hh
        · cases hh
      · cases hh
    · obtain ⟨Hf1, h1, h2⟩ := loopA_sim hw he ih hh h
      exact ⟨Hf1, fix_loopA h1, h2⟩

end Go.Ak

namespace Go.Ak
set_option linter.unusedVariables false

/-! ### a digit -/
noncomputable def dgF (n : Nat) : D16 :=
  (Bool.rec (motive := fun _ => D16) (Bool.rec (motive := fun _ => D16) (Bool.rec (motive := fun _ => D16) (Bool.rec (motive := fun _ => D16) D16.d0 D16.d1 (Nat.ble 1 n)) (Bool.rec (motive := fun _ => D16) D16.d2 D16.d3 (Nat.ble 3 n)) (Nat.ble 2 n)) (Bool.rec (motive := fun _ => D16) (Bool.rec (motive := fun _ => D16) D16.d4 D16.d5 (Nat.ble 5 n)) (Bool.rec (motive := fun _ => D16) D16.d6 D16.d7 (Nat.ble 7 n)) (Nat.ble 6 n)) (Nat.ble 4 n)) (Bool.rec (motive := fun _ => D16) (Bool.rec (motive := fun _ => D16) (Bool.rec (motive := fun _ => D16) D16.d8 D16.d9 (Nat.ble 9 n)) (Bool.rec (motive := fun _ => D16) D16.d10 D16.d11 (Nat.ble 11 n)) (Nat.ble 10 n)) (Bool.rec (motive := fun _ => D16) (Bool.rec (motive := fun _ => D16) D16.d12 D16.d13 (Nat.ble 13 n)) (Bool.rec (motive := fun _ => D16) D16.d14 D16.d15 (Nat.ble 15 n)) (Nat.ble 14 n)) (Nat.ble 12 n)) (Nat.ble 8 n))

theorem dgF_eq (n : Nat) : dgF n = dg n := by
  match n with
  | 0 | 1 | 2 | 3 | 4 | 5 | 6 | 7 | 8 | 9 | 10 | 11 | 12 | 13 | 14 | 15 => rfl
  | n + 16 =>
    have h : ∀ m, m ≤ 16 → Nat.ble m (n + 16) = true := fun m hm => Nat.ble_eq_true_of_le (by omega)
    unfold dgF
    rw [h 8 (by omega), h 12 (by omega), h 14 (by omega), h 15 (by omega)]
    rfl

/-! ### rows of sixteen -/
noncomputable def getV : D16 → E16 Value → Value := fun d =>
  @D16.rec (fun _ => E16 Value → Value) (fun t => t.xa) (fun t => t.xb) (fun t => t.xc) (fun t => t.xd) (fun t => t.xe) (fun t => t.xf) (fun t => t.xg) (fun t => t.xh) (fun t => t.xi) (fun t => t.xj) (fun t => t.xk) (fun t => t.xl) (fun t => t.xm) (fun t => t.xn) (fun t => t.xo) (fun t => t.xp) d
noncomputable def setV : D16 → E16 Value → Value → E16 Value := fun d =>
  @D16.rec (fun _ => E16 Value → Value → E16 Value)
    (fun t => @E16.rec Value (fun _ => Value → E16 Value) (fun xa xb xc xd xe xf xg xh xi xj xk xl xm xn xo xp y => E16.mk y xb xc xd xe xf xg xh xi xj xk xl xm xn xo xp) t)
    (fun t => @E16.rec Value (fun _ => Value → E16 Value) (fun xa xb xc xd xe xf xg xh xi xj xk xl xm xn xo xp y => E16.mk xa y xc xd xe xf xg xh xi xj xk xl xm xn xo xp) t)
    (fun t => @E16.rec Value (fun _ => Value → E16 Value) (fun xa xb xc xd xe xf xg xh xi xj xk xl xm xn xo xp y => E16.mk xa xb y xd xe xf xg xh xi xj xk xl xm xn xo xp) t)
    (fun t => @E16.rec Value (fun _ => Value → E16 Value) (fun xa xb xc xd xe xf xg xh xi xj xk xl xm xn xo xp y => E16.mk xa xb xc y xe xf xg xh xi xj xk xl xm xn xo xp) t)
    (fun t => @E16.rec Value (fun _ => Value → E16 Value) (fun xa xb xc xd xe xf xg xh xi xj xk xl xm xn xo xp y => E16.mk xa xb xc xd y xf xg xh xi xj xk xl xm xn xo xp) t)
    (fun t => @E16.rec Value (fun _ => Value → E16 Value) (fun xa xb xc xd xe xf xg xh xi xj xk xl xm xn xo xp y => E16.mk xa xb xc xd xe y xg xh xi xj xk xl xm xn xo xp) t)
    (fun t => @E16.rec Value (fun _ => Value → E16 Value) (fun xa xb xc xd xe xf xg xh xi xj xk xl xm xn xo xp y => E16.mk xa xb xc xd xe xf y xh xi xj xk xl xm xn xo xp) t)
    (fun t => @E16.rec Value (fun _ => Value → E16 Value) (fun xa xb xc xd xe xf xg xh xi xj xk xl xm xn xo xp y => E16.mk xa xb xc xd xe xf xg y xi xj xk xl xm xn xo xp) t)
    (fun t => @E16.rec Value (fun _ => Value → E16 Value) (fun xa xb xc xd xe xf xg xh xi xj xk xl xm xn xo xp y => E16.mk xa xb xc xd xe xf xg xh y xj xk xl xm xn xo xp) t)
    (fun t => @E16.rec Value (fun _ => Value → E16 Value) (fun xa xb xc xd xe xf xg xh xi xj xk xl xm xn xo xp y => E16.mk xa xb xc xd xe xf xg xh xi y xk xl xm xn xo xp) t)
    (fun t => @E16.rec Value (fun _ => Value → E16 Value) (fun xa xb xc xd xe xf xg xh xi xj xk xl xm xn xo xp y => E16.mk xa xb xc xd xe xf xg xh xi xj y xl xm xn xo xp) t)
    (fun t => @E16.rec Value (fun _ => Value → E16 Value) (fun xa xb xc xd xe xf xg xh xi xj xk xl xm xn xo xp y => E16.mk xa xb xc xd xe xf xg xh xi xj xk y xm xn xo xp) t)
    (fun t => @E16.rec Value (fun _ => Value → E16 Value) (fun xa xb xc xd xe xf xg xh xi xj xk xl xm xn xo xp y => E16.mk xa xb xc xd xe xf xg xh xi xj xk xl y xn xo xp) t)
    (fun t => @E16.rec Value (fun _ => Value → E16 Value) (fun xa xb xc xd xe xf xg xh xi xj xk xl xm xn xo xp y => E16.mk xa xb xc xd xe xf xg xh xi xj xk xl xm y xo xp) t)
    (fun t => @E16.rec Value (fun _ => Value → E16 Value) (fun xa xb xc xd xe xf xg xh xi xj xk xl xm xn xo xp y => E16.mk xa xb xc xd xe xf xg xh xi xj xk xl xm xn y xp) t)
    (fun t => @E16.rec Value (fun _ => Value → E16 Value) (fun xa xb xc xd xe xf xg xh xi xj xk xl xm xn xo xp y => E16.mk xa xb xc xd xe xf xg xh xi xj xk xl xm xn xo y) t)
    d
theorem getV_eq (d : D16) (t : E16 Value) : getV d t = E16.get d t := by cases d <;> rfl
theorem setV_eq (d : D16) (t : E16 Value) (y : Value) : setV d t y = E16.set d t y := by cases d <;> cases t <;> rfl

noncomputable def getW : D16 → E16 (E16 Value) → (E16 Value) := fun d =>
  @D16.rec (fun _ => E16 (E16 Value) → (E16 Value)) (fun t => t.xa) (fun t => t.xb) (fun t => t.xc) (fun t => t.xd) (fun t => t.xe) (fun t => t.xf) (fun t => t.xg) (fun t => t.xh) (fun t => t.xi) (fun t => t.xj) (fun t => t.xk) (fun t => t.xl) (fun t => t.xm) (fun t => t.xn) (fun t => t.xo) (fun t => t.xp) d
noncomputable def setW : D16 → E16 (E16 Value) → (E16 Value) → E16 (E16 Value) := fun d =>
  @D16.rec (fun _ => E16 (E16 Value) → (E16 Value) → E16 (E16 Value))
    (fun t => @E16.rec (E16 Value) (fun _ => (E16 Value) → E16 (E16 Value)) (fun xa xb xc xd xe xf xg xh xi xj xk xl xm xn xo xp y => E16.mk y xb xc xd xe xf xg xh xi xj xk xl xm xn xo xp) t)
    (fun t => @E16.rec (E16 Value) (fun _ => (E16 Value) → E16 (E16 Value)) (fun xa xb xc xd xe xf xg xh xi xj xk xl xm xn xo xp y => E16.mk xa y xc xd xe xf xg xh xi xj xk xl xm xn xo xp) t)
    (fun t => @E16.rec (E16 Value) (fun _ => (E16 Value) → E16 (E16 Value)) (fun xa xb xc xd xe xf xg xh xi xj xk xl xm xn xo xp y => E16.mk xa xb y xd xe xf xg xh xi xj xk xl xm xn xo xp) t)
    (fun t => @E16.rec (E16 Value) (fun _ => (E16 Value) → E16 (E16 Value)) (fun xa xb xc xd xe xf xg xh xi xj xk xl xm xn xo xp y => E16.mk xa xb xc y xe xf xg xh xi xj xk xl xm xn xo xp) t)
    (fun t => @E16.rec (E16 Value) (fun _ => (E16 Value) → E16 (E16 Value)) (fun xa xb xc xd xe xf xg xh xi xj xk xl xm xn xo xp y => E16.mk xa xb xc xd y xf xg xh xi xj xk xl xm xn xo xp) t)
    (fun t => @E16.rec (E16 Value) (fun _ => (E16 Value) → E16 (E16 Value)) (fun xa xb xc xd xe xf xg xh xi xj xk xl xm xn xo xp y => E16.mk xa xb xc xd xe y xg xh xi xj xk xl xm xn xo xp) t)
    (fun t => @E16.rec (E16 Value) (fun _ => (E16 Value) → E16 (E16 Value)) (fun xa xb xc xd xe xf xg xh xi xj xk xl xm xn xo xp y => E16.mk xa xb xc xd xe xf y xh xi xj xk xl xm xn xo xp) t)
    (fun t => @E16.rec (E16 Value) (fun _ => (E16 Value) → E16 (E16 Value)) (fun xa xb xc xd xe xf xg xh xi xj xk xl xm xn xo xp y => E16.mk xa xb xc xd xe xf xg y xi xj xk xl xm xn xo xp) t)
    (fun t => @E16.rec (E16 Value) (fun _ => (E16 Value) → E16 (E16 Value)) (fun xa xb xc xd xe xf xg xh xi xj xk xl xm xn xo xp y => E16.mk xa xb xc xd xe xf xg xh y xj xk xl xm xn xo xp) t)
    (fun t => @E16.rec (E16 Value) (fun _ => (E16 Value) → E16 (E16 Value)) (fun xa xb xc xd xe xf xg xh xi xj xk xl xm xn xo xp y => E16.mk xa xb xc xd xe xf xg xh xi y xk xl xm xn xo xp) t)
    (fun t => @E16.rec (E16 Value) (fun _ => (E16 Value) → E16 (E16 Value)) (fun xa xb xc xd xe xf xg xh xi xj xk xl xm xn xo xp y => E16.mk xa xb xc xd xe xf xg xh xi xj y xl xm xn xo xp) t)
    (fun t => @E16.rec (E16 Value) (fun _ => (E16 Value) → E16 (E16 Value)) (fun xa xb xc xd xe xf xg xh xi xj xk xl xm xn xo xp y => E16.mk xa xb xc xd xe xf xg xh xi xj xk y xm xn xo xp) t)
    (fun t => @E16.rec (E16 Value) (fun _ => (E16 Value) → E16 (E16 Value)) (fun xa xb xc xd xe xf xg xh xi xj xk xl xm xn xo xp y => E16.mk xa xb xc xd xe xf xg xh xi xj xk xl y xn xo xp) t)
    (fun t => @E16.rec (E16 Value) (fun _ => (E16 Value) → E16 (E16 Value)) (fun xa xb xc xd xe xf xg xh xi xj xk xl xm xn xo xp y => E16.mk xa xb xc xd xe xf xg xh xi xj xk xl xm y xo xp) t)
    (fun t => @E16.rec (E16 Value) (fun _ => (E16 Value) → E16 (E16 Value)) (fun xa xb xc xd xe xf xg xh xi xj xk xl xm xn xo xp y => E16.mk xa xb xc xd xe xf xg xh xi xj xk xl xm xn y xp) t)
    (fun t => @E16.rec (E16 Value) (fun _ => (E16 Value) → E16 (E16 Value)) (fun xa xb xc xd xe xf xg xh xi xj xk xl xm xn xo xp y => E16.mk xa xb xc xd xe xf xg xh xi xj xk xl xm xn xo y) t)
    d
theorem getW_eq (d : D16) (t : E16 (E16 Value)) : getW d t = E16.get d t := by cases d <;> rfl
theorem setW_eq (d : D16) (t : E16 (E16 Value)) (y : (E16 Value)) : setW d t y = E16.set d t y := by cases d <;> cases t <;> rfl

noncomputable def getO : D16 → E16 (Option AObj) → (Option AObj) := fun d =>
  @D16.rec (fun _ => E16 (Option AObj) → (Option AObj)) (fun t => t.xa) (fun t => t.xb) (fun t => t.xc) (fun t => t.xd) (fun t => t.xe) (fun t => t.xf) (fun t => t.xg) (fun t => t.xh) (fun t => t.xi) (fun t => t.xj) (fun t => t.xk) (fun t => t.xl) (fun t => t.xm) (fun t => t.xn) (fun t => t.xo) (fun t => t.xp) d
noncomputable def setO : D16 → E16 (Option AObj) → (Option AObj) → E16 (Option AObj) := fun d =>
  @D16.rec (fun _ => E16 (Option AObj) → (Option AObj) → E16 (Option AObj))
    (fun t => @E16.rec (Option AObj) (fun _ => (Option AObj) → E16 (Option AObj)) (fun xa xb xc xd xe xf xg xh xi xj xk xl xm xn xo xp y => E16.mk y xb xc xd xe xf xg xh xi xj xk xl xm xn xo xp) t)
    (fun t => @E16.rec (Option AObj) (fun _ => (Option AObj) → E16 (Option AObj)) (fun xa xb xc xd xe xf xg xh xi xj xk xl xm xn xo xp y => E16.mk xa y xc xd xe xf xg xh xi xj xk xl xm xn xo xp) t)
    (fun t => @E16.rec (Option AObj) (fun _ => (Option AObj) → E16 (Option AObj)) (fun xa xb xc xd xe xf xg xh xi xj xk xl xm xn xo xp y => E16.mk xa xb y xd xe xf xg xh xi xj xk xl xm xn xo xp) t)
    (fun t => @E16.rec (Option AObj) (fun _ => (Option AObj) → E16 (Option AObj)) (fun xa xb xc xd xe xf xg xh xi xj xk xl xm xn xo xp y => E16.mk xa xb xc y xe xf xg xh xi xj xk xl xm xn xo xp) t)
    (fun t => @E16.rec (Option AObj) (fun _ => (Option AObj) → E16 (Option AObj)) (fun xa xb xc xd xe xf xg xh xi xj xk xl xm xn xo xp y => E16.mk xa xb xc xd y xf xg xh xi xj xk xl xm xn xo xp) t)
    (fun t => @E16.rec (Option AObj) (fun _ => (Option AObj) → E16 (Option AObj)) (fun xa xb xc xd xe xf xg xh xi xj xk xl xm xn xo xp y => E16.mk xa xb xc xd xe y xg xh xi xj xk xl xm xn xo xp) t)
    (fun t => @E16.rec (Option AObj) (fun _ => (Option AObj) → E16 (Option AObj)) (fun xa xb xc xd xe xf xg xh xi xj xk xl xm xn xo xp y => E16.mk xa xb xc xd xe xf y xh xi xj xk xl xm xn xo xp) t)
    (fun t => @E16.rec (Option AObj) (fun _ => (Option AObj) → E16 (Option AObj)) (fun xa xb xc xd xe xf xg xh xi xj xk xl xm xn xo xp y => E16.mk xa xb xc xd xe xf xg y xi xj xk xl xm xn xo xp) t)
    (fun t => @E16.rec (Option AObj) (fun _ => (Option AObj) → E16 (Option AObj)) (fun xa xb xc xd xe xf xg xh xi xj xk xl xm xn xo xp y => E16.mk xa xb xc xd xe xf xg xh y xj xk xl xm xn xo xp) t)
    (fun t => @E16.rec (Option AObj) (fun _ => (Option AObj) → E16 (Option AObj)) (fun xa xb xc xd xe xf xg xh xi xj xk xl xm xn xo xp y => E16.mk xa xb xc xd xe xf xg xh xi y xk xl xm xn xo xp) t)
    (fun t => @E16.rec (Option AObj) (fun _ => (Option AObj) → E16 (Option AObj)) (fun xa xb xc xd xe xf xg xh xi xj xk xl xm xn xo xp y => E16.mk xa xb xc xd xe xf xg xh xi xj y xl xm xn xo xp) t)
    (fun t => @E16.rec (Option AObj) (fun _ => (Option AObj) → E16 (Option AObj)) (fun xa xb xc xd xe xf xg xh xi xj xk xl xm xn xo xp y => E16.mk xa xb xc xd xe xf xg xh xi xj xk y xm xn xo xp) t)
    (fun t => @E16.rec (Option AObj) (fun _ => (Option AObj) → E16 (Option AObj)) (fun xa xb xc xd xe xf xg xh xi xj xk xl xm xn xo xp y => E16.mk xa xb xc xd xe xf xg xh xi xj xk xl y xn xo xp) t)
    (fun t => @E16.rec (Option AObj) (fun _ => (Option AObj) → E16 (Option AObj)) (fun xa xb xc xd xe xf xg xh xi xj xk xl xm xn xo xp y => E16.mk xa xb xc xd xe xf xg xh xi xj xk xl xm y xo xp) t)
    (fun t => @E16.rec (Option AObj) (fun _ => (Option AObj) → E16 (Option AObj)) (fun xa xb xc xd xe xf xg xh xi xj xk xl xm xn xo xp y => E16.mk xa xb xc xd xe xf xg xh xi xj xk xl xm xn y xp) t)
    (fun t => @E16.rec (Option AObj) (fun _ => (Option AObj) → E16 (Option AObj)) (fun xa xb xc xd xe xf xg xh xi xj xk xl xm xn xo xp y => E16.mk xa xb xc xd xe xf xg xh xi xj xk xl xm xn xo y) t)
    d
theorem getO_eq (d : D16) (t : E16 (Option AObj)) : getO d t = E16.get d t := by cases d <;> rfl
theorem setO_eq (d : D16) (t : E16 (Option AObj)) (y : (Option AObj)) : setO d t y = E16.set d t y := by cases d <;> cases t <;> rfl

noncomputable def getP : D16 → E16 (E16 (Option AObj)) → (E16 (Option AObj)) := fun d =>
  @D16.rec (fun _ => E16 (E16 (Option AObj)) → (E16 (Option AObj))) (fun t => t.xa) (fun t => t.xb) (fun t => t.xc) (fun t => t.xd) (fun t => t.xe) (fun t => t.xf) (fun t => t.xg) (fun t => t.xh) (fun t => t.xi) (fun t => t.xj) (fun t => t.xk) (fun t => t.xl) (fun t => t.xm) (fun t => t.xn) (fun t => t.xo) (fun t => t.xp) d
noncomputable def setP : D16 → E16 (E16 (Option AObj)) → (E16 (Option AObj)) → E16 (E16 (Option AObj)) := fun d =>
  @D16.rec (fun _ => E16 (E16 (Option AObj)) → (E16 (Option AObj)) → E16 (E16 (Option AObj)))
    (fun t => @E16.rec (E16 (Option AObj)) (fun _ => (E16 (Option AObj)) → E16 (E16 (Option AObj))) (fun xa xb xc xd xe xf xg xh xi xj xk xl xm xn xo xp y => E16.mk y xb xc xd xe xf xg xh xi xj xk xl xm xn xo xp) t)
    (fun t => @E16.rec (E16 (Option AObj)) (fun _ => (E16 (Option AObj)) → E16 (E16 (Option AObj))) (fun xa xb xc xd xe xf xg xh xi xj xk xl xm xn xo xp y => E16.mk xa y xc xd xe xf xg xh xi xj xk xl xm xn xo xp) t)
    (fun t => @E16.rec (E16 (Option AObj)) (fun _ => (E16 (Option AObj)) → E16 (E16 (Option AObj))) (fun xa xb xc xd xe xf xg xh xi xj xk xl xm xn xo xp y => E16.mk xa xb y xd xe xf xg xh xi xj xk xl xm xn xo xp) t)
    (fun t => @E16.rec (E16 (Option AObj)) (fun _ => (E16 (Option AObj)) → E16 (E16 (Option AObj))) (fun xa xb xc xd xe xf xg xh xi xj xk xl xm xn xo xp y => E16.mk xa xb xc y xe xf xg xh xi xj xk xl xm xn xo xp) t)
    (fun t => @E16.rec (E16 (Option AObj)) (fun _ => (E16 (Option AObj)) → E16 (E16 (Option AObj))) (fun xa xb xc xd xe xf xg xh xi xj xk xl xm xn xo xp y => E16.mk xa xb xc xd y xf xg xh xi xj xk xl xm xn xo xp) t)
    (fun t => @E16.rec (E16 (Option AObj)) (fun _ => (E16 (Option AObj)) → E16 (E16 (Option AObj))) (fun xa xb xc xd xe xf xg xh xi xj xk xl xm xn xo xp y => E16.mk xa xb xc xd xe y xg xh xi xj xk xl xm xn xo xp) t)
    (fun t => @E16.rec (E16 (Option AObj)) (fun _ => (E16 (Option AObj)) → E16 (E16 (Option AObj))) (fun xa xb xc xd xe xf xg xh xi xj xk xl xm xn xo xp y => E16.mk xa xb xc xd xe xf y xh xi xj xk xl xm xn xo xp) t)
    (fun t => @E16.rec (E16 (Option AObj)) (fun _ => (E16 (Option AObj)) → E16 (E16 (Option AObj))) (fun xa xb xc xd xe xf xg xh xi xj xk xl xm xn xo xp y => E16.mk xa xb xc xd xe xf xg y xi xj xk xl xm xn xo xp) t)
    (fun t => @E16.rec (E16 (Option AObj)) (fun _ => (E16 (Option AObj)) → E16 (E16 (Option AObj))) (fun xa xb xc xd xe xf xg xh xi xj xk xl xm xn xo xp y => E16.mk xa xb xc xd xe xf xg xh y xj xk xl xm xn xo xp) t)
    (fun t => @E16.rec (E16 (Option AObj)) (fun _ => (E16 (Option AObj)) → E16 (E16 (Option AObj))) (fun xa xb xc xd xe xf xg xh xi xj xk xl xm xn xo xp y => E16.mk xa xb xc xd xe xf xg xh xi y xk xl xm xn xo xp) t)
    (fun t => @E16.rec (E16 (Option AObj)) (fun _ => (E16 (Option AObj)) → E16 (E16 (Option AObj))) (fun xa xb xc xd xe xf xg xh xi xj xk xl xm xn xo xp y => E16.mk xa xb xc xd xe xf xg xh xi xj y xl xm xn xo xp) t)
    (fun t => @E16.rec (E16 (Option AObj)) (fun _ => (E16 (Option AObj)) → E16 (E16 (Option AObj))) (fun xa xb xc xd xe xf xg xh xi xj xk xl xm xn xo xp y => E16.mk xa xb xc xd xe xf xg xh xi xj xk y xm xn xo xp) t)
    (fun t => @E16.rec (E16 (Option AObj)) (fun _ => (E16 (Option AObj)) → E16 (E16 (Option AObj))) (fun xa xb xc xd xe xf xg xh xi xj xk xl xm xn xo xp y => E16.mk xa xb xc xd xe xf xg xh xi xj xk xl y xn xo xp) t)
    (fun t => @E16.rec (E16 (Option AObj)) (fun _ => (E16 (Option AObj)) → E16 (E16 (Option AObj))) (fun xa xb xc xd xe xf xg xh xi xj xk xl xm xn xo xp y => E16.mk xa xb xc xd xe xf xg xh xi xj xk xl xm y xo xp) t)
    (fun t => @E16.rec (E16 (Option AObj)) (fun _ => (E16 (Option AObj)) → E16 (E16 (Option AObj))) (fun xa xb xc xd xe xf xg xh xi xj xk xl xm xn xo xp y => E16.mk xa xb xc xd xe xf xg xh xi xj xk xl xm xn y xp) t)
    (fun t => @E16.rec (E16 (Option AObj)) (fun _ => (E16 (Option AObj)) → E16 (E16 (Option AObj))) (fun xa xb xc xd xe xf xg xh xi xj xk xl xm xn xo xp y => E16.mk xa xb xc xd xe xf xg xh xi xj xk xl xm xn xo y) t)
    d
theorem getP_eq (d : D16) (t : E16 (E16 (Option AObj))) : getP d t = E16.get d t := by cases d <;> rfl
theorem setP_eq (d : D16) (t : E16 (E16 (Option AObj))) (y : (E16 (Option AObj))) : setP d t y = E16.set d t y := by cases d <;> cases t <;> rfl

noncomputable def getQ : D16 → E16 (E16 (E16 (Option AObj))) → (E16 (E16 (Option AObj))) := fun d =>
  @D16.rec (fun _ => E16 (E16 (E16 (Option AObj))) → (E16 (E16 (Option AObj)))) (fun t => t.xa) (fun t => t.xb) (fun t => t.xc) (fun t => t.xd) (fun t => t.xe) (fun t => t.xf) (fun t => t.xg) (fun t => t.xh) (fun t => t.xi) (fun t => t.xj) (fun t => t.xk) (fun t => t.xl) (fun t => t.xm) (fun t => t.xn) (fun t => t.xo) (fun t => t.xp) d
noncomputable def setQ : D16 → E16 (E16 (E16 (Option AObj))) → (E16 (E16 (Option AObj))) → E16 (E16 (E16 (Option AObj))) := fun d =>
  @D16.rec (fun _ => E16 (E16 (E16 (Option AObj))) → (E16 (E16 (Option AObj))) → E16 (E16 (E16 (Option AObj))))
    (fun t => @E16.rec (E16 (E16 (Option AObj))) (fun _ => (E16 (E16 (Option AObj))) → E16 (E16 (E16 (Option AObj)))) (fun xa xb xc xd xe xf xg xh xi xj xk xl xm xn xo xp y => E16.mk y xb xc xd xe xf xg xh xi xj xk xl xm xn xo xp) t)
    (fun t => @E16.rec (E16 (E16 (Option AObj))) (fun _ => (E16 (E16 (Option AObj))) → E16 (E16 (E16 (Option AObj)))) (fun xa xb xc xd xe xf xg xh xi xj xk xl xm xn xo xp y => E16.mk xa y xc xd xe xf xg xh xi xj xk xl xm xn xo xp) t)
    (fun t => @E16.rec (E16 (E16 (Option AObj))) (fun _ => (E16 (E16 (Option AObj))) → E16 (E16 (E16 (Option AObj)))) (fun xa xb xc xd xe xf xg xh xi xj xk xl xm xn xo xp y => E16.mk xa xb y xd xe xf xg xh xi xj xk xl xm xn xo xp) t)
    (fun t => @E16.rec (E16 (E16 (Option AObj))) (fun _ => (E16 (E16 (Option AObj))) → E16 (E16 (E16 (Option AObj)))) (fun xa xb xc xd xe xf xg xh xi xj xk xl xm xn xo xp y => E16.mk xa xb xc y xe xf xg xh xi xj xk xl xm xn xo xp) t)
    (fun t => @E16.rec (E16 (E16 (Option AObj))) (fun _ => (E16 (E16 (Option AObj))) → E16 (E16 (E16 (Option AObj)))) (fun xa xb xc xd xe xf xg xh xi xj xk xl xm xn xo xp y => E16.mk xa xb xc xd y xf xg xh xi xj xk xl xm xn xo xp) t)
    (fun t => @E16.rec (E16 (E16 (Option AObj))) (fun _ => (E16 (E16 (Option AObj))) → E16 (E16 (E16 (Option AObj)))) (fun xa xb xc xd xe xf xg xh xi xj xk xl xm xn xo xp y => E16.mk xa xb xc xd xe y xg xh xi xj xk xl xm xn xo xp) t)
    (fun t => @E16.rec (E16 (E16 (Option AObj))) (fun _ => (E16 (E16 (Option AObj))) → E16 (E16 (E16 (Option AObj)))) (fun xa xb xc xd xe xf xg xh xi xj xk xl xm xn xo xp y => E16.mk xa xb xc xd xe xf y xh xi xj xk xl xm xn xo xp) t)
    (fun t => @E16.rec (E16 (E16 (Option AObj))) (fun _ => (E16 (E16 (Option AObj))) → E16 (E16 (E16 (Option AObj)))) (fun xa xb xc xd xe xf xg xh xi xj xk xl xm xn xo xp y => E16.mk xa xb xc xd xe xf xg y xi xj xk xl xm xn xo xp) t)
    (fun t => @E16.rec (E16 (E16 (Option AObj))) (fun _ => (E16 (E16 (Option AObj))) → E16 (E16 (E16 (Option AObj)))) (fun xa xb xc xd xe xf xg xh xi xj xk xl xm xn xo xp y => E16.mk xa xb xc xd xe xf xg xh y xj xk xl xm xn xo xp) t)
    (fun t => @E16.rec (E16 (E16 (Option AObj))) (fun _ => (E16 (E16 (Option AObj))) → E16 (E16 (E16 (Option AObj)))) (fun xa xb xc xd xe xf xg xh xi xj xk xl xm xn xo xp y => E16.mk xa xb xc xd xe xf xg xh xi y xk xl xm xn xo xp) t)
    (fun t => @E16.rec (E16 (E16 (Option AObj))) (fun _ => (E16 (E16 (Option AObj))) → E16 (E16 (E16 (Option AObj)))) (fun xa xb xc xd xe xf xg xh xi xj xk xl xm xn xo xp y => E16.mk xa xb xc xd xe xf xg xh xi xj y xl xm xn xo xp) t)
    (fun t => @E16.rec (E16 (E16 (Option AObj))) (fun _ => (E16 (E16 (Option AObj))) → E16 (E16 (E16 (Option AObj)))) (fun xa xb xc xd xe xf xg xh xi xj xk xl xm xn xo xp y => E16.mk xa xb xc xd xe xf xg xh xi xj xk y xm xn xo xp) t)
    (fun t => @E16.rec (E16 (E16 (Option AObj))) (fun _ => (E16 (E16 (Option AObj))) → E16 (E16 (E16 (Option AObj)))) (fun xa xb xc xd xe xf xg xh xi xj xk xl xm xn xo xp y => E16.mk xa xb xc xd xe xf xg xh xi xj xk xl y xn xo xp) t)
    (fun t => @E16.rec (E16 (E16 (Option AObj))) (fun _ => (E16 (E16 (Option AObj))) → E16 (E16 (E16 (Option AObj)))) (fun xa xb xc xd xe xf xg xh xi xj xk xl xm xn xo xp y => E16.mk xa xb xc xd xe xf xg xh xi xj xk xl xm y xo xp) t)
    (fun t => @E16.rec (E16 (E16 (Option AObj))) (fun _ => (E16 (E16 (Option AObj))) → E16 (E16 (E16 (Option AObj)))) (fun xa xb xc xd xe xf xg xh xi xj xk xl xm xn xo xp y => E16.mk xa xb xc xd xe xf xg xh xi xj xk xl xm xn y xp) t)
    (fun t => @E16.rec (E16 (E16 (Option AObj))) (fun _ => (E16 (E16 (Option AObj))) → E16 (E16 (E16 (Option AObj)))) (fun xa xb xc xd xe xf xg xh xi xj xk xl xm xn xo xp y => E16.mk xa xb xc xd xe xf xg xh xi xj xk xl xm xn xo y) t)
    d
theorem getQ_eq (d : D16) (t : E16 (E16 (E16 (Option AObj)))) : getQ d t = E16.get d t := by cases d <;> rfl
theorem setQ_eq (d : D16) (t : E16 (E16 (E16 (Option AObj)))) (y : (E16 (E16 (Option AObj)))) : setQ d t y = E16.set d t y := by cases d <;> cases t <;> rfl

noncomputable def getR : D16 → E16 (E16 (E16 (E16 (Option AObj)))) → (E16 (E16 (E16 (Option AObj)))) := fun d =>
  @D16.rec (fun _ => E16 (E16 (E16 (E16 (Option AObj)))) → (E16 (E16 (E16 (Option AObj))))) (fun t => t.xa) (fun t => t.xb) (fun t => t.xc) (fun t => t.xd) (fun t => t.xe) (fun t => t.xf) (fun t => t.xg) (fun t => t.xh) (fun t => t.xi) (fun t => t.xj) (fun t => t.xk) (fun t => t.xl) (fun t => t.xm) (fun t => t.xn) (fun t => t.xo) (fun t => t.xp) d
noncomputable def setR : D16 → E16 (E16 (E16 (E16 (Option AObj)))) → (E16 (E16 (E16 (Option AObj)))) → E16 (E16 (E16 (E16 (Option AObj)))) := fun d =>
  @D16.rec (fun _ => E16 (E16 (E16 (E16 (Option AObj)))) → (E16 (E16 (E16 (Option AObj)))) → E16 (E16 (E16 (E16 (Option AObj)))))
    (fun t => @E16.rec (E16 (E16 (E16 (Option AObj)))) (fun _ => (E16 (E16 (E16 (Option AObj)))) → E16 (E16 (E16 (E16 (Option AObj))))) (fun xa xb xc xd xe xf xg xh xi xj xk xl xm xn xo xp y => E16.mk y xb xc xd xe xf xg xh xi xj xk xl xm xn xo xp) t)
    (fun t => @E16.rec (E16 (E16 (E16 (Option AObj)))) (fun _ => (E16 (E16 (E16 (Option AObj)))) → E16 (E16 (E16 (E16 (Option AObj))))) (fun xa xb xc xd xe xf xg xh xi xj xk xl xm xn xo xp y => E16.mk xa y xc xd xe xf xg xh xi xj xk xl xm xn xo xp) t)
    (fun t => @E16.rec (E16 (E16 (E16 (Option AObj)))) (fun _ => (E16 (E16 (E16 (Option AObj)))) → E16 (E16 (E16 (E16 (Option AObj))))) (fun xa xb xc xd xe xf xg xh xi xj xk xl xm xn xo xp y => E16.mk xa xb y xd xe xf xg xh xi xj xk xl xm xn xo xp) t)
    (fun t => @E16.rec (E16 (E16 (E16 (Option AObj)))) (fun _ => (E16 (E16 (E16 (Option AObj)))) → E16 (E16 (E16 (E16 (Option AObj))))) (fun xa xb xc xd xe xf xg xh xi xj xk xl xm xn xo xp y => E16.mk xa xb xc y xe xf xg xh xi xj xk xl xm xn xo xp) t)
    (fun t => @E16.rec (E16 (E16 (E16 (Option AObj)))) (fun _ => (E16 (E16 (E16 (Option AObj)))) → E16 (E16 (E16 (E16 (Option AObj))))) (fun xa xb xc xd xe xf xg xh xi xj xk xl xm xn xo xp y => E16.mk xa xb xc xd y xf xg xh xi xj xk xl xm xn xo xp) t)
    (fun t => @E16.rec (E16 (E16 (E16 (Option AObj)))) (fun _ => (E16 (E16 (E16 (Option AObj)))) → E16 (E16 (E16 (E16 (Option AObj))))) (fun xa xb xc xd xe xf xg xh xi xj xk xl xm xn xo xp y => E16.mk xa xb xc xd xe y xg xh xi xj xk xl xm xn xo xp) t)
    (fun t => @E16.rec (E16 (E16 (E16 (Option AObj)))) (fun _ => (E16 (E16 (E16 (Option AObj)))) → E16 (E16 (E16 (E16 (Option AObj))))) (fun xa xb xc xd xe xf xg xh xi xj xk xl xm xn xo xp y => E16.mk xa xb xc xd xe xf y xh xi xj xk xl xm xn xo xp) t)
    (fun t => @E16.rec (E16 (E16 (E16 (Option AObj)))) (fun _ => (E16 (E16 (E16 (Option AObj)))) → E16 (E16 (E16 (E16 (Option AObj))))) (fun xa xb xc xd xe xf xg xh xi xj xk xl xm xn xo xp y => E16.mk xa xb xc xd xe xf xg y xi xj xk xl xm xn xo xp) t)
    (fun t => @E16.rec (E16 (E16 (E16 (Option AObj)))) (fun _ => (E16 (E16 (E16 (Option AObj)))) → E16 (E16 (E16 (E16 (Option AObj))))) (fun xa xb xc xd xe xf xg xh xi xj xk xl xm xn xo xp y => E16.mk xa xb xc xd xe xf xg xh y xj xk xl xm xn xo xp) t)
    (fun t => @E16.rec (E16 (E16 (E16 (Option AObj)))) (fun _ => (E16 (E16 (E16 (Option AObj)))) → E16 (E16 (E16 (E16 (Option AObj))))) (fun xa xb xc xd xe xf xg xh xi xj xk xl xm xn xo xp y => E16.mk xa xb xc xd xe xf xg xh xi y xk xl xm xn xo xp) t)
    (fun t => @E16.rec (E16 (E16 (E16 (Option AObj)))) (fun _ => (E16 (E16 (E16 (Option AObj)))) → E16 (E16 (E16 (E16 (Option AObj))))) (fun xa xb xc xd xe xf xg xh xi xj xk xl xm xn xo xp y => E16.mk xa xb xc xd xe xf xg xh xi xj y xl xm xn xo xp) t)
    (fun t => @E16.rec (E16 (E16 (E16 (Option AObj)))) (fun _ => (E16 (E16 (E16 (Option AObj)))) → E16 (E16 (E16 (E16 (Option AObj))))) (fun xa xb xc xd xe xf xg xh xi xj xk xl xm xn xo xp y => E16.mk xa xb xc xd xe xf xg xh xi xj xk y xm xn xo xp) t)
    (fun t => @E16.rec (E16 (E16 (E16 (Option AObj)))) (fun _ => (E16 (E16 (E16 (Option AObj)))) → E16 (E16 (E16 (E16 (Option AObj))))) (fun xa xb xc xd xe xf xg xh xi xj xk xl xm xn xo xp y => E16.mk xa xb xc xd xe xf xg xh xi xj xk xl y xn xo xp) t)
    (fun t => @E16.rec (E16 (E16 (E16 (Option AObj)))) (fun _ => (E16 (E16 (E16 (Option AObj)))) → E16 (E16 (E16 (E16 (Option AObj))))) (fun xa xb xc xd xe xf xg xh xi xj xk xl xm xn xo xp y => E16.mk xa xb xc xd xe xf xg xh xi xj xk xl xm y xo xp) t)
    (fun t => @E16.rec (E16 (E16 (E16 (Option AObj)))) (fun _ => (E16 (E16 (E16 (Option AObj)))) → E16 (E16 (E16 (E16 (Option AObj))))) (fun xa xb xc xd xe xf xg xh xi xj xk xl xm xn xo xp y => E16.mk xa xb xc xd xe xf xg xh xi xj xk xl xm xn y xp) t)
    (fun t => @E16.rec (E16 (E16 (E16 (Option AObj)))) (fun _ => (E16 (E16 (E16 (Option AObj)))) → E16 (E16 (E16 (E16 (Option AObj))))) (fun xa xb xc xd xe xf xg xh xi xj xk xl xm xn xo xp y => E16.mk xa xb xc xd xe xf xg xh xi xj xk xl xm xn xo y) t)
    d
theorem getR_eq (d : D16) (t : E16 (E16 (E16 (E16 (Option AObj))))) : getR d t = E16.get d t := by cases d <;> rfl
theorem setR_eq (d : D16) (t : E16 (E16 (E16 (E16 (Option AObj))))) (y : (E16 (E16 (E16 (Option AObj))))) : setR d t y = E16.set d t y := by cases d <;> cases t <;> rfl

/-! ### the temporaries -/
noncomputable def Env.valF : Env → Nat → Value := fun T n =>
  Bool.rec (motive := fun _ => Value) (getV (dgF (Nat.mod n 16)) (getW (dgF (Nat.div n 16)) T.e)) (Option.rec (motive := fun _ => Value) undef (fun v => v) (Trie.get T.r n)) (Nat.ble 256 n)
noncomputable def Env.putF : Env → Nat → Value → Env := fun T n v =>
  Bool.rec (motive := fun _ => Env) (Env.mk (setW (dgF (Nat.div n 16)) T.e (setV (dgF (Nat.mod n 16)) (getW (dgF (Nat.div n 16)) T.e) v)) T.r) (Env.mk T.e (Trie.put T.r n v)) (Nat.ble 256 n)

theorem ble_blt (n m : Nat) : Nat.blt n m = !(Nat.ble m n) := by
  rw [Bool.eq_iff_iff]
  simp only [Nat.blt, Nat.ble_eq, Bool.not_eq_true', Bool.eq_false_iff, Ne]
  omega

theorem Env.valF_eq (T : Env) (n : Nat) : T.valF n = T.val n := by
  unfold Env.valF Env.val
  rw [ble_blt, getV_eq, getW_eq, dgF_eq, dgF_eq]
  cases Nat.ble 256 n
  · rfl
  · show Option.rec undef (fun v => v) (Trie.get T.r n) = (Trie.get T.r n).getD undef
    cases Trie.get T.r n <;> rfl

theorem Env.putF_eq (T : Env) (n : Nat) (v : Value) : T.putF n v = T.put n v := by
  unfold Env.putF Env.put
  rw [ble_blt, setW_eq, setV_eq, getW_eq, dgF_eq, dgF_eq]
  cases Nat.ble 256 n <;> rfl

/-! ### the memory -/
noncomputable def Tab.getF : Tab AObj → Nat → Option AObj := fun t n =>
  Bool.rec (motive := fun _ => Option AObj) (getO (dgF (Nat.mod n 16)) (getP (dgF (Nat.mod (Nat.div n 16) 16)) (getQ (dgF (Nat.mod (Nat.div n 256) 16)) (getR (dgF (Nat.div n 4096)) t.e)))) (Trie.get t.r n) (Nat.ble 65536 n)
noncomputable def Tab.putF : Tab AObj → Nat → AObj → Tab AObj := fun t n a =>
  Bool.rec (motive := fun _ => Tab AObj)
    (Tab.mk (setR (dgF (Nat.div n 4096)) t.e (setQ (dgF (Nat.mod (Nat.div n 256) 16)) (getR (dgF (Nat.div n 4096)) t.e)
      (setP (dgF (Nat.mod (Nat.div n 16) 16)) (getQ (dgF (Nat.mod (Nat.div n 256) 16)) (getR (dgF (Nat.div n 4096)) t.e))
        (setO (dgF (Nat.mod n 16)) (getP (dgF (Nat.mod (Nat.div n 16) 16)) (getQ (dgF (Nat.mod (Nat.div n 256) 16)) (getR (dgF (Nat.div n 4096)) t.e))) (some a))))) t.r)
    (Tab.mk t.e (Trie.put t.r n a)) (Nat.ble 65536 n)

theorem Tab.getF_eq (t : Tab AObj) (n : Nat) : t.getF n = t.get n := by
  unfold Tab.getF Tab.get
  rw [ble_blt, getO_eq, getP_eq, getQ_eq, getR_eq]
  simp only [dgF_eq]
  cases Nat.ble 65536 n <;> rfl

theorem Tab.putF_eq (t : Tab AObj) (n : Nat) (a : AObj) : t.putF n a = t.put n a := by
  unfold Tab.putF Tab.put
  simp only [ble_blt, setO_eq, setP_eq, setQ_eq, setR_eq, getP_eq, getQ_eq, getR_eq, dgF_eq]
  cases Nat.ble 65536 n <;> rfl

noncomputable def AHeap.getF : AHeap → Nat → Option AObj := fun H b =>
  @AHeap.rec (fun _ => Nat → Option AObj) (fun base t _ b => Bool.rec (motive := fun _ => Option AObj) (some .raw) (Tab.getF t (Nat.sub b base)) (Nat.ble base b)) H b
noncomputable def AHeap.putF : AHeap → Nat → AObj → AHeap := fun H b o =>
  @AHeap.rec (fun _ => Nat → AObj → AHeap) (fun base t cnt b o => AHeap.mk base (Tab.putF t (Nat.sub b base) o) cnt) H b o
noncomputable def AHeap.pushF : AHeap → AObj → AHeap := fun H o =>
  @AHeap.rec (fun _ => AObj → AHeap) (fun base t cnt o => AHeap.mk base (Tab.putF t cnt o) (Nat.succ cnt)) H o
noncomputable def AHeap.nextF : AHeap → Nat := fun H => Nat.add H.base H.cnt

theorem AHeap.getF_eq (H : AHeap) (b : Nat) : H.getF b = H.get b := by
  show Bool.rec (some .raw) (Tab.getF H.t (Nat.sub b H.base)) (Nat.ble H.base b) = H.get b
  unfold AHeap.get
  rw [Tab.getF_eq]
  by_cases h : b < H.base
  · rw [if_pos h, show Nat.ble H.base b = false from by rw [← Bool.not_eq_true, Nat.ble_eq]; omega]
  · rw [if_neg h, show Nat.ble H.base b = true from Nat.ble_eq_true_of_le (by omega)]
    rfl
theorem AHeap.putF_eq (H : AHeap) (b : Nat) (o : AObj) : H.putF b o = H.put b o := by
  show AHeap.mk H.base (Tab.putF H.t (Nat.sub b H.base) o) H.cnt = _
  rw [Tab.putF_eq]; rfl
theorem AHeap.pushF_eq (H : AHeap) (o : AObj) : H.pushF o = H.push o := by
  show AHeap.mk H.base (Tab.putF H.t H.cnt o) (Nat.succ H.cnt) = _
  rw [Tab.putF_eq]; rfl
theorem AHeap.nextF_eq (H : AHeap) : H.nextF = H.next := rfl

/-! ### what a value is -/
abbrev VBK := Bool → Bool
noncomputable def vB : Value → Bool → VBK → Bool := fun v =>
  @Value.rec (fun _ => Bool → VBK → Bool) (fun _ => PUnit) (fun _ => PUnit)
    (fun x0 _ k => k x0) (fun _ _ s _ => s) (fun _ _ s _ => s) (fun _ _ _ s _ => s) (fun _ s _ => s) (fun _ s _ => s) (fun _ _ _ s _ => s) (fun _ s _ => s) (fun _ s _ => s) (fun _ _ _ _ _ s _ => s) (fun  s _ => s) (fun _ _ _ s _ => s) (fun  s _ => s) (fun _ _ s _ => s) (fun _ _ s _ => s)
    (fun _ _ => ⟨⟩) ⟨⟩ (fun _ _ _ _ => ⟨⟩) v
theorem vB_eq (v : Value) (s : Bool) (k : VBK) : vB v s k = match v with | .bool x0 => k x0 | _ => s := by cases v <;> rfl

abbrev VIK := IntKind → Int → Bool
noncomputable def vI : Value → Bool → VIK → Bool := fun v =>
  @Value.rec (fun _ => Bool → VIK → Bool) (fun _ => PUnit) (fun _ => PUnit)
    (fun _ s _ => s) (fun x0 x1 _ k => k x0 x1) (fun _ _ s _ => s) (fun _ _ _ s _ => s) (fun _ s _ => s) (fun _ s _ => s) (fun _ _ _ s _ => s) (fun _ s _ => s) (fun _ s _ => s) (fun _ _ _ _ _ s _ => s) (fun  s _ => s) (fun _ _ _ s _ => s) (fun  s _ => s) (fun _ _ s _ => s) (fun _ _ s _ => s)
    (fun _ _ => ⟨⟩) ⟨⟩ (fun _ _ _ _ => ⟨⟩) v
theorem vI_eq (v : Value) (s : Bool) (k : VIK) : vI v s k = match v with | .int x0 x1 => k x0 x1 | _ => s := by cases v <;> rfl

abbrev VTK := ByteArray → Bool
noncomputable def vT : Value → Bool → VTK → Bool := fun v =>
  @Value.rec (fun _ => Bool → VTK → Bool) (fun _ => PUnit) (fun _ => PUnit)
    (fun _ s _ => s) (fun _ _ s _ => s) (fun _ _ s _ => s) (fun _ _ _ s _ => s) (fun x0 _ k => k x0) (fun _ s _ => s) (fun _ _ _ s _ => s) (fun _ s _ => s) (fun _ s _ => s) (fun _ _ _ _ _ s _ => s) (fun  s _ => s) (fun _ _ _ s _ => s) (fun  s _ => s) (fun _ _ s _ => s) (fun _ _ s _ => s)
    (fun _ _ => ⟨⟩) ⟨⟩ (fun _ _ _ _ => ⟨⟩) v
theorem vT_eq (v : Value) (s : Bool) (k : VTK) : vT v s k = match v with | .string x0 => k x0 | _ => s := by cases v <;> rfl

abbrev VQK := Option Addr → Bool
noncomputable def vQ : Value → Bool → VQK → Bool := fun v =>
  @Value.rec (fun _ => Bool → VQK → Bool) (fun _ => PUnit) (fun _ => PUnit)
    (fun _ s _ => s) (fun _ _ s _ => s) (fun _ _ s _ => s) (fun _ _ _ s _ => s) (fun _ s _ => s) (fun x0 _ k => k x0) (fun _ _ _ s _ => s) (fun _ s _ => s) (fun _ s _ => s) (fun _ _ _ _ _ s _ => s) (fun  s _ => s) (fun _ _ _ s _ => s) (fun  s _ => s) (fun _ _ s _ => s) (fun _ _ s _ => s)
    (fun _ _ => ⟨⟩) ⟨⟩ (fun _ _ _ _ => ⟨⟩) v
theorem vQ_eq (v : Value) (s : Bool) (k : VQK) : vQ v s k = match v with | .pointer x0 => k x0 | _ => s := by cases v <;> rfl

abbrev VSK := Option Addr → Nat → Nat → Bool
noncomputable def vS : Value → Bool → VSK → Bool := fun v =>
  @Value.rec (fun _ => Bool → VSK → Bool) (fun _ => PUnit) (fun _ => PUnit)
    (fun _ s _ => s) (fun _ _ s _ => s) (fun _ _ s _ => s) (fun _ _ _ s _ => s) (fun _ s _ => s) (fun _ s _ => s) (fun x0 x1 x2 _ k => k x0 x1 x2) (fun _ s _ => s) (fun _ s _ => s) (fun _ _ _ _ _ s _ => s) (fun  s _ => s) (fun _ _ _ s _ => s) (fun  s _ => s) (fun _ _ s _ => s) (fun _ _ s _ => s)
    (fun _ _ => ⟨⟩) ⟨⟩ (fun _ _ _ _ => ⟨⟩) v
theorem vS_eq (v : Value) (s : Bool) (k : VSK) : vS v s k = match v with | .slice x0 x1 x2 => k x0 x1 x2 | _ => s := by cases v <;> rfl

abbrev VMK := Option Nat → Bool
noncomputable def vM : Value → Bool → VMK → Bool := fun v =>
  @Value.rec (fun _ => Bool → VMK → Bool) (fun _ => PUnit) (fun _ => PUnit)
    (fun _ s _ => s) (fun _ _ s _ => s) (fun _ _ s _ => s) (fun _ _ _ s _ => s) (fun _ s _ => s) (fun _ s _ => s) (fun _ _ _ s _ => s) (fun x0 _ k => k x0) (fun _ s _ => s) (fun _ _ _ _ _ s _ => s) (fun  s _ => s) (fun _ _ _ s _ => s) (fun  s _ => s) (fun _ _ s _ => s) (fun _ _ s _ => s)
    (fun _ _ => ⟨⟩) ⟨⟩ (fun _ _ _ _ => ⟨⟩) v
theorem vM_eq (v : Value) (s : Bool) (k : VMK) : vM v s k = match v with | .map x0 => k x0 | _ => s := by cases v <;> rfl

abbrev VFK := Fn → Array Value → Array Value → Bool
noncomputable def vF : Value → Bool → VFK → Bool := fun v =>
  @Value.rec (fun _ => Bool → VFK → Bool) (fun _ => PUnit) (fun _ => PUnit)
    (fun _ s _ => s) (fun _ _ s _ => s) (fun _ _ s _ => s) (fun _ _ _ s _ => s) (fun _ s _ => s) (fun _ s _ => s) (fun _ _ _ s _ => s) (fun _ s _ => s) (fun _ s _ => s) (fun x0 x1 x2 _ _ _ k => k x0 x1 x2) (fun  s _ => s) (fun _ _ _ s _ => s) (fun  s _ => s) (fun _ _ s _ => s) (fun _ _ s _ => s)
    (fun _ _ => ⟨⟩) ⟨⟩ (fun _ _ _ _ => ⟨⟩) v
theorem vF_eq (v : Value) (s : Bool) (k : VFK) : vF v s k = match v with | .func x0 x1 x2 => k x0 x1 x2 | _ => s := by cases v <;> rfl

abbrev VAK := Array Value → Bool
noncomputable def vA : Value → Bool → VAK → Bool := fun v =>
  @Value.rec (fun _ => Bool → VAK → Bool) (fun _ => PUnit) (fun _ => PUnit)
    (fun _ s _ => s) (fun _ _ s _ => s) (fun _ _ s _ => s) (fun _ _ _ s _ => s) (fun _ s _ => s) (fun _ s _ => s) (fun _ _ _ s _ => s) (fun _ s _ => s) (fun _ s _ => s) (fun _ _ _ _ _ s _ => s) (fun  s _ => s) (fun _ _ _ s _ => s) (fun  s _ => s) (fun x0 _ _ k => k x0) (fun _ _ s _ => s)
    (fun _ _ => ⟨⟩) ⟨⟩ (fun _ _ _ _ => ⟨⟩) v
theorem vA_eq (v : Value) (s : Bool) (k : VAK) : vA v s k = match v with | .agg x0 => k x0 | _ => s := by cases v <;> rfl

abbrev VUK := Array Value → Bool
noncomputable def vU : Value → Bool → VUK → Bool := fun v =>
  @Value.rec (fun _ => Bool → VUK → Bool) (fun _ => PUnit) (fun _ => PUnit)
    (fun _ s _ => s) (fun _ _ s _ => s) (fun _ _ s _ => s) (fun _ _ _ s _ => s) (fun _ s _ => s) (fun _ s _ => s) (fun _ _ _ s _ => s) (fun _ s _ => s) (fun _ s _ => s) (fun _ _ _ _ _ s _ => s) (fun  s _ => s) (fun _ _ _ s _ => s) (fun  s _ => s) (fun _ _ s _ => s) (fun x0 _ _ k => k x0)
    (fun _ _ => ⟨⟩) ⟨⟩ (fun _ _ _ _ => ⟨⟩) v
theorem vU_eq (v : Value) (s : Bool) (k : VUK) : vU v s k = match v with | .tuple x0 => k x0 | _ => s := by cases v <;> rfl

/-- A value, at its head. -/
noncomputable def force : Value → (Value → Bool) → Bool := fun v =>
  @Value.rec (fun _ => (Value → Bool) → Bool) (fun _ => PUnit) (fun _ => PUnit)
    (fun x0 k => k (.bool x0)) (fun x0 x1 k => k (.int x0 x1)) (fun x0 x1 k => k (.float x0 x1)) (fun x0 x1 x2 k => k (.complex x0 x1 x2)) (fun x0 k => k (.string x0)) (fun x0 k => k (.pointer x0)) (fun x0 x1 x2 k => k (.slice x0 x1 x2)) (fun x0 k => k (.map x0)) (fun x0 k => k (.chan x0)) (fun x0 x1 x2 _ _ k => k (.func x0 x1 x2)) (fun k => k (.nilFunc )) (fun x0 x1 _ k => k (.iface x0 x1)) (fun k => k (.nilIface )) (fun x0 _ k => k (.agg x0)) (fun x0 _ k => k (.tuple x0))
    (fun _ _ => ⟨⟩) ⟨⟩ (fun _ _ _ _ => ⟨⟩) v
theorem force_eq (v : Value) (k : Value → Bool) : force v k = k v := by cases v <;> rfl

noncomputable def scalarF : Value → Bool := fun v =>
  @Value.rec (fun _ => Bool) (fun _ => PUnit) (fun _ => PUnit)
    (fun _ => true) (fun _ _ => true) (fun _ _ => true) (fun _ _ _ => true) (fun _ => true) (fun _ => true) (fun _ _ _ => true) (fun _ => true) (fun _ => true) (fun _ _ _ _ _ => true) true (fun _ _ _ => true) true (fun _ _ => false) (fun _ _ => false)
    (fun _ _ => ⟨⟩) ⟨⟩ (fun _ _ _ _ => ⟨⟩) v
theorem scalarF_eq (v : Value) : scalarF v = scalar v := by cases v <;> rfl

/-- The cells of a value. -/
noncomputable def vL : Value → (List Value → Bool) → Bool := fun v =>
  @Value.rec (fun _ => (List Value → Bool) → Bool) (fun _ => PUnit) (fun _ => PUnit)
    (fun x0 k => k [.bool x0]) (fun x0 x1 k => k [.int x0 x1]) (fun x0 x1 k => k [.float x0 x1]) (fun x0 x1 x2 k => k [.complex x0 x1 x2]) (fun x0 k => k [.string x0]) (fun x0 k => k [.pointer x0]) (fun x0 x1 x2 k => k [.slice x0 x1 x2]) (fun x0 k => k [.map x0]) (fun x0 k => k [.chan x0]) (fun x0 x1 x2 _ _ k => k [.func x0 x1 x2]) (fun k => k [.nilFunc ]) (fun x0 x1 _ k => k [.iface x0 x1]) (fun k => k [.nilIface ]) (fun x0 _ k => k x0.toList) (fun _ _ _ => false)
    (fun _ _ => ⟨⟩) ⟨⟩ (fun _ _ _ _ => ⟨⟩) v
theorem vL_eq (v : Value) (k : List Value → Bool) : vL v k = match vcells v with | some l => k l | none => false := by cases v <;> rfl

noncomputable def oA : Option Addr → Bool → (Addr → Bool) → Bool := fun o =>
  @Option.rec Addr (fun _ => Bool → (Addr → Bool) → Bool) (fun s _ => s) (fun a _ k => k a) o
theorem oA_eq (o : Option Addr) (s : Bool) (k : Addr → Bool) : oA o s k = match o with | some a => k a | none => s := by cases o <;> rfl

noncomputable def oO : Option AObj → Bool → (AObj → Bool) → Bool := fun o =>
  @Option.rec AObj (fun _ => Bool → (AObj → Bool) → Bool) (fun s _ => s) (fun a _ k => k a) o
theorem oO_eq (o : Option AObj) (s : Bool) (k : AObj → Bool) : oO o s k = match o with | some a => k a | none => s := by cases o <;> rfl

noncomputable def oN : Option Nat → Bool → (Nat → Bool) → Bool := fun o =>
  @Option.rec Nat (fun _ => Bool → (Nat → Bool) → Bool) (fun s _ => s) (fun a _ k => k a) o
theorem oN_eq (o : Option Nat) (s : Bool) (k : Nat → Bool) : oN o s k = match o with | some a => k a | none => s := by cases o <;> rfl

noncomputable def oF : Option IFunc → Bool → (IFunc → Bool) → Bool := fun o =>
  @Option.rec IFunc (fun _ => Bool → (IFunc → Bool) → Bool) (fun s _ => s) (fun a _ k => k a) o
theorem oF_eq (o : Option IFunc) (s : Bool) (k : IFunc → Bool) : oF o s k = match o with | some a => k a | none => s := by cases o <;> rfl

noncomputable def aC : AObj → Bool → (List AVer → Bool) → Bool := fun o =>
  @AObj.rec (fun _ => Bool → (List AVer → Bool) → Bool) (fun  s _ => s) (fun _ s _ => s) (fun x _ k => k x) (fun _ s _ => s) (fun _ s _ => s) (fun _ s _ => s) (fun  s _ => s) (fun  s _ => s) o
theorem aC_eq (o : AObj) (s : Bool) (k : List AVer → Bool) : aC o s k = match o with | .cells x => k x | _ => s := by cases o <;> rfl

noncomputable def aM : AObj → Bool → (List (Value × Value) → Bool) → Bool := fun o =>
  @AObj.rec (fun _ => Bool → (List (Value × Value) → Bool) → Bool) (fun  s _ => s) (fun _ s _ => s) (fun _ s _ => s) (fun x _ k => k x) (fun _ s _ => s) (fun _ s _ => s) (fun  s _ => s) (fun  s _ => s) o
theorem aM_eq (o : AObj) (s : Bool) (k : List (Value × Value) → Bool) : aM o s k = match o with | .map x => k x | _ => s := by cases o <;> rfl

/-- A number that is not below nothing. -/
noncomputable def iN : Int → (Nat → Bool) → Bool := fun i => @Int.rec (fun _ => (Nat → Bool) → Bool) (fun n k => k n) (fun _ _ => false) i
theorem iN_eq (i : Int) (k : Nat → Bool) : iN i k = match i with | .ofNat n => k n | .negSucc _ => false := by cases i <;> rfl

/-! ### lists -/
noncomputable def nthV : List Value → Nat → (Value → Bool) → Bool := fun l =>
  @List.rec Value (fun _ => Nat → (Value → Bool) → Bool) (fun _ _ => false) (fun x _ ih n => @Nat.rec (fun _ => (Value → Bool) → Bool) (fun k => k x) (fun m _ k => ih m k) n) l
theorem nthV_eq (l : List Value) (n : Nat) (k : Value → Bool) : nthV l n k = match l[n]? with | some x => k x | none => false := by
  induction l generalizing n with
  | nil => rfl
  | cons x l ih => cases n with
    | zero => rfl
    | succ n => exact ih n
noncomputable def lenV : List Value → Nat := fun l => @List.rec Value (fun _ => Nat) 0 (fun _ _ ih => Nat.succ ih) l
theorem lenV_eq (l : List Value) : lenV l = l.length := by
  induction l with
  | nil => rfl
  | cons x l ih => exact congrArg Nat.succ ih

noncomputable def nthR : List AVer → Nat → (AVer → Bool) → Bool := fun l =>
  @List.rec AVer (fun _ => Nat → (AVer → Bool) → Bool) (fun _ _ => false) (fun x _ ih n => @Nat.rec (fun _ => (AVer → Bool) → Bool) (fun k => k x) (fun m _ k => ih m k) n) l
theorem nthR_eq (l : List AVer) (n : Nat) (k : AVer → Bool) : nthR l n k = match l[n]? with | some x => k x | none => false := by
  induction l generalizing n with
  | nil => rfl
  | cons x l ih => cases n with
    | zero => rfl
    | succ n => exact ih n
noncomputable def lenR : List AVer → Nat := fun l => @List.rec AVer (fun _ => Nat) 0 (fun _ _ ih => Nat.succ ih) l
theorem lenR_eq (l : List AVer) : lenR l = l.length := by
  induction l with
  | nil => rfl
  | cons x l ih => exact congrArg Nat.succ ih

noncomputable def nthB : List UInt8 → Nat → (UInt8 → Bool) → Bool := fun l =>
  @List.rec UInt8 (fun _ => Nat → (UInt8 → Bool) → Bool) (fun _ _ => false) (fun x _ ih n => @Nat.rec (fun _ => (UInt8 → Bool) → Bool) (fun k => k x) (fun m _ k => ih m k) n) l
theorem nthB_eq (l : List UInt8) (n : Nat) (k : UInt8 → Bool) : nthB l n k = match l[n]? with | some x => k x | none => false := by
  induction l generalizing n with
  | nil => rfl
  | cons x l ih => cases n with
    | zero => rfl
    | succ n => exact ih n
noncomputable def lenB : List UInt8 → Nat := fun l => @List.rec UInt8 (fun _ => Nat) 0 (fun _ _ ih => Nat.succ ih) l
theorem lenB_eq (l : List UInt8) : lenB l = l.length := by
  induction l with
  | nil => rfl
  | cons x l ih => exact congrArg Nat.succ ih

noncomputable def nthI : List Info → Nat → (Info → Bool) → Bool := fun l =>
  @List.rec Info (fun _ => Nat → (Info → Bool) → Bool) (fun _ _ => false) (fun x _ ih n => @Nat.rec (fun _ => (Info → Bool) → Bool) (fun k => k x) (fun m _ k => ih m k) n) l
theorem nthI_eq (l : List Info) (n : Nat) (k : Info → Bool) : nthI l n k = match l[n]? with | some x => k x | none => false := by
  induction l generalizing n with
  | nil => rfl
  | cons x l ih => cases n with
    | zero => rfl
    | succ n => exact ih n
noncomputable def lenI : List Info → Nat := fun l => @List.rec Info (fun _ => Nat) 0 (fun _ _ ih => Nat.succ ih) l
theorem lenI_eq (l : List Info) : lenI l = l.length := by
  induction l with
  | nil => rfl
  | cons x l ih => exact congrArg Nat.succ ih

noncomputable def nthE : List (Value × Value) → Nat → ((Value × Value) → Bool) → Bool := fun l =>
  @List.rec (Value × Value) (fun _ => Nat → ((Value × Value) → Bool) → Bool) (fun _ _ => false) (fun x _ ih n => @Nat.rec (fun _ => ((Value × Value) → Bool) → Bool) (fun k => k x) (fun m _ k => ih m k) n) l
theorem nthE_eq (l : List (Value × Value)) (n : Nat) (k : (Value × Value) → Bool) : nthE l n k = match l[n]? with | some x => k x | none => false := by
  induction l generalizing n with
  | nil => rfl
  | cons x l ih => cases n with
    | zero => rfl
    | succ n => exact ih n
noncomputable def lenE : List (Value × Value) → Nat := fun l => @List.rec (Value × Value) (fun _ => Nat) 0 (fun _ _ ih => Nat.succ ih) l
theorem lenE_eq (l : List (Value × Value)) : lenE l = l.length := by
  induction l with
  | nil => rfl
  | cons x l ih => exact congrArg Nat.succ ih

/-- Those behind the first n, if there are so many. -/
noncomputable def dropV : List Value → Nat → (List Value → Bool) → Bool := fun l =>
  @List.rec Value (fun _ => Nat → (List Value → Bool) → Bool) (fun n k => @Nat.rec (fun _ => (List Value → Bool) → Bool) (fun k => k []) (fun _ _ _ => false) n k)
    (fun x r ih n k => @Nat.rec (fun _ => (List Value → Bool) → Bool) (fun k => k (x :: r)) (fun m _ k => ih m k) n k) l
theorem dropV_eq (l : List Value) (n : Nat) (k : List Value → Bool) : dropV l n k = if n ≤ l.length then k (l.drop n) else false := by
  induction l generalizing n with
  | nil => cases n <;> rfl
  | cons x l ih => cases n with
    | zero => rfl
    | succ n => exact (ih n).trans (by simp)
/-- The first n, if there are so many. -/
noncomputable def takeV : List Value → Nat → (List Value → Bool) → Bool := fun l =>
  @List.rec Value (fun _ => Nat → (List Value → Bool) → Bool) (fun n k => @Nat.rec (fun _ => (List Value → Bool) → Bool) (fun k => k []) (fun _ _ _ => false) n k)
    (fun x _ ih n k => @Nat.rec (fun _ => (List Value → Bool) → Bool) (fun k => k []) (fun m _ k => ih m fun r => k (x :: r)) n k) l
theorem takeV_eq (l : List Value) (n : Nat) (k : List Value → Bool) : takeV l n k = if n ≤ l.length then k (l.take n) else false := by
  induction l generalizing n k with
  | nil => cases n <;> rfl
  | cons x l ih => cases n with
    | zero => rfl
    | succ n => exact (ih n _).trans (by simp)

/-- Those behind the first n, if there are so many. -/
noncomputable def dropB : List UInt8 → Nat → (List UInt8 → Bool) → Bool := fun l =>
  @List.rec UInt8 (fun _ => Nat → (List UInt8 → Bool) → Bool) (fun n k => @Nat.rec (fun _ => (List UInt8 → Bool) → Bool) (fun k => k []) (fun _ _ _ => false) n k)
    (fun x r ih n k => @Nat.rec (fun _ => (List UInt8 → Bool) → Bool) (fun k => k (x :: r)) (fun m _ k => ih m k) n k) l
theorem dropB_eq (l : List UInt8) (n : Nat) (k : List UInt8 → Bool) : dropB l n k = if n ≤ l.length then k (l.drop n) else false := by
  induction l generalizing n with
  | nil => cases n <;> rfl
  | cons x l ih => cases n with
    | zero => rfl
    | succ n => exact (ih n).trans (by simp)
/-- The first n, if there are so many. -/
noncomputable def takeB : List UInt8 → Nat → (List UInt8 → Bool) → Bool := fun l =>
  @List.rec UInt8 (fun _ => Nat → (List UInt8 → Bool) → Bool) (fun n k => @Nat.rec (fun _ => (List UInt8 → Bool) → Bool) (fun k => k []) (fun _ _ _ => false) n k)
    (fun x _ ih n k => @Nat.rec (fun _ => (List UInt8 → Bool) → Bool) (fun k => k []) (fun m _ k => ih m fun r => k (x :: r)) n k) l
theorem takeB_eq (l : List UInt8) (n : Nat) (k : List UInt8 → Bool) : takeB l n k = if n ≤ l.length then k (l.take n) else false := by
  induction l generalizing n k with
  | nil => cases n <;> rfl
  | cons x l ih => cases n with
    | zero => rfl
    | succ n => exact (ih n _).trans (by simp)

noncomputable def catV : List Value → List Value → (List Value → Bool) → Bool := fun l =>
  @List.rec Value (fun _ => List Value → (List Value → Bool) → Bool) (fun m k => k m) (fun x _ ih m k => ih m fun r => k (x :: r)) l
theorem catV_eq (l m : List Value) (k : List Value → Bool) : catV l m k = k (l ++ m) := by
  induction l generalizing k with
  | nil => rfl
  | cons x l ih => exact ih _

noncomputable def catR : List AVer → List AVer → (List AVer → Bool) → Bool := fun l =>
  @List.rec AVer (fun _ => List AVer → (List AVer → Bool) → Bool) (fun m k => k m) (fun x _ ih m k => ih m fun r => k (x :: r)) l
theorem catR_eq (l m : List AVer) (k : List AVer → Bool) : catR l m k = k (l ++ m) := by
  induction l generalizing k with
  | nil => rfl
  | cons x l ih => exact ih _

/-- From a place on others stand. -/
noncomputable def segV : List Value → Nat → List Value → (List Value → Bool) → Bool := fun l =>
  @List.rec Value (fun _ => Nat → List Value → (List Value → Bool) → Bool)
    (fun off xs k => @Nat.rec (fun _ => List Value → (List Value → Bool) → Bool) (fun xs k => @List.rec Value (fun _ => (List Value → Bool) → Bool) (fun k => k []) (fun _ _ _ _ => false) xs k) (fun _ _ _ _ => false) off xs k)
    (fun y r ih off xs k => @Nat.rec (fun _ => List Value → (List Value → Bool) → Bool) (fun xs k => @List.rec Value (fun _ => (List Value → Bool) → Bool) (fun k => k (y :: r)) (fun x xs _ k => ih 0 xs fun r' => k (x :: r')) xs k) (fun m _ xs k => ih m xs fun r' => k (y :: r')) off xs k) l
theorem segV_eq (l : List Value) (off : Nat) (xs : List Value) (k : List Value → Bool) : segV l off xs k = if off + xs.length ≤ l.length then k (l.take off ++ (xs ++ l.drop (off + xs.length))) else false := by
  induction l generalizing off xs k with
  | nil => cases off with
    | zero => cases xs with
      | nil => rfl
      | cons x xs => exact (if_neg (by simp)).symm
    | succ off => exact (if_neg (by simp)).symm
  | cons y l ih => cases off with
    | zero => cases xs with
      | nil => rfl
      | cons x xs =>
        refine (ih 0 xs _).trans ?_
        simp only [Nat.zero_add, List.length_cons, Nat.add_le_add_iff_right]
        rfl
    | succ off =>
      refine (ih off xs _).trans ?_
      simp only [List.length_cons, show off + 1 + xs.length = (off + xs.length) + 1 by omega, Nat.add_le_add_iff_right]
      rfl

/-- Are all of them scalars? -/
noncomputable def allS : List Value → Bool := fun l => @List.rec Value (fun _ => Bool) true (fun v _ ih => Bool.rec (motive := fun _ => Bool) false ih (scalarF v)) l
theorem allS_eq (l : List Value) : allS l = l.all scalar := by
  induction l with
  | nil => rfl
  | cons v l ih =>
    show Bool.rec (motive := fun _ => Bool) false (allS l) (scalarF v) = _
    rw [ih, scalarF_eq, List.all_cons]
    cases scalar v <;> rfl

end Go.Ak

namespace Go.Ak
set_option linter.unusedVariables false

/-! ### continuations -/
abbrev KV := Value → AHeap → Info → Bool
abbrev KC := Value → AHeap → Bool
abbrev KN := Env → AHeap → List Nat → Bool
abbrev KX := AExit → Env → AHeap → List Nat → Bool

/-- The calls and loops that an operation may make. -/
structure OrcF where
  C : Ctx
  call : Value → List Value → AHeap → KC → Bool
  loop : Option Nat → ICode → Env → AHeap → List Nat → KN → KX → Bool

abbrev FOp := OrcF → Env → AHeap → KV → Bool

/-- What an operation gives is given on. -/
def Gives (C : Ctx) (op : IOp) (T : Env) (H : AHeap) (k : KV) : Prop :=
  ∃ out, evalOp C H.get T.val H.next op = some out ∧ k out.v (H.apply out) (out.info H.next) = true

noncomputable def IOpd.valF : IOpd → Env → Value := fun x => @IOpd.rec (fun _ => Env → Value) (fun n T => Env.valF T n) (fun v _ => v) x
theorem IOpd.valF_eq (x : IOpd) (T : Env) : x.valF T = x.val T.val := by
  cases x with
  | t n => exact Env.valF_eq T n
  | c v => rfl

noncomputable def AHeap.applyF : AHeap → AOut → AHeap := fun H out =>
  @Option.rec AObj (fun _ => AHeap → AHeap) (fun H => H) (fun x H => H.pushF x) out.new (@Option.rec (Nat × AObj) (fun _ => AHeap → AHeap) (fun H => H) (fun p H => H.putF p.1 p.2) out.put H)
theorem AHeap.applyF_eq (H : AHeap) (out : AOut) : H.applyF out = H.apply out := by
  unfold AHeap.applyF AHeap.apply
  cases out.put <;> cases out.new <;> simp only [AHeap.pushF_eq, AHeap.putF_eq]

noncomputable def slowK : Option AOut → AHeap → KV → Bool := fun r =>
  @Option.rec AOut (fun _ => AHeap → KV → Bool) (fun _ _ => false) (fun out H k => k out.v (H.applyF out) (out.info H.nextF)) r
noncomputable def slow : IOp → FOp := fun op o T H k => slowK (evalOp o.C H.getF T.valF H.nextF op) H k

theorem valF_fun (T : Env) : T.valF = T.val := funext fun n => Env.valF_eq T n
theorem getF_fun (H : AHeap) : H.getF = H.get := funext fun n => AHeap.getF_eq H n

section
variable {o : OrcF} {T : Env} {H : AHeap} {k : KV}

theorem slow_ok {op : IOp} (h : slow op o T H k = true) : Gives o.C op T H k := by
  unfold slow at h
  rw [valF_fun, getF_fun, AHeap.nextF_eq] at h
  cases ho : evalOp o.C H.get T.val H.next op with
  | none => rw [ho] at h; cases h
  | some out =>
    rw [ho] at h
    refine ⟨out, ho, ?_⟩
    rw [← AHeap.applyF_eq]
    exact h
end

def nil2 : Info := .exp [] []
noncomputable def verF : Addr → Nat := fun a => @Option.rec Nat (fun _ => Nat) 0 (fun k => Nat.succ k) a.spot
theorem verF_eq (a : Addr) : verF a = ver a := by
  unfold verF ver
  cases a.spot <;> rfl

/-- The cells of a version. -/
noncomputable def atV : AHeap → Addr → Bool → (List Value → Bool) → Bool := fun H a s k => oO (H.getF a.block) false fun ob => aC ob s fun vs => nthR vs (verF a) fun v => k v.cells

theorem atV_ok {H : AHeap} {a : Addr} {s : Bool} {k : List Value → Bool} (h : atV H a s k = true) : s = true ∨ ∃ vs v, H.get a.block = some (.cells vs) ∧ vs[ver a]? = some v ∧ k v.cells = true := by
  unfold atV at h
  rw [oO_eq, AHeap.getF_eq] at h
  split at h
  · rename_i ob hob
    rw [aC_eq] at h
    split at h
    · rename_i vs
      rw [nthR_eq, verF_eq] at h
      split at h
      · rename_i v hv
        exact .inr ⟨vs, v, hob, hv, h⟩
      · cases h
    · exact .inl h
  · cases h

/-! ### numbers -/
noncomputable def kIdx : IntKind → Nat := fun k => @IntKind.rec (fun _ => Nat) 0 1 2 3 4 5 6 7 k
noncomputable def kSame : IntKind → IntKind → Bool := fun a b => Nat.beq (kIdx a) (kIdx b)
theorem kSame_eq {a b : IntKind} (h : kSame a b = true) : a = b := by
  cases a <;> cases b <;> first | rfl | (exact absurd h (by decide))

theorem wrap_i64 (n : Nat) (h : n ≤ 9223372036854775807) : IntKind.wrap .i64 (Int.ofNat n) = Int.ofNat n := by
  have h1 : (Int.ofNat n : Int) % 18446744073709551616 = Int.ofNat n := Int.emod_eq_of_lt (by simp) (by simp; omega)
  show (if (true && decide (Int.ofNat n % 18446744073709551616 ≥ (9223372036854775808 : Int))) = true then Int.ofNat n % 18446744073709551616 - 18446744073709551616 else Int.ofNat n % 18446744073709551616) = _
  simp only [h1]
  rw [if_neg]
  simp
  omega
theorem wrap_i64n (n : Nat) (h : n ≤ 9223372036854775807) : IntKind.wrap .i64 (Int.negSucc n) = Int.negSucc n := by
  have h1 : (Int.negSucc n : Int) % 18446744073709551616 = Int.negSucc n + 18446744073709551616 := by
    rw [← Int.add_emod_right]
    exact Int.emod_eq_of_lt (by rw [Int.negSucc_eq]; omega) (by rw [Int.negSucc_eq]; omega)
  show (if (true && decide (Int.negSucc n % 18446744073709551616 ≥ (9223372036854775808 : Int))) = true then Int.negSucc n % 18446744073709551616 - 18446744073709551616 else Int.negSucc n % 18446744073709551616) = _
  simp only [h1]
  rw [if_pos]
  · rw [Int.negSucc_eq]; omega
  · simp
    rw [Int.negSucc_eq]; omega

noncomputable def wrapF : IntKind → Int → Int := fun k z =>
  @Bool.rec (fun _ => Int) (k.wrap z) (@Int.rec (fun _ => Int) (fun n => @Bool.rec (fun _ => Int) (k.wrap z) (Int.ofNat n) (Nat.ble n 9223372036854775807)) (fun n => @Bool.rec (fun _ => Int) (k.wrap z) (Int.negSucc n) (Nat.ble n 9223372036854775807)) z) (Nat.beq (kIdx k) 3)
theorem wrapF_eq (k : IntKind) (z : Int) : wrapF k z = k.wrap z := by
  unfold wrapF
  cases k <;> try rfl
  show Int.rec (motive := fun _ => Int) _ _ z = _
  cases z with
  | ofNat n =>
    show Bool.rec (motive := fun _ => Int) _ _ (Nat.ble n 9223372036854775807) = _
    cases hn : Nat.ble n 9223372036854775807
    · rfl
    · exact (wrap_i64 n (Nat.le_of_ble_eq_true hn)).symm
  | negSucc n =>
    show Bool.rec (motive := fun _ => Int) _ _ (Nat.ble n 9223372036854775807) = _
    cases hn : Nat.ble n 9223372036854775807
    · rfl
    · exact (wrap_i64n n (Nat.le_of_ble_eq_true hn)).symm

noncomputable def subN : Nat → Nat → Int := fun x y => @Bool.rec (fun _ => Int) (Int.negSucc (Nat.pred (Nat.sub y x))) (Int.ofNat (Nat.sub x y)) (Nat.ble y x)
theorem subN_eq (x y : Nat) : subN x y = (x : Int) - y := by
  unfold subN
  cases h : Nat.ble y x
  · have h' : ¬ y ≤ x := fun e => by rw [Nat.ble_eq_true_of_le e] at h; cases h
    show Int.negSucc (y - x - 1) = _
    rw [Int.negSucc_eq]; omega
  · have h' := Nat.le_of_ble_eq_true h
    show ((x - y : Nat) : Int) = _
    omega
noncomputable def addI : Int → Int → Int := fun a b => @Int.rec (fun _ => Int → Int) (fun x b => @Int.rec (fun _ => Nat → Int) (fun y x => Int.ofNat (Nat.add x y)) (fun y x => subN x (Nat.succ y)) b x)
  (fun x b => @Int.rec (fun _ => Nat → Int) (fun y x => subN y (Nat.succ x)) (fun y x => Int.negSucc (Nat.succ (Nat.add x y))) b x) a b
theorem addI_eq (a b : Int) : addI a b = a + b := by
  cases a with
  | ofNat x => cases b with
    | ofNat y => rfl
    | negSucc y => show subN x (y + 1) = _; rw [subN_eq]; show _ = (x : Int) + Int.negSucc y; rw [Int.negSucc_eq]; omega
  | negSucc x => cases b with
    | ofNat y => show subN y (x + 1) = _; rw [subN_eq]; show _ = Int.negSucc x + (y : Int); rw [Int.negSucc_eq]; omega
    | negSucc y => show Int.negSucc (x + y + 1) = _; simp only [Int.negSucc_eq]; omega
noncomputable def negI : Int → Int := fun a => @Int.rec (fun _ => Int) (fun x => @Nat.rec (fun _ => Int) (Int.ofNat 0) (fun n _ => Int.negSucc n) x) (fun x => Int.ofNat (Nat.succ x)) a
theorem negI_eq (a : Int) : negI a = -a := by
  cases a with
  | ofNat x => cases x <;> rfl
  | negSucc x => rfl
noncomputable def mulI : Int → Int → Int := fun a b => @Int.rec (fun _ => Int → Int → Int → Int) (fun x b c d => @Int.rec (fun _ => Nat → Int → Int → Int) (fun y x _ _ => Int.ofNat (Nat.mul x y)) (fun y x c d => Int.mul c d) b x c d) (fun x b c d => Int.mul c d) a b a b
theorem mulI_eq (a b : Int) : mulI a b = a * b := by cases a <;> cases b <;> rfl
noncomputable def eqI : Int → Int → Bool := fun a b => @Int.rec (fun _ => Int → Bool) (fun x b => @Int.rec (fun _ => Nat → Bool) (fun y x => Nat.beq x y) (fun _ _ => false) b x) (fun x b => @Int.rec (fun _ => Nat → Bool) (fun _ _ => false) (fun y x => Nat.beq x y) b x) a b
theorem eqI_eq (a b : Int) : eqI a b = (a == b) := by
  rw [Bool.eq_iff_iff, beq_iff_eq]
  cases a with
  | ofNat x => cases b with
    | ofNat y => show Nat.beq x y = true ↔ Int.ofNat x = Int.ofNat y; rw [Nat.beq_eq]; exact ⟨congrArg _, Int.ofNat.inj⟩
    | negSucc y => show false = true ↔ _; simp
  | negSucc x => cases b with
    | ofNat y => show false = true ↔ _; simp
    | negSucc y => show Nat.beq x y = true ↔ _; rw [Nat.beq_eq]; simp
noncomputable def ltI : Int → Int → Bool := fun a b => @Int.rec (fun _ => Int → Bool) (fun x b => @Int.rec (fun _ => Nat → Bool) (fun y x => Nat.ble (Nat.succ x) y) (fun _ _ => false) b x) (fun x b => @Int.rec (fun _ => Nat → Bool) (fun _ _ => true) (fun y x => Nat.ble (Nat.succ y) x) b x) a b
theorem ltI_eq (a b : Int) : ltI a b = decide (a < b) := by
  rw [Bool.eq_iff_iff, decide_eq_true_iff]
  cases a with
  | ofNat x => cases b with
    | ofNat y => show Nat.ble (x + 1) y = true ↔ _; rw [Nat.ble_eq]; show _ ↔ (x : Int) < y; omega
    | negSucc y => show false = true ↔ (x : Int) < Int.negSucc y; rw [Int.negSucc_eq]; constructor
                   · intro h; cases h
                   · intro h; omega
  | negSucc x => cases b with
    | ofNat y => show true = true ↔ Int.negSucc x < (y : Int); rw [Int.negSucc_eq]; constructor
                 · intro h; omega
                 · intro h; rfl
    | negSucc y => show Nat.ble (y + 1) x = true ↔ _; rw [Nat.ble_eq]; simp only [Int.negSucc_eq]; omega
noncomputable def notB : Bool → Bool := fun b => @Bool.rec (fun _ => Bool) true false b
theorem notB_eq (b : Bool) : notB b = !b := by cases b <;> rfl

/-- Two numbers of one kind. -/
noncomputable def numF : BinOp → IntKind → Int → Int → Bool → (Value → Bool) → Bool := fun op =>
  @BinOp.rec (fun _ => IntKind → Int → Int → Bool → (Value → Bool) → Bool)
    (fun i a b s k => k (.int i (wrapF i (addI a b))))
    (fun i a b s k => k (.int i (wrapF i (addI a (negI b)))))
    (fun i a b s k => k (.int i (wrapF i (mulI a b)))) (fun i a b s k => s) (fun i a b s k => s) (fun i a b s k => s) (fun i a b s k => s) (fun i a b s k => s) (fun i a b s k => s) (fun i a b s k => s) (fun i a b s k => s)
    (fun i a b s k => k (.bool (eqI a b)))
    (fun i a b s k => k (.bool (notB (eqI a b))))
    (fun i a b s k => k (.bool (ltI a b)))
    (fun i a b s k => k (.bool (notB (ltI b a))))
    (fun i a b s k => k (.bool (ltI b a)))
    (fun i a b s k => k (.bool (notB (ltI a b))))
    op

theorem numF_ok {op : BinOp} {i : IntKind} {a b : Int} {s : Bool} {k : Value → Bool} (h : numF op i a b s k = true) : s = true ∨ ∃ v, binA .num op (.int i a) (.int i b) = some v ∧ k v = true := by
  cases op
  case add => exact .inr ⟨_, by simp only [binA, binNum, if_pos]; rfl, by rw [← addI_eq, ← wrapF_eq]; exact h⟩
  case sub => exact .inr ⟨_, by simp only [binA, binNum, if_pos]; rfl, by rw [Int.sub_eq_add_neg, ← negI_eq, ← addI_eq, ← wrapF_eq]; exact h⟩
  case mul => exact .inr ⟨_, by simp only [binA, binNum, if_pos]; rfl, by rw [← mulI_eq, ← wrapF_eq]; exact h⟩
  case eql => exact .inr ⟨_, by simp only [binA, binNum, cmpNum, if_pos]; rfl, by rw [← eqI_eq]; exact h⟩
  case neq => exact .inr ⟨_, by simp only [binA, binNum, cmpNum, if_pos]; rfl, by rw [show (a != b) = !(a == b) from rfl, ← eqI_eq, ← notB_eq]; exact h⟩
  case lss => exact .inr ⟨_, by simp only [binA, binNum, cmpNum, if_pos]; rfl, by rw [← ltI_eq]; exact h⟩
  case leq => exact .inr ⟨_, by simp only [binA, binNum, cmpNum, if_pos]; rfl, by rw [show decide (a ≤ b) = !(decide (b < a)) by rw [Bool.eq_iff_iff]; simp, ← ltI_eq, ← notB_eq]; exact h⟩
  case gtr => exact .inr ⟨_, by simp only [binA, binNum, cmpNum, if_pos]; rfl, by rw [show decide (a > b) = decide (b < a) from rfl, ← ltI_eq]; exact h⟩
  case geq => exact .inr ⟨_, by simp only [binA, binNum, cmpNum, if_pos]; rfl, by rw [show decide (a ≥ b) = !(decide (a < b)) by rw [Bool.eq_iff_iff]; simp, ← ltI_eq, ← notB_eq]; exact h⟩
  all_goals exact .inl h

noncomputable def f_num : BinOp → IOpd → IOpd → FOp := fun op x y o T H k =>
  vI (x.valF T) false fun i m => vI (y.valF T) false fun j n => @Bool.rec (fun _ => Bool) (slow (.bin .num op x y) o T H k) (numF op i m n (slow (.bin .num op x y) o T H k) fun v => k v H nil2) (kSame i j)

section
variable {o : OrcF} {T : Env} {H : AHeap} {k : KV}

theorem rec_t {b x y : Bool} (h : @Bool.rec (fun _ => Bool) x y b = true) : (b = false ∧ x = true) ∨ (b = true ∧ y = true) := by
  cases b
  · exact .inl ⟨rfl, h⟩
  · exact .inr ⟨rfl, h⟩

theorem good_dry {op : IOp} {v : Value} (h : evalOp o.C H.get T.val H.next op = some { v }) (hk : k v H nil2 = true) : Gives o.C op T H k := ⟨_, h, hk⟩

theorem f_num_ok {op : BinOp} {x y : IOpd} (h : f_num op x y o T H k = true) : Gives o.C (.bin .num op x y) T H k := by
  unfold f_num at h
  rw [IOpd.valF_eq, IOpd.valF_eq] at h
  rw [vI_eq] at h
  split at h
  case h_2 => cases h
  rename_i v i m hx
  rw [vI_eq] at h
  split at h
  case h_2 => cases h
  rename_i v' j n hy
  rcases rec_t h with ⟨_, h'⟩ | ⟨hs, h'⟩
  · exact slow_ok h'
  · have he := kSame_eq hs
    subst he
    rcases numF_ok h' with h | ⟨w, h1, h2⟩
    · exact slow_ok h
    · exact good_dry (by simp only [evalOp, hx, hy, h1, Option.map_some]) h2
end
end Go.Ak

namespace Go.Ak
set_option linter.unusedVariables false

/-! ### moves -/
noncomputable def f_mv : IOpd → FOp := fun x o T H k => force (x.valF T) fun v => k v H nil2
noncomputable def f_pick : IOpd → IOpd → IOpd → FOp := fun c a b o T H k => vB (c.valF T) false fun t => force (@Bool.rec (fun _ => Value) (b.valF T) (a.valF T) t) fun v => k v H nil2
noncomputable def f_not : IOpd → FOp := fun x o T H k => vB (x.valF T) false fun b => k (.bool (notB b)) H nil2
noncomputable def f_conv : IntKind → IOpd → FOp := fun i x o T H k => vI (x.valF T) false fun _ n => k (.int i (wrapF i n)) H nil2

/-! ### objects that are made -/
noncomputable def newF : AObj → (Nat → Value) → AHeap → KV → Bool := fun ob v H k => k (v H.nextF) (H.pushF ob) (.exp [] [H.nextF])
noncomputable def f_mk : TypeId → List Value → FOp := fun ty cells o T H k => newF (.cells [⟨0, cells, some ty⟩]) (fun n => .pointer (some ⟨n, 0, none⟩)) H k
noncomputable def f_box : Nat → IOpd → FOp := fun n x o T H k =>
  vL (x.valF T) fun xs => @Bool.rec (fun _ => Bool) false (@Bool.rec (fun _ => Bool) false (newF (.cells [⟨0, xs, none⟩]) (fun n => .pointer (some ⟨n, 0, none⟩)) H k) (allS xs)) (Nat.beq (lenV xs) n)

noncomputable def fillF : List (Nat × Nat × IOpd) → Env → List Value → (List Value → Bool) → Bool := fun ps =>
  @List.rec (Nat × Nat × IOpd) (fun _ => Env → List Value → (List Value → Bool) → Bool) (fun T cells k => k cells)
    (fun p _ ih T cells k => vL (p.2.2.valF T) fun vs => @Bool.rec (fun _ => Bool) false (segV cells p.1 vs fun cells' => ih T cells' k) (Nat.beq (lenV vs) p.2.1)) ps
noncomputable def f_build : List Value → List (Nat × Nat × IOpd) → FOp := fun z ps o T H k => fillF ps T z fun cs => k (.agg ⟨cs⟩) H nil2
noncomputable def f_buildSlice : Nat → List Value → List (Nat × Nat × IOpd) → FOp := fun l z ps o T H k => fillF ps T z fun cs =>
  @Bool.rec (fun _ => Bool) false (newF (.cells [⟨0, cs, none⟩]) (fun n => .slice (some ⟨n, 0, none⟩) l l) H k) (allS cs)

/-! ### objects that are looked at -/
noncomputable def f_load1 : IOpd → FOp := fun x o T H k => vQ (x.valF T) false fun p => oA p false fun a => atV H a (slow (.load1 x) o T H k) fun cs => nthV cs a.off fun c => k c H (.look a [c])
noncomputable def f_loadN : Nat → IOpd → FOp := fun n x o T H k => vQ (x.valF T) false fun p => oA p false fun a => atV H a (slow (.loadN n x) o T H k) fun cs => dropV cs a.off fun r => takeV r n fun l => k (.agg ⟨l⟩) H (.look a l)
noncomputable def f_nilCheck : IOpd → FOp := fun x o T H k => vQ (x.valF T) (slow (.nilCheck x) o T H k) fun p => oA p false fun a => k (.pointer (some a)) H nil2
noncomputable def f_faddr : Nat → IOpd → FOp := fun off x o T H k => vQ (x.valF T) false fun p => oA p false fun a => k (.pointer (some ⟨a.block, Nat.add a.off off, a.spot⟩)) H nil2
noncomputable def f_field : Nat → Nat → Bool → IOpd → FOp := fun off n agg x o T H k => @Bool.rec (fun _ => Bool) (vA (x.valF T) false fun cs => nthV cs.toList off fun v => k v H nil2) (slow (.field off n true x) o T H k) agg
noncomputable def f_idxS : Nat → IOpd → IOpd → FOp := fun esz x i o T H k => vS (x.valF T) false fun p len _ => oA p false fun a => vI (i.valF T) false fun _ z => iN z fun n =>
  @Bool.rec (fun _ => Bool) false (k (.pointer (some ⟨a.block, Nat.add a.off (Nat.mul n esz), a.spot⟩)) H nil2) (Nat.ble (Nat.succ n) len)
noncomputable def f_len : IOpd → FOp := fun x o T H k => vS (x.valF T) false fun _ n _ => k (.int .i64 (Int.ofNat n)) H nil2
noncomputable def f_lenStr : IOpd → FOp := fun x o T H k => vT (x.valF T) false fun s => k (.int .i64 (Int.ofNat (lenB s.data.toList))) H nil2
noncomputable def f_idxStr : IOpd → IOpd → FOp := fun x i o T H k => vT (x.valF T) false fun s => vI (i.valF T) false fun _ z => iN z fun n => nthB s.data.toList n fun b => k (.int .u8 (Int.ofNat b.toNat)) H nil2
noncomputable def f_extract : Nat → IOpd → FOp := fun n x o T H k => vU (x.valF T) false fun vs => @Bool.rec (fun _ => Bool) (slow (.extract n x) o T H k) (nthV vs.toList n fun v => k v H nil2) (Nat.ble 2 (lenV vs.toList))

/-! ### objects that turn -/
noncomputable def f_store : Nat → IOpd → IOpd → FOp := fun n a x o T H k =>
  vL (x.valF T) fun xs => vQ (a.valF T) false fun p => oA p false fun a' => @Bool.rec (fun _ => Bool) (slow (.store n a x) o T H k)
    (oO (H.getF a'.block) false fun ob => aC ob false fun vs =>
      @List.rec AVer (fun _ => Bool) false (fun v r _ => @List.rec AVer (fun _ => Bool)
        (oN a'.spot (@List.rec Value (fun _ => Bool) false (fun _ _ _ => segV v.cells a'.off xs fun cs => k undef (H.putF a'.block (.cells [⟨v.esz, cs, v.ty⟩])) (.exp [a'.block] [a'.block])) xs) fun _ => false)
        (fun _ _ _ => slow (.store n a x) o T H k) r) vs)
    (@Bool.rec (fun _ => Bool) false (allS xs) (Nat.beq (lenV xs) n))

/-! ### comparisons of references and strings -/
noncomputable def eqB : List UInt8 → List UInt8 → Bool := fun a => @List.rec UInt8 (fun _ => List UInt8 → Bool) (fun b => @List.rec UInt8 (fun _ => Bool) true (fun _ _ _ => false) b)
  (fun x _ ih b => @List.rec UInt8 (fun _ => Bool) false (fun y r _ => @Bool.rec (fun _ => Bool) false (ih r) (Nat.beq x.toNat y.toNat)) b) a
noncomputable def f_str : BinOp → IOpd → IOpd → FOp := fun op x y o T H k =>
  @BinOp.rec (fun _ => Bool → (List UInt8 → List UInt8 → Bool) → (List UInt8 → List UInt8 → Bool) → Bool)
    (fun s _ _ => s) (fun s _ _ => s) (fun s _ _ => s) (fun s _ _ => s) (fun s _ _ => s) (fun s _ _ => s) (fun s _ _ => s) (fun s _ _ => s) (fun s _ _ => s) (fun s _ _ => s) (fun s _ _ => s)
    (fun _ e _ => vT (x.valF T) false fun a => vT (y.valF T) false fun b => e a.data.toList b.data.toList) (fun _ _ n => vT (x.valF T) false fun a => vT (y.valF T) false fun b => n a.data.toList b.data.toList)
    (fun s _ _ => s) (fun s _ _ => s) (fun s _ _ => s) (fun s _ _ => s) op
    (slow (.bin .str op x y) o T H k) (fun a b => k (.bool (eqB a b)) H nil2) (fun a b => k (.bool (notB (eqB a b))) H nil2)
/-- Is a reference none? -/
noncomputable def nilQ : Value → (Bool → Bool) → Bool := fun v k => vQ v false fun p => k (@Option.rec Addr (fun _ => Bool) true (fun _ => false) p)
noncomputable def nilS : Value → (Bool → Bool) → Bool := fun v k => vS v false fun p _ _ => k (@Option.rec Addr (fun _ => Bool) true (fun _ => false) p)
/-- A reference, held against none. -/
noncomputable def refF : ((Bool → Bool) → Bool) → ((Bool → Bool) → Bool) → BinOp → Bool → (Bool → Bool) → Bool := fun x y op s k =>
  @BinOp.rec (fun _ => ((Bool → Bool) → Bool) → ((Bool → Bool) → Bool) → Bool → (Bool → Bool) → Bool)
    (fun _ _ s _ => s) (fun _ _ s _ => s) (fun _ _ s _ => s) (fun _ _ s _ => s) (fun _ _ s _ => s) (fun _ _ s _ => s) (fun _ _ s _ => s) (fun _ _ s _ => s) (fun _ _ s _ => s) (fun _ _ s _ => s) (fun _ _ s _ => s)
    (fun x y s k => y fun yn => @Bool.rec (fun _ => Bool) s (x k) yn)
    (fun x y s k => y fun yn => @Bool.rec (fun _ => Bool) s (x fun b => k (notB b)) yn)
    (fun _ _ s _ => s) (fun _ _ s _ => s) (fun _ _ s _ => s) (fun _ _ s _ => s) op x y s k
noncomputable def f_bin : BK → BinOp → IOpd → IOpd → FOp := fun b =>
  @BK.rec (fun _ => BinOp → IOpd → IOpd → FOp) f_num (fun op x y => slow (.bin .boo op x y)) f_str
    (fun op x y o T H k => refF (nilQ (x.valF T)) (nilQ (y.valF T)) op (slow (.bin .ptr op x y) o T H k) fun b => k (.bool b) H nil2)
    (fun op x y o T H k => refF (nilS (x.valF T)) (nilS (y.valF T)) op (slow (.bin .slc op x y) o T H k) fun b => k (.bool b) H nil2)
    (fun op x y => slow (.bin .mp op x y)) (fun op x y => slow (.bin .fn op x y)) (fun op x y => slow (.bin .ifc op x y)) b

/-! ### bounds -/
noncomputable def bndF : Option IOpd → Env → Nat → Nat → (Nat → Bool) → Bool := fun x =>
  @Option.rec IOpd (fun _ => Env → Nat → Nat → (Nat → Bool) → Bool) (fun T dflt lim k => k dflt) (fun x T dflt lim k => vI (x.valF T) false fun _ z => iN z fun n => @Bool.rec (fun _ => Bool) false (k n) (Nat.ble n lim)) x
noncomputable def boundsF : Env → Nat → Nat → Option IOpd → Option IOpd → Option IOpd → (Nat → Nat → Nat → Bool) → Bool := fun T len cap lo hi mx k =>
  bndF mx T cap cap fun m => bndF hi T len m fun h => bndF lo T 0 h fun l => @Bool.rec (fun _ => Bool) false (k l h m) (Nat.ble h m)
noncomputable def f_sliceS : Nat → IOpd → Option IOpd → Option IOpd → Option IOpd → FOp := fun e x a b c o T H k => vS (x.valF T) false fun p len cap => oA p (slow (.sliceS e x a b c) o T H k) fun p =>
  boundsF T len cap a b c fun l h m => oO (H.getF p.block) false fun ob => aC ob (slow (.sliceS e x a b c) o T H k) fun vs => nthR vs (verF p) fun v =>
    @Bool.rec (fun _ => Bool) false (k (.slice (some ⟨p.block, Nat.add p.off (Nat.mul l e), p.spot⟩) (Nat.sub h l) (Nat.sub m l)) H (.exp [p.block] [])) (@Bool.rec (fun _ => Bool) (Nat.beq v.esz e) true (Nat.beq v.esz 0))
noncomputable def f_sliceStr : IOpd → Option IOpd → Option IOpd → FOp := fun x a b o T H k => vT (x.valF T) false fun s => boundsF T (lenB s.data.toList) (lenB s.data.toList) a b none fun l h _ =>
  dropB s.data.toList l fun r => takeB r (Nat.sub h l) fun bs => k (.string ⟨⟨bs⟩⟩) H nil2

/-! ### what is appended -/
noncomputable def bytesK : List UInt8 → (List Value → Bool) → Bool := fun l => @List.rec UInt8 (fun _ => (List Value → Bool) → Bool) (fun k => k []) (fun x _ ih k => ih fun r => k (.int .u8 (Int.ofNat x.toNat) :: r)) l
noncomputable def deadF : List AVer → List AVer := fun l => @List.rec AVer (fun _ => List AVer) [] (fun v _ ih => ⟨v.esz, [], v.ty⟩ :: ih) l
/-- The versions behind one are dead; one more comes. -/
noncomputable def killK : List AVer → AVer → Nat → (List AVer → Bool) → Bool := fun vs =>
  @List.rec AVer (fun _ => AVer → Nat → (List AVer → Bool) → Bool) (fun n _ k => k [n]) (fun v r ih n m k => @Nat.rec (fun _ => Bool) (catR (deadF r) [n] fun r' => k (v :: r')) (fun m _ => ih n m fun r' => k (v :: r')) m) vs
noncomputable def srcF : AHeap → Nat → Value → Bool → (Nat → List Value → List Nat → Bool) → Bool := fun H esz y s k =>
  vT y (vS y false fun b m _ => @Nat.rec (fun _ => Bool) s (fun m' _ => oA b false fun b => atV H b s fun cs => dropV cs b.off fun r => takeV r (Nat.mul (Nat.succ m') esz) fun xs => k (Nat.succ m') xs [b.block]) m)
    fun t => @Bool.rec (fun _ => Bool) s (bytesK t.data.toList fun xs => k (lenB t.data.toList) xs []) (Nat.beq esz 1)
noncomputable def roomyF : Nat → Nat → Bool := fun n b => @Bool.rec (fun _ => Bool) false (Nat.ble (Nat.mul n b) 140737488355328) (Nat.ble n 4611686018427387904)
noncomputable def andF : Bool → Bool → Bool := fun a b => @Bool.rec (fun _ => Bool) false b a
noncomputable def appendF (ty : TypeId) (esz bytes : Nat) (H : AHeap) (sl : Bool) (sv : Value) (m : Nat) (xs : List Value) (rd : List Nat) (k : KV) : Bool :=
  vS sv sl fun a len cap => @Option.rec Addr (fun _ => Bool)
    (@Bool.rec (fun _ => Bool) sl
      (k (.slice (some ⟨H.nextF, 0, none⟩) m m) (H.pushF (.cells [⟨esz, xs, some ty⟩])) (.exp rd [H.nextF]))
      (andF (roomyF m bytes) (andF (Nat.ble 1 m) (andF (Nat.beq cap 0) (Nat.beq len 0)))))
    (fun a => oO (H.getF a.block) false fun ob => aC ob sl fun vs => nthR vs (verF a) fun v => dropV v.cells a.off fun old =>
      @Bool.rec (fun _ => Bool) sl
        (catV old xs fun cs => killK vs ⟨esz, cs, @Bool.rec (fun _ => Option TypeId) none (some ty) (andF (Nat.beq a.off 0) (@Option.rec TypeId (fun _ => Bool) false (fun t => Nat.beq t ty) v.ty))⟩ (verF a) fun vs' =>
          k (.slice (some (mkAddr a.block (lenR vs) 0)) (Nat.add len m) (Nat.add len m)) (H.putF a.block (.cells vs')) (.exp (a.block :: rd) [a.block]))
        (andF (roomyF (Nat.add len m) bytes) (andF (@Bool.rec (fun _ => Bool) (Nat.beq v.esz esz) (@Option.rec Nat (fun _ => Bool) true (fun _ => false) a.spot) (Nat.beq v.esz 0))
          (andF (Nat.ble (Nat.succ cap) (Nat.add len m)) (andF (Nat.beq (Nat.add a.off (Nat.mul len esz)) (lenV v.cells)) (andF (Nat.ble 1 (lenV v.cells)) (allS old)))))))
    a
noncomputable def f_append : TypeId → Nat → Nat → IOpd → IOpd → FOp := fun ty esz bytes s x o T H k =>
  srcF H esz (x.valF T) (slow (.append ty esz bytes s x) o T H k) fun m xs rd =>
    @Bool.rec (fun _ => Bool) false (appendF ty esz bytes H (slow (.append ty esz bytes s x) o T H k) (s.valF T) m xs rd k) (andF (allS xs) (Nat.beq (lenV xs) (Nat.mul m esz)))

end Go.Ak

namespace Go.Ak
set_option linter.unusedVariables false

noncomputable def evalF : IOp → FOp := fun op =>
  @IOp.rec (fun _ => FOp) f_mv f_pick f_mk f_box f_build f_buildSlice f_load1 f_loadN f_store f_nilCheck f_bin f_not
    (fun x => slow (.neg x)) f_conv (fun x => slow (.toStr x)) f_faddr f_field f_idxS (fun a b x i => slow (.idxA a b x i)) (fun a b c x i => slow (.idxV a b c x i))
    f_idxStr f_sliceS (fun n e x a b c => slow (.sliceA n e x a b c)) f_sliceStr (fun n => slow (.lenC n)) f_len f_lenStr
    (fun x => slow (.lenM x)) (fun x => slow (.cap x)) f_append (fun b z x y => slow (.appendZ b z x y)) (fun a x y => slow (.copy a x y)) (fun z x => slow (.clear z x))
    (fun b z x y => slow (.mkSlice b z x y)) (fun x y => slow (.minI x y)) (fun x y => slow (.maxI x y)) f_extract (fun f a b => slow (.mkfn f a b)) (fun f as => slow (.call f as)) (slow .mkmap) (fun x => slow (.mrange x)) (fun x => slow (.mnext x))
    (fun p a b c => slow (.insert p a b c)) (fun p z k a b => slow (.lookup p z k a b)) (fun p b x y => slow (.eqF p b x y)) (fun x => slow (.rune x)) (fun x => slow (.sdata x)) (fun u x n => slow (.ustr u x n))
    (fun x => slow (.toU x)) (fun u n x => slow (.frU u n x)) (fun p z a b => slow (.mentry p z a b)) (fun a b c => slow (.mstore a b c)) (fun t x => slow (.mkiface t x)) (slow .bad) op

noncomputable def valsF : List IOpd → Env → List Value := fun xs => @List.rec IOpd (fun _ => Env → List Value) (fun _ => []) (fun x _ ih T => x.valF T :: ih T) xs

/-- An operation, or a call. -/
noncomputable def runF : IOp → FOp := fun op =>
  @IOp.rec (fun _ => IOp → FOp) (fun _ => evalF) (fun _ _ _ => evalF) (fun _ _ => evalF) (fun _ _ => evalF) (fun _ _ => evalF) (fun _ _ _ => evalF) (fun _ => evalF) (fun _ _ => evalF) (fun _ _ _ => evalF) (fun _ => evalF) (fun _ _ _ _ => evalF) (fun _ => evalF)
    (fun _ => evalF) (fun _ _ => evalF) (fun _ => evalF) (fun _ _ => evalF) (fun _ _ _ _ => evalF) (fun _ _ _ => evalF) (fun _ _ _ _ => evalF) (fun _ _ _ _ _ => evalF)
    (fun _ _ => evalF) (fun _ _ _ _ _ => evalF) (fun _ _ _ _ _ _ => evalF) (fun _ _ _ => evalF) (fun _ => evalF) (fun _ => evalF) (fun _ => evalF)
    (fun _ => evalF) (fun _ => evalF) (fun _ _ _ _ _ => evalF) (fun _ _ _ _ => evalF) (fun _ _ _ => evalF) (fun _ _ => evalF)
    (fun _ _ _ _ => evalF) (fun _ _ => evalF) (fun _ _ => evalF) (fun _ _ => evalF) (fun _ _ _ => evalF) (fun f as _ o T H k => o.call (f.valF T) (valsF as T) H fun v H' => k v H' (.call H H')) evalF (fun _ => evalF) (fun _ => evalF)
    (fun _ _ _ _ => evalF) (fun _ _ _ _ _ => evalF) (fun _ _ _ _ => evalF) (fun _ => evalF) (fun _ => evalF) (fun _ _ _ => evalF)
    (fun _ => evalF) (fun _ _ _ => evalF) (fun _ _ _ _ => evalF) (fun _ _ _ => evalF) (fun _ _ => evalF) evalF op op

/-! ### a step -/
abbrev KS := Env → AHeap → Info → Bool
noncomputable def putK : Option Nat → Env → KS → KV := fun d => @Option.rec Nat (fun _ => Env → KS → KV) (fun T k v H i => k T H i) (fun n T k v H i => k (Env.putF T n v) H i) d

/-- Is an operation wanted? -/
noncomputable def wantF (t : Nat) (b : Bool) (T : Env) (no yes : Bool) : Bool :=
  vB (T.valF t) (vU (T.valF t) false fun vs => @List.rec Value (fun _ => Bool) false (fun v r _ => @List.rec Value (fun _ => Bool) (vU v false fun _ => no) (fun _ _ _ => false) r) vs.toList) fun x => @Bool.rec (fun _ => Bool) no yes (@Bool.rec (fun _ => Bool) (notB b) b x)

noncomputable def stepF : IOper → OrcF → Env → AHeap → KS → Bool := fun x =>
  @IOper.rec (fun _ => OrcF → Env → AHeap → KS → Bool)
    (fun dst op g => @Option.rec (Nat × Bool) (fun _ => Option Nat → IOp → OrcF → Env → AHeap → KS → Bool) (fun dst op o T H k => runF op o T H (putK dst T k))
      (fun p dst op o T H k => wantF p.1 p.2 T (putK dst T k absent H nil2) (runF op o T H (putK dst T k))) g dst op) x

abbrev KO := Env → AHeap → Bool

noncomputable def opsF : List IOper → OrcF → Env → AHeap → KO → Bool := fun l =>
  @List.rec IOper (fun _ => OrcF → Env → AHeap → KO → Bool) (fun o T H k => k T H) (fun x _ ih o T H k => stepF x o T H fun T H _ => ih o T H k) l

noncomputable def freeF : List Nat → Ctx → List Info → Info → Bool := fun un =>
  @List.rec Nat (fun _ => Ctx → List Info → Info → Bool) (fun _ _ _ => true) (fun e r ih C log i => nthI log e fun k => @Bool.rec (fun _ => Bool) false (ih C log i) (free C k i)) un

noncomputable def dopsF : List (Nat × IOper × List Nat) → OrcF → List Info → Env → AHeap → KO → Bool := fun l =>
  @List.rec (Nat × IOper × List Nat) (fun _ => OrcF → List Info → Env → AHeap → KO → Bool) (fun o log T H k => k T H)
    (fun e _ ih o log T H k => stepF e.2.1 o T H fun T H i => @Bool.rec (fun _ => Bool) false (ih o (i :: log) T H k) (freeF e.2.2 o.C log i)) l

/-! ### code -/
/-- How code ends: normally, or otherwise. -/
noncomputable def eK : AExit → KN → KX → KX := fun e => @AExit.rec (fun _ => KN → KX → KX) (fun kn kx e T H ds => kn T H ds) (fun i kn kx e T H ds => kx e T H ds) (fun kn kx e T H ds => kx e T H ds) e

noncomputable def codeF : ICode → OrcF → Option Nat → Env → AHeap → List Nat → KN → KX → Bool := fun c =>
  @ICode.rec (fun _ => OrcF → Option Nat → Env → AHeap → List Nat → KN → KX → Bool)
    (fun o ro T H ds kn kx => kn T H ds)
    (fun ops o ro T H ds kn kx => opsF ops o T H fun T H => kn T H ds)
    (fun ops o ro T H ds kn kx => dopsF ops o [] T H fun T H => kn T H ds)
    (fun a b iha ihb o ro T H ds kn kx => iha o ro T H ds (fun T H ds => ihb o ro T H ds kn kx) kx)
    (fun x a b iha ihb o ro T H ds kn kx => vB (x.valF T) false fun t => @Bool.rec (fun _ => Bool) (ihb o ro T H ds kn kx) (iha o ro T H ds kn kx) t)
    (fun id c ih o ro T H ds kn kx => ih o ro T H ds kn fun e T H ds => @AExit.rec (fun _ => Bool) (kx e T H ds) (fun i => @Bool.rec (fun _ => Bool) (kx e T H ds) (kn T H ds) (Nat.beq i id)) (kx e T H ds) e)
    (fun c _ o ro T H ds kn kx => o.loop ro c T H ds kn kx)
    (fun id o ro T H ds kn kx => kx (.exit id) T H ds)
    (fun o ro T H ds kn kx => kx .ret T H ds)
    (fun f ps assign body _ _ o ro T H ds kn kx =>
      match isFn (f.val T.val) && inLoop ro H with
      | false => false
      | true =>
        let H1 := match ro with | none => H.push (.deferred true) | some _ => H
        let ds' := match ro with | none => H.next :: ds | some _ => ds
        let l := H1.next
        let H2 := H1.push (.loop { state := .ready, pending := none, T := T, params := ps, assign, body })
        o.call (f.val T.val) [.func (.yield l) #[] #[]] H2 fun _ H3 =>
          match H3.get l with
          | some (.loop L) =>
            if L.state = .busy then false else
            match L.pending.getD .normal with
            | .normal => kn T (H3.put l (.loop { L with state := .exhausted })) ds'
            | e => kx e T (H3.put l (.loop { L with state := .exhausted })) ds'
          | _ => false)
    (fun o ro T H ds kn kx => false) c

noncomputable def argsF : List Value → Nat → Env → Env := fun as => @List.rec Value (fun _ => Nat → Env → Env) (fun _ T => T) (fun v _ ih i T => ih (Nat.succ i) (T.putF i v)) as

noncomputable def resF : List IRes → Ctx → Env → AHeap → (List Value → Bool) → Bool := fun rs =>
  @List.rec IRes (fun _ => Ctx → Env → AHeap → (List Value → Bool) → Bool) (fun C T H k => k [])
    (fun r _ ih C T H k => @IRes.rec (fun _ => Bool) (fun t => ih C T H fun l => k (T.valF t :: l))
      (fun t => match resA C T.valF H.getF (.cell1 t) with | some v => ih C T H fun l => k (v :: l) | none => false)
      (fun t n => match resA C T.valF H.getF (.cellN t n) with | some v => ih C T H fun l => k (v :: l) | none => false) r) rs

noncomputable def oneF : List Value → Value := fun l => @List.rec Value (fun _ => Value) (.tuple #[]) (fun v r _ => @List.rec Value (fun _ => List Value → Value) (fun _ => v) (fun _ _ _ l => .tuple ⟨l⟩) r l) l

noncomputable def endF : List IRes → Ctx → List Nat → Env → AHeap → KC → Bool := fun rs C ds T H k =>
  @List.rec Nat (fun _ => Bool) (resF rs C T H fun l => k (oneF l) H)
    (fun _ _ _ => match shut ds H with | some H' => resF rs C T H' fun l => k (oneF l) H' | none => false) ds

noncomputable def fnF : OrcF → IFunc → List Value → AHeap → KC → Bool := fun o F as H k =>
  codeF F.body o none (argsF as 0 .empty) H [] (fun T H ds => endF F.results o.C ds T H k)
    fun e T H ds => @AExit.rec (fun _ => Bool) (endF F.results o.C ds T H k) (fun _ => false) (endF F.results o.C ds T H k) e

noncomputable def endRoundF (l : Nat) (e : AExit) (s : St) (k : KC) : Bool := match endRound l e s with | some (v, H) => k v H | none => false

noncomputable def bodyF (o : OrcF) (l : Nat) (body : ICode) (s : St) (k : KC) : Bool :=
  match s.H.get l with
  | some (.loop L) =>
    if L.state = .ready then
      codeF body o (some l) s.T (s.H.put l (.loop { L with state := .busy })) s.ds (fun T H ds => endRoundF l .normal ⟨T, H, ds⟩ k) fun e T H ds => endRoundF l e ⟨T, H, ds⟩ k
    else false
  | _ => false

noncomputable def yieldF (o : OrcF) (l : Nat) (args : List Value) (H : AHeap) (k : KC) : Bool :=
  match H.get l with
  | some (.loop L) =>
    if L.state = .ready ∧ args.length = L.params.length then
      codeF L.assign o (some l) (setParams L.T L.params args) H [] (fun T H ds => bodyF o l L.body ⟨T, H, ds⟩ k) fun _ _ _ _ => false
    else false
  | _ => false

noncomputable def Trie.getF : Trie IFunc → Nat → Option IFunc := fun t =>
  @Trie.rec IFunc (fun _ => Nat → Option IFunc) (fun _ => none) (fun _ v _ gl gr n => @Nat.rec (fun _ => Option IFunc) v (fun n _ => @Bool.rec (fun _ => Option IFunc) (gr (Nat.div n 2)) (gl (Nat.div n 2)) (Nat.beq (Nat.mod n 2) 0)) n) t

/-- All arguments of a call. -/
noncomputable def allArgs : Array Value → List Value → Array Value → List Value := fun a l b => a.toList ++ (l ++ b.toList)

noncomputable def callF : OrcF → Value → List Value → AHeap → KC → Bool := fun o f args H k =>
  vF f false fun fn first captured => @Fn.rec (fun _ => Bool)
    (fun n => @Option.rec (Value × AHeap) (fun _ => List Value → Bool) (fun as => oF (Trie.getF o.C.funcs n) false fun F => fnF o F as H k) (fun r _ => k r.1 r.2) (o.C.known n (first.toList ++ (args ++ captured.toList)) H) (first.toList ++ (args ++ captured.toList)))
    (fun _ => false) (fun _ _ => false) (fun _ _ _ _ => false)
    (fun l => if first.isEmpty && captured.isEmpty then yieldF o l args H k else false) fn

noncomputable def orcF (C : Ctx) (n : Nat) : OrcF :=
  @Nat.rec (fun _ => OrcF) ⟨C, fun _ _ _ _ => false, fun _ _ _ _ _ _ _ => false⟩
    (fun _ o => ⟨C, callF o, fun ro c T H ds kn kx => codeF c o ro T H ds (fun T H ds => o.loop ro c T H ds kn kx) kx⟩) n
end Go.Ak
