/-
  What an operation looks at: its temporaries and its objects; nothing else matters.
  Events: what an operation of a region did; two events that are free of each other change places.
  One operation: from the evaluator's step to an event, from an event to the walk of the model.
  One event in the model's walk; a region whose order is fixed.
-/
import Derived.Test.YtlikgpehalhgkaaGreatPAiC
import Derived.RangeFuncRecord
import Derived.RangeFuncNested
namespace Go.Ai

section
variable {C : Ctx} {M M' : Nat → Option AObj} {T T' : Nat → Value} {nid : Nat} {out : AOut}

theorem IOpd.val_congr {x : IOpd} (h : ∀ t ∈ x.uses, T' t = T t) : x.val T' = x.val T := by
  cases x with
  | t n => exact h n (by simp [IOpd.uses])
  | c v => rfl

theorem vals_congr {xs : List IOpd} (h : ∀ t ∈ xs.flatMap IOpd.uses, T' t = T t) : xs.map (·.val T') = xs.map (·.val T) := by
  induction xs with
  | nil => rfl
  | cons x r ih =>
    simp only [List.flatMap_cons, List.mem_append] at h
    simp only [List.map_cons, ih fun t ht => h t (.inr ht), IOpd.val_congr fun t ht => h t (.inl ht)]

theorem fillA_congr {ps : List (Nat × Nat × IOpd)} (h : ∀ t ∈ ps.flatMap (fun p => p.2.2.uses), T' t = T t) : ∀ cs, fillA T' cs ps = fillA T cs ps := by
  induction ps with
  | nil => intro cs; rfl
  | cons p r ih =>
    obtain ⟨off, n, x⟩ := p
    simp only [List.flatMap_cons, List.mem_append] at h
    intro cs
    simp only [fillA, IOpd.val_congr fun t ht => h t (.inl ht)]
    split
    · split
      · exact ih (fun t ht => h t (.inr ht)) _
      · rfl
    · rfl

theorem bnd_congr {x : Option IOpd} (h : ∀ t ∈ optUses x, T' t = T t) (d l : Nat) : bnd T' x d l = bnd T x d l := by
  cases x with
  | none => rfl
  | some x => simp only [bnd, IOpd.val_congr (x := x) h]

theorem bounds_congr {a b c : Option IOpd} (h1 : ∀ t ∈ optUses a, T' t = T t) (h2 : ∀ t ∈ optUses b, T' t = T t) (h3 : ∀ t ∈ optUses c, T' t = T t) (n m : Nat) :
    bounds T' n m a b c = bounds T n m a b c := by
  simp only [bounds, bnd_congr h1, bnd_congr h2, bnd_congr h3]

/-- Only the temporaries that are named matter. -/
theorem evalOp_T (op : IOp) (h : ∀ t ∈ op.uses, T' t = T t) : evalOp C M T' nid op = evalOp C M T nid op := by
  cases op with
  | mk _ | lenC _ | mkmap | bad => rfl
  | call _ _ => rfl
  | mv x | box _ x | load1 x | loadN _ x | nilCheck x | not x | neg x | conv _ x | toStr x | faddr _ x | field _ _ _ x | len x | lenStr x | lenM x | cap x | clear _ x | extract _ x | mkiface _ x =>
    simp only [evalOp, IOpd.val_congr (x := x) h]
  | pick a b c | insert a b c =>
    simp only [IOp.uses, List.mem_append] at h
    simp only [evalOp, IOpd.val_congr (x := a) fun t ht => h t (.inl ht), IOpd.val_congr (x := b) fun t ht => h t (.inr (.inl ht)), IOpd.val_congr (x := c) fun t ht => h t (.inr (.inr ht))]
  | build _ ps | buildSlice _ _ ps => simp only [evalOp, fillA_congr (ps := ps) h]
  | store _ a b | bin _ _ a b | idxS _ a b | idxA _ _ a b | idxV _ _ _ a b | idxStr a b | append _ _ a b | appendZ _ _ a b | copy _ a b | mkSlice _ _ a b | minI a b | maxI a b | lookup _ _ a b =>
    simp only [IOp.uses, List.mem_append] at h
    simp only [evalOp, IOpd.val_congr (x := a) fun t ht => h t (.inl ht), IOpd.val_congr (x := b) fun t ht => h t (.inr ht)]
  | sliceS _ x a b c | sliceA _ _ x a b c =>
    simp only [IOp.uses, List.mem_append] at h
    simp only [evalOp, IOpd.val_congr (x := x) fun t ht => h t (.inl ht),
      bounds_congr (a := a) (b := b) (c := c) (fun t ht => h t (.inr (.inl ht))) (fun t ht => h t (.inr (.inr (.inl ht)))) fun t ht => h t (.inr (.inr (.inr ht)))]
  | sliceStr x a b =>
    simp only [IOp.uses, List.mem_append] at h
    simp only [evalOp, IOpd.val_congr (x := x) fun t ht => h t (.inl ht), bounds_congr (a := a) (b := b) (c := none) (fun t ht => h t (.inr (.inl ht))) (fun t ht => h t (.inr (.inr ht))) fun t ht => by simp [optUses] at ht]
  | mkfn f a b =>
    simp only [IOp.uses, List.flatMap_append, List.mem_append] at h
    simp only [evalOp, vals_congr (xs := a) fun t ht => h t (.inl ht), vals_congr (xs := b) fun t ht => h t (.inr ht)]

/-- What may be said of an operation's outcome: only the objects that it names matter, they are there, and what it turns is one of them. -/
structure Local (C : Ctx) (M : Nat → Option AObj) (T : Nat → Value) (nid : Nat) (op : IOp) (out : AOut) : Prop where
  again : ∀ M', (∀ b ∈ out.rd, M' b = M b) → evalOp C M' T nid op = some out
  there : ∀ b ∈ out.rd, M b ≠ none
  turns : ∀ b x, out.put = some (b, x) → b ∈ out.rd ∧ M b ≠ some .raw ∧ x ≠ .raw
  made : ∀ x, out.new = some x → x ≠ .raw

theorem loadN_congr {a : Addr} (h : M' a.block = M a.block) (n : Nat) : loadN C M' a n = loadN C M a n := by simp only [loadN, cellsAt, h]
theorem storeN_congr {a : Addr} (h : M' a.block = M a.block) (xs : List Value) : storeN M' a xs = storeN M a xs := by simp only [storeN, h]

theorem loadN_there {a : Addr} {n : Nat} {l : List Value} (h : loadN C M a n = some l) : M a.block ≠ none := by
  intro e
  simp [loadN, cellsAt, e] at h

theorem storeN_turns {a : Addr} {xs : List Value} {o : AObj} (h : storeN M a xs = some o) : M a.block ≠ none ∧ M a.block ≠ some .raw ∧ o ≠ .raw := by
  unfold storeN at h
  split at h
  · rename_i vs hM
    split at h
    · split at h
      · cases h; exact ⟨by simp [hM], by simp [hM], by simp⟩
      · cases h
    · cases h
  · cases h

/-- An outcome without memory. -/
theorem Local.dry {op : IOp} (h : ∀ M', evalOp C M' T nid op = some out) (h1 : out.rd = []) (h2 : out.put = none) (h3 : ∀ x, out.new = some x → x ≠ .raw) : Local C M T nid op out :=
  ⟨fun M' _ => h M', by simp [h1], by simp [h2], h3⟩

theorem srcCells_spec {esz n : Nat} {v : Value} {xs : List Value} {rd : List Nat} (h : srcCells C M esz n v = some (xs, rd)) :
    (∀ M', (∀ b ∈ rd, M' b = M b) → srcCells C M' esz n v = some (xs, rd)) ∧ ∀ b ∈ rd, M b ≠ none := by
  unfold srcCells at h
  split at h
  · rename_i b _ _
    split at h
    · cases h
      rename_i hn
      exact ⟨fun M' _ => by simp [srcCells, hn], by simp⟩
    · rename_i hn
      split at h
      · rename_i l hl
        cases h
        exact ⟨fun M' hM => by simp only [srcCells, if_neg hn, loadN_congr (hM b.block (by simp)), hl], by simpa using loadN_there hl⟩
      · cases h
  · split at h
    · cases h
      rename_i hn
      exact ⟨fun M' _ => by simp [srcCells, hn], by simp⟩
    · cases h
  · cases h
    exact ⟨fun M' _ => rfl, by simp⟩
  · cases h

theorem appendA_spec {esz bytes m : Nat} {s : Value} {xs : List Value} {rd : List Nat} (hrd : ∀ b ∈ rd, M b ≠ none) (h : appendA C M esz bytes s m xs rd nid = some out) :
    (∀ M', (∀ b ∈ out.rd, M' b = M b) → appendA C M' esz bytes s m xs rd nid = some out) ∧ (∀ b ∈ out.rd, M b ≠ none) ∧ (∀ b ∈ rd, b ∈ out.rd) ∧
    (∀ b x, out.put = some (b, x) → b ∈ out.rd ∧ M b ≠ some .raw ∧ x ≠ .raw) ∧ (∀ x, out.new = some x → x ≠ .raw) := by
  unfold appendA at h
  split at h
  case isFalse => cases h
  rename_i hc
  split at h
  · rename_i len cap
    split at h
    case isFalse => cases h
    rename_i h0
    split at h
    · cases h
      rename_i hm
      refine ⟨fun M' _ => ?_, hrd, fun b hb => hb, by simp, by simp⟩
      unfold appendA; rw [if_pos hc]; simp only [if_pos h0, if_pos hm]
    · rename_i hm
      split at h
      · cases h
        rename_i hr
        refine ⟨fun M' _ => ?_, hrd, fun b hb => hb, by simp, by simp⟩
        unfold appendA; rw [if_pos hc]; simp only [if_pos h0, if_neg hm, if_pos hr]
      · cases h
  · rename_i a len cap
    split at h
    · rename_i h0
      split at h
      · cases h
        rename_i hm
        refine ⟨fun M' _ => ?_, hrd, fun b hb => hb, by simp, by simp⟩
        unfold appendA; rw [if_pos hc]; simp only [if_pos h0, if_pos hm]
      · rename_i hm
        split at h
        · rename_i o ho
          cases h
          obtain ⟨t1, t2, t3⟩ := storeN_turns ho
          refine ⟨fun M' hM => ?_, fun b hb => ?_, fun b hb => List.mem_cons_of_mem _ hb, fun b x he => ?_, by simp⟩
          · unfold appendA; rw [if_pos hc]
            simp only [if_pos h0, if_neg hm]
            rw [storeN_congr (a := aadd a (len * esz)) (hM a.block (by simp)), ho]
          · rcases List.mem_cons.1 hb with rfl | hb
            · exact t1
            · exact hrd b hb
          · cases he; exact ⟨by simp, t2, t3⟩
        · cases h
    · rename_i h0
      split at h
      case isFalse => cases h
      rename_i hr
      split at h
      · rename_i hM
        split at h
        · rename_i old hold
          split at h
          · cases h
            rename_i hs
            refine ⟨fun M' hM' => ?_, fun b hb => ?_, fun b hb => List.mem_cons_of_mem _ hb, by simp, by simp⟩
            · have e := hM' a.block (by simp)
              unfold appendA; rw [if_pos hc]
              simp only [if_neg h0, if_pos hr, e, hM, loadN_congr e, hold, if_pos hs]
            · rcases List.mem_cons.1 hb with rfl | hb
              · simp [hM]
              · exact hrd b hb
          · cases h
        · cases h
      · rename_i vs hM
        split at h
        · rename_i v hv
          split at h
          · rename_i hx
            split at h
            · rename_i old hold
              split at h
              · cases h
                rename_i hs
                refine ⟨fun M' hM' => ?_, fun b hb => ?_, fun b hb => List.mem_cons_of_mem _ hb, by simp, by simp⟩
                · have e := hM' a.block (by simp)
                  unfold appendA; rw [if_pos hc]
                  simp only [if_neg h0, if_pos hr, e, hM, hv, if_pos hx, loadN_congr e, hold, if_pos hs]
                · rcases List.mem_cons.1 hb with rfl | hb
                  · simp [hM]
                  · exact hrd b hb
              · cases h
            · cases h
          rename_i hnx
          dsimp only at h
          split at h
          · cases h
            rename_i hs
            refine ⟨fun M' hM' => ?_, fun b hb => ?_, fun b hb => List.mem_cons_of_mem _ hb, fun b x he => ?_, by simp⟩
            · have e := hM' a.block (by simp)
              unfold appendA; rw [if_pos hc]
              simp only [if_neg h0, if_pos hr, e, hM, hv, if_neg hnx, if_pos hs]
            · rcases List.mem_cons.1 hb with rfl | hb
              · simp [hM]
              · exact hrd b hb
            · simp only [Option.some.injEq, Prod.mk.injEq] at he
              obtain ⟨rfl, rfl⟩ := he
              exact ⟨by simp, by simp [hM], by simp⟩
          · cases h
        · cases h
      · cases h
  · cases h

theorem evalOp_local {op : IOp} (h : evalOp C M T nid op = some out) : Local C M T nid op out := by
  cases op with
  | mv x | mkiface _ x => simp only [evalOp] at h; cases h; exact .dry (fun _ => rfl) rfl rfl (by simp)
  | mk _ | lenC _ | mkmap | mkfn _ _ _ => simp only [evalOp] at h; cases h; exact .dry (fun _ => rfl) rfl rfl (by simp)
  | call _ _ | bad => simp only [evalOp] at h; cases h
  | pick c a b => have h' := h; simp only [evalOp] at h; split at h <;> cases h; exact .dry (fun _ => h') rfl rfl (by simp)
  | box n x =>
    have h' := h; simp only [evalOp] at h
    split at h
    · split at h <;> cases h; exact .dry (fun _ => h') rfl rfl (by simp)
    · cases h
  | build z ps =>
    have h' := h; simp only [evalOp, Option.map_eq_some_iff] at h
    obtain ⟨_, _, rfl⟩ := h; exact .dry (fun _ => h') rfl rfl (by simp)
  | buildSlice l z ps =>
    have h' := h; simp only [evalOp] at h
    split at h
    · split at h <;> cases h; exact .dry (fun _ => h') rfl rfl (by simp)
    · cases h
  | nilCheck x => have h' := h; simp only [evalOp] at h; split at h <;> cases h <;> exact .dry (fun _ => h') rfl rfl (by simp)
  | bin k op x y => have h' := h; simp only [evalOp, Option.map_eq_some_iff] at h; obtain ⟨_, _, rfl⟩ := h; exact .dry (fun _ => h') rfl rfl (by simp)
  | not x | neg x | conv _ x | faddr _ x | len x | lenStr x => have h' := h; simp only [evalOp] at h; split at h <;> cases h; exact .dry (fun _ => h') rfl rfl (by simp)
  | field off n agg x =>
    have h' := h; simp only [evalOp] at h
    split at h
    · split at h
      · cases h; exact .dry (fun _ => h') rfl rfl (by simp)
      · simp only [Option.map_eq_some_iff] at h; obtain ⟨_, _, rfl⟩ := h; exact .dry (fun _ => h') rfl rfl (by simp)
    · cases h
  | idxS _ x i | idxA _ _ x i =>
    have h' := h; simp only [evalOp] at h
    split at h
    · split at h <;> cases h; exact .dry (fun _ => h') rfl rfl (by simp)
    · cases h
  | idxV _ _ agg x i =>
    have h' := h; simp only [evalOp] at h
    split at h
    · split at h
      · split at h
        · cases h; exact .dry (fun _ => h') rfl rfl (by simp)
        · simp only [Option.map_eq_some_iff] at h; obtain ⟨_, _, rfl⟩ := h; exact .dry (fun _ => h') rfl rfl (by simp)
      · cases h
    · cases h
  | idxStr x i =>
    have h' := h; simp only [evalOp] at h
    split at h
    · split at h
      · simp only [Option.map_eq_some_iff] at h; obtain ⟨_, _, rfl⟩ := h; exact .dry (fun _ => h') rfl rfl (by simp)
      · cases h
    · cases h
  | sliceA _ _ x lo hi mx =>
    have h' := h; simp only [evalOp] at h
    split at h
    · simp only [Option.map_eq_some_iff] at h; obtain ⟨_, _, rfl⟩ := h; exact .dry (fun _ => h') rfl rfl (by simp)
    · cases h
  | sliceStr x lo hi =>
    have h' := h; simp only [evalOp] at h
    split at h
    · simp only [Option.map_eq_some_iff] at h; obtain ⟨_, _, rfl⟩ := h; exact .dry (fun _ => h') rfl rfl (by simp)
    · cases h
  | minI x y | maxI x y => have h' := h; simp only [evalOp] at h; split at h <;> cases h; exact .dry (fun _ => h') rfl rfl (by simp)
  | extract k x =>
    have h' := h; simp only [evalOp] at h
    split at h
    · split at h
      · simp only [Option.map_eq_some_iff] at h; obtain ⟨_, _, rfl⟩ := h; exact .dry (fun _ => h') rfl rfl (by simp)
      · cases h
    · cases h
  | mkSlice _ _ n c =>
    have h' := h; simp only [evalOp] at h
    split at h
    · split at h <;> cases h; exact .dry (fun _ => h') rfl rfl (by simp)
    · cases h
  | load1 x =>
    simp only [evalOp] at h
    split at h
    · rename_i a ha
      split at h
      · rename_i v hl; cases h
        exact ⟨fun M' hM => by simp only [evalOp, ha]; rw [loadN_congr (hM a.block (by simp)), hl], by simpa using loadN_there hl, by simp, by simp⟩
      · cases h
    · cases h
  | loadN n x =>
    simp only [evalOp] at h
    split at h
    · rename_i a ha
      simp only [Option.map_eq_some_iff] at h
      obtain ⟨l, hl, rfl⟩ := h
      exact ⟨fun M' hM => by simp only [evalOp, ha]; rw [loadN_congr (hM a.block (by simp)), hl]; rfl, by simpa using loadN_there hl, by simp, by simp⟩
    · cases h
  | store n a x =>
    simp only [evalOp] at h
    split at h
    · rename_i a' cs ha hx
      split at h
      · rename_i hn
        split at h
        · rename_i o ho; cases h
          obtain ⟨t1, t2, t3⟩ := storeN_turns ho
          exact ⟨fun M' hM => by simp only [evalOp, ha, hx, if_pos hn]; rw [storeN_congr (hM a'.block (by simp)), ho], by simpa using t1, by simp [t2, t3], by simp⟩
        · cases h
      · cases h
    · cases h
  | toStr x =>
    have h' := h
    simp only [evalOp] at h
    split at h
    · rename_i hx; cases h; exact .dry (fun _ => by simp only [evalOp, hx]) rfl rfl (by simp)
    · rename_i a n _ hx
      split at h
      · cases h; rename_i hn; exact .dry (fun _ => by simp only [evalOp, hx, if_pos hn]) rfl rfl (by simp)
      · rename_i hn
        split at h
        · rename_i l hl
          have hl' := h
          simp only [Option.map_eq_some_iff] at h
          obtain ⟨bs, hb, rfl⟩ := h
          exact ⟨fun M' hM => by simp only [evalOp, hx, if_neg hn]; rw [loadN_congr (hM a.block (by simp)), hl]; simp only [hb, Option.map_some], by simpa using loadN_there hl, by simp, by simp⟩
        · cases h
    · cases h
  | sliceS esz x lo hi mx =>
    have h' := h
    simp only [evalOp] at h
    split at h
    · rename_i hx
      split at h
      · rename_i h0
        have h2 := h
        simp only [Option.map_eq_some_iff] at h; obtain ⟨_, _, rfl⟩ := h
        exact .dry (fun _ => by simp only [evalOp, hx, if_pos h0]; exact h2) rfl rfl (by simp)
      · cases h
    · rename_i a _ _ hx
      split at h
      · cases h
      · rename_i l hh m hb
        split at h
        · rename_i hM
          split at h
          · rename_i hs; cases h
            exact ⟨fun M' hM' => by have e := hM' a.block (by simp); simp only [evalOp, hx, hb, e, hM, hs, if_true], by simp [hM], by simp, by simp⟩
          · cases h
        · rename_i vs hM
          split at h
          · rename_i v hv
            split at h
            · rename_i hs; cases h
              exact ⟨fun M' hM' => by have e := hM' a.block (by simp); simp only [evalOp, hx, hb, e, hM, hv, if_pos hs], by simp [hM], by simp, by simp⟩
            · cases h
          · cases h
        · cases h
    · cases h
  | lenM x =>
    have h' := h
    simp only [evalOp] at h
    split at h
    · rename_i hx; cases h; exact .dry (fun _ => by simp only [evalOp, hx]) rfl rfl (by simp)
    · rename_i r hx
      split at h
      · rename_i es hM; cases h
        exact ⟨fun M' hM' => by have e := hM' r (by simp); simp only [evalOp, hx, e, hM], by simp [hM], by simp, by simp⟩
      · cases h
    · cases h
  | cap x =>
    simp only [evalOp] at h
    split at h
    · rename_i hx; cases h; exact .dry (fun _ => by simp only [evalOp, hx]) rfl rfl (by simp)
    · rename_i a _ _ hx
      split at h
      · rename_i hM
        split at h
        · rename_i hs; cases h
          exact ⟨fun M' hM' => by have e := hM' a.block (by simp); simp only [evalOp, hx, e, hM, hs, if_true], by simp [hM], by simp, by simp⟩
        · cases h
      · rename_i vs hM
        split at h
        · rename_i v hv
          split at h
          · rename_i hs; cases h
            exact ⟨fun M' hM' => by have e := hM' a.block (by simp); simp only [evalOp, hx, e, hM, hv, if_pos hs], by simp [hM], by simp, by simp⟩
          · cases h
        · cases h
      · cases h
    · cases h
  | append esz bytes s x =>
    simp only [evalOp] at h
    split at h
    · rename_i m hm
      split at h
      · rename_i xs rd hsrc
        obtain ⟨s1, s2⟩ := srcCells_spec hsrc
        obtain ⟨a1, a2, a3, a4, a5⟩ := appendA_spec s2 h
        exact ⟨fun M' hM => by simp only [evalOp, hm, s1 M' fun b hb => hM b (a3 b hb)]; exact a1 M' hM, a2, a4, a5⟩
      · cases h
    · cases h
  | appendZ bytes z s n =>
    simp only [evalOp] at h
    split at h
    · rename_i k i hn
      split at h
      · rename_i hi
        obtain ⟨a1, a2, a3, a4, a5⟩ := appendA_spec (by simp) h
        exact ⟨fun M' hM => by simp only [evalOp, hn, if_pos hi]; exact a1 M' hM, a2, a4, a5⟩
      · cases h
    · cases h
  | copy esz d s =>
    simp only [evalOp] at h
    split at h
    · rename_i base dl _ sl hd hs
      split at h
      · rename_i hn; cases h
        exact .dry (fun _ => by simp only [evalOp, hd, hs, if_pos hn]) rfl rfl (by simp)
      · rename_i hn
        split at h
        · rename_i a xs rd hsrc
          split at h
          · rename_i o ho
            split at h
            · rename_i hl; cases h
              obtain ⟨s1, s2⟩ := srcCells_spec hsrc
              obtain ⟨t1, t2, t3⟩ := storeN_turns ho
              refine ⟨fun M' hM => ?_, ?_, ?_, by simp⟩
              · simp only [evalOp, hd, hs, if_neg hn, s1 M' fun b hb => hM b (List.mem_cons_of_mem _ hb), storeN_congr (hM a.block (by simp)), ho, if_pos hl]
              · intro b hb
                rcases List.mem_cons.1 hb with rfl | hb
                · exact t1
                · exact s2 b hb
              · simp only [Option.some.injEq, Prod.mk.injEq]; rintro _ _ ⟨rfl, rfl⟩; exact ⟨by simp, t2, t3⟩
            · cases h
          · cases h
        · cases h
    · cases h
  | clear z x =>
    simp only [evalOp] at h
    split at h
    · rename_i hx; cases h; exact .dry (fun _ => by simp only [evalOp, hx]) rfl rfl (by simp)
    · rename_i a n _ hn0 hx
      split at h
      · rename_i o ho; cases h
        obtain ⟨t1, t2, t3⟩ := storeN_turns ho
        exact ⟨fun M' hM => by simp only [evalOp, hx]; rw [storeN_congr (hM a.block (by simp)), ho], by simpa using t1, by simp [t2, t3], by simp⟩
      · cases h
    · cases h
  | insert m k x =>
    simp only [evalOp] at h
    split at h
    · rename_i r hm
      split at h
      · rename_i es hM
        split at h
        · rename_i hk
          split at h
          · rename_i i v hf; cases h
            exact ⟨fun M' hM' => by have e := hM' r (by simp); simp only [evalOp, hm, e, hM, hk, if_true, hf], by simp [hM], by simp [hM], by simp⟩
          · rename_i hf; cases h
            exact ⟨fun M' hM' => by have e := hM' r (by simp); simp only [evalOp, hm, e, hM, hk, if_true, hf], by simp [hM], by simp [hM], by simp⟩
          · cases h
        · cases h
      · cases h
    · cases h
  | lookup z ok m k =>
    simp only [evalOp] at h
    split at h
    · rename_i r hm
      split at h
      · rename_i es hM
        split at h
        · rename_i hk
          split at h
          · rename_i i v hf; cases h
            exact ⟨fun M' hM' => by have e := hM' r (by simp); simp only [evalOp, hm, e, hM, hk, if_true, hf], by simp [hM], by simp, by simp⟩
          · rename_i hf; cases h
            exact ⟨fun M' hM' => by have e := hM' r (by simp); simp only [evalOp, hm, e, hM, hk, if_true, hf], by simp [hM], by simp, by simp⟩
          · cases h
        · cases h
      · cases h
    · cases h

end
end Go.Ai

namespace Go.Ai

def upT (T : Nat → Value) (d : Option Nat) (v : Value) : Nat → Value := match d with
  | some d => fun i => if i = d then v else T i
  | none => T

theorem putDst_val (T : Env) (d : Option Nat) (v : Value) : (putDst T d v).val = upT T.val d v := by
  cases d with
  | none => rfl
  | some d =>
    funext i
    show ((T.put d v).get i).getD undef = if i = d then v else (T.get i).getD undef
    rw [Trie.get_put]
    split <;> rfl

theorem upT_of (T : Nat → Value) {d : Option Nat} (v : Value) {t : Nat} (h : d ≠ some t) : upT T d v t = T t := by
  cases d with
  | none => rfl
  | some d =>
    show (if t = d then v else T t) = T t
    rw [if_neg]
    rintro rfl
    exact h rfl

/-- A memory under an abstract one. -/
def over (H : AHeap) (M : Nat → Option AObj) (b : Nat) : Option AObj := if b < H.next then H.get b else M b

def WF (H : AHeap) : Prop := ∀ i, H.cnt ≤ i → H.t.get i = none

/-- An abstract memory has become more. -/
structure Grow (H H' : AHeap) : Prop where
  base : H'.base = H.base
  cnt : H.cnt ≤ H'.cnt
  wf : WF H → WF H'

theorem Grow.next {H H' : AHeap} (h : Grow H H') : H.next ≤ H'.next := by
  unfold AHeap.next
  have := h.base
  have := h.cnt
  omega

def Ext (H : AHeap) (M : Nat → Option AObj) : Prop := ∀ b, b < H.next → M b = H.get b
def Fresh (H H' : AHeap) (M : Nat → Option AObj) : Prop := ∀ b, H.next ≤ b → b < H'.next → M b = none

inductive Eff where
  | skip
  | exp (nid : Nat) (out : AOut)
  | call (b a : AHeap) (v : Value)

def Eff.val : Eff → Value
  | .skip => absent
  | .exp _ o => o.v
  | .call _ _ v => v

def Eff.mem : Eff → (Nat → Option AObj) → Nat → Option AObj
  | .skip, M => M
  | .exp nid o, M => patch M nid o
  | .call _ a _, M => over a M

def Eff.info : Eff → Info
  | .skip => .exp [] []
  | .exp nid o => .exp o.rd (o.mods nid)
  | .call b a _ => .call b a

structure Ev where
  idx : Nat
  x : IOper
  eff : Eff

def Ev.eT (e : Ev) (T : Nat → Value) : Nat → Value := upT T e.x.dst e.eff.val

section
variable (C : Ctx) (o : Orc)

def Eff.ok (x : IOper) (T : Nat → Value) (M : Nat → Option AObj) : Eff → Prop
  | .skip => wantedA T x.g = some false
  | .exp nid out => wantedA T x.g = some true ∧ isCall x.op = false ∧ evalOp C M T nid x.op = some out ∧ (out.new ≠ none → M nid = none)
  | .call b a v => wantedA T x.g = some true ∧ ∃ f as, x.op = .call f as ∧ o.call (f.val T) (as.map (·.val T)) b = some (v, a) ∧ (WF b ∧ Grow b a) ∧ Ext b M ∧ Fresh b a M

def Runs : List Ev → (Nat → Value) → (Nat → Option AObj) → (Nat → Value) → (Nat → Option AObj) → Prop
  | [], T, M, T', M' => T = T' ∧ M = M'
  | e :: r, T, M, T', M' => e.eff.ok C o e.x T M ∧ Runs r (e.eT T) (e.eff.mem M) T' M'

def TFree (k e : IOper) : Prop := (∀ d, k.dst = some d → d ∉ e.uses) ∧ (∀ d, e.dst = some d → d ∉ k.uses) ∧ (∀ d, k.dst = some d → e.dst ≠ some d)

def MFree (k e : Info) : Prop := free C k e = true ∨ k = .exp [] [] ∨ e = .exp [] []

def Free (k e : Ev) : Prop := TFree k.x e.x ∧ MFree C k.eff.info e.eff.info

variable {C o} {T T' : Nat → Value} {M M' : Nat → Option AObj}

theorem wantedA_congr {g : Option (Nat × Bool)} (h : ∀ t b, g = some (t, b) → T' t = T t) : wantedA T' g = wantedA T g := by
  cases g with
  | none => rfl
  | some p => obtain ⟨t, b⟩ := p; simp only [wantedA, h t b rfl]

theorem Eff.ok_T {x : IOper} {e : Eff} (h : ∀ t ∈ x.uses, T' t = T t) (k : e.ok C o x T M) : e.ok C o x T' M := by
  have hg : wantedA T' x.g = wantedA T x.g := wantedA_congr fun t b hg => h t (by simp [IOper.uses, hg])
  have hop : ∀ t ∈ x.op.uses, T' t = T t := fun t ht => h t (by simp [IOper.uses, ht])
  cases e with
  | skip => exact hg.trans k
  | exp nid out =>
    obtain ⟨h1, h2, h3, h4⟩ := k
    exact ⟨hg.trans h1, h2, (evalOp_T _ hop).trans h3, h4⟩
  | call b a v =>
    obtain ⟨h1, f, as, h2, h3, h4⟩ := k
    rw [h2] at hop
    simp only [IOp.uses, List.mem_append] at hop
    exact ⟨hg.trans h1, f, as, h2, by rw [IOpd.val_congr (x := f) fun t ht => hop t (.inl ht), vals_congr (xs := as) fun t ht => hop t (.inr ht)]; exact h3, h4⟩

theorem patch_same {nid : Nat} {out : AOut} {b : Nat} (h : b ∉ out.mods nid) : patch M nid out b = M b := by
  unfold AOut.mods at h
  unfold patch
  cases hp : out.put with
  | none => cases hn : out.new with
    | none => rfl
    | some x => simp [hp, hn] at h; simp [upd, h]
  | some p =>
    obtain ⟨c, x⟩ := p
    cases hn : out.new with
    | none => simp [hp, hn] at h; simp [upd, h]
    | some y => simp [hp, hn] at h; simp [upd, h]

theorem patch_other {nid : Nat} {out : AOut} {b : Nat} (h : b ∈ out.mods nid) : patch M nid out b = patch M' nid out b := by
  unfold AOut.mods at h
  unfold patch
  cases hp : out.put with
  | none => cases hn : out.new with
    | none => simp [hp, hn] at h
    | some x => simp [hp, hn] at h; simp [upd, h]
  | some p =>
    obtain ⟨c, x⟩ := p
    cases hn : out.new with
    | none => simp [hp, hn] at h; simp [upd, h]
    | some y =>
      simp [hp, hn] at h
      simp only [upd]
      split
      · rfl
      · rename_i hne
        rw [if_pos (h.resolve_right hne), if_pos (h.resolve_right hne)]

theorem patch_nil {nid : Nat} {out : AOut} (h : out.mods nid = []) : patch M nid out = M := by
  funext b
  exact patch_same (by simp [h])

theorem new_mem {nid : Nat} {out : AOut} (h : out.new ≠ none) : nid ∈ out.mods nid := by
  unfold AOut.mods
  cases hn : out.new with
  | none => exact absurd hn h
  | some x => simp

theorem Eff.ok_M {x : IOper} {nid : Nat} {out : AOut} (h1 : ∀ b ∈ out.rd, M' b = M b) (h2 : ∀ b ∈ out.mods nid, M b = none → M' b = none) (k : (Eff.exp nid out).ok C o x T M) : (Eff.exp nid out).ok C o x T M' := by
  obtain ⟨k1, k2, k3, k4⟩ := k
  exact ⟨k1, k2, (evalOp_local k3).again M' h1, fun hn => h2 nid (new_mem hn) (k4 hn)⟩

theorem disj_spec {a b : List Nat} (h : disj a b = true) {x : Nat} (hx : x ∈ a) : x ∉ b := by
  intro hb
  unfold disj at h
  have := List.all_eq_true.1 (List.all_eq_true.1 h x hx) x hb
  simp at this

theorem same_spec (hE : ∀ a b, C.eqb a b = true → a = b) {a b : Option AObj} (h : same C a b = true) : a = b := by
  cases a <;> cases b <;> simp [same] at h
  exact congrArg some (hE _ _ h)

/-- Two explicit operations. -/
theorem free_exp {rk mk ri mi : List Nat} (h : MFree C (.exp rk mk) (.exp ri mi)) : (∀ b ∈ mk, b ∉ ri) ∧ (∀ b ∈ mk, b ∉ mi) ∧ ∀ b ∈ mi, b ∉ rk := by
  rcases h with h | h | h
  · simp only [free, Bool.and_eq_true] at h
    exact ⟨fun b hb => disj_spec h.1 hb, fun b hb => disj_spec h.2.1 hb, fun b hb => disj_spec h.2.2 hb⟩
  · cases h; simp
  · cases h; simp

theorem free_call (hE : ∀ a b, C.eqb a b = true → a = b) {Hb Ha : AHeap} {ri mi : List Nat} (h : MFree C (.call Hb Ha) (.exp ri mi)) :
    (∀ b ∈ ri, Ha.next ≤ b ∨ (b < Hb.next ∧ Hb.get b = Ha.get b)) ∧ ∀ b ∈ mi, Ha.next ≤ b := by
  rcases h with h | h | h
  · simp only [free, Bool.and_eq_true, List.all_eq_true, Bool.or_eq_true, Nat.ble_eq, Nat.blt_eq] at h
    exact ⟨fun b hb => (h.1 b hb).imp id fun h => ⟨h.1, same_spec hE h.2⟩, h.2⟩
  · cases h
  · cases h; simp

/-- Two events that are free of each other change places. -/
theorem swap (hE : ∀ a b, C.eqb a b = true → a = b) {k e : Ev} (hf : Free C k e) (hk : k.eff.ok C o k.x T M) (he : e.eff.ok C o e.x (k.eT T) (k.eff.mem M)) :
    e.eff.ok C o e.x T M ∧ k.eff.ok C o k.x (e.eT T) (e.eff.mem M) ∧ k.eT (e.eT T) = e.eT (k.eT T) ∧ k.eff.mem (e.eff.mem M) = e.eff.mem (k.eff.mem M) := by
  obtain ⟨⟨t1, t2, t3⟩, hm⟩ := hf
  have he1 : e.eff.ok C o e.x T (k.eff.mem M) := Eff.ok_T (fun t ht => by
    refine (upT_of T k.eff.val fun hd => ?_).symm
    exact t1 t hd ht) he
  have hk1 : k.eff.ok C o k.x (e.eT T) M := Eff.ok_T (fun t ht => upT_of T e.eff.val fun hd => t2 t hd ht) hk
  have hT : k.eT (e.eT T) = e.eT (k.eT T) := by
    unfold Ev.eT upT
    cases hkd : k.x.dst with
    | none => rfl
    | some d => cases hed : e.x.dst with
      | none => rfl
      | some c =>
        have : d ≠ c := fun h => t3 d hkd (by rw [hed, h])
        funext i
        dsimp only
        by_cases h1 : i = d
        · subst h1; rw [if_pos rfl, if_neg this, if_pos rfl]
        · by_cases h2 : i = c
          · subst h2; simp [h1]
          · simp [h1, h2]
  suffices e.eff.ok C o e.x T M ∧ k.eff.ok C o k.x (e.eT T) (e.eff.mem M) ∧ k.eff.mem (e.eff.mem M) = e.eff.mem (k.eff.mem M) from ⟨this.1, this.2.1, hT, this.2.2⟩
  cases hke : k.eff with
  | skip =>
    rw [hke] at he1 hk1
    exact ⟨he1, hk1, rfl⟩
  | exp nk ok =>
    rw [hke] at he1 hk1 hm
    cases hee : e.eff with
    | skip =>
      rw [hee] at he1
      exact ⟨he1, hk1, rfl⟩
    | exp ne oe =>
      rw [hee] at he1 hm
      obtain ⟨d1, d2, d3⟩ := free_exp hm
      refine ⟨?_, ?_, ?_⟩
      · refine Eff.ok_M (fun b hb => (patch_same fun hmk => d1 b hmk hb).symm) (fun b hb h0 => ?_) he1
        have : patch M nk ok b = M b := patch_same fun hmk => d2 b hmk hb
        exact this.symm.trans h0
      · refine Eff.ok_M (fun b hb => patch_same fun hmi => d3 b hmi hb) (fun b hb h0 => ?_) hk1
        have : patch M ne oe b = M b := patch_same fun hmi => d2 b hb hmi
        exact this.trans h0
      · funext b
        show patch (patch M ne oe) nk ok b = patch (patch M nk ok) ne oe b
        by_cases h1 : b ∈ ok.mods nk
        · rw [patch_same (d2 b h1)]
          exact patch_other h1
        · by_cases h2 : b ∈ oe.mods ne
          · rw [patch_same h1]
            exact patch_other h2
          · rw [patch_same h1, patch_same h2, patch_same h2, patch_same h1]
    | call Hb Ha v =>
      rw [hee] at he1 hm
      have : ok.rd = [] ∧ ok.mods nk = [] := by
        rcases hm with h | h | h
        · simp [Eff.info, free] at h
        · simpa [Eff.info] using h
        · simp [Eff.info] at h
      have hid : ∀ M : Nat → Option AObj, (Eff.exp nk ok).mem M = M := fun M => patch_nil this.2
      rw [hid] at he1
      exact ⟨he1, Eff.ok_M (by simp [this.1]) (by simp [this.2]) hk1, by rw [hid, hid]⟩
  | call Hb Ha v =>
    rw [hke] at he1 hk1 hm
    cases hee : e.eff with
    | skip =>
      rw [hee] at he1
      exact ⟨he1, hk1, rfl⟩
    | exp ne oe =>
      rw [hee] at he1 hm
      obtain ⟨d1, d2⟩ := free_call hE hm
      obtain ⟨g1, f, as, g2, g3, g4, g5, g6⟩ := hk1
      have gn : Hb.next ≤ Ha.next := g4.2.next
      refine ⟨?_, ?_, ?_⟩
      · refine Eff.ok_M (fun b hb => ?_) (fun b hb h0 => ?_) he1
        · show M b = over Ha M b
          unfold over
          rcases d1 b hb with h | ⟨h1, h2⟩
          · rw [if_neg (by omega)]
          · rw [if_pos (by omega), ← h2, g5 b h1]
        · have : over Ha M b = M b := by unfold over; rw [if_neg (by have := d2 b hb; omega)]
          exact this.symm.trans h0
      · have hsame : ∀ b, b < Ha.next → patch M ne oe b = M b := fun b hb => patch_same fun hmi => by have := d2 b hmi; omega
        exact ⟨g1, f, as, g2, g3, g4, fun b hb => (hsame b (by omega)).trans (g5 b hb), fun b h1 h2 => (hsame b h2).trans (g6 b h1 h2)⟩
      · funext b
        show over Ha (patch M ne oe) b = patch (over Ha M) ne oe b
        by_cases hb : b < Ha.next
        · have h1 : b ∉ oe.mods ne := fun hmi => by have := d2 b hmi; omega
          rw [patch_same h1]
          unfold over
          rw [if_pos hb, if_pos hb]
        · have : over Ha (patch M ne oe) b = patch M ne oe b := by unfold over; rw [if_neg hb]
          rw [this]
          by_cases hmi : b ∈ oe.mods ne
          · exact patch_other hmi
          · rw [patch_same hmi, patch_same hmi]
            unfold over
            rw [if_neg hb]
    | call Hb' Ha' v' =>
      rw [hee] at hm
      rcases hm with h | h | h
      · simp [Eff.info, free] at h
      · simp [Eff.info] at h
      · simp [Eff.info] at h

/-- An event comes to the front of those of which it is free. -/
theorem bubble (hE : ∀ a b, C.eqb a b = true → a = b) {e : Ev} {post : List Ev} {Tf : Nat → Value} {Mf : Nat → Option AObj} :
    ∀ (pre : List Ev) (T : Nat → Value) (M : Nat → Option AObj), (∀ k ∈ pre, Free C k e) → Runs C o (pre ++ e :: post) T M Tf Mf → Runs C o (e :: (pre ++ post)) T M Tf Mf
  | [], _, _, _, h => h
  | k :: r, T, M, hf, h => by
    obtain ⟨hk, hr⟩ := h
    obtain ⟨he, hrest⟩ := bubble hE r _ _ (fun x hx => hf x (List.mem_cons_of_mem _ hx)) hr
    obtain ⟨s1, s2, s3, s4⟩ := swap hE (hf k (by simp)) hk he
    refine ⟨s1, s2, ?_⟩
    rw [s3, s4]
    exact hrest

end
end Go.Ai

namespace Go.Ai

/-- The fence: none, in or out of a round. -/
def fen : Option Nat → Fence
  | none => Fence.wide
  | some l => Fence.wide.inRound l

def retPost (K : Value → World → Prop) : Ending → World → Prop
  | .returned v, w => K v w
  | _, _ => False

/-- A call of a value at arguments. -/
def Upon (P : Program) (w : World) (f : Value) (args : Array Value) (K : Value → World → Prop) : Prop :=
  match f with
  | .func (.func k) first cap => (callFunc k (first ++ args ++ cap)).run P w = .ok (.enter k (first ++ args ++ cap)) w ∧ CallsIn Fence.wide 0 P k (first ++ args ++ cap) w (retPost K)
  | .func (.yield l) first _ => ∃ r, w.heap[l]? = some (.loop r) ∧ (first ++ args).size = r.params.size ∧
      RoundIn Fence.wide 0 P l r.fn ((r.params.zip (first ++ args)).foldl (fun tmps (t, a) => tmps.setIfInBounds t a) r.tmps) r.assign r.body w (retPost K)
  | _ => False

theorem callsIn_fen {ro : Option Nat} {n : Nat} {P : Program} {f : FuncId} {args : Array Value} {w : World} {K : Ending → World → Prop} :
    CallsIn (fen ro) n P f args w K ↔ CallsIn Fence.wide n P f args w K := by cases ro <;> exact Iff.rfl
theorem roundIn_fen {ro : Option Nat} {n : Nat} {P : Program} {l : Nat} {f : FuncId} {tmps : Array Value} {x y : Code} {w : World} {K : Ending → World → Prop} :
    RoundIn (fen ro) n P l f tmps x y w K ↔ RoundIn Fence.wide n P l f tmps x y w K := by cases ro <;> exact Iff.rfl
theorem fen_fn (ro : Option Nat) (f : FuncId) : (fen ro).fn f := by cases ro <;> trivial
theorem fen_depth (ro : Option Nat) : (fen ro).depth.isSome = true → 1 ≤ 0 := by cases ro <;> simp [fen, Fence.wide, Fence.inRound]
theorem fen_round (ro : Option Nat) : (fen ro).round = ro := by cases ro <;> rfl

section
variable (P : Program) (C : Ctx)

/-- The oracle's calls are sound. -/
def CallsOK (o : Orc) : Prop := ∀ (f : Value) (args : List Value) (H : AHeap) (v : Value) (H' : AHeap), o.call f args H = some (v, H') → WF H → Grow H H' ∧
  ∀ (φ : Phi) (M : Nat → Option AObj) (w : World) (f' : Value) (args' : Array Value), Ext H M → Fresh H H' M → R P C φ M w → VRel φ f f' → VsRel φ args args'.toList →
    Upon P w f' args' fun v' w' => ∃ φ', φ.le φ' ∧ VRel φ' v v' ∧ R P C φ' (over H' M) w'

variable {P C} {o : Orc} {H H' : AHeap} {T T' : Env} {M : Nat → Option AObj} {x : IOper} {i : Info}

/-! ### the evaluator's step -/
theorem get_lt (hw : WF H) {b : Nat} (h : H.get b ≠ none) : b < H.next := by
  unfold AHeap.get at h
  unfold AHeap.next
  split at h
  · omega
  · rcases Nat.lt_or_ge (b - H.base) H.cnt with h1 | h1
    · omega
    · exact absurd (hw _ h1) h

theorem apply_spec (hw : WF H) {out : AOut} (hput : ∀ b x, out.put = some (b, x) → H.get b ≠ none ∧ H.get b ≠ some .raw) :
    Grow H (H.apply out) ∧ ∀ b, (H.apply out).get b = patch H.get H.next out b := by
  obtain ⟨base, t, cnt⟩ := H
  obtain ⟨v, put, new, rd⟩ := out
  have hb : ∀ b x, put = some (b, x) → base ≤ b ∧ b - base < cnt := fun b x he => by
    obtain ⟨h1, h2⟩ := hput b x he
    have h3 := get_lt hw h1
    refine ⟨?_, ?_⟩
    · rcases Nat.lt_or_ge b base with h | h
      · exact absurd (by simp [AHeap.get, h]) h2
      · exact h
    · rcases Nat.lt_or_ge b base with h | h
      · exact absurd (by simp [AHeap.get, h]) h2
      · simp only [AHeap.next] at h3; omega
  have hw' : ∀ j, cnt ≤ j → t.get j = none := hw
  cases put with
  | none =>
    cases new with
    | none => exact ⟨⟨rfl, Nat.le_refl _, fun h => h⟩, fun b => rfl⟩
    | some y =>
      refine ⟨⟨rfl, Nat.le_succ _, fun _ j hj => ?_⟩, fun b => ?_⟩
      · show (t.put cnt y).get j = none
        have hj' : cnt + 1 ≤ j := hj
        rw [Trie.get_put, if_neg (by omega)]
        exact hw' j (by omega)
      · show (if b < base then some AObj.raw else (t.put cnt y).get (b - base)) = (if b = base + cnt then some y else if b < base then some AObj.raw else t.get (b - base))
        rw [Trie.get_put]
        by_cases h1 : b < base
        · simp [h1]; omega
        · by_cases h2 : b = base + cnt
          · subst h2; simp; intro h; omega
          · rw [if_neg h1, if_neg (by omega), if_neg h2, if_neg h1]
  | some p =>
    obtain ⟨c, z⟩ := p
    obtain ⟨hc1, hc2⟩ := hb c z rfl
    cases new with
    | none =>
      refine ⟨⟨rfl, Nat.le_refl _, fun _ j hj => ?_⟩, fun b => ?_⟩
      · show (t.put (c - base) z).get j = none
        have hj' : cnt ≤ j := hj
        rw [Trie.get_put, if_neg (by omega)]
        exact hw' j hj'
      · show (if b < base then some AObj.raw else (t.put (c - base) z).get (b - base)) = (if b = c then some z else if b < base then some AObj.raw else t.get (b - base))
        rw [Trie.get_put]
        by_cases h1 : b < base
        · simp [h1]; omega
        · by_cases h2 : b = c
          · subst h2; simp [h1]
          · rw [if_neg h1, if_neg (by omega), if_neg h2, if_neg h1]
    | some y =>
      refine ⟨⟨rfl, Nat.le_succ _, fun _ j hj => ?_⟩, fun b => ?_⟩
      · show ((t.put (c - base) z).put cnt y).get j = none
        have hj' : cnt + 1 ≤ j := hj
        rw [Trie.get_put, if_neg (by omega), Trie.get_put, if_neg (by omega)]
        exact hw' j (by omega)
      · show (if b < base then some AObj.raw else ((t.put (c - base) z).put cnt y).get (b - base)) =
          (if b = base + cnt then some y else if b = c then some z else if b < base then some AObj.raw else t.get (b - base))
        rw [Trie.get_put, Trie.get_put]
        by_cases h1 : b < base
        · simp [h1]
          rw [if_neg (by omega), if_neg (by omega)]
        · by_cases h2 : b = base + cnt
          · subst h2; simp; intro h; omega
          · rw [if_neg h1, if_neg (by omega), if_neg h2]
            by_cases h3 : b = c
            · subst h3; simp
            · rw [if_neg (by omega), if_neg h3, if_neg h1]

/-- The step gives an event. -/
theorem step_ev (hcall : ∀ f as H v H', o.call f as H = some (v, H') → WF H → Grow H H') (hw : WF H) (h : stepA C o x T H = some (T', H', i)) :
    Grow H H' ∧ ∀ M, Ext H M → Fresh H H' M → ∃ e : Eff, e.info = i ∧ e.ok C o x T.val M ∧ T'.val = upT T.val x.dst e.val ∧ e.mem M = over H' M ∧ (isPure x.op = true → i = .exp [] []) := by
  unfold stepA at h
  cases hg : wantedA T.val x.g with
  | none => rw [hg] at h; cases h
  | some b =>
    rw [hg] at h
    cases b with
    | false =>
      cases h
      refine ⟨⟨rfl, Nat.le_refl _, fun h => h⟩, fun M hM _ => ⟨.skip, rfl, hg, putDst_val _ _ _, ?_, fun _ => rfl⟩⟩
      funext b
      show M b = over H M b
      unfold over
      split
      · exact hM b (by assumption)
      · rfl
    | true =>
      dsimp only at h
      split at h
      · rename_i f as hop
        split at h
        · rename_i v H1 hc
          cases h
          have hgr := hcall _ _ _ _ _ hc hw
          exact ⟨hgr, fun M hM hF => ⟨.call H H' v, rfl, ⟨hg, f, as, hop, hc, ⟨hw, hgr⟩, hM, hF⟩, putDst_val _ _ _, rfl, fun hp => by rw [hop] at hp; simp [isPure] at hp⟩⟩
        · cases h
      · rename_i hop
        split at h
        · rename_i out ho
          cases h
          have hloc := evalOp_local ho
          have hput : ∀ b x, out.put = some (b, x) → H.get b ≠ none ∧ H.get b ≠ some .raw := fun b x he =>
            let ⟨h1, h2, _⟩ := hloc.turns b x he
            ⟨hloc.there b h1, h2⟩
          obtain ⟨hgr, hap⟩ := apply_spec hw hput
          refine ⟨hgr, fun M hM hF => ⟨.exp H.next out, rfl, ⟨hg, ?_, ?_, ?_⟩, putDst_val _ _ _, ?_, ?_⟩⟩
          · cases hx : x.op <;> first | rfl | exact absurd hx (hop _ _)
          · exact hloc.again M fun b hb => hM b (get_lt hw (hloc.there b hb))
          · intro hn
            refine hF _ (Nat.le_refl _) ?_
            unfold AHeap.apply AHeap.push AHeap.next
            cases hnew : out.new with
            | none => exact absurd hnew hn
            | some y => cases hpp : out.put with
              | none => simp
              | some p => simp [AHeap.put]
          · funext b
            show patch M H.next out b = over (H.apply out) M b
            unfold over
            by_cases hb : b ∈ out.mods H.next
            · have hlt : b < (H.apply out).next := by
                refine get_lt (hgr.wf hw) ?_
                rw [hap]
                unfold AOut.mods at hb
                unfold patch
                cases hpp : out.put with
                | none => cases hnn : out.new with
                  | none => simp [hpp, hnn] at hb
                  | some y => simp [hpp, hnn] at hb; simp [upd, hb]
                | some p => cases hnn : out.new with
                  | none => simp [hpp, hnn] at hb; simp [upd, hb]
                  | some y => simp [hpp, hnn] at hb; rcases hb with rfl | rfl <;> simp [upd]; split <;> simp
              rw [if_pos hlt, hap]
              exact patch_other hb
            · rw [patch_same hb, hap, patch_same hb]
              split
              · rename_i hlt
                by_cases h2 : b < H.next
                · exact hM b h2
                · have : M b = none := hF b (by omega) hlt
                  rw [this]
                  cases hgg : H.get b with
                  | none => rfl
                  | some y => exact absurd (get_lt hw (by rw [hgg]; simp)) h2
              · rfl
          · intro hp
            cases hx : x.op <;> rw [hx] at hp <;> simp only [isPure, Bool.false_eq_true] at hp <;> rw [hx] at ho <;> simp only [evalOp, Option.map_eq_some_iff] at ho <;>
              (repeat' split at ho) <;> (first | (obtain ⟨_, _, rfl⟩ := ho) | cases ho | skip) <;> (first | rfl | skip) <;>
              (try simp only [Option.map_eq_some_iff] at ho) <;> (try obtain ⟨_, _, rfl⟩ := ho) <;> (try rfl)
        · cases h

end
end Go.Ai

namespace Go.Ai

theorem Upon.mono {P : Program} {w : World} {f : Value} {args : Array Value} {K K' : Value → World → Prop} (h : Upon P w f args K) (hk : ∀ v w, K v w → K' v w) : Upon P w f args K' := by
  unfold Upon at *
  split at h
  · exact ⟨h.1, h.2.mono fun e w' he => by cases e <;> first | exact hk _ _ he | exact he⟩
  · obtain ⟨r, h1, h2, h3⟩ := h
    exact ⟨r, h1, h2, h3.mono fun e w' he => by cases e <;> first | exact hk _ _ he | exact he⟩
  · exact h.elim

section
variable {P : Program} {C : Ctx} {o : Orc} {φ : Phi} {M : Nat → Option AObj} {w : World} {T : Nat → Value} {ops : Array Oper} {ro : Option Nat} {nt : Nat} {Q : Exit → Act → World → Prop}

theorem trel_put {φ : Phi} {T : Nat → Value} {a : Act} {d : Option Nat} {v v' : Value} (hT : TRel φ T a.tmps) (hd : ∀ k, d = some k → k < a.tmps.size) (hv : VRel φ v v') : TRel φ (upT T d v) (a.put d v').tmps := by
  intro i
  cases d with
  | none => exact hT i
  | some d =>
    show VRel φ (if i = d then v else T i) ((a.tmps.setIfInBounds d v').getD i undef)
    have hlt := hd d rfl
    by_cases h : i = d
    · subst h
      simp [Array.getD, hlt]
      exact hv
    · rw [if_neg h]
      have := hT i
      simp only [Array.getD_eq_getD_getElem?] at this ⊢
      rw [Array.getElem?_setIfInBounds_ne (Ne.symm h)]
      exact this

theorem put_size (a : Act) (d : Option Nat) (v : Value) : (a.put d v).tmps.size = a.tmps.size := by cases d <;> simp [Act.put]
theorem put_defers (a : Act) (d : Option Nat) (v : Value) : (a.put d v).defers = a.defers := by cases d <;> rfl

theorem compOper_ok {oo : Oper} {x : IOper} (hx : x = compOper P nt ops oo) (hb : ¬ (x.op = .bad ∧ x.g = none)) :
    (∀ d, oo.dst = some d → d < nt) ∧ x.dst = oo.dst ∧ x.op = compOp P oo.op ∧
    ((oo.guard = none ∧ x.g = none) ∨ ∃ j b t, oo.guard = some (j, b) ∧ (ops[j]?).bind (·.dst) = some t ∧ x.g = some (t, b)) := by
  unfold compOper at hx
  split at hx
  · subst hx; exact absurd ⟨rfl, rfl⟩ hb
  · rename_i hd
    have hd' : ∀ d, oo.dst = some d → d < nt := fun d he => by rw [he] at hd; simpa using hd
    split at hx
    · rename_i hg; subst hx; exact ⟨hd', rfl, rfl, .inl ⟨hg, rfl⟩⟩
    · rename_i j b hg
      split at hx
      · rename_i t ht; subst hx; exact ⟨hd', rfl, rfl, .inr ⟨j, b, t, hg, ht, rfl⟩⟩
      · subst hx; exact absurd ⟨rfl, rfl⟩ hb

theorem wanted_rel {oo : Oper} {x : IOper} {b : Bool} {a : Act} (hT : TRel φ T a.tmps)
    (hg : (oo.guard = none ∧ x.g = none) ∨ ∃ j b t, oo.guard = some (j, b) ∧ (ops[j]?).bind (·.dst) = some t ∧ x.g = some (t, b)) (h : wantedA T x.g = some b) :
    Region.wanted oo (yielded ops a.tmps) = b := by
  rcases hg with ⟨h1, h2⟩ | ⟨j, c, t, h1, h2, h3⟩
  · rw [h2] at h
    simp only [wantedA, Option.some.injEq] at h
    simp [Region.wanted, h1, h]
  · rw [h3] at h
    have ht := hT t
    simp only [wantedA] at h
    simp only [Region.wanted, h1, yielded, h2, Option.bind_some]
    split at h
    · rename_i y hy
      rw [hy] at ht
      have := bool_inv ht
      simp only [Array.getD_eq_getD_getElem?] at this
      cases hh : a.tmps[t]? with
      | none => rw [hh] at this; cases this
      | some z =>
        rw [hh] at this
        simp only [Option.getD_some] at this
        subst this
        simp only [Option.some.injEq] at h
        subst h
        cases y <;> cases c <;> rfl
    · rename_i vs hy
      split at h
      · rename_i hl
        simp only [Option.some.injEq] at h
        rw [hy] at ht
        have hv : a.tmps.getD t undef = .tuple #[] := by
          generalize a.tmps.getD t undef = u at ht
          cases ht with
          | undef => simp at hl
          | absent => rfl
          | tup _ _ h2 => simp only [Array.length_toList] at hl; omega
        simp only [Array.getD_eq_getD_getElem?] at hv
        subst h
        cases hh : a.tmps[t]? with
        | none => rfl
        | some z =>
          rw [hh] at hv
          simp only [Option.getD_some] at hv
          subst hv
          rfl
      · cases h
    · cases h

theorem builtin_call {b : Builtin} {ts : Array TypeId} {xs : List Operand} {f : IOpd} {as : List IOpd} (h : compBuiltin P b ts xs = some (.call f as)) : False := by
  unfold compBuiltin at h
  split at h <;> (repeat' split at h) <;> cases h

theorem comp_call {op : Op} {f : IOpd} {as : List IOpd} (h : compOp? P op = some (.call f as)) : ∃ c g, op = .call c ∧ c.callee = .value g ∧ opd g = some f ∧ opds c.args.toList = some as := by
  unfold compOp? at h
  split at h <;> first
    | (cases h; done)
    | (obtain ⟨_, _, h⟩ := Option.map_eq_some_iff.1 h; cases h; done)
    | ((repeat' split at h) <;> first | (cases h; done) | (obtain ⟨_, _, h⟩ := Option.map_eq_some_iff.1 h; cases h; done))
    | skip
  rename_i c
  split at h
  · exact (builtin_call h).elim
  · rename_i g hg
    split at h
    · rename_i a b h1 h2
      cases h
      exact ⟨c, g, rfl, hg, h1, h2⟩
    · cases h
  · cases h

/-- A call, by what is known of the value called. -/
theorem upon_call {oo : Oper} {c : Call} {g : Operand} {a : Act} {K : Value → World → Prop} {next : Act → World → Prop} (hop : oo.op = .call c) (hcal : c.callee = .value g)
    (h : Upon P w (a.eval g) (c.args.map a.eval) K) (hK : ∀ v w, K v w → next (a.put oo.dst v) w) : oo.uponIn (fen ro) 0 P a next Q ((execOp a.eval oo).run P w) := by
  have hx : execOp a.eval oo = (Deferred.ofValue (a.eval g) (c.args.map a.eval) >>= fun d => invoke d.target d.args) := by
    simp only [execOp, hop, resolve, hcal]
  rw [hx]
  unfold Upon at h
  split at h
  · rename_i k first cap hg
    obtain ⟨h1, h2⟩ := h
    rw [hg]
    simp only [Deferred.ofValue, Sem.run_bind, Sem.run_pure, Result.andThen_ok, invoke, h1]
    rw [Oper.uponIn_enter]
    refine ⟨fen_depth ro, callsIn_fen.2 (h2.mono fun e w' he => ?_)⟩
    cases e with
    | returned v => exact hK v w' he
    | panicked ch => exact he.elim
    | outgrown => exact he.elim
  · rename_i l first cap hg
    obtain ⟨r, h1, h2, h3⟩ := h
    rw [hg]
    simp only [Deferred.ofValue, Sem.run_bind, Sem.run_pure, Result.andThen_ok, invoke, run_yield h1 h2]
    rw [Oper.uponIn_round]
    refine ⟨fen_depth ro, roundIn_fen.2 (h3.mono fun e w' he => ?_)⟩
    cases e with
    | returned v => exact hK v w' he
    | panicked ch => exact he.elim
    | outgrown => exact he.elim
  · exact h.elim

/-- One event is walked. -/
theorem ev_sound (hcall : CallsOK P C o) {i : Nat} {oo : Oper} {x : IOper} {e : Eff} {a : Act} (ho : ops[i]? = some oo) (hx : x = compOper P nt ops oo) (hok : e.ok C o x T M) (hT : TRel φ T a.tmps) (hR : R P C φ M w)
    (hnt : nt ≤ a.tmps.size) {K : Act → World → Prop}
    (hK : ∀ φ' a' w', φ.le φ' → TRel φ' (upT T x.dst e.val) a'.tmps → R P C φ' (e.mem M) w' → a'.tmps.size = a.tmps.size → a'.defers = a.defers → K a' w') :
    wpOpIn (fen ro) 0 P ops Q i K a w := by
  unfold wpOpIn
  rw [ho]
  dsimp only
  cases e with
  | skip =>
    obtain ⟨h1, h2, h3, h4⟩ := compOper_ok hx fun hb => by
      have hok : wantedA T x.g = some false := hok
      rw [hb.2] at hok
      cases hok
    rw [wanted_rel hT h4 hok]
    refine ⟨fun f _ => fen_fn ro f, ?_⟩
    rw [← h2]
    exact hK φ _ w (Phi.le_refl φ) (trel_put hT (fun k hk => Nat.lt_of_lt_of_le (h1 k (h2 ▸ hk)) hnt) .absent) hR (put_size _ _ _) (put_defers _ _ _)
  | exp nid out =>
    obtain ⟨k1, k2, k3, k4⟩ := hok
    have hnb : x.op ≠ .bad := fun hb => by rw [hb] at k3; cases k3
    obtain ⟨h1, h2, h3, h4⟩ := compOper_ok hx fun hb => hnb hb.1
    rw [wanted_rel hT h4 k1, if_pos rfl]
    have hc : compOp? P oo.op = some x.op := by
      rw [h3] at hnb ⊢
      unfold compOp at hnb ⊢
      cases hh : compOp? P oo.op with
      | none => rw [hh] at hnb; exact absurd rfl hnb
      | some y => rfl
    obtain ⟨v', w', φ', hrun, hle, hv, hR'⟩ := op_sound hc k2 (opds_of hT) hR k4 k3
    refine ⟨fun f _ => fen_fn ro f, ?_⟩
    rw [fen_round, Oper.semAt_eq _ _ _ fun c hd => by rw [hd] at hc; simp [compOp?] at hc]
    have hdst : ∀ k, x.dst = some k → k < a.tmps.size := fun k hk => Nat.lt_of_lt_of_le (h1 k (h2 ▸ hk)) hnt
    rcases hrun with hrun | ⟨hrun, rfl⟩
    · rw [hrun, Oper.uponIn_value, ← h2]
      exact hK φ' _ w' hle (trel_put (hT.mono hle) hdst hv) hR' (put_size _ _ _) (put_defers _ _ _)
    · rw [hrun, Oper.uponIn_skip, ← h2]
      exact hK φ' _ w' hle (trel_put (hT.mono hle) hdst hv) hR' (put_size _ _ _) (put_defers _ _ _)
  | call b c v =>
    obtain ⟨k1, f, as, k2, k3, ⟨k4, _⟩, k5, k6⟩ := hok
    have hnb : x.op ≠ .bad := fun hb => by rw [k2] at hb; cases hb
    obtain ⟨h1, h2, h3, h4⟩ := compOper_ok hx fun hb => hnb hb.1
    rw [wanted_rel hT h4 k1, if_pos rfl]
    have hc : compOp? P oo.op = some (.call f as) := by
      rw [← k2]
      rw [h3] at hnb ⊢
      unfold compOp at hnb ⊢
      cases hh : compOp? P oo.op with
      | none => rw [hh] at hnb; exact absurd rfl hnb
      | some y => rfl
    obtain ⟨cc, g, hop, hcal, hf, has⟩ := comp_call hc
    refine ⟨fun f _ => fen_fn ro f, ?_⟩
    rw [fen_round, Oper.semAt_eq _ _ _ fun c hd => by rw [hd] at hop; cases hop]
    have hdst : ∀ k, x.dst = some k → k < a.tmps.size := fun k hk => Nat.lt_of_lt_of_le (h1 k (h2 ▸ hk)) hnt
    have hfv := opds_of hT g f hf
    have hav := opds_rel has (opds_of hT)
    have hup := (hcall _ _ _ _ _ k3 k4).2 φ M w (a.eval g) (cc.args.map a.eval) k5 k6 hR hfv (by simpa using hav)
    exact upon_call hop hcal hup fun v' w' ⟨φ', hle, hv, hR'⟩ => by
      rw [← h2]
      exact hK φ' _ w' hle (trel_put (hT.mono hle) hdst hv) hR' (put_size _ _ _) (put_defers _ _ _)
end
end Go.Ai
