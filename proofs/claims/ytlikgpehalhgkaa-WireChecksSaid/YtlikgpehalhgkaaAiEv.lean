/-
  What an operation looks at: its temporaries and its objects; nothing else matters.
-/
import Derived.Test.YtlikgpehalhgkaaAiOps
namespace Go.Ai

section
variable {C : Ctx} {M M' : Nat → Option AObj} {T T' : Nat → Value} {nid : Nat} {out : AOut}

theorem IOpd.val_congr {x : IOpd} (h : ∀ t ∈ x.uses, T' t = T t) : x.val T' = x.val T := by
  cases x with
  | t n => exact h n (by simp [IOpd.uses])
  | c v => rfl

theorem vals_congr {xs : List IOpd} (h : ∀ t ∈ xs.flatMap IOpd.uses, T' t = T t) : xs.map (·.val T') = xs.map (·.val T) := by
  induction xs with
  | nil => rfl
  | cons x r ih =>
    simp only [List.flatMap_cons, List.mem_append] at h
    simp only [List.map_cons, ih fun t ht => h t (.inr ht), IOpd.val_congr fun t ht => h t (.inl ht)]

theorem fillA_congr {ps : List (Nat × Nat × IOpd)} (h : ∀ t ∈ ps.flatMap (fun p => p.2.2.uses), T' t = T t) : ∀ cs, fillA T' cs ps = fillA T cs ps := by
  induction ps with
  | nil => intro cs; rfl
  | cons p r ih =>
    obtain ⟨off, n, x⟩ := p
    simp only [List.flatMap_cons, List.mem_append] at h
    intro cs
    simp only [fillA, IOpd.val_congr fun t ht => h t (.inl ht)]
    split
    · split
      · exact ih (fun t ht => h t (.inr ht)) _
      · rfl
    · rfl

theorem bnd_congr {x : Option IOpd} (h : ∀ t ∈ optUses x, T' t = T t) (d l : Nat) : bnd T' x d l = bnd T x d l := by
  cases x with
  | none => rfl
  | some x => simp only [bnd, IOpd.val_congr (x := x) h]

theorem bounds_congr {a b c : Option IOpd} (h1 : ∀ t ∈ optUses a, T' t = T t) (h2 : ∀ t ∈ optUses b, T' t = T t) (h3 : ∀ t ∈ optUses c, T' t = T t) (n m : Nat) :
    bounds T' n m a b c = bounds T n m a b c := by
  simp only [bounds, bnd_congr h1, bnd_congr h2, bnd_congr h3]

/-- Only the temporaries that are named matter. -/
theorem evalOp_T (op : IOp) (h : ∀ t ∈ op.uses, T' t = T t) : evalOp C M T' nid op = evalOp C M T nid op := by
  cases op with
  | mk _ | lenC _ | mkmap | bad => rfl
  | call _ _ => rfl
  | mv x | box _ x | load1 x | loadN _ x | nilCheck x | not x | neg x | conv _ x | toStr x | faddr _ x | field _ _ _ x | len x | lenStr x | lenM x | cap x | clear _ x | extract _ x | mkiface _ x =>
    simp only [evalOp, IOpd.val_congr (x := x) h]
  | pick a b c | insert a b c =>
    simp only [IOp.uses, List.mem_append] at h
    simp only [evalOp, IOpd.val_congr (x := a) fun t ht => h t (.inl ht), IOpd.val_congr (x := b) fun t ht => h t (.inr (.inl ht)), IOpd.val_congr (x := c) fun t ht => h t (.inr (.inr ht))]
  | build _ ps | buildSlice _ _ ps => simp only [evalOp, fillA_congr (ps := ps) h]
  | store _ a b | bin _ _ a b | idxS _ a b | idxA _ _ a b | idxV _ _ _ a b | idxStr a b | append _ _ a b | appendZ _ _ a b | copy _ a b | mkSlice _ _ a b | minI a b | maxI a b | lookup _ _ a b =>
    simp only [IOp.uses, List.mem_append] at h
    simp only [evalOp, IOpd.val_congr (x := a) fun t ht => h t (.inl ht), IOpd.val_congr (x := b) fun t ht => h t (.inr ht)]
  | sliceS _ x a b c | sliceA _ _ x a b c =>
    simp only [IOp.uses, List.mem_append] at h
    simp only [evalOp, IOpd.val_congr (x := x) fun t ht => h t (.inl ht),
      bounds_congr (a := a) (b := b) (c := c) (fun t ht => h t (.inr (.inl ht))) (fun t ht => h t (.inr (.inr (.inl ht)))) fun t ht => h t (.inr (.inr (.inr ht)))]
  | sliceStr x a b =>
    simp only [IOp.uses, List.mem_append] at h
    simp only [evalOp, IOpd.val_congr (x := x) fun t ht => h t (.inl ht), bounds_congr (a := a) (b := b) (c := none) (fun t ht => h t (.inr (.inl ht))) (fun t ht => h t (.inr (.inr ht))) fun t ht => by simp [optUses] at ht]
  | mkfn f a b =>
    simp only [IOp.uses, List.flatMap_append, List.mem_append] at h
    simp only [evalOp, vals_congr (xs := a) fun t ht => h t (.inl ht), vals_congr (xs := b) fun t ht => h t (.inr ht)]

/-- What may be said of an operation's outcome: only the objects that it names matter, they are there, and what it turns is one of them. -/
structure Local (C : Ctx) (M : Nat → Option AObj) (T : Nat → Value) (nid : Nat) (op : IOp) (out : AOut) : Prop where
  again : ∀ M', (∀ b ∈ out.rd, M' b = M b) → evalOp C M' T nid op = some out
  there : ∀ b ∈ out.rd, M b ≠ none
  turns : ∀ b x, out.put = some (b, x) → b ∈ out.rd ∧ M b ≠ some .raw ∧ x ≠ .raw
  made : ∀ x, out.new = some x → x ≠ .raw

theorem loadN_congr {a : Addr} (h : M' a.block = M a.block) (n : Nat) : loadN C M' a n = loadN C M a n := by simp only [loadN, cellsAt, h]
theorem storeN_congr {a : Addr} (h : M' a.block = M a.block) (xs : List Value) : storeN M' a xs = storeN M a xs := by simp only [storeN, h]

theorem loadN_there {a : Addr} {n : Nat} {l : List Value} (h : loadN C M a n = some l) : M a.block ≠ none := by
  intro e
  simp [loadN, cellsAt, e] at h

theorem storeN_turns {a : Addr} {xs : List Value} {o : AObj} (h : storeN M a xs = some o) : M a.block ≠ none ∧ M a.block ≠ some .raw ∧ o ≠ .raw := by
  unfold storeN at h
  split at h
  · rename_i vs hM
    split at h
    · split at h
      · cases h; exact ⟨by simp [hM], by simp [hM], by simp⟩
      · cases h
    · cases h
  · cases h

/-- An outcome without memory. -/
theorem Local.dry {op : IOp} (h : ∀ M', evalOp C M' T nid op = some out) (h1 : out.rd = []) (h2 : out.put = none) (h3 : ∀ x, out.new = some x → x ≠ .raw) : Local C M T nid op out :=
  ⟨fun M' _ => h M', by simp [h1], by simp [h2], h3⟩

theorem srcCells_spec {esz n : Nat} {v : Value} {xs : List Value} {rd : List Nat} (h : srcCells C M esz n v = some (xs, rd)) :
    (∀ M', (∀ b ∈ rd, M' b = M b) → srcCells C M' esz n v = some (xs, rd)) ∧ ∀ b ∈ rd, M b ≠ none := by
  unfold srcCells at h
  split at h
  · rename_i b _ _
    split at h
    · cases h
      rename_i hn
      exact ⟨fun M' _ => by simp [srcCells, hn], by simp⟩
    · rename_i hn
      split at h
      · rename_i l hl
        cases h
        exact ⟨fun M' hM => by simp only [srcCells, if_neg hn, loadN_congr (hM b.block (by simp)), hl], by simpa using loadN_there hl⟩
      · cases h
  · split at h
    · cases h
      rename_i hn
      exact ⟨fun M' _ => by simp [srcCells, hn], by simp⟩
    · cases h
  · cases h
    exact ⟨fun M' _ => rfl, by simp⟩
  · cases h

theorem appendA_spec {esz bytes m : Nat} {s : Value} {xs : List Value} {rd : List Nat} (hrd : ∀ b ∈ rd, M b ≠ none) (h : appendA C M esz bytes s m xs rd nid = some out) :
    (∀ M', (∀ b ∈ out.rd, M' b = M b) → appendA C M' esz bytes s m xs rd nid = some out) ∧ (∀ b ∈ out.rd, M b ≠ none) ∧ (∀ b ∈ rd, b ∈ out.rd) ∧
    (∀ b x, out.put = some (b, x) → b ∈ out.rd ∧ M b ≠ some .raw ∧ x ≠ .raw) ∧ (∀ x, out.new = some x → x ≠ .raw) := by
  unfold appendA at h
  split at h
  case isFalse => cases h
  rename_i hc
  split at h
  · rename_i len cap
    split at h
    case isFalse => cases h
    rename_i h0
    split at h
    · cases h
      rename_i hm
      refine ⟨fun M' _ => ?_, hrd, fun b hb => hb, by simp, by simp⟩
      unfold appendA; rw [if_pos hc]; simp only [if_pos h0, if_pos hm]
    · rename_i hm
      split at h
      · cases h
        rename_i hr
        refine ⟨fun M' _ => ?_, hrd, fun b hb => hb, by simp, by simp⟩
        unfold appendA; rw [if_pos hc]; simp only [if_pos h0, if_neg hm, if_pos hr]
      · cases h
  · rename_i a len cap
    split at h
    · rename_i h0
      split at h
      · cases h
        rename_i hm
        refine ⟨fun M' _ => ?_, hrd, fun b hb => hb, by simp, by simp⟩
        unfold appendA; rw [if_pos hc]; simp only [if_pos h0, if_pos hm]
      · rename_i hm
        split at h
        · rename_i o ho
          cases h
          obtain ⟨t1, t2, t3⟩ := storeN_turns ho
          refine ⟨fun M' hM => ?_, fun b hb => ?_, fun b hb => List.mem_cons_of_mem _ hb, fun b x he => ?_, by simp⟩
          · unfold appendA; rw [if_pos hc]
            simp only [if_pos h0, if_neg hm]
            rw [storeN_congr (a := aadd a (len * esz)) (hM a.block (by simp)), ho]
          · rcases List.mem_cons.1 hb with rfl | hb
            · exact t1
            · exact hrd b hb
          · cases he; exact ⟨by simp, t2, t3⟩
        · cases h
    · rename_i h0
      split at h
      case isFalse => cases h
      rename_i hr
      split at h
      · rename_i hM
        split at h
        · rename_i old hold
          split at h
          · cases h
            rename_i hs
            refine ⟨fun M' hM' => ?_, fun b hb => ?_, fun b hb => List.mem_cons_of_mem _ hb, by simp, by simp⟩
            · have e := hM' a.block (by simp)
              unfold appendA; rw [if_pos hc]
              simp only [if_neg h0, if_pos hr, e, hM, loadN_congr e, hold, if_pos hs]
            · rcases List.mem_cons.1 hb with rfl | hb
              · simp [hM]
              · exact hrd b hb
          · cases h
        · cases h
      · rename_i vs hM
        split at h
        · rename_i v hv
          dsimp only at h
          split at h
          · cases h
            rename_i hs
            refine ⟨fun M' hM' => ?_, fun b hb => ?_, fun b hb => List.mem_cons_of_mem _ hb, fun b x he => ?_, by simp⟩
            · have e := hM' a.block (by simp)
              unfold appendA; rw [if_pos hc]
              simp only [if_neg h0, if_pos hr, e, hM, hv, if_pos hs]
            · rcases List.mem_cons.1 hb with rfl | hb
              · simp [hM]
              · exact hrd b hb
            · simp only [Option.some.injEq, Prod.mk.injEq] at he
              obtain ⟨rfl, rfl⟩ := he
              exact ⟨by simp, by simp [hM], by simp⟩
          · cases h
        · cases h
      · cases h
  · cases h

theorem evalOp_local {op : IOp} (h : evalOp C M T nid op = some out) : Local C M T nid op out := by
  cases op with
  | mv x | mkiface _ x => simp only [evalOp] at h; cases h; exact .dry (fun _ => rfl) rfl rfl (by simp)
  | mk _ | lenC _ | mkmap | mkfn _ _ _ => simp only [evalOp] at h; cases h; exact .dry (fun _ => rfl) rfl rfl (by simp)
  | call _ _ | bad => simp only [evalOp] at h; cases h
  | pick c a b => have h' := h; simp only [evalOp] at h; split at h <;> cases h; exact .dry (fun _ => h') rfl rfl (by simp)
  | box n x =>
    have h' := h; simp only [evalOp] at h
    split at h
    · split at h <;> cases h; exact .dry (fun _ => h') rfl rfl (by simp)
    · cases h
  | build z ps =>
    have h' := h; simp only [evalOp, Option.map_eq_some_iff] at h
    obtain ⟨_, _, rfl⟩ := h; exact .dry (fun _ => h') rfl rfl (by simp)
  | buildSlice l z ps =>
    have h' := h; simp only [evalOp] at h
    split at h
    · split at h <;> cases h; exact .dry (fun _ => h') rfl rfl (by simp)
    · cases h
  | nilCheck x => have h' := h; simp only [evalOp] at h; split at h <;> cases h <;> exact .dry (fun _ => h') rfl rfl (by simp)
  | bin k op x y => have h' := h; simp only [evalOp, Option.map_eq_some_iff] at h; obtain ⟨_, _, rfl⟩ := h; exact .dry (fun _ => h') rfl rfl (by simp)
  | not x | neg x | conv _ x | faddr _ x | len x | lenStr x => have h' := h; simp only [evalOp] at h; split at h <;> cases h; exact .dry (fun _ => h') rfl rfl (by simp)
  | field off n agg x =>
    have h' := h; simp only [evalOp] at h
    split at h
    · split at h
      · cases h; exact .dry (fun _ => h') rfl rfl (by simp)
      · simp only [Option.map_eq_some_iff] at h; obtain ⟨_, _, rfl⟩ := h; exact .dry (fun _ => h') rfl rfl (by simp)
    · cases h
  | idxS _ x i | idxA _ _ x i =>
    have h' := h; simp only [evalOp] at h
    split at h
    · split at h <;> cases h; exact .dry (fun _ => h') rfl rfl (by simp)
    · cases h
  | idxV _ _ agg x i =>
    have h' := h; simp only [evalOp] at h
    split at h
    · split at h
      · split at h
        · cases h; exact .dry (fun _ => h') rfl rfl (by simp)
        · simp only [Option.map_eq_some_iff] at h; obtain ⟨_, _, rfl⟩ := h; exact .dry (fun _ => h') rfl rfl (by simp)
      · cases h
    · cases h
  | idxStr x i =>
    have h' := h; simp only [evalOp] at h
    split at h
    · split at h
      · simp only [Option.map_eq_some_iff] at h; obtain ⟨_, _, rfl⟩ := h; exact .dry (fun _ => h') rfl rfl (by simp)
      · cases h
    · cases h
  | sliceA _ _ x lo hi mx =>
    have h' := h; simp only [evalOp] at h
    split at h
    · simp only [Option.map_eq_some_iff] at h; obtain ⟨_, _, rfl⟩ := h; exact .dry (fun _ => h') rfl rfl (by simp)
    · cases h
  | sliceStr x lo hi =>
    have h' := h; simp only [evalOp] at h
    split at h
    · simp only [Option.map_eq_some_iff] at h; obtain ⟨_, _, rfl⟩ := h; exact .dry (fun _ => h') rfl rfl (by simp)
    · cases h
  | minI x y | maxI x y => have h' := h; simp only [evalOp] at h; split at h <;> cases h; exact .dry (fun _ => h') rfl rfl (by simp)
  | extract k x =>
    have h' := h; simp only [evalOp] at h
    split at h
    · split at h
      · simp only [Option.map_eq_some_iff] at h; obtain ⟨_, _, rfl⟩ := h; exact .dry (fun _ => h') rfl rfl (by simp)
      · cases h
    · cases h
  | mkSlice _ _ n c =>
    have h' := h; simp only [evalOp] at h
    split at h
    · split at h <;> cases h; exact .dry (fun _ => h') rfl rfl (by simp)
    · cases h
  | load1 x =>
    simp only [evalOp] at h
    split at h
    · rename_i a ha
      split at h
      · rename_i v hl; cases h
        exact ⟨fun M' hM => by simp only [evalOp, ha]; rw [loadN_congr (hM a.block (by simp)), hl], by simpa using loadN_there hl, by simp, by simp⟩
      · cases h
    · cases h
  | loadN n x =>
    simp only [evalOp] at h
    split at h
    · rename_i a ha
      simp only [Option.map_eq_some_iff] at h
      obtain ⟨l, hl, rfl⟩ := h
      exact ⟨fun M' hM => by simp only [evalOp, ha]; rw [loadN_congr (hM a.block (by simp)), hl]; rfl, by simpa using loadN_there hl, by simp, by simp⟩
    · cases h
  | store n a x =>
    simp only [evalOp] at h
    split at h
    · rename_i a' cs ha hx
      split at h
      · rename_i hn
        split at h
        · rename_i o ho; cases h
          obtain ⟨t1, t2, t3⟩ := storeN_turns ho
          exact ⟨fun M' hM => by simp only [evalOp, ha, hx, if_pos hn]; rw [storeN_congr (hM a'.block (by simp)), ho], by simpa using t1, by simp [t2, t3], by simp⟩
        · cases h
      · cases h
    · cases h
  | toStr x =>
    have h' := h
    simp only [evalOp] at h
    split at h
    · rename_i hx; cases h; exact .dry (fun _ => by simp only [evalOp, hx]) rfl rfl (by simp)
    · rename_i a n _ hx
      split at h
      · cases h; rename_i hn; exact .dry (fun _ => by simp only [evalOp, hx, if_pos hn]) rfl rfl (by simp)
      · rename_i hn
        split at h
        · rename_i l hl
          have hl' := h
          simp only [Option.map_eq_some_iff] at h
          obtain ⟨bs, hb, rfl⟩ := h
          exact ⟨fun M' hM => by simp only [evalOp, hx, if_neg hn]; rw [loadN_congr (hM a.block (by simp)), hl]; simp only [hb, Option.map_some], by simpa using loadN_there hl, by simp, by simp⟩
        · cases h
    · cases h
  | sliceS esz x lo hi mx =>
    have h' := h
    simp only [evalOp] at h
    split at h
    · rename_i hx
      split at h
      · rename_i h0
        have h2 := h
        simp only [Option.map_eq_some_iff] at h; obtain ⟨_, _, rfl⟩ := h
        exact .dry (fun _ => by simp only [evalOp, hx, if_pos h0]; exact h2) rfl rfl (by simp)
      · cases h
    · rename_i a _ _ hx
      split at h
      · cases h
      · rename_i l hh m hb
        split at h
        · rename_i hM
          split at h
          · rename_i hs; cases h
            exact ⟨fun M' hM' => by have e := hM' a.block (by simp); simp only [evalOp, hx, hb, e, hM, hs, if_true], by simp [hM], by simp, by simp⟩
          · cases h
        · rename_i vs hM
          split at h
          · rename_i v hv
            split at h
            · rename_i hs; cases h
              exact ⟨fun M' hM' => by have e := hM' a.block (by simp); simp only [evalOp, hx, hb, e, hM, hv, if_pos hs], by simp [hM], by simp, by simp⟩
            · cases h
          · cases h
        · cases h
    · cases h
  | lenM x =>
    have h' := h
    simp only [evalOp] at h
    split at h
    · rename_i hx; cases h; exact .dry (fun _ => by simp only [evalOp, hx]) rfl rfl (by simp)
    · rename_i r hx
      split at h
      · rename_i es hM; cases h
        exact ⟨fun M' hM' => by have e := hM' r (by simp); simp only [evalOp, hx, e, hM], by simp [hM], by simp, by simp⟩
      · cases h
    · cases h
  | cap x =>
    simp only [evalOp] at h
    split at h
    · rename_i hx; cases h; exact .dry (fun _ => by simp only [evalOp, hx]) rfl rfl (by simp)
    · rename_i a _ _ hx
      split at h
      · rename_i hM
        split at h
        · rename_i hs; cases h
          exact ⟨fun M' hM' => by have e := hM' a.block (by simp); simp only [evalOp, hx, e, hM, hs, if_true], by simp [hM], by simp, by simp⟩
        · cases h
      · rename_i vs hM
        split at h
        · rename_i v hv
          split at h
          · rename_i hs; cases h
            exact ⟨fun M' hM' => by have e := hM' a.block (by simp); simp only [evalOp, hx, e, hM, hv, if_pos hs], by simp [hM], by simp, by simp⟩
          · cases h
        · cases h
      · cases h
    · cases h
  | append esz bytes s x =>
    simp only [evalOp] at h
    split at h
    · rename_i m hm
      split at h
      · rename_i xs rd hsrc
        obtain ⟨s1, s2⟩ := srcCells_spec hsrc
        obtain ⟨a1, a2, a3, a4, a5⟩ := appendA_spec s2 h
        exact ⟨fun M' hM => by simp only [evalOp, hm, s1 M' fun b hb => hM b (a3 b hb)]; exact a1 M' hM, a2, a4, a5⟩
      · cases h
    · cases h
  | appendZ bytes z s n =>
    simp only [evalOp] at h
    split at h
    · rename_i k i hn
      split at h
      · rename_i hi
        obtain ⟨a1, a2, a3, a4, a5⟩ := appendA_spec (by simp) h
        exact ⟨fun M' hM => by simp only [evalOp, hn, if_pos hi]; exact a1 M' hM, a2, a4, a5⟩
      · cases h
    · cases h
  | copy esz d s =>
    simp only [evalOp] at h
    split at h
    · rename_i base dl _ sl hd hs
      split at h
      · rename_i hn; cases h
        exact .dry (fun _ => by simp only [evalOp, hd, hs, if_pos hn]) rfl rfl (by simp)
      · rename_i hn
        split at h
        · rename_i a xs rd hsrc
          split at h
          · rename_i o ho
            split at h
            · rename_i hl; cases h
              obtain ⟨s1, s2⟩ := srcCells_spec hsrc
              obtain ⟨t1, t2, t3⟩ := storeN_turns ho
              refine ⟨fun M' hM => ?_, ?_, ?_, by simp⟩
              · simp only [evalOp, hd, hs, if_neg hn, s1 M' fun b hb => hM b (List.mem_cons_of_mem _ hb), storeN_congr (hM a.block (by simp)), ho, if_pos hl]
              · intro b hb
                rcases List.mem_cons.1 hb with rfl | hb
                · exact t1
                · exact s2 b hb
              · simp only [Option.some.injEq, Prod.mk.injEq]; rintro _ _ ⟨rfl, rfl⟩; exact ⟨by simp, t2, t3⟩
            · cases h
          · cases h
        · cases h
    · cases h
  | clear z x =>
    simp only [evalOp] at h
    split at h
    · rename_i hx; cases h; exact .dry (fun _ => by simp only [evalOp, hx]) rfl rfl (by simp)
    · rename_i a n _ hn0 hx
      split at h
      · rename_i o ho; cases h
        obtain ⟨t1, t2, t3⟩ := storeN_turns ho
        exact ⟨fun M' hM => by simp only [evalOp, hx]; rw [storeN_congr (hM a.block (by simp)), ho], by simpa using t1, by simp [t2, t3], by simp⟩
      · cases h
    · cases h
  | insert m k x =>
    simp only [evalOp] at h
    split at h
    · rename_i r hm
      split at h
      · rename_i es hM
        split at h
        · rename_i hk
          split at h
          · rename_i i v hf; cases h
            exact ⟨fun M' hM' => by have e := hM' r (by simp); simp only [evalOp, hm, e, hM, hk, if_true, hf], by simp [hM], by simp [hM], by simp⟩
          · rename_i hf; cases h
            exact ⟨fun M' hM' => by have e := hM' r (by simp); simp only [evalOp, hm, e, hM, hk, if_true, hf], by simp [hM], by simp [hM], by simp⟩
          · cases h
        · cases h
      · cases h
    · cases h
  | lookup z ok m k =>
    simp only [evalOp] at h
    split at h
    · rename_i r hm
      split at h
      · rename_i es hM
        split at h
        · rename_i hk
          split at h
          · rename_i i v hf; cases h
            exact ⟨fun M' hM' => by have e := hM' r (by simp); simp only [evalOp, hm, e, hM, hk, if_true, hf], by simp [hM], by simp, by simp⟩
          · rename_i hf; cases h
            exact ⟨fun M' hM' => by have e := hM' r (by simp); simp only [evalOp, hm, e, hM, hk, if_true, hf], by simp [hM], by simp, by simp⟩
          · cases h
        · cases h
      · cases h
    · cases h

end
end Go.Ai
