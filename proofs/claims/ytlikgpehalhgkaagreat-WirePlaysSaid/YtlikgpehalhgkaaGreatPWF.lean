/-
  Rows that can grow, wherever they begin; loops over functions.
  Ends at work: blocks have colours; who owns what, and what a step turns.
  An end at work sends a frame.
-/
import Derived.Test.YtlikgpehalhgkaaGreatPAiF
import Derived.Test.YtlikgpehalhgkaaGreatPWD
import Derived.Test.YtlikgpehalhgkaaGreatPWIr3
namespace Go.Ai

section
variable {C : Ctx} {H : AHeap} {T : Env} {d : Option Nat} {r : List IOper} {K : Env → AHeap → Prop}

/-- A row of the last version of an object. -/
def BufG (H : AHeap) (v : Value) (g esz n : Nat) (cs : List Value) : Prop :=
  ∃ k off c vs e all, v = .slice (some (mkAddr g k off)) n c ∧ H.get g = some (.cells vs) ∧ vs.length = k + 1 ∧ vs[k]? = some ⟨e, all⟩ ∧ ((e = 0 ∧ k = 0) ∨ (e = esz ∧ e ≠ 0)) ∧ off + c * esz ≤ all.length ∧ n ≤ c ∧ all.all scalar = true ∧ (all.drop off).take (n * esz) = cs

theorem Buf.g {v : Value} {g esz n : Nat} {cs : List Value} (h : Buf H v g esz n cs) : BufG H v g esz n cs := by
  obtain ⟨k, vs, e, h1, h2, h3, h4, h5, h6, h7⟩ := h
  exact ⟨k, 0, n, vs, e, cs, h1, h2, h3, h4, h5, by omega, Nat.le_refl _, h7, by rw [List.drop_zero, List.take_of_length_le (by omega)]⟩

theorem BufG.same {H' : AHeap} (hs : Same H H') {v : Value} {g esz n : Nat} {cs : List Value} (h : BufG H v g esz n cs) : BufG H' v g esz n cs := by
  obtain ⟨k, off, c, vs, e, all, h1, h2, h3⟩ := h
  exact ⟨k, off, c, vs, e, all, h1, by rw [hs.same g (get_lt hs.wf (by rw [h2]; simp))]; exact h2, h3⟩
theorem BufG.mod {g' : Nat} {H' : AHeap} (hm : Mod g' H H') {v : Value} {g esz n : Nat} {cs : List Value} (h : BufG H v g esz n cs) (hne : g ≠ g') : BufG H' v g esz n cs := by
  obtain ⟨k, off, c, vs, e, all, h1, h2, h3⟩ := h
  exact ⟨k, off, c, vs, e, all, h1, by rw [hm.same g (get_lt hm.wf (by rw [h2]; simp)) hne]; exact h2, h3⟩
theorem BufG.lt (hw : WF H) {v : Value} {g esz n : Nat} {cs : List Value} (h : BufG H v g esz n cs) : g < H.next := by
  obtain ⟨k, off, c, vs, e, all, _, hg, _⟩ := h
  exact get_lt hw (by rw [hg]; simp)

theorem BufG.load {v : Value} {g esz n : Nat} {cs : List Value} (h : BufG H v g esz n cs) : ∃ a c, v = .slice (some a) n c ∧ n ≤ c ∧ a.block = g ∧ cs.length = n * esz ∧ loadN C H.get a (n * esz) = some cs := by
  obtain ⟨k, off, c, vs, e, all, rfl, hg, hl, hk, he, hlen, hn, hs, rfl⟩ := h
  have hle : n * esz ≤ c * esz := Nat.mul_le_mul_right _ hn
  refine ⟨_, c, rfl, hn, rfl, by rw [List.length_take, List.length_drop]; omega, ?_⟩
  unfold loadN cellsAt
  rw [block_mkAddr, hg, ver_mkAddr]
  dsimp only
  rw [hk]
  dsimp only
  rw [off_mkAddr, List.length_drop, if_pos (by omega)]

theorem BufG.row {v : Value} {g esz n : Nat} {cs : List Value} (h : BufG H v g esz n cs) : Row C H v esz n cs := by
  obtain ⟨a, c, h1, _, _, h3, h4⟩ := h.load (C := C)
  exact ⟨h3, some a, c, h1, by simp, fun b hb _ => by cases hb; exact h4⟩

theorem setVer_get {vs : List AVer} {k e : Nat} {cs c : List Value} (h : vs[k]? = some ⟨e, cs⟩) : (setVer vs k c)[k]? = some ⟨e, c⟩ := by
  induction vs generalizing k with
  | nil => simp at h
  | cons v r ih =>
    cases k with
    | zero => simp at h; subst h; simp [setVer]
    | succ k => simp at h; simpa [setVer] using ih h

/-- A store into such a row. -/
theorem storeN_bufG {a : Addr} {g esz m c i : Nat} {cs xs : List Value} (hb : BufG H (.slice (some a) m c) g esz m cs) (h0 : xs.length ≠ 0) (hl : i + xs.length ≤ c * esz) (hs : xs.all scalar = true) :
    ∃ vs vs', H.get g = some (.cells vs) ∧ a.block = g ∧ storeN H.get (aadd a i) xs = some (.cells vs') ∧ ∀ (H' : AHeap) (m' : Nat), m' ≤ c → H'.get g = some (.cells vs') →
      ∃ all : List Value, c * esz ≤ all.length ∧ cs = all.take (m * esz) ∧ BufG H' (.slice (some a) m' c) g esz m' ((all.take i ++ (xs ++ all.drop (i + xs.length))).take (m' * esz)) := by
  obtain ⟨k, off, c', vs, e, all, he, hg, hlen, hk, h1, h2, h3, h4, h5⟩ := hb
  cases he
  refine ⟨vs, setVer vs k (all.take (off + i) ++ (xs ++ all.drop (off + i + xs.length))), hg, rfl, ?_, ?_⟩
  · unfold storeN
    have e1 : (aadd (mkAddr g k off) i).block = g := rfl
    have e2 : ver (aadd (mkAddr g k off) i) = k := ver_mkAddr g k _
    have e3 : (aadd (mkAddr g k off) i).off = off + i := by simp [aadd, off_mkAddr]
    simp only [e1, e2, e3, hg, hk]
    rw [if_pos ⟨h0, by omega, hs⟩]
  · intro H' m' hm' hg'
    refine ⟨all.drop off, by rw [List.length_drop]; omega, h5.symm, k, off, c, _, e, _, rfl, hg', by rw [length_setVer]; exact hlen, setVer_get hk, h1, ?_, hm', ?_, ?_⟩
    · simp only [List.length_append, List.length_take, List.length_drop]
      omega
    · simp only [List.all_append, hs, Bool.true_and, Bool.and_eq_true]
      simp only [List.all_eq_true] at h4 ⊢
      exact ⟨fun x hx => h4 x (List.mem_of_mem_take hx), fun x hx => h4 x (List.mem_of_mem_drop hx)⟩
    · congr 1
      rw [List.drop_append_of_le_length (by rw [List.length_take]; omega), List.drop_take, List.drop_drop]
      rw [show off + i - off = i from by omega, show off + (i + xs.length) = off + i + xs.length from by omega]

/-- What 'append' does to such a row. -/
theorem appendA_bufG {s : Value} {g esz n m bytes : Nat} {cs xs : List Value} {rd : List Nat} {nid : Nat} (hw : WF H) (hb : BufG H s g esz n cs) (he0 : 1 ≤ esz) (hx : xs.length = m * esz) (hs : xs.all scalar = true) (hr : roomy (n + m) bytes = true) :
    ∃ v put rd', appendA C H.get esz bytes s m xs rd nid = some ⟨v, put, none, rd'⟩ ∧ BufG (H.apply ⟨v, put, none, rd'⟩) v g esz (n + m) (cs ++ xs) ∧ Mod g H (H.apply ⟨v, put, none, rd'⟩) ∧ (∀ b x, put = some (b, x) → b = g) := by
  obtain ⟨k, off, c, vs, e, all, rfl, hg, hl, hk, he, hlen, hnc, hsc, rfl⟩ := id hb
  have hle : n * esz ≤ c * esz := Nat.mul_le_mul_right _ hnc
  by_cases hm : m = 0
  · subst hm
    have hxs : xs = [] := by simpa using hx
    subst hxs
    have hap : appendA C H.get esz bytes (.slice (some (mkAddr g k off)) n c) 0 [] rd nid = some ⟨.slice (some (mkAddr g k off)) n c, none, none, rd⟩ := by
      unfold appendA
      rw [if_pos ⟨hx, hs⟩]
      by_cases h : n + 0 ≤ c
      · simp [hnc]
      · omega
    refine ⟨_, none, rd, hap, by simpa using hb, (Same.refl hw).mod, by simp⟩
  · have hm1 : m * esz ≠ 0 := by
      have := Nat.mul_pos (by omega : 0 < m) he0
      omega
    by_cases hroom : n + m ≤ c
    · have hle2 : n * esz + m * esz ≤ c * esz := by rw [← Nat.add_mul]; exact Nat.mul_le_mul_right _ hroom
      obtain ⟨vs0, vs', hg0, _, hst, hafter⟩ := storeN_bufG (i := n * esz) (xs := xs) hb (by omega) (by omega) hs
      rw [hg] at hg0
      cases hg0
      refine ⟨.slice (some (mkAddr g k off)) (n + m) c, some (g, .cells vs'), g :: rd, ?_, ?_, Mod.put hw _ hg, ?_⟩
      · unfold appendA
        rw [if_pos ⟨hx, hs⟩]
        dsimp only
        rw [if_pos hroom, if_neg hm, hst]
        rfl
      · obtain ⟨all', h1, h2, h3⟩ := hafter (H.put g (.cells vs')) (n + m) hroom (get_put_same _ (base_le_of hg (by simp)))
        have e1 : (all'.take (n * esz) ++ (xs ++ all'.drop (n * esz + xs.length))).take ((n + m) * esz) = (all.drop off).take (n * esz) ++ xs := by
          rw [h2, List.take_append, List.length_take, List.take_append, Nat.add_mul, List.take_take]
          rw [Nat.min_eq_left (by omega : n * esz ≤ all'.length), show n * esz + m * esz - n * esz = m * esz from by omega, List.take_of_length_le (by omega : xs.length ≤ m * esz), hx, Nat.sub_self, List.take_zero, List.append_nil]
          congr 2
          omega
        rw [e1] at h3
        exact h3
      · rintro b x h; cases h; rfl
    · refine ⟨.slice (some (mkAddr g vs.length 0)) (n + m) (n + m), some (g, .cells ((if off + n * esz = all.length ∧ all ≠ [] then killAfter vs k else setVer vs k (all.take (off + n * esz))) ++ [⟨esz, (all.drop off).take (n * esz) ++ xs⟩])), g :: rd, ?_, ?_, Mod.put hw _ hg, ?_⟩
      · unfold appendA
        rw [if_pos ⟨hx, hs⟩]
        dsimp only
        rw [if_neg hroom, if_pos hr, block_mkAddr, hg]
        dsimp only
        rw [ver_mkAddr, hk]
        dsimp only
        rw [if_neg (not_exact he)]
        have hall : ((all.drop off).take (n * esz)).all scalar = true := by
          rw [List.all_eq_true] at hsc ⊢
          exact fun x hx => hsc x (List.mem_of_mem_drop (List.mem_of_mem_take hx))
        rw [off_mkAddr, if_pos ⟨either_esz he, by omega, hall⟩]
      · refine Buf.g ⟨vs.length, _, esz, rfl, get_put_same _ (base_le_of hg (by simp)), ?_, ?_, .inr ⟨rfl, by omega⟩, ?_, ?_⟩
        · split <;> simp [length_killAfter, length_setVer]
        · split
          · rw [List.getElem?_append_right (by simp [length_killAfter])]; simp [length_killAfter]
          · rw [List.getElem?_append_right (by simp [length_setVer])]; simp [length_setVer]
        · rw [List.length_append, List.length_take, List.length_drop, hx, Nat.add_mul]
          omega
        · rw [List.all_append, hs, Bool.and_true]
          rw [List.all_eq_true] at hsc ⊢
          exact fun x hx => hsc x (List.mem_of_mem_drop (List.mem_of_mem_take hx))
      · rintro b x h; cases h; rfl

theorem w_appG {esz bytes g n m : Nat} {s x : IOpd} {cs xs : List Value} (hw : WF H) (hb : BufG H (s.val T.val) g esz n cs) (he0 : 1 ≤ esz) (hx : Row C H (x.val T.val) esz m xs) (hs : xs.all scalar = true) (hr : roomy (n + m) bytes = true)
    (hk : ∀ v H', Mod g H H' → BufG H' v g esz (n + m) (cs ++ xs) → wpO C r K (putDst T d v) H') : wpO C (⟨d, .append esz bytes s x, none⟩ :: r) K T H := by
  rw [wpO_append]
  obtain ⟨rd, h1, h2, _⟩ := hx.src
  obtain ⟨v, put, rd', h3, h4, h5, _⟩ := appendA_bufG (C := C) (bytes := bytes) (rd := rd) (nid := H.next) hw hb he0 hx.1 hs hr
  have : evalOp C H.get T.val H.next (.append esz bytes s x) = some ⟨v, put, none, rd'⟩ := by
    simp only [evalOp, h2, h1]
    exact h3
  rw [this]
  exact hk v _ h5 h4

theorem d_appG {rd : List (Nat × IOper × List Nat)} {log : List Info} {i : Nat} {un : List Nat} {esz bytes g n m : Nat} {s x : IOpd} {cs xs : List Value} (hw : WF H) (hb : BufG H (s.val T.val) g esz n cs) (he0 : 1 ≤ esz) (hx : Row C H (x.val T.val) esz m xs) (hs : xs.all scalar = true) (hr : roomy (n + m) bytes = true)
    (hf : ∀ rd' md, (∀ x ∈ md, x = g) → freeAll C log (.exp rd' md) un = true)
    (hk : ∀ v H' rd' md, Mod g H H' → BufG H' v g esz (n + m) (cs ++ xs) → (∀ x ∈ md, x = g) → wpD C rd (.exp rd' md :: log) K (putDst T d v) H') : wpD C ((i, ⟨d, .append esz bytes s x, none⟩, un) :: rd) log K T H := by
  rw [wpD_append]
  obtain ⟨rd0, h1, h2, _⟩ := hx.src
  obtain ⟨v, put, rd', h3, h4, h5, h6⟩ := appendA_bufG (C := C) (bytes := bytes) (rd := rd0) (nid := H.next) hw hb he0 hx.1 hs hr
  have : evalOp C H.get T.val H.next (.append esz bytes s x) = some ⟨v, put, none, rd'⟩ := by
    simp only [evalOp, h2, h1]
    exact h3
  rw [this]
  simp only [bindO_some, opKD_eq]
  have hmd : ∀ x ∈ AOut.mods ⟨v, put, none, rd'⟩ H.next, x = g := by
    intro x hx
    cases put with
    | none => simp [AOut.mods] at hx
    | some p =>
      obtain ⟨b, o⟩ := p
      simp [AOut.mods] at hx
      rw [hx]
      exact h6 b o rfl
  rw [hf _ _ hmd]
  exact hk v _ _ _ h5 h4 hmd
end

/-! ### loops over functions -/
section
variable {C : Ctx}

theorem wpC_range {f : IOpd} {ps : List Nat} {assign body : ICode} {Q : AExit → St → Prop} {s : St} (hf : isFn (f.val s.T.val) = true)
    (h : wpCall C (f.val s.T.val) [.func (.yield (s.H.next + 1)) #[] #[]] ((s.H.push (.deferred true)).push (.loop { state := .ready, pending := none, T := s.T, params := ps, assign, body })) fun _ H3 =>
      ∃ L, H3.get (s.H.next + 1) = some (.loop L) ∧ L.state ≠ .busy ∧ Q (L.pending.getD .normal) ⟨s.T, H3.put (s.H.next + 1) (.loop { L with state := .exhausted }), s.H.next :: s.ds⟩) : wpC C none (.rangeFunc f ps assign body) Q s := by
  unfold wpC
  simp only [codeA, hf, inLoop, Bool.and_self]
  unfold wpCall at h
  dsimp only [next_push] at h ⊢
  cases hc : (fixO C).call (f.val s.T.val) [.func (.yield (s.H.next + 1)) #[] #[]] ((s.H.push (.deferred true)).push (.loop { state := .ready, pending := none, T := s.T, params := ps, assign, body })) with
  | none => rw [hc] at h; exact h.elim
  | some r =>
    rw [hc] at h
    obtain ⟨v, H3⟩ := r
    obtain ⟨L, h1, h2, h3⟩ := h
    dsimp only at h1 h2 h3 ⊢
    rw [h1]
    dsimp only
    rw [if_neg h2]
    exact h3

/-- The same, with a name for the loop. -/
theorem wpC_range' {f : IOpd} {ps : List Nat} {assign body : ICode} {Q : AExit → St → Prop} {s : St} (hf : isFn (f.val s.T.val) = true)
    (h : ∀ L0 : ALoop, L0.state = .ready → L0.pending = none → L0.T = s.T → L0.params = ps → L0.assign = assign → L0.body = body → wpCall C (f.val s.T.val) [.func (.yield (s.H.next + 1)) #[] #[]] ((s.H.push (.deferred true)).push (.loop L0)) fun _ H3 =>
      ∃ L, H3.get (s.H.next + 1) = some (.loop L) ∧ L.state ≠ .busy ∧ Q (L.pending.getD .normal) ⟨s.T, H3.put (s.H.next + 1) (.loop { L with state := .exhausted }), s.H.next :: s.ds⟩) : wpC C none (.rangeFunc f ps assign body) Q s :=
  wpC_range hf (h _ rfl rfl rfl rfl rfl rfl)

theorem wpCall_yield {l : Nat} {args : List Value} {H : AHeap} {L : ALoop} {K : Value → AHeap → Prop} (hl : H.get l = some (.loop L)) (hr : L.state = .ready) (hn : args.length = L.params.length)
    (h : wpC C (some l) L.assign (fun e s => e = .normal ∧ ∃ L', s.H.get l = some (.loop L') ∧ L'.state = .ready ∧
      wpC C (some l) L.body (fun e' s' => ∃ v H', endRound l e' s' = some (v, H') ∧ K v H') ⟨s.T, s.H.put l (.loop { L' with state := .busy }), s.ds⟩) ⟨setParams L.T L.params args, H, []⟩) : wpCall C (.func (.yield l) #[] #[]) args H K := by
  unfold wpC at h
  have key : ∃ r, callA C (fixO C) (.func (.yield l) #[] #[]) args H = some r ∧ K r.1 r.2 := by
    unfold callA
    dsimp only
    rw [if_pos (by rfl)]
    unfold callYield
    rw [hl]
    dsimp only
    rw [if_pos ⟨hr, hn⟩]
    cases hc : codeA C (fixO C) (some l) L.assign ⟨setParams L.T L.params args, H, []⟩ with
    | none => rw [hc] at h; exact h.elim
    | some r =>
      rw [hc] at h
      obtain ⟨e, s⟩ := r
      obtain ⟨rfl, L', h1, h2, h3⟩ := h
      dsimp only at h1 h2 h3 ⊢
      rw [if_pos rfl]
      unfold bodyRound
      rw [h1]
      dsimp only
      rw [if_pos h2]
      cases hc2 : codeA C (fixO C) (some l) L.body ⟨s.T, s.H.put l (.loop { L' with state := .busy }), s.ds⟩ with
      | none => rw [hc2] at h3; exact h3.elim
      | some r2 =>
        rw [hc2] at h3
        obtain ⟨e2, s2⟩ := r2
        obtain ⟨v, H', h4, h5⟩ := h3
        dsimp only at h4 h5 ⊢
        exact ⟨(v, H'), h4, h5⟩
  obtain ⟨r, h1, h2⟩ := key
  unfold wpCall
  rw [fix_callA h1]
  exact h2

theorem finK_ret1 {rs : List IRes} {K : Value → AHeap → Prop} {T : Env} {H : AHeap} {dd : Nat} (hd : H.get dd = some (.deferred true)) :
    finK C rs K .ret ⟨T, H, [dd]⟩ ↔ bindO (resAll C T.val (H.put dd (.deferred false)).get rs) fun vs => K (oneOrTuple vs) (H.put dd (.deferred false)) := by
  unfold finK
  simp only [shut, hd, bindO_some]
/-- Any object that is no old one can be turned. -/
theorem Mod.put' {H : AHeap} (h : WF H) {b : Nat} {x : AObj} (o : AObj) (hb : H.get b = some x) (hx : x ≠ .raw) : Mod b H (H.put b o) :=
  ⟨h, (put_spec o h hb hx).1, fun c _ hc => get_put_other o (base_le_of hb hx) hc⟩
end
end Go.Ai

namespace Go.Ai

section
variable {C : Ctx} {H : AHeap} {T : Env} {d : Option Nat} {r : List IOper} {K : Env → AHeap → Prop}

/-- Nothing, or a row that can grow. -/
def NG (H : AHeap) (v : Value) (g esz n : Nat) (cs : List Value) : Prop := (v = .slice none 0 0 ∧ n = 0 ∧ cs = []) ∨ BufG H v g esz n cs

/-- How a row has grown: in a new object, or its own one has turned. -/
def GrownG (H H' : AHeap) (v : Value) (g g' : Nat) : Prop := (v = .slice none 0 0 ∧ g' = H.next ∧ Same H H') ∨ (v ≠ .slice none 0 0 ∧ g' = g ∧ g < H.next ∧ Mod g H H')

theorem BufG.nn {H : AHeap} {v : Value} {g esz n : Nat} {cs : List Value} (h : BufG H v g esz n cs) : v ≠ .slice none 0 0 := by
  obtain ⟨k, off, c, vs, e, all, rfl, _⟩ := h
  simp

theorem w_appW {esz bytes g n m : Nat} {s x : IOpd} {cs xs : List Value} (hw : WF H) (hb : NG H (s.val T.val) g esz n cs) (he : 1 ≤ esz) (hx : Row C H (x.val T.val) esz m xs) (hm : m ≠ 0) (hs : xs.all scalar = true) (hr : roomy (n + m) bytes = true)
    (hk : ∀ v H' g', GrownG H H' (s.val T.val) g g' → BufG H' v g' esz (n + m) (cs ++ xs) → wpO C r K (putDst T d v) H') : wpO C (⟨d, .append esz bytes s x, none⟩ :: r) K T H := by
  rcases hb with ⟨h1, rfl, rfl⟩ | hb
  · exact w_app0 hw h1 hx hm hs (by simpa using hr) fun v H' hs' hb' => hk v H' _ (.inl ⟨h1, rfl, hs'⟩) (by simpa using hb'.g)
  · exact w_appG hw hb he hx hs hr fun v H' hm' hb' => hk v H' _ (.inr ⟨hb.nn, rfl, hb.lt hw, hm'⟩) hb'

theorem d_appW {rd : List (Nat × IOper × List Nat)} {log : List Info} {i : Nat} {un : List Nat} {esz bytes g n m : Nat} {s x : IOpd} {cs xs : List Value} (hw : WF H) (hb : NG H (s.val T.val) g esz n cs) (he : 1 ≤ esz) (hx : Row C H (x.val T.val) esz m xs) (hm : m ≠ 0) (hs : xs.all scalar = true) (hr : roomy (n + m) bytes = true)
    (hf : ∀ rd' md, freeAll C log (.exp rd' md) un = true)
    (hk : ∀ v H' rd' md g', GrownG H H' (s.val T.val) g g' → BufG H' v g' esz (n + m) (cs ++ xs) → wpD C rd (.exp rd' md :: log) K (putDst T d v) H') : wpD C ((i, ⟨d, .append esz bytes s x, none⟩, un) :: rd) log K T H := by
  rcases hb with ⟨h0, rfl, rfl⟩ | hb
  · refine d_appN (g := g) hw (.inl ⟨h0, rfl, rfl⟩) hx hm hs hr hf fun v H' rd' md g' hg hb' => hk v H' rd' md g' ?_ hb'.g
    rcases hg with ⟨_, h1, h2⟩ | ⟨h, _⟩
    · exact .inl ⟨h0, h1, h2⟩
    · exact absurd rfl h
  · exact d_appG hw hb he hx hs hr (fun rd' md _ => hf rd' md) fun v H' rd' md hm' hb' _ => hk v H' rd' md _ (.inr ⟨hb.nn, rfl, hb.lt hw, hm'⟩) hb'
end
end Go.Ai
namespace Go.Ai.Wire
open Go.Proofs Go.IntWalk
attribute [local irreducible] Trie.put

/-- What is not there yet has no colour. -/
def Bare (col : Nat → Nat) (H : AHeap) : Prop := ∀ b, H.next ≤ b → col b = 0

/-- What a step turns: objects of some colours. -/
structure Step (A : List Nat) (H : AHeap) (col : Nat → Nat) (H' : AHeap) (col' : Nat → Nat) : Prop where
  wf : WF H
  grow : Grow H H'
  bare : Bare col' H'
  keep : ∀ b, b < H.next → col' b = col b
  same : ∀ b, b < H.next → col b ∉ A → H'.get b = H.get b

theorem Step.wf' {A : List Nat} {H H' : AHeap} {col col' : Nat → Nat} (h : Step A H col H' col') : WF H' := h.grow.wf h.wf
theorem Step.of_same {A : List Nat} {H H' : AHeap} {col : Nat → Nat} (h : Same H H') (hb : Bare col H) : Step A H col H' col :=
  ⟨h.wf, h.grow, fun b hb' => hb b (Nat.le_trans h.grow.next hb'), fun _ _ => rfl, fun b hb' _ => h.same b hb'⟩
theorem Step.of_mod {A : List Nat} {H H' : AHeap} {col : Nat → Nat} {g : Nat} (h : Mod g H H') (hb : Bare col H) (hg : col g ∈ A) : Step A H col H' col :=
  ⟨h.wf, h.grow, fun b hb' => hb b (Nat.le_trans h.grow.next hb'), fun _ _ => rfl, fun b hb' hn => h.same b hb' fun e => hn (e ▸ hg)⟩
theorem Step.trans {A : List Nat} {H H1 H2 : AHeap} {c c1 c2 : Nat → Nat} (h : Step A H c H1 c1) (k : Step A H1 c1 H2 c2) : Step A H c H2 c2 :=
  ⟨h.wf, h.grow.trans k.grow, k.bare, fun b hb => (k.keep b (Nat.lt_of_lt_of_le hb h.grow.next)).trans (h.keep b hb),
    fun b hb hn => (k.same b (Nat.lt_of_lt_of_le hb h.grow.next) (by rw [h.keep b hb]; exact hn)).trans (h.same b hb hn)⟩
theorem Step.more {A B : List Nat} {H H1 : AHeap} {c c1 : Nat → Nat} (h : Step A H c H1 c1) (hs : ∀ x ∈ A, x ∈ B) : Step B H c H1 c1 := ⟨h.wf, h.grow, h.bare, h.keep, fun b hb hn => h.same b hb fun hx => hn (hs _ hx)⟩

/-- A colour for what comes next. -/
def paint (col : Nat → Nat) (g k : Nat) : Nat → Nat := fun b => if b = g then k else col b

theorem Step.of_made {A : List Nat} {H H' : AHeap} {col : Nat → Nat} (h : Same H H') (hb : Bare col H) {g k : Nat} (hg : H.next ≤ g) (hg' : g < H'.next) : Step A H col H' (paint col g k) := by
  refine ⟨h.wf, h.grow, fun b hb' => ?_, fun b hb' => ?_, fun b hb' _ => h.same b hb'⟩
  · unfold paint
    rw [if_neg (by omega)]
    exact hb b (Nat.le_trans h.grow.next hb')
  · unfold paint
    rw [if_neg (by omega)]

section
variable {C : Ctx} {H H' : AHeap} {col col' : Nat → Nat} {A : List Nat}

/-- All that is pointed at has no colour. -/
def Plain (col : Nat → Nat) (cs : List Value) : Prop := ∀ v ∈ cs, ∀ a n c, v = .slice (some a) n c → n ≠ 0 → col a.block = 0

theorem Bs.stepA (hs : Step A H col H' col') {v : Value} {bs : List UInt8} (h : Bs C H v bs) (hp : ∀ a n c, v = .slice (some a) n c → n ≠ 0 → col a.block ∉ A) : Bs C H' v bs := by
  obtain ⟨h1, a, c, rfl, h3, h4⟩ := h
  refine ⟨h1, a, c, rfl, h3, fun b hb hm => ?_⟩
  subst hb
  have hl := h4 b rfl hm
  have hlt := load_lt hs.wf hl
  rw [loadN_congr (M := H.get) (hs.same _ hlt (hp b _ _ rfl hm))]
  exact hl

theorem Bs.step (hs : Step A H col H' col') (h0 : 0 ∉ A) {v : Value} {bs : List UInt8} (h : Bs C H v bs) (hp : ∀ a n c, v = .slice (some a) n c → n ≠ 0 → col a.block = 0) : Bs C H' v bs := by
  obtain ⟨h1, a, c, rfl, h3, h4⟩ := h
  refine ⟨h1, a, c, rfl, h3, fun b hb hm => ?_⟩
  subst hb
  have hl := h4 b rfl hm
  have hlt := load_lt hs.wf hl
  rw [loadN_congr (M := H.get) (hs.same _ hlt (by rw [hp b _ _ rfl hm]; exact h0))]
  exact hl

theorem ItC.step (hs : Step A H col H' col') (h0 : 0 ∉ A) {l : List Itm} {cs : List Value} (h : ItC C H l cs) (hp : Plain col cs) : ItC C H' l cs := by
  induction h with
  | nil => exact .nil
  | cons h1 _ ih =>
    refine .cons (Bs.step hs h0 h1 (hp _ (by simp))) (ih fun v hv => hp v ?_)
    simp [hv]

theorem Obj1.step (hs : Step A H col H' col') {p : Nat} {cs : List Value} (h : Obj1 H p cs) (hp : col p ∉ A) : Obj1 H' p cs := by
  obtain ⟨e, h⟩ := h
  exact ⟨e, by rw [hs.same p (get_lt hs.wf (by rw [h]; simp)) hp]; exact h⟩

/-- Frames with their numbers at work, in a row of some colour. -/
def WIts (C : Ctx) (H : AHeap) (col : Nat → Nat) (k : Nat) (v : Value) (l : List Itm) : Prop :=
  ∃ g cs, NG H v g 2 l.length cs ∧ (v ≠ .slice none 0 0 → col g = k) ∧ ItC C H l cs ∧ Plain col cs

theorem WIts.its {k : Nat} {v : Value} {l : List Itm} (h : WIts C H col k v l) : Its C H v l := by
  obtain ⟨g, cs, k1, k2, k3, k4⟩ := h
  rcases k1 with ⟨rfl, hn, rfl⟩ | hb
  · have : l = [] := List.length_eq_zero_iff.1 hn
    subst this
    exact Its.nil C H
  · exact ⟨cs, k3, hb.row⟩
theorem WIts.val {k : Nat} {v : Value} {l : List Itm} (h : WIts C H col k v l) : ∃ a c, v = .slice a l.length c := h.its.val

theorem Plain.keep (hs : Step A H col H' col') {l : List Itm} {cs : List Value} (h : ItC C H l cs) (hp : Plain col cs) : Plain col' cs := by
  induction h with
  | nil => exact fun v hv => by cases hv
  | @cons n d v l cs h1 _ ih =>
    intro u hu a m c he hm
    simp only [List.mem_cons] at hu
    rcases hu with rfl | rfl | hu
    · cases he
    · obtain ⟨_, a', c', he', _, h4⟩ := h1
      rw [he] at he'
      cases he'
      rw [hs.keep _ (load_lt hs.wf (h4 a rfl hm))]
      exact hp _ (by simp) a _ _ he hm
    · exact ih (fun v hv => hp v (by simp [hv])) u hu a m c he hm

theorem WIts.step (hs : Step A H col H' col') (h0 : 0 ∉ A) {k : Nat} (hk : k ∉ A) {v : Value} {l : List Itm} (h : WIts C H col k v l) : WIts C H' col' k v l := by
  obtain ⟨g, cs, k1, k2, k3, k4⟩ := h
  refine ⟨g, cs, ?_, ?_, k3.step hs h0 k4, Plain.keep hs k3 k4⟩
  · rcases k1 with h | hb
    · exact .inl h
    · have hv : v ≠ .slice none 0 0 := by
        obtain ⟨a, c, h, _⟩ := hb.load (C := C)
        rw [h]
        simp
      have hlt := hb.lt hs.wf
      obtain ⟨k', off, c, vs, e, all, h1, h2, h3⟩ := hb
      exact .inr ⟨k', off, c, vs, e, all, h1, by rw [hs.same g hlt (by rw [k2 hv]; exact hk)]; exact h2, h3⟩
  · intro hv
    rcases k1 with h | hb
    · exact absurd h.1 hv
    · rw [hs.keep g (hb.lt hs.wf)]
      exact k2 hv

/-- One more. -/
theorem WIts.snoc {H2 H3 : AHeap} {g g' k : Nat} {v v' : Value} {l : List Itm} {cs : List Value} {n : Int} {d : List UInt8} {da : Option Addr} {dc : Nat} (hw2 : WF H2) (hb2 : Bare col H2) (k0 : k ≠ 0) (k2 : v ≠ .slice none 0 0 → col g = k) (k3 : ItC C H2 l cs) (k4 : Plain col cs)
    (hd : Bs C H2 (.slice da d.length dc) d) (hdp : ∀ b, da = some b → d.length ≠ 0 → col b.block = 0) (hg : GrownG H2 H3 v g g') (hb : BufG H3 v' g' 2 (l.length + 1) (cs ++ [.int .i64 n, .slice da d.length dc])) :
    ∃ col3, Step [k] H2 col H3 col3 ∧ WIts C H3 col3 k v' (l ++ [(n, d)]) := by
  have hp : Plain col (cs ++ [.int .i64 n, .slice da d.length dc]) := by
    intro u hu a m c he hm
    rw [List.mem_append] at hu
    rcases hu with hu | hu
    · exact k4 u hu a m c he hm
    · simp only [List.mem_cons, List.not_mem_nil, or_false] at hu
      rcases hu with hu | hu
      · rw [hu] at he; cases he
      · rw [hu] at he
        cases he
        exact hdp a rfl hm
  have hit : ItC C H2 (l ++ [(n, d)]) (cs ++ [.int .i64 n, .slice da d.length dc]) := k3.app (.cons hd .nil)
  rcases hg with ⟨hvn, rfl, hs⟩ | ⟨hvn, rfl, hlt, hm⟩
  · have hgl := hb.lt hs.wf'
    have st : Step [k] H2 col H3 (paint col H2.next k) := Step.of_made hs hb2 (Nat.le_refl _) hgl
    exact ⟨_, st, H2.next, _, .inr (by simpa using hb), fun _ => by simp [paint], hit.same hs, Plain.keep st hit hp⟩
  · have st : Step [k] H2 col H3 col := Step.of_mod hm hb2 (by rw [k2 hvn]; simp)
    exact ⟨col, st, g', _, .inr (by simpa using hb), fun _ => k2 hvn, hit.step st (by simp; omega) hp, hp⟩
end
end Go.Ai.Wire

namespace Go.Ai.Wire
open Go.Proofs Go.IntWalk
attribute [local irreducible] Trie.put

/-- An end at work, of three colours. -/
def WEnd (C : Ctx) (H : AHeap) (col : Nat → Nat) (k q : Nat) (x : EndA) : Prop :=
  ∃ ov ev, Obj1 H q [.int .i64 x.last, ov, .int .i64 x.got, ev] ∧ col q = k ∧ WIts C H col (k + 1) ov x.opens ∧ WIts C H col (k + 2) ev x.early

theorem WEnd.step {C : Ctx} {H H' : AHeap} {col col' : Nat → Nat} {A : List Nat} (hs : Step A H col H' col') (h0 : 0 ∉ A) {k q : Nat} {x : EndA} (hk : k ∉ A ∧ k + 1 ∉ A ∧ k + 2 ∉ A) (h : WEnd C H col k q x) : WEnd C H' col' k q x := by
  obtain ⟨ov, ev, h1, h2, h3, h4⟩ := h
  refine ⟨ov, ev, Obj1.step hs h1 (by rw [h2]; exact hk.1), ?_, h3.step hs h0 hk.2.1, h4.step hs h0 hk.2.2⟩
  rw [hs.keep q (h1.lt hs.wf)]
  exact h2

theorem WEnd.r {C : Ctx} {H : AHeap} {col : Nat → Nat} {k q : Nat} {x : EndA} (h : WEnd C H col k q x) : ∃ ov ev, Obj1 H q [.int .i64 x.last, ov, .int .i64 x.got, ev] ∧ Its C H ov x.opens ∧ Its C H ev x.early := by
  obtain ⟨ov, ev, h1, _, h3, h4⟩ := h
  exact ⟨ov, ev, h1, h3.its, h4.its⟩

theorem NB.ng {H : AHeap} {v : Value} {g esz n : Nat} {cs : List Value} (h : NB H v g esz n cs) : NG H v g esz n cs := h.imp id fun h => h.2.g

/-- An end that is opened has its colours. -/
theorem EndP.w {C : Ctx} {H0 H : AHeap} {col : Nat → Nat} {lo hi q k : Nat} {x : EndA} (hs : Same H0 H) (hb : Bare col H0) (hlo : H0.next ≤ lo) (hhi : hi ≤ H.next) (h : EndP C H lo hi q x) : ∃ col', Step [] H0 col H col' ∧ WEnd C H col' k q x := by
  obtain ⟨m1, m2, ov, ev, h1, h2, h3, h4, h5, ⟨g1, c1, j1, j2, j3, j4⟩, ⟨g2, c2, i1, i2, i3, i4⟩⟩ := h
  obtain ⟨g1', e1, e1'⟩ : ∃ g1', (x.opens ≠ [] → g1' = g1) ∧ (x.opens = [] → g1' = q) := by
    by_cases h : x.opens = []
    · exact ⟨q, fun h' => absurd h h', fun _ => rfl⟩
    · exact ⟨g1, fun _ => rfl, fun h' => absurd h' h⟩
  obtain ⟨g2', e2, e2'⟩ : ∃ g2', (x.early ≠ [] → g2' = g2) ∧ (x.early = [] → g2' = q) := by
    by_cases h : x.early = []
    · exact ⟨q, fun h' => absurd h h', fun _ => rfl⟩
    · exact ⟨g2, fun _ => rfl, fun h' => absurd h' h⟩
  let col' : Nat → Nat := fun b => if b = q then k else if b = g1' then k + 1 else if b = g2' then k + 2 else if b < H0.next then col b else 0
  have r1 : x.opens ≠ [] → g1' = g1 ∧ lo ≤ g1 ∧ g1 < m1 := fun h => ⟨e1 h, j2 h⟩
  have r2 : x.early ≠ [] → g2' = g2 ∧ m1 ≤ g2 ∧ g2 < m2 := fun h => ⟨e2 h, i2 h⟩
  have s1 : lo ≤ g1' ∧ (g1' < m1 ∨ g1' = q) := by
    by_cases h : x.opens = []
    · rw [e1' h]; omega
    · have := r1 h; omega
  have s2 : m1 ≤ g2' ∧ (g2' < m2 ∨ g2' = q) := by
    by_cases h : x.early = []
    · rw [e2' h]; omega
    · have := r2 h; omega
  have hold : ∀ b, b < H0.next → col' b = col b := by
    intro b hb
    simp only [col']
    rw [if_neg (by omega), if_neg (by omega), if_neg (by omega), if_pos hb]
  have hdat : ∀ b, H0.next ≤ b → b ≠ q → b ≠ g1' → b ≠ g2' → col' b = 0 := by
    intro b h1 h2 h3 h4
    simp only [col']
    rw [if_neg h2, if_neg h3, if_neg h4, if_neg (by omega)]
  refine ⟨col', ⟨hs.wf, hs.grow, fun b hb' => ?_, hold, fun b hb' _ => hs.same b hb'⟩, ov, ev, h1, by simp [col'], ?_, ?_⟩
  · have := hs.grow.next
    exact hdat b (by omega) (by omega) (by omega) (by omega)
  · refine ⟨g1, c1, NB.ng j1, fun hv => ?_, j3, fun v hv a n c he hn => ?_⟩
    · have hne : x.opens ≠ [] := by
        rcases j1 with ⟨h, _⟩ | ⟨h, _⟩
        · exact absurd h hv
        · exact fun h' => h (by rw [h']; rfl)
      have := r1 hne
      simp only [col']
      rw [if_neg (by omega), if_pos (by omega)]
    · have := j4 v hv a n c he hn
      have hl : x.opens ≠ [] := by
        intro h
        rw [h] at j3
        cases j3
        cases hv
      have := r1 hl
      exact hdat _ (by omega) (by omega) (by omega) (by omega)
  · refine ⟨g2, c2, NB.ng i1, fun hv => ?_, i3, fun v hv a n c he hn => ?_⟩
    · have hne : x.early ≠ [] := by
        rcases i1 with ⟨h, _⟩ | ⟨h, _⟩
        · exact absurd h hv
        · exact fun h' => h (by rw [h']; rfl)
      have := r2 hne
      simp only [col']
      rw [if_neg (by omega), if_neg (by omega), if_pos (by omega)]
    · have := i4 v hv a n c he hn
      have hl : x.early ≠ [] := by
        intro h
        rw [h] at i3
        cases i3
        cases hv
      have := r2 hl
      exact hdat _ (by omega) (by omega) (by omega) (by omega)

theorem of_buf (w : World) {H : AHeap} (hw : WF H) {q : Nat} {last : Int} {ov ev : Value} {n g : Nat} (hq : Obj1 H q [.int .i64 last, ov, .int .i64 g, ev]) (hn : n ≤ 60000) (hg : g ≤ 60000) {da : Option Addr} {dc : Nat} {d : List UInt8} (hd : Bs (ctxW w) H (.slice da d.length dc) d) (hl : d.length ≤ 500) :
    wpCall (ctxW w) (.func (.func 105) #[] #[]) [.pointer (some ⟨q, 0, none⟩), itV n (.slice da d.length dc)] H fun r H' => Same H H' ∧ ∃ g', H.next ≤ g' ∧ Buf H' r g' 1 (enc n g d).length ((enc n g d).map u8v) := by
  refine wpCall_fn rfl (get105 w) ?_
  simp [ir105]
  refine w_box (cs := [.int .i64 n, .slice da d.length dc]) hw (by simp [itV]) rfl (by simp) fun p H1 hp => ?_
  have ld := fun off n => Obj1.load (C := ctxW w) (off := off) (n := n) hp.obj
  have ldq := fun off n => Obj1.load (C := ctxW w) (off := off) (n := n) (hq.same hp.same)
  simp [ld, ldq]
  refine wpCall_mono (bytes_buf w hp.same.wf' hn hg (hd.same hp.same) hl) ?_
  rintro r H2 ⟨hs2, g', hg', hb2⟩
  simp
  exact ⟨hp.same.trans hs2, g', by have := hp.same.grow.next; omega, hb2⟩

/-- An end behind a frame that it sent. -/
def sent (x : EndA) (d : List UInt8) : EndA := ⟨x.last + 1, x.opens ++ [(x.last + 1, d)], x.got, x.early⟩

def SendOut (C : Ctx) (H : AHeap) (col : Nat → Nat) (k q : Nat) (x : EndA) (d : List UInt8) (r : Value) (H' : AHeap) : Prop :=
  (x.last = 60000 ∧ H' = H ∧ r = .tuple #[.slice none 0 0, .int .i64 5]) ∨ (x.last ≠ 60000 ∧ x.opens.length = 8 ∧ H' = H ∧ r = .tuple #[.slice none 0 0, .int .i64 8]) ∨
  (x.last ≠ 60000 ∧ x.opens.length ≠ 8 ∧ ∃ col' b, Step [k, k + 1] H col H' col' ∧ WEnd C H' col' k q (sent x d) ∧ r = .tuple #[b, .int .i64 0] ∧ Bs C H' b (enc (x.last + 1).toNat x.got.toNat d) ∧ ∀ a n c, b = .slice (some a) n c → n ≠ 0 → col' a.block = 0)

theorem send_spec (w : World) {H : AHeap} (hw : WF H) {col : Nat → Nat} (hbare : Bare col H) {k q : Nat} (hk : k ≠ 0) {x : EndA} (hx : WEnd (ctxW w) H col k q x) (h1 : 0 ≤ x.last ∧ x.last ≤ 60000) (h2 : 0 ≤ x.got ∧ x.got ≤ 60000) (h3 : x.opens.length ≤ 1000)
    {v : Value} {d : List UInt8} (hd : Bs (ctxW w) H v d) (hdp : ∀ a n c, v = .slice (some a) n c → n ≠ 0 → col a.block ∉ [k]) (hl : d.length ≤ 500) : wpCall (ctxW w) (.func (.func 94) #[] #[]) [.pointer (some ⟨q, 0, none⟩), v] H (SendOut (ctxW w) H col k q x d) := by
  obtain ⟨ov, ev, hq, hcq, ho, he⟩ := hx
  obtain ⟨a1, c1, rfl⟩ := ho.val
  obtain ⟨a2, c2, rfl⟩ := he.val
  obtain ⟨da, dc, rfl⟩ := hd.val
  refine wpCall_fn rfl (get94 w) ?_
  have ldq := fun off n => Obj1.load (C := ctxW w) (off := off) (n := n) hq
  by_cases e1 : x.last = 60000
  · simp [ir94, ldq, e1]
    exact .inl ⟨e1, rfl, rfl⟩
  · by_cases e2 : x.opens.length = 8
    · simp [ir94, ldq, e1, e2]
      exact .inr (.inl ⟨e1, e2, rfl, rfl⟩)
    · have e3 : ¬ (x.opens.length : Int) = 8 := by omega
      have e4 : IntKind.i64.wrap (x.last + 1) = x.last + 1 := i64_in _ (by omega)
      simp [ir94, ldq, e1, e3, e4]
      have hqlt := hq.lt hw
      refine w_store (p := q) (off := 0) (xs := [.int .i64 (x.last + 1)]) hw hq (by simp) (by simp) rfl (by simp) (by simp) (by simp) fun H1 hm1 hn1 ho1 => ?_
      have st1 : Step [k] H col H1 col := Step.of_mod hm1 hbare (by rw [hcq]; simp)
      have hd1 : Bs (ctxW w) H1 (.slice da d.length dc) d := Bs.stepA st1 hd hdp
      simp
      refine wpCall_mono (clone_spec w st1.wf' hd1 (by omega)) ?_
      rintro r2 H2 ⟨hs2, hb2, hoff2⟩
      obtain ⟨a3, c3, rfl⟩ := hb2.val
      have ho2 := ho1.same hs2
      have ldq2 := fun off n => Obj1.load (C := ctxW w) (off := off) (n := n) ho2
      have f1 : free (ctxW w) (.call H1 H2) (.exp [q] []) = true := free_call_rd (eqbW w) hs2 (by simp; obtain ⟨e, h⟩ := ho1; rw [h]; simp)
      simp [ldq2, f1]
      have n2 := hs2.grow.next
      have hb2' : Bare col H2 := fun b hb => hbare b (by have := hm1.grow.next; omega)
      have g1 : Nat.beq H2.next q = false := nbeq' (by have := hn1; omega)
      have g2 : free (ctxW w) (.call H1 H2) (.exp [] [H2.next]) = true := free_call_new (Nat.le_refl _)
      refine d_mk hs2.wf' (by simp [g1, g2]) fun p3 H3 hp3 => ?_
      simp
      have n3 := hp3.new
      have n3' := hp3.next
      refine d_store (p := p3) (off := 0) (xs := [.int .i64 (x.last + 1), .slice a3 d.length c3]) hp3.same.wf' rfl hp3.obj (by simp) (by simp) rfl (by simp) (by simp) (by simp) fun H4 hm4 hn4 ho4 => ?_
      have hs24 : Same H2 H4 := hp3.same.then_mod hm4 (by omega)
      have st2 : Step [k] H col H4 col := st1.trans (Step.of_same (hs2.trans hs24) (fun b hb => hbare b (by have := hm1.grow.next; omega)))
      have hq4 := ho2.same hs24
      have ldq4 := fun off n => Obj1.load (C := ctxW w) (off := off) (n := n) hq4
      have ldp4 := fun off n => Obj1.load (C := ctxW w) (off := off) (n := n) ho4
      simp [ldq4, ldp4]
      have hb4 : Bs (ctxW w) H4 (.slice a3 d.length c3) d := Row.mod hm4 (hb2.same hp3.same) (Row.off hs2.wf' hb2 (by omega))
      have n4 := hs24.grow.next
      have g3 : Nat.beq H4.next q = false := nbeq' (by omega)
      refine d_bs (esz := 2) (cs := [.int .i64 (x.last + 1), .slice a3 d.length c3]) st2.wf' (by simp [g3]) (by simp) (by simp) (by simp) fun q5 H5 hq5 hb5 => ?_
      have hs45 := hq5.same
      have st5 : Step [k] H col H5 col := st2.trans (Step.of_same hs45 st2.bare)
      simp
      have w5 : WIts (ctxW w) H5 col (k + 1) (.slice a1 x.opens.length c1) x.opens := ho.step st5 (by simp; omega) (by simp)
      have e5 : WIts (ctxW w) H5 col (k + 2) (.slice a2 x.early.length c2) x.early := he.step st5 (by simp; omega) (by simp)
      obtain ⟨g, cs, k1, k2, k3, k4⟩ := w5
      have hb5d : Bs (ctxW w) H5 (.slice a3 d.length c3) d := hb4.same hs45
      have hfresh : ∀ b, a3 = some b → d.length ≠ 0 → H1.next ≤ b.block := by
        intro b hb hn
        subst hb
        rcases Nat.lt_or_ge b.block H1.next with h | h
        · exact absurd rfl (hoff2 b.block h b _ _ rfl hn)
        · exact h
      have n1 := hm1.grow.next
      have hdp5 : ∀ b, a3 = some b → d.length ≠ 0 → col b.block = 0 := fun b hb hn => hbare _ (by have := hfresh b hb hn; omega)
      refine d_appW (g := g) (n := x.opens.length) (m := 1) (cs := cs) (xs := [.int .i64 (x.last + 1), .slice a3 d.length c3]) st5.wf' (by simpa using k1) (by omega) (by simpa using hb5.row) (by simp) (by simp) (by simp [roomy]; omega) (by simp) fun v6 H6 rd6 md6 g6 hg6 hb6 => ?_
      simp at hg6
      obtain ⟨col6, st6, w6⟩ := WIts.snoc st5.wf' st5.bare (by omega) k2 k3 k4 hb5d hdp5 hg6 hb6
      have hq6 := Obj1.step st6 (hq4.same hs45) (by rw [hcq]; simp)
      have e6 := e5.step st6 (by simp) (by simp)
      have hp6 := Obj1.step st6 (ho4.same hs45) (by rw [hbare p3 (by omega)]; simp)
      have hqlt5 := (hq4.same hs45).lt st5.wf'
      have hcq6 : col6 q = k := by rw [st6.keep q hqlt5]; exact hcq
      obtain ⟨a6, c6, rfl⟩ := w6.val
      have st06 : Step [k, k + 1] H col H6 col6 := (st5.more (by simp)).trans (st6.more (by simp))
      simp
      refine d_store (p := q) (off := 1) (xs := [.slice a6 (x.opens ++ [(x.last + 1, d)]).length c6]) st06.wf' rfl hq6 (by simp) (by simp) rfl (by simp) (by simp) (by simp) fun H7 hm7 hn7 ho7 => ?_
      have st7 : Step [k] H6 col6 H7 col6 := Step.of_mod hm7 st06.bare (by rw [hcq6]; simp)
      have st07 : Step [k, k + 1] H col H7 col6 := st06.trans (st7.more (by simp))
      have w7 := w6.step st7 (by simp; omega) (by simp)
      have e7 := e6.step st7 (by simp; omega) (by simp)
      have hp3lt : p3 < H5.next := (ho4.same hs45).lt st5.wf'
      have hp7 := Obj1.step st7 hp6 (by rw [st6.keep p3 hp3lt, hbare p3 (by omega)]; simp; omega)
      have ldp7 := fun off n => Obj1.load (C := ctxW w) (off := off) (n := n) hp7
      simp [ldp7]
      have hb7 : Bs (ctxW w) H7 (.slice a3 d.length c3) d := by
        have hlt : ∀ b, a3 = some b → d.length ≠ 0 → b.block < H5.next := by
          intro b hb hn
          subst hb
          obtain ⟨_, a, c, he, _, h4⟩ := hb5d
          cases he
          exact load_lt st5.wf' (h4 b rfl hn)
        refine Bs.step st7 (by simp; omega) (Bs.step st6 (by simp) hb5d fun a n c he hn => ?_) fun a n c he hn => ?_
        · cases he; exact hdp5 a rfl hn
        · cases he; rw [st6.keep _ (hlt a rfl hn)]; exact hdp5 a rfl hn
      obtain ⟨N, hN⟩ : ∃ N : Nat, x.last + 1 = N := ⟨(x.last + 1).toNat, by omega⟩
      obtain ⟨G, hG⟩ : ∃ G : Nat, x.got = G := ⟨x.got.toNat, by omega⟩
      have hcall := of_buf w st07.wf' (q := q) (last := x.last + 1) (ov := .slice a6 (x.opens ++ [(x.last + 1, d)]).length c6) (ev := .slice a2 x.early.length c2) (n := N) (g := G) (by rw [← hG]; simpa using ho7) (by omega) (by omega) hb7 hl
      simp only [itV, ← hN] at hcall
      refine wpCall_mono hcall ?_
      rintro r8 H8 ⟨hs8, g8, hg8, hb8⟩
      simp
      refine .inr (.inr ⟨e1, e2, col6, r8, st07.trans (Step.of_same hs8 st07.bare), ⟨.slice a6 (x.opens ++ [(x.last + 1, d)]).length c6, .slice a2 x.early.length c2, ?_, hcq6, ?_, ?_⟩, rfl, ?_, ?_⟩)
      · have := ho7.same hs8
        simpa [sent] using this
      · exact w7.step (Step.of_same (A := []) hs8 st07.bare) (by simp) (by simp)
      · exact e7.step (Step.of_same (A := []) hs8 st07.bare) (by simp) (by simp)
      · have e1 : (x.last + 1).toNat = N := by omega
        have e2 : x.got.toNat = G := by omega
        rw [e1, e2]
        exact hb8.row
      · intro a n c he hn
        obtain ⟨a', he', hbl, _⟩ := hb8.load (C := ctxW w)
        rw [he] at he'
        cases he'
        exact st07.bare _ (by omega)
end Go.Ai.Wire
