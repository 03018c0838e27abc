/-
  'append' to a slice: whether it grows or not, the new slice is a new version.
-/
import Derived.Test.YtlikgpehalhgkaaAiMem
namespace Go.Ai

def patch (M : Nat → Option AObj) (nid : Nat) (o : AOut) : Nat → Option AObj :=
  let M1 := match o.put with | some (b, x) => upd M b x | none => M
  match o.new with | some x => upd M1 nid x | none => M1

section
variable {P : Program} {C : Ctx} {φ : Phi} {M : Nat → Option AObj} {w : World}

theorem aadd_rel {a a' : Addr} (h : ARel φ a a') (n : Nat) : ARel φ (aadd a n) (a'.add n) := by
  obtain ⟨l, h1, rfl⟩ := h
  refine ⟨l, h1, ?_⟩
  rw [addr_add]
  simp [aadd]
  omega

theorem ver_aadd (a : Addr) (n : Nat) : ver (aadd a n) = ver a := rfl

theorem ver_mk (g k off : Nat) : ver (mkAddr g k off) = k := by cases k <;> rfl

theorem grownCap_ge' (w : World) (need old : Nat) (e : TypeId) : need ≤ grownCap w need old e := by
  simp [grownCap, Question.cut]

theorem firstCells_zero (size : Nat) {v : Value} (hv : ∃ a n c, v = .slice a n c) (w : World) : (Builtin.firstCells size 0 v).run P w = .ok #[] w := by
  obtain ⟨a, n, c, rfl⟩ := hv
  cases a <;> simp [Builtin.firstCells, loadCells, loadCellsFrom]

/-- The old cells of a slice. -/
theorem old_rel (h : R P C φ M w) {a : Addr} {l : Loc} (hl : φ a.block (ver a) = some l) {esz len n c : Nat} {old : List Value} (ho : loadN C M a (len * esz) = some old) :
    ∃ old', VsRel φ old old' ∧ old'.length = len * esz ∧ ∀ W : World, W.heap = w.heap → (Builtin.firstCells esz len (.slice (some ⟨l.cb, a.off + l.sh, none⟩) n c)).run P W = .ok old'.toArray W := by
  obtain ⟨h1, old', hc, h2, h3, _⟩ := loadN_rel h (a' := ⟨l.cb, a.off + l.sh, none⟩) ⟨l, hl, rfl⟩ ho
  refine ⟨old', h3, h2, fun W hW => ?_⟩
  refine run_firstCells_some W esz len _ n c old' h2 fun j v hv => ?_
  have := hc j v hv
  rw [addr_add] at this ⊢
  simpa [World.cell?, hW] using this

/-- The new version of an object, made where the spare room bore it or in a new block. -/
theorem R.version (h : R P C φ M w) {g k : Nat} {vs : List AVer} {v : AVer} (hM : M g = some (.cells vs)) (hv : vs[k]? = some v) {e : Nat}
    {us : List AVer} (hus : us = if e = v.cells.length ∧ v.cells ≠ [] then killAfter vs k else setVer vs k (v.cells.take e))
    {w' : World} {nl : Loc} {nv : AVer}
    (hos : w'.os = w.os) (htape : w'.tape = w.tape) (hout : w'.output = w.output) (hsize : w.heap.size ≤ w'.heap.size)
    (hnl : nl.cb < w'.heap.size)
    (hcase : (w.heap.size ≤ nl.cb ∧ ∀ cb, cb < w.heap.size → w'.heap[cb]? = w.heap[cb]?) ∨
      (∃ l cc cc' t, φ g k = some l ∧ l.cb = nl.cb ∧ l.lim = nl.lim ∧ w.heap[l.cb]? = some (.cells cc t (0, 0)) ∧ w'.heap[l.cb]? = some (.cells cc' t (0, 0)) ∧ cc'.size = cc.size ∧
        (∀ j, j < e + l.sh → cc'[j]? = cc[j]?) ∧ (∀ cb, cb ≠ l.cb → w'.heap[cb]? = w.heap[cb]?) ∧ l.sh + e ≤ nl.sh + nv.cells.length))
    (hnv : ∀ ψ : Phi, φ.le ψ → ψ g vs.length = some nl → VerRel ψ w' g vs.length nv) :
    φ.le (φ.set g vs.length nl) ∧ R P C (φ.set g vs.length nl) (Ai.upd M g (.cells (us ++ [nv]))) w' := by
  obtain ⟨hvers, hdom, hends⟩ := h.obj _ _ hM
  have hle : φ.le (φ.set g vs.length nl) := Phi.le_set φ nl (hdom _ (Nat.le_refl _))
  have hk : k < vs.length := (List.getElem?_eq_some_iff.1 hv).1
  have hlen : us.length = vs.length := by
    rw [hus]; split
    · exact length_killAfter vs k
    · exact length_setVer vs k _
  -- what each version has become
  have hu : ∀ i u, us[i]? = some u → ∃ vi, vs[i]? = some vi ∧ u.esz = vi.esz ∧ (u.cells = [] ∨ (u.cells = vi.cells ∧ i < k ∧ e = v.cells.length ∧ v.cells ≠ []) ∨ (i = k ∧ u.cells = vi.cells.take e)) := by
    intro i u hiu
    rw [hus] at hiu
    split at hiu
    · rename_i hcond
      rw [getElem?_killAfter] at hiu
      cases hvi : vs[i]? with
      | none => rw [hvi] at hiu; cases hiu
      | some vi =>
        rw [hvi] at hiu
        simp only [Option.map_some, Option.some.injEq] at hiu
        by_cases hik : i ≤ k
        · rw [if_pos hik] at hiu
          subst hiu
          refine ⟨vi, rfl, rfl, .inr ?_⟩
          rcases Nat.lt_or_eq_of_le hik with hlt | rfl
          · exact .inl ⟨rfl, hlt, hcond.1, hcond.2⟩
          · rw [hv] at hvi
            cases hvi
            exact .inr ⟨rfl, by rw [hcond.1, List.take_length]⟩
        · rw [if_neg hik] at hiu
          subst hiu
          exact ⟨vi, rfl, rfl, .inl rfl⟩
    · rw [getElem?_setVer] at hiu
      cases hvi : vs[i]? with
      | none => rw [hvi] at hiu; cases hiu
      | some vi =>
        rw [hvi] at hiu
        simp only [Option.map_some, Option.some.injEq] at hiu
        by_cases hik : i = k
        · subst hik
          rw [if_pos rfl] at hiu
          subst hiu
          rw [hv] at hvi
          cases hvi
          exact ⟨v, rfl, rfl, .inr (.inr ⟨rfl, rfl⟩)⟩
        · rw [if_neg hik] at hiu
          subst hiu
          exact ⟨vi, rfl, rfl, .inl rfl⟩
  have hnth : ∀ i, i ≠ vs.length → (φ.set g vs.length nl) g i = φ g i := fun i hi => Phi.set_other φ nl (fun e => hi e.2)
  refine ⟨hle, h.upd hle (fun g' hne i => Phi.set_other φ nl (fun e => hne e.1)) hos htape hout hsize ?_ ?_ ?_ ⟨?_, ?_, ?_⟩⟩
  · intro cb hcb hfar
    rcases hcase with ⟨_, hh⟩ | ⟨l, cc, cc', t, hl, _, _, _, _, _, _, hh, _⟩
    · exact hh cb hcb
    · exact hh cb (fun e => hfar k l hl e.symm)
  · intro i l hl
    by_cases hi : i = vs.length
    · subst hi
      rw [Phi.set_self] at hl
      cases hl
      rcases hcase with ⟨hh, _⟩ | ⟨l, cc, cc', t, hl, hcb, _⟩
      · exact .inr hh
      · exact .inl ⟨k, l, hl, hcb⟩
    · rw [hnth i hi] at hl
      exact .inl ⟨i, l, hl, rfl⟩
  · intro i l hl
    by_cases hi : i = vs.length
    · subst hi
      rw [Phi.set_self] at hl
      cases hl
      exact hnl
    · rw [hnth i hi] at hl
      exact Nat.lt_of_lt_of_le (h.bound _ _ _ hl) hsize
  · -- each version
    intro i u hiu
    by_cases hi : i < vs.length
    · rw [List.getElem?_append_left (by omega)] at hiu
      obtain ⟨vi, hvi, hesz, hcells⟩ := hu i u hiu
      obtain ⟨li, ci, ei, g1, g2, g3, g4, g5⟩ := hvers i vi hvi
      have hg1 := hle _ _ _ g1
      rcases hcase with ⟨_, hh⟩ | ⟨l, cc, cc', t, hl, hcb, hlim, hcc, hcc', hsz, hkeep, hh, hend⟩
      · refine ⟨li, ci, ei, hg1, (hh _ (h.bound _ _ _ g1)).trans g2, g3, by rw [g4, hesz], fun j x hj => ?_⟩
        rcases hcells with h0 | ⟨h0, _⟩ | ⟨_, h0⟩
        · rw [h0] at hj; simp at hj
        · rw [h0] at hj
          obtain ⟨x', p, q⟩ := g5 j x hj
          exact ⟨x', p, q.mono hle⟩
        · rw [h0, List.getElem?_take] at hj
          split at hj
          · obtain ⟨x', p, q⟩ := g5 j x hj
            exact ⟨x', p, q.mono hle⟩
          · cases hj
      · by_cases hsame : li.cb = l.cb
        · rw [hsame, hcc] at g2
          simp only [Option.some.injEq, Obj.cells.injEq] at g2
          obtain ⟨rfl, rfl, _⟩ := g2
          refine ⟨li, cc', t, hg1, by rw [hsame]; exact hcc', by rw [hsz]; exact g3, by rw [g4, hesz], fun j x hj => ?_⟩
          rcases hcells with h0 | ⟨h0, hik, hee, hne⟩ | ⟨hik, h0⟩
          · rw [h0] at hj; simp at hj
          · rw [h0] at hj
            have hjl : j < vi.cells.length := (List.getElem?_eq_some_iff.1 hj).1
            have := hends i k vi v li l hik hvi hv g1 hl hsame
            rcases this with h1 | h1 | h1
            · rw [h1] at hjl; simp at hjl
            · exact absurd h1 hne
            · obtain ⟨x', p, q⟩ := g5 j x hj
              exact ⟨x', by rw [hkeep _ (by omega)]; exact p, q.mono hle⟩
          · subst hik
            rw [g1] at hl
            cases hl
            rw [h0, List.getElem?_take] at hj
            split at hj
            · rename_i hje
              obtain ⟨x', p, q⟩ := g5 j x hj
              exact ⟨x', by rw [hkeep _ (by omega)]; exact p, q.mono hle⟩
            · cases hj
        · refine ⟨li, ci, ei, hg1, (hh _ hsame).trans g2, g3, by rw [g4, hesz], fun j x hj => ?_⟩
          rcases hcells with h0 | ⟨h0, _⟩ | ⟨_, h0⟩
          · rw [h0] at hj; simp at hj
          · rw [h0] at hj
            obtain ⟨x', p, q⟩ := g5 j x hj
            exact ⟨x', p, q.mono hle⟩
          · rw [h0, List.getElem?_take] at hj
            split at hj
            · obtain ⟨x', p, q⟩ := g5 j x hj
              exact ⟨x', p, q.mono hle⟩
            · cases hj
    · have hi2 : i = vs.length := by
        have := (List.getElem?_eq_some_iff.1 hiu).1
        simp at this; omega
      subst hi2
      rw [List.getElem?_append_right (by omega)] at hiu
      simp [hlen] at hiu
      subst hiu
      exact hnv _ hle (Phi.set_self φ g _ nl)
  · intro i hi
    simp [hlen] at hi
    rw [hnth i (by omega)]
    exact hdom i (by omega)
  · -- the ends
    intro i j ui uj li lj hij hi hj hli hlj hcb
    have hil : i < vs.length := by
      have := (List.getElem?_eq_some_iff.1 hj).1
      simp at this; omega
    rw [hnth i (by omega)] at hli
    rw [List.getElem?_append_left (by omega)] at hi
    obtain ⟨vi, hvi, _, hcells⟩ := hu i ui hi
    by_cases hjl : j < vs.length
    · rw [hnth j (by omega)] at hlj
      rw [List.getElem?_append_left (by omega)] at hj
      obtain ⟨vj, hvj, _, hcellsj⟩ := hu j uj hj
      have hE := hends i j vi vj li lj hij hvi hvj hli hlj hcb
      rcases hcells with h0 | ⟨h0, hik, hee, _⟩ | ⟨hik, h0⟩
      · exact .inl h0
      · rcases hcellsj with h1 | ⟨h1, _⟩ | ⟨hjk, h1⟩
        · exact .inr (.inl h1)
        · rw [h0, h1]; exact hE
        · subst hjk
          rw [hv] at hvj
          cases hvj
          rw [hee, List.take_length] at h1
          rw [h0, h1]; exact hE
      · rcases hcellsj with h1 | ⟨h1, hjk, _⟩ | ⟨hjk, h1⟩
        · exact .inr (.inl h1)
        · omega
        · omega
    · have hj2 : j = vs.length := by
        have := (List.getElem?_eq_some_iff.1 hj).1
        simp at this; omega
      subst hj2
      rw [Phi.set_self] at hlj
      cases hlj
      rw [List.getElem?_append_right (by omega)] at hj
      simp [hlen] at hj
      subst hj
      rcases hcase with ⟨hge, _⟩ | ⟨l, cc, cc', t, hl, hcb', hlim, hcc, hcc', hsz, hkeep, hh, hend⟩
      · have := h.bound _ _ _ hli; omega
      · rcases hcells with h0 | ⟨h0, hik, hee, hne⟩ | ⟨hik, h0⟩
        · exact .inl h0
        · rcases hends i k vi v li l hik hvi hv hli hl (by rw [hcb, hcb']) with h1 | h1 | h1
          · exact .inl (by rw [h0, h1])
          · exact absurd h1 hne
          · right; right
            rw [h0]; omega
        · subst hik
          rw [hli] at hl
          cases hl
          right; right
          rw [h0, List.length_take]
          omega

/-- What is asked of the concrete 'append': what it does where there is room, and where there is none. -/
structure AppSem (P : Program) (w : World) (X : Sem Value) (esz bytes : Nat) (e : TypeId) (z : Array Value) (m : Nat) (s' : Value) (xs' : List Value) : Prop where
  fits : ∀ b len cap w', s' = .slice b len cap → len + m ≤ cap → (match b with | some a => (storeCells (a.add (len * esz)) xs').run P w = .ok () w' | none => w' = w) →
    X.run P w = .ok (.slice b (len + m) cap) w'
  grows : ∀ b len cap old, s' = .slice b len cap → cap < len + m → len + m ≤ 4611686018427387904 → (len + m) * bytes ≤ 140737488355328 →
    (Builtin.firstCells esz len s').run P w.drew = .ok old w.drew →
    X.run P w = .ok (.slice (some ⟨w.heap.size, 0, none⟩) (len + m) (grownCap w (len + m) cap e))
      (w.drew.alloc (.cells (old ++ xs'.toArray ++ Builtin.zeroCells z (grownCap w (len + m) cap e - (len + m))) e))

theorem zc_size (z : Array Value) (n : Nat) : (Builtin.zeroCells z n).size = n * z.size := by simp [Builtin.zeroCells]

theorem pre_rel {old old' xs xs' : List Value} (z : Array Value) (ho : VsRel φ old old') (hx : VsRel φ xs xs') (j : Nat) (x : Value) (h : (old ++ xs)[j]? = some x) :
    ∃ x', (old'.toArray ++ xs'.toArray ++ z)[j]? = some x' ∧ VRel φ x x' := by
  obtain ⟨x', p, q⟩ := (ho.append hx).get h
  refine ⟨x', ?_, q⟩
  have hj : j < (old' ++ xs').length := (List.getElem?_eq_some_iff.1 p).1
  have e : old'.toArray ++ xs'.toArray = (old' ++ xs').toArray := by simp
  rw [e, Array.getElem?_append_left (by simpa using hj)]
  simpa using p

theorem load_raw {a : Addr} {n : Nat} {l : List Value} (hM : M a.block = some .raw) (h : loadN C M a n = some l) : ver a = 0 := by
  unfold ver
  cases hsp : a.spot with
  | none => rfl
  | some k =>
    unfold loadN at h
    have : cellsAt C M a = none := by
      unfold cellsAt
      rw [hM]
      simp only [hsp]
      split <;> rfl
    rw [this] at h
    cases h

theorem appendA_rel (h : R P C φ M w) {nid : Nat} {out : AOut} (hn : out.new ≠ none → M nid = none) {esz bytes : Nat} (hpos : 1 ≤ esz) {e : TypeId} {z : Array Value} (hz : z.size = esz) {m : Nat} {s s' : Value} (hs : VRel φ s s')
    {xs xs' : List Value} (hx : VsRel φ xs xs') {rd : List Nat} {X : Sem Value} (hX : AppSem P w X esz bytes e z m s' xs') (ho : appendA C M esz bytes s m xs rd nid = some out) :
    ∃ v' w' φ', X.run P w = .ok v' w' ∧ φ.le φ' ∧ VRel φ' out.v v' ∧ R P C φ' (patch M nid out) w' := by
  unfold appendA at ho
  split at ho
  case isFalse => cases ho
  rename_i hlx
  obtain ⟨hlx, hscal⟩ := hlx
  have hlx' : xs'.length = m * esz := by rw [← hx.length, hlx]
  -- where a new block is made with what was there and what comes
  have fresh : ∀ (b' : Option Addr) (len cap' : Nat) (old old' : List Value) (rd2 : List Nat), s' = .slice b' len cap' → cap' < len + m → roomy (len + m) bytes = true → VsRel φ old old' → old'.length = len * esz →
      (Builtin.firstCells esz len s').run P w.drew = .ok old'.toArray w.drew → out = { v := .slice (some ⟨nid, 0, none⟩) (len + m) (len + m), new := some (.cells [⟨esz, old ++ xs⟩]), rd := rd2 } →
      ∃ v' w' φ', X.run P w = .ok v' w' ∧ φ.le φ' ∧ VRel φ' out.v v' ∧ R P C φ' (patch M nid out) w' := by
    intro b' len cap' old old' rd2 hs' hcap hroom hold hol hfc hout
    have hn := hn (by rw [hout]; simp)
    simp [roomy] at hroom
    have hrun := hX.grows b' len cap' old'.toArray hs' hcap hroom.1 hroom.2 hfc
    have hge := grownCap_ge' w (len + m) cap' e
    obtain ⟨hle, hR⟩ := h.drew.new_cells hn (old ++ xs) (old'.toArray ++ xs'.toArray ++ Builtin.zeroCells z (grownCap w (len + m) cap' e - (len + m))) e esz (fun j x hj => pre_rel _ hold hx j x hj)
    subst hout
    refine ⟨_, _, _, hrun, hle, ?_, hR⟩
    have hsz : (old'.toArray ++ xs'.toArray ++ Builtin.zeroCells z (grownCap w (len + m) cap' e - (len + m))).size = grownCap w (len + m) cap' e * esz := by
      simp only [Array.size_append, List.size_toArray, zc_size, hz, hol, hlx', ← Nat.add_mul]
      congr 1
      omega
    refine VRel.slice ⟨nid, 0, none⟩ _ _ _ _ (Phi.set_self φ nid 0 _) (.inr ⟨hpos, hge, ?_⟩)
    exact (show 0 + 0 + grownCap w (len + m) cap' e * esz ≤ (old'.toArray ++ xs'.toArray ++ Builtin.zeroCells z (grownCap w (len + m) cap' e - (len + m))).size by rw [hsz]; omega)
  split at ho
  · -- the nil slice
    rename_i len cap
    split at ho
    case isFalse => cases ho
    rename_i h0
    obtain ⟨rfl, rfl⟩ := h0
    have hs' : s' = .slice none 0 0 := by cases hs; rfl
    subst hs'
    split at ho
    · rename_i hm
      subst hm
      cases ho
      exact ⟨_, _, φ, hX.fits none 0 0 w rfl (by omega) rfl, Phi.le_refl φ, .sliceNil, h⟩
    · rename_i hm
      split at ho
      case isFalse => cases ho
      rename_i hroom
      cases ho
      refine fresh none 0 0 [] [] rd rfl (by omega) (by simpa using hroom) .nil (by simp) (firstCells_zero esz ⟨_, _, _, rfl⟩ _) (by simp)
  · rename_i a len cap
    split at ho
    · -- there is room
      rename_i hfit
      split at ho
      · rename_i hm
        subst hm
        cases ho
        have hx0 : xs' = [] := List.eq_nil_of_length_eq_zero (by simpa using hlx')
        subst hx0
        cases hs with
        | slice _ l _ _ c' hl hc =>
          exact ⟨_, _, φ, hX.fits _ _ _ w rfl (by rcases hc with rfl | ⟨_, h2, _⟩ <;> omega) rfl, Phi.le_refl φ, .slice _ l _ _ _ hl hc, h⟩
        | slice0 _ a' => exact ⟨_, _, φ, hX.fits _ _ _ w rfl (by omega) rfl, Phi.le_refl φ, .slice0 _ _, h⟩
      · rename_i hm
        split at ho
        case h_2 => cases ho
        rename_i o hst
        cases ho
        cases hs with
        | slice _ l _ _ c' hl hc =>
          have ha : ARel φ (aadd a (len * esz)) ((⟨l.cb, a.off + l.sh, none⟩ : Addr).add (len * esz)) := aadd_rel ⟨l, hl, rfl⟩ _
          obtain ⟨w', hrun, hR⟩ := storeN_rel h ha hx hst
          exact ⟨_, w', φ, hX.fits _ _ _ w' rfl (by rcases hc with rfl | ⟨_, h2, _⟩ <;> omega) hrun, Phi.le_refl φ, .slice _ l _ _ _ hl hc, hR⟩
        | slice0 _ a' => omega
    · -- there may be none
      rename_i hfit
      split at ho
      case isFalse => cases ho
      rename_i hroom
      split at ho
      · -- an object that was there ahead of all
        rename_i hM
        split at ho
        case h_2 => cases ho
        rename_i old hold
        split at ho
        case isFalse => cases ho
        cases ho
        obtain ⟨hlt, hOld, _⟩ := h.obj _ _ hM
        cases hs with
        | slice _ l _ _ c' hl hc =>
          have hl0 : l.esz = 0 := by
            have hv : ver a = 0 := load_raw hM hold
            rw [hv, hOld _ hlt] at hl
            cases hl
            rfl
          have hcc : c' = cap := by rcases hc with h1 | ⟨h1, _⟩ <;> omega
          subst hcc
          obtain ⟨old', h1, h2, h3⟩ := old_rel h hl hold (n := len) (c := c')
          exact fresh _ len c' old old' _ rfl (by omega) hroom h1 h2 (h3 w.drew rfl) rfl
        | slice0 _ a' =>
          have h0 : old = [] := by
            unfold loadN at hold
            split at hold
            · split at hold
              · cases hold; simp
              · cases hold
            · cases hold
          subst h0
          exact fresh _ 0 0 [] [] _ rfl (by omega) hroom .nil (by simp) (firstCells_zero esz ⟨_, _, _, rfl⟩ _) rfl
      · -- an object of cells: a new version
        rename_i vs hM
        split at ho
        case h_2 => cases ho
        rename_i v hv
        dsimp only at ho
        split at ho
        case isFalse => cases ho
        rename_i hcond
        obtain ⟨hesz, he, hsc⟩ := hcond
        cases ho
        simp [roomy] at hroom
        have hoA : (v.cells.drop a.off).length = v.cells.length - a.off := by simp
        have hload : loadN C M a (len * esz) = some ((v.cells.drop a.off).take (len * esz)) := by
          unfold loadN cellsAt
          rw [hM]
          simp only [hv]
          rw [if_pos (by rw [hoA]; omega)]
        have hle0 : ((v.cells.drop a.off).take (len * esz)).length = len * esz := by rw [List.length_take, hoA]; omega
        obtain ⟨hvers, hdom, hends⟩ := h.obj _ _ hM
        -- the case in which a new block is made
        have grow : ∀ (b' : Option Addr) (cap' : Nat) (old' : List Value), s' = .slice b' len cap' → cap' < len + m → VsRel φ ((v.cells.drop a.off).take (len * esz)) old' → old'.length = len * esz →
            (Builtin.firstCells esz len s').run P w.drew = .ok old'.toArray w.drew →
            ∃ v' w' φ', X.run P w = .ok v' w' ∧ φ.le φ' ∧ VRel φ' (.slice (some (mkAddr a.block vs.length 0)) (len + m) (len + m)) v' ∧
              R P C φ' (Ai.upd M a.block (.cells ((if a.off + len * esz = v.cells.length ∧ v.cells ≠ [] then killAfter vs (ver a) else setVer vs (ver a) (v.cells.take (a.off + len * esz))) ++ [⟨esz, (v.cells.drop a.off).take (len * esz) ++ xs⟩]))) w' := by
          intro b' cap' old' hs' hcap hold hol hfc
          have hrun := hX.grows b' len cap' old'.toArray hs' hcap hroom.1 hroom.2 hfc
          have hge := grownCap_ge' w (len + m) cap' e
          have hsz : (old'.toArray ++ xs'.toArray ++ Builtin.zeroCells z (grownCap w (len + m) cap' e - (len + m))).size = grownCap w (len + m) cap' e * esz := by
            simp only [Array.size_append, List.size_toArray, zc_size, hz, hol, hlx', ← Nat.add_mul]
            congr 1
            omega
          obtain ⟨hle, hR⟩ := h.drew.version hM hv (e := a.off + len * esz) rfl
            (w' := w.drew.alloc (.cells (old'.toArray ++ xs'.toArray ++ Builtin.zeroCells z (grownCap w (len + m) cap' e - (len + m))) e))
            (nl := ⟨w.heap.size, 0, (old'.toArray ++ xs'.toArray ++ Builtin.zeroCells z (grownCap w (len + m) cap' e - (len + m))).size, esz⟩)
            (nv := ⟨esz, (v.cells.drop a.off).take (len * esz) ++ xs⟩) rfl rfl rfl (by simp) (by simp) (.inl ⟨Nat.le_refl _, fun cb hcb => heap_alloc_below w.drew _ hcb⟩)
            (fun ψ hψ hl => ⟨_, _, e, hl, heap_alloc_self w.drew _, rfl, rfl, fun j x hj => by
              obtain ⟨x', p, q⟩ := pre_rel (Builtin.zeroCells z (grownCap w (len + m) cap' e - (len + m))) hold hx j x hj
              exact ⟨x', p, q.mono hψ⟩⟩)
          refine ⟨_, _, _, hrun, hle, ?_, hR⟩
          have hmk : (⟨w.heap.size, 0, none⟩ : Addr) = ⟨w.heap.size, (mkAddr a.block vs.length 0).off + 0, none⟩ := rfl
          rw [hmk]
          refine VRel.slice (mkAddr a.block vs.length 0) ⟨w.heap.size, 0, _, esz⟩ _ _ _ (by rw [ver_mk]; exact Phi.set_self φ _ _ _) (.inr ⟨hpos, hge, ?_⟩)
          exact (show 0 + 0 + grownCap w (len + m) cap' e * esz ≤ (old'.toArray ++ xs'.toArray ++ Builtin.zeroCells z (grownCap w (len + m) cap' e - (len + m))).size by rw [hsz]; omega)
        cases hs with
        | slice0 _ a' =>
          have h0 : (v.cells.drop a.off).take (0 * esz) = [] := by simp
          obtain ⟨v', w', φ', r1, r2, r3, r4⟩ := grow _ 0 [] rfl (by omega) (by rw [h0]; exact .nil) (by simp) (firstCells_zero esz ⟨_, _, _, rfl⟩ _)
          exact ⟨v', w', φ', r1, r2, r3, r4⟩
        | slice _ l _ _ c' hl hc =>
          obtain ⟨old', h1, h2, h3⟩ := old_rel h hl hload (n := len) (c := c')
          by_cases hroomy : len + m ≤ c'
          · -- the spare room bears it
            have hb : 0 < l.esz ∧ cap ≤ c' ∧ a.off + l.sh + c' * l.esz ≤ l.lim := by
              rcases hc with h4 | h4
              · omega
              · exact h4
            obtain ⟨l', cc, t, g1, g2, g3, g4, g5⟩ := hvers _ v hv
            rw [hl] at g1
            cases g1
            have hle' : l.esz = esz := by rcases hesz with h5 | h5 <;> omega
            have hmul : (len + m) * esz ≤ c' * esz := Nat.mul_le_mul_right _ hroomy
            have hsplit : (len + m) * esz = len * esz + m * esz := Nat.add_mul _ _ _
            have hin : a.off + l.sh + len * esz + xs'.length ≤ cc.size := by
              rw [g3, hlx']
              have := hb.2.2
              rw [hle'] at this
              omega
            have hst := run_storeCells_at P l.cb (a.off + l.sh + len * esz) t xs' 0 cc w g2 (by simpa using hin) (scalars_rel hx hscal)
            simp only [Nat.add_zero] at hst
            have hnew := setRow_at w g2 (cc.toList.take (a.off + l.sh + len * esz) ++ xs' ++ cc.toList.drop (a.off + l.sh + len * esz + xs'.length)).toArray
            have hsegsz := seg_size hin
            have hget : ∀ j, (cc.toList.take (a.off + l.sh + len * esz) ++ xs' ++ cc.toList.drop (a.off + l.sh + len * esz + xs'.length)).toArray[j]? =
                if a.off + l.sh + len * esz ≤ j ∧ j < a.off + l.sh + len * esz + xs'.length then xs'[j - (a.off + l.sh + len * esz)]? else cc[j]? := by
              intro j
              have := seg_get cc.toList xs' (a.off + l.sh + len * esz) j (by simpa using hin)
              rw [List.getElem?_toArray, this]
              simp
            obtain ⟨hle, hR⟩ := h.version hM hv (e := a.off + len * esz) rfl
              (w' := w.setRow l.cb (cc.toList.take (a.off + l.sh + len * esz) ++ xs' ++ cc.toList.drop (a.off + l.sh + len * esz + xs'.length)).toArray)
              (nl := ⟨l.cb, a.off + l.sh, l.lim, esz⟩)
              (nv := ⟨esz, (v.cells.drop a.off).take (len * esz) ++ xs⟩) rfl rfl rfl (by simp) (by simpa using h.bound _ _ _ hl)
              (.inr ⟨l, cc, _, t, hl, rfl, rfl, g2, hnew, hsegsz, fun j hj => by rw [hget, if_neg (by omega)], fun cb hcb => setRow_ne w _ hcb, by
                simp only [List.length_append, hle0]
                omega⟩)
              (fun ψ hψ hl2 => ⟨_, _, t, hl2, hnew, by rw [hsegsz]; exact g3, rfl, fun j x hj => by
                show ∃ x', (cc.toList.take (a.off + l.sh + len * esz) ++ xs' ++ cc.toList.drop (a.off + l.sh + len * esz + xs'.length)).toArray[j + (a.off + l.sh)]? = some x' ∧ VRel ψ x x'
                rw [hget]
                by_cases hjl : j < len * esz
                · rw [if_neg (by omega)]
                  rw [List.getElem?_append_left (by omega), List.getElem?_take, if_pos hjl, List.getElem?_drop] at hj
                  obtain ⟨x', p, q⟩ := g5 _ x hj
                  exact ⟨x', by rw [← p]; congr 1; omega, q.mono hψ⟩
                · rw [List.getElem?_append_right (by omega), hle0] at hj
                  obtain ⟨x', p, q⟩ := hx.get hj
                  have hjx : j - len * esz < xs'.length := (List.getElem?_eq_some_iff.1 p).1
                  refine ⟨x', ?_, q.mono hψ⟩
                  rw [if_pos (by omega), ← p]
                  congr 1
                  omega⟩)
            have hrun := hX.fits (some ⟨l.cb, a.off + l.sh, none⟩) len c' _ rfl hroomy (show (storeCells ((⟨l.cb, a.off + l.sh, none⟩ : Addr).add (len * esz)) xs').run P w = _ by rw [addr_add]; exact hst)
            refine ⟨_, _, _, hrun, hle, ?_, hR⟩
            have hmk : (⟨l.cb, a.off + l.sh, none⟩ : Addr) = ⟨l.cb, (mkAddr a.block vs.length 0).off + (a.off + l.sh), none⟩ := by simp [mkAddr]
            rw [hmk]
            refine VRel.slice (mkAddr a.block vs.length 0) ⟨l.cb, a.off + l.sh, l.lim, esz⟩ _ _ _ (by rw [ver_mk]; exact Phi.set_self φ _ _ _) (.inr ⟨hpos, hroomy, ?_⟩)
            have := hb.2.2
            rw [hle'] at this
            simp [mkAddr]
            omega
          · exact grow _ c' old' rfl (by omega) h1 h2 (h3 w.drew rfl)
      · cases ho
  · cases ho
end
end Go.Ai
