/-
  The known answer of 'slices.Insert' is what the program's function does.
-/
import Derived.Test.YtlikgpehalhgkaaGreatPWIr
import Derived.Test.YtlikgpehalhgkaaGreatPAiA
import Derived.Test.YtlikgpehalhgkaaGreatPAiE
import Derived.Test.YtlikgpehalhgkaaGreatPWAb
namespace Go.Ai.Wire
open Go.Proofs

theorem setCells_other (b : Nat) {c : Nat} (hc : c ≠ b) : ∀ (vs : List Value) (o : Nat) (w : World), (w.setCells b o vs).heap[c]? = w.heap[c]?
  | [], _, _ => rfl
  | v :: r, o, w => by
    rw [World.setCells, setCells_other b hc r]
    simp only [World.setCell, Array.getElem?_modify]
    rw [if_neg (fun e => hc e.symm)]

theorem setCells_size (b : Nat) : ∀ (vs : List Value) (o : Nat) (w : World), (w.setCells b o vs).heap.size = w.heap.size
  | [], _, _ => rfl
  | v :: r, o, w => by
    rw [World.setCells, setCells_size b r]
    simp [World.setCell]

theorem setCells_rest (b : Nat) : ∀ (vs : List Value) (o : Nat) (w : World), (w.setCells b o vs).os = w.os ∧ (w.setCells b o vs).tape = w.tape ∧ (w.setCells b o vs).output = w.output
  | [], _, _ => ⟨rfl, rfl, rfl⟩
  | v :: r, o, w => by
    rw [World.setCells]
    exact setCells_rest b r _ _

theorem setCells_at (b : Nat) (t : TypeId) (fr : Nat × Nat) : ∀ (vs : List Value) (o : Nat) (w : World) (cc : Array Value), w.heap[b]? = some (.cells cc t fr) → o + vs.length ≤ cc.size →
    ∃ cc', (w.setCells b o vs).heap[b]? = some (.cells cc' t fr) ∧ cc'.size = cc.size ∧ ∀ j, cc'[j]? = if o ≤ j ∧ j < o + vs.length then vs[j - o]? else cc[j]?
  | [], o, w, cc, h, hl => ⟨cc, h, rfl, fun j => by rw [if_neg (by simp only [List.length_nil]; omega)]⟩
  | v :: r, o, w, cc, h, hl => by
    have h1 : (w.setCell ⟨b, o, none⟩ v).heap[b]? = some (.cells (cc.setIfInBounds o v) t fr) := by
      simp [World.setCell, Array.getElem?_modify, h]
    simp only [List.length_cons] at hl
    obtain ⟨cc', g1, g2, g3⟩ := setCells_at b t fr r (o + 1) _ _ h1 (by simp; omega)
    refine ⟨cc', g1, by simpa using g2, fun j => ?_⟩
    rw [g3 j]
    by_cases h2 : o + 1 ≤ j ∧ j < o + 1 + r.length
    · rw [if_pos h2, if_pos (by simp; omega)]
      rw [show j - o = (j - (o + 1)) + 1 by omega]
      simp
    · rw [if_neg h2]
      by_cases h3 : j = o
      · subst h3
        rw [if_pos (by simp), Array.getElem?_setIfInBounds]
        simp
        omega
      · rw [if_neg (by simp; omega), Array.getElem?_setIfInBounds, if_neg (fun e => h3 e.symm)]

/-- What lies there behind both stores. -/
theorem three_get (cs xs : List Value) (k n off : Nat) (cc c1 c2 : Array Value) (hk : k < n) (hcl : cs.length = n * 2) (hxl : xs.length = 2)
    (h0 : ∀ j, j < k * 2 → cc[j + off]? = cs[j]?)
    (h12 : (∀ j, c1[j]? = if off + (k + 1) * 2 ≤ j ∧ j < off + (k + 1) * 2 + (cs.drop (k * 2)).length then (cs.drop (k * 2))[j - (off + (k + 1) * 2)]? else cc[j]?) ∧
        (∀ j, c2[j]? = if off + k * 2 ≤ j ∧ j < off + k * 2 + xs.length then xs[j - (off + k * 2)]? else c1[j]?) ∨
      (∀ j, c1[j]? = if off + k * 2 ≤ j ∧ j < off + k * 2 + xs.length then xs[j - (off + k * 2)]? else cc[j]?) ∧
        (∀ j, c2[j]? = if off + (k + 1) * 2 ≤ j ∧ j < off + (k + 1) * 2 + (cs.drop (k * 2)).length then (cs.drop (k * 2))[j - (off + (k + 1) * 2)]? else c1[j]?)) :
    ∀ j x, (cs.take (k * 2) ++ (xs ++ cs.drop (k * 2)))[j]? = some x → c2[j + off]? = some x := by
  intro j x hj
  have hdl : (cs.drop (k * 2)).length = (n - k) * 2 := by rw [List.length_drop]; omega
  have htl : (cs.take (k * 2)).length = k * 2 := by rw [List.length_take]; omega
  rw [List.getElem?_append, htl] at hj
  split at hj
  · rename_i hlt
    rw [List.getElem?_take, if_pos hlt] at hj
    have hcc := h0 j hlt
    rcases h12 with ⟨h1, h2⟩ | ⟨h1, h2⟩
    · rw [h2, if_neg (by omega), h1, if_neg (by omega), hcc, hj]
    · rw [h2, if_neg (by omega), h1, if_neg (by omega), hcc, hj]
  · rename_i hge
    rw [List.getElem?_append, hxl] at hj
    split at hj
    · rename_i hlt
      rcases h12 with ⟨h1, h2⟩ | ⟨h1, h2⟩
      · rw [h2, if_pos (by omega), ← hj]; congr 1; omega
      · rw [h2, if_neg (by omega), h1, if_pos (by omega), ← hj]; congr 1; omega
    · rename_i hge2
      have hjl := (List.getElem?_eq_some_iff.1 hj).1
      rcases h12 with ⟨h1, h2⟩ | ⟨h1, h2⟩
      · rw [h2, if_neg (by omega), h1, if_pos (by omega), ← hj]; congr 1; omega
      · rw [h2, if_pos (by omega), ← hj]; congr 1; omega

set_option maxHeartbeats 1000000 in
theorem insA_ok {C : Ctx} {args : List Value} {M0 : Nat → Option AObj} {v : Value} {p : Option (Nat × List AVer)} (h : insA args M0 = some (v, p))
    {φ : Phi} {M : Nat → Option AObj} {w : World} {as' : Array Value} (hM : ∀ b x, M0 b = some x → M b = some x) (hR : R Tryz.prog C φ M w) (ha : VsRel φ args as'.toList) :
    (callFunc 111 as').run Tryz.prog w = .ok (.enter 111 as') w ∧ CallsIn Fence.wide 0 Tryz.prog 111 as' w (retPost fun v' w' => ∃ φ', φ.le φ' ∧ VRel φ' v v' ∧ R Tryz.prog C φ' (turned M p) w') := by
  refine ⟨Tryz.call111 _ _, ?_⟩
  unfold insA at h
  split at h
  case h_2 => cases h
  rename_i a n c i va m vc
  split at h
  case h_2 => cases h
  rename_i vs us hMa hMv
  split at h
  case h_2 => cases h
  rename_i ver1 ver2 hv hu
  split at h
  case isFalse => cases h
  rename_i hcond
  obtain ⟨rfl, he2, hi0, hin, hnc, hcs, hne, hlen, hlenu, hsc, hscu⟩ := hcond
  obtain ⟨k, rfl⟩ := Int.eq_ofNat_of_zero_le hi0
  simp only [Int.toNat_natCast] at hin h
  cases h
  obtain ⟨l1⟩ := as'
  cases ha with
  | cons _ s' _ r1 hs ha =>
  cases ha with
  | cons _ i' _ r2 hi ha =>
  cases ha with
  | cons _ v' _ r3 hv' ha =>
  cases ha
  cases hi
  cases hs with
  | slice0 => omega
  | slice _ l _ _ c' hl hcap =>
  cases hv' with
  | slice _ lv _ _ vc' hlv hcapv =>
  have hRa := hM _ _ hMa
  have hRv := hM _ _ hMv
  obtain ⟨hvers, hdom, hends⟩ := hR.obj _ _ hRa
  obtain ⟨hversu, _, _⟩ := hR.obj _ _ hRv
  obtain ⟨l', cc, t, g1, g2, g3, g4, g5⟩ := hvers _ ver1 hv
  rw [hl] at g1
  cases g1
  obtain ⟨lv', ccv, tv, f1, f2, f3, f4, f5⟩ := hversu _ ver2 hu
  rw [hlv] at f1
  cases f1
  have hcb : lv.cb ≠ l.cb := fun e => hne (hR.inj _ _ _ _ _ _ _ _ hRv hRa hlv hl e)
  have hl2 : l.esz = 0 ∨ l.esz = 2 := by rw [g4]; exact he2
  have hDl : (ver1.cells.drop a.off).length = ver1.cells.length - a.off := by simp
  have hUl : (ver2.cells.drop va.off).length = ver2.cells.length - va.off := by simp
  have hload : loadN C M a (n * 2) = some ((ver1.cells.drop a.off).take (n * 2)) := by
    unfold loadN cellsAt
    rw [hRa]
    simp only [hv]
    rw [if_pos (by rw [hDl]; omega)]
  have hloadv : loadN C M va 2 = some ((ver2.cells.drop va.off).take 2) := by
    unfold loadN cellsAt
    rw [hRv]
    simp only [hu]
    rw [if_pos (by rw [hUl]; omega)]
  obtain ⟨_, cs, hcells, hcl, hcrel, _⟩ := loadN_rel hR (a' := ⟨l.cb, a.off + l.sh, none⟩) ⟨l, hl, rfl⟩ hload
  obtain ⟨_, xs, hxcells, hxl, hxrel, _⟩ := loadN_rel hR (a' := ⟨lv.cb, va.off + lv.sh, none⟩) ⟨lv, hlv, rfl⟩ hloadv
  have hcells' : ∀ j x, cs[j]? = some x → w.cell? ⟨l.cb, a.off + l.sh + j, none⟩ = some x := fun j x hj => by
    have := hcells j x hj
    rwa [addr_add] at this
  have hxcells' : ∀ j x, xs[j]? = some x → w.cell? ⟨lv.cb, va.off + lv.sh + j, none⟩ = some x := fun j x hj => by
    have := hxcells j x hj
    rwa [addr_add] at this
  have hall : ∀ {a b : Nat} {z : List Value}, z.all scalar = true → ((z.drop a).take b).all scalar = true := by
    intro a b z hz
    rw [List.all_eq_true] at hz ⊢
    exact fun x hx => hz x (List.mem_of_mem_drop (List.mem_of_mem_take hx))
  have h1c : ∀ v ∈ cs, v.oneCell' = true := scalars_rel hcrel (hall hsc)
  have h1v : ∀ v ∈ xs, v.oneCell' = true := scalars_rel hxrel (hall hscu)
  have hat : ∀ j, w.cell? ⟨l.cb, j, none⟩ = cc[j]? := fun j => by simp [World.cell?, g2]
  have hsz : l.sh + ver1.cells.length ≤ cc.size := by
    have hpos : 0 < ver1.cells.length := by omega
    obtain ⟨x', hx', _⟩ := g5 (ver1.cells.length - 1) _ (List.getElem?_eq_getElem (by omega))
    have := (Array.getElem?_eq_some_iff.1 hx').1
    omega
  have hnc' : n ≤ c' := by rcases hcap with rfl | ⟨_, h2, _⟩ <;> omega
  have hcapc : a.off + l.sh + c' * 2 ≤ cc.size := by
    rcases hcap with rfl | ⟨h1, _, h2⟩
    · omega
    · have h3 : l.esz = 2 := by omega
      rw [h3] at h2; omega
  have hcc0 : ∀ j, j < n * 2 → cc[j + (a.off + l.sh)]? = cs[j]? := fun j hj => by
    obtain ⟨x, hx⟩ : ∃ x, cs[j]? = some x := ⟨_, List.getElem?_eq_getElem (by omega)⟩
    have := hcells' j x hx
    rw [hat] at this
    rw [hx, ← this, Nat.add_comm]
  -- the new cells
  have hnew : VsRel φ ((ver1.cells.drop a.off).take (k * 2) ++ ((ver2.cells.drop va.off).take 2 ++ ((ver1.cells.drop (a.off + k * 2)).take ((n - k) * 2)))) (cs.take (k * 2) ++ (xs ++ cs.drop (k * 2))) := by
    have h1 := hcrel.take (k * 2)
    have h2 := hcrel.drop (k * 2)
    rw [List.take_take, Nat.min_eq_left (by omega)] at h1
    rw [List.drop_take, List.drop_drop, show n * 2 - k * 2 = (n - k) * 2 by omega] at h2
    exact h1.append (hxrel.append h2)
  have hnewl : ((ver1.cells.drop a.off).take (k * 2) ++ ((ver2.cells.drop va.off).take 2 ++ ((ver1.cells.drop (a.off + k * 2)).take ((n - k) * 2)))).length = (n + 1) * 2 := by
    simp only [List.length_append, List.length_take, List.length_drop]
    omega
  have hus : setVer vs (ver a) (ver1.cells.take (a.off + k * 2)) = if a.off + k * 2 = ver1.cells.length ∧ ver1.cells ≠ [] then killAfter vs (ver a) else setVer vs (ver a) (ver1.cells.take (a.off + k * 2)) := by
    rw [if_neg (by omega)]
  by_cases hroom : n + 1 ≤ c'
  · have hsp : ∀ j, j < (n + 1) * 2 → (w.cell? ⟨l.cb, a.off + l.sh + j, none⟩).isSome = true := fun j hj => by
      rw [hat, Array.getElem?_eq_getElem (by omega)]; rfl
    have hcall := insert_shift l.cb (a.off + l.sh) n c' k lv.cb (va.off + lv.sh) 1 vc' cs xs w hin (by omega) hroom (by omega) hcb hcl hxl hcells' hsp
      (fun j hj => by simp [World.frozen?, g2]) hxcells' h1c h1v tv t ccv.size cc.size (by simp [World.shape?, f2]) (by simp [World.shape?, g2]) (by omega) (by simp [World.frozen?, f2]) (by simp [World.frozen?, f2])
    refine (callsIn_wide.2 hcall).mono fun e w' he => ?_
    obtain ⟨rfl, rfl⟩ := he
    obtain ⟨c1, m1, m2, m3⟩ := setCells_at l.cb t (0, 0) (cs.drop (k * 2)) (a.off + l.sh + (k + 1) * 2) w.drew cc g2 (by rw [List.length_drop]; omega)
    obtain ⟨c2, n1, n2, n3⟩ := setCells_at l.cb t (0, 0) xs (a.off + l.sh + k * 2) _ c1 m1 (by omega)
    obtain ⟨r1, r2, r3⟩ := setCells_rest l.cb xs (a.off + l.sh + k * 2) (w.drew.setCells l.cb (a.off + l.sh + (k + 1) * 2) (cs.drop (k * 2)))
    obtain ⟨q1, q2, q3⟩ := setCells_rest l.cb (cs.drop (k * 2)) (a.off + l.sh + (k + 1) * 2) w.drew
    have hthree := three_get cs xs k n (a.off + l.sh) cc c1 c2 hin hcl hxl (fun j hj => hcc0 j (by omega)) (.inl ⟨m3, n3⟩)
    have hws := (setCells_size l.cb xs (a.off + l.sh + k * 2) (w.drew.setCells l.cb (a.off + l.sh + (k + 1) * 2) (cs.drop (k * 2)))).trans (setCells_size l.cb (cs.drop (k * 2)) (a.off + l.sh + (k + 1) * 2) w.drew)
    obtain ⟨hle, hRn⟩ := hR.drew.version hRa hv (e := a.off + k * 2) hus
      (w' := (w.drew.setCells l.cb (a.off + l.sh + (k + 1) * 2) (cs.drop (k * 2))).setCells l.cb (a.off + l.sh + k * 2) xs)
      (nl := ⟨l.cb, a.off + l.sh, l.lim, 2⟩)
      (nv := ⟨2, (ver1.cells.drop a.off).take (k * 2) ++ ((ver2.cells.drop va.off).take 2 ++ ((ver1.cells.drop (a.off + k * 2)).take ((n - k) * 2)))⟩)
      (r1.trans q1) (r2.trans q2) (r3.trans q3) (by rw [hws]; exact Nat.le_refl _) (by rw [hws]; exact (hR.bound _ _ _ hl : l.cb < w.heap.size))
      (.inr ⟨l, cc, c2, t, hl, rfl, rfl, g2, n1, by rw [n2, m2], fun j hj => by rw [n3, if_neg (by omega), m3, if_neg (by omega)],
        fun cb hcb => (setCells_other _ hcb _ _ _).trans (setCells_other _ hcb _ _ _), by show l.sh + (a.off + k * 2) ≤ a.off + l.sh + _; rw [hnewl]; omega⟩)
      (fun ψ hψ hl2' => ⟨_, c2, t, hl2', n1, by rw [n2, m2]; exact g3, rfl, fun j x hj => by
        obtain ⟨x', p, q⟩ := hnew.get hj
        exact ⟨x', hthree j x' p, q.mono hψ⟩⟩)
    refine ⟨_, hle, ?_, hRn⟩
    have hmk : (⟨l.cb, a.off + l.sh, none⟩ : Addr) = ⟨l.cb, (mkAddr a.block vs.length 0).off + (a.off + l.sh), none⟩ := by simp [mkAddr]
    rw [hmk]
    refine VRel.slice (mkAddr a.block vs.length 0) ⟨l.cb, a.off + l.sh, l.lim, 2⟩ _ _ _ (by rw [ver_mk]; exact Phi.set_self φ _ _ _) (.inr ⟨Nat.zero_lt_succ 1, hroom, ?_⟩)
    simp only [mkAddr]
    rw [← g3]
    omega
  · have hcall := insert_grow l.cb (a.off + l.sh) n c' k lv.cb (va.off + lv.sh) 1 vc' cs xs w hin (by omega) hnc' (by omega) (by omega) hcl hxl hcells' hxcells' h1c h1v
    refine (callsIn_wide.2 hcall).mono fun e w' he => ?_
    obtain ⟨rfl, rfl⟩ := he
    have hge := grownCap_ge' w (n + 1) c' 82
    generalize hG : grownCap w (n + 1) c' 82 = G at hge ⊢
    generalize hZ : (Value.agg #[.int .i64 0, .slice none 0 0]).cells = Z
    have hZs : Z.size = 2 := by rw [← hZ]; rfl
    generalize hROW : ((cs.take (k * 2)).toArray ++ Builtin.zeroCells Z (n + 1 - k) ++ Builtin.zeroCells Z (G - (n + 1))) = ROW
    have hRs : ROW.size = G * 2 := by
      rw [← hROW]
      simp only [Array.size_append, List.size_toArray, zc_size, hZs, List.length_take, hcl]
      rw [Nat.min_eq_left (by omega)]
      omega
    have hR0 : ∀ j, j < k * 2 → ROW[j + 0]? = cs[j]? := fun j hj => by
      rw [← hROW, Nat.add_zero, Array.append_assoc, Array.getElem?_append_left (by simp; omega)]
      simp [hj]
    have hnb : ∀ cb, cb < w.heap.size → cb ≠ w.heap.size := fun cb hcb => by omega
    obtain ⟨c1, m1, m2, m3⟩ := setCells_at w.heap.size 82 (0, 0) xs (k * 2) (w.alloc (.cells ROW 82)).drew ROW (heap_alloc_self w _) (by omega)
    obtain ⟨c2, n1, n2, n3⟩ := setCells_at w.heap.size 82 (0, 0) (cs.drop (k * 2)) ((k + 1) * 2) ((w.alloc (.cells ROW 82)).drew.setCells w.heap.size (k * 2) xs).drew c1 m1 (by rw [List.length_drop]; omega)
    obtain ⟨r1, r2, r3⟩ := setCells_rest w.heap.size (cs.drop (k * 2)) ((k + 1) * 2) ((w.alloc (.cells ROW 82)).drew.setCells w.heap.size (k * 2) xs).drew
    obtain ⟨q1, q2, q3⟩ := setCells_rest w.heap.size xs (k * 2) (w.alloc (.cells ROW 82)).drew
    have hthree := three_get cs xs k n 0 ROW c1 c2 hin hcl hxl hR0 (.inr ⟨by simpa using m3, by simpa using n3⟩)
    have hws : (((w.alloc (.cells ROW 82)).drew.setCells w.heap.size (k * 2) xs).drew.setCells w.heap.size ((k + 1) * 2) (cs.drop (k * 2))).heap.size = w.heap.size + 1 := by
      rw [setCells_size]
      show ((w.alloc (.cells ROW 82)).drew.setCells w.heap.size (k * 2) xs).heap.size = _
      rw [setCells_size]
      show (w.alloc (.cells ROW 82)).heap.size = _
      simp
    obtain ⟨hle, hRn⟩ := hR.version hRa hv (e := a.off + k * 2) hus
      (w' := ((w.alloc (.cells ROW 82)).drew.setCells w.heap.size (k * 2) xs).drew.setCells w.heap.size ((k + 1) * 2) (cs.drop (k * 2)))
      (nl := ⟨w.heap.size, 0, ROW.size, 2⟩)
      (nv := ⟨2, (ver1.cells.drop a.off).take (k * 2) ++ ((ver2.cells.drop va.off).take 2 ++ ((ver1.cells.drop (a.off + k * 2)).take ((n - k) * 2)))⟩)
      (r1.trans q1) (r2.trans q2) (r3.trans q3) (by rw [hws]; omega) (by rw [hws]; exact Nat.lt_succ_self _)
      (.inl ⟨Nat.le_refl _, fun cb hcb => by
        rw [setCells_other _ (hnb cb hcb)]
        show ((w.alloc (.cells ROW 82)).drew.setCells w.heap.size (k * 2) xs).heap[cb]? = _
        rw [setCells_other _ (hnb cb hcb)]
        exact heap_alloc_below w _ hcb⟩)
      (fun ψ hψ hl2' => ⟨_, c2, 82, hl2', n1, by rw [n2, m2], rfl, fun j x hj => by
        obtain ⟨x', p, q⟩ := hnew.get hj
        exact ⟨x', hthree j x' p, q.mono hψ⟩⟩)
    refine ⟨_, hle, ?_, hRn⟩
    have hmk : (⟨w.heap.size, 0, none⟩ : Addr) = ⟨w.heap.size, (mkAddr a.block vs.length 0).off + 0, none⟩ := rfl
    rw [hmk]
    refine VRel.slice (mkAddr a.block vs.length 0) ⟨w.heap.size, 0, _, 2⟩ _ _ _ (by rw [ver_mk]; exact Phi.set_self φ _ _ _) (.inr ⟨Nat.zero_lt_succ 1, hge, ?_⟩)
    simp only [mkAddr]
    omega
end Go.Ai.Wire
