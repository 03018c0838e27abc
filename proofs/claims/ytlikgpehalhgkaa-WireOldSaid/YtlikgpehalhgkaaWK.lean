/-
  What an end is behind bytes that come, as the reference has it.
  The reference puts an early frame among the others.
  'Take'.
-/
import Derived.Test.YtlikgpehalhgkaaWJ
namespace Go.Ai.Wire
open Go.Proofs Go.IntWalk
attribute [local irreducible] Trie.put

/-- How many of the first frames the other end got. -/
def gone (g : Int) (l : List Itm) : Nat := (l.takeWhile fun y => decide (y.1 ≤ g)).length

/-- .. as the reference has it. -/
def takeR (x : EndA) (bs : List UInt8) : EndA × List (List UInt8) × List UInt8 :=
  match readB bs with
  | none => (x, [], [])
  | some (n, g, d) =>
    if x.last < g then (x, [], [])
    else if n = 0 then (⟨x.last, x.opens.drop (gone g x.opens), x.got, x.early⟩, [], [])
    else
      let e := if x.got + 1 ≤ n ∧ (n : Int) ≤ x.got + 8 then insI (n, d) x.early else x.early
      (⟨x.last, x.opens.drop (gone g x.opens), x.got + follow x.got e, e.drop (follow x.got e)⟩, (e.take (follow x.got e)).map (·.2), enc 0 (x.got + follow x.got e).toNat [])

theorem SortI.tail {y : Itm} {l : List Itm} (h : SortI (y :: l)) : SortI l := fun i hi h0 => by
  have := h (i + 1) (by simp; omega) (by omega)
  simp only [Nat.add_sub_cancel, List.getElem_cons_succ] at this
  obtain ⟨j, rfl⟩ : ∃ j, i = j + 1 := ⟨i - 1, by omega⟩
  simpa using this

theorem SortI.head {y : Itm} {l : List Itm} (h : SortI (y :: l)) : ∀ z ∈ l, y.1 < z.1 := by
  intro z hz
  obtain ⟨i, hi, rfl⟩ := List.mem_iff_getElem.1 hz
  have := h.lt (i + 1) 0 (by simp; omega) (by omega)
  simpa using this

theorem still_drop {g : Int} : ∀ {l : List Itm}, SortI l → l.drop (gone g l) = still g l
  | [], _ => rfl
  | y :: l, h => by
    have ih := still_drop (g := g) h.tail
    unfold gone still at *
    by_cases hy : y.1 ≤ g
    · simp only [List.takeWhile_cons, List.filter_cons, hy, decide_true, if_true, List.length_cons, List.drop_succ_cons, Bool.not_true, if_false, Bool.false_eq_true]
      exact ih
    · have : (l.filter fun y => !decide (y.1 ≤ g)) = l := by
        rw [List.filter_eq_self]
        intro z hz
        have := h.head z hz
        simp
        omega
      simp [hy, this]

theorem EndOK.sortO {x : EndA} (h : EndOK x) : SortI x.opens := fun i hi h0 => by
  have h1 := (h.2.2.2.1 i hi).1
  have h2 := (h.2.2.2.1 (i - 1) (by omega)).1
  omega

theorem follow_zero {got : Int} {l : List Itm} (h : ∀ y ∈ l, got + 2 ≤ y.1) : follow got l = 0 := by
  cases l with
  | nil => rfl
  | cons y r =>
    have := h y (by simp)
    unfold follow
    rw [if_neg (by omega)]

theorem mem_insI {y z : Itm} : ∀ {l : List Itm}, z ∈ insI y l → z = y ∨ z ∈ l
  | [], h => by simpa [insI] using h
  | u :: r, h => by
    unfold insI at h
    split at h
    · rcases List.mem_cons.1 h with h | h
      · exact .inr (by simp [h])
      · rcases mem_insI h with h | h
        · exact .inl h
        · exact .inr (by simp [h])
    · split at h
      · exact .inr h
      · rcases List.mem_cons.1 h with h | h
        · exact .inl h
        · exact .inr h

theorem insI_front {y : Itm} {l : List Itm} (h : ∀ z ∈ l, y.1 < z.1) : insI y l = y :: l := by
  cases l with
  | nil => rfl
  | cons z r =>
    have := h z (by simp)
    unfold insI
    rw [if_neg (by omega), if_neg (by omega)]

theorem EndOK.early_mem {x : EndA} (h : EndOK x) {y : Itm} (hy : y ∈ x.early) : x.got + 2 ≤ y.1 ∧ y.1 ≤ x.got + 8 ∧ y.1 ≤ 60000 ∧ FrameOK y.2 := by
  obtain ⟨i, hi, rfl⟩ := List.mem_iff_getElem.1 hy
  have := h.2.2.2.2 i hi
  exact ⟨this.1, by omega, by omega, this.2.2.2⟩

theorem takeR_eq {x : EndA} (h : EndOK x) (bs : List UInt8) : takeR x bs = takeF x bs := by
  unfold takeR takeF
  cases hr : readB bs with
  | none => rfl
  | some y =>
    obtain ⟨n, g, d⟩ := y
    dsimp only
    by_cases hl : x.last < g
    · rw [if_pos hl, if_pos hl]
    · rw [if_neg hl, if_neg hl, still_drop h.sortO]
      by_cases hn : n = 0
      · rw [if_pos hn, if_pos hn]
      · rw [if_neg hn, if_neg hn]
        have hz : follow x.got x.early = 0 := follow_zero fun y hy => (h.early_mem hy).1
        by_cases h1 : (n : Int) - x.got = 1
        · rw [if_pos (show x.got + 1 ≤ (n : Int) ∧ (n : Int) ≤ x.got + 8 by omega), if_pos h1]
          rw [insI_front (fun z hz => by have := (h.early_mem hz).1; dsimp only; omega)]
          have e : follow x.got ((↑n, d) :: x.early) = follow (x.got + 1) x.early + 1 := by
            rw [follow, if_pos (by dsimp only; omega)]
          rw [e]
          have e2 : x.got + ((follow (x.got + 1) x.early + 1 : Nat) : Int) = x.got + 1 + follow (x.got + 1) x.early := by omega
          rw [e2]
          simp [handed, hands]
        · rw [if_neg h1]
          by_cases h2 : 2 ≤ (n : Int) - x.got ∧ (n : Int) - x.got ≤ 8
          · rw [if_pos (show x.got + 1 ≤ (n : Int) ∧ (n : Int) ≤ x.got + 8 by omega), if_pos h2]
            have hz' : follow x.got (insI (n, d) x.early) = 0 := follow_zero fun y hy => by
              rcases mem_insI hy with rfl | hy
              · dsimp only; omega
              · exact (h.early_mem hy).1
            rw [hz']
            simp
          · rw [if_neg (show ¬ (x.got + 1 ≤ (n : Int) ∧ (n : Int) ≤ x.got + 8) by omega), if_neg h2, hz]
            simp

theorem insI_len (y : Itm) : ∀ l : List Itm, (insI y l).length ≤ l.length + 1
  | [] => by simp [insI]
  | z :: r => by
    unfold insI
    have := insI_len y r
    split
    · simp; omega
    · split <;> simp

theorem takeF_size (x : EndA) (bs : List UInt8) : (takeF x bs).1.opens.length ≤ x.opens.length ∧ (takeF x bs).1.early.length ≤ x.early.length + 1 ∧ (takeF x bs).2.1.length ≤ x.early.length + 1 := by
  have hs : ∀ g, (still g x.opens).length ≤ x.opens.length := fun g => List.length_filter_le _ _
  unfold takeF
  cases hr : readB bs with
  | none => simp
  | some y =>
    obtain ⟨n, g, d⟩ := y
    have h1 := hs g
    have h2 := insI_len ((n : Int), d) x.early
    dsimp only
    split
    · simp
    · split
      · dsimp only; simp; omega
      · split
        · simp only [handed, hands, List.length_drop, List.length_cons, List.length_map, List.length_take]
          omega
        · split
          · dsimp only; simp; omega
          · dsimp only; simp; omega

end Go.Ai.Wire

namespace Go.Ai
theorem loadN_same {C : Ctx} {H H' : AHeap} (hs : Same H H') {a : Addr} {n : Nat} {l : List Value} (h : loadN C H.get a n = some l) : loadN C H'.get a n = some l := by
  rw [loadN_congr (M := H.get) (hs.same _ (load_lt hs.wf h))]
  exact h
end Go.Ai
namespace Go.Ai.Wire
open Go.Proofs Go.IntWalk
attribute [local irreducible] Trie.put

/-- The frames so far: the new one is among them, or it has not come yet. -/
def SoFar (l : List Itm) (y : Itm) (i : Nat) (put : Bool) (m : List Itm) : Prop :=
  (put = false ∧ m = l.take i ∧ ∀ j (hj : j < l.length), j < i → l[j].1 < y.1) ∨
  (put = true ∧ ∃ t, t < i ∧ PosI l y.1 t ∧ (¬ ∃ h : t < l.length, l[t].1 = y.1) ∧ m = l.take t ++ y :: (l.take i).drop t)

theorem SoFar.len {l : List Itm} {y : Itm} {i : Nat} {put : Bool} {m : List Itm} (h : SoFar l y i put m) : m.length ≤ l.length + 1 := by
  rcases h with ⟨_, rfl, _⟩ | ⟨_, t, _, _, _, rfl⟩
  · simp; omega
  · simp; omega

theorem take_snoc {l : List Itm} {i : Nat} (h : i < l.length) : l.take (i + 1) = l.take i ++ [l[i]] := by
  rw [List.take_add_one, List.getElem?_eq_getElem h]
  rfl

theorem drop_snoc {l : List Itm} {i t : Nat} (h : i < l.length) (ht : t ≤ i) : (l.take (i + 1)).drop t = (l.take i).drop t ++ [l[i]] := by
  rw [take_snoc h, List.drop_append_of_le_length (by rw [List.length_take]; omega)]

/-- A new row of what lies there already. -/
def RowE (C : Ctx) (H0 H1 : AHeap) (col : Nat → Nat) (H : AHeap) (v : Value) (m : List Itm) : Prop :=
  Same H1 H ∧ ∃ g cs, NB H v g 2 m.length cs ∧ (m ≠ [] → H1.next ≤ g) ∧ ItC C H0 m cs ∧ Plain col cs

section
variable {C : Ctx} {H0 H1 H : AHeap} {col : Nat → Nat}
theorem RowE.nil (hw : WF H) : RowE C H0 H col H (.slice none 0 0) [] := ⟨Same.refl hw, 0, [], .inl ⟨rfl, rfl, rfl⟩, fun h => absurd rfl h, .nil, fun v hv => by cases hv⟩
theorem RowE.same {H' : AHeap} (hs : Same H H') {v : Value} {m : List Itm} (h : RowE C H0 H1 col H v m) : RowE C H0 H1 col H' v m := by
  obtain ⟨h1, g, cs, h2, h3⟩ := h
  exact ⟨h1.trans hs, g, cs, h2.same hs, h3⟩

theorem RowE.done (k : Nat) (h01 : Same H0 H1) (hb : Bare col H0) {v : Value} {m : List Itm} (h : RowE C H0 H1 col H v m) : ∃ col', Step [] H0 col H col' ∧ WIts C H col' k v m := by
  obtain ⟨hs, g, cs, hn, hg, hi, hp⟩ := h
  have hs := h01.trans hs
  rcases hn with ⟨h1, h2, h3⟩ | ⟨h1, h2⟩
  · have := List.length_eq_zero_iff.1 h2
    subst this h1 h3
    exact ⟨col, Step.of_same hs hb, 0, [], .inl ⟨rfl, rfl, rfl⟩, fun h => absurd rfl h, .nil, fun v hv => by cases hv⟩
  · have hg := hg (fun h => h1 (by rw [h]; rfl))
    have st : Step [] H0 col H (paint col g k) := Step.of_made hs hb (Nat.le_trans h01.grow.next hg) (h2.lt hs.wf')
    exact ⟨_, st, WIts.of h2.g (by simp [paint]) (hi.same hs) (Plain.keep st hi hp)⟩

theorem w_appE {T : Env} {d : Option Nat} {r : List IOper} {K : Env → AHeap → Prop} {s x : IOpd} {m : List Itm} {n : Int} {dd : List UInt8} {dv : Value} (h : RowE C H0 H1 col H (s.val T.val) m) (hx : Row C H (x.val T.val) 2 1 [.int .i64 n, dv]) (hd : Bs C H0 dv dd) (hp : Plain col [.int .i64 n, dv])
    (hl : m.length ≤ 2000) (hk : ∀ v H', RowE C H0 H1 col H' v (m ++ [(n, dd)]) → wpO C r K (putDst T d v) H') : wpO C (⟨d, .append 2 32 s x, none⟩ :: r) K T H := by
  obtain ⟨h1, g, cs, h2, h3, h4, h5⟩ := h
  obtain ⟨da, dc, rfl⟩ := hd.val
  have n1 := h1.grow.next
  refine w_appN (g := g) (n := m.length) (m := 1) (cs := cs) (xs := [.int .i64 n, .slice da dd.length dc]) h1.wf' h2 hx (by simp) (by simp) (by simp [roomy]; omega) fun v4 H4 g4 hg4 hb4 => ?_
  refine hk _ _ ⟨?_, g4, _, .inr ⟨by simp, by simpa using hb4⟩, fun _ => ?_, h4.app (.cons hd .nil), h5.app hp⟩
  · rcases hg4 with ⟨_, _, h⟩ | ⟨h0, rfl, _, h⟩
    · exact h1.trans h
    · exact h1.then_mod h (h3 fun he => h0 (by rw [he]; rfl))
  · rcases hg4 with ⟨_, rfl, _⟩ | ⟨h0, rfl, _, _⟩
    · omega
    · exact h3 fun he => h0 (by rw [he]; rfl)
end

set_option maxHeartbeats 1000000 in
theorem refEarly_spec (w : World) {H : AHeap} (hw : WF H) {col : Nat → Nat} (hbare : Bare col H) {k : Nat} {v : Value} {l : List Itm} (hv : WIts (ctxW w) H col k v l) (hsl : SortI l) (hsm : l.length ≤ 1000) {n : Int} {d : List UInt8} {dv : Value} (hd : Bs (ctxW w) H dv d)
    (hdp : ∀ a n c, dv = .slice (some a) n c → n ≠ 0 → col a.block = 0) :
    wpCall (ctxW w) (.func (.func 59) #[] #[]) [v, itV n dv] H fun r H' => ∃ col', Step [] H col H' col' ∧ WIts (ctxW w) H' col' k r (insI (n, d) l) := by
  obtain ⟨a, c, rfl⟩ := hv.val
  obtain ⟨da, dc, rfl⟩ := hd.val
  refine wpCall_fn rfl (get59 w) ?_
  simp [ir59]
  refine w_box (cs := [.int .i64 n, .slice da d.length dc]) hw (by simp [itV]) rfl (by simp) fun p H1 hp => ?_
  simp
  have hyp : Plain col [.int .i64 n, .slice da d.length dc] := by
    intro u hu a m c he hm
    simp only [List.mem_cons, List.not_mem_nil, or_false] at hu
    rcases hu with rfl | rfl
    · cases he
    · exact hdp a m c he hm
  refine wp_loop' (fun N s => ∃ (T : Env) (H2 : AHeap) (i : Nat) (m : List Itm) (put : Bool), s = ⟨T, H2, []⟩ ∧ N = l.length - i ∧ i ≤ l.length ∧ T.val 0 = .slice a l.length c ∧ T.val 3 = .pointer (some ⟨p, 0, none⟩) ∧ T.val 6 = .bool put ∧ T.val 7 = .int .i64 i ∧
      SoFar l (n, d) i put m ∧ RowE (ctxW w) H H1 col H2 (T.val 5) m) (n := l.length)
      ⟨_, H1, 0, [], false, rfl, rfl, Nat.zero_le _, by simp, by simp, by simp, by simp, .inl ⟨rfl, by simp, fun j _ h => by omega⟩, by simpa using RowE.nil hp.same.wf'⟩ ?_
  rintro N s K ⟨T, H2, i, m, put, rfl, rfl, hil, t0, t3, t6, t7, hsf, hrow⟩ hnext hexit
  have hs02 := hp.same.trans hrow.1
  have hp2 := hp.obj.same hrow.1
  have ldp := fun off n => Obj1.load (C := ctxW w) (off := off) (n := n) hp2
  have hlen := hsf.len
  by_cases hlt : i < l.length
  · obtain ⟨b, ya, yc, rfl, l1H, l2H, l3H, hyH⟩ := hv.its.at hlt
    obtain ⟨g0, cs0, _, hb0, _, hic0, hpl0⟩ := hv.cells
    obtain ⟨_, _, he0, _, _, hcl0, hld0⟩ := hb0.load (C := ctxW w)
    cases he0
    have l1 := loadN_same hs02 l1H
    have l3 := loadN_same hs02 l3H
    have e3 : (i : Int) < l.length := by omega
    have hxs : [Value.int .i64 l[i].1, .slice ya l[i].2.length yc] = (cs0.drop (i * 2)).take 2 := by
      have h2 := loadN_sub hld0 (i := i * 2) (m := 2) (by omega)
      rw [l3H] at h2
      exact Option.some.inj h2
    have hypl : Plain col [Value.int .i64 l[i].1, .slice ya l[i].2.length yc] := by
      rw [hxs]
      exact (hpl0.drop _).take _
    have wi : IntKind.i64.wrap ((i : Int) + 1) = i + 1 := i64_in _ (by omega)
    have next : ∀ (T3 : Env) (H3 : AHeap) (m3 : List Itm) (put3 : Bool), T3.val 0 = .slice (some b) l.length c → T3.val 3 = .pointer (some ⟨p, 0, none⟩) → T3.val 6 = .bool put3 → T3.val 7 = .int .i64 ((i : Int) + 1) → SoFar l (n, d) (i + 1) put3 m3 → RowE (ctxW w) H H1 col H3 (T3.val 5) m3 → K .normal ⟨T3, H3, []⟩ := by
      intro T3 H3 m3 put3 h0 h3 h6 h7 h8 h9
      exact hnext (l.length - (i + 1)) _ (by omega) ⟨T3, H3, i + 1, m3, put3, rfl, rfl, by omega, h0, h3, h6, h7, h8, h9⟩
    simp [t0, t3, t7, e3, l1, ldp]
    by_cases heq : l[i].1 = n
    · simp [heq, t0]
      refine hexit _ _ (by simp) ?_
      simp
      have hpos : PosI l n i := ⟨hil, fun j hj hji => by have := hsl.lt i j hlt hji; omega, fun j hj hij => by
        rcases Nat.lt_or_eq_of_le hij with h | h
        · have := hsl.lt j i hj h; omega
        · subst h; omega⟩
      have := insI_pos (y := (n, d)) hpos
      rw [if_pos ⟨hlt, heq⟩] at this
      rw [this]
      have st : Step [] H col H2 col := Step.of_same hs02 hbare
      exact ⟨col, st, hv.step st (by simp) (by simp)⟩
    · by_cases hgt : n < l[i].1
      · cases put with
        | false =>
          rcases hsf with ⟨_, rfl, hbef⟩ | ⟨h, _⟩
          rotate_left
          · cases h
          simp [heq, hgt, t0, t3, t6, t7, e3, l1, ldp]
          refine w_bs (esz := 2) (cs := [.int .i64 n, .slice da d.length dc]) hs02.wf' (by simp) (by simp) (by simp) fun q3 H3 hq3 hb3 => ?_
          simp
          refine w_appE (m := l.take i) (n := n) (dd := d) (dv := .slice da d.length dc) (by simpa using hrow.same hq3.same) (by simpa using hb3.row) hd hyp (by omega) fun v4 H4 hrow4 => ?_
          have hs04 := hp.same.trans hrow4.1
          have l34 := loadN_same hs04 l3H
          simp [t0, t3, t7, e3, l34]
          refine w_bs (esz := 2) (cs := [.int .i64 l[i].1, .slice ya l[i].2.length yc]) hs04.wf' (by simp) (by simp) (by simp) fun q5 H5 hq5 hb5 => ?_
          simp
          refine w_appE (m := l.take i ++ [(n, d)]) (n := l[i].1) (dd := l[i].2) (dv := .slice ya l[i].2.length yc) (by simpa using hrow4.same hq5.same) (by simpa using hb5.row) hyH hypl (by simp; omega) fun v6 H6 hrow6 => ?_
          simp [t7, wi]
          refine next _ H6 _ true (by simp [t0]) (by simp [t3]) (by simp) (by simp) (.inr ⟨rfl, i, by omega, ⟨hil, hbef, fun j hj hij => by
            rcases Nat.lt_or_eq_of_le hij with h | h
            · have := hsl.lt j i hj h; dsimp only; omega
            · subst h; dsimp only; omega⟩, fun ⟨_, h⟩ => heq h, ?_⟩) (by simpa using hrow6)
          rw [drop_snoc hlt (Nat.le_refl _)]
          simp
        | true =>
          rcases hsf with ⟨h, _⟩ | ⟨_, t, hti, hpos, hne, rfl⟩
          · cases h
          simp [heq, hgt, t0, t3, t6, t7, e3, l1, l3, ldp]
          refine w_bs (esz := 2) (cs := [.int .i64 l[i].1, .slice ya l[i].2.length yc]) hs02.wf' (by simp) (by simp) (by simp) fun q5 H5 hq5 hb5 => ?_
          simp
          refine w_appE (m := l.take t ++ (n, d) :: (l.take i).drop t) (n := l[i].1) (dd := l[i].2) (dv := .slice ya l[i].2.length yc) (by simpa using hrow.same hq5.same) (by simpa using hb5.row) hyH hypl (by omega) fun v6 H6 hrow6 => ?_
          simp [t7, wi]
          refine next _ H6 _ true (by simp [t0]) (by simp [t3]) (by simp [t6]) (by simp) (.inr ⟨rfl, t, by omega, hpos, hne, ?_⟩) (by simpa using hrow6)
          rw [drop_snoc hlt (by omega)]
      · cases put with
        | true =>
          rcases hsf with ⟨h, _⟩ | ⟨_, t, hti, hpos, hne, rfl⟩
          · cases h
          have h1 := hpos.beh t (by omega) (Nat.le_refl _)
          have h2 := hsl.lt i t hlt hti
          dsimp only at h1
          omega
        | false =>
          rcases hsf with ⟨_, rfl, hbef⟩ | ⟨h, _⟩
          rotate_left
          · cases h
          simp [heq, hgt, t0, t3, t6, t7, e3, l1, l3, ldp]
          refine w_bs (esz := 2) (cs := [.int .i64 l[i].1, .slice ya l[i].2.length yc]) hs02.wf' (by simp) (by simp) (by simp) fun q5 H5 hq5 hb5 => ?_
          simp
          refine w_appE (m := l.take i) (n := l[i].1) (dd := l[i].2) (dv := .slice ya l[i].2.length yc) (by simpa using hrow.same hq5.same) (by simpa using hb5.row) hyH hypl (by omega) fun v6 H6 hrow6 => ?_
          simp [t7, wi]
          refine next _ H6 _ false (by simp [t0]) (by simp [t3]) (by simp [t6]) (by simp) (.inl ⟨rfl, rfl, fun j hj hji => ?_⟩) (by simp; rw [take_snoc hlt]; exact hrow6)
          rcases Nat.lt_or_eq_of_le (Nat.le_of_lt_succ hji) with h | h
          · exact hbef j hj h
          · subst h; dsimp only; omega
  · have : i = l.length := by omega
    subst this
    simp [t0, t3, t7]
    refine hexit _ _ (by simp) ?_
    cases put with
    | false =>
      rcases hsf with ⟨_, rfl, hbef⟩ | ⟨h, _⟩
      rotate_left
      · cases h
      simp [t3, t6, ldp]
      refine w_bs (esz := 2) (cs := [.int .i64 n, .slice da d.length dc]) hs02.wf' (by simp) (by simp) (by simp) fun q3 H3 hq3 hb3 => ?_
      simp
      refine w_appE (m := l.take l.length) (n := n) (dd := d) (dv := .slice da d.length dc) (by simpa using hrow.same hq3.same) (by simpa using hb3.row) hd hyp (by omega) fun v4 H4 hrow4 => ?_
      simp
      have hpos : PosI l n l.length := ⟨Nat.le_refl _, fun j hj _ => hbef j hj hj, fun j hj h => by omega⟩
      have := insI_pos (y := (n, d)) hpos
      rw [if_neg (by rintro ⟨h, _⟩; omega), List.drop_length] at this
      rw [this]
      exact hrow4.done k hp.same hbare
    | true =>
      rcases hsf with ⟨h, _⟩ | ⟨_, t, hti, hpos, hne, rfl⟩
      · cases h
      simp [t6]
      have := insI_pos (y := (n, d)) hpos
      rw [if_neg hne] at this
      rw [this]
      rw [List.take_length] at hrow
      exact hrow.done k hp.same hbare
end Go.Ai.Wire

namespace Go.Ai.Wire
open Go.Proofs Go.IntWalk
attribute [local irreducible] Trie.put

/-- What 'Take' gives. -/
def TakeRes (C : Ctx) (H : AHeap) (x : EndA) (bs : List UInt8) (r : Value) (H' : AHeap) : Prop :=
  Same H H' ∧ ∃ ev fv rv e, r = .tuple #[ev, fv, rv, .int .i64 e] ∧
    ((EndOK x ∧ e = 0 ∧ EndR C H' (takeF x bs).1 ev ∧ Frs C H' fv (takeF x bs).2.1 ∧ Bs C H' rv (takeF x bs).2.2) ∨ (¬ EndOK x ∧ e = 4 ∧ EndR C H' ⟨0, [], 0, []⟩ ev ∧ Frs C H' fv [] ∧ Bs C H' rv []))

theorem TakeRes.bad {C : Ctx} {H H' : AHeap} {x : EndA} {bs : List UInt8} (hs : Same H H') (h : ¬ EndOK x) : TakeRes C H x bs (.tuple #[.agg #[.int .i64 0, .slice none 0 0, .int .i64 0, .slice none 0 0], .slice none 0 0, .slice none 0 0, .int .i64 4]) H' :=
  ⟨hs, _, _, _, _, rfl, .inr ⟨h, rfl, zeroEnd C H', Frs.nil C H', Bs.nil C H'⟩⟩

set_option maxHeartbeats 1000000 in
theorem wireTake_spec (w : World) {H : AHeap} (hw : WF H) {x : EndA} {v u : Value} {bs : List UInt8} (hx : EndR (ctxW w) H x v) (hsm : EndS x) (hb : BsS (ctxW w) H u bs) (hbl : bs.length ≤ 500) : wpCall (ctxW w) (.func (.func 28) #[] #[]) [v, u] H (TakeRes (ctxW w) H x bs) := by
  obtain ⟨ov, ev, rfl, ho, he⟩ := hx
  obtain ⟨a1, c1, rfl⟩ := ho.val
  obtain ⟨a2, c2, rfl⟩ := he.val
  obtain ⟨da, dc, rfl⟩ := hb.1.val
  refine wpCall_fn rfl (get28 w) ?_
  simp [ir28]
  refine w_box (cs := [.int .i64 x.last, .slice a1 x.opens.length c1, .int .i64 x.got, .slice a2 x.early.length c2]) hw (by simp [endV]) rfl (by simp) fun p H1 hp => ?_
  refine w_mk hp.same.wf' fun t H2 ht => ?_
  have hs02 := hp.same.trans ht.same
  have ld2 := fun off n => Obj1.load (C := ctxW w) (off := off) (n := n) (hp.obj.same ht.same)
  have nt := ht.new
  have nt' := ht.next
  have n01 := hp.same.grow.next
  simp [ld2]
  refine wpCall_mono (open_spec w hs02.wf' (x := x) ⟨_, _, rfl, ho.same hs02, he.same hs02⟩ hsm) ?_
  rintro r H3 ⟨hs3, ⟨hok, q, rfl, hq⟩ | ⟨hok, rfl⟩⟩
  · have hs03 := hs02.trans hs3
    have ht3 := ht.obj.same hs3
    simp
    obtain ⟨col, st, hwq⟩ := EndP.w (col := paint (fun _ => 0) t 9) (k := 1) hs3 (fun b hb => by unfold paint; rw [if_neg (by omega)]) (Nat.le_refl _) (Nat.le_refl _) hq
    refine wpCall_mono (take_spec w hs03.wf' st.bare (by omega) hwq hok hsm.2.1 (hb.same hs03) hbl) ?_
    rintro r4 H4 ⟨col', fv, rv, rfl, st4, hw4, hf4, hr4, hrp4⟩
    have hlow : Same H2 H4 := by
      refine ⟨hs02.wf', hs3.grow.trans st4.grow, fun b hb => ?_⟩
      have hc : col b ∉ [1, 1 + 1, 1 + 2] := by
        rw [st.keep b hb]
        unfold paint
        split <;> simp
      rw [st4.same b (by have := hs3.grow.next; omega) hc, hs3.same b hb]
    have hs04 := hs02.trans hlow
    have ht4 := ht.obj.same hlow
    obtain ⟨ov4, ev4, ho4, hc4, hi4, hj4⟩ := hw4
    have ldq := fun off n => Obj1.load (C := ctxW w) (off := off) (n := n) ho4
    obtain ⟨a5, c5, rfl⟩ := hi4.val
    obtain ⟨a6, c6, rfl⟩ := hj4.val
    obtain ⟨a7, c7, rfl⟩ := hf4.val
    obtain ⟨a8, c8, rfl⟩ := hr4.val
    simp [ldq]
    have hct : col' t = 9 := by
      rw [st4.keep t (by have := hs3.grow.next; omega), st.keep t (by omega)]
      simp [paint]
    refine w_store (p := t) (off := 0) (xs := [.int .i64 (takeF x bs).1.last, .slice a5 (takeF x bs).1.opens.length c5, .int .i64 (takeF x bs).1.got, .slice a6 (takeF x bs).1.early.length c6]) hs04.wf' ht4 (by simp) (by simp) rfl (by simp) (by simp) (by simp) fun H5 hm5 hn5 ho5 => ?_
    have ld5 := fun off n => Obj1.load (C := ctxW w) (off := off) (n := n) ho5
    simp [ld5]
    have st5 : Step [9] H4 col' H5 col' := Step.of_mod hm5 st4.bare (by rw [hct]; simp)
    refine ⟨hs04.then_mod hm5 (by omega), _, _, _, _, rfl, .inl ⟨hok, rfl, ⟨_, _, rfl, (hi4.step st5 (by simp) (by simp)).its, (hj4.step st5 (by simp) (by simp)).its⟩, (hf4.step st5 (by simp)).frs, Bs.step st5 (by simp) hr4 hrp4⟩⟩
  · have hs03 := hs02.trans hs3
    have ht3 := ht.obj.same hs3
    have ld3 := fun off n => Obj1.load (C := ctxW w) (off := off) (n := n) ht3
    simp [ld3]
    refine w_store (p := t) (off := 0) (xs := [.int .i64 0, .slice none 0 0, .int .i64 0, .slice none 0 0]) hs03.wf' ht3 (by simp) (by simp) rfl (by simp) (by simp) (by simp) fun H5 hm5 hn5 ho5 => ?_
    have ld5 := fun off n => Obj1.load (C := ctxW w) (off := off) (n := n) ho5
    simp [ld5]
    exact TakeRes.bad (hs03.then_mod hm5 (by omega)) hok
end Go.Ai.Wire
