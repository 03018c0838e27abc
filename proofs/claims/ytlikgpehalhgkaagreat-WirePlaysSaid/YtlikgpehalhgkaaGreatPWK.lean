/-
  What an end is behind bytes that come, as the reference has it.
  The reference puts an early frame among the others.
  'Take'.
  'Take' of the reference.
-/
import Derived.Test.YtlikgpehalhgkaaGreatPWJ
import Derived.Test.YtlikgpehalhgkaaGreatPWH
namespace Go.Ai.Wire
open Go.Proofs Go.IntWalk
attribute [local irreducible] Trie.put

/-- How many of the first frames the other end got. -/
def gone (g : Int) (l : List Itm) : Nat := (l.takeWhile fun y => decide (y.1 ≤ g)).length

/-- .. as the reference has it. -/
def takeR (x : EndA) (bs : List UInt8) : EndA × List (List UInt8) × List UInt8 :=
  match readB bs with
  | none => (x, [], [])
  | some (n, g, d) =>
    if x.last < g then (x, [], [])
    else if n = 0 then (⟨x.last, x.opens.drop (gone g x.opens), x.got, x.early⟩, [], [])
    else
      let e := if x.got + 1 ≤ n ∧ (n : Int) ≤ x.got + 8 then insI (n, d) x.early else x.early
      (⟨x.last, x.opens.drop (gone g x.opens), x.got + follow x.got e, e.drop (follow x.got e)⟩, (e.take (follow x.got e)).map (·.2), enc 0 (x.got + follow x.got e).toNat [])

theorem SortI.tail {y : Itm} {l : List Itm} (h : SortI (y :: l)) : SortI l := fun i hi h0 => by
  have := h (i + 1) (by simp; omega) (by omega)
  simp only [Nat.add_sub_cancel, List.getElem_cons_succ] at this
  obtain ⟨j, rfl⟩ : ∃ j, i = j + 1 := ⟨i - 1, by omega⟩
  simpa using this

theorem SortI.head {y : Itm} {l : List Itm} (h : SortI (y :: l)) : ∀ z ∈ l, y.1 < z.1 := by
  intro z hz
  obtain ⟨i, hi, rfl⟩ := List.mem_iff_getElem.1 hz
  have := h.lt (i + 1) 0 (by simp; omega) (by omega)
  simpa using this

theorem still_drop {g : Int} : ∀ {l : List Itm}, SortI l → l.drop (gone g l) = still g l
  | [], _ => rfl
  | y :: l, h => by
    have ih := still_drop (g := g) h.tail
    unfold gone still at *
    by_cases hy : y.1 ≤ g
    · simp only [List.takeWhile_cons, List.filter_cons, hy, decide_true, if_true, List.length_cons, List.drop_succ_cons, Bool.not_true, if_false, Bool.false_eq_true]
      exact ih
    · have : (l.filter fun y => !decide (y.1 ≤ g)) = l := by
        rw [List.filter_eq_self]
        intro z hz
        have := h.head z hz
        simp
        omega
      simp [hy, this]

theorem EndOK.sortO {x : EndA} (h : EndOK x) : SortI x.opens := fun i hi h0 => by
  have h1 := (h.2.2.2.1 i hi).1
  have h2 := (h.2.2.2.1 (i - 1) (by omega)).1
  omega

theorem follow_zero {got : Int} {l : List Itm} (h : ∀ y ∈ l, got + 2 ≤ y.1) : follow got l = 0 := by
  cases l with
  | nil => rfl
  | cons y r =>
    have := h y (by simp)
    unfold follow
    rw [if_neg (by omega)]

theorem mem_insI {y z : Itm} : ∀ {l : List Itm}, z ∈ insI y l → z = y ∨ z ∈ l
  | [], h => by simpa [insI] using h
  | u :: r, h => by
    unfold insI at h
    split at h
    · rcases List.mem_cons.1 h with h | h
      · exact .inr (by simp [h])
      · rcases mem_insI h with h | h
        · exact .inl h
        · exact .inr (by simp [h])
    · split at h
      · exact .inr h
      · rcases List.mem_cons.1 h with h | h
        · exact .inl h
        · exact .inr h

theorem insI_front {y : Itm} {l : List Itm} (h : ∀ z ∈ l, y.1 < z.1) : insI y l = y :: l := by
  cases l with
  | nil => rfl
  | cons z r =>
    have := h z (by simp)
    unfold insI
    rw [if_neg (by omega), if_neg (by omega)]

theorem EndOK.early_mem {x : EndA} (h : EndOK x) {y : Itm} (hy : y ∈ x.early) : x.got + 2 ≤ y.1 ∧ y.1 ≤ x.got + 8 ∧ y.1 ≤ 60000 ∧ FrameOK y.2 := by
  obtain ⟨i, hi, rfl⟩ := List.mem_iff_getElem.1 hy
  have := h.2.2.2.2 i hi
  exact ⟨this.1, by omega, by omega, this.2.2.2⟩

theorem takeR_eq {x : EndA} (h : EndOK x) (bs : List UInt8) : takeR x bs = takeF x bs := by
  unfold takeR takeF
  cases hr : readB bs with
  | none => rfl
  | some y =>
    obtain ⟨n, g, d⟩ := y
    dsimp only
    by_cases hl : x.last < g
    · rw [if_pos hl, if_pos hl]
    · rw [if_neg hl, if_neg hl, still_drop h.sortO]
      by_cases hn : n = 0
      · rw [if_pos hn, if_pos hn]
      · rw [if_neg hn, if_neg hn]
        have hz : follow x.got x.early = 0 := follow_zero fun y hy => (h.early_mem hy).1
        by_cases h1 : (n : Int) - x.got = 1
        · rw [if_pos (show x.got + 1 ≤ (n : Int) ∧ (n : Int) ≤ x.got + 8 by omega), if_pos h1]
          rw [insI_front (fun z hz => by have := (h.early_mem hz).1; dsimp only; omega)]
          have e : follow x.got ((↑n, d) :: x.early) = follow (x.got + 1) x.early + 1 := by
            rw [follow, if_pos (by dsimp only; omega)]
          rw [e]
          have e2 : x.got + ((follow (x.got + 1) x.early + 1 : Nat) : Int) = x.got + 1 + follow (x.got + 1) x.early := by omega
          rw [e2]
          simp [handed, hands]
        · rw [if_neg h1]
          by_cases h2 : 2 ≤ (n : Int) - x.got ∧ (n : Int) - x.got ≤ 8
          · rw [if_pos (show x.got + 1 ≤ (n : Int) ∧ (n : Int) ≤ x.got + 8 by omega), if_pos h2]
            have hz' : follow x.got (insI (n, d) x.early) = 0 := follow_zero fun y hy => by
              rcases mem_insI hy with rfl | hy
              · dsimp only; omega
              · exact (h.early_mem hy).1
            rw [hz']
            simp
          · rw [if_neg (show ¬ (x.got + 1 ≤ (n : Int) ∧ (n : Int) ≤ x.got + 8) by omega), if_neg h2, hz]
            simp

theorem insI_len (y : Itm) : ∀ l : List Itm, (insI y l).length ≤ l.length + 1
  | [] => by simp [insI]
  | z :: r => by
    unfold insI
    have := insI_len y r
    split
    · simp; omega
    · split <;> simp

theorem takeF_size (x : EndA) (bs : List UInt8) : (takeF x bs).1.opens.length ≤ x.opens.length ∧ (takeF x bs).1.early.length ≤ x.early.length + 1 ∧ (takeF x bs).2.1.length ≤ x.early.length + 1 := by
  have hs : ∀ g, (still g x.opens).length ≤ x.opens.length := fun g => List.length_filter_le _ _
  unfold takeF
  cases hr : readB bs with
  | none => simp
  | some y =>
    obtain ⟨n, g, d⟩ := y
    have h1 := hs g
    have h2 := insI_len ((n : Int), d) x.early
    dsimp only
    split
    · simp
    · split
      · dsimp only; simp; omega
      · split
        · simp only [handed, hands, List.length_drop, List.length_cons, List.length_map, List.length_take]
          omega
        · split
          · dsimp only; simp; omega
          · dsimp only; simp; omega

end Go.Ai.Wire

namespace Go.Ai
theorem loadN_same {C : Ctx} {H H' : AHeap} (hs : Same H H') {a : Addr} {n : Nat} {l : List Value} (h : loadN C H.get a n = some l) : loadN C H'.get a n = some l := by
  rw [loadN_congr (M := H.get) (hs.same _ (load_lt hs.wf h))]
  exact h
end Go.Ai
namespace Go.Ai.Wire
open Go.Proofs Go.IntWalk
attribute [local irreducible] Trie.put

/-- The frames so far: the new one is among them, or it has not come yet. -/
def SoFar (l : List Itm) (y : Itm) (i : Nat) (put : Bool) (m : List Itm) : Prop :=
  (put = false ∧ m = l.take i ∧ ∀ j (hj : j < l.length), j < i → l[j].1 < y.1) ∨
  (put = true ∧ ∃ t, t < i ∧ PosI l y.1 t ∧ (¬ ∃ h : t < l.length, l[t].1 = y.1) ∧ m = l.take t ++ y :: (l.take i).drop t)

theorem SoFar.len {l : List Itm} {y : Itm} {i : Nat} {put : Bool} {m : List Itm} (h : SoFar l y i put m) : m.length ≤ l.length + 1 := by
  rcases h with ⟨_, rfl, _⟩ | ⟨_, t, _, _, _, rfl⟩
  · simp; omega
  · simp; omega

theorem take_snoc {l : List Itm} {i : Nat} (h : i < l.length) : l.take (i + 1) = l.take i ++ [l[i]] := by
  rw [List.take_add_one, List.getElem?_eq_getElem h]
  rfl

theorem drop_snoc {l : List Itm} {i t : Nat} (h : i < l.length) (ht : t ≤ i) : (l.take (i + 1)).drop t = (l.take i).drop t ++ [l[i]] := by
  rw [take_snoc h, List.drop_append_of_le_length (by rw [List.length_take]; omega)]

/-- A new row of what lies there already. -/
def RowE (C : Ctx) (H0 H1 : AHeap) (col : Nat → Nat) (H : AHeap) (v : Value) (m : List Itm) : Prop :=
  Same H1 H ∧ ∃ g cs, NB H v g 2 m.length cs ∧ (m ≠ [] → H1.next ≤ g) ∧ ItC C H0 m cs ∧ Plain col cs

section
variable {C : Ctx} {H0 H1 H : AHeap} {col : Nat → Nat}
theorem RowE.nil (hw : WF H) : RowE C H0 H col H (.slice none 0 0) [] := ⟨Same.refl hw, 0, [], .inl ⟨rfl, rfl, rfl⟩, fun h => absurd rfl h, .nil, fun v hv => by cases hv⟩
theorem RowE.same {H' : AHeap} (hs : Same H H') {v : Value} {m : List Itm} (h : RowE C H0 H1 col H v m) : RowE C H0 H1 col H' v m := by
  obtain ⟨h1, g, cs, h2, h3⟩ := h
  exact ⟨h1.trans hs, g, cs, h2.same hs, h3⟩

theorem RowE.done (k : Nat) (h01 : Same H0 H1) (hb : Bare col H0) {v : Value} {m : List Itm} (h : RowE C H0 H1 col H v m) : ∃ col', Step [] H0 col H col' ∧ WIts C H col' k v m := by
  obtain ⟨hs, g, cs, hn, hg, hi, hp⟩ := h
  have hs := h01.trans hs
  rcases hn with ⟨h1, h2, h3⟩ | ⟨h1, h2⟩
  · have := List.length_eq_zero_iff.1 h2
    subst this h1 h3
    exact ⟨col, Step.of_same hs hb, 0, [], .inl ⟨rfl, rfl, rfl⟩, fun h => absurd rfl h, .nil, fun v hv => by cases hv⟩
  · have hg := hg (fun h => h1 (by rw [h]; rfl))
    have st : Step [] H0 col H (paint col g k) := Step.of_made hs hb (Nat.le_trans h01.grow.next hg) (h2.lt hs.wf')
    exact ⟨_, st, WIts.of h2.g (by simp [paint]) (hi.same hs) (Plain.keep st hi hp)⟩

theorem w_appE {T : Env} {d : Option Nat} {r : List IOper} {K : Env → AHeap → Prop} {s x : IOpd} {m : List Itm} {n : Int} {dd : List UInt8} {dv : Value} (h : RowE C H0 H1 col H (s.val T.val) m) (hx : Row C H (x.val T.val) 2 1 [.int .i64 n, dv]) (hd : Bs C H0 dv dd) (hp : Plain col [.int .i64 n, dv])
    (hl : m.length ≤ 2000) (hk : ∀ v H', RowE C H0 H1 col H' v (m ++ [(n, dd)]) → wpO C r K (putDst T d v) H') : wpO C (⟨d, .append 2 32 s x, none⟩ :: r) K T H := by
  obtain ⟨h1, g, cs, h2, h3, h4, h5⟩ := h
  obtain ⟨da, dc, rfl⟩ := hd.val
  have n1 := h1.grow.next
  refine w_appN (g := g) (n := m.length) (m := 1) (cs := cs) (xs := [.int .i64 n, .slice da dd.length dc]) h1.wf' h2 hx (by simp) (by simp) (by simp [roomy]; omega) fun v4 H4 g4 hg4 hb4 => ?_
  refine hk _ _ ⟨?_, g4, _, .inr ⟨by simp, by simpa using hb4⟩, fun _ => ?_, h4.app (.cons hd .nil), h5.app hp⟩
  · rcases hg4 with ⟨_, _, h⟩ | ⟨h0, rfl, _, h⟩
    · exact h1.trans h
    · exact h1.then_mod h (h3 fun he => h0 (by rw [he]; rfl))
  · rcases hg4 with ⟨_, rfl, _⟩ | ⟨h0, rfl, _, _⟩
    · omega
    · exact h3 fun he => h0 (by rw [he]; rfl)
end

set_option maxHeartbeats 1000000 in
theorem refEarly_spec (w : World) {H : AHeap} (hw : WF H) {col : Nat → Nat} (hbare : Bare col H) {k : Nat} {v : Value} {l : List Itm} (hv : WIts (ctxW w) H col k v l) (hsl : SortI l) (hsm : l.length ≤ 1000) {n : Int} {d : List UInt8} {dv : Value} (hd : Bs (ctxW w) H dv d)
    (hdp : ∀ a n c, dv = .slice (some a) n c → n ≠ 0 → col a.block = 0) :
    wpCall (ctxW w) (.func (.func 59) #[] #[]) [v, itV n dv] H fun r H' => ∃ col', Step [] H col H' col' ∧ WIts (ctxW w) H' col' k r (insI (n, d) l) := by
  obtain ⟨a, c, rfl⟩ := hv.val
  obtain ⟨da, dc, rfl⟩ := hd.val
  refine wpCall_fn rfl (get59 w) ?_
  simp [ir59]
  refine w_box (cs := [.int .i64 n, .slice da d.length dc]) hw (by simp [itV]) rfl (by simp) fun p H1 hp => ?_
  simp
  have hyp : Plain col [.int .i64 n, .slice da d.length dc] := by
    intro u hu a m c he hm
    simp only [List.mem_cons, List.not_mem_nil, or_false] at hu
    rcases hu with rfl | rfl
    · cases he
    · exact hdp a m c he hm
  refine wp_loop' (fun N s => ∃ (T : Env) (H2 : AHeap) (i : Nat) (m : List Itm) (put : Bool), s = ⟨T, H2, []⟩ ∧ N = l.length - i ∧ i ≤ l.length ∧ T.val 0 = .slice a l.length c ∧ T.val 3 = .pointer (some ⟨p, 0, none⟩) ∧ T.val 6 = .bool put ∧ T.val 7 = .int .i64 i ∧
      SoFar l (n, d) i put m ∧ RowE (ctxW w) H H1 col H2 (T.val 5) m) (n := l.length)
      ⟨_, H1, 0, [], false, rfl, rfl, Nat.zero_le _, by simp, by simp, by simp, by simp, .inl ⟨rfl, by simp, fun j _ h => by omega⟩, by simpa using RowE.nil hp.same.wf'⟩ ?_
  rintro N s K ⟨T, H2, i, m, put, rfl, rfl, hil, t0, t3, t6, t7, hsf, hrow⟩ hnext hexit
  have hs02 := hp.same.trans hrow.1
  have hp2 := hp.obj.same hrow.1
  have ldp := fun off n => Obj1.load (C := ctxW w) (off := off) (n := n) hp2
  have hlen := hsf.len
  by_cases hlt : i < l.length
  · obtain ⟨b, ya, yc, rfl, l1H, l2H, l3H, hyH⟩ := hv.its.at hlt
    obtain ⟨g0, cs0, _, hb0, _, hic0, hpl0⟩ := hv.cells
    obtain ⟨_, _, he0, _, _, hcl0, hld0⟩ := hb0.load (C := ctxW w)
    cases he0
    have l1 := loadN_same hs02 l1H
    have l3 := loadN_same hs02 l3H
    have e3 : (i : Int) < l.length := by omega
    have hxs : [Value.int .i64 l[i].1, .slice ya l[i].2.length yc] = (cs0.drop (i * 2)).take 2 := by
      have h2 := loadN_sub hld0 (i := i * 2) (m := 2) (by omega)
      rw [l3H] at h2
      exact Option.some.inj h2
    have hypl : Plain col [Value.int .i64 l[i].1, .slice ya l[i].2.length yc] := by
      rw [hxs]
      exact (hpl0.drop _).take _
    have wi : IntKind.i64.wrap ((i : Int) + 1) = i + 1 := i64_in _ (by omega)
    have next : ∀ (T3 : Env) (H3 : AHeap) (m3 : List Itm) (put3 : Bool), T3.val 0 = .slice (some b) l.length c → T3.val 3 = .pointer (some ⟨p, 0, none⟩) → T3.val 6 = .bool put3 → T3.val 7 = .int .i64 ((i : Int) + 1) → SoFar l (n, d) (i + 1) put3 m3 → RowE (ctxW w) H H1 col H3 (T3.val 5) m3 → K .normal ⟨T3, H3, []⟩ := by
      intro T3 H3 m3 put3 h0 h3 h6 h7 h8 h9
      exact hnext (l.length - (i + 1)) _ (by omega) ⟨T3, H3, i + 1, m3, put3, rfl, rfl, by omega, h0, h3, h6, h7, h8, h9⟩
    simp [t0, t3, t7, e3, l1, ldp]
    by_cases heq : l[i].1 = n
    · simp [heq, t0]
      refine hexit _ _ (by simp) ?_
      simp
      have hpos : PosI l n i := ⟨hil, fun j hj hji => by have := hsl.lt i j hlt hji; omega, fun j hj hij => by
        rcases Nat.lt_or_eq_of_le hij with h | h
        · have := hsl.lt j i hj h; omega
        · subst h; omega⟩
      have := insI_pos (y := (n, d)) hpos
      rw [if_pos ⟨hlt, heq⟩] at this
      rw [this]
      have st : Step [] H col H2 col := Step.of_same hs02 hbare
      exact ⟨col, st, hv.step st (by simp) (by simp)⟩
    · by_cases hgt : n < l[i].1
      · cases put with
        | false =>
          rcases hsf with ⟨_, rfl, hbef⟩ | ⟨h, _⟩
          rotate_left
          · cases h
          simp [heq, hgt, t0, t3, t6, t7, e3, l1, ldp]
          refine w_bs (esz := 2) (cs := [.int .i64 n, .slice da d.length dc]) hs02.wf' (by simp) (by simp) (by simp) fun q3 H3 hq3 hb3 => ?_
          simp
          refine w_appE (m := l.take i) (n := n) (dd := d) (dv := .slice da d.length dc) (by simpa using hrow.same hq3.same) (by simpa using hb3.row) hd hyp (by omega) fun v4 H4 hrow4 => ?_
          have hs04 := hp.same.trans hrow4.1
          have l34 := loadN_same hs04 l3H
          simp [t0, t7, e3, l34]
          refine w_bs (esz := 2) (cs := [.int .i64 l[i].1, .slice ya l[i].2.length yc]) hs04.wf' (by simp) (by simp) (by simp) fun q5 H5 hq5 hb5 => ?_
          simp
          refine w_appE (m := l.take i ++ [(n, d)]) (n := l[i].1) (dd := l[i].2) (dv := .slice ya l[i].2.length yc) (by simpa using hrow4.same hq5.same) (by simpa using hb5.row) hyH hypl (by simp; omega) fun v6 H6 hrow6 => ?_
          simp [t7, wi]
          refine next _ H6 _ true (by simp [t0]) (by simp [t3]) (by simp) (by simp) (.inr ⟨rfl, i, by omega, ⟨hil, hbef, fun j hj hij => by
            rcases Nat.lt_or_eq_of_le hij with h | h
            · have := hsl.lt j i hj h; dsimp only; omega
            · subst h; dsimp only; omega⟩, fun ⟨_, h⟩ => heq h, ?_⟩) (by simpa using hrow6)
          rw [drop_snoc hlt (Nat.le_refl _)]
          simp
        | true =>
          rcases hsf with ⟨h, _⟩ | ⟨_, t, hti, hpos, hne, rfl⟩
          · cases h
          simp [heq, hgt, t0, t3, t6, t7, e3, l1, l3, ldp]
          refine w_bs (esz := 2) (cs := [.int .i64 l[i].1, .slice ya l[i].2.length yc]) hs02.wf' (by simp) (by simp) (by simp) fun q5 H5 hq5 hb5 => ?_
          simp
          refine w_appE (m := l.take t ++ (n, d) :: (l.take i).drop t) (n := l[i].1) (dd := l[i].2) (dv := .slice ya l[i].2.length yc) (by simpa using hrow.same hq5.same) (by simpa using hb5.row) hyH hypl (by omega) fun v6 H6 hrow6 => ?_
          simp [t7, wi]
          refine next _ H6 _ true (by simp [t0]) (by simp [t3]) (by simp [t6]) (by simp) (.inr ⟨rfl, t, by omega, hpos, hne, ?_⟩) (by simpa using hrow6)
          rw [drop_snoc hlt (by omega)]
      · cases put with
        | true =>
          rcases hsf with ⟨h, _⟩ | ⟨_, t, hti, hpos, hne, rfl⟩
          · cases h
          have h1 := hpos.beh t (by omega) (Nat.le_refl _)
          have h2 := hsl.lt i t hlt hti
          dsimp only at h1
          omega
        | false =>
          rcases hsf with ⟨_, rfl, hbef⟩ | ⟨h, _⟩
          rotate_left
          · cases h
          simp [heq, hgt, t0, t3, t7, e3, l1, l3, ldp]
          refine w_bs (esz := 2) (cs := [.int .i64 l[i].1, .slice ya l[i].2.length yc]) hs02.wf' (by simp) (by simp) (by simp) fun q5 H5 hq5 hb5 => ?_
          simp
          refine w_appE (m := l.take i) (n := l[i].1) (dd := l[i].2) (dv := .slice ya l[i].2.length yc) (by simpa using hrow.same hq5.same) (by simpa using hb5.row) hyH hypl (by omega) fun v6 H6 hrow6 => ?_
          simp [t7, wi]
          refine next _ H6 _ false (by simp [t0]) (by simp [t3]) (by simp [t6]) (by simp) (.inl ⟨rfl, rfl, fun j hj hji => ?_⟩) (by simp; rw [take_snoc hlt]; exact hrow6)
          rcases Nat.lt_or_eq_of_le (Nat.le_of_lt_succ hji) with h | h
          · exact hbef j hj h
          · subst h; dsimp only; omega
  · have : i = l.length := by omega
    subst this
    simp [t0, t7]
    refine hexit _ _ (by simp) ?_
    cases put with
    | false =>
      rcases hsf with ⟨_, rfl, hbef⟩ | ⟨h, _⟩
      rotate_left
      · cases h
      simp [t3, t6, ldp]
      refine w_bs (esz := 2) (cs := [.int .i64 n, .slice da d.length dc]) hs02.wf' (by simp) (by simp) (by simp) fun q3 H3 hq3 hb3 => ?_
      simp
      refine w_appE (m := l.take l.length) (n := n) (dd := d) (dv := .slice da d.length dc) (by simpa using hrow.same hq3.same) (by simpa using hb3.row) hd hyp (by omega) fun v4 H4 hrow4 => ?_
      simp
      have hpos : PosI l n l.length := ⟨Nat.le_refl _, fun j hj _ => hbef j hj hj, fun j hj h => by omega⟩
      have := insI_pos (y := (n, d)) hpos
      rw [if_neg (by rintro ⟨h, _⟩; omega), List.drop_length] at this
      rw [this]
      exact hrow4.done k hp.same hbare
    | true =>
      rcases hsf with ⟨h, _⟩ | ⟨_, t, hti, hpos, hne, rfl⟩
      · cases h
      simp [t6]
      have := insI_pos (y := (n, d)) hpos
      rw [if_neg hne] at this
      rw [this]
      rw [List.take_length] at hrow
      exact hrow.done k hp.same hbare
end Go.Ai.Wire

namespace Go.Ai.Wire
open Go.Proofs Go.IntWalk
attribute [local irreducible] Trie.put

/-- What 'Take' gives. -/
def TakeRes (C : Ctx) (H : AHeap) (x : EndA) (bs : List UInt8) (r : Value) (H' : AHeap) : Prop :=
  Same H H' ∧ ∃ ev fv rv e, r = .tuple #[ev, fv, rv, .int .i64 e] ∧
    ((EndOK x ∧ e = 0 ∧ EndR C H' (takeF x bs).1 ev ∧ Frs C H' fv (takeF x bs).2.1 ∧ Bs C H' rv (takeF x bs).2.2) ∨ (¬ EndOK x ∧ e = 4 ∧ EndR C H' ⟨0, [], 0, []⟩ ev ∧ Frs C H' fv [] ∧ Bs C H' rv []))

theorem TakeRes.bad {C : Ctx} {H H' : AHeap} {x : EndA} {bs : List UInt8} (hs : Same H H') (h : ¬ EndOK x) : TakeRes C H x bs (.tuple #[.agg #[.int .i64 0, .slice none 0 0, .int .i64 0, .slice none 0 0], .slice none 0 0, .slice none 0 0, .int .i64 4]) H' :=
  ⟨hs, _, _, _, _, rfl, .inr ⟨h, rfl, zeroEnd C H', Frs.nil C H', Bs.nil C H'⟩⟩

end Go.Ai.Wire

namespace Go.Ai
theorem condW_post {C : Ctx} {ro : Option Nat} {v : Value} {a b : ICode} {Q Q' : AExit → St → Prop} {s : St} (h : condW C ro v a b Q s) (hq : ∀ e s, Q e s → Q' e s) : condW C ro v a b Q' s := by
  unfold condW at h ⊢
  split at h
  · exact wpC_mono h hq
  · exact wpC_mono h hq
  · exact h.elim
end Go.Ai
namespace Go.Ai.Wire
open Go.Proofs Go.IntWalk
attribute [local irreducible] Trie.put

theorem gone_cons (g : Int) (y : Itm) (l : List Itm) : gone g (y :: l) = if y.1 ≤ g then gone g l + 1 else 0 := by
  unfold gone
  rw [List.takeWhile_cons]
  by_cases h : y.1 ≤ g
  · simp [h]
  · simp [h]
theorem gone_le (g : Int) (l : List Itm) : gone g l ≤ l.length := (List.takeWhile_prefix _).length_le

/-- A new row of what lies there already. -/
def RowF (C : Ctx) (H0 H1 : AHeap) (col : Nat → Nat) (H : AHeap) (v : Value) (m : List (List UInt8)) : Prop :=
  ∃ g cs, NB H v g 1 m.length cs ∧ (m ≠ [] → H1.next ≤ g) ∧ FrC C H0 m cs ∧ Plain col cs

section
variable {C : Ctx} {H0 H1 H : AHeap} {col : Nat → Nat}
theorem RowF.nil : RowF C H0 H1 col H (.slice none 0 0) [] := ⟨0, [], .inl ⟨rfl, rfl, rfl⟩, fun h => absurd rfl h, .nil, fun v hv => by cases hv⟩
theorem RowF.same {H' : AHeap} (hs : Same H H') {v : Value} {m : List (List UInt8)} (h : RowF C H0 H1 col H v m) : RowF C H0 H1 col H' v m := by
  obtain ⟨g, cs, h2, h3⟩ := h
  exact ⟨g, cs, h2.same hs, h3⟩
theorem RowF.mod {H' : AHeap} {q : Nat} (hm : Mod q H H') (hq : q < H1.next) {v : Value} {m : List (List UInt8)} (h : RowF C H0 H1 col H v m) : RowF C H0 H1 col H' v m := by
  obtain ⟨g, cs, h2, h3, h4⟩ := h
  refine ⟨g, cs, h2.imp id fun h => ⟨h.1, h.2.mod hm ?_⟩, h3, h4⟩
  have := h3 (fun e => h.1 (by rw [e]; rfl))
  omega

theorem RowF.done {A : List Nat} (st : Step A H0 col H col) (h0 : 0 ∉ A) (hb1 : ∀ b, H1.next ≤ b → col b = 0) {v : Value} {m : List (List UInt8)} (h : RowF C H0 H1 col H v m) : WFrs C H col v m := by
  obtain ⟨g, cs, hn, hg, hi, hp⟩ := h
  rcases hn with ⟨h1, h2, h3⟩ | ⟨h1, h2⟩
  · have := List.length_eq_zero_iff.1 h2
    subst this h1
    exact WFrs.nil C H col
  · have hg := hg (fun h => h1 (by rw [h]; rfl))
    have hf := hi.step st h0 hp
    refine ⟨cs, hf, h2.row, hi.keep st hp, fun a n c he hn => ?_⟩
    obtain ⟨a', he', hbl, _⟩ := h2.load (C := C)
    rw [he] at he'
    cases he'
    exact hb1 _ (by omega)

theorem w_appF {A : List Nat} {T : Env} {d : Option Nat} {r : List IOper} {K : Env → AHeap → Prop} {s x : IOpd} {m : List (List UInt8)} {dd : List UInt8} {dv : Value} (st : Step A H0 col H col) (hle : H0.next ≤ H1.next) (hle' : H1.next ≤ H.next) (h : RowF C H0 H1 col H (s.val T.val) m) (hx : Row C H (x.val T.val) 1 1 [dv]) (hd : Bs C H0 dv dd) (hp : Plain col [dv])
    (hl : m.length ≤ 2000) (hk : ∀ v H', Step A H0 col H' col → Grow H H' → (∀ b, b < H1.next → H'.get b = H.get b) → RowF C H0 H1 col H' v (m ++ [dd]) → wpO C r K (putDst T d v) H') : wpO C (⟨d, .append 1 24 s x, none⟩ :: r) K T H := by
  obtain ⟨g, cs, h2, h3, h4, h5⟩ := h
  obtain ⟨da, dc, rfl⟩ := hd.val
  refine w_appN (g := g) (n := m.length) (m := 1) (cs := cs) (xs := [.slice da dd.length dc]) st.wf' h2 hx (by simp) (by simp) (by simp [roomy]; omega) fun v4 H4 g4 hg4 hb4 => ?_
  have key : Step A H0 col H4 col ∧ Grow H H4 ∧ (∀ b, b < H1.next → H4.get b = H.get b) ∧ H1.next ≤ g4 := by
    rcases hg4 with ⟨_, rfl, h⟩ | ⟨h0, rfl, _, h⟩
    · exact ⟨st.then_same h, h.grow, fun b hb => h.same b (by omega), hle'⟩
    · have hg := h3 fun he => h0 (by rw [he]; rfl)
      exact ⟨st.then_mod h (by omega), h.grow, fun b hb => h.same b (by omega) (by omega), hg⟩
  exact hk _ _ key.1 key.2.1 key.2.2.1 ⟨g4, _, .inr ⟨by simp, by simpa using hb4⟩, fun _ => key.2.2.2, h4.app (.cons hd .nil), h5.app hp⟩
end

section
variable {C : Ctx} {H : AHeap} {lo : Nat} {col : Nat → Nat}
theorem WIts.io {k : Nat} {v : Value} {l : List Itm} (h : WIts C H col k v l) (hc : ∀ b, col b = 0 ∨ col b = k → lo ≤ b) : ItsO C H lo v l := by
  obtain ⟨g, cs, k1, k2, k3, k4⟩ := id h
  rcases k1 with ⟨rfl, hn, rfl⟩ | hb
  · have : l = [] := List.length_eq_zero_iff.1 hn
    subst this
    exact .nil
  · refine ⟨cs, k3, hb.row, fun u hu a n c he hn => hc _ (.inl (k4 u hu a n c he hn)), fun a n c he hn => hc _ (.inr ?_)⟩
    obtain ⟨a', c', he', _, hbl, _⟩ := hb.load (C := C)
    have : a = a' := by rw [he] at he'; cases he'; rfl
    subst this
    rw [hbl]
    exact k2 (by rw [he]; intro h; cases h)
theorem WFrs.fo {v : Value} {l : List (List UInt8)} (h : WFrs C H col v l) (hc : ∀ b, col b = 0 → lo ≤ b) : FrO C H lo v l :=
  let ⟨cs, h1, h2, h3, h4⟩ := h; ⟨cs, h1, h2, fun u hu a n c he hn => hc _ (h3 u hu a n c he hn), fun a n c he hn => hc _ (h4 a n c he hn)⟩
end

def TakeResO (C : Ctx) (H : AHeap) (x : EndA) (bs : List UInt8) (r : Value) (H' : AHeap) : Prop :=
  Same H H' ∧ ∃ ev fv rv e, r = .tuple #[ev, fv, rv, .int .i64 e] ∧
    ((EndOK x ∧ e = 0 ∧ EndO C H' H.next (takeF x bs).1 ev ∧ FrO C H' H.next fv (takeF x bs).2.1 ∧ BsO C H' H.next rv (takeF x bs).2.2) ∨ (¬ EndOK x ∧ e = 4 ∧ EndR C H' ⟨0, [], 0, []⟩ ev ∧ Frs C H' fv [] ∧ Bs C H' rv []))
theorem TakeResO.res {C : Ctx} {H : AHeap} {x : EndA} {bs : List UInt8} {r : Value} {H' : AHeap} (h : TakeResO C H x bs r H') : TakeRes C H x bs r H' := by
  obtain ⟨hs, ev, fv, rv, e, rfl, ⟨h1, h2, h3, h4, h5⟩ | h⟩ := h
  · exact ⟨hs, _, _, _, _, rfl, .inl ⟨h1, h2, h3.r, h4.frs, h5.1⟩⟩
  · exact ⟨hs, _, _, _, _, rfl, .inr h⟩
theorem TakeResO.bad {C : Ctx} {H H' : AHeap} {x : EndA} {bs : List UInt8} (hs : Same H H') (h : ¬ EndOK x) : TakeResO C H x bs (.tuple #[.agg #[.int .i64 0, .slice none 0 0, .int .i64 0, .slice none 0 0], .slice none 0 0, .slice none 0 0, .int .i64 4]) H' :=
  ⟨hs, _, _, _, _, rfl, .inr ⟨h, rfl, zeroEnd C H', Frs.nil C H', Bs.nil C H'⟩⟩

set_option maxHeartbeats 2000000 in
theorem refTakeO_spec (w : World) {H : AHeap} (hw : WF H) {x : EndA} {v u : Value} {bs : List UInt8} (hx : EndR (ctxW w) H x v) (hsm : EndS x) (hb : BsS (ctxW w) H u bs) (hbl : bs.length ≤ 500) : wpCall (ctxW w) (.func (.func 37) #[] #[]) [v, u] H (TakeResO (ctxW w) H x bs) := by
  obtain ⟨ov, ev, rfl, ho, he⟩ := hx
  obtain ⟨a1, c1, rfl⟩ := ho.val
  obtain ⟨a2, c2, rfl⟩ := he.val
  obtain ⟨da, dc, rfl⟩ := hb.1.val
  refine wpCall_fn rfl (get37 w) ?_
  simp [ir37]
  refine w_box (cs := [.int .i64 x.last, .slice a1 x.opens.length c1, .int .i64 x.got, .slice a2 x.early.length c2]) hw (by simp [endV]) rfl (by simp) fun p H1 hp => ?_
  refine w_mk hp.same.wf' fun t H2 ht => ?_
  have hs02 := hp.same.trans ht.same
  have hp2 := hp.obj.same ht.same
  have ld2 := fun off n => Obj1.load (C := ctxW w) (off := off) (n := n) hp2
  have np := hp.new
  have np' := hp.next
  have nt := ht.new
  have nt' := ht.next
  simp [ld2]
  refine wpCall_mono (isEnd_spec w hs02.wf' (x := x) ⟨_, _, rfl, ho.same hs02, he.same hs02⟩ (by have := hsm.2.1; omega)) ?_
  rintro _ H3 ⟨hs3, be, rfl, hbe⟩
  have hs03 := hs02.trans hs3
  have ht3 := ht.obj.same hs3
  have hp3 := hp2.same hs3
  have ld3 := fun off n => Obj1.load (C := ctxW w) (off := off) (n := n) hp3
  have n3 := hs3.grow.next
  cases be with
  | false =>
    have hok : ¬ EndOK x := fun h => by simpa using hbe.2 h
    simp
    refine w_store (p := t) (off := 0) (xs := [.int .i64 0, .slice none 0 0, .int .i64 0, .slice none 0 0]) hs03.wf' ht3 (by simp) (by simp) rfl (by simp) (by simp) (by simp) fun H5 hm5 hn5 ho5 => ?_
    have ld5 := fun off n => Obj1.load (C := ctxW w) (off := off) (n := n) ho5
    simp [ld5]
    exact TakeResO.bad (hs03.then_mod hm5 (by omega)) hok
  | true =>
    have hok := hbe.1 rfl
    simp [ld3]
    refine wpCall_mono (copyEnd_spec w hs03.wf' (x := x) ⟨_, _, rfl, ho.same hs03, he.same hs03⟩ hsm) ?_
    rintro r4 H4 ⟨hs4, mid, ov4, ev4, rfl, m1, m2, i1, i2⟩
    have n4 := hs4.grow.next
    have hs04 := hs03.trans hs4
    obtain ⟨a3, c3, rfl⟩ := i1.val
    obtain ⟨a4, c4, rfl⟩ := i2.val
    simp
    refine w_mk hs04.wf' fun q H5 hq => ?_
    have nq := hq.new
    have nq' := hq.next
    refine w_store (p := q) (off := 0) (xs := [.int .i64 x.last, .slice a3 x.opens.length c3, .int .i64 x.got, .slice a4 x.early.length c4]) hq.same.wf' hq.obj (by simp) (by simp [endV]) rfl (by simp) (by simp) (by simp) fun H6 hm6 hn6 ho6 => ?_
    have hs46 : Same H4 H6 := hq.same.then_mod hm6 (by omega)
    have hs36 : Same H3 H6 := hs4.trans hs46
    have hs06 : Same H H6 := hs03.trans hs36
    have n46 := hs46.grow.next
    have hqP : EndP (ctxW w) H6 H3.next H6.next q x := ⟨mid, H4.next, _, _, by simpa using ho6, m1, m2, by omega, by omega, i1.same hs46, i2.same hs46⟩
    obtain ⟨col0, hcol0⟩ : ∃ col0 : Nat → Nat, col0 = fun b => if b = t then 9 else if b < H3.next then 14 else 0 := ⟨_, rfl⟩
    obtain ⟨col, st6, hwq6⟩ := EndP.w (col := col0) (k := 1) hs36 (fun b hb => by rw [hcol0]; dsimp only; rw [if_neg (by omega), if_neg (by omega)]) (Nat.le_refl _) (Nat.le_refl _) hqP
    obtain ⟨ov, ev, hq6, hcq, hov6, hev6⟩ := hwq6
    have hqlt : q < H6.next := hq6.lt hs06.wf'
    have nt6 : t < H6.next := by omega
    have hct : col t = 9 := by
      rw [st6.keep t (by omega), hcol0]
      simp
    have hc0 : ∀ b, b < H3.next → b ≠ t → col b = 14 := by
      intro b hb hn
      rw [st6.keep b (by omega), hcol0]
      dsimp only
      rw [if_neg hn, if_pos hb]
    have fin : ∀ (Hc H' : AHeap) (col' : Nat → Nat) (y : EndA) (l : List (List UInt8)) (rb : List UInt8) (ov ev fv rv : Value), Step [1] H6 col Hc col' → WIts (ctxW w) Hc col' 2 ov y.opens → WIts (ctxW w) Hc col' 3 ev y.early → WFrs (ctxW w) Hc col' fv l → Bs (ctxW w) Hc rv rb →
        (∀ a n c, rv = .slice (some a) n c → n ≠ 0 → col' a.block = 0) → Mod t Hc H' → takeF x bs = (y, l, rb) → TakeResO (ctxW w) H x bs (.tuple #[.agg #[.int .i64 y.last, ov, .int .i64 y.got, ev], fv, rv, .int .i64 0]) H' := by
      intro Hc H' col' y l rb ov ev fv rv st h1 h2 h3 h4 h5 hm htk
      have hct' : col' t = 9 := by rw [st.keep t nt6]; exact hct
      have st' : Step [9] Hc col' H' col' := Step.of_mod hm st.bare (by rw [hct']; simp)
      have hfr : ∀ k, k ≠ 9 → k ≠ 14 → ∀ b, col' b = 0 ∨ col' b = k → H.next ≤ b := by
        intro k k1 k2 b hb
        rcases Nat.lt_or_ge b H3.next with h | h
        · have := hs06.grow.next
          rw [st.keep b (by omega)] at hb
          by_cases hbt : b = t
          · rw [hbt, hct] at hb; omega
          · rw [hc0 b h hbt] at hb; omega
        · omega
      refine ⟨⟨hw, (hs06.grow.trans st.grow).trans hm.grow, fun b hb => ?_⟩, _, _, _, _, rfl, .inl ⟨hok, rfl, ?_, ?_, ?_⟩⟩
      · have := hs06.grow.next
        have := st.grow.next
        rw [hm.same b (by omega) (by omega), st.same b (by omega) (by rw [hc0 b (by omega) (by omega)]; simp), hs06.same b hb]
      · rw [htk]
        exact ⟨_, _, rfl, (h1.step st' (by simp) (by simp)).io (hfr 2 (by omega) (by omega)), (h2.step st' (by simp) (by simp)).io (hfr 3 (by omega) (by omega))⟩
      · rw [htk]
        exact (h3.step st' (by simp)).fo fun b hb => hfr 0 (by omega) (by omega) b (.inl hb)
      · rw [htk]
        exact ⟨Bs.step st' (by simp) h4 h5, fun a n c he hn => hfr 0 (by omega) (by omega) _ (.inl (h5 a n c he hn))⟩
    simp
    refine wpCall_mono (refRead_off w hs06.wf' (hb.same hs06) hbl) ?_
    rintro r7 H7 ⟨hs7, hr⟩
    cases hrb : readB bs with
    | none =>
      rw [hrb] at hr
      subst hr
      have htk : takeF x bs = (x, [], []) := by unfold takeF; rw [hrb]
      simp
      refine w_mk hs7.wf' fun p9 H8 hp9 => ?_
      refine w_store (p := p9) (off := 0) (xs := [.int .i64 0, .int .i64 0, .slice none 0 0]) hp9.same.wf' hp9.obj (by simp) (by simp [pkV]) rfl (by simp) (by simp) (by simp) fun H9 hm9 hn9 ho9 => ?_
      have np9 := hp9.new
      have n7 := hs7.grow.next
      have hs69 : Same H6 H9 := hs7.trans (hp9.same.then_mod hm9 (by omega))
      have st9 : Step [] H6 col H9 col := Step.of_same hs69 st6.bare
      have hov9 := hov6.step st9 (by simp) (by simp)
      have hev9 := hev6.step st9 (by simp) (by simp)
      obtain ⟨a5, c5, rfl⟩ := hov9.val
      obtain ⟨a6, c6, rfl⟩ := hev9.val
      have ldq := fun off n => Obj1.load (C := ctxW w) (off := off) (n := n) (hq6.same hs69)
      have ht9 := (ht3.same hs36).same hs69
      simp [ldq]
      refine w_store (p := t) (off := 0) (xs := [.int .i64 x.last, .slice a5 x.opens.length c5, .int .i64 x.got, .slice a6 x.early.length c6]) hs69.wf' ht9 (by simp) (by simp) rfl (by simp) (by simp) (by simp) fun H5 hm5 hn5 ho5 => ?_
      have ld5 := fun off n => Obj1.load (C := ctxW w) (off := off) (n := n) ho5
      simp [ld5]
      exact fin H9 H5 col x [] [] _ _ _ _ (st9.more (by simp)) hov9 hev9 (WFrs.nil _ _ _) (Bs.nil _ _) (fun a n c h => by cases h) hm5 htk
    | some y =>
      obtain ⟨n, g, d⟩ := y
      rw [hrb] at hr
      obtain ⟨v1, rfl, hd7, hoff⟩ := hr
      obtain ⟨da, dc, rfl⟩ := hd7.val
      obtain ⟨hok1, henc⟩ := readB_inv hrb
      have htk0 := takeR_eq hok bs
      unfold takeR at htk0
      rw [hrb] at htk0
      dsimp only at htk0
      simp
      refine w_mk hs7.wf' fun p9 H8 hp9 => ?_
      refine w_store (p := p9) (off := 0) (xs := [.int .i64 n, .int .i64 g, .slice da d.length dc]) hp9.same.wf' hp9.obj (by simp) (by simp [pkV]) rfl (by simp) (by simp) (by simp) fun H9 hm9 hn9 ho9 => ?_
      have np9 := hp9.new
      have n7 := hs7.grow.next
      have hs79 : Same H7 H9 := hp9.same.then_mod hm9 (by omega)
      have hs69 : Same H6 H9 := hs7.trans hs79
      have st9 : Step [] H6 col H9 col := Step.of_same hs69 st6.bare
      have hov9 := hov6.step st9 (by simp) (by simp)
      have hev9 := hev6.step st9 (by simp) (by simp)
      obtain ⟨a5, c5, rfl⟩ := hov9.val
      obtain ⟨a6, c6, rfl⟩ := hev9.val
      have hq9 := hq6.same hs69
      have ldq := fun off n => Obj1.load (C := ctxW w) (off := off) (n := n) hq9
      have ht9 := (ht3.same hs36).same hs69
      have hx9 := (hp3.same hs36).same hs69
      have ldx := fun off n => Obj1.load (C := ctxW w) (off := off) (n := n) hx9
      have ldp9 := fun off n => Obj1.load (C := ctxW w) (off := off) (n := n) ho9
      have hcp9 : col p9 = 0 := st6.bare p9 (by omega)
      have hdc : ∀ a m c, Value.slice da d.length dc = .slice (some a) m c → m ≠ 0 → col a.block = 0 := by
        intro a m c he hm
        refine st6.bare _ ?_
        rcases Nat.lt_or_ge a.block H6.next with h | h
        · exact absurd rfl (hoff _ h a m c he hm)
        · exact h
      have hd9 : Bs (ctxW w) H9 (.slice da d.length dc) d := hd7.same hs79
      by_cases hlg : x.last < g
      · rw [if_pos hlg] at htk0
        simp [ldp9, ldx, hlg, ldq]
        refine w_store (p := t) (off := 0) (xs := [.int .i64 x.last, .slice a5 x.opens.length c5, .int .i64 x.got, .slice a6 x.early.length c6]) hs69.wf' ht9 (by simp) (by simp) rfl (by simp) (by simp) (by simp) fun H5 hm5 hn5 ho5 => ?_
        have ld5 := fun off n => Obj1.load (C := ctxW w) (off := off) (n := n) ho5
        simp [ld5]
        exact fin H9 H5 col x [] [] _ _ _ _ (st9.more (by simp)) hov9 hev9 (WFrs.nil _ _ _) (Bs.nil _ _) (fun a n c h => by cases h) hm5 htk0.symm
      · rw [if_neg hlg] at htk0
        simp [ldp9, ldx, hlg]
        have hgl := gone_le g x.opens
        refine wp_loop' (fun N s => ∃ (T : Env) (Hc : AHeap) (j : Nat) (oc : Value), s = ⟨T, Hc, []⟩ ∧ N = x.opens.length - j ∧ j ≤ x.opens.length ∧ gone g (x.opens.drop j) + j = gone g x.opens ∧ T.val 2 = .pointer (some ⟨p, 0, none⟩) ∧ T.val 4 = .pointer (some ⟨t, 0, none⟩) ∧ T.val 8 = .pointer (some ⟨q, 0, none⟩) ∧ T.val 9 = .pointer (some ⟨p9, 0, none⟩) ∧
          Step [1] H9 col Hc col ∧ Obj1 Hc q [.int .i64 x.last, oc, .int .i64 x.got, .slice a6 x.early.length c6] ∧ WIts (ctxW w) H9 col 2 oc (x.opens.drop j)) (n := x.opens.length)
          ⟨_, H9, 0, _, rfl, rfl, Nat.zero_le _, by simp, by simp, by simp, by simp, by simp, (Step.of_same (Same.refl hs69.wf') st9.bare), hq9, by simpa using hov9⟩ ?_
        rintro N s K ⟨T, Hc, j, oc, rfl, rfl, hj, hgj, t2, t4, t8, t9, stc, hqc, hocc⟩ hnext hexit
        have hdl : (x.opens.drop j).length = x.opens.length - j := by rw [List.length_drop]
        have hoc' := hocc.step stc (by simp) (by simp)
        obtain ⟨ao, co, rfl⟩ := hoc'.val
        have ldqc := fun off n => Obj1.load (C := ctxW w) (off := off) (n := n) hqc
        have hp9c := Obj1.step stc ho9 (by rw [hcp9]; simp)
        have ldp9c := fun off n => Obj1.load (C := ctxW w) (off := off) (n := n) hp9c
        have e0 : (0 : Int) < (x.opens.drop j).length ↔ j < x.opens.length := by rw [hdl]; omega
        by_cases hstep : j < x.opens.length ∧ ∀ h : j < x.opens.length, x.opens[j].1 ≤ g
        · obtain ⟨hlt, hle⟩ := hstep
          have hle := hle hlt
          have h0 : 0 < (x.opens.drop j).length := by omega
          obtain ⟨b, ya, yc, rfl, l1, _, _, _⟩ := hoc'.its.at h0
          obtain ⟨gc, csc, _, hbgc, _, _, _⟩ := hoc'.cells
          obtain ⟨_, _, hec, hncc, _⟩ := hbgc.load (C := ctxW w)
          cases hec
          have ey : (x.opens.drop j)[0] = x.opens[j] := by simp
          rw [ey] at l1
          simp at l1
          have e7 : 0 < x.opens.length - j := by omega
          have e8 : (0 : Int) < ((x.opens.length - j : Nat) : Int) := by omega
          rw [hdl] at hncc
          simp [t8, t9, ldqc, ldp9c, hdl, e7, e8, l1, hle]
          refine w_sliceB (a := b) (n := x.opens.length - j) (c := co) (by simp) hbgc.slc (bounds_lo (l := 1) (k := .i64) (by simp) (by omega) hncc) ?_
          simp [t8]
          refine w_store (p := q) (off := 1) (xs := [.slice (some (aadd b (1 * 2))) (x.opens.length - j - 1) (co - 1)]) stc.wf' hqc (by simp) (by simp) rfl (by simp) (by simp) (by simp) fun Hd hmd hnd hod => ?_
          have std : Step [1] H9 col Hd col := stc.trans (Step.of_mod hmd stc.bare (by rw [hcq]; simp))
          simp at hod
          simp
          have hsub := hocc.sub (i := 1) (u := (x.opens.drop j).length) (by omega) (Nat.le_refl _)
          rw [List.take_length, List.drop_drop, hdl] at hsub
          refine hnext (x.opens.length - (j + 1)) _ (by omega) ⟨_, Hd, j + 1, _, rfl, rfl, by omega, ?_, by simp [t2], by simp [t4], by simp [t8], by simp [t9], std, hod, hsub⟩
          rw [List.drop_eq_getElem_cons hlt, gone_cons, if_pos hle] at hgj
          omega
        · have hgo : gone g x.opens = j := by
            by_cases hlt : j < x.opens.length
            · have hnle : ¬ x.opens[j].1 ≤ g := fun h => hstep ⟨hlt, fun _ => h⟩
              rw [List.drop_eq_getElem_cons hlt, gone_cons, if_neg hnle] at hgj
              omega
            · rw [List.drop_eq_nil_of_le (by omega)] at hgj
              simp [gone] at hgj
              unfold gone
              omega
          rw [hgo] at htk0
          have hev' := hev9.step stc (by simp) (by simp)
          have htc := Obj1.step stc ht9 (by rw [hct]; simp)
          have st6c : Step [1] H6 col Hc col := (st9.more (by simp)).trans stc
          have hoc1 := hoc'
          have hexit' : ∀ T' : Env, T'.val 4 = .pointer (some ⟨t, 0, none⟩) → T'.val 8 = .pointer (some ⟨q, 0, none⟩) → T'.val 9 = .pointer (some ⟨p9, 0, none⟩) → K (.exit 0) ⟨T', Hc, []⟩ := by
            intro T' t4 t8 t9
            refine hexit _ _ (by simp) ?_
            by_cases hn0 : n = 0
            · rw [if_pos hn0] at htk0
              subst hn0
              simp [t4, t8, t9, ldp9c, ldqc]
              refine w_store (p := t) (off := 0) (xs := [.int .i64 x.last, .slice ao (x.opens.drop j).length co, .int .i64 x.got, .slice a6 x.early.length c6]) stc.wf' htc (by simp [t4]) (by simp) rfl (by simp) (by simp) (by simp) fun H5 hm5 hn5 ho5 => ?_
              have ld5 := fun off n => Obj1.load (C := ctxW w) (off := off) (n := n) ho5
              simp [t4, ld5]
              have := fin Hc H5 col ⟨x.last, x.opens.drop j, x.got, x.early⟩ [] [] _ _ _ _ st6c hoc1 hev' (WFrs.nil _ _ _) (Bs.nil _ _) (fun a n c h => by cases h) hm5 htk0.symm
              simpa using this
            · rw [if_neg hn0] at htk0
              have hgot := hok.2.1
              have hn0' : ¬ ((n : Int) = 0) := by omega
              have w1 : IntKind.i64.wrap (x.got + 1) = x.got + 1 := i64_in _ (by omega)
              have w8 : IntKind.i64.wrap (x.got + 8) = x.got + 8 := i64_in _ (by omega)
              simp [t8, t9, ldp9c, ldqc, hn0, w1, w8]
              refine wpCall_mono (in_spec w _ _ _) ?_
              rintro _ Hc' ⟨rfl, rfl⟩
              simp
              obtain ⟨e, he'⟩ : ∃ e, e = if x.got + 1 ≤ n ∧ (n : Int) ≤ x.got + 8 then insI (n, d) x.early else x.early := ⟨_, rfl⟩
              rw [← he'] at htk0
              refine condW_post (Q := fun ex s => ex = .normal ∧ ∃ (He : AHeap) (col' : Nat → Nat) (ec : Value), s = ⟨s.T, He, []⟩ ∧ s.T.val 4 = .pointer (some ⟨t, 0, none⟩) ∧ s.T.val 8 = .pointer (some ⟨q, 0, none⟩) ∧ s.T.val 11 = .slice none 0 0 ∧
                Step [1] Hc' col He col' ∧ Obj1 He q [.int .i64 x.last, .slice ao (x.opens.drop j).length co, .int .i64 x.got, ec] ∧ WIts (ctxW w) He col' 3 ec e) ?_ ?_
              · by_cases hin : x.got + 1 ≤ n ∧ (n : Int) ≤ x.got + 8
                · rw [if_pos hin] at he'
                  subst he'
                  have e2 : (decide (x.got + 1 ≤ (n : Int)) && decide ((n : Int) ≤ x.got + 8)) = true := by
                    rw [← Bool.decide_and]
                    exact decide_eq_true hin
                  simp [e2, t8, t9, ldp9c, ldqc]
                  have hqlt' := hqc.lt stc.wf'
                  have hp9lt := hp9c.lt stc.wf'
                  have f1 : Nat.beq Hc'.next p9 = false := nbeq' (by omega)
                  have f2 : Nat.beq Hc'.next q = false := nbeq' (by omega)
                  refine d_bs (esz := 1) (cs := []) stc.wf' (by simp [f1, f2]) (by simp) (by simp) (by simp) fun q5 H5 hq5 hb5 => ?_
                  have nq5 := hq5.new
                  have f3 : Nat.beq q5 p9 = false := nbeq' (by omega)
                  have hp95 := hp9c.same hq5.same
                  have ldp95 := fun off n => Obj1.load (C := ctxW w) (off := off) (n := n) hp95
                  simp [t9, ldp95, f1, f2, f3]
                  have hdl5 : d.length ≤ 400 := by
                    obtain ⟨_, _, _, _, _, _, hl⟩ := okP_spec hok1
                    exact hl
                  have hpq : q5 ≠ p9 := by omega
                  have hqq : q5 ≠ q := by omega
                  have hdc5 : Bs (ctxW w) H5 (.slice da d.length dc) d := (Bs.step stc (by simp) hd9 hdc).same hq5.same
                  refine d_app' (g := q5) (n := 0) (m := d.length) (cs := []) (xs := d.map u8v) hq5.same.wf' (by simpa using hb5) (by simp; exact hdc5) (u8_scalar d) (by simp [roomy]; omega)
                    (fun rd' md hmd => by
                      have hf1 := free_rd_mod (C := ctxW w) (ri := rd') (mi := md) (x := p9) fun y hy => by rw [hmd y hy]; exact hpq
                      have hf2 := free_rd_mod (C := ctxW w) (ri := rd') (mi := md) (x := q) fun y hy => by rw [hmd y hy]; exact hqq
                      simp [hf1, hf2]) fun r6 H6' rd' md hm6 hb6 hmd hrd => ?_
                  have hb6r : Bs (ctxW w) H6' r6 d := by
                    have := hb6.row (C := ctxW w)
                    simpa [Bs] using this
                  have hs6 : Same Hc' H6' := hq5.same.then_mod hm6 (by omega)
                  have st6' : Step [] Hc' col H6' col := Step.of_same hs6 stc.bare
                  have hr6p : ∀ a n c, r6 = .slice (some a) n c → n ≠ 0 → col a.block = 0 := by
                    intro a n c he hn
                    obtain ⟨a', he', hbl, _⟩ := hb6.load (C := ctxW w)
                    rw [he] at he'
                    cases he'
                    exact stc.bare _ (by omega)
                  obtain ⟨a6', c6', rfl⟩ := hb6r.val
                  simp
                  have hcall := refEarly_spec w st6'.wf' st6'.bare (k := 3) (hev'.step st6' (by simp) (by simp)) (SortI.of hok) hsm.2.1 (n := n) hb6r hr6p
                  simp only [itV] at hcall
                  refine wpCall_mono hcall ?_
                  rintro r7 H7' ⟨col7, st7, w7⟩
                  obtain ⟨a7, c7, rfl⟩ := w7.val
                  have hq7 := Obj1.step st7 (hqc.same hs6) (by simp)
                  have hcq7 : col7 q = 1 := by
                    rw [st7.keep q (by have := hs6.grow.next; omega)]
                    exact hcq
                  simp [t8]
                  refine d_store (p := q) (off := 3) (xs := [.slice a7 (insI (↑n, d) x.early).length c7]) st7.wf' rfl hq7 (by simp) (by simp) rfl (by simp) (by simp) (by simp) fun H8 hm8 hn8 ho8 => ?_
                  have st8 : Step [1] H7' col7 H8 col7 := Step.of_mod hm8 st7.bare (by rw [hcq7]; simp)
                  simp [t4, t8]
                  exact ⟨col7, ((st6'.trans st7).more (by simp)).trans st8, _, by simpa using ho8, w7.step st8 (by simp) (by simp)⟩
                · rw [if_neg hin] at he'
                  subst he'
                  have e2 : (decide (x.got + 1 ≤ (n : Int)) && decide ((n : Int) ≤ x.got + 8)) = false := by
                    rw [← Bool.decide_and]
                    exact decide_eq_false hin
                  simp [e2, t4, t8]
                  exact ⟨col, Step.of_same (Same.refl stc.wf') stc.bare, _, by simpa using hqc, hev'⟩
              · rintro ex s ⟨rfl, He, col', ec, hs, t4, t8, t11, ste, hqe, hece⟩
                rw [hs]
                obtain ⟨T, _, _⟩ := s
                dsimp only at t4 t8 t11 ⊢
                clear hs
                have hel : e.length ≤ 1001 := by
                  rw [he']
                  split
                  · have := insI_len (n, d) x.early
                    have := hsm.2.1
                    omega
                  · have := hsm.2.1
                    omega
                have hge : x.got + follow x.got e ≤ 60000 := follow_got (fun y hy => by
                  rw [he'] at hy
                  split at hy
                  · rcases mem_insI hy with rfl | hy
                    · obtain ⟨_, _, hn', _, hnl, _⟩ := okP_spec hok1
                      dsimp only
                      omega
                    · exact (hok.early_mem hy).2.2.1
                  · exact (hok.early_mem hy).2.2.1) (by omega)
                clear he'
                have hcqe : col' q = 1 := by
                  rw [ste.keep q (by have := st6c.grow.next; omega)]
                  exact hcq
                have hte := Obj1.step ste htc (by rw [hct]; simp)
                have ocE := hoc1.step ste (by simp) (by simp)
                simp
                refine wp_loop' (fun N s => ∃ (T : Env) (Hd : AHeap) (i : Nat) (ed fr : Value), s = ⟨T, Hd, []⟩ ∧ N = e.length - i ∧ i ≤ e.length ∧ follow (x.got + i) (e.drop i) + i = follow x.got e ∧ T.val 4 = .pointer (some ⟨t, 0, none⟩) ∧ T.val 8 = .pointer (some ⟨q, 0, none⟩) ∧ T.val 11 = fr ∧
                  Step [1] He col' Hd col' ∧ Obj1 Hd q [.int .i64 x.last, .slice ao (x.opens.drop j).length co, .int .i64 (x.got + i), ed] ∧ WIts (ctxW w) He col' 3 ed (e.drop i) ∧ RowF (ctxW w) He He col' Hd fr ((e.take i).map (·.2))) (n := e.length)
                  ⟨_, He, 0, _, _, rfl, rfl, Nat.zero_le _, by simp, by simpa using t4, by simpa using t8, rfl, Step.of_same (Same.refl ste.wf') ste.bare, by simpa using hqe, by simpa using hece, by simpa [t11] using RowF.nil⟩ ?_
                rintro N s K2 ⟨T, Hd, i, ed, fr, rfl, rfl, hi, hfi, t4, t8, t11, std, hqd, hed, hfr⟩ hnext2 hexit2
                have hdl : (e.drop i).length = e.length - i := by rw [List.length_drop]
                have hed' := hed.step std (by simp) (by simp)
                obtain ⟨ea, ec, rfl⟩ := hed'.val
                have ldqd := fun off n => Obj1.load (C := ctxW w) (off := off) (n := n) hqd
                have nHe := std.grow.next
                have hqlte : q < He.next := hqe.lt ste.wf'
                have w4 : IntKind.i64.wrap (x.got + i + 1) = x.got + i + 1 := i64_in _ (by omega)
                have hxend : follow (x.got + i) (e.drop i) = 0 → ∀ T' : Env, T'.val 4 = .pointer (some ⟨t, 0, none⟩) → T'.val 8 = .pointer (some ⟨q, 0, none⟩) → T'.val 11 = fr → K2 (.exit 2) ⟨T', Hd, []⟩ := by
                  intro h0 T' t4 t8 t11
                  have hm : follow x.got e = i := by omega
                  rw [hm] at htk0
                  refine hexit2 _ _ (by simp) ?_
                  have hwf := hfr.done std (by simp) ste.bare
                  obtain ⟨af, cf, rfl⟩ := hwf.val
                  simp [t8, ldqd]
                  have hcall := refBytes_buf w std.wf' 0 (x.got + i) (Bs.nil (ctxW w) Hd)
                  simp only [pkV] at hcall
                  refine wpCall_mono hcall ?_
                  rintro r7 H7 ⟨hs7, ⟨_, b7, q7, hq7, rfl, hb7⟩ | ⟨hbad, _⟩⟩
                  rotate_left
                  · have : okP 0 (x.got + i) 0 = true := by
                      simp only [okP, decide_eq_true_eq]
                      exact ⟨⟨by omega, by omega⟩, by omega, by simp⟩
                    rw [show ([] : List UInt8).length = 0 from rfl, this] at hbad
                    cases hbad
                  have st7 : Step [] Hd col' H7 col' := Step.of_same hs7 std.bare
                  have ldq7 := fun off n => Obj1.load (C := ctxW w) (off := off) (n := n) (hqd.same hs7)
                  have st07 : Step [1] H6 col H7 col' := ((st6c.trans ste).trans std).trans (st7.more (by simp))
                  have ht7 := Obj1.step (std.trans (st7.more (by simp))) hte (by rw [ste.keep t (by have := st6c.grow.next; omega), hct]; simp)
                  obtain ⟨a7, c7, rfl⟩ : ∃ a c, b7 = .slice a (enc 0 (x.got + i).toNat []).length c := hb7.row (C := ctxW w) |>.2.imp fun _ h => h.imp fun _ h => h.1
                  simp [t4, t8, t11, ldq7]
                  refine w_store (p := t) (off := 0) (xs := [.int .i64 x.last, .slice ao (x.opens.drop j).length co, .int .i64 (x.got + i), .slice ea (e.drop i).length ec]) st07.wf' ht7 (by simp [t4]) (by simp) rfl (by simp) (by simp) (by simp) fun H8 hm8 hn8 ho8 => ?_
                  have ld8 := fun off n => Obj1.load (C := ctxW w) (off := off) (n := n) ho8
                  simp [t4, ld8]
                  have := fin H7 H8 col' ⟨x.last, x.opens.drop j, x.got + i, e.drop i⟩ ((e.take i).map (·.2)) (enc 0 (x.got + i).toNat []) _ _ _ _ st07 ((ocE.step std (by simp) (by simp)).step st7 (by simp) (by simp)) (hed'.step st7 (by simp) (by simp)) (hwf.step st7 (by simp)) hb7.row (fun a n c he hn => by
                    obtain ⟨a', he', hbl, _⟩ := hb7.load (C := ctxW w)
                    rw [he] at he'
                    cases he'
                    exact std.bare _ (by omega)) hm8 htk0.symm
                  simpa using this
                by_cases hlt : i < e.length
                · have h0 : 0 < (e.drop i).length := by omega
                  obtain ⟨b, ya, yc, rfl, l1H, l2H, l3H, hy⟩ := hed.its.at h0
                  obtain ⟨g4, cs4, _, hbg4, hcg4, hic4, hpl4⟩ := hed.cells
                  obtain ⟨_, _, he4, _, hblk, hcl4, hld4⟩ := hbg4.load (C := ctxW w)
                  cases he4
                  have hxs : [Value.int .i64 (e.drop i)[0].1, .slice ya (e.drop i)[0].2.length yc] = (cs4.drop 0).take 2 := by
                    have h2 := loadN_sub hld4 (i := 0) (m := 2) (by omega)
                    simp only [Nat.zero_mul] at l3H
                    rw [l3H] at h2
                    exact Option.some.inj h2
                  have hyp : Plain col' [Value.slice ya (e.drop i)[0].2.length yc] := by
                    intro u hu
                    refine ((hpl4.drop 0).take 2) _ ?_
                    rw [← hxs]
                    simp at hu ⊢
                    exact .inr hu
                  have hsame : Hd.get b.block = He.get b.block := std.same _ (load_lt ste.wf' l1H) (by
                    show ¬ col' b.block ∈ [1]
                    rw [hblk, hcg4]
                    simp)
                  have l1 : loadN (ctxW w) Hd.get (aadd b (0 * 2)) 1 = some [.int .i64 (e.drop i)[0].1] := by rw [loadN_congr (M := He.get) (show Hd.get (aadd b (0 * 2)).block = _ from hsame)]; exact l1H
                  have l2 : loadN (ctxW w) Hd.get (aadd b (0 * 2 + 1)) 1 = some [.slice ya (e.drop i)[0].2.length yc] := by rw [loadN_congr (M := He.get) (show Hd.get (aadd b (0 * 2 + 1)).block = _ from hsame)]; exact l2H
                  have hy0 : (e.drop i)[0] = e[i] := by simp
                  rw [hy0] at l1 l2 hy hyp
                  simp at l1 l2
                  have e7 : 0 < e.length - i := by omega
                  have e8 : (0 : Int) < ((e.length - i : Nat) : Int) := by omega
                  have hfol1 : follow (x.got + i) (e.drop i) = if e[i].1 = x.got + i + 1 then follow (x.got + i + 1) (e.drop (i + 1)) + 1 else 0 := by
                    rw [List.drop_eq_getElem_cons hlt]
                    rfl
                  by_cases heq : e[i].1 = x.got + i + 1
                  · simp [t8, ldqd, hdl, e7, e8, l1, l2, w4, heq]
                    refine w_bs (esz := 1) (cs := [.slice ya e[i].2.length yc]) std.wf' (by simp) (by simp) (by simp) fun q5 H5 hq5 hb5 => ?_
                    simp
                    refine w_appF (H0 := He) (H1 := He) (A := [1]) (m := (e.take i).map (·.2)) (dd := e[i].2) (dv := .slice ya e[i].2.length yc) (std.then_same hq5.same) (Nat.le_refl _) (by have := hq5.same.grow.next; omega) (by simpa [t11] using hfr.same hq5.same) (by simpa using hb5.row) hy hyp (by simp; omega) fun v6 H6' st6' gr6 hsm6 hfr6 => ?_
                    have hq6' : Obj1 H6' q [.int .i64 x.last, .slice ao (x.opens.drop j).length co, .int .i64 (x.got + i), .slice (some b) (e.drop i).length ec] := by
                      obtain ⟨e2, h⟩ := hqd.same hq5.same
                      exact ⟨e2, by rw [hsm6 q hqlte]; exact h⟩
                    have ldq6 := fun off n => Obj1.load (C := ctxW w) (off := off) (n := n) hq6'
                    simp [t8, ldq6, w4]
                    refine w_store (p := q) (off := 2) (xs := [.int .i64 (x.got + i + 1)]) st6'.wf' hq6' (by simp) (by simp) rfl (by simp) (by simp) (by simp) fun H7 hm7 hn7 ho7 => ?_
                    have st7 : Step [1] He col' H7 col' := st6'.trans (Step.of_mod hm7 st6'.bare (by rw [hcqe]; simp))
                    have hed7 := hed.step st7 (by simp) (by simp)
                    obtain ⟨g7, cs7, _, hbg7, _, _, _⟩ := hed7.cells
                    obtain ⟨_, _, he7, hnc7, _⟩ := hbg7.load (C := ctxW w)
                    cases he7
                    rw [hdl] at hnc7
                    have ldq7 := fun off n => Obj1.load (C := ctxW w) (off := off) (n := n) ho7
                    simp [t8, ldq7, hdl]
                    refine w_sliceB (a := b) (n := e.length - i) (c := ec) (by simp) hbg7.slc (bounds_lo (l := 1) (k := .i64) (by simp) (by omega) hnc7) ?_
                    simp [t8]
                    refine w_store (p := q) (off := 3) (xs := [.slice (some (aadd b (1 * 2))) (e.length - i - 1) (ec - 1)]) st7.wf' ho7 (by simp) (by simp) rfl (by simp) (by simp) (by simp) fun H8 hm8 hn8 ho8 => ?_
                    have st8 : Step [1] He col' H8 col' := st7.trans (Step.of_mod hm8 st7.bare (by rw [hcqe]; simp))
                    simp at ho8
                    simp
                    have hsub := hed.sub (i := 1) (u := (e.drop i).length) (by omega) (Nat.le_refl _)
                    rw [List.take_length, List.drop_drop, hdl] at hsub
                    have eg : x.got + ((i + 1 : Nat) : Int) = x.got + i + 1 := by omega
                    refine hnext2 (e.length - (i + 1)) _ (by omega) ⟨_, H8, i + 1, _, v6, rfl, rfl, by omega, ?_, by simp [t4], by simp [t8], by simp, st8, by rw [eg]; simpa using ho8, hsub, ?_⟩
                    · rw [eg]
                      rw [hfol1, if_pos heq] at hfi
                      omega
                    · have e9 : (e.take (i + 1)).map (·.2) = (e.take i).map (·.2) ++ [e[i].2] := by
                        rw [take_snoc hlt, List.map_append]
                        rfl
                      rw [e9]
                      exact (hfr6.mod hm7 hqlte).mod hm8 hqlte
                  · simp [t8, ldqd, hdl, e7, e8, l1, w4, heq]
                    exact hxend (by rw [hfol1, if_neg heq]) _ (by simp [t4]) (by simp [t8]) (by simp [t11])
                · have hie : i = e.length := by omega
                  have e7 : e.length - i = 0 := by omega
                  simp [t8, ldqd, hdl, e7]
                  exact hxend (by rw [List.drop_eq_nil_of_le (by omega)]; rfl) _ (by simp [t4]) (by simp [t8]) (by simp [t11])
          by_cases hlt : j < x.opens.length
          · have hnle : ¬ x.opens[j].1 ≤ g := fun h => hstep ⟨hlt, fun _ => h⟩
            clear hstep
            have h0 : 0 < (x.opens.drop j).length := by omega
            obtain ⟨b, ya, yc, rfl, l1, _, _, _⟩ := hoc'.its.at h0
            have ey : (x.opens.drop j)[0] = x.opens[j] := by simp
            rw [ey] at l1
            simp at l1
            have e7 : 0 < x.opens.length - j := by omega
            have e8 : (0 : Int) < ((x.opens.length - j : Nat) : Int) := by omega
            simp [t8, t9, ldqc, ldp9c, hdl, e7, e8, l1, hnle]
            exact hexit' _ (by simp [t4]) (by simp [t8]) (by simp [t9])
          · have : j = x.opens.length := by clear hstep; omega
            simp [t8, t9, ldqc, ldp9c, hdl, this]
            exact hexit' _ (by simp [t4]) (by simp [t8]) (by simp [t9])
end Go.Ai.Wire
