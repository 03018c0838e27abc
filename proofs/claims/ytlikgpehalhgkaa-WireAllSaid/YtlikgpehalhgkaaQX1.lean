/-
  Settling a line: the law.
  Settling a line: all that was said is handed on.
-/
import Derived.Test.YtlikgpehalhgkaaQWY
namespace Go.Ai.Wire

/-- The first packet comes. -/
def comeW (y : LineW) : LineW := match y.x.fly with
  | [] => y
  | f :: r => arriveW ⟨⟨y.x.a, y.x.b, r⟩, y.h0, y.h1⟩ f.1.toNat f.2

/-- All packets come. -/
inductive Calm : LineW → LineW → Prop
  | done {y : LineW} (h : y.x.fly = []) : Calm y y
  | step {y z : LineW} (h : y.x.fly ≠ []) (k : Calm (comeW y) z) : Calm y z

theorem Calm.keep {P : LineW → Prop} (hP : ∀ y, P y → y.x.fly ≠ [] → P (comeW y)) {y z : LineW} (h : Calm y z) : P y → P z ∧ z.x.fly = [] := by
  induction h with
  | done h => exact fun hp => ⟨hp, h⟩
  | step h k ih => exact fun hp => ih (hP _ hp h)

theorem Calm.none {y z : LineW} (h : Calm y z) (hf : y.x.fly = []) : z = y := by
  cases h with
  | done _ => rfl
  | step h k => exact absurd hf h

theorem come0 {y : LineW} {d : List UInt8} {r : List Itm} (hf : y.x.fly = (0, d) :: r) : comeW y =
    if (takeF y.x.a d).2.2 = [] then ⟨⟨(takeF y.x.a d).1, y.x.b, r⟩, y.h0 ++ (takeF y.x.a d).2.1, y.h1⟩ else ⟨putF ⟨(takeF y.x.a d).1, y.x.b, r⟩ 1 (takeF y.x.a d).2.2, y.h0 ++ (takeF y.x.a d).2.1, y.h1⟩ := by
  unfold comeW
  rw [hf]
  rfl
theorem come1 {y : LineW} {d : List UInt8} {r : List Itm} (hf : y.x.fly = (1, d) :: r) : comeW y =
    if (takeF y.x.b d).2.2 = [] then ⟨⟨y.x.a, (takeF y.x.b d).1, r⟩, y.h0, y.h1 ++ (takeF y.x.b d).2.1⟩ else ⟨putF ⟨y.x.a, (takeF y.x.b d).1, r⟩ 0 (takeF y.x.b d).2.2, y.h0, y.h1 ++ (takeF y.x.b d).2.1⟩ := by
  unfold comeW
  rw [hf]
  rfl

/-- A reply is there only for a packet with a number. -/
theorem reply_is {R : EndA} {bs : List UInt8} (h : (takeF R bs).2.2 ≠ []) : (∃ n g d, readB bs = some (n, g, d) ∧ n ≠ 0) ∧ (takeF R bs).2.2 = enc 0 (takeF R bs).1.got.toNat [] := by
  unfold takeF at h ⊢
  cases hr : readB bs with
  | none => rw [hr] at h; exact absurd rfl h
  | some y =>
    obtain ⟨n, g, d⟩ := y
    rw [hr] at h
    dsimp only at h ⊢
    by_cases hl : R.last < g
    · rw [if_pos hl] at h; exact absurd rfl h
    · rw [if_neg hl] at h ⊢
      by_cases hn : n = 0
      · rw [if_pos hn] at h; exact absurd rfl h
      · rw [if_neg hn]
        refine ⟨⟨n, g, d, rfl, hn⟩, ?_⟩
        split
        · rfl
        · split
          · rfl
          · rfl

theorem take_opens {x : EndA} (h : x.opens = []) (bs : List UInt8) : (takeF x bs).1.opens = [] := by
  have hs : ∀ g, still g x.opens = [] := fun g => by rw [h]; rfl
  unfold takeF
  cases hr : readB bs with
  | none => exact h
  | some y =>
    obtain ⟨n, g, d⟩ := y
    dsimp only
    split
    · exact h
    · split
      · exact hs g
      · split
        · exact hs g
        · split
          · exact hs g
          · exact hs g

/-! ### the way down -/
def weight (bs : List UInt8) : Nat := match readB bs with
  | none => 1
  | some (n, _, _) => if n = 0 then 1 else 2
def rank : List Itm → Nat
  | [] => 0
  | f :: r => weight f.2 + rank r
theorem rank_snoc (f : Itm) : ∀ l : List Itm, rank (l ++ [f]) = rank l + weight f.2
  | [] => by simp [rank]
  | a :: l => by simp only [List.cons_append, rank, rank_snoc f l]; omega
theorem weight_le (bs : List UInt8) : 1 ≤ weight bs ∧ weight bs ≤ 2 := by
  unfold weight
  split
  · exact ⟨by decide, by decide⟩
  · split
    · exact ⟨by decide, by decide⟩
    · exact ⟨by decide, by decide⟩
theorem rank_le : ∀ l : List Itm, rank l ≤ 2 * l.length
  | [] => by simp [rank]
  | f :: r => by
    have := rank_le r
    have := (weight_le f.2).2
    simp only [rank, List.length_cons]
    omega

theorem reply_weight {R : EndA} (hok : EndOK R) {bs : List UInt8} (h : (takeF R bs).2.2 ≠ []) : weight bs = 2 ∧ weight (takeF R bs).2.2 = 1 := by
  obtain ⟨⟨n, g, d, hr, hn⟩, hk⟩ := reply_is h
  have hg := (takeF_ok hok bs).2.1
  have ho : okP ((0 : Nat) : Int) (((takeF R bs).1.got.toNat : Nat) : Int) ([] : List UInt8).length = true := okP_of (n := 0) (g := (takeF R bs).1.got.toNat) (d := []) (by omega) (by omega) (by simp)
  refine ⟨by unfold weight; rw [hr]; simp [hn], ?_⟩
  rw [hk]
  unfold weight
  rw [readB_enc ho]
  simp

theorem come_rank {y : LineW} (hok : LineOK y.x) (hne : y.x.fly ≠ []) : rank (comeW y).x.fly < rank y.x.fly := by
  cases hf : y.x.fly with
  | nil => exact absurd hf hne
  | cons f r =>
    obtain ⟨to, d⟩ := f
    have hto := (flights_mem.1 hok.2.2.2 (to, d) (by rw [hf]; simp)).1
    have hw := (weight_le d).1
    have key : ∀ (R : EndA) (x : LineA) (to' : Int), EndOK R → (takeF R d).2.2 ≠ [] → x.fly = r → rank (putF x to' (takeF R d).2.2).fly < rank ((to, d) :: r) := by
      intro R x to' hR hne hx
      obtain ⟨w1, w2⟩ := reply_weight hR hne
      unfold putF
      split
      · dsimp only
        rw [hx, rank_snoc]
        simp only [rank]
        omega
      · rw [hx]
        simp only [rank]
        omega
    rcases (by dsimp only at hto; omega : to = 0 ∨ to = 1) with rfl | rfl
    · rw [come0 hf]
      split
      · dsimp only [rank]; omega
      · rename_i hn
        exact key y.x.a _ _ hok.1 hn rfl
    · rw [come1 hf]
      split
      · dsimp only [rank]; omega
      · rename_i hn
        exact key y.x.b _ _ hok.2.1 hn rfl

/-! ### what was said comes -/
def InvT (s0 s1 k0 k1 : List (List UInt8)) (sp : Bool) (y : LineW) : Prop := InvL y.x s0 s1 (k0 ++ y.h0) (k1 ++ y.h1) sp

theorem InvT.come {s0 s1 k0 k1 : List (List UInt8)} {sp : Bool} {y : LineW} (h : InvT s0 s1 k0 k1 sp y) (hne : y.x.fly ≠ []) : InvT s0 s1 k0 k1 sp (comeW y) := by
  unfold InvT at h
  cases hf : y.x.fly with
  | nil => exact absurd hf hne
  | cons f r =>
    obtain ⟨to, fb⟩ := f
    have hlen : r.length ≤ 59 := by have := h.ok.2.2.1; rw [hf, List.length_cons] at this; omega
    have haway : InvL ⟨y.x.a, y.x.b, r⟩ s0 s1 (k0 ++ y.h0) (k1 ++ y.h1) sp := h.sub (fun f hm => by rw [hf]; simp [hm]) (by omega)
    have hmem : (to, fb) ∈ y.x.fly := by rw [hf]; simp
    have hto := (flights_mem.1 h.ok.2.2.2 (to, fb) hmem).1
    rcases (by dsimp only at hto; omega : to = 0 ∨ to = 1) with rfl | rfl
    · rw [come0 hf]
      obtain ⟨t1, _, _⟩ := haway.take0 (h.p0 _ hmem rfl)
      rw [List.append_assoc] at t1
      split
      · exact t1
      · rename_i hr
        have hrep := take_reply h.ok.1 fb hr s0
        have h8 := takeF_rep (x := y.x.a) (bs := fb) hr
        exact t1.put ⟨by dsimp only; omega, by dsimp only; rw [h8]; decide⟩ (fun _ => hrep.1) (fun h => by omega) (fun _ => hrep.2)
    · rw [come1 hf]
      obtain ⟨t1, _, _⟩ := haway.take1 (h.p1 _ hmem rfl)
      rw [List.append_assoc] at t1
      split
      · exact t1
      · rename_i hr
        have hrep := take_reply h.ok.2.1 fb hr s1
        have h8 := takeF_rep (x := y.x.b) (bs := fb) hr
        exact t1.put ⟨by dsimp only; omega, by dsimp only; rw [h8]; decide⟩ (fun h => by omega) (fun _ => hrep.1) (fun _ => hrep.2)

theorem puts_all {to : Int} : ∀ (l : List (List UInt8)) (y : LineW), y.x.fly.length + l.length ≤ 60 → putsW y to l = ⟨⟨y.x.a, y.x.b, y.x.fly ++ l.map fun b => (to, b)⟩, y.h0, y.h1⟩
  | [], y, _ => by simp [putsW]
  | b :: l, y, h => by
    have hp : putW y to b = ⟨⟨y.x.a, y.x.b, y.x.fly ++ [(to, b)]⟩, y.h0, y.h1⟩ := by
      unfold putW putF
      rw [if_pos (by simp only [List.length_cons] at h; omega)]
    have ih := puts_all l ⟨⟨y.x.a, y.x.b, y.x.fly ++ [(to, b)]⟩, y.h0, y.h1⟩ (to := to) (by simp only [List.length_append, List.length_cons, List.length_nil] at h ⊢; omega)
    unfold putsW at ih ⊢
    rw [List.foldl_cons, hp, ih]
    simp

/-- How far the packets that are sent again have come. -/
def Way (O : List Itm) (g0 N : Nat) (z : LineW) : Prop := ∃ (m : Nat) (B : List Itm), z.x.fly = ((O.drop m).map fun f => ((1 : Int), enc f.1.toNat g0 f.2)) ++ B ∧ (∀ f ∈ B, f.1 = 0 ∧ ∃ g, readB f.2 = some (0, g, [])) ∧ m ≤ O.length ∧ N + m ≤ z.x.b.got + O.length ∧
  (m = 0 ∨ z.x.a.opens = [] ∨ ∃ f ∈ B, ∃ g, readB f.2 = some (0, g, []) ∧ N + m ≤ g + O.length) ∧ (O = [] → z.x.a.opens = [])

theorem still_all {S : List (List UInt8)} {l : List Itm} (h : ∀ y ∈ l, Of S y) {g : Nat} (hg : S.length ≤ g) : still g l = [] := by
  unfold still
  rw [List.filter_eq_nil_iff]
  intro y hy
  obtain ⟨k, h1, h2⟩ := h y hy
  have := (List.getElem?_eq_some_iff.1 h2).1
  simp
  omega

set_option maxHeartbeats 1000000 in
theorem Way.come {s0 s1 k0 k1 : List (List UInt8)} {sp : Bool} {O : List Itm} {g0 : Nat} {z : LineW} (h : InvT s0 s1 k0 k1 sp z) (hO : ∀ i (hi : i < O.length), O[i].1 = (s0.length : Int) - O.length + 1 + i ∧ okP (O[i].1.toNat : Int) g0 O[i].2.length = true ∧ 1 ≤ O[i].1)
    (hw : Way O g0 s0.length z) (hne : z.x.fly ≠ []) : Way O g0 s0.length (comeW z) := by
  unfold InvT at h
  obtain ⟨m, B, hf, hB, hm, hgot, hack, hnil⟩ := hw
  obtain ⟨ga, ga1, ga2, _⟩ := h.d10.got
  obtain ⟨gb, gb1, gb2, _⟩ := h.d01.got
  by_cases hlt : m < O.length
  · rw [List.drop_eq_getElem_cons hlt, List.map_cons, List.cons_append] at hf
    obtain ⟨o1, o2, o3⟩ := hO m hlt
    have hmem : ((1 : Int), enc O[m].1.toNat g0 O[m].2) ∈ z.x.fly := by rw [hf]; simp
    have hp := (h.p1 _ hmem rfl) _ _ _ (readB_enc o2)
    have hl1 : ¬ z.x.b.last < (g0 : Int) := by have := h.d10.last; have := hp.2; omega
    have key : s0.length + (m + 1) ≤ (takeF z.x.b (enc O[m].1.toNat g0 O[m].2)).1.got + O.length ∧ (takeF z.x.b (enc O[m].1.toNat g0 O[m].2)).2.2 ≠ [] := by
      have hn : ∀ g : Nat, Wire.enc 0 g [] ≠ [] := fun g h => by have := congrArg List.length h; rw [enc_len] at this; simp at this
      unfold takeF
      rw [readB_enc o2]
      dsimp only
      rw [if_neg hl1, if_neg (by omega)]
      split
      · exact ⟨by dsimp only [handed]; omega, hn _⟩
      · rw [if_neg (by omega)]
        exact ⟨by dsimp only; omega, hn _⟩
    obtain ⟨hk1, hk2⟩ := key
    obtain ⟨_, hrep⟩ := reply_is hk2
    have hgk := (takeF_ok h.ok.2.1 (enc O[m].1.toNat g0 O[m].2)).2.1
    have ho : okP ((0 : Nat) : Int) (((takeF z.x.b (enc O[m].1.toNat g0 O[m].2)).1.got.toNat : Nat) : Int) ([] : List UInt8).length = true := okP_of (n := 0) (d := []) (by omega) (by omega) (by simp)
    have hrd := readB_enc ho
    rw [← hrep] at hrd
    rw [come1 hf, if_neg hk2]
    have hlen := h.ok.2.2.1
    rw [hf, List.length_cons] at hlen
    have hput : ∀ (A E : EndA) (l : List Itm) (d : List UInt8), l.length < 60 → putF ⟨A, E, l⟩ 0 d = ⟨A, E, l ++ [(0, d)]⟩ := fun A E l d hl => by unfold putF; rw [if_pos hl]
    rw [hput _ _ _ _ (by omega)]
    refine ⟨m + 1, B ++ [(0, (takeF z.x.b (enc O[m].1.toNat g0 O[m].2)).2.2)], by simp, fun f hm' => ?_, by omega, by dsimp only; omega, .inr (.inr ⟨_, List.mem_append_right _ (List.mem_singleton.2 rfl), _, hrd, by omega⟩), fun h => by rw [h] at hlt; simp at hlt⟩
    rcases List.mem_append.1 hm' with hm' | hm'
    · exact hB f hm'
    · rw [List.mem_singleton.1 hm']
      exact ⟨rfl, _, hrd⟩
  · have hme : m = O.length := by omega
    subst hme
    rw [List.drop_length, List.map_nil, List.nil_append] at hf
    cases hb : B with
    | nil => rw [hb] at hf; exact absurd hf hne
    | cons f B' =>
      obtain ⟨to, d⟩ := f
      subst hb
      obtain ⟨hz, g, hr⟩ := hB (to, d) (by simp)
      dsimp only at hz hr
      subst hz
      have hmem : ((0 : Int), d) ∈ z.x.fly := by rw [hf]; simp
      have hp := (h.p0 _ hmem rfl) _ _ _ hr
      have hl : ¬ z.x.a.last < (g : Int) := by have := h.d01.last; have := hp.2; omega
      have ht : takeF z.x.a d = (⟨z.x.a.last, still g z.x.a.opens, z.x.a.got, z.x.a.early⟩, [], []) := by
        unfold takeF
        rw [hr]
        dsimp only
        rw [if_neg hl, if_pos rfl]
      rw [come0 hf, ht, if_pos rfl]
      refine ⟨O.length, B', by simp, fun f hm' => hB f (by simp [hm']), Nat.le_refl _, hgot, ?_, fun hO' => by dsimp only; rw [hnil hO']; rfl⟩
      rcases hack with h0 | h0 | ⟨f, hfm, g', hr', hg'⟩
      · exact .inl h0
      · exact .inr (.inl (by dsimp only; rw [h0]; rfl))
      · rcases List.mem_cons.1 hfm with rfl | hfm
        · dsimp only at hr'
          rw [hr] at hr'
          cases hr'
          exact .inr (.inl (still_all h.d01.opens (by omega)))
        · exact .inr (.inr ⟨f, hfm, g', hr', hg'⟩)

theorem come_b {z : LineW} (hok : LineOK z.x) (h : z.x.b.opens = []) (hne : z.x.fly ≠ []) : (comeW z).x.b.opens = [] := by
  cases hf : z.x.fly with
  | nil => exact absurd hf hne
  | cons f r =>
    obtain ⟨to, d⟩ := f
    have hto := (flights_mem.1 hok.2.2.2 (to, d) (by rw [hf]; simp)).1
    have hput : ∀ (x : LineA) (to : Int) (d : List UInt8), (putF x to d).b = x.b := fun x to d => by unfold putF; split <;> rfl
    rcases (by dsimp only at hto; omega : to = 0 ∨ to = 1) with rfl | rfl
    · rw [come0 hf]
      split
      · exact h
      · dsimp only; rw [hput]; exact h
    · rw [come1 hf]
      split
      · exact take_opens h d
      · dsimp only; rw [hput]; exact take_opens h d

/-- The packets that the first end sends again, and what follows. -/
theorem phase {s0 s1 k0 k1 : List (List UInt8)} {sp : Bool} {y z : LineW} (h : InvT s0 s1 k0 k1 sp y) (hf : y.x.fly = []) (hc : Calm (againW y 0) z) :
    InvT s0 s1 k0 k1 sp z ∧ z.x.fly = [] ∧ z.x.a.opens = [] ∧ (y.x.b.opens = [] → z.x.b.opens = []) := by
  have hL : InvL y.x s0 s1 (k0 ++ y.h0) (k1 ++ y.h1) sp := h
  have hok := hL.ok.1
  have hlast := hL.d01.last
  have h8 := hok.2.2.1
  have e0 : againW y 0 = ⟨⟨y.x.a, y.x.b, y.x.a.opens.map fun f => ((1 : Int), enc f.1.toNat y.x.a.got.toNat f.2)⟩, y.h0, y.h1⟩ := by
    unfold againW
    have := puts_all (to := 1) (packets y.x.a) y (by rw [hf]; unfold packets; simp; omega)
    show putsW y ((1 : Int) - ((0 : Nat) : Int)) (packets y.x.a) = _
    rw [show ((1 : Int) - ((0 : Nat) : Int)) = 1 by omega, this, hf]
    unfold packets
    simp
  have hpk := packets_ok hL.d01 hok
  have hpl := packets_len hok
  have hI : InvT s0 s1 k0 k1 sp (againW y 0) := by
    have := (putsW_inv (to := 1) (.inr rfl) (y := y) hL (l := packets y.x.a) fun b hb => ⟨hpl b hb, fun _ => (hpk b hb).1, fun h => by omega, (hpk b hb).2⟩).1
    unfold InvT
    rw [e0]
    have e1 : againW y 0 = putsW y 1 (packets y.x.a) := rfl
    rw [← e1, e0] at this
    exact this
  have hO : ∀ i (hi : i < y.x.a.opens.length), y.x.a.opens[i].1 = (s0.length : Int) - y.x.a.opens.length + 1 + i ∧ okP (y.x.a.opens[i].1.toNat : Int) y.x.a.got.toNat y.x.a.opens[i].2.length = true ∧ 1 ≤ y.x.a.opens[i].1 := by
    intro i hi
    have h1 := hok.2.2.2.1 i hi
    have hb := hok.1
    have hg := hok.2.1
    exact ⟨by omega, okP_of (by omega) (by omega) (by rw [if_neg (by omega)]; exact h1.2.2), h1.2.1⟩
  have hW : Way y.x.a.opens y.x.a.got.toNat s0.length (againW y 0) := by
    rw [e0]
    obtain ⟨gb, gb1, gb2, _, gb4⟩ := hL.d01.got
    exact ⟨0, [], by simp, fun f hm => (by simp at hm), by omega, by dsimp only; omega, .inl rfl, fun h => h⟩
  obtain ⟨⟨h1, ⟨m, B, w1, w2, w3, w4, w5, w6⟩, h3⟩, h4⟩ := hc.keep (P := fun z => InvT s0 s1 k0 k1 sp z ∧ Way y.x.a.opens y.x.a.got.toNat s0.length z ∧ (y.x.b.opens = [] → z.x.b.opens = []))
    (fun z hz hne => ⟨hz.1.come hne, hz.2.1.come hz.1 hO hne, fun hb => come_b hz.1.ok (hz.2.2 hb) hne⟩) ⟨hI, hW, fun hb => by rw [e0]; exact hb⟩
  refine ⟨h1, h4, ?_, h3⟩
  rw [h4] at w1
  have w1' := w1.symm
  rw [List.append_eq_nil_iff] at w1'
  have hm : y.x.a.opens.length ≤ m := by
    have := congrArg List.length w1'.1
    simp at this
    omega
  rcases w5 with h0 | h0 | ⟨f, hfm, _⟩
  · exact w6 (List.length_eq_zero_iff.1 (by omega))
  · exact h0
  · rw [w1'.2] at hfm
    simp at hfm
end Go.Ai.Wire

namespace Go.Ai.Wire

/-- What 'Settle' does: all packets come, then what is open is sent again, end by end. -/
def Settled (y z : LineW) : Prop := ∃ y1 y2, Calm y y1 ∧ Calm (againW y1 0) y2 ∧ Calm (againW y2 1) z

/-- A line on which nothing is on its way, nor open. -/
def Quiet (x : LineA) : Prop := x.fly = [] ∧ x.a.opens = [] ∧ x.b.opens = []

theorem again_none {y : LineW} (hq : Quiet y.x) {t : Nat} (ht : t ≤ 1) : againW y t = y := by
  have : packets (endW y t) = [] := by
    rcases two ht with rfl | rfl
    · show (y.x.a.opens).map _ = []
      rw [hq.2.1]; rfl
    · show (y.x.b.opens).map _ = []
      rw [hq.2.2]; rfl
  unfold againW
  rw [this]
  rfl

theorem Settled.quiet {y z : LineW} (h : Settled y z) (hq : Quiet y.x) : z = y := by
  obtain ⟨y1, y2, h1, h2, h3⟩ := h
  have e1 := h1.none hq.1
  subst e1
  rw [again_none hq (by omega)] at h2
  have e2 := h2.none hq.1
  subst e2
  rw [again_none hq (by omega)] at h3
  exact h3.none hq.1

theorem turnW_turnW (y : LineW) : turnW (turnW y) = y := by
  unfold turnW
  simp only [turn_turn]

theorem turn_come {y : LineW} (hok : LineOK y.x) : comeW (turnW y) = turnW (comeW y) := by
  cases hf : y.x.fly with
  | nil =>
    have e : (turnW y).x.fly = [] := by show y.x.fly.map flipI = []; rw [hf]; rfl
    unfold comeW
    rw [e, hf]
  | cons f r =>
    have hto := (flights_mem.1 hok.2.2.2 f (by rw [hf]; simp)).1
    have e : (turnW y).x.fly = flipI f :: r.map flipI := by show y.x.fly.map flipI = _; rw [hf]; rfl
    unfold comeW
    rw [e, hf]
    dsimp only
    have e1 : (flipI f).1.toNat = 1 - f.1.toNat := by show (1 - f.1).toNat = _; omega
    rw [e1, show (flipI f).2 = f.2 from rfl]
    exact turn_arrive ⟨⟨y.x.a, y.x.b, r⟩, y.h0, y.h1⟩ (by omega) f.2

theorem comeW_ok {y : LineW} (hok : LineOK y.x) : LineOK (comeW y).x := by
  unfold comeW
  cases hf : y.x.fly with
  | nil => exact hok
  | cons f r =>
    have hlen := hok.2.2.1
    rw [hf, List.length_cons] at hlen
    have hto := (flights_mem.1 hok.2.2.2 f (by rw [hf]; simp)).1
    dsimp only
    exact arriveW_ok (y := ⟨⟨y.x.a, y.x.b, r⟩, y.h0, y.h1⟩) ⟨hok.1, hok.2.1, by dsimp only; omega, flights_mem.2 fun g hg => flights_mem.1 hok.2.2.2 g (by rw [hf]; simp [hg])⟩ (by omega) f.2

theorem Calm.turn {y z : LineW} (h : Calm y z) : LineOK y.x → Calm (turnW y) (turnW z) := by
  induction h with
  | done h => exact fun _ => .done (by show List.map flipI _ = []; rw [h]; rfl)
  | step h k ih =>
    rename_i y z
    intro hok
    refine .step (fun hn => h ?_) ?_
    · have : y.x.fly.map flipI = [] := hn
      simpa using this
    · rw [turn_come hok]
      exact ih (comeW_ok hok)

theorem InvL.turn {x : LineA} {s0 s1 h0 h1 : List (List UInt8)} {sp : Bool} (h : InvL x s0 s1 h0 h1 sp) : InvL (turnL x) s1 s0 h1 h0 sp := by
  refine ⟨turnL_ok h.ok, h.d10, h.d01, fun f hf h1 => ?_, fun f hf h0 => ?_, fun hs f hf => ?_⟩
  · obtain ⟨f', hf', rfl⟩ := List.mem_map.1 hf
    exact h.p0 f' hf' (by have : (1 : Int) - f'.1 = 1 := h1; omega)
  · obtain ⟨f', hf', rfl⟩ := List.mem_map.1 hf
    exact h.p1 f' hf' (by have : (1 : Int) - f'.1 = 0 := h0; omega)
  · obtain ⟨f', hf', rfl⟩ := List.mem_map.1 hf
    exact h.rd hs f' hf'

theorem InvT.turn {s0 s1 k0 k1 : List (List UInt8)} {sp : Bool} {y : LineW} (h : InvT s0 s1 k0 k1 sp y) : InvT s1 s0 k1 k0 sp (turnW y) := InvL.turn h

/-- The law. -/
theorem settled_law {s0 s1 k0 k1 : List (List UInt8)} {sp : Bool} {x : LineA} {z : LineW} (h : InvL x s0 s1 k0 k1 sp) (hs : Settled ⟨x, [], []⟩ z) : Quiet z.x ∧ InvL z.x s0 s1 (k0 ++ z.h0) (k1 ++ z.h1) sp := by
  obtain ⟨y1, y2, h1, h2, h3⟩ := hs
  have i0 : InvT s0 s1 k0 k1 sp ⟨x, [], []⟩ := by unfold InvT; simpa using h
  obtain ⟨i1, f1⟩ := h1.keep (P := InvT s0 s1 k0 k1 sp) (fun y hy hne => hy.come hne) i0
  obtain ⟨i2, f2, o2, _⟩ := phase i1 f1 h2
  have hf : (turnW y2).x.fly = [] := by show y2.x.fly.map flipI = []; rw [f2]; rfl
  have hok2 : LineOK (againW y2 1).x := by
    have hpl := packets_len i2.ok.2.1
    exact putsW_ok (y := y2) (l := packets y2.x.b) (to := (1 : Int) - ((1 : Nat) : Int)) (by omega) i2.ok hpl
  have h3' : Calm (againW (turnW y2) 0) (turnW z) := by
    have := h3.turn hok2
    rw [← turn_again y2 (t := 1) (by omega)] at this
    exact this
  obtain ⟨i3, f3, o3, p3⟩ := phase i2.turn hf h3'
  have i3' := i3.turn
  rw [turnW_turnW] at i3'
  refine ⟨⟨?_, p3 o2, o3⟩, i3'⟩
  have : z.x.fly.map flipI = [] := f3
  simpa using this

/-- On a quiet line all was handed on. -/
theorem quiet_all {x : LineA} {s0 s1 h0 h1 : List (List UInt8)} {sp : Bool} (h : InvL x s0 s1 h0 h1 sp) (hq : Quiet x) :
    h1 = s0 ∧ h0 = s1 ∧ x.a.early = [] ∧ x.b.early = [] ∧ x.a.got = s1.length ∧ x.b.got = s0.length ∧ x.a.last = s0.length ∧ x.b.last = s1.length := by
  obtain ⟨g, g1, g2, g3, g4⟩ := h.d01.got
  obtain ⟨k, k1, k2, k3, k4⟩ := h.d10.got
  rw [hq.2.1, List.length_nil] at g4
  rw [hq.2.2, List.length_nil] at k4
  have eg : g = s0.length := by omega
  have ek : k = s1.length := by omega
  subst eg
  subst ek
  rw [List.take_length] at g3 k3
  have key : ∀ {R : EndA} {S : List (List UInt8)}, EndOK R → (∀ y ∈ R.early, Of S y) → R.got = S.length → R.early = [] := by
    intro R S hok hof hg
    cases he : R.early with
    | nil => rfl
    | cons f r =>
      obtain ⟨k, h1, h2⟩ := hof f (by rw [he]; simp)
      have hk := (List.getElem?_eq_some_iff.1 h2).1
      have h3 := (hok.2.2.2.2 0 (by rw [he]; simp)).1
      simp only [he, List.getElem_cons_zero] at h3
      omega
  exact ⟨g3, k3, key h.ok.1 h.d10.early k1, key h.ok.2.1 h.d01.early g1, k1, g1, h.d01.last, h.d10.last⟩

/-! ### sizes on the way -/
theorem come_h {y : LineW} (hok : LineOK y.x) : (comeW y).h0.length ≤ y.h0.length + 8 ∧ (comeW y).h1.length ≤ y.h1.length + 8 := by
  unfold comeW
  cases hf : y.x.fly with
  | nil => dsimp only; exact ⟨by omega, by omega⟩
  | cons f r =>
    have hlen := hok.2.2.1
    rw [hf, List.length_cons] at hlen
    dsimp only
    exact arriveW_h (y := ⟨⟨y.x.a, y.x.b, r⟩, y.h0, y.h1⟩) ⟨hok.1, hok.2.1, by dsimp only; omega, flights_mem.2 fun g hg => flights_mem.1 hok.2.2.2 g (by rw [hf]; simp [hg])⟩ f.1.toNat f.2
end Go.Ai.Wire
