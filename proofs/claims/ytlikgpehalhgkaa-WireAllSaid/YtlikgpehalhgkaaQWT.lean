/-
  What stays true on a line whatever goes through it.
  A story's step keeps what is true of it.
-/
import Derived.Test.YtlikgpehalhgkaaQWR
import Derived.Test.YtlikgpehalhgkaaQWS
namespace Go.Ai.Wire

/-- A frame with its number is one that was said. -/
def Of (S : List (List UInt8)) (y : Itm) : Prop := ∃ k : Nat, y.1 = k + 1 ∧ S[k]? = some y.2

/-- One direction: what an end has sent, and the other one got. -/
structure Dir (E R : EndA) (S Hd : List (List UInt8)) : Prop where
  last : E.last = S.length
  opens : ∀ y ∈ E.opens, Of S y
  got : ∃ g : Nat, R.got = g ∧ g ≤ S.length ∧ Hd = S.take g ∧ S.length ≤ g + E.opens.length
  early : ∀ y ∈ R.early, Of S y

/-- A packet's bytes are none of a packet, or say what was said, and what was got. -/
def PkOK (S : List (List UInt8)) (got : Int) (bs : List UInt8) : Prop := ∀ n g d, readB bs = some (n, g, d) → (n ≠ 0 → Of S (n, d)) ∧ (g : Int) ≤ got

theorem Of.more {S : List (List UInt8)} {y : Itm} (h : Of S y) (d : List UInt8) : Of (S ++ [d]) y := by
  obtain ⟨k, h1, h2⟩ := h
  refine ⟨k, h1, ?_⟩
  rw [List.getElem?_append_left (List.getElem?_eq_some_iff.1 h2).1]
  exact h2
theorem PkOK.more {S : List (List UInt8)} {got : Int} {bs : List UInt8} (h : PkOK S got bs) (d : List UInt8) : PkOK (S ++ [d]) got bs := fun n g e hr => ⟨fun h0 => ((h n g e hr).1 h0).more d, (h n g e hr).2⟩
theorem PkOK.mono {S : List (List UInt8)} {got got' : Int} {bs : List UInt8} (h : PkOK S got bs) (hg : got ≤ got') : PkOK S got' bs := fun n g e hr => ⟨(h n g e hr).1, by have := (h n g e hr).2; omega⟩

theorem PkOK.enc {S : List (List UInt8)} {n g : Nat} {got : Int} {d : List UInt8} (hok : okP n g d.length = true) (h1 : n ≠ 0 → Of S (n, d)) (h2 : (g : Int) ≤ got) : PkOK S got (Wire.enc n g d) := by
  intro n' g' d' hr
  rw [readB_enc hok] at hr
  cases hr
  exact ⟨h1, h2⟩

theorem okP_of {n g : Nat} {d : List UInt8} (hn : n ≤ 60000) (hg : g ≤ 60000) (h : if n = 0 then d = [] else FrameOK d) : okP n g d.length = true := by
  simp only [okP, decide_eq_true_eq]
  refine ⟨by omega, by omega, ?_⟩
  split at h
  · rename_i h0
    rw [if_pos (by omega), h]
    rfl
  · rename_i h0
    rw [if_neg (by omega)]
    exact h

/-! ### an end sends -/
theorem Dir.send {E R : EndA} {S Hd : List (List UInt8)} (h : Dir E R S Hd) (d : List UInt8) : Dir (sent E d) R (S ++ [d]) Hd := by
  obtain ⟨g, g1, g2, g3, g4⟩ := h.got
  refine ⟨?_, fun y hy => ?_, ⟨g, g1, by simp; omega, ?_, by simp [sent]; omega⟩, fun y hy => (h.early y hy).more d⟩
  · have := h.last
    simp [sent]; omega
  · rcases List.mem_append.1 hy with hy | hy
    · exact (h.opens y hy).more d
    · simp at hy
      rw [hy]
      refine ⟨S.length, by have := h.last; dsimp only; omega, ?_⟩
      simp
  · rw [g3, List.take_append_of_le_length g2]

theorem Dir.sends {E R : EndA} {S Hd : List (List UInt8)} (h : Dir E R S Hd) (d : List UInt8) : Dir E (sent R d) S Hd := ⟨h.last, h.opens, h.got, h.early⟩

/-! ### an end takes -/
theorem follow_said {S : List (List UInt8)} : ∀ {l : List Itm} {g : Nat}, (∀ y ∈ l, Of S y) → g ≤ S.length → S.take g ++ (l.take (follow g l)).map (·.2) = S.take (g + follow g l) ∧ g + follow g l ≤ S.length
  | [], g, _, h => by simp [follow, h]
  | y :: r, g, hy, h => by
    unfold follow
    split
    · rename_i he
      obtain ⟨k, h1, h2⟩ := hy y (by simp)
      have hk : k = g := by omega
      subst hk
      have hlt := (List.getElem?_eq_some_iff.1 h2).1
      have e : S.take (k + 1) = S.take k ++ [y.2] := by
        rw [List.take_add_one, h2]
        rfl
      have ih := follow_said (l := r) (g := k + 1) (fun z hz => hy z (by simp [hz])) (by omega)
      have ec : ((k + 1 : Nat) : Int) = (k : Int) + 1 := by omega
      rw [ec] at ih
      refine ⟨?_, by omega⟩
      rw [List.take_succ_cons, List.map_cons]
      have := ih.1
      rw [e] at this
      rw [show k + (follow ((k : Int) + 1) r + 1) = k + 1 + follow ((k : Int) + 1) r by omega, ← this]
      simp
    · simp [h]

theorem gone_cons2 {g : Int} {y : Itm} {l : List Itm} : gone g (y :: l) = if y.1 ≤ g then gone g l + 1 else 0 := by
  unfold gone
  rw [List.takeWhile_cons]
  by_cases h : y.1 ≤ g
  · simp [h]
  · simp [h]

theorem gone_at {g : Int} : ∀ {l : List Itm} {i : Nat}, i < gone g l → ∃ h : i < l.length, l[i].1 ≤ g
  | [], i, h => by simp [gone] at h
  | y :: l, i, h => by
    rw [gone_cons2] at h
    split at h
    · rename_i hy
      cases i with
      | zero => exact ⟨by simp, hy⟩
      | succ i =>
        obtain ⟨h1, h2⟩ := gone_at (g := g) (l := l) (i := i) (by omega)
        exact ⟨by simp; omega, by simpa using h2⟩
    · omega

theorem still_len {x : EndA} (h : EndOK x) (g : Int) : x.opens.length ≤ (still g x.opens).length ∨ x.last ≤ g + (still g x.opens).length := by
  rw [← still_drop h.sortO, List.length_drop]
  by_cases h0 : gone g x.opens = 0
  · left; omega
  · right
    obtain ⟨h1, h2⟩ := gone_at (g := g) (l := x.opens) (i := gone g x.opens - 1) (by omega)
    have := (h.2.2.2.1 _ h1).1
    omega

theorem Dir.opened {R E : EndA} {S Hd : List (List UInt8)} (h : Dir R E S Hd) (hok : EndOK R) {g : Int} (hg : g ≤ E.got) {R' : EndA} (h1 : R'.last = R.last) (h2 : R'.opens = still g R.opens) : Dir R' E S Hd := by
  obtain ⟨ge, g1, g2, g3, g4⟩ := h.got
  have hl := h.last
  refine ⟨by rw [h1]; exact h.last, fun y hy => h.opens y (by rw [h2] at hy; exact (List.mem_filter.1 hy).1), ⟨ge, g1, g2, g3, ?_⟩, h.early⟩
  rw [h2]
  rcases still_len hok g with h | h
  · omega
  · omega

/-- What a packet that comes does to both directions. -/
theorem take_dirs {E R : EndA} {S Hd S' Hd' : List (List UInt8)} (h : Dir E R S Hd) (h' : Dir R E S' Hd') (hok : EndOK R) {bs : List UInt8} (hp : PkOK S E.got bs) :
    Dir E (takeF R bs).1 S (Hd ++ (takeF R bs).2.1) ∧ Dir (takeF R bs).1 E S' Hd' ∧ R.got ≤ (takeF R bs).1.got ∧ R.last = (takeF R bs).1.last := by
  have triv : Dir E R S (Hd ++ []) ∧ Dir R E S' Hd' ∧ R.got ≤ R.got ∧ R.last = R.last := ⟨by rw [List.append_nil]; exact h, h', Int.le_refl _, rfl⟩
  unfold takeF
  cases hr : readB bs with
  | none => exact triv
  | some y =>
    obtain ⟨n, g, d⟩ := y
    obtain ⟨hp1, hp2⟩ := hp n g d hr
    dsimp only
    by_cases hl : R.last < g
    · rw [if_pos hl]; exact triv
    · rw [if_neg hl]
      have ho : ∀ (R' : EndA), R'.last = R.last → R'.opens = still g R.opens → Dir R' E S' Hd' := fun R' h1 h2 => h'.opened hok hp2 h1 h2
      by_cases hn : n = 0
      · rw [if_pos hn]
        exact ⟨by rw [List.append_nil]; exact ⟨h.last, h.opens, h.got, h.early⟩, ho _ rfl rfl, Int.le_refl _, rfl⟩
      · rw [if_neg hn]
        obtain ⟨k, k1, k2⟩ := hp1 hn
        dsimp only at k1 k2
        obtain ⟨gr, g1, g2, g3, g4⟩ := h.got
        by_cases h1 : (n : Int) - R.got = 1
        · rw [if_pos h1]
          have hk : k = gr := by omega
          subst hk
          have hlt := (List.getElem?_eq_some_iff.1 k2).1
          have e : S.take (k + 1) = S.take k ++ [d] := by rw [List.take_add_one, k2]; rfl
          obtain ⟨f1, f2⟩ := follow_said (S := S) (l := R.early) (g := k + 1) h.early (by omega)
          have ec : ((k + 1 : Nat) : Int) = R.got + 1 := by omega
          rw [ec] at f1 f2
          refine ⟨⟨h.last, h.opens, ⟨k + 1 + follow (R.got + 1) R.early, by dsimp only [handed]; omega, f2, ?_, by omega⟩, fun y hy => h.early y (List.mem_of_mem_drop hy)⟩, ho _ rfl rfl, by dsimp only [handed]; omega, rfl⟩
          dsimp only [hands]
          rw [← f1, g3, e]
          simp
        · rw [if_neg h1]
          by_cases h2 : 2 ≤ (n : Int) - R.got ∧ (n : Int) - R.got ≤ 8
          · rw [if_pos h2]
            refine ⟨?_, ho _ rfl rfl, Int.le_refl _, rfl⟩
            rw [List.append_nil]
            refine ⟨h.last, h.opens, h.got, fun y hy => ?_⟩
            rcases mem_insI hy with rfl | hy
            · exact hp1 hn
            · exact h.early y hy
          · rw [if_neg h2]
            exact ⟨by rw [List.append_nil]; exact ⟨h.last, h.opens, h.got, h.early⟩, ho _ rfl rfl, Int.le_refl _, rfl⟩

/-- The reply is a right packet that says what was got. -/
theorem take_reply {R : EndA} (hok : EndOK R) (bs : List UInt8) (h : (takeF R bs).2.2 ≠ []) (S : List (List UInt8)) : PkOK S (takeF R bs).1.got (takeF R bs).2.2 ∧ (readB (takeF R bs).2.2).isSome = true := by
  have hok' := takeF_ok hok bs
  have key : (takeF R bs).2.2 = enc 0 (takeF R bs).1.got.toNat [] := by
    unfold takeF at h ⊢
    cases hr : readB bs with
    | none => rw [hr] at h; exact absurd rfl h
    | some y =>
      obtain ⟨n, g, d⟩ := y
      rw [hr] at h
      dsimp only at h ⊢
      by_cases hl : R.last < g
      · rw [if_pos hl] at h; exact absurd rfl h
      · rw [if_neg hl] at h ⊢
        by_cases hn : n = 0
        · rw [if_pos hn] at h; exact absurd rfl h
        · rw [if_neg hn]
          split
          · rfl
          · split
            · rfl
            · rfl
  rw [key]
  have hg := hok'.2.1
  have ho : okP ((0 : Nat) : Int) (((takeF R bs).1.got.toNat : Nat) : Int) ([] : List UInt8).length = true := okP_of (n := 0) (g := (takeF R bs).1.got.toNat) (d := []) (by omega) (by omega) (by simp)
  refine ⟨PkOK.enc ho (fun h => absurd rfl h) (by omega), ?_⟩
  rw [readB_enc ho]
  rfl

/-! ### a line -/
structure InvL (x : LineA) (s0 s1 h0 h1 : List (List UInt8)) (sp : Bool) : Prop where
  ok : LineOK x
  d01 : Dir x.a x.b s0 h1
  d10 : Dir x.b x.a s1 h0
  p1 : ∀ f ∈ x.fly, f.1 = 1 → PkOK s0 x.a.got f.2
  p0 : ∀ f ∈ x.fly, f.1 = 0 → PkOK s1 x.b.got f.2
  rd : sp = false → ∀ f ∈ x.fly, (readB f.2).isSome = true

theorem InvL.sub {x : LineA} {s0 s1 h0 h1 : List (List UInt8)} {sp : Bool} (h : InvL x s0 s1 h0 h1 sp) {l : List Itm} (hl : ∀ f ∈ l, f ∈ x.fly) (hn : l.length ≤ 60) : InvL ⟨x.a, x.b, l⟩ s0 s1 h0 h1 sp :=
  ⟨⟨h.ok.1, h.ok.2.1, hn, flights_mem.2 fun f hf => flights_mem.1 h.ok.2.2.2 f (hl f hf)⟩, h.d01, h.d10, fun f hf => h.p1 f (hl f hf), fun f hf => h.p0 f (hl f hf), fun hs f hf => h.rd hs f (hl f hf)⟩

theorem InvL.put {x : LineA} {s0 s1 h0 h1 : List (List UInt8)} {sp : Bool} (h : InvL x s0 s1 h0 h1 sp) {to : Int} {d : List UInt8} (hf : FlightOK (to, d)) (h1' : to = 1 → PkOK s0 x.a.got d) (h0' : to = 0 → PkOK s1 x.b.got d) (hr : sp = false → (readB d).isSome = true) : InvL (putF x to d) s0 s1 h0 h1 sp := by
  have hok := putF_ok h.ok hf
  unfold putF at hok ⊢
  split
  · rename_i hlt
    rw [if_pos hlt] at hok
    refine ⟨hok, h.d01, h.d10, fun f hm => ?_, fun f hm => ?_, fun hs f hm => ?_⟩
    · rcases List.mem_append.1 hm with hm | hm
      · exact h.p1 f hm
      · simp at hm; rw [hm]; exact h1'
    · rcases List.mem_append.1 hm with hm | hm
      · exact h.p0 f hm
      · simp at hm; rw [hm]; exact h0'
    · rcases List.mem_append.1 hm with hm | hm
      · exact h.rd hs f hm
      · simp at hm; rw [hm]; exact hr hs
  · exact h

theorem InvL.say0 {x : LineA} {s0 s1 h0 h1 : List (List UInt8)} {sp : Bool} (h : InvL x s0 s1 h0 h1 sp) {d : List UInt8} (hf : FrameOK d) (hl : x.a.last ≠ 60000) (ho : x.a.opens.length ≠ 8) : InvL ⟨sent x.a d, x.b, x.fly⟩ (s0 ++ [d]) s1 h0 h1 sp :=
  ⟨⟨sent_ok h.ok.1 hf hl ho, h.ok.2.1, h.ok.2.2⟩, h.d01.send d, h.d10.sends d, fun f hm h1 => (h.p1 f hm h1).more d, h.p0, h.rd⟩
theorem InvL.say1 {x : LineA} {s0 s1 h0 h1 : List (List UInt8)} {sp : Bool} (h : InvL x s0 s1 h0 h1 sp) {d : List UInt8} (hf : FrameOK d) (hl : x.b.last ≠ 60000) (ho : x.b.opens.length ≠ 8) : InvL ⟨x.a, sent x.b d, x.fly⟩ s0 (s1 ++ [d]) h0 h1 sp :=
  ⟨⟨h.ok.1, sent_ok h.ok.2.1 hf hl ho, h.ok.2.2⟩, h.d01.sends d, h.d10.send d, h.p1, fun f hm h1 => (h.p0 f hm h1).more d, h.rd⟩

theorem InvL.take1 {x : LineA} {s0 s1 h0 h1 : List (List UInt8)} {sp : Bool} (h : InvL x s0 s1 h0 h1 sp) {bs : List UInt8} (hp : PkOK s0 x.a.got bs) : InvL ⟨x.a, (takeF x.b bs).1, x.fly⟩ s0 s1 h0 (h1 ++ (takeF x.b bs).2.1) sp ∧ x.b.got ≤ (takeF x.b bs).1.got ∧ x.b.last = (takeF x.b bs).1.last := by
  obtain ⟨t1, t2, t3, t4⟩ := take_dirs h.d01 h.d10 h.ok.2.1 hp
  exact ⟨⟨⟨h.ok.1, takeF_ok h.ok.2.1 bs, h.ok.2.2⟩, t1, t2, h.p1, fun f hm h0 => (h.p0 f hm h0).mono t3, h.rd⟩, t3, t4⟩
theorem InvL.take0 {x : LineA} {s0 s1 h0 h1 : List (List UInt8)} {sp : Bool} (h : InvL x s0 s1 h0 h1 sp) {bs : List UInt8} (hp : PkOK s1 x.b.got bs) : InvL ⟨(takeF x.a bs).1, x.b, x.fly⟩ s0 s1 (h0 ++ (takeF x.a bs).2.1) h1 sp ∧ x.a.got ≤ (takeF x.a bs).1.got ∧ x.a.last = (takeF x.a bs).1.last := by
  obtain ⟨t1, t2, t3, t4⟩ := take_dirs h.d10 h.d01 h.ok.1 hp
  exact ⟨⟨⟨takeF_ok h.ok.1 bs, h.ok.2.1, h.ok.2.2⟩, t2, t1, fun f hm h0 => (h.p1 f hm h0).mono t3, h.p0, h.rd⟩, t3, t4⟩
end Go.Ai.Wire

namespace Go.Ai.Wire

theorem Dir.beg {E R : EndA} {S Hd : List (List UInt8)} (h : Dir E R S Hd) : Hd = S.take Hd.length := by
  obtain ⟨g, g1, g2, g3, g4⟩ := h.got
  rw [g3, List.length_take, Nat.min_eq_left g2]

theorem packets_ok {E R : EndA} {S Hd : List (List UInt8)} (h : Dir E R S Hd) (hok : EndOK E) : ∀ b ∈ packets E, PkOK S E.got b ∧ (readB b).isSome = true := by
  intro b hb
  obtain ⟨y, hy, rfl⟩ := List.mem_map.1 hb
  obtain ⟨i, hi, rfl⟩ := List.mem_iff_getElem.1 hy
  have h1 := hok.2.2.2.1 i hi
  obtain ⟨k, k1, k2⟩ := h.opens _ hy
  have hg := hok.2.1
  have hl := hok.1
  have hb := hok.opensOK.2.2 i hi
  have ho : okP ((E.opens[i].1.toNat : Nat) : Int) ((E.got.toNat : Nat) : Int) E.opens[i].2.length = true := okP_of (by omega) (by omega) (by rw [if_neg (by omega)]; exact h1.2.2)
  refine ⟨PkOK.enc ho (fun _ => ⟨k, by dsimp only; omega, k2⟩) (by omega), ?_⟩
  rw [readB_enc ho]
  rfl

theorem putsW_inv {to : Int} (ht : to = 0 ∨ to = 1) {s0 s1 h0 h1 : List (List UInt8)} {sp : Bool} : ∀ {l : List (List UInt8)} {y : LineW}, InvL y.x s0 s1 h0 h1 sp → (∀ b ∈ l, (1 ≤ b.length ∧ b.length ≤ 408) ∧ (to = 1 → PkOK s0 y.x.a.got b) ∧ (to = 0 → PkOK s1 y.x.b.got b) ∧ (readB b).isSome = true) →
    InvL (putsW y to l).x s0 s1 h0 h1 sp ∧ (putsW y to l).x.a = y.x.a ∧ (putsW y to l).x.b = y.x.b
  | [], y, h, _ => ⟨h, rfl, rfl⟩
  | b :: l, y, h, hb => by
    have hb1 := hb b (by simp)
    have hput : InvL (putW y to b).x s0 s1 h0 h1 sp := h.put ⟨by dsimp only; omega, hb1.1⟩ hb1.2.1 hb1.2.2.1 (fun _ => hb1.2.2.2)
    have ea : (putW y to b).x.a = y.x.a := by unfold putW putF; dsimp only; split <;> rfl
    have eb : (putW y to b).x.b = y.x.b := by unfold putW putF; dsimp only; split <;> rfl
    have ih := putsW_inv ht (l := l) (y := putW y to b) hput (fun c hc => by rw [ea, eb]; exact hb c (by simp [hc]))
    unfold putsW at ih ⊢
    rw [List.foldl_cons]
    exact ⟨ih.1, ih.2.1.trans ea, ih.2.2.trans eb⟩

/-- A story whose line keeps its promises. -/
structure InvS (y : StoryA) : Prop where
  ln : InvL y.x y.s0 y.s1 y.h0 y.h1 y.sp
  n0 : y.s0.length ≤ 1000
  n1 : y.s1.length ≤ 1000

theorem InvS.small {y : StoryA} (h : InvS y) : SmallS y := by
  refine ⟨h.ln.ok, h.n0, h.n1, ?_, ?_⟩
  · have := h.ln.d10.beg
    have h2 := h.n1
    have := congrArg List.length this
    rw [List.length_take] at this
    omega
  · have := h.ln.d01.beg
    have h2 := h.n0
    have := congrArg List.length this
    rw [List.length_take] at this
    omega

theorem doF_fine {x : LineA} {a : ActA} (hok : LineOK x) (hf : FineA x.fly a) : doF x a = if (actW ⟨x, [], []⟩ a).2 = 0 then ((actW ⟨x, [], []⟩ a).1.x, (actW ⟨x, [], []⟩ a).1.h0 ++ (actW ⟨x, [], []⟩ a).1.h1, 0) else (zeroL, [], (actW ⟨x, [], []⟩ a).2) := by
  have e : doW ⟨x, [], []⟩ a = actW ⟨x, [], []⟩ a := by unfold doW; rw [if_pos hf]
  unfold doF
  rw [if_pos hok, e]

/-- What is to be shown of an act that succeeds. -/
theorem good_step {y : StoryA} {a : ActA} {x' : LineA} {fr : List (List UInt8)} (hd : doF y.x a = (x', fr, 0)) (hi : InvL x' (goS y a).s0 (goS y a).s1 (goS y a).h0 (goS y a).h1 (goS y a).sp) (hg : y.x.a.last ≤ x'.a.last ∧ y.x.a.got ≤ x'.a.got ∧ y.x.b.last ≤ x'.b.last ∧ y.x.b.got ≤ x'.b.got) :
    StepOK y a ∧ InvL (goS y a).x (goS y a).s0 (goS y a).s1 (goS y a).h0 (goS y a).h1 (goS y a).sp := by
  have ex : (goS y a).x = x' := by unfold goS; rw [hd]; rfl
  refine ⟨.inl ⟨by rw [hd], by rw [hd]; exact hg, by rw [hd]; exact hi.ok, hi.d10.beg, hi.d01.beg⟩, by rw [ex]; exact hi⟩

theorem goS_of {y : StoryA} {a : ActA} {x' : LineA} {fr : List (List UInt8)} (hd : doF y.x a = (x', fr, 0)) : goS y a = ⟨x', if a.kind = 1 ∧ a.who = 0 then y.s0 ++ [a.data] else y.s0, if a.kind = 1 ∧ a.who ≠ 0 then y.s1 ++ [a.data] else y.s1,
      if hearsA y.x.fly a = 0 then y.h0 ++ fr else y.h0, if hearsA y.x.fly a ≠ 0 then y.h1 ++ fr else y.h1, y.sp || decide (a.kind = 6)⟩ := by
  unfold goS
  rw [hd, if_pos rfl]

theorem hears_none {fly : List Itm} {a : ActA} (h : a.kind ≠ 3) : hearsA fly a = 0 := by unfold hearsA; rw [if_neg (fun h' => h h'.1)]

set_option maxHeartbeats 1000000 in
theorem InvS.act {y : StoryA} (h : InvS y) {a : ActA} (hf : FineA y.x.fly a) (h6 : a.kind = 6 → y.sp = false) : StepOK y a ∧ InvL (goS y a).x (goS y a).s0 (goS y a).s1 (goS y a).h0 (goS y a).h1 (goS y a).sp := by
  have hln := h.ln
  have hd0 := doF_fine hln.ok hf
  have hn0 := h.n0
  have hn1 := h.n1
  have hl0 := hln.d01.last
  have hl1 := hln.d10.last
  rcases id hf with ⟨hk, hfr, hwho, _⟩ | ⟨hk, _, hwho, _⟩ | ⟨hk, _, _, hat, _⟩ | ⟨hk, _, _, hat, hpos, hpl, hx1, hx2⟩
  · -- say
    have hw1 := hwho.1
    have hw2 := hwho.2
    have hkk : ¬ a.kind = 6 := by omega
    have hh := hears_none (fly := y.x.fly) (a := a) (by omega)
    have hact : actW ⟨y.x, [], []⟩ a = sayW ⟨y.x, [], []⟩ a.who.toNat a.data := by unfold actW; rw [if_pos hk]
    rw [hact] at hd0
    have hfd := hfr.2
    rcases (by omega : a.who = 0 ∨ a.who = 1) with hw | hw
    · have hwt : a.who.toNat = 0 := by omega
      rw [hwt] at hd0
      by_cases h8 : y.x.a.opens.length = 8
      · have e : sayW ⟨y.x, [], []⟩ 0 a.data = (⟨y.x, [], []⟩, 8) := by
          unfold sayW endW
          rw [if_neg (by dsimp only; simp; omega), if_pos (by simpa using h8)]
        rw [e] at hd0
        have hd : doF y.x a = (zeroL, [], 8) := by rw [hd0]; rfl
        have hgo : goS y a = y := by unfold goS; rw [hd, if_neg (by decide)]
        rw [hgo]
        refine ⟨.inr ⟨by rw [hd], hk, ?_⟩, hln⟩
        unfold endX
        rw [if_pos hw]
        exact h8
      · have e : sayW ⟨y.x, [], []⟩ 0 a.data = (putW ⟨⟨sent y.x.a a.data, y.x.b, y.x.fly⟩, [], []⟩ 1 (enc (y.x.a.last + 1).toNat y.x.a.got.toNat a.data), 0) := by
          unfold sayW endW
          rw [if_neg (by dsimp only; simp; omega), if_neg (by simpa using h8)]
          rfl
        rw [e] at hd0
        have hd : doF y.x a = (putF ⟨sent y.x.a a.data, y.x.b, y.x.fly⟩ 1 (enc (y.x.a.last + 1).toNat y.x.a.got.toNat a.data), [], 0) := by rw [hd0]; rfl
        have hgo := goS_of hd
        have hok' := hln.ok.1
        have hs : InvL ⟨sent y.x.a a.data, y.x.b, y.x.fly⟩ (y.s0 ++ [a.data]) y.s1 y.h0 y.h1 y.sp := hln.say0 hfr (by omega) h8
        have ho : okP (((y.x.a.last + 1).toNat : Nat) : Int) ((y.x.a.got.toNat : Nat) : Int) a.data.length = true := okP_of (by omega) (by have := hok'.2.1; omega) (by rw [if_neg (by omega)]; exact hfr)
        have hpk : PkOK (y.s0 ++ [a.data]) y.x.a.got (enc (y.x.a.last + 1).toNat y.x.a.got.toNat a.data) := PkOK.enc ho (fun _ => ⟨y.s0.length, by dsimp only; omega, by simp⟩) (by have := hok'.2.1; omega)
        have hput := hs.put (to := 1) (d := enc (y.x.a.last + 1).toNat y.x.a.got.toNat a.data) ⟨by dsimp only; omega, by dsimp only; rw [enc_len]; omega⟩ (fun _ => hpk) (fun h => by omega) (fun _ => by rw [readB_enc ho]; rfl)
        refine good_step hd ?_ ?_
        · rw [hgo]
          simpa [hk, hw, hh, hkk] using hput
        · have e1 : ∀ (x : LineA) (to : Int) (d : List UInt8), (putF x to d).a = x.a ∧ (putF x to d).b = x.b := by intro x to d; unfold putF; split <;> exact ⟨rfl, rfl⟩
          rw [(e1 _ _ _).1, (e1 _ _ _).2]
          dsimp only [sent]
          omega
    · have hwt : a.who.toNat = 1 := by omega
      rw [hwt] at hd0
      have hwn : ¬ a.who = 0 := by omega
      by_cases h8 : y.x.b.opens.length = 8
      · have e : sayW ⟨y.x, [], []⟩ 1 a.data = (⟨y.x, [], []⟩, 8) := by
          unfold sayW endW
          rw [if_neg (by dsimp only; simp; omega), if_pos (by simpa using h8)]
        rw [e] at hd0
        have hd : doF y.x a = (zeroL, [], 8) := by rw [hd0]; rfl
        have hgo : goS y a = y := by unfold goS; rw [hd, if_neg (by decide)]
        rw [hgo]
        refine ⟨.inr ⟨by rw [hd], hk, ?_⟩, hln⟩
        unfold endX
        rw [if_neg hwn]
        exact h8
      · have e : sayW ⟨y.x, [], []⟩ 1 a.data = (putW ⟨⟨y.x.a, sent y.x.b a.data, y.x.fly⟩, [], []⟩ 0 (enc (y.x.b.last + 1).toNat y.x.b.got.toNat a.data), 0) := by
          unfold sayW endW
          rw [if_neg (by dsimp only; simp; omega), if_neg (by simpa using h8)]
          rfl
        rw [e] at hd0
        have hd : doF y.x a = (putF ⟨y.x.a, sent y.x.b a.data, y.x.fly⟩ 0 (enc (y.x.b.last + 1).toNat y.x.b.got.toNat a.data), [], 0) := by rw [hd0]; rfl
        have hgo := goS_of hd
        have hok' := hln.ok.2.1
        have hs : InvL ⟨y.x.a, sent y.x.b a.data, y.x.fly⟩ y.s0 (y.s1 ++ [a.data]) y.h0 y.h1 y.sp := hln.say1 hfr (by omega) h8
        have ho : okP (((y.x.b.last + 1).toNat : Nat) : Int) ((y.x.b.got.toNat : Nat) : Int) a.data.length = true := okP_of (by omega) (by have := hok'.2.1; omega) (by rw [if_neg (by omega)]; exact hfr)
        have hpk : PkOK (y.s1 ++ [a.data]) y.x.b.got (enc (y.x.b.last + 1).toNat y.x.b.got.toNat a.data) := PkOK.enc ho (fun _ => ⟨y.s1.length, by dsimp only; omega, by simp⟩) (by have := hok'.2.1; omega)
        have hput := hs.put (to := 0) (d := enc (y.x.b.last + 1).toNat y.x.b.got.toNat a.data) ⟨by dsimp only; omega, by dsimp only; rw [enc_len]; omega⟩ (fun h => by omega) (fun _ => hpk) (fun _ => by rw [readB_enc ho]; rfl)
        refine good_step hd ?_ ?_
        · rw [hgo]
          simpa [hk, hw, hh, hkk] using hput
        · have e1 : ∀ (x : LineA) (to : Int) (d : List UInt8), (putF x to d).a = x.a ∧ (putF x to d).b = x.b := by intro x to d; unfold putF; split <;> exact ⟨rfl, rfl⟩
          rw [(e1 _ _ _).1, (e1 _ _ _).2]
          dsimp only [sent]
          omega
  · -- again
    have hw1 := hwho.1
    have hw2 := hwho.2
    have hk1 : ¬ a.kind = 1 := by omega
    have hkk : ¬ a.kind = 6 := by omega
    have hh := hears_none (fly := y.x.fly) (a := a) (by omega)
    have hact : actW ⟨y.x, [], []⟩ a = (againW ⟨y.x, [], []⟩ a.who.toNat, 0) := by unfold actW; rw [if_neg hk1, if_pos hk]
    rw [hact] at hd0
    have key : ∃ x', (againW ⟨y.x, [], []⟩ a.who.toNat).x = x' ∧ InvL x' y.s0 y.s1 y.h0 y.h1 y.sp ∧ x'.a = y.x.a ∧ x'.b = y.x.b := by
      rcases (by omega : a.who.toNat = 0 ∨ a.who.toNat = 1) with hw | hw
      · rw [hw]
        have hp := packets_ok hln.d01 hln.ok.1
        have hpl := packets_len hln.ok.1
        exact ⟨_, rfl, putsW_inv (to := 1) (.inr rfl) (y := ⟨y.x, [], []⟩) hln fun b hb => ⟨hpl b hb, fun _ => (hp b hb).1, fun h => by omega, (hp b hb).2⟩⟩
      · rw [hw]
        have hp := packets_ok hln.d10 hln.ok.2.1
        have hpl := packets_len hln.ok.2.1
        exact ⟨_, rfl, putsW_inv (to := 0) (.inl rfl) (y := ⟨y.x, [], []⟩) hln fun b hb => ⟨hpl b hb, fun h => by omega, fun _ => (hp b hb).1, (hp b hb).2⟩⟩
    obtain ⟨x', e1, e2, e3, e4⟩ := key
    have hhh : (againW ⟨y.x, [], []⟩ a.who.toNat).h0 = [] ∧ (againW ⟨y.x, [], []⟩ a.who.toNat).h1 = [] := putsW_h _ _
    have hd : doF y.x a = (x', [], 0) := by
      rw [hd0, if_pos rfl]
      dsimp only
      rw [e1, hhh.1, hhh.2]
      rfl
    have hgo := goS_of hd
    refine good_step hd ?_ (by rw [e3, e4]; omega)
    rw [hgo]
    simpa [hk1, hh, hkk] using e2
  · have hn2 : a.n.toNat < y.x.fly.length := by have := hat.1; have := hat.2; omega
    have hfl := hln.ok.2.2.2 a.n.toNat hn2
    have hk1 : ¬ a.kind = 1 := by omega
    have hk2 : ¬ a.kind = 2 := by omega
    have hkk : ¬ a.kind = 6 := by omega
    have hmem : y.x.fly[a.n.toNat] ∈ y.x.fly := List.getElem_mem hn2
    have haway : InvL ⟨y.x.a, y.x.b, y.x.fly.eraseIdx a.n.toNat⟩ y.s0 y.s1 y.h0 y.h1 y.sp := hln.sub (fun f hf => List.mem_of_mem_eraseIdx hf) (by have := List.length_eraseIdx_le y.x.fly a.n.toNat; have := hln.ok.2.2.1; omega)
    rcases hk with hk | hk | hk
    · -- come
      have hact : actW ⟨y.x, [], []⟩ a = (arriveW (awayW ⟨y.x, [], []⟩ a.n.toNat) y.x.fly[a.n.toNat].1.toNat y.x.fly[a.n.toNat].2, 0) := by unfold actW; rw [if_neg hk1, if_neg hk2, dif_pos hn2, if_pos hk]
      rw [hact] at hd0
      have hhr : hearsA y.x.fly a = y.x.fly[a.n.toNat].1 := by
        unfold hearsA
        rw [if_pos ⟨hk, hat⟩, List.getD_eq_getElem?_getD, List.getElem?_eq_getElem hn2]
        rfl
      generalize y.x.fly[a.n.toNat] = f at *
      obtain ⟨ft, fb⟩ := f
      dsimp only at *
      rcases (by have := hfl.1; omega : ft = 0 ∨ ft = 1) with hft | hft
      · subst hft
        obtain ⟨t1, t2, t3⟩ := haway.take0 (hln.p0 _ hmem rfl)
        have eT : endW (awayW ⟨y.x, [], []⟩ a.n.toNat) 0 = y.x.a := rfl
        have hrep := fun hne => take_reply hln.ok.1 fb hne y.s0
        have h8 := fun hne => takeF_rep (x := y.x.a) (bs := fb) hne
        by_cases hr : (takeF y.x.a fb).2.2 = []
        · have e : arriveW (awayW ⟨y.x, [], []⟩ a.n.toNat) 0 fb = ⟨⟨(takeF y.x.a fb).1, y.x.b, y.x.fly.eraseIdx a.n.toNat⟩, [] ++ (takeF y.x.a fb).2.1, []⟩ := by
            unfold arriveW
            rw [eT, if_pos hr]
            rfl
          have hd : doF y.x a = (⟨(takeF y.x.a fb).1, y.x.b, y.x.fly.eraseIdx a.n.toNat⟩, (takeF y.x.a fb).2.1, 0) := by
            rw [hd0]
            simp only [show (0 : Int).toNat = 0 from rfl]
            rw [e]
            simp
          refine good_step hd ?_ ⟨by dsimp only at t3 ⊢; omega, t2, Int.le_refl _, Int.le_refl _⟩
          rw [goS_of hd]
          simpa [hk1, hkk, hhr] using t1
        · have e : arriveW (awayW ⟨y.x, [], []⟩ a.n.toNat) 0 fb = ⟨putF ⟨(takeF y.x.a fb).1, y.x.b, y.x.fly.eraseIdx a.n.toNat⟩ 1 (takeF y.x.a fb).2.2, [] ++ (takeF y.x.a fb).2.1, []⟩ := by
            unfold arriveW
            rw [eT, if_neg hr]
            rfl
          have hd : doF y.x a = (putF ⟨(takeF y.x.a fb).1, y.x.b, y.x.fly.eraseIdx a.n.toNat⟩ 1 (takeF y.x.a fb).2.2, (takeF y.x.a fb).2.1, 0) := by
            rw [hd0]
            simp only [show (0 : Int).toNat = 0 from rfl]
            rw [e]
            simp
          have hput := t1.put (to := 1) (d := (takeF y.x.a fb).2.2) ⟨by dsimp only; omega, by dsimp only; rw [h8 hr]; decide⟩ (fun _ => (hrep hr).1) (fun h => by omega) (fun _ => (hrep hr).2)
          refine good_step hd ?_ ?_
          · rw [goS_of hd]
            simpa [hk1, hkk, hhr] using hput
          · have e1 : ∀ (x : LineA) (to : Int) (d : List UInt8), (putF x to d).a = x.a ∧ (putF x to d).b = x.b := by intro x to d; unfold putF; split <;> exact ⟨rfl, rfl⟩
            rw [(e1 _ _ _).1, (e1 _ _ _).2]
            exact ⟨by dsimp only at t3 ⊢; omega, t2, Int.le_refl _, Int.le_refl _⟩
      · subst hft
        obtain ⟨t1, t2, t3⟩ := haway.take1 (hln.p1 _ hmem rfl)
        have eT : endW (awayW ⟨y.x, [], []⟩ a.n.toNat) 1 = y.x.b := rfl
        have hrep := fun hne => take_reply hln.ok.2.1 fb hne y.s1
        have h8 := fun hne => takeF_rep (x := y.x.b) (bs := fb) hne
        by_cases hr : (takeF y.x.b fb).2.2 = []
        · have e : arriveW (awayW ⟨y.x, [], []⟩ a.n.toNat) 1 fb = ⟨⟨y.x.a, (takeF y.x.b fb).1, y.x.fly.eraseIdx a.n.toNat⟩, [], [] ++ (takeF y.x.b fb).2.1⟩ := by
            unfold arriveW
            rw [eT, if_pos hr]
            rfl
          have hd : doF y.x a = (⟨y.x.a, (takeF y.x.b fb).1, y.x.fly.eraseIdx a.n.toNat⟩, (takeF y.x.b fb).2.1, 0) := by
            rw [hd0]
            simp only [show (1 : Int).toNat = 1 from rfl]
            rw [e]
            simp
          refine good_step hd ?_ ⟨Int.le_refl _, Int.le_refl _, by dsimp only at t3 ⊢; omega, t2⟩
          rw [goS_of hd]
          simpa [hk1, hkk, hhr] using t1
        · have e : arriveW (awayW ⟨y.x, [], []⟩ a.n.toNat) 1 fb = ⟨putF ⟨y.x.a, (takeF y.x.b fb).1, y.x.fly.eraseIdx a.n.toNat⟩ 0 (takeF y.x.b fb).2.2, [], [] ++ (takeF y.x.b fb).2.1⟩ := by
            unfold arriveW
            rw [eT, if_neg hr]
            rfl
          have hd : doF y.x a = (putF ⟨y.x.a, (takeF y.x.b fb).1, y.x.fly.eraseIdx a.n.toNat⟩ 0 (takeF y.x.b fb).2.2, (takeF y.x.b fb).2.1, 0) := by
            rw [hd0]
            simp only [show (1 : Int).toNat = 1 from rfl]
            rw [e]
            simp
          have hput := t1.put (to := 0) (d := (takeF y.x.b fb).2.2) ⟨by dsimp only; omega, by dsimp only; rw [h8 hr]; decide⟩ (fun h => by omega) (fun _ => (hrep hr).1) (fun _ => (hrep hr).2)
          refine good_step hd ?_ ?_
          · rw [goS_of hd]
            simpa [hk1, hkk, hhr] using hput
          · have e1 : ∀ (x : LineA) (to : Int) (d : List UInt8), (putF x to d).a = x.a ∧ (putF x to d).b = x.b := by intro x to d; unfold putF; split <;> exact ⟨rfl, rfl⟩
            rw [(e1 _ _ _).1, (e1 _ _ _).2]
            exact ⟨Int.le_refl _, Int.le_refl _, by dsimp only at t3 ⊢; omega, t2⟩
    · -- lose
      have hh := hears_none (fly := y.x.fly) (a := a) (by omega)
      have hact : actW ⟨y.x, [], []⟩ a = (awayW ⟨y.x, [], []⟩ a.n.toNat, 0) := by unfold actW; rw [if_neg hk1, if_neg hk2, dif_pos hn2, if_neg (by omega), if_pos hk]
      rw [hact] at hd0
      have hd : doF y.x a = (⟨y.x.a, y.x.b, y.x.fly.eraseIdx a.n.toNat⟩, [], 0) := hd0
      refine good_step hd ?_ ⟨Int.le_refl _, Int.le_refl _, Int.le_refl _, Int.le_refl _⟩
      rw [goS_of hd]
      simpa [hk1, hh, hkk] using haway
    · -- twice
      have hh := hears_none (fly := y.x.fly) (a := a) (by omega)
      have hact : actW ⟨y.x, [], []⟩ a = (putW ⟨y.x, [], []⟩ y.x.fly[a.n.toNat].1 y.x.fly[a.n.toNat].2, 0) := by unfold actW; rw [if_neg hk1, if_neg hk2, dif_pos hn2, if_neg (by omega), if_neg (by omega), if_pos hk]
      rw [hact] at hd0
      have hd : doF y.x a = (putF y.x y.x.fly[a.n.toNat].1 y.x.fly[a.n.toNat].2, [], 0) := hd0
      have hput := hln.put (to := y.x.fly[a.n.toNat].1) (d := y.x.fly[a.n.toNat].2) hfl (hln.p1 _ hmem) (hln.p0 _ hmem) (fun hs => hln.rd hs _ hmem)
      refine good_step hd ?_ ?_
      · rw [goS_of hd]
        simpa [hk1, hh, hkk] using hput
      · have e1 : ∀ (x : LineA) (to : Int) (d : List UInt8), (putF x to d).a = x.a ∧ (putF x to d).b = x.b := by intro x to d; unfold putF; split <;> exact ⟨rfl, rfl⟩
        rw [(e1 _ _ _).1, (e1 _ _ _).2]
        exact ⟨Int.le_refl _, Int.le_refl _, Int.le_refl _, Int.le_refl _⟩
  · -- spoil
    have hn2 : a.n.toNat < y.x.fly.length := by have := hat.1; have := hat.2; omega
    have hk1 : ¬ a.kind = 1 := by omega
    have hk2 : ¬ a.kind = 2 := by omega
    have hh := hears_none (fly := y.x.fly) (a := a) (by omega)
    have hact : actW ⟨y.x, [], []⟩ a = (spoilW ⟨y.x, [], []⟩ a.n.toNat a.pos.toNat (UInt8.ofNat a.xor.toNat), 0) := by unfold actW; rw [if_neg hk1, if_neg hk2, dif_pos hn2, if_neg (by omega), if_neg (by omega), if_neg (by omega)]
    have hok' := doW_ok (y := ⟨y.x, [], []⟩) hln.ok a
    have e0 : doW ⟨y.x, [], []⟩ a = actW ⟨y.x, [], []⟩ a := by unfold doW; rw [if_pos hf]
    rw [e0, hact] at hok'
    rw [hact] at hd0
    have hd : doF y.x a = (⟨y.x.a, y.x.b, y.x.fly.modify a.n.toNat fun f => (f.1, spoilB f.2 a.pos.toNat (UInt8.ofNat a.xor.toNat))⟩, [], 0) := hd0
    have hbad : readB (spoilB y.x.fly[a.n.toNat].2 a.pos.toNat (UInt8.ofNat a.xor.toNat)) = none := by
      have hr := hln.rd (h6 hk) _ (List.getElem_mem hn2)
      obtain ⟨⟨n, g, d⟩, hr⟩ := Option.isSome_iff_exists.1 hr
      obtain ⟨h1, h2⟩ := readB_inv hr
      have hpl' := hpl hn2
      have hlt : a.pos.toNat < y.x.fly[a.n.toNat].2.length := by omega
      unfold spoilB
      rw [List.getD_eq_getElem?_getD, List.getElem?_eq_getElem hlt]
      simp only [Option.getD_some]
      have hx : UInt8.ofNat a.xor.toNat ≠ 0 := by
        intro h
        have := congrArg UInt8.toNat h
        rw [UInt8.toNat_ofNat_of_lt' (by show a.xor.toNat < 256; omega)] at this
        simp at this
        omega
      have key := readB_set (k := a.pos.toNat) (y := y.x.fly[a.n.toNat].2[a.pos.toNat] ^^^ UInt8.ofNat a.xor.toNat) h1 (by rw [h2]; exact hlt) (by
        intro h
        simp only [h2] at h
        apply hx
        have : y.x.fly[a.n.toNat].2[a.pos.toNat] ^^^ (y.x.fly[a.n.toNat].2[a.pos.toNat] ^^^ UInt8.ofNat a.xor.toNat) = y.x.fly[a.n.toNat].2[a.pos.toNat] ^^^ y.x.fly[a.n.toNat].2[a.pos.toNat] := by rw [h]
        rw [← UInt8.xor_assoc, UInt8.xor_self, UInt8.zero_xor] at this
        exact this)
      rw [h2] at key
      exact key
    have hall : ∀ f ∈ y.x.fly.modify a.n.toNat fun f => (f.1, spoilB f.2 a.pos.toNat (UInt8.ofNat a.xor.toNat)), f ∈ y.x.fly ∨ readB f.2 = none := by
      intro f hm
      obtain ⟨i, hi, rfl⟩ := List.mem_iff_getElem.1 hm
      rw [List.length_modify] at hi
      rw [List.getElem_modify]
      split
      · rename_i he
        subst he
        exact .inr hbad
      · exact .inl (List.getElem_mem hi)
    refine good_step hd ?_ ⟨Int.le_refl _, Int.le_refl _, Int.le_refl _, Int.le_refl _⟩
    rw [goS_of hd]
    have : InvL ⟨y.x.a, y.x.b, y.x.fly.modify a.n.toNat fun f => (f.1, spoilB f.2 a.pos.toNat (UInt8.ofNat a.xor.toNat))⟩ y.s0 y.s1 y.h0 y.h1 true := by
      refine ⟨hok', hln.d01, hln.d10, fun f hm h1 => ?_, fun f hm h1 => ?_, fun h => by cases h⟩
      · rcases hall f hm with h | h
        · exact hln.p1 f h h1
        · intro n g d hr; rw [h] at hr; cases hr
      · rcases hall f hm with h | h
        · exact hln.p0 f h h1
        · intro n g d hr; rw [h] at hr; cases hr
    simpa [hk, hh] using this
end Go.Ai.Wire
