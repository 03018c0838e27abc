/-
  The plain law of 'WireSpoilt': a packet is read from its bytes; with one byte that is another one, without the last one, or with one more, it is not read.
-/
import Derived.Test.YtlikgpehalhgkaaWA
namespace Go.Ai.Wire
open Go.Proofs Go.IntWalk

theorem headB_len (n g : Nat) (d : List UInt8) : (headB n g d).length = d.length + 6 := by simp [headB, be]
theorem enc_len (n g : Nat) (d : List UInt8) : (enc n g d).length = d.length + 8 := by simp [enc, headB_len, be]

theorem be_inj {m n : Nat} (hm : m < 65536) (hn : n < 65536) (h : be m = be n) : m = n := by
  simp only [be, List.cons.injEq, and_true] at h
  have h1 := congrArg UInt8.toNat h.1
  have h2 := congrArg UInt8.toNat h.2
  simp at h1 h2
  omega

theorem be_val {n : Nat} (h : n < 65536) : (UInt8.ofNat (n / 256)).toNat * 256 + (UInt8.ofNat n).toNat = n := by
  simp
  omega

theorem enc_size (n g : Nat) (d : List UInt8) : (enc n g d)[4]? = some (UInt8.ofNat (d.length / 256)) ∧ (enc n g d)[5]? = some (UInt8.ofNat d.length) := by
  simp [enc, headB, be]

theorem okP_len {n g : Int} {len : Nat} (h : okP n g len = true) : len ≤ 400 := by
  obtain ⟨_, _, _, _, _, _, h⟩ := okP_spec h
  exact h

theorem readB_enc {n g : Nat} {d : List UInt8} (h : okP n g d.length = true) : readB (enc n g d) = some (n, g, d) := by
  obtain ⟨_, _, e1, e2, hn, hg, hl⟩ := okP_spec h
  have e1 := Int.ofNat.inj e1
  have e2 := Int.ofNat.inj e2
  subst e1
  subst e2
  unfold readB
  rw [if_neg (by rw [enc_len]; omega)]
  have h0 : ((enc n g d).getD 0 0).toNat * 256 + ((enc n g d).getD 1 0).toNat = n := by
    have := be_val (n := n) (by omega)
    simpa [enc, headB, be] using this
  have h1 : ((enc n g d).getD 2 0).toNat * 256 + ((enc n g d).getD 3 0).toNat = g := by
    have := be_val (n := g) (by omega)
    simpa [enc, headB, be] using this
  have h2 : ((enc n g d).drop 6).take ((enc n g d).length - 8) = d := by
    rw [enc_len]
    simp [enc, headB, be]
  rw [h0, h1, h2]
  simp [h]

theorem readB_inv {bs : List UInt8} {n g : Nat} {d : List UInt8} (h : readB bs = some (n, g, d)) : okP n g d.length = true ∧ enc n g d = bs := by
  unfold readB at h
  split at h
  · cases h
  · dsimp only at h
    split at h
    · rename_i hc
      cases h
      exact hc
    · cases h

/-- Not the bytes of a packet: the field of the size says another one. -/
theorem readB_size {bs : List UInt8} {m : Nat} (hm : m < 65536) (h4 : bs[4]? = some (UInt8.ofNat (m / 256))) (h5 : bs[5]? = some (UInt8.ofNat m)) (hl : bs.length ≠ m + 8) : readB bs = none := by
  cases hr : readB bs with
  | none => rfl
  | some p =>
    obtain ⟨n, g, d⟩ := p
    obtain ⟨hok, he⟩ := readB_inv hr
    have hd := okP_len hok
    obtain ⟨k4, k5⟩ := enc_size n g d
    rw [he] at k4 k5
    rw [h4] at k4
    rw [h5] at k5
    have : be m = be d.length := by
      simp only [be]
      rw [Option.some.inj k4, Option.some.inj k5]
    have := be_inj hm (by omega) this
    rw [← he, enc_len] at hl
    omega

theorem readB_cut {n g : Nat} {d : List UInt8} (h : okP n g d.length = true) : readB ((enc n g d).take ((enc n g d).length - 1)) = none := by
  have hd := okP_len h
  obtain ⟨k4, k5⟩ := enc_size n g d
  refine readB_size (m := d.length) (by omega) ?_ ?_ ?_
  · rw [List.getElem?_take, if_pos (by rw [enc_len]; omega)]; exact k4
  · rw [List.getElem?_take, if_pos (by rw [enc_len]; omega)]; exact k5
  · simp [enc_len]

theorem readB_more {n g : Nat} {d : List UInt8} (h : okP n g d.length = true) (x : UInt8) : readB (enc n g d ++ [x]) = none := by
  have hd := okP_len h
  obtain ⟨k4, k5⟩ := enc_size n g d
  refine readB_size (m := d.length) (by omega) ?_ ?_ ?_
  · rw [List.getElem?_append_left (by rw [enc_len]; omega)]; exact k4
  · rw [List.getElem?_append_left (by rw [enc_len]; omega)]; exact k5
  · simp [enc_len]

/-- The sum without its rest. -/
def tot (i : Nat) : List UInt8 → Nat
  | [] => 0
  | b :: r => (b.toNat + 1) * (i + 1) + tot (i + 1) r

theorem sumF_tot : ∀ (l : List UInt8) (n i : Nat), sumF n i l % 65521 = (n + tot i l) % 65521
  | [], n, i => by simp [sumF, tot]
  | b :: r, n, i => by
    rw [sumF, sumF_tot r, tot]
    generalize (b.toNat + 1) * (i + 1) = y
    omega

theorem tot_set : ∀ (l : List UInt8) (i k : Nat) (y : UInt8) (hk : k < l.length), tot i (l.set k y) + (l[k].toNat + 1) * (i + k + 1) = tot i l + (y.toNat + 1) * (i + k + 1)
  | b :: r, i, 0, y, _ => by
    simp only [List.set_cons_zero, tot, List.getElem_cons_zero, Nat.add_zero]
    omega
  | b :: r, i, k + 1, y, hk => by
    have := tot_set r (i + 1) k y (by simpa using hk)
    simp only [List.set_cons_succ, tot, List.getElem_cons_succ]
    have e : i + 1 + k + 1 = i + (k + 1) + 1 := by omega
    rw [e] at this
    omega

theorem no_div : ∀ a < 256, 2 ≤ a → 65521 % a ≠ 0 := by decide +kernel

theorem no_prod {a c : Nat} (ha : 0 < a) (ha2 : a < 256) (hc : 0 < c) (hc2 : c ≤ 500) (h : a * c % 65521 = 0) : False := by
  have h1 : a * c ≤ 255 * 500 := Nat.mul_le_mul (by omega) hc2
  have h2 : 0 < a * c := Nat.mul_pos ha hc
  have h3 : a * c = 65521 := by omega
  by_cases h4 : a = 1
  · subst h4; omega
  · exact no_div a ha2 (by omega) (by rw [← h3]; exact Nat.mul_mod_right a c)

theorem sumF_set {l : List UInt8} {k : Nat} {y : UInt8} (hk : k < l.length) (hl : l.length ≤ 500) (h : sumF 0 0 (l.set k y) = sumF 0 0 l) : y = l[k] := by
  have h1 := tot_set l 0 k y hk
  have h2 := sumF_tot (l.set k y) 0 0
  have h3 := sumF_tot l 0 0
  rw [h, h3] at h2
  simp only [Nat.zero_add] at h1 h2
  have hy := y.toNat_lt
  have hz := l[k].toNat_lt
  apply UInt8.toNat_inj.1
  generalize l[k].toNat = z at *
  generalize y.toNat = u at *
  generalize tot 0 (l.set k y) = A at *
  generalize tot 0 l = B at *
  rcases Nat.lt_trichotomy u z with hlt | heq | hlt
  · exfalso
    obtain ⟨e, rfl⟩ : ∃ e, z = u + e := ⟨z - u, by omega⟩
    have : (u + e + 1) * (k + 1) = (u + 1) * (k + 1) + e * (k + 1) := by rw [← Nat.add_mul]; congr 1; omega
    refine no_prod (a := e) (c := k + 1) (by omega) (by omega) (by omega) (by omega) ?_
    generalize e * (k + 1) = x at *
    omega
  · exact heq
  · exfalso
    obtain ⟨e, rfl⟩ : ∃ e, u = z + e := ⟨u - z, by omega⟩
    have : (z + e + 1) * (k + 1) = (z + 1) * (k + 1) + e * (k + 1) := by rw [← Nat.add_mul]; congr 1; omega
    refine no_prod (a := e) (c := k + 1) (by omega) (by omega) (by omega) (by omega) ?_
    generalize e * (k + 1) = x at *
    omega

theorem readB_set {n g : Nat} {d : List UInt8} (h : okP n g d.length = true) {k : Nat} {y : UInt8} (hk : k < (enc n g d).length) (hy : y ≠ (enc n g d)[k]) : readB ((enc n g d).set k y) = none := by
  cases hr : readB ((enc n g d).set k y) with
  | none => rfl
  | some p =>
    exfalso
    obtain ⟨n', g', d'⟩ := p
    obtain ⟨hok, he⟩ := readB_inv hr
    have hd := okP_len h
    have hd' := okP_len hok
    have hl := congrArg List.length he
    rw [List.length_set, enc_len, enc_len] at hl
    have hA := headB_len n g d
    have hA' := headB_len n' g' d'
    have s1 := sumF_lt (headB n g d) 0 0 (by omega)
    have s2 := sumF_lt (headB n' g' d') 0 0 (by omega)
    unfold enc at he
    rw [List.set_append] at he
    split at he
    · rename_i hlt
      obtain ⟨h1, h2⟩ := List.append_inj he (by rw [List.length_set]; omega)
      have := be_inj (by omega) (by omega) h2
      rw [h1] at this
      have := sumF_set hlt (by omega) this
      apply hy
      rw [this]
      simp only [enc]
      rw [List.getElem_append_left hlt]
    · rename_i hge
      obtain ⟨h1, h2⟩ := List.append_inj he (by omega)
      rw [h1] at h2
      apply hy
      have hk2 : k - (headB n g d).length < (be (sumF 0 0 (headB n g d))).length := by rw [enc_len] at hk; simp only [be, List.length_cons, List.length_nil]; omega
      have h3 : (be (sumF 0 0 (headB n g d)))[k - (headB n g d).length]? = some y := by
        rw [h2, List.getElem?_set_self (by simpa using hk2)]
      simp only [enc]
      rw [List.getElem_append_right (by omega)]
      rw [List.getElem?_eq_getElem hk2] at h3
      exact (Option.some.inj h3).symm

/-- A byte with some bits turned is another one. -/
theorem xor_ne (b x : UInt8) : b ^^^ (x ||| 1) ≠ b := by
  intro h
  have h1 : (x ||| 1) = 0 := by
    have : b ^^^ (b ^^^ (x ||| 1)) = b ^^^ b := by rw [h]
    rw [← UInt8.xor_assoc, UInt8.xor_self, UInt8.zero_xor] at this
    exact this
  have h2 := congrArg UInt8.toNat h1
  simp only [UInt8.toNat_or] at h2
  have h3 : (x.toNat ||| 1) % 2 = 1 := by rw [Nat.or_mod_two_eq_one]; right; rfl
  have : (x.toNat ||| 1) = 0 := h2
  omega
end Go.Ai.Wire
