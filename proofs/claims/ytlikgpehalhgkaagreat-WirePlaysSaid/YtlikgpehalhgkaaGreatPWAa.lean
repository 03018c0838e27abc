/-
  The plain law of 'WireSpoilt': a packet is read from its bytes; with one byte that is another one, without the last one, or with one more, it is not read.
  'WireSpoilt' answers true.
-/
import Derived.Test.YtlikgpehalhgkaaGreatPWA
namespace Go.Ai.Wire
open Go.Proofs Go.IntWalk

theorem headB_len (n g : Nat) (d : List UInt8) : (headB n g d).length = d.length + 6 := by simp [headB, be]
theorem enc_len (n g : Nat) (d : List UInt8) : (enc n g d).length = d.length + 8 := by simp [enc, headB_len, be]

theorem be_val {n : Nat} (h : n < 65536) : (UInt8.ofNat (n / 256)).toNat * 256 + (UInt8.ofNat n).toNat = n := by
  simp
  omega

theorem readB_enc {n g : Nat} {d : List UInt8} (h : okP n g d.length = true) : readB (enc n g d) = some (n, g, d) := by
  obtain ⟨_, _, e1, e2, hn, hg, hl⟩ := okP_spec h
  have e1 := Int.ofNat.inj e1
  have e2 := Int.ofNat.inj e2
  subst e1
  subst e2
  unfold readB
  rw [if_neg (by rw [enc_len]; omega)]
  have h0 : ((enc n g d).getD 0 0).toNat * 256 + ((enc n g d).getD 1 0).toNat = n := by
    have := be_val (n := n) (by omega)
    simpa [enc, headB, be] using this
  have h1 : ((enc n g d).getD 2 0).toNat * 256 + ((enc n g d).getD 3 0).toNat = g := by
    have := be_val (n := g) (by omega)
    simpa [enc, headB, be] using this
  have h2 : ((enc n g d).drop 6).take ((enc n g d).length - 8) = d := by
    rw [enc_len]
    simp [enc, headB, be]
  rw [h0, h1, h2]
  simp [h]

theorem readB_inv {bs : List UInt8} {n g : Nat} {d : List UInt8} (h : readB bs = some (n, g, d)) : okP n g d.length = true ∧ enc n g d = bs := by
  unfold readB at h
  split at h
  · cases h
  · dsimp only at h
    split at h
    · rename_i hc
      cases h
      exact hc
    · cases h

end Go.Ai.Wire

namespace Go.Ai

section
variable {C : Ctx} {H : AHeap} {T : Env} {d : Option Nat} {r : List IOper} {K : Env → AHeap → Prop}

/-- A store into a row that is at its own end. -/
theorem storeN_buf {a : Addr} {g esz m i : Nat} {cs xs : List Value} (hb : Buf H (.slice (some a) m m) g esz m cs) (h0 : xs.length ≠ 0) (hl : i + xs.length ≤ cs.length) (hs : xs.all scalar = true) :
    ∃ vs vs', H.get g = some (.cells vs) ∧ a.block = g ∧ storeN H.get (aadd a i) xs = some (.cells vs') ∧ ∀ H' : AHeap, H'.get g = some (.cells vs') → Buf H' (.slice (some a) m m) g esz m (cs.take i ++ (xs ++ cs.drop (i + xs.length))) := by
  obtain ⟨k, vs, e, he, hg, hlen, hk, h1, h2, h3⟩ := hb
  cases he
  refine ⟨vs, setVer vs k (cs.take i ++ (xs ++ cs.drop (i + xs.length))), hg, rfl, ?_, ?_⟩
  · unfold storeN
    have e1 : (aadd (mkAddr g k 0) i).block = g := rfl
    have e2 : ver (aadd (mkAddr g k 0) i) = k := ver_mkAddr g k i
    have e3 : (aadd (mkAddr g k 0) i).off = i := by simp [aadd, off_mkAddr]
    simp only [e1, e2, e3, hg, hk]
    rw [if_pos ⟨h0, hl, hs⟩]
  · intro H' hg'
    have hkl : k < vs.length := by omega
    have hset : ∀ (vs : List AVer) (k e : Nat) (cs c : List Value), vs[k]? = some ⟨e, cs⟩ → (setVer vs k c)[k]? = some ⟨e, c⟩ := by
      intro vs
      induction vs with
      | nil => intro k e cs c h; simp at h
      | cons v r ih =>
        intro k e cs c h
        cases k with
        | zero => simp at h; subst h; simp [setVer]
        | succ k => simp at h; simpa [setVer] using ih k e cs c h
    refine ⟨k, _, e, rfl, hg', by rw [length_setVer]; exact hlen, hset vs k e cs _ hk, h1, ?_, ?_⟩
    · simp only [List.length_append, List.length_take, List.length_drop]
      omega
    · simp only [List.all_append, hs, Bool.true_and, Bool.and_eq_true]
      simp only [List.all_eq_true] at h3 ⊢
      exact ⟨fun x hx => h3 x (List.mem_of_mem_take hx), fun x hx => h3 x (List.mem_of_mem_drop hx)⟩

theorem d_storeB {rd : List (Nat × IOper × List Nat)} {log : List Info} {ix : Nat} {un : List Nat} {n : Nat} {p x : IOpd} {a : Addr} {g esz m i : Nat} {cs xs : List Value} (hw : WF H) (hf : freeAll C log (.exp [g] [g]) un = true)
    (hb : Buf H (.slice (some a) m m) g esz m cs) (ha : p.val T.val = .pointer (some (aadd a i))) (hx : vcells (x.val T.val) = some xs) (hn : xs.length = n) (h0 : n ≠ 0) (hl : i + n ≤ cs.length) (hs : xs.all scalar = true)
    (hk : ∀ H', Mod g H H' → H'.next = H.next → Buf H' (.slice (some a) m m) g esz m (cs.take i ++ (xs ++ cs.drop (i + n))) → wpD C rd (.exp [g] [g] :: log) K (putDst T d undef) H') :
    wpD C ((ix, ⟨d, .store n p x, none⟩, un) :: rd) log K T H := by
  rw [wpD_store]
  subst hn
  obtain ⟨vs, vs', hg, e1, h1, h2⟩ := storeN_buf hb h0 hl hs
  have : evalOp C H.get T.val H.next (.store xs.length p x) = some { v := undef, put := some (g, .cells vs'), rd := [g] } := by
    simp only [evalOp, ha, hx, asCell_ptr]
    rw [if_pos trivial, h1]
    simp [e1]
  rw [this]
  simp only [bindO_some, opKD_eq, AOut.mods, List.append_nil]
  rw [hf]
  exact hk _ (Mod.put hw _ hg) rfl (h2 _ (get_put_same _ (base_le_of hg (by simp))))
end
end Go.Ai
namespace Go.Ai.Wire
open Go.Proofs Go.IntWalk

attribute [-simp] wpO_toStr wpD_toStr
attribute [simp] bytesEq_dec
attribute [local irreducible] Trie.put

theorem xor_u8 (b y : UInt8) : IntKind.u8.wrap ((b.toNat % 2 ^ IntKind.u8.bits ^^^ ((y.toNat : Int) % 2 ^ IntKind.u8.bits).toNat : Nat) : Int) = ((b ^^^ y).toNat : Int) := by
  have h := (b ^^^ y).toNat_lt
  have e : (b.toNat % 2 ^ IntKind.u8.bits ^^^ ((y.toNat : Int) % 2 ^ IntKind.u8.bits).toNat : Nat) = (b ^^^ y).toNat := by
    have h1 : b.toNat % 2 ^ IntKind.u8.bits = b.toNat := Nat.mod_eq_of_lt b.toNat_lt
    have h2 : ((y.toNat : Int) % 2 ^ IntKind.u8.bits).toNat = y.toNat := by
      have := y.toNat_lt
      show ((y.toNat : Int) % 256).toNat = y.toNat
      omega
    rw [h1, h2, UInt8.toNat_xor]
  rw [e, IntKind.wrap_u8]
  omega

theorem BsS.cut {C : Ctx} {H : AHeap} {a : Addr} {c n : Nat} {bs : List UInt8} (hb : Bs C H (.slice (some a) bs.length c) bs) (hs : Slc H a 1) (hn : n ≤ bs.length) (hc : bs.length ≤ c) : BsS C H (.slice (some (aadd a (0 * 1))) (n - 0) (c - 0)) (bs.take n) := by
  have h := Bs.sub (c' := c - 0) hb (l := 0) (h := n) (by omega) hn
  have e : (bs.take n).length = n := by simp; omega
  refine ⟨by simpa using h, some (aadd a 0), c, by simp [e], by omega, fun b hb _ => ?_⟩
  cases hb
  exact hs

def hdc : ICode → ICode
  | .seq a _ => a
  | c => c

end Go.Ai.Wire
