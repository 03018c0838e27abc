/-
  The plain law of 'WireSpoilt': a packet is read from its bytes; with one byte that is another one, without the last one, or with one more, it is not read.
  'WireSpoilt' answers true.
-/
import Derived.Test.YtlikgpehalhgkaaWA
namespace Go.Ai.Wire
open Go.Proofs Go.IntWalk

theorem headB_len (n g : Nat) (d : List UInt8) : (headB n g d).length = d.length + 6 := by simp [headB, be]
theorem enc_len (n g : Nat) (d : List UInt8) : (enc n g d).length = d.length + 8 := by simp [enc, headB_len, be]

theorem be_inj {m n : Nat} (hm : m < 65536) (hn : n < 65536) (h : be m = be n) : m = n := by
  simp only [be, List.cons.injEq, and_true] at h
  have h1 := congrArg UInt8.toNat h.1
  have h2 := congrArg UInt8.toNat h.2
  simp at h1 h2
  omega

theorem be_val {n : Nat} (h : n < 65536) : (UInt8.ofNat (n / 256)).toNat * 256 + (UInt8.ofNat n).toNat = n := by
  simp
  omega

theorem enc_size (n g : Nat) (d : List UInt8) : (enc n g d)[4]? = some (UInt8.ofNat (d.length / 256)) ∧ (enc n g d)[5]? = some (UInt8.ofNat d.length) := by
  simp [enc, headB, be]

theorem okP_len {n g : Int} {len : Nat} (h : okP n g len = true) : len ≤ 400 := by
  obtain ⟨_, _, _, _, _, _, h⟩ := okP_spec h
  exact h

theorem readB_enc {n g : Nat} {d : List UInt8} (h : okP n g d.length = true) : readB (enc n g d) = some (n, g, d) := by
  obtain ⟨_, _, e1, e2, hn, hg, hl⟩ := okP_spec h
  have e1 := Int.ofNat.inj e1
  have e2 := Int.ofNat.inj e2
  subst e1
  subst e2
  unfold readB
  rw [if_neg (by rw [enc_len]; omega)]
  have h0 : ((enc n g d).getD 0 0).toNat * 256 + ((enc n g d).getD 1 0).toNat = n := by
    have := be_val (n := n) (by omega)
    simpa [enc, headB, be] using this
  have h1 : ((enc n g d).getD 2 0).toNat * 256 + ((enc n g d).getD 3 0).toNat = g := by
    have := be_val (n := g) (by omega)
    simpa [enc, headB, be] using this
  have h2 : ((enc n g d).drop 6).take ((enc n g d).length - 8) = d := by
    rw [enc_len]
    simp [enc, headB, be]
  rw [h0, h1, h2]
  simp [h]

theorem readB_inv {bs : List UInt8} {n g : Nat} {d : List UInt8} (h : readB bs = some (n, g, d)) : okP n g d.length = true ∧ enc n g d = bs := by
  unfold readB at h
  split at h
  · cases h
  · dsimp only at h
    split at h
    · rename_i hc
      cases h
      exact hc
    · cases h

/-- Not the bytes of a packet: the field of the size says another one. -/
theorem readB_size {bs : List UInt8} {m : Nat} (hm : m < 65536) (h4 : bs[4]? = some (UInt8.ofNat (m / 256))) (h5 : bs[5]? = some (UInt8.ofNat m)) (hl : bs.length ≠ m + 8) : readB bs = none := by
  cases hr : readB bs with
  | none => rfl
  | some p =>
    obtain ⟨n, g, d⟩ := p
    obtain ⟨hok, he⟩ := readB_inv hr
    have hd := okP_len hok
    obtain ⟨k4, k5⟩ := enc_size n g d
    rw [he] at k4 k5
    rw [h4] at k4
    rw [h5] at k5
    have : be m = be d.length := by
      simp only [be]
      rw [Option.some.inj k4, Option.some.inj k5]
    have := be_inj hm (by omega) this
    rw [← he, enc_len] at hl
    omega

theorem readB_cut {n g : Nat} {d : List UInt8} (h : okP n g d.length = true) : readB ((enc n g d).take ((enc n g d).length - 1)) = none := by
  have hd := okP_len h
  obtain ⟨k4, k5⟩ := enc_size n g d
  refine readB_size (m := d.length) (by omega) ?_ ?_ ?_
  · rw [List.getElem?_take, if_pos (by rw [enc_len]; omega)]; exact k4
  · rw [List.getElem?_take, if_pos (by rw [enc_len]; omega)]; exact k5
  · simp [enc_len]

theorem readB_more {n g : Nat} {d : List UInt8} (h : okP n g d.length = true) (x : UInt8) : readB (enc n g d ++ [x]) = none := by
  have hd := okP_len h
  obtain ⟨k4, k5⟩ := enc_size n g d
  refine readB_size (m := d.length) (by omega) ?_ ?_ ?_
  · rw [List.getElem?_append_left (by rw [enc_len]; omega)]; exact k4
  · rw [List.getElem?_append_left (by rw [enc_len]; omega)]; exact k5
  · simp [enc_len]

/-- The sum without its rest. -/
def tot (i : Nat) : List UInt8 → Nat
  | [] => 0
  | b :: r => (b.toNat + 1) * (i + 1) + tot (i + 1) r

theorem sumF_tot : ∀ (l : List UInt8) (n i : Nat), sumF n i l % 65521 = (n + tot i l) % 65521
  | [], n, i => by simp [sumF, tot]
  | b :: r, n, i => by
    rw [sumF, sumF_tot r, tot]
    generalize (b.toNat + 1) * (i + 1) = y
    omega

theorem tot_set : ∀ (l : List UInt8) (i k : Nat) (y : UInt8) (hk : k < l.length), tot i (l.set k y) + (l[k].toNat + 1) * (i + k + 1) = tot i l + (y.toNat + 1) * (i + k + 1)
  | b :: r, i, 0, y, _ => by
    simp only [List.set_cons_zero, tot, List.getElem_cons_zero, Nat.add_zero]
    omega
  | b :: r, i, k + 1, y, hk => by
    have := tot_set r (i + 1) k y (by simpa using hk)
    simp only [List.set_cons_succ, tot, List.getElem_cons_succ]
    have e : i + 1 + k + 1 = i + (k + 1) + 1 := by omega
    rw [e] at this
    omega

theorem no_div : ∀ a < 256, 2 ≤ a → 65521 % a ≠ 0 := by decide +kernel

theorem no_prod {a c : Nat} (ha : 0 < a) (ha2 : a < 256) (hc : 0 < c) (hc2 : c ≤ 500) (h : a * c % 65521 = 0) : False := by
  have h1 : a * c ≤ 255 * 500 := Nat.mul_le_mul (by omega) hc2
  have h2 : 0 < a * c := Nat.mul_pos ha hc
  have h3 : a * c = 65521 := by omega
  by_cases h4 : a = 1
  · subst h4; omega
  · exact no_div a ha2 (by omega) (by rw [← h3]; exact Nat.mul_mod_right a c)

theorem sumF_set {l : List UInt8} {k : Nat} {y : UInt8} (hk : k < l.length) (hl : l.length ≤ 500) (h : sumF 0 0 (l.set k y) = sumF 0 0 l) : y = l[k] := by
  have h1 := tot_set l 0 k y hk
  have h2 := sumF_tot (l.set k y) 0 0
  have h3 := sumF_tot l 0 0
  rw [h, h3] at h2
  simp only [Nat.zero_add] at h1 h2
  have hy := y.toNat_lt
  have hz := l[k].toNat_lt
  apply UInt8.toNat_inj.1
  generalize l[k].toNat = z at *
  generalize y.toNat = u at *
  generalize tot 0 (l.set k y) = A at *
  generalize tot 0 l = B at *
  rcases Nat.lt_trichotomy u z with hlt | heq | hlt
  · exfalso
    obtain ⟨e, rfl⟩ : ∃ e, z = u + e := ⟨z - u, by omega⟩
    have : (u + e + 1) * (k + 1) = (u + 1) * (k + 1) + e * (k + 1) := by rw [← Nat.add_mul]; congr 1; omega
    refine no_prod (a := e) (c := k + 1) (by omega) (by omega) (by omega) (by omega) ?_
    generalize e * (k + 1) = x at *
    omega
  · exact heq
  · exfalso
    obtain ⟨e, rfl⟩ : ∃ e, u = z + e := ⟨u - z, by omega⟩
    have : (z + e + 1) * (k + 1) = (z + 1) * (k + 1) + e * (k + 1) := by rw [← Nat.add_mul]; congr 1; omega
    refine no_prod (a := e) (c := k + 1) (by omega) (by omega) (by omega) (by omega) ?_
    generalize e * (k + 1) = x at *
    omega

theorem readB_set {n g : Nat} {d : List UInt8} (h : okP n g d.length = true) {k : Nat} {y : UInt8} (hk : k < (enc n g d).length) (hy : y ≠ (enc n g d)[k]) : readB ((enc n g d).set k y) = none := by
  cases hr : readB ((enc n g d).set k y) with
  | none => rfl
  | some p =>
    exfalso
    obtain ⟨n', g', d'⟩ := p
    obtain ⟨hok, he⟩ := readB_inv hr
    have hd := okP_len h
    have hd' := okP_len hok
    have hl := congrArg List.length he
    rw [List.length_set, enc_len, enc_len] at hl
    have hA := headB_len n g d
    have hA' := headB_len n' g' d'
    have s1 := sumF_lt (headB n g d) 0 0 (by omega)
    have s2 := sumF_lt (headB n' g' d') 0 0 (by omega)
    unfold enc at he
    rw [List.set_append] at he
    split at he
    · rename_i hlt
      obtain ⟨h1, h2⟩ := List.append_inj he (by rw [List.length_set]; omega)
      have := be_inj (by omega) (by omega) h2
      rw [h1] at this
      have := sumF_set hlt (by omega) this
      apply hy
      rw [this]
      simp only [enc]
      rw [List.getElem_append_left hlt]
    · rename_i hge
      obtain ⟨h1, h2⟩ := List.append_inj he (by omega)
      rw [h1] at h2
      apply hy
      have hk2 : k - (headB n g d).length < (be (sumF 0 0 (headB n g d))).length := by rw [enc_len] at hk; simp only [be, List.length_cons, List.length_nil]; omega
      have h3 : (be (sumF 0 0 (headB n g d)))[k - (headB n g d).length]? = some y := by
        rw [h2, List.getElem?_set_self (by simpa using hk2)]
      simp only [enc]
      rw [List.getElem_append_right (by omega)]
      rw [List.getElem?_eq_getElem hk2] at h3
      exact (Option.some.inj h3).symm

/-- A byte with some bits turned is another one. -/
theorem xor_ne (b x : UInt8) : b ^^^ (x ||| 1) ≠ b := by
  intro h
  have h1 : (x ||| 1) = 0 := by
    have : b ^^^ (b ^^^ (x ||| 1)) = b ^^^ b := by rw [h]
    rw [← UInt8.xor_assoc, UInt8.xor_self, UInt8.zero_xor] at this
    exact this
  have h2 := congrArg UInt8.toNat h1
  simp only [UInt8.toNat_or] at h2
  have h3 : (x.toNat ||| 1) % 2 = 1 := by rw [Nat.or_mod_two_eq_one]; right; rfl
  have : (x.toNat ||| 1) = 0 := h2
  omega
end Go.Ai.Wire

namespace Go.Ai

section
variable {C : Ctx} {H : AHeap} {T : Env} {d : Option Nat} {r : List IOper} {K : Env → AHeap → Prop}

theorem w_sliceX {esz n c : Nat} {x : IOpd} {lo hi mx : Option IOpd} {a : Addr} {l h m : Nat} (hx : x.val T.val = .slice (some a) n c) (hsl : Slc H a esz) (hb : bounds T.val n c lo hi mx = some (l, h, m))
    (hk : wpO C r K (putDst T d (.slice (some (Ai.aadd a (l * esz))) (h - l) (m - l))) H) : wpO C (⟨d, .sliceS esz x lo hi mx, none⟩ :: r) K T H := by
  rw [wpO_sliceS]
  have : evalOp C H.get T.val H.next (.sliceS esz x lo hi mx) = some { v := .slice (some (Ai.aadd a (l * esz))) (h - l) (m - l), rd := [a.block] } := by
    simp only [evalOp, hx, hb]
    rcases hsl with ⟨hM, hs⟩ | ⟨vs, v, hM, hv, he⟩
    · simp [hM, hs]
    · simp only [hM, hv]
      rw [if_pos he]
  rw [this]
  exact hk

theorem condW_mono {ro : Option Nat} {v : Value} {a b : ICode} {Q Q' : AExit → St → Prop} {s : St} (h : condW C ro v a b Q s) (hq : ∀ e s, Q e s → Q' e s) : condW C ro v a b Q' s := by
  unfold condW at h ⊢
  split at h
  · exact wpC_mono h hq
  · exact wpC_mono h hq
  · exact h.elim

/-- A store into a row that is at its own end. -/
theorem storeN_buf {a : Addr} {g esz m i : Nat} {cs xs : List Value} (hb : Buf H (.slice (some a) m m) g esz m cs) (h0 : xs.length ≠ 0) (hl : i + xs.length ≤ cs.length) (hs : xs.all scalar = true) :
    ∃ vs vs', H.get g = some (.cells vs) ∧ a.block = g ∧ storeN H.get (aadd a i) xs = some (.cells vs') ∧ ∀ H' : AHeap, H'.get g = some (.cells vs') → Buf H' (.slice (some a) m m) g esz m (cs.take i ++ (xs ++ cs.drop (i + xs.length))) := by
  obtain ⟨k, vs, e, he, hg, hlen, hk, h1, h2, h3⟩ := hb
  cases he
  refine ⟨vs, setVer vs k (cs.take i ++ (xs ++ cs.drop (i + xs.length))), hg, rfl, ?_, ?_⟩
  · unfold storeN
    have e1 : (aadd (mkAddr g k 0) i).block = g := rfl
    have e2 : ver (aadd (mkAddr g k 0) i) = k := ver_mkAddr g k i
    have e3 : (aadd (mkAddr g k 0) i).off = i := by simp [aadd, off_mkAddr]
    simp only [e1, e2, e3, hg, hk]
    rw [if_pos ⟨h0, hl, hs⟩]
  · intro H' hg'
    have hkl : k < vs.length := by omega
    have hset : ∀ (vs : List AVer) (k e : Nat) (cs c : List Value), vs[k]? = some ⟨e, cs⟩ → (setVer vs k c)[k]? = some ⟨e, c⟩ := by
      intro vs
      induction vs with
      | nil => intro k e cs c h; simp at h
      | cons v r ih =>
        intro k e cs c h
        cases k with
        | zero => simp at h; subst h; simp [setVer]
        | succ k => simp at h; simpa [setVer] using ih k e cs c h
    refine ⟨k, _, e, rfl, hg', by rw [length_setVer]; exact hlen, hset vs k e cs _ hk, h1, ?_, ?_⟩
    · simp only [List.length_append, List.length_take, List.length_drop]
      omega
    · simp only [List.all_append, hs, Bool.true_and, Bool.and_eq_true]
      simp only [List.all_eq_true] at h3 ⊢
      exact ⟨fun x hx => h3 x (List.mem_of_mem_take hx), fun x hx => h3 x (List.mem_of_mem_drop hx)⟩

theorem d_storeB {rd : List (Nat × IOper × List Nat)} {log : List Info} {ix : Nat} {un : List Nat} {n : Nat} {p x : IOpd} {a : Addr} {g esz m i : Nat} {cs xs : List Value} (hw : WF H) (hf : freeAll C log (.exp [g] [g]) un = true)
    (hb : Buf H (.slice (some a) m m) g esz m cs) (ha : p.val T.val = .pointer (some (aadd a i))) (hx : vcells (x.val T.val) = some xs) (hn : xs.length = n) (h0 : n ≠ 0) (hl : i + n ≤ cs.length) (hs : xs.all scalar = true)
    (hk : ∀ H', Mod g H H' → H'.next = H.next → Buf H' (.slice (some a) m m) g esz m (cs.take i ++ (xs ++ cs.drop (i + n))) → wpD C rd (.exp [g] [g] :: log) K (putDst T d undef) H') :
    wpD C ((ix, ⟨d, .store n p x, none⟩, un) :: rd) log K T H := by
  rw [wpD_store]
  subst hn
  obtain ⟨vs, vs', hg, e1, h1, h2⟩ := storeN_buf hb h0 hl hs
  have : evalOp C H.get T.val H.next (.store xs.length p x) = some { v := undef, put := some (g, .cells vs'), rd := [g] } := by
    simp only [evalOp, ha, hx, asCell_ptr]
    rw [if_pos trivial, h1]
    simp [e1]
  rw [this]
  simp only [bindO_some, opKD_eq, AOut.mods, List.append_nil]
  rw [hf]
  exact hk _ (Mod.put hw _ hg) rfl (h2 _ (get_put_same _ (base_le_of hg (by simp))))
end
end Go.Ai
namespace Go.Ai.Wire
open Go.Proofs Go.IntWalk

attribute [-simp] wpO_toStr wpD_toStr
attribute [simp] bytesEq_dec
attribute [local irreducible] Trie.put

theorem or_u8 (x : UInt8) : IntKind.u8.wrap ((x.toNat % 2 ^ IntKind.u8.bits ||| 1 % 2 ^ IntKind.u8.bits : Nat) : Int) = ((x ||| 1).toNat : Int) := by
  have h := (x ||| 1).toNat_lt
  have e : (x.toNat % 2 ^ IntKind.u8.bits ||| 1 % 2 ^ IntKind.u8.bits : Nat) = (x ||| 1).toNat := by
    have : x.toNat % 2 ^ IntKind.u8.bits = x.toNat := Nat.mod_eq_of_lt x.toNat_lt
    rw [this, UInt8.toNat_or]
    rfl
  rw [e, IntKind.wrap_u8]
  omega
theorem xor_u8 (b y : UInt8) : IntKind.u8.wrap ((b.toNat % 2 ^ IntKind.u8.bits ^^^ ((y.toNat : Int) % 2 ^ IntKind.u8.bits).toNat : Nat) : Int) = ((b ^^^ y).toNat : Int) := by
  have h := (b ^^^ y).toNat_lt
  have e : (b.toNat % 2 ^ IntKind.u8.bits ^^^ ((y.toNat : Int) % 2 ^ IntKind.u8.bits).toNat : Nat) = (b ^^^ y).toNat := by
    have h1 : b.toNat % 2 ^ IntKind.u8.bits = b.toNat := Nat.mod_eq_of_lt b.toNat_lt
    have h2 : ((y.toNat : Int) % 2 ^ IntKind.u8.bits).toNat = y.toNat := by
      have := y.toNat_lt
      show ((y.toNat : Int) % 256).toNat = y.toNat
      omega
    rw [h1, h2, UInt8.toNat_xor]
  rw [e, IntKind.wrap_u8]
  omega

theorem BsS.cut {C : Ctx} {H : AHeap} {a : Addr} {c n : Nat} {bs : List UInt8} (hb : Bs C H (.slice (some a) bs.length c) bs) (hs : Slc H a 1) (hn : n ≤ bs.length) (hc : bs.length ≤ c) : BsS C H (.slice (some (aadd a (0 * 1))) (n - 0) (c - 0)) (bs.take n) := by
  have h := Bs.sub (c' := c - 0) hb (l := 0) (h := n) (by omega) hn
  have e : (bs.take n).length = n := by simp; omega
  refine ⟨by simpa using h, some (aadd a 0), c, by simp [e], by omega, fun b hb _ => ?_⟩
  cases hb
  exact hs

/-- What follows. -/
def tl : ICode → ICode
  | .seq _ b => b
  | c => c
def hdc : ICode → ICode
  | .seq a _ => a
  | c => c

/-- The test at the end: what is not read. -/
theorem spoilt_tail2 (w : World) {H : AHeap} (hw : WF H) {n g : Nat} {d B : List UInt8} (hok : okP n g d.length = true) (hB : B = enc n g d) (x0 x1 : UInt8) {T : Env} {a : Addr} {q g0 : Nat} (hb : Buf H (.slice (some a) B.length B.length) g0 1 B.length (B.map u8v))
    (hq : Obj1 H q [.int .u8 x0.toNat, .int .u8 x1.toNat]) (hqg : q ≠ g0) (t5 : T.val 5 = .pointer (some ⟨q, 0, none⟩)) (t8 : T.val 8 = .slice (some a) B.length B.length) :
    wpC (ctxW w) none (tl (tl (tl (tl (tl (tl (tl ir4.body))))))) (finK (ctxW w) ir4.results fun r _ => r = .bool true) ⟨T, H, []⟩ := by
  have hBl : B.length = d.length + 8 := by rw [hB, enc_len]
  have hdl := okP_len hok
  simp [ir4, tl]
  refine w_bs (esz := 1) (cs := []) hw (by simp) (by simp) (by simp) fun q1 H1 hq1 hb1 => ?_
  simp [t8]
  refine w_app (m := B.length) (n := 0) (cs := []) (xs := B.map u8v) hq1.same.wf' (by simpa using hb1) (by simp [t8]; exact (hb.same hq1.same).row) (u8_scalar B) (by simp [roomy]; omega) fun v2 H2 hm2 hb2 => ?_
  have hs2 : Same H H2 := hq1.same.then_mod hm2 (by have := hq1.new; omega)
  simp at hb2
  obtain ⟨a2, rfl, ha2, -⟩ := hb2.load (C := ctxW w)
  have ld2 := fun off n => Obj1.load (C := ctxW w) (off := off) (n := n) (hq.same hs2)
  simp [t5, t8, ld2]
  obtain ⟨k, hk⟩ : ∃ k : Nat, k = (x0.toNat + 256 * x1.toNat) % B.length := ⟨_, rfl⟩
  have hk1 : k < B.length := by rw [hk]; exact Nat.mod_lt _ (by omega)
  have hx0 := x0.toNat_lt
  have hx1 := x1.toNat_lt
  have hkI : (IntKind.i64.wrap (IntKind.i64.wrap (x0.toNat : Int) + IntKind.i64.wrap (256 * IntKind.i64.wrap (x1.toNat : Int)))).tmod (B.length : Int) = (k : Int) := by
    rw [i64_in (x0.toNat : Int) (by omega), i64_in (x1.toNat : Int) (by omega), i64_in (256 * (x1.toNat : Int)) (by omega), i64_in _ (by omega), Int.tmod_eq_emod_of_nonneg (by omega), hk]
    simp
  have hBne : B ≠ [] := by rintro rfl; simp at hBl
  obtain ⟨b', he, hl⟩ := Bs.at (C := ctxW w) (hb2.row (C := ctxW w)) hk1
  cases he
  have hk2 : (k : Int) < B.length := by omega
  simp [hBne, hkI, hk2, hl, ld2, t5]
  obtain ⟨y, hy⟩ : ∃ y : UInt8, y = B[k] ^^^ (x1 ||| 1) := ⟨_, rfl⟩
  have hyne : y ≠ B[k] := by rw [hy]; exact xor_ne _ _
  refine d_storeB (g := q1) (a := a2) (esz := 1) (m := B.length) (i := k) (cs := B.map u8v) (xs := [u8v y]) hs2.wf' rfl hb2 (by simp) (by simp [or_u8, xor_u8, u8v, hy, -UInt8.toNat_or, -UInt8.toNat_xor]) rfl (by simp) (by simp; omega) (by simp [u8v]) fun H3 hm3 hn3 hb3 => ?_
  have hs3 : Same H H3 := hs2.then_mod hm3 (by have := hq1.new; omega)
  have hset : (B.map u8v).take k ++ ([u8v y] ++ (B.map u8v).drop (k + 1)) = (B.set k y).map u8v := by
    rw [List.set_eq_take_append_cons_drop, if_pos hk1]
    simp
  rw [hset] at hb3
  have hb3s : BsS (ctxW w) H3 (.slice (some a2) B.length B.length) (B.set k y) := Buf.bsS (g := q1) (by rw [List.length_set]; exact hb3)
  simp
  refine wpCall_mono (read_spec w hs3.wf' hb3s (by simp; omega)) ?_
  rintro r4 H4 ⟨hs4, hr4⟩
  have hrd : readB (B.set k y) = none := by subst hB; exact readB_set hok hk1 hyne
  rw [hrd] at hr4
  subst hr4
  have hs04 := hs3.trans hs4
  have hb4 := hb.same hs04
  simp [t8]
  have e1 : IntKind.i64.wrap ((B.length : Int) - 1) = ((B.length - 1 : Nat) : Int) := by rw [i64_in _ (by omega)]; omega
  refine w_sliceX (a := a) (n := B.length) (c := B.length) (l := 0) (h := B.length - 1) (m := B.length) (by simp) (Buf.slc hb4) (by simp [bounds, bnd, e1]) ?_
  have hcut : BsS (ctxW w) H4 (.slice (some (aadd a (0 * 1))) (B.length - 1 - 0) (B.length - 0)) (B.take (B.length - 1)) := BsS.cut hb4.row (Buf.slc hb4) (by omega) (by omega)
  simp at hcut
  simp
  refine wpCall_mono (read_spec w hs04.wf' hcut (by simp; omega)) ?_
  rintro r5 H5 ⟨hs5, hr5⟩
  have hrd5 : readB (B.take (B.length - 1)) = none := by subst hB; exact readB_cut hok
  rw [hrd5] at hr5
  subst hr5
  have hs05 := hs04.trans hs5
  have hb5 := hb.same hs05
  have hq5 := hq.same hs05
  simp
  refine d_bs (esz := 1) (cs := []) hs05.wf' rfl (by simp) (by simp) (by simp) fun q6 H6 hq6 hb6 => ?_
  simp [t8]
  refine d_app' (g := q6) (n := 0) (m := B.length) (cs := []) (xs := B.map u8v) hq6.same.wf' (by simpa using hb6) (by simp; exact (hb5.same hq6.same).row) (u8_scalar B) (by simp [roomy]; omega) (by simp) fun v7 H7 rd7 md7 hm7 hb7 hmd7 hrd7 => ?_
  have hs57 : Same H5 H7 := hq6.same.then_mod hm7 (by have := hq6.new; omega)
  have ld7 := fun off n => Obj1.load (C := ctxW w) (off := off) (n := n) (hq5.same hs57)
  have hq6n : q6 < H7.next := by have := hq6.next; have := hm7.grow.next; omega
  have hql := hq5.lt hs05.wf'
  have n7 := hs57.grow.next
  have g1 : free (ctxW w) (.exp rd7 md7) (.exp [q] []) = true := free_exp_rd fun y hy => by rw [hmd7 y hy]; have := hq6.new; simp; omega
  have g2 : Nat.beq q6 q = false := nbeq' (by have := hq6.new; omega)
  simp [t5, ld7, g1, g2]
  have new7 : ∀ N, H7.next ≤ N → free (ctxW w) (.exp rd7 md7) (.exp [] [N]) = true := fun N hN => free_exp_new (fun x hx => by rw [hmd7 x hx]; omega) fun x hx => by have := hrd7 x hx; have := hm7.grow.next; omega
  have new6 : ∀ N, H7.next ≤ N → Nat.beq q6 N = false := fun N hN => nbeq' (by omega)
  refine d_bs (esz := 1) (cs := [u8v x0]) hs57.wf' (by simp [new7 _ (Nat.le_refl _), new6 _ (Nat.le_refl _)]) (by simp [u8v]) (by simp) (by simp [u8v]) fun q8 H8 hq8 hb8 => ?_
  have hs58 := hs57.trans hq8.same
  simp
  have hb7' : Buf H8 v7 q6 1 B.length (B.map u8v) := by simpa using hb7.same hq8.same
  refine d_app' (g := q6) (n := B.length) (m := 1) (cs := B.map u8v) (xs := [x0].map u8v) hs58.wf' (by simpa using hb7') (by simpa using hb8.row) (u8_scalar [x0]) (by simp [roomy]; omega) (by simp) fun v9 H9 rd9 md9 hm9 hb9 hmd9 hrd9 => ?_
  have hs59 : Same H5 H9 := hs58.then_mod hm9 (by have := hq6.new; omega)
  have hb9s : BsS (ctxW w) H9 v9 (B ++ [x0]) := Buf.bsS (g := q6) (by simpa using hb9)
  simp
  refine wpCall_mono (read_spec w (hs05.trans hs59).wf' hb9s (by simp; omega)) ?_
  rintro r10 H10 ⟨hs10, hr10⟩
  have hrd10 : readB (B ++ [x0]) = none := by subst hB; exact readB_more hok x0
  rw [hrd10] at hr10
  subst hr10
  simp
  have hs510 := hs59.trans hs10
  have n8 := hq8.same.grow.next
  have n9 := hm9.grow.next
  have n10 := hs10.grow.next
  have hq8n := hq8.next
  have new9 : free (ctxW w) (.exp rd9 md9) (.exp [] [H10.next]) = true := free_exp_new (fun x hx => by rw [hmd9 x hx]; omega) fun x hx => by have := hrd9 x hx; omega
  have g3 : Nat.beq q8 H10.next = false := nbeq' (by omega)
  have g4 : Nat.beq H10.next q = false := nbeq' (by omega)
  have g5 : free (ctxW w) (.call H9 H10) (.exp [] [H10.next]) = true := free_call_new (Nat.le_refl _)
  refine d_mk (hs05.trans hs510).wf' (by simp [new7 H10.next (by omega), new6 H10.next (by omega), new9, g3, g4, g5]) fun p11 H11 hp11 => ?_
  simp
  refine d_store (p := p11) (off := 0) (xs := [.int .i64 0, .int .i64 0, .slice none 0 0]) hp11.same.wf' rfl hp11.obj (by simp) (by simp [pkV]) rfl (by simp) (by simp) (by simp) fun H12 hm12 hn12 ho12 => ?_
  simp
  refine wpCall_mono (awake_spec w) ?_
  rintro _ H13 ⟨rfl, rfl⟩
  simp

theorem spoilt_tail1 (w : World) {H : AHeap} (hw : WF H) {N G : Nat} {d : List UInt8} (hok : okP N G d.length = true) (x0 x1 : UInt8) {T : Env} {a a4 : Option Addr} {c c4 q p7 : Nat} (hd : Bs (ctxW w) H (.slice a d.length c) d) (hb9 : Bs (ctxW w) H (.slice a4 d.length c4) d)
    (hq : Obj1 H q [.int .u8 x0.toNat, .int .u8 x1.toNat]) (ho9 : Obj1 H p7 [.int .i64 N, .int .i64 G, .slice a4 d.length c4])
    (t0 : T.val 0 = .slice a d.length c) (t5 : T.val 5 = .pointer (some ⟨q, 0, none⟩)) (t7 : T.val 7 = .pointer (some ⟨p7, 0, none⟩)) :
    wpC (ctxW w) none (tl (tl (tl (tl ir4.body)))) (finK (ctxW w) ir4.results fun r _ => r = .bool true) ⟨T, H, []⟩ := by
  have hdl := okP_len hok
  have ld9 := fun off n => Obj1.load (C := ctxW w) (off := off) (n := n) ho9
  obtain ⟨R, hR⟩ : ∃ R, R = tl (tl (tl (tl (tl (tl (tl ir4.body)))))) := ⟨_, rfl⟩
  have e : tl (tl (tl (tl ir4.body))) = .seq (hdc (tl (tl (tl (tl ir4.body))))) (.seq (hdc (tl (tl (tl (tl (tl ir4.body)))))) (.seq (hdc (tl (tl (tl (tl (tl (tl ir4.body))))))) R)) := by rw [hR]; rfl
  rw [e]
  clear e
  simp [ir4, hdc, tl, t7, ld9]
  refine wpCall_mono (wireBytes_buf w hw N G hb9) ?_
  rintro r10 H10 ⟨hs10, ⟨_, b10, q10, hq10, rfl, hb10⟩ | ⟨hbad, _⟩⟩
  rotate_left
  · rw [hok] at hbad; cases hbad
  obtain ⟨B, hB⟩ : ∃ B, B = enc N G d := ⟨_, rfl⟩
  simp only [Int.toNat_natCast] at hb10
  rw [← hB] at hb10
  have hBl : B.length = d.length + 8 := by rw [hB, enc_len]
  obtain ⟨a10, rfl, -, -⟩ := hb10.load (C := ctxW w)
  simp
  refine w_bs (esz := 1) (cs := []) hs10.wf' (by simp) (by simp) (by simp) fun q11 H11 hq11 hb11 => ?_
  simp
  refine w_app (m := B.length) (n := 0) (cs := []) (xs := B.map u8v) hq11.same.wf' (by simpa using hb11) (by simp; exact (hb10.same hq11.same).row) (u8_scalar B) (by simp [roomy]; omega) fun v12 H12 hm12 hb12 => ?_
  have hs912 : Same H H12 := hs10.trans (hq11.same.then_mod hm12 (by have := hq11.new; omega))
  have hb12s : BsS (ctxW w) H12 v12 B := Buf.bsS (g := q11) (by simpa using hb12)
  simp
  refine wpCall_mono (read_spec w hs912.wf' hb12s (by omega)) ?_
  rintro r13 H13 ⟨hs13, hr13⟩
  have hrd : readB B = some (N, G, d) := by rw [hB]; exact readB_enc hok
  rw [hrd] at hr13
  obtain ⟨v13, rfl, hb13⟩ := hr13
  obtain ⟨a13, c13, rfl⟩ := hb13.val
  have hs913 := hs912.trans hs13
  simp
  refine w_mk hs913.wf' fun p14 H14 hp14 => ?_
  refine w_store (p := p14) (off := 0) (xs := [.int .i64 N, .int .i64 G, .slice a13 d.length c13]) hp14.same.wf' hp14.obj (by simp) (by simp [pkV]) rfl (by simp) (by simp) (by simp) fun H15 hm15 hn15 ho15 => ?_
  have hs915 : Same H H15 := (hs913.trans hp14.same).then_mod hm15 (by have := hp14.new; have := hs913.grow.next; omega)
  have hs1315 : Same H13 H15 := hp14.same.then_mod hm15 (by have := hp14.new; omega)
  have hb15 : Bs (ctxW w) H15 (.slice a13 d.length c13) d := Row.mod hm15 (hb13.same hp14.same) (Row.off hs913.wf' hb13 (by have := hp14.new; omega))
  have ldA := fun off n => Obj1.load (C := ctxW w) (off := off) (n := n) ho15
  have ldB := fun off n => Obj1.load (C := ctxW w) (off := off) (n := n) (ho9.same hs915)
  have hB0 : ¬ B.length = 0 := by omega
  simp [t7, t0, ldA, ldB, hB0]
  refine w_toStr (bs := d) (by simp; exact hb15) ?_
  simp [t0]
  refine w_toStr (bs := d) (by simp [t0]; exact hd.same hs915) ?_
  simp [strV]
  subst hR
  have hs1015 : Same H10 H15 := ((hq11.same.then_mod hm12 (by have := hq11.new; omega)).trans hs13).trans hs1315
  exact spoilt_tail2 w hs915.wf' hok hB x0 x1 (hb10.same hs1015) (hq.same hs915) (by have := hq.lt hw; omega) (by simp [t5]) (by simp)

theorem spoilt_walk (w : World) {H : AHeap} (hw : WF H) {v : Value} {d : List UInt8} (hd : Bs (ctxW w) H v d) {n0 n1 : Nat} (hn0 : n0 < 65536) (hn1 : n1 < 65536) (x0 x1 : UInt8) :
    wpCall (ctxW w) (.func (.func 4) #[] #[]) [v, .agg #[.int .u16 n0, .int .u16 n1], .agg #[.int .u8 x0.toNat, .int .u8 x1.toNat]] H fun r H' => r = .bool true := by
  obtain ⟨a, c, rfl⟩ := hd.val
  refine wpCall_fn rfl (get4 w) ?_
  simp [ir4]
  refine w_box (cs := [.int .u16 n0, .int .u16 n1]) hw (by simp) rfl (by simp) fun p H1 hp => ?_
  simp
  refine w_box (cs := [.int .u8 x0.toNat, .int .u8 x1.toNat]) hp.same.wf' (by simp) rfl (by simp) fun q H2 hq => ?_
  have hs02 := hp.same.trans hq.same
  have hw2 := hs02.wf'
  by_cases h1 : 400 < d.length
  · have e1 : (400 : Int) < d.length := by omega
    simp [e1]
    refine wpCall_mono (awake_spec w) ?_
    rintro _ H1 ⟨rfl, rfl⟩
    simp
  · have e1 : ¬ ((400 : Int) < d.length) := by omega
    have hp2 := hp.obj.same hq.same
    have ld2 := fun off n => Obj1.load (C := ctxW w) (off := off) (n := n) hp2
    simp [e1, ld2]
    have hd2 := hd.same hs02
    have f1 : Nat.beq H2.next p = false := nbeq' (by have := hp2.lt hw2; omega)
    refine d_bs (esz := 1) (cs := []) hw2 (by simp [f1]) (by simp) (by simp) (by simp) fun q3 H3 hq3 hb3 => ?_
    simp
    refine d_app' (g := q3) (n := 0) (m := d.length) (cs := []) (xs := d.map u8v) hq3.same.wf' (by simpa using hb3) (by simp; exact hd2.same hq3.same) (u8_scalar d) (by simp [roomy]; omega)
      (fun rd' md hmd => by
        have hf := free_rd_mod (C := ctxW w) (ri := rd') (mi := md) (x := p) fun y hy => by rw [hmd y hy]; have := hq3.new; have := hp2.lt hw2; omega
        simp [hf]) fun v4 H4 rd' md hm4 hb4 hmd hrd => ?_
    have hs24 : Same H2 H4 := hq3.same.then_mod hm4 (by have := hq3.new; omega)
    have hb4r : Bs (ctxW w) H4 v4 d := by
      have := hb4.row (C := ctxW w)
      simpa [Bs] using this
    have hoff4 : ∀ g, g ≠ q3 → Off g v4 := fun g hg => hb4.off (Ne.symm hg)
    obtain ⟨a4, c4, rfl⟩ := hb4r.val
    simp
    have hl3 := hb4.lt hs24.wf'
    have hn34 := hm4.grow.next
    have f5 : free (ctxW w) (.exp rd' md) (.exp [] [H4.next]) = true := free_exp_new (fun x hx => by rw [hmd x hx]; omega) fun x hx => by have := hrd x hx; omega
    have f6 : Nat.beq H4.next p = false := nbeq' (by have := (hp2.same hs24).lt hs24.wf'; omega)
    have f7 : Nat.beq q3 H4.next = false := nbeq' (by omega)
    refine d_mk hs24.wf' (by simp [f5, f6, f7]) fun p7 H7 hp7 => ?_
    simp
    have hG : (IntKind.i64.wrap (n0 : Int)).tmod 60001 = ((n0 % 60001 : Nat) : Int) := by
      rw [i64_in (n0 : Int) (by omega), Int.tmod_eq_emod_of_nonneg (by omega)]
      omega
    obtain ⟨G, hGe⟩ : ∃ G, G = n0 % 60001 := ⟨_, rfl⟩
    rw [← hGe] at hG
    have hGl : G ≤ 60000 := by omega
    refine d_store (p := p7) (off := 0) (xs := [.int .i64 0, .int .i64 G, .slice a4 d.length c4]) hp7.same.wf' rfl hp7.obj (by simp) (by simp [hG]) rfl (by simp) (by simp) (by simp) fun H8 hm8 hn8 ho8 => ?_
    have hs28 : Same H2 H8 := (hs24.trans hp7.same).then_mod hm8 (by have := hp7.new; have := hs24.grow.next; omega)
    have hp7n : p7 ≠ q3 := by have := hp7.new; omega
    have hb8 : Bs (ctxW w) H8 (.slice a4 d.length c4) d := Row.mod hm8 (hb4r.same hp7.same) (hoff4 p7 hp7n)
    simp
    obtain ⟨N, hN⟩ : ∃ N : Nat, N = if d.length = 0 then 0 else 1 + n1 % 60000 := ⟨_, rfl⟩
    have hok : okP N G d.length = true := by
      simp only [okP, decide_eq_true_eq]
      by_cases h0 : d.length = 0
      · rw [if_pos h0] at hN; subst hN; exact ⟨by omega, by omega, by simp [h0]⟩
      · rw [if_neg h0] at hN
        refine ⟨by omega, by omega, ?_⟩
        rw [if_neg (by omega)]
        omega
    have ld8 := fun off n => Obj1.load (C := ctxW w) (off := off) (n := n) (hp2.same hs28)
    refine condW_mono (Q := fun e s => e = .normal ∧ ∃ H9, s = ⟨s.T, H9, []⟩ ∧ Mod p7 H8 H9 ∧ Obj1 H9 p7 [.int .i64 N, .int .i64 G, .slice a4 d.length c4] ∧ s.T.val 0 = .slice a d.length c ∧ s.T.val 5 = .pointer (some ⟨q, 0, none⟩) ∧ s.T.val 7 = .pointer (some ⟨p7, 0, none⟩)) ?_ ?_
    · by_cases h0 : d.length = 0
      · rw [if_pos h0] at hN
        subst hN
        have e2 : decide (0 < d.length) = false := by simp only [decide_eq_false_iff_not]; omega
        rw [e2]
        simp
        exact ⟨(Same.refl hs28.wf').mod, by simpa using ho8⟩
      · rw [if_neg h0] at hN
        have e2 : decide (0 < d.length) = true := by simp only [decide_eq_true_eq]; omega
        rw [e2]
        simp [ld8]
        have hN2 : IntKind.i64.wrap (1 + (IntKind.i64.wrap (n1 : Int)).tmod 60000) = (N : Int) := by
          rw [i64_in (n1 : Int) (by omega), Int.tmod_eq_emod_of_nonneg (by omega), i64_in _ (by omega)]
          omega
        refine w_store (p := p7) (off := 0) (xs := [.int .i64 N]) hs28.wf' ho8 (by simp) (by simp [hN2]) rfl (by simp) (by simp) (by simp) fun H9 hm9 hn9 ho9 => ?_
        simp
        exact ⟨hm9, by simpa using ho9⟩
    · rintro e s ⟨rfl, H9, hs, hm9, ho9, t0, t5, t7⟩
      obtain ⟨T, Hx, ds⟩ := s
      cases hs
      have hs29 : Same H2 H9 := hs28.then_mod hm9 (by have := hp7.new; have := hs24.grow.next; omega)
      have hb9 : Bs (ctxW w) H9 (.slice a4 d.length c4) d := Row.mod hm9 hb8 (hoff4 p7 hp7n)
      exact spoilt_tail1 w hs29.wf' hok x0 x1 (hd2.same hs29) hb9 (hq.obj.same hs29) ho9 t0 t5 t7
end Go.Ai.Wire
