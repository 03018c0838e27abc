/-
  Bytes in memory; the sums.
  Numbers in two bytes.
  Packets that are right; fields; copies; the reference's sum.
  The bytes of a packet.
  Bytes, and whether bytes are equal.
  A packet is read from bytes.
  A packet is read from bytes, by the reference.
  'WireBytes' answers true.
-/
import Derived.Test.YtlikgpehalhgkaaGreatPWIr
import Derived.IntWalk
namespace Go.Ai.Wire
open Go.Proofs Go.IntWalk

attribute [simp] AOut.mods ofArgs evalOp binA binNum cmpNum wantedA resAll resA oneOrTuple lenA isNil refA fillA vcells scalar toBytes freeAll

@[simp] theorem int_beq (x y : Int) : (x == y) = decide (x = y) := by
  by_cases h : x = y <;> simp [h]
@[simp] theorem int_bne (x y : Int) : (x != y) = !decide (x = y) := by
  by_cases h : x = y <;> simp [h, bne]

theorem eqbW (w : World) (a : AObj) : (ctxW w).eqb a a = true := by simp [ctxW]

def u8v (b : UInt8) : Value := .int .u8 b.toNat

/-- A slice of bytes. -/
def Bs (C : Ctx) (H : AHeap) (v : Value) (bs : List UInt8) : Prop := Row C H v 1 bs.length (bs.map u8v)

theorem Bs.at {C : Ctx} {H : AHeap} {a : Option Addr} {n c : Nat} {bs : List UInt8} (h : Bs C H (.slice a n c) bs) {i : Nat} (hi : i < bs.length) : ∃ b, a = some b ∧ loadN C H.get (aadd b i) 1 = some [.int .u8 bs[i].toNat] := by
  obtain ⟨b, h1, _, h2⟩ := Row.at h (i := i) (by omega)
  exact ⟨b, h1, by simpa [u8v] using h2⟩
theorem Bs.val {C : Ctx} {H : AHeap} {v : Value} {bs : List UInt8} (h : Bs C H v bs) : ∃ a c, v = .slice a bs.length c := by
  obtain ⟨_, a, c, h, _⟩ := h
  exact ⟨a, c, h⟩
theorem Bs.same {C : Ctx} {H H' : AHeap} (hs : Same H H') {v : Value} {bs : List UInt8} (h : Bs C H v bs) : Bs C H' v bs := Row.same hs h
theorem u8_scalar (bs : List UInt8) : (bs.map u8v).all scalar = true := by simp [u8v]

def sumF (n i : Nat) : List UInt8 → Nat
  | [] => n
  | b :: r => sumF ((n + (b.toNat + 1) * (i + 1)) % 65521) (i + 1) r

theorem sum_spec (w : World) {H : AHeap} {v : Value} {bs : List UInt8} (hb : Bs (ctxW w) H v bs) (hlen : bs.length ≤ 1000000) : wpCall (ctxW w) (.func (.func 63) #[] #[]) [v] H fun r H' => H' = H ∧ r = .int .i64 (sumF 0 0 bs) := by
  obtain ⟨a, c, rfl⟩ := hb.val
  refine wpCall_fn rfl (get63 w) ?_
  simp [ir63]
  refine wp_loop (fun n s => ∃ (T : Env) (i acc : Nat), s = ⟨T, H, []⟩ ∧ n = bs.length - i ∧ i ≤ bs.length ∧ T.val 0 = .slice a bs.length c ∧ T.val 6 = .int .i64 bs.length ∧ T.val 7 = .int .i64 i ∧ T.val 3 = .int .i64 acc ∧ acc < 65521 ∧
    sumF acc i (bs.drop i) = sumF 0 0 bs) ?_ bs.length _ ⟨_, 0, 0, rfl, rfl, Nat.zero_le _, by simp, by simp, by simp, by simp, by omega, by simp⟩
  rintro n s ⟨T, i, acc, rfl, rfl, hi, h0, h6, h7, h3, hacc, hs⟩
  by_cases hlt : i < bs.length
  · obtain ⟨a, rfl, hl⟩ := hb.at hlt
    simp [h0, h6, h7, h3, hlt, hl]
    have hx : (bs[i].toNat + 1) * (i + 1) ≤ 256 * 1000001 := Nat.mul_le_mul (by have := bs[i].toNat_lt; omega) (by omega)
    generalize hy : (bs[i].toNat + 1) * (i + 1) = y at hx
    have hyi : ((bs[i].toNat : Int) + 1) * ((i : Int) + 1) = (y : Int) := by rw [← hy]; simp
    refine ⟨bs.length - (i + 1), by omega, i + 1, rfl, by omega, ?_, (acc + y) % 65521, ?_, by omega, ?_⟩
    · rw [i64_in _ (by omega)]; simp
    · rw [i64_in (bs[i].toNat : Int) (by have := bs[i].toNat_lt; omega), i64_in ((bs[i].toNat : Int) + 1) (by have := bs[i].toNat_lt; omega), i64_in ((i : Int) + 1) (by omega), hyi, i64_in (y : Int) (by omega), i64_in _ (by omega), Int.tmod_eq_emod_of_nonneg (by omega)]
      simp
    · rw [← hs, List.drop_eq_getElem_cons hlt, sumF, hy]
  · have : i = bs.length := by omega
    subst this
    simp [sumF] at hs
    simp [h6, h7, h3, hs]

theorem within_spec (w : World) {H : AHeap} (n lo hi : Int) : wpCall (ctxW w) (.func (.func 68) #[] #[]) [.int .i64 n, .int .i64 lo, .int .i64 hi] H fun r H' => H' = H ∧ r = .bool (decide (lo ≤ n) && decide (n ≤ hi)) := by
  refine wpCall_fn rfl (get68 w) ?_
  by_cases h1 : lo ≤ n <;> by_cases h2 : n ≤ hi <;> simp [ir68, h1, h2]

theorem in_spec (w : World) {H : AHeap} (n lo hi : Int) : wpCall (ctxW w) (.func (.func 51) #[] #[]) [.int .i64 n, .int .i64 lo, .int .i64 hi] H fun r H' => H' = H ∧ r = .bool (decide (lo ≤ n) && decide (n ≤ hi)) := by
  refine wpCall_fn rfl (get51 w) ?_
  by_cases h1 : lo ≤ n <;> by_cases h2 : n ≤ hi <;> simp [ir51, h1, h2]

theorem isCount_spec (w : World) {H : AHeap} (n : Int) : wpCall (ctxW w) (.func (.func 60) #[] #[]) [.int .i64 n] H fun r H' => H' = H ∧ r = .bool (decide (0 ≤ n) && decide (n ≤ 60000)) := by
  refine wpCall_fn rfl (get60 w) ?_
  simp [ir60]
  refine wpCall_mono (within_spec w n 0 60000) ?_
  rintro r H' ⟨rfl, rfl⟩
  simp

theorem isFrame_spec (w : World) {H : AHeap} {v : Value} {n : Nat} {a : Option Addr} {c : Nat} (hv : v = .slice a n c) : wpCall (ctxW w) (.func (.func 61) #[] #[]) [v] H fun r H' => H' = H ∧ r = .bool (decide ((1 : Int) ≤ n) && decide ((n : Int) ≤ 400)) := by
  subst hv
  refine wpCall_fn rfl (get61 w) ?_
  simp [ir61]
  refine wpCall_mono (within_spec w n 1 400) ?_
  rintro r H' ⟨rfl, rfl⟩
  simp
end Go.Ai.Wire

namespace Go.Ai.Wire
open Go.Proofs Go.IntWalk

def i64v (n : Nat) : Value := .int .i64 n
def be (n : Nat) : List UInt8 := [UInt8.ofNat (n / 256), UInt8.ofNat n]

theorem wrap_hi {n : Nat} (h : n < 65536) : IntKind.u8.wrap (IntKind.i64.wrap ((n : Int) / 256)) = (n : Int) / 256 % 256 := by
  rw [i64_in _ (by omega), IntKind.wrap_u8]
theorem wrap_lo (n : Nat) : IntKind.u8.wrap (n : Int) = (n : Int) % 256 := by rw [IntKind.wrap_u8]

theorem two_spec (w : World) {H : AHeap} (hw : WF H) {v l : Value} {g : Nat} {bs : List UInt8} {ns : List Nat} (hb : (v = .slice none 0 0 ∧ bs = []) ∨ Buf H v g 1 bs.length (bs.map u8v)) (hl : Row (ctxW w) H l 1 ns.length (ns.map i64v)) (hoff : Off g l)
    (hns : ∀ n ∈ ns, n < 65536) (hne : ns ≠ []) (hlen : bs.length ≤ 1000 ∧ ns.length ≤ 100) :
    wpCall (ctxW w) (.func (.func 62) #[] #[]) [v, l] H (Grew H g 1 (bs.length + 2 * ns.length) ((bs ++ ns.flatMap be).map u8v)) := by
  obtain ⟨_, a, c, rfl, _⟩ := id hl
  refine wpCall_fn rfl (get62 w) ?_
  simp [ir62]
  refine wp_loop' (fun n s => ∃ (T : Env) (H1 : AHeap) (i : Nat) (v : Value), s = ⟨T, H1, []⟩ ∧ n = ns.length - i ∧ i ≤ ns.length ∧ T.val 0 = v ∧ T.val 7 = .slice a ns.length c ∧ T.val 8 = .int .i64 ns.length ∧ T.val 9 = .int .i64 i ∧
    ((v = .slice none 0 0 ∧ bs = [] ∧ i = 0 ∧ H1 = H) ∨ Grew H g 1 (bs.length + 2 * i) ((bs ++ (ns.take i).flatMap be).map u8v) v H1)) (n := ns.length)
    ⟨_, H, 0, v, rfl, rfl, Nat.zero_le _, by simp, by simp, by simp, by simp, by
      rcases hb with ⟨h1, h2⟩ | h
      · exact .inl ⟨h1, h2, rfl, rfl⟩
      · exact .inr ⟨(Same.refl hw).mod, g, .inl rfl, by simpa using h⟩⟩ ?_
  rintro n s K ⟨T, H1, i, v, rfl, rfl, hi, h0, h7, h8, h9, hb⟩ hnext hexit
  by_cases hlt : i < ns.length
  · have hm : Mod g H H1 := by
      rcases hb with ⟨_, _, _, rfl⟩ | hb
      · exact (Same.refl hw).mod
      · exact hb.mod
    obtain ⟨b, rfl, _, hld⟩ := Row.at (hl.mod hm hoff) (i := i) (by omega)
    simp [i64v] at hld
    simp [h0, h7, h8, h9, hlt, hld]
    have hn := hns ns[i] (List.getElem_mem hlt)
    have htk : (ns.take (i + 1)).flatMap be = (ns.take i).flatMap be ++ be ns[i] := by rw [List.take_succ_eq_append_getElem hlt, List.flatMap_append]; simp only [List.flatMap_cons, List.flatMap_nil, List.append_nil]
    refine w_bs (esz := 1) (cs := (be ns[i]).map u8v) hm.wf' (by simp [wrap_hi hn, wrap_lo, be, u8v]) (by simp [be]) (by simp [be, u8v]) fun p H2 hp hbp => ?_
    rcases hb with ⟨hv, hbs, hi0, rfl⟩ | hb
    · subst hi0
      refine w_app0 (m := 2) (xs := (be ns[0]).map u8v) hp.same.wf' (by simp [hv]) (by simpa using hbp.row) (by omega) (by simp [be, u8v]) (by simp [roomy]) fun v' H3 hs3 hb3 => ?_
      simp [h9]
      refine hnext (ns.length - 1) _ (by omega) ⟨_, H3, 1, v', rfl, rfl, by omega, by simp, by simp [h7], by simp [h8], by simp [i64_in], .inr ⟨(hp.same.trans hs3).mod, H2.next, .inr (by have := hp.same.grow.next; omega), ?_⟩⟩
      rw [htk]
      simpa [hbs] using hb3
    · obtain ⟨hmod, g', hg', hbuf⟩ := hb
      have hne' : g' ≠ p := by have := hbuf.lt hmod.wf'; have := hp.new; omega
      refine w_app (n := bs.length + 2 * i) (m := 2) (xs := (be ns[i]).map u8v) hp.same.wf' (by simpa [h0] using hbuf.same hp.same) (by simpa using hbp.row) (by simp [be, u8v]) (by simp [roomy]; omega) fun v' H3 hm3 hb3 => ?_
      simp [h9]
      refine hnext (ns.length - (i + 1)) _ (by omega) ⟨_, H3, i + 1, v', rfl, rfl, by omega, by simp, by simp [h7], by simp [h8], by simp; rw [i64_in _ (by omega)],
        .inr ⟨(hmod.after (g' := g) hp.same.mod (.inl rfl)).after hm3 hg', g', hg', ?_⟩⟩
      rw [htk, ← List.append_assoc, List.map_append, List.map_append]
      exact hb3
  · have : i = ns.length := by omega
    subst this
    simp [h8, h9]
    refine hexit _ _ (by simp) ?_
    rcases hb with ⟨_, _, h, _⟩ | hb
    · exact absurd (List.length_eq_zero_iff.1 h) hne
    · rw [List.take_length] at hb
      simp [h0]
      simpa using hb

theorem refTwo_spec (w : World) {H : AHeap} (hw : WF H) {n : Nat} (hn : n < 65536) :
    wpCall (ctxW w) (.func (.func 86) #[] #[]) [i64v n] H fun r H' => Same H H' ∧ Buf H' r H.next 1 2 ((be n).map u8v) := by
  refine wpCall_fn rfl (get86 w) ?_
  simp [ir86, i64v]
  refine w_bs (esz := 1) (cs := (be n).map u8v) hw ?_ (by simp [be]) (by simp [be, u8v]) fun p H2 hp hbp => ?_
  · simp [be, u8v, wrap_hi hn]
    rw [IntKind.wrap_u8, Int.tmod_eq_emod_of_nonneg (by omega)]
    omega
  · simp
    have := hp.new
    subst this
    exact ⟨hp.same, hbp⟩
end Go.Ai.Wire

namespace Go.Ai.Wire
open Go.Proofs Go.IntWalk

def pkV (n g : Int) (v : Value) : Value := .agg #[.int .i64 n, .int .i64 g, v]

/-- Is a packet right? (By the length of its data.) -/
def okP (n g : Int) (len : Nat) : Bool := decide ((0 ≤ g ∧ g ≤ 60000) ∧ (0 ≤ n ∧ n ≤ 60000) ∧ if n = 0 then len = 0 else 1 ≤ len ∧ len ≤ 400)

theorem isRight_spec (w : World) {H : AHeap} (hw : WF H) (n g : Int) {a : Option Addr} {len c : Nat} :
    wpCall (ctxW w) (.func (.func 38) #[] #[]) [pkV n g (.slice a len c)] H fun r H' => Same H H' ∧ r = .bool (okP n g len) := by
  refine wpCall_fn rfl (get38 w) ?_
  simp [ir38]
  refine w_box (cs := [.int .i64 n, .int .i64 g, .slice a len c]) hw (by simp [pkV]) rfl (by simp) fun p H1 hp => ?_
  have ld := fun off n => Obj1.load (C := ctxW w) (off := off) (n := n) hp.obj
  simp [ld]
  refine wpCall_mono (isCount_spec w g) ?_
  rintro r H' ⟨rfl, rfl⟩
  by_cases hg : 0 ≤ g ∧ g ≤ 60000
  · simp [ld, hg]
    refine wpCall_mono (isCount_spec w n) ?_
    rintro r H' ⟨rfl, rfl⟩
    by_cases hn : 0 ≤ n ∧ n ≤ 60000
    · by_cases h0 : n = 0
      · subst h0
        simp [ld]
        exact ⟨hp.same, by simp [okP, hg]⟩
      · simp [ld, hn, h0]
        refine wpCall_mono (isFrame_spec w rfl) ?_
        rintro r H' ⟨rfl, rfl⟩
        simp
        refine ⟨hp.same, ?_⟩
        simp [okP, hg, hn, h0]
        congr 1 <;> (apply decide_eq_decide.2; omega)
    · have : (decide (0 ≤ n) && decide (n ≤ 60000)) = false := by simp; omega
      simp [this]
      exact ⟨hp.same, by simp [okP, hn]⟩
  · have : (decide (0 ≤ g) && decide (g ≤ 60000)) = false := by simp; omega
    simp [this]
    exact ⟨hp.same, by simp [okP, hg]⟩

theorem refFrame_spec (w : World) {H : AHeap} {a : Option Addr} {n c : Nat} : wpCall (ctxW w) (.func (.func 55) #[] #[]) [.slice a n c] H fun r H' => H' = H ∧ r = .bool (decide ((1 : Int) ≤ n) && decide ((n : Int) ≤ 400)) := by
  refine wpCall_fn rfl (get55 w) ?_
  simp [ir55]
  refine wpCall_mono (in_spec w n 1 400) ?_
  rintro r H' ⟨rfl, rfl⟩
  simp

theorem isPacket_spec (w : World) {H : AHeap} (hw : WF H) (n g : Int) {a : Option Addr} {len c : Nat} :
    wpCall (ctxW w) (.func (.func 85) #[] #[]) [pkV n g (.slice a len c)] H fun r H' => Same H H' ∧ r = .bool (okP n g len) := by
  refine wpCall_fn rfl (get85 w) ?_
  simp [ir85]
  refine w_box (cs := [.int .i64 n, .int .i64 g, .slice a len c]) hw (by simp [pkV]) rfl (by simp) fun p H1 hp => ?_
  have ld := fun off n => Obj1.load (C := ctxW w) (off := off) (n := n) hp.obj
  simp [ld]
  refine wpCall_mono (in_spec w g 0 60000) ?_
  rintro r H' ⟨rfl, rfl⟩
  by_cases hg : 0 ≤ g ∧ g ≤ 60000
  · by_cases h0 : n = 0
    · subst h0
      simp [ld, hg]
      exact ⟨hp.same, by simp [okP, hg]⟩
    · simp [ld, hg, h0]
      refine wpCall_mono (in_spec w n 1 60000) ?_
      rintro r H' ⟨rfl, rfl⟩
      by_cases hn : 1 ≤ n ∧ n ≤ 60000
      · simp [ld, hn]
        refine wpCall_mono (refFrame_spec w) ?_
        rintro r H' ⟨rfl, rfl⟩
        simp
        refine ⟨hp.same, ?_⟩
        have : 0 ≤ n := by omega
        simp [okP, hg, hn, h0, this]
        congr 1 <;> (apply decide_eq_decide.2; omega)
      · have : (decide (1 ≤ n) && decide (n ≤ 60000)) = false := by simp; omega
        simp [this]
        refine ⟨hp.same, ?_⟩
        simp [okP]
        omega
  · have : (decide (0 ≤ g) && decide (g ≤ 60000)) = false := by simp; omega
    simp [this]
    exact ⟨hp.same, by simp [okP, hg]⟩

theorem refSum_spec (w : World) {H : AHeap} {v : Value} {bs : List UInt8} (hb : Bs (ctxW w) H v bs) (hlen : bs.length ≤ 1000000) : wpCall (ctxW w) (.func (.func 87) #[] #[]) [v] H fun r H' => H' = H ∧ r = .int .i64 (sumF 0 0 bs) := by
  obtain ⟨a, c, rfl⟩ := hb.val
  refine wpCall_fn rfl (get87 w) ?_
  simp [ir87]
  refine wp_loop' (fun n s => ∃ (T : Env) (i acc : Nat), s = ⟨T, H, []⟩ ∧ n = bs.length - i ∧ i ≤ bs.length ∧ T.val 0 = .slice a bs.length c ∧ T.val 4 = .int .i64 i ∧ T.val 3 = .int .i64 acc ∧ acc < 65521 ∧
    sumF acc i (bs.drop i) = sumF 0 0 bs) (n := bs.length) ⟨_, 0, 0, rfl, rfl, Nat.zero_le _, by simp, by simp, by simp, by omega, by simp⟩ ?_
  rintro n s K ⟨T, i, acc, rfl, rfl, hi, h0, h4, h3, hacc, hs⟩ hnext hexit
  by_cases hlt : i < bs.length
  · obtain ⟨a, rfl, hl⟩ := hb.at hlt
    simp [h0, h4, h3, hlt, hl]
    have hx : (i + 1) * (bs[i].toNat + 1) ≤ 1000001 * 256 := Nat.mul_le_mul (by omega) (by have := bs[i].toNat_lt; omega)
    generalize hy : (i + 1) * (bs[i].toNat + 1) = y at hx
    have hyi : ((i : Int) + 1) * ((bs[i].toNat : Int) + 1) = (y : Int) := by rw [← hy]; simp
    refine hnext (bs.length - (i + 1)) _ (by omega) ⟨_, i + 1, (acc + y) % 65521, rfl, rfl, by omega, by simp [h0], ?_, ?_, by omega, ?_⟩
    · simp; rw [i64_in _ (by omega)]
    · simp
      rw [i64_in (bs[i].toNat : Int) (by have := bs[i].toNat_lt; omega), i64_in ((bs[i].toNat : Int) + 1) (by have := bs[i].toNat_lt; omega), i64_in ((i : Int) + 1) (by omega), hyi, i64_in (y : Int) (by omega), i64_in _ (by omega), Int.tmod_eq_emod_of_nonneg (by omega)]
    · rw [← hs, List.drop_eq_getElem_cons hlt, sumF, Nat.mul_comm, hy]
  · have : i = bs.length := by omega
    subst this
    simp [sumF] at hs
    simp [h0, h4]
    refine hexit _ _ (by simp) ?_
    simp [h3, hs]

/-- A copy in new memory. -/
theorem clone_spec (w : World) {H : AHeap} (hw : WF H) {v : Value} {bs : List UInt8} (hb : Bs (ctxW w) H v bs) (hlen : bs.length ≤ 1000000) : wpCall (ctxW w) (.func (.func 73) #[] #[]) [v] H fun r H' => Same H H' ∧ Bs (ctxW w) H' r bs ∧ ∀ g, g < H.next → Off g r := by
  obtain ⟨a, c, rfl⟩ := hb.val
  refine wpCall_fn rfl (get73 w) ?_
  cases a with
  | none =>
    simp [ir73]
    obtain ⟨h1, a', c', he, h3, h4⟩ := hb
    cases he
    have := (h3 rfl).1
    have : bs = [] := List.length_eq_zero_iff.1 this
    subst this
    exact ⟨Same.refl hw, ⟨rfl, none, 0, rfl, by simp, by simp⟩, fun g _ a n c h => by cases h⟩
  | some a =>
    simp [ir73]
    refine w_bs (esz := 1) (cs := []) hw (by simp) (by simp) (by simp) fun p H1 hp hbp => ?_
    simp
    refine w_app (m := bs.length) (n := 0) (xs := bs.map u8v) hp.same.wf' (by simpa using hbp) (by simp; exact hb.same hp.same) (u8_scalar bs) (by simp [roomy]; omega) fun v' H2 hm hb2 => ?_
    simp
    refine ⟨hp.same.then_mod hm (by have := hp.new; omega), ?_⟩
    have := hb2.row (C := ctxW w)
    simp at this
    exact ⟨this, fun g hg => hb2.off (by have := hp.new; omega)⟩

/-- Two bytes as a number. -/
theorem field_spec (w : World) {H : AHeap} {v : Value} {bs : List UInt8} (hb : Bs (ctxW w) H v bs) {i : Nat} (hi : i + 1 < bs.length) (hlen : bs.length ≤ 1000000) :
    wpCall (ctxW w) (.func (.func 107) #[] #[]) [v, .int .i64 i] H fun r H' => H' = H ∧ r = .int .i64 (bs[i].toNat * 256 + bs[i + 1].toNat : Nat) := by
  obtain ⟨a, c, rfl⟩ := hb.val
  obtain ⟨a, rfl, hl1⟩ := hb.at (i := i) (by omega)
  obtain ⟨_, he, hl2⟩ := hb.at (i := i + 1) (by omega)
  cases he
  refine wpCall_fn rfl (get107 w) ?_
  have e1 : IntKind.i64.wrap ((i : Int) + 1) = ((i + 1 : Nat) : Int) := by rw [i64_in _ (by omega)]; simp
  have e2 : (i : Int) < bs.length := by omega
  have e3 : (i : Int) + 1 < bs.length := by omega
  have e4 : 0 ≤ (i : Int) + 1 := by omega
  have e5 : ((i : Int) + 1).toNat = i + 1 := by omega
  simp [ir107, hl1, hl2, e1, e2, e3, e4, e5, freeAll, free, disj]
  have := bs[i].toNat_lt
  have := bs[i + 1].toNat_lt
  rw [i64_in (bs[i].toNat : Int) (by omega), i64_in (bs[i + 1].toNat : Int) (by omega), i64_in ((bs[i].toNat : Int) * 256) (by omega), i64_in _ (by omega)]
end Go.Ai.Wire

namespace Go.Ai.Wire
open Go.Proofs Go.IntWalk

def headB (n g : Nat) (d : List UInt8) : List UInt8 := be n ++ (be g ++ (be d.length ++ d))
def enc (n g : Nat) (d : List UInt8) : List UInt8 := headB n g d ++ be (sumF 0 0 (headB n g d))

theorem sumF_lt : ∀ (l : List UInt8) (n i : Nat), n < 65521 → sumF n i l < 65521
  | [], n, i, h => h
  | b :: r, n, i, h => sumF_lt r _ _ (Nat.mod_lt _ (by omega))

theorem bytes_buf (w : World) {H : AHeap} (hw : WF H) {n g : Nat} (hn : n ≤ 60000) (hg : g ≤ 60000) {v : Value} {d : List UInt8} (hd : Bs (ctxW w) H v d) (hlen : d.length ≤ 500) :
    wpCall (ctxW w) (.func (.func 39) #[] #[]) [pkV n g v] H fun r H' => Same H H' ∧ ∃ q, H.next ≤ q ∧ Buf H' r q 1 (enc n g d).length ((enc n g d).map u8v) := by
  obtain ⟨a, c, rfl⟩ := hd.val
  refine wpCall_fn rfl (get39 w) ?_
  simp [ir39]
  refine w_box (cs := [.int .i64 n, .int .i64 g, .slice a d.length c]) hw (by simp [pkV]) rfl (by simp) fun p H1 hp => ?_
  have ld := fun off n => Obj1.load (C := ctxW w) (off := off) (n := n) hp.obj
  simp [ld, freeAll]
  refine d_bs (esz := 1) (cs := [n, g, d.length].map i64v) hp.same.wf' rfl (by simp [i64v]) (by simp) (by simp [i64v]) fun q H2 hq hbq => ?_
  simp
  have hd2 := (hd.same hp.same).same hq.same
  refine wpCall_mono (two_spec w (g := H2.next) (bs := []) (ns := [n, g, d.length]) hq.same.wf' (.inl ⟨rfl, rfl⟩) (by simpa using hbq.row) (hbq.off (by have := hq.next; omega)) (by simp; omega) (by simp) (by simp)) ?_
  rintro r H3 ⟨hm, g', hg', hb⟩
  have hs3 : Same H2 H3 := hm.same_of (Nat.le_refl _)
  have ho3 := (hp.obj.same hq.same).same hs3
  have ld3 := fun off n => Obj1.load (C := ctxW w) (off := off) (n := n) ho3
  have hpq : Nat.beq q p = false := nbeq' (by have := hp.next; have := hq.new; omega)
  have hfc : free (ctxW w) (.call H2 H3) (.exp [p] []) = true := free_call_rd (eqbW w) hs3 (by simp; obtain ⟨e, h⟩ := hp.obj.same hq.same; rw [h]; simp)
  simp [ld3, freeAll, hfc, hpq]
  have hge : H.next ≤ g' := by have := hp.next; have := hp.new; have := hq.next; have := hq.new; omega
  have hs13 : Same H H3 := (hp.same.trans hq.same).trans hs3
  refine d_app (g := g') (n := 6) (cs := (be n ++ (be g ++ be d.length)).map u8v) (xs := d.map u8v) (m := d.length) hs3.wf' (by simpa using hb) (by simp; exact hd2.same hs3) (u8_scalar d) (by simp [roomy]; omega) (by simp [freeAll]) fun v4 H4 rd md hm4 hb4 _ => ?_
  have hs4 := hs13.then_mod hm4 hge
  have hb4' : Buf H4 v4 g' 1 (headB n g d).length ((headB n g d).map u8v) := by
    have e : (headB n g d).length = 6 + d.length := by simp [headB, be]; omega
    rw [e]
    simpa [headB] using hb4
  simp
  refine wpCall_mono (sum_spec w (bs := headB n g d) hb4'.row (by simp [headB, be]; omega)) ?_
  rintro _ _ ⟨rfl, rfl⟩
  simp
  refine w_bs (esz := 1) (cs := [sumF 0 0 (headB n g d)].map i64v) hs4.wf' (by simp [i64v]) (by simp) (by simp [i64v]) fun q5 H5 hq5 hbq5 => ?_
  simp
  have hlt4 := hb4'.lt hs4.wf'
  refine wpCall_mono (two_spec w (g := g') (bs := headB n g d) (ns := [sumF 0 0 (headB n g d)]) hq5.same.wf' (.inr (hb4'.same hq5.same)) (by simpa using hbq5.row) (hbq5.off (by have := hq5.new; omega)) (by simp; have := sumF_lt (headB n g d) 0 0 (by omega); omega) (by simp)
    (by simp [headB, be]; omega)) ?_
  rintro r6 H6 ⟨hm6, g6, hg6, hb6⟩
  simp
  refine ⟨(hs4.trans hq5.same).then_mod hm6 hge, g6, ?_, ?_⟩
  · have := hs4.grow.next
    have := hq5.same.grow.next
    rcases hg6 with rfl | h <;> omega
  · have e : (enc n g d).length = (headB n g d).length + 2 := by simp [enc, be]
    rw [e]
    simpa [enc] using hb6

theorem bytes_spec (w : World) {H : AHeap} (hw : WF H) {n g : Nat} (hn : n ≤ 60000) (hg : g ≤ 60000) {v : Value} {d : List UInt8} (hd : Bs (ctxW w) H v d) (hlen : d.length ≤ 500) :
    wpCall (ctxW w) (.func (.func 39) #[] #[]) [pkV n g v] H fun r H' => Same H H' ∧ Bs (ctxW w) H' r (enc n g d) := by
  refine wpCall_mono (bytes_buf w hw hn hg hd hlen) ?_
  rintro r H' ⟨h1, q, _, h2⟩
  exact ⟨h1, h2.row⟩
end Go.Ai.Wire

namespace Go.Ai.Wire
open Go.Proofs Go.IntWalk

theorem okP_spec {n g : Int} {len : Nat} (h : okP n g len = true) : ∃ (a b : Nat), n = a ∧ g = b ∧ a ≤ 60000 ∧ b ≤ 60000 ∧ len ≤ 400 := by
  simp only [okP, decide_eq_true_eq] at h
  obtain ⟨⟨h1, h2⟩, ⟨h3, h4⟩, h5⟩ := h
  refine ⟨n.toNat, g.toNat, by omega, by omega, by omega, by omega, ?_⟩
  split at h5 <;> omega

/-- What 'Bytes' gives. -/
def BytesOut (C : Ctx) (H : AHeap) (n g : Int) (d : List UInt8) (r : Value) (H' : AHeap) : Prop :=
  Same H H' ∧ ((okP n g d.length = true ∧ ∃ b, r = .tuple #[b, .int .i64 0] ∧ Bs C H' b (enc n.toNat g.toNat d)) ∨ (okP n g d.length = false ∧ r = .tuple #[.slice none 0 0, .int .i64 4]))

/-- The same, with a row that is at its own end. -/
def BytesBuf (H : AHeap) (n g : Int) (d : List UInt8) (r : Value) (H' : AHeap) : Prop :=
  Same H H' ∧ ((okP n g d.length = true ∧ ∃ b q, H.next ≤ q ∧ r = .tuple #[b, .int .i64 0] ∧ Buf H' b q 1 (enc n.toNat g.toNat d).length ((enc n.toNat g.toNat d).map u8v)) ∨ (okP n g d.length = false ∧ r = .tuple #[.slice none 0 0, .int .i64 4]))

theorem BytesBuf.out {C : Ctx} {H H' : AHeap} {n g : Int} {d : List UInt8} {r : Value} (h : BytesBuf H n g d r H') : BytesOut C H n g d r H' := by
  obtain ⟨h1, ⟨h2, b, q, _, h3, h4⟩ | h2⟩ := h
  · exact ⟨h1, .inl ⟨h2, b, h3, h4.row⟩⟩
  · exact ⟨h1, .inr h2⟩

theorem refBytes_buf (w : World) {H : AHeap} (hw : WF H) (n g : Int) {v : Value} {d : List UInt8} (hd : Bs (ctxW w) H v d) : wpCall (ctxW w) (.func (.func 57) #[] #[]) [pkV n g v] H (BytesBuf H n g d) := by
  obtain ⟨a, c, rfl⟩ := hd.val
  refine wpCall_fn rfl (get57 w) ?_
  simp [ir57]
  refine w_box (cs := [.int .i64 n, .int .i64 g, .slice a d.length c]) hw (by simp [pkV]) rfl (by simp) fun p H1 hp => ?_
  have ld := fun off n => Obj1.load (C := ctxW w) (off := off) (n := n) hp.obj
  simp [ld]
  refine wpCall_mono (isPacket_spec w hp.same.wf' n g (a := a) (len := d.length) (c := c)) ?_
  rintro r H2 ⟨hs2, rfl⟩
  have ho2 := hp.obj.same hs2
  have ld2 := fun off n => Obj1.load (C := ctxW w) (off := off) (n := n) ho2
  cases hok : okP n g d.length with
  | false =>
    simp
    exact ⟨hp.same.trans hs2, .inr ⟨hok, rfl⟩⟩
  | true =>
    obtain ⟨n', g', rfl, rfl, hn, hg, hl⟩ := okP_spec hok
    simp [ld2]
    refine wpCall_mono (refTwo_spec w hs2.wf' (n := n') (by omega)) ?_
    rintro r3 H3 ⟨hs3, hb3⟩
    have ho3 := ho2.same hs3
    have ld3 := fun off n => Obj1.load (C := ctxW w) (off := off) (n := n) ho3
    have hf3 : free (ctxW w) (.call H2 H3) (.exp [p] []) = true := free_call_rd (eqbW w) hs3 (by simp; obtain ⟨e, h⟩ := ho2; rw [h]; simp)
    simp [ld3, hf3]
    refine wpCall_mono (refTwo_spec w hs3.wf' (n := g') (by omega)) ?_
    rintro r4 H4 ⟨hs4, hb4⟩
    simp
    have hlt3 := hb3.lt hs3.wf'
    refine d_app (g := H2.next) (n := 2) (m := 2) (cs := (be n').map u8v) (xs := (be g').map u8v) hs4.wf' (by simpa using hb3.same hs4) (by simpa using hb4.row) (u8_scalar _) (by simp [roomy]) (by simp) fun v5 H5 rd5 md5 hm5 hb5 hmd5 => ?_
    have hs15 : Same H1 H5 := ((hs2.trans hs3).trans hs4).then_mod hm5 (hs2.grow.next)
    have ho5 := hp.obj.same hs15
    have ld5 := fun off n => Obj1.load (C := ctxW w) (off := off) (n := n) ho5
    simp [ld5]
    refine wpCall_mono (refTwo_spec w hs15.wf' (n := d.length) (by omega)) ?_
    rintro r6 H6 ⟨hs6, hb6⟩
    simp
    have hlt5 := hb5.lt hs15.wf'
    refine d_app (g := H2.next) (n := 4) (m := 2) (cs := (be n').map u8v ++ (be g').map u8v) (xs := (be d.length).map u8v) hs6.wf' (by simpa using hb5.same hs6) (by simpa using hb6.row) (u8_scalar _) (by simp [roomy]) (by simp) fun v7 H7 rd7 md7 hm7 hb7 hmd7 => ?_
    have hs17 : Same H1 H7 := (hs15.trans hs6).then_mod hm7 (hs2.grow.next)
    have ho7 := hp.obj.same hs17
    have ld7 := fun off n => Obj1.load (C := ctxW w) (off := off) (n := n) ho7
    have hf6 : free (ctxW w) (.call H5 H6) (.exp [p] []) = true := free_call_rd (eqbW w) hs6 (by simp; obtain ⟨e, h⟩ := ho5; rw [h]; simp)
    have hf7 : free (ctxW w) (.exp rd7 md7) (.exp [p] []) = true := free_exp_rd fun x hx => by
      have := hmd7 x hx
      have := hp.next
      have := hs2.grow.next
      simp
      omega
    simp [ld7, hf6, hf7]
    have hd7 := ((hd.same hp.same).same hs17)
    refine d_app (g := H2.next) (n := 6) (m := d.length) (cs := (be n').map u8v ++ (be g').map u8v ++ (be d.length).map u8v) (xs := d.map u8v) hs17.wf' (by simpa using hb7) (by simp; exact hd7) (u8_scalar _) (by simp [roomy]; omega) (by simp) fun v8 H8 rd8 md8 hm8 hb8 hmd8 => ?_
    have hs18 : Same H1 H8 := hs17.then_mod hm8 (hs2.grow.next)
    have hb8' : Buf H8 v8 H2.next 1 (headB n' g' d).length ((headB n' g' d).map u8v) := by
      have e : (headB n' g' d).length = 6 + d.length := by simp [headB, be]; omega
      rw [e]
      simpa [headB] using hb8
    simp
    refine wpCall_mono (refSum_spec w (bs := headB n' g' d) hb8'.row (by simp [headB, be]; omega)) ?_
    rintro _ _ ⟨rfl, rfl⟩
    simp
    refine wpCall_mono (refTwo_spec w hs18.wf' (n := sumF 0 0 (headB n' g' d)) (by have := sumF_lt (headB n' g' d) 0 0 (by omega); omega)) ?_
    rintro r9 H9 ⟨hs9, hb9⟩
    simp
    refine w_app (g := H2.next) (n := (headB n' g' d).length) (m := 2) (cs := (headB n' g' d).map u8v) (xs := (be (sumF 0 0 (headB n' g' d))).map u8v) hs9.wf' (by simpa using hb8'.same hs9) (by simpa using hb9.row) (u8_scalar _) (by simp [roomy, headB, be]; omega) fun v10 H10 hm10 hb10 => ?_
    simp
    refine ⟨hp.same.trans ((hs18.trans hs9).then_mod hm10 hs2.grow.next), .inl ⟨hok, v10, H2.next, ?_, rfl, ?_⟩⟩
    · have := hp.same.grow.next
      have := hs2.grow.next
      omega
    · have e : (enc n' g' d).length = (headB n' g' d).length + 2 := by simp [enc, be]
      simp only [Int.toNat_natCast]
      rw [e]
      simpa [enc] using hb10

theorem refBytes_spec (w : World) {H : AHeap} (hw : WF H) (n g : Int) {v : Value} {d : List UInt8} (hd : Bs (ctxW w) H v d) : wpCall (ctxW w) (.func (.func 57) #[] #[]) [pkV n g v] H (BytesOut (ctxW w) H n g d) :=
  wpCall_mono (refBytes_buf w hw n g hd) fun _ _ h => h.out

theorem equal_spec (w : World) {H : AHeap} {v u : Value} {a b : List UInt8} (ha : Bs (ctxW w) H v a) (hb : Bs (ctxW w) H u b) (hla : a.length ≤ 1000000) : wpCall (ctxW w) (.func (.func 108) #[] #[]) [v, u] H fun r H' => H' = H ∧ r = .bool (decide (a = b)) := by
  obtain ⟨a1, c1, rfl⟩ := ha.val
  obtain ⟨a2, c2, rfl⟩ := hb.val
  refine wpCall_fn rfl (get108 w) ?_
  by_cases hl : a.length = b.length
  · have hl' : (a.length : Int) = b.length := by omega
    simp [ir108, hl']
    refine wp_loop' (fun n s => ∃ (T : Env) (i : Nat), s = ⟨T, H, []⟩ ∧ n = a.length - i ∧ i ≤ a.length ∧ T.val 0 = .slice a1 a.length c1 ∧ T.val 1 = .slice a2 b.length c2 ∧ T.val 12 = .int .i64 a.length ∧ T.val 13 = .int .i64 i ∧ a.take i = b.take i) (n := a.length)
      ⟨_, 0, rfl, rfl, Nat.zero_le _, by simp, by simp, by simp [hl], by simp, by simp⟩ ?_
    rintro n s K ⟨T, i, rfl, rfl, hi, h0, h1, h12, h13, heq⟩ hnext hexit
    by_cases hlt : i < a.length
    · obtain ⟨x, rfl, hx⟩ := ha.at hlt
      obtain ⟨y, rfl, hy⟩ := hb.at (i := i) (by omega)
      have hlt2 : i < b.length := by omega
      by_cases hab : a[i] = b[i]
      · simp [h0, h1, h12, h13, hlt, hlt2, hx, hy, hab]
        refine hnext (a.length - (i + 1)) _ (by omega) ⟨_, i + 1, rfl, rfl, by omega, by simp [h0], by simp [h1], by simp [h12], by simp; rw [i64_in _ (by omega)], ?_⟩
        rw [List.take_succ_eq_append_getElem hlt, List.take_succ_eq_append_getElem hlt2, heq, hab]
      · have hne : ¬ ((a[i].toNat : Int) = b[i].toNat) := by
          intro h
          exact hab (UInt8.toNat_inj.1 (by omega))
        simp [h0, h1, h12, h13, hlt, hlt2, hx, hy, hne]
        refine hexit _ _ (by simp) ?_
        have : a ≠ b := by
          rintro rfl
          exact hab rfl
        simp [this]
    · have hi' : i = a.length := by omega
      subst hi'
      simp [h12, h13]
      refine hexit _ _ (by simp) ?_
      rw [List.take_length, hl, List.take_length] at heq
      simp [heq]
  · have hl' : ¬ ((a.length : Int) = b.length) := by omega
    simp [ir108, hl']
    rintro rfl
    exact hl rfl
end Go.Ai.Wire

namespace Go.Ai.Wire
open Go.Proofs Go.IntWalk

/-- A slice of bytes that can be cut. -/
def BsS (C : Ctx) (H : AHeap) (v : Value) (bs : List UInt8) : Prop := Bs C H v bs ∧ ∃ a c, v = .slice a bs.length c ∧ bs.length ≤ c ∧ ∀ b, a = some b → bs.length ≠ 0 → Slc H b 1

theorem BsS.same {C : Ctx} {H H' : AHeap} (hs : Same H H') {v : Value} {bs : List UInt8} (h : BsS C H v bs) : BsS C H' v bs :=
  ⟨h.1.same hs, let ⟨a, c, h1, h2, h3⟩ := h.2; ⟨a, c, h1, h2, fun b hb h0 => (h3 b hb h0).same hs⟩⟩
theorem Buf.bsS {C : Ctx} {H : AHeap} {v : Value} {g : Nat} {bs : List UInt8} (h : Buf H v g 1 bs.length (bs.map u8v)) : BsS C H v bs := by
  refine ⟨h.row, ?_⟩
  obtain ⟨k, vs, e, rfl, hg, h1, h2, h3, h4⟩ := id h
  exact ⟨_, _, rfl, Nat.le_refl _, fun b hb _ => by cases hb; exact Buf.slc h⟩

/-- What some bytes are the bytes of. -/
def readB (bs : List UInt8) : Option (Nat × Nat × List UInt8) :=
  if bs.length < 8 then none else
  let n := (bs.getD 0 0).toNat * 256 + (bs.getD 1 0).toNat
  let g := (bs.getD 2 0).toNat * 256 + (bs.getD 3 0).toNat
  let d := (bs.drop 6).take (bs.length - 8)
  if okP n g d.length = true ∧ enc n g d = bs then some (n, g, d) else none

def ReadOut (C : Ctx) (H : AHeap) (bs : List UInt8) (r : Value) (H' : AHeap) : Prop :=
  Same H H' ∧ match readB bs with
    | some (n, g, d) => ∃ v, r = .tuple #[pkV n g v, .int .i64 0] ∧ Bs C H' v d
    | none => r = .tuple #[pkV 0 0 (.slice none 0 0), .int .i64 4]

theorem readB_long {bs : List UInt8} (h : 408 < bs.length) : readB bs = none := by
  unfold readB
  rw [if_neg (by omega)]
  dsimp only
  rw [if_neg]
  rintro ⟨h1, _⟩
  obtain ⟨_, _, _, _, _, _, hl⟩ := okP_spec h1
  simp at hl
  omega

theorem field_spec' (w : World) {H : AHeap} {v : Value} {bs : List UInt8} (hb : Bs (ctxW w) H v bs) {i : Nat} (hi : i + 1 < bs.length) (hlen : bs.length ≤ 1000000) {N : Nat} (hN : N = (bs.getD i 0).toNat * 256 + (bs.getD (i + 1) 0).toNat) :
    wpCall (ctxW w) (.func (.func 107) #[] #[]) [v, .int .i64 i] H fun r H' => H' = H ∧ r = .int .i64 N := by
  have e : N = bs[i].toNat * 256 + bs[i + 1].toNat := by
    rw [hN, List.getD_eq_getElem?_getD, List.getD_eq_getElem?_getD, List.getElem?_eq_getElem (by omega), List.getElem?_eq_getElem hi]
    rfl
  rw [e]
  exact field_spec w hb hi hlen

/-- The bytes in the middle. -/
theorem Bs.sub {C : Ctx} {H : AHeap} {b : Addr} {c c' : Nat} {bs : List UInt8} (hb : Bs C H (.slice (some b) bs.length c) bs) {l h : Nat} (h1 : l ≤ h) (h2 : h ≤ bs.length) : Bs C H (.slice (some (aadd b l)) (h - l) c') ((bs.drop l).take (h - l)) := by
  have := Row.sub (c' := c') hb h1 h2
  have e : ((bs.drop l).take (h - l)).length = h - l := by simp; omega
  unfold Bs
  rw [e]
  simpa using this

/-- .. and the bytes that were read lie in own memory. -/
def ReadOff (C : Ctx) (H : AHeap) (bs : List UInt8) (r : Value) (H' : AHeap) : Prop :=
  Same H H' ∧ match readB bs with
    | some (n, g, d) => ∃ v, r = .tuple #[pkV n g v, .int .i64 0] ∧ Bs C H' v d ∧ ∀ b, b < H.next → Off b v
    | none => r = .tuple #[pkV 0 0 (.slice none 0 0), .int .i64 4]

theorem read_off (w : World) {H : AHeap} (hw : WF H) {v : Value} {bs : List UInt8} (hb : BsS (ctxW w) H v bs) (hlen : bs.length ≤ 1000) : wpCall (ctxW w) (.func (.func 97) #[] #[]) [v] H (ReadOff (ctxW w) H bs) := by
  obtain ⟨hb, a, c, rfl, hcap, hslc⟩ := hb
  refine wpCall_fn rfl (get97 w) ?_
  simp [ir97]
  refine w_mk hw fun p H1 hp => ?_
  have ld1 := fun off n => Obj1.load (C := ctxW w) (off := off) (n := n) hp.obj
  simp
  refine wpCall_mono (within_spec w bs.length 8 408) ?_
  rintro _ H1 ⟨rfl, rfl⟩
  by_cases hin : 8 ≤ bs.length ∧ bs.length ≤ 408
  · have e1 : (8 : Int) ≤ bs.length := by omega
    have e2 : (bs.length : Int) ≤ 408 := by omega
    simp [e1, e2]
    obtain ⟨b, rfl⟩ : ∃ b, a = some b := by
      obtain ⟨_, h, _⟩ := hb.at (i := 0) (by omega)
      exact ⟨_, h⟩
    have hb1 := hb.same hp.same
    have hsl1 := (hslc b rfl (by omega)).same hp.same
    obtain ⟨n, hn⟩ : ∃ n, n = (bs.getD 0 0).toNat * 256 + (bs.getD 1 0).toNat := ⟨_, rfl⟩
    obtain ⟨g, hg⟩ : ∃ g, g = (bs.getD 2 0).toNat * 256 + (bs.getD 3 0).toNat := ⟨_, rfl⟩
    obtain ⟨d, hd⟩ : ∃ d, d = (bs.drop 6).take (bs.length - 8) := ⟨_, rfl⟩
    have hdl : d.length = bs.length - 8 := by rw [hd]; simp; omega
    refine wpCall_mono (field_spec' w hb1 (i := 0) (by omega) (by omega) hn) ?_
    rintro _ H1 ⟨rfl, rfl⟩
    simp
    refine wpCall_mono (field_spec' w hb1 (i := 2) (by omega) (by omega) hg) ?_
    rintro _ H1 ⟨rfl, rfl⟩
    simp
    have e3 : IntKind.i64.wrap ((bs.length : Int) - 2) = ((bs.length - 2 : Nat) : Int) := by rw [i64_in _ (by omega)]; omega
    have hw1 := hp.same.wf'
    have hfc : free (ctxW w) (.call H1 H1) (.exp [b.block] []) = true := free_call_rd (eqbW w) (Same.refl hw1) (by simp; exact .inr hsl1.ne)
    have hlb := get_lt hw1 hsl1.ne
    refine d_sliceS (k1 := .i64) (k2 := .i64) (a := b) (n := bs.length) (c := c) (l := 6) (h := bs.length - 2) (by simp) hsl1 (by simp) (by simp [e3]) (by omega) (by omega) (by simp [hfc]) ?_
    simp
    have hsub : Bs (ctxW w) H1 (.slice (some (aadd b 6)) (bs.length - 2 - 6) (c - 6)) d := by
      have := Bs.sub (c' := c - 6) hb1 (l := 6) (h := bs.length - 2) (by omega) (by omega)
      have e : bs.length - 2 - 6 = bs.length - 8 := by omega
      rw [e] at this ⊢
      rw [hd]
      exact this
    refine wpCall_mono (clone_spec w hw1 hsub (by omega)) ?_
    rintro r2 H2 ⟨hs2, hb2, hoff2⟩
    obtain ⟨a2, c2, rfl⟩ := hb2.val
    simp
    have hge2 := hs2.grow.next
    have f1 : free (ctxW w) (.call H1 H2) (.exp [] [H2.next]) = true := free_call_new (Nat.le_refl _)
    have f2 : free (ctxW w) (.call H1 H1) (.exp [] [H2.next]) = true := free_call_new hge2
    have f3 : Nat.beq H2.next b.block = false := nbeq' (by omega)
    refine d_mk hs2.wf' (by simp [f1, f2, f3]) fun q H3 hq => ?_
    simp only [putDst_some]
    refine d_store (p := q) (off := 0) (xs := [.int .i64 n, .int .i64 g, .slice a2 d.length c2]) hq.same.wf' rfl hq.obj (by simp) (by simp) rfl (by simp) (by simp) (by simp) fun H4 hm4 hn4 ho4 => ?_
    have hqH : H1.next ≤ q := by have := hq.new; omega
    have hs14 : Same H1 H4 := (hs2.trans hq.same).then_mod hm4 hqH
    have hb4 : Bs (ctxW w) H4 (.slice a2 d.length c2) d := by
      refine Row.mod hm4 (hb2.same hq.same) ?_
      exact Row.off hs2.wf' hb2 (by have := hq.new; omega)
    have ld4 := fun off n => Obj1.load (C := ctxW w) (off := off) (n := n) ho4
    simp [ld4]
    have ho1 := hp.obj.same hs14
    have hoffp := hoff2 p (hp.obj.lt hw1)
    refine wpCall_mono (isRight_spec w hs14.wf' n g (a := a2) (len := d.length) (c := c2)) ?_
    rintro _ H5 ⟨hs5, rfl⟩
    have ld5 := fun off n => Obj1.load (C := ctxW w) (off := off) (n := n) (ho4.same hs5)
    have ho5 := ho1.same hs5
    have hs5' := (hp.same.trans hs14).trans hs5
    have hread : readB bs = if okP n g d.length = true ∧ enc n g d = bs then some (n, g, d) else none := by
      unfold readB
      rw [if_neg (by omega), hn, hg, hd]
    cases hok : okP n g d.length with
    | false =>
      simp
      refine w_store (p := p) (off := 0) (xs := [.int .i64 0, .int .i64 0, .slice none 0 0]) hs5'.wf' ho5 (by simp) (by simp) rfl (by simp) (by simp) (by simp) fun H6 hm6 hn6 ho6 => ?_
      have ld6 := fun off n => Obj1.load (C := ctxW w) (off := off) (n := n) ho6
      simp [ld6]
      refine ⟨hs5'.then_mod hm6 (by have := hp.new; omega), ?_⟩
      rw [hread, if_neg (by simp [hok])]
      rfl
    | true =>
      obtain ⟨n', g', hn', hg', hnl, hgl, hl⟩ := okP_spec hok
      have : n' = n := by omega
      subst this
      have : g' = g := by omega
      subst this
      simp [ld5]
      refine wpCall_mono (bytes_spec w hs5'.wf' hnl hgl (hb4.same hs5) (by omega)) ?_
      rintro r6 H6 ⟨hs6, hb6⟩
      simp
      have hb16 := ((hb1.same hs14).same hs5).same hs6
      refine wpCall_mono (equal_spec w hb6 hb16 (by simp [enc, headB, be]; omega)) ?_
      rintro _ H6 ⟨rfl, rfl⟩
      have ld6 := fun off n => Obj1.load (C := ctxW w) (off := off) (n := n) ((ho4.same hs5).same hs6)
      by_cases henc : enc n' g' d = bs
      · simp [henc, ld6]
        refine w_store (p := p) (off := 0) (xs := [.int .i64 n', .int .i64 g', .slice a2 d.length c2]) hs6.wf' (ho5.same hs6) (by simp) (by simp) rfl (by simp) (by simp) (by simp) fun H7 hm7 hn7 ho7 => ?_
        have ld7 := fun off n => Obj1.load (C := ctxW w) (off := off) (n := n) ho7
        simp [ld7]
        refine ⟨(hs5'.trans hs6).then_mod hm7 (by have := hp.new; omega), ?_⟩
        rw [hread, if_pos ⟨hok, henc⟩]
        exact ⟨.slice a2 d.length c2, rfl, Row.mod hm7 ((hb4.same hs5).same hs6) hoffp, fun b hb => hoff2 b (by have := hp.same.grow.next; omega)⟩
      · simp [henc]
        refine w_store (p := p) (off := 0) (xs := [.int .i64 0, .int .i64 0, .slice none 0 0]) hs6.wf' (ho5.same hs6) (by simp) (by simp) rfl (by simp) (by simp) (by simp) fun H7 hm7 hn7 ho7 => ?_
        have ld7 := fun off n => Obj1.load (C := ctxW w) (off := off) (n := n) ho7
        simp [ld7]
        refine ⟨(hs5'.trans hs6).then_mod hm7 (by have := hp.new; omega), ?_⟩
        rw [hread, if_neg (by simp [henc])]
        rfl
  · have e1 : (decide ((8 : Int) ≤ bs.length) && decide ((bs.length : Int) ≤ 408)) = false := by simp; omega
    simp [e1]
    refine w_store (p := p) (off := 0) (xs := [.int .i64 0, .int .i64 0, .slice none 0 0]) hp.same.wf' hp.obj (by simp) (by simp) rfl (by simp) (by simp) (by simp) fun H6 hm6 hn6 ho6 => ?_
    have ld6 := fun off n => Obj1.load (C := ctxW w) (off := off) (n := n) ho6
    simp [ld6]
    refine ⟨hp.same.then_mod hm6 (by have := hp.new; omega), ?_⟩
    have : readB bs = none := by
      by_cases h8 : bs.length < 8
      · unfold readB; rw [if_pos h8]
      · exact readB_long (by omega)
    rw [this]
    rfl

theorem ReadOff.out {C : Ctx} {H H' : AHeap} {bs : List UInt8} {r : Value} (h : ReadOff C H bs r H') : ReadOut C H bs r H' := by
  unfold ReadOff at h
  unfold ReadOut
  refine ⟨h.1, ?_⟩
  have h2 := h.2
  cases hr : readB bs with
  | none => rw [hr] at h2; exact h2
  | some y =>
    rw [hr] at h2
    obtain ⟨v, h3, h4, _⟩ := h2
    exact ⟨v, h3, h4⟩

end Go.Ai.Wire

namespace Go.Ai

theorem free_rd_mod {C : Ctx} {x : Nat} {ri mi : List Nat} (h : ∀ y ∈ mi, y ≠ x) : free C (.exp [x] []) (.exp ri mi) = true := by
  simp only [free, disj, Bool.and_eq_true, List.all_eq_true]
  refine ⟨by simp, by simp, fun a ha b hb => ?_⟩
  simp at hb
  subst hb
  exact nbeq (h a ha)
@[simp] theorem aadd_block (a : Addr) (n : Nat) : (aadd a n).block = a.block := rfl
theorem d_app' {C : Ctx} {H : AHeap} {T : Env} {d : Option Nat} {K : Env → AHeap → Prop} {rd : List (Nat × IOper × List Nat)} {log : List Info} {i : Nat} {un : List Nat} {esz bytes g n m : Nat} {s x : IOpd} {cs xs : List Value} (hw : WF H) (hb : Buf H (s.val T.val) g esz n cs) (hx : Row C H (x.val T.val) esz m xs)
    (hs : xs.all scalar = true) (hr : roomy (n + m) bytes = true) (hf : ∀ rd' md, (∀ x ∈ md, x = g) → freeAll C log (.exp rd' md) un = true)
    (hk : ∀ v H' rd' md, Mod g H H' → Buf H' v g esz (n + m) (cs ++ xs) → (∀ x ∈ md, x = g) → (∀ x ∈ rd', x < H.next) → wpD C rd (.exp rd' md :: log) K (putDst T d v) H') (h1e : 1 ≤ esz := by omega) : wpD C ((i, ⟨d, .append esz bytes s x, none⟩, un) :: rd) log K T H := by
  rw [wpD_append]
  obtain ⟨rd0, h1, h2, _⟩ := hx.src
  obtain ⟨v, put, rd', h3, h4, h5, _, h6⟩ := appendA_buf (C := C) (bytes := bytes) (rd := rd0) (nid := H.next) hw hb h1e hx.1 hs hr
  have he : evalOp C H.get T.val H.next (.append esz bytes s x) = some ⟨v, put, none, rd'⟩ := by
    simp only [evalOp, h2, h1]
    exact h3
  rw [he]
  simp only [bindO_some, opKD_eq]
  have hmd : ∀ x ∈ AOut.mods ⟨v, put, none, rd'⟩ H.next, x = g := by
    intro x hx
    cases put with
    | none => simp [AOut.mods] at hx
    | some p =>
      obtain ⟨b, o⟩ := p
      simp [AOut.mods] at hx
      rw [hx]
      exact h6 b o rfl
  rw [hf _ _ hmd]
  exact hk v _ _ _ h5 h4 hmd fun x hx => get_lt hw ((evalOp_local he).there x hx)
theorem bytesEq_dec : ∀ (a b : List UInt8), bytesEq a b = decide (a = b)
  | [], [] => by simp [bytesEq]
  | [], _ :: _ => by simp [bytesEq]
  | _ :: _, [] => by simp [bytesEq]
  | x :: r, y :: s => by
    simp only [bytesEq, bytesEq_dec r s]
    by_cases h : x = y
    · subst h; simp
    · have : Nat.beq x.toNat y.toNat = false := nbeq' fun e => h (UInt8.toNat_inj.1 e)
      simp [this, h]
attribute [-simp] wpO_toStr wpD_toStr
end Go.Ai
namespace Go.Ai.Wire
open Go.Proofs Go.IntWalk

attribute [-simp] wpO_toStr wpD_toStr
attribute [simp] bytesEq_dec

theorem byte_pair {x y : UInt8} {N : Nat} (h : N = x.toNat * 256 + y.toNat) : IntKind.i64.wrap (IntKind.i64.wrap (IntKind.i64.wrap (x.toNat : Int) * 256) + IntKind.i64.wrap (y.toNat : Int)) = (N : Int) := by
  have := x.toNat_lt
  have := y.toNat_lt
  rw [i64_in (x.toNat : Int) (by omega), i64_in (y.toNat : Int) (by omega), i64_in ((x.toNat : Int) * 256) (by omega), i64_in _ (by omega)]
  omega

/-- The string of some bytes. -/
def strV (bs : List UInt8) : Value := .string ⟨bs.toArray⟩

theorem toBytes_u8 : ∀ bs : List UInt8, toBytes (bs.map u8v) = some bs
  | [] => rfl
  | b :: r => by
    show (toBytes (r.map u8v)).map (UInt8.ofNat ((b.toNat : Int)).toNat :: ·) = some (b :: r)
    rw [toBytes_u8 r]
    simp

theorem toStr_spec {C : Ctx} {H : AHeap} {T : Nat → Value} {nid : Nat} {x : IOpd} {v : Value} {bs : List UInt8} (hx : x.val T = v) (hb : Bs C H v bs) : ∃ rd, evalOp C H.get T nid (.toStr x) = some ⟨strV bs, none, none, rd⟩ := by
  obtain ⟨h1, a, c, rfl, h3, h4⟩ := hb
  by_cases h0 : bs = []
  · subst h0
    cases a with
    | none => exact ⟨[], by simp [hx]; rfl⟩
    | some a => exact ⟨[], by simp [hx]; rfl⟩
  · have hl : bs.length ≠ 0 := fun h => h0 (List.length_eq_zero_iff.1 h)
    cases a with
    | none => exact absurd (h3 rfl).1 hl
    | some a =>
      have := h4 a rfl hl
      refine ⟨[a.block], ?_⟩
      simp only [Nat.mul_one] at this
      simp [hx, h0, this, toBytes_u8, strV]

theorem w_toStr {C : Ctx} {H : AHeap} {T : Env} {d : Option Nat} {r : List IOper} {K : Env → AHeap → Prop} {x : IOpd} {bs : List UInt8} (hb : Bs C H (x.val T.val) bs) (hk : wpO C r K (putDst T d (strV bs)) H) : wpO C (⟨d, .toStr x, none⟩ :: r) K T H := by
  obtain ⟨rd, he⟩ := toStr_spec (T := T.val) (nid := H.next) (x := x) rfl hb
  rw [wpO_toStr, he]
  exact hk

theorem refRead_off (w : World) {H : AHeap} (hw : WF H) {v : Value} {bs : List UInt8} (hb : BsS (ctxW w) H v bs) (hlen : bs.length ≤ 500) : wpCall (ctxW w) (.func (.func 58) #[] #[]) [v] H (ReadOff (ctxW w) H bs) := by
  obtain ⟨hb, a, c, rfl, hcap, hslc⟩ := hb
  refine wpCall_fn rfl (get58 w) ?_
  simp [ir58]
  refine w_mk hw fun p H1 hp => ?_
  simp
  have hw1 := hp.same.wf'
  by_cases h8 : bs.length < 8
  · have e1 : (bs.length : Int) < 8 := by omega
    simp [e1]
    refine w_store (p := p) (off := 0) (xs := [.int .i64 0, .int .i64 0, .slice none 0 0]) hp.same.wf' hp.obj (by simp) (by simp) rfl (by simp) (by simp) (by simp) fun H6 hm6 hn6 ho6 => ?_
    have ld6 := fun off n => Obj1.load (C := ctxW w) (off := off) (n := n) ho6
    simp [ld6]
    refine ⟨hp.same.then_mod hm6 (by have := hp.new; omega), ?_⟩
    have : readB bs = none := by unfold readB; rw [if_pos h8]
    rw [this]
    rfl
  · have e1 : ¬ ((bs.length : Int) < 8) := by omega
    obtain ⟨b, rfl⟩ : ∃ b, a = some b := by
      obtain ⟨_, h, _⟩ := hb.at (i := 0) (by omega)
      exact ⟨_, h⟩
    have hb1 := hb.same hp.same
    have hsl1 := (hslc b rfl (by omega)).same hp.same
    have hl : ∀ i (hi : i < bs.length), loadN (ctxW w) H1.get (aadd b i) 1 = some [.int .u8 bs[i].toNat] := fun i hi => by
      obtain ⟨b', he, h⟩ := hb1.at hi
      cases he
      exact h
    have l0 := hl 0 (by omega)
    have l1 := hl 1 (by omega)
    have l2 := hl 2 (by omega)
    have l3 := hl 3 (by omega)
    rw [aadd_zero] at l0
    obtain ⟨n, hn⟩ : ∃ n, n = (bs.getD 0 0).toNat * 256 + (bs.getD 1 0).toNat := ⟨_, rfl⟩
    obtain ⟨g, hg⟩ : ∃ g, g = (bs.getD 2 0).toNat * 256 + (bs.getD 3 0).toNat := ⟨_, rfl⟩
    obtain ⟨d, hd⟩ : ∃ d, d = (bs.drop 6).take (bs.length - 8) := ⟨_, rfl⟩
    have hdl : d.length = bs.length - 8 := by rw [hd]; simp; omega
    have gd : ∀ i (hi : i < bs.length), bs.getD i 0 = bs[i] := fun i hi => by rw [List.getD_eq_getElem?_getD, List.getElem?_eq_getElem hi]; rfl
    have en := byte_pair (x := bs[0]) (y := bs[1]) (N := n) (by rw [hn, gd 0 (by omega), gd 1 (by omega)])
    have eg := byte_pair (x := bs[2]) (y := bs[3]) (N := g) (by rw [hg, gd 2 (by omega), gd 3 (by omega)])
    have e2 : (0 : Int) < bs.length := by omega
    have e3 : (1 : Int) < bs.length := by omega
    have e4 : (2 : Int) < bs.length := by omega
    have e5 : (3 : Int) < bs.length := by omega
    have e6 : IntKind.i64.wrap ((bs.length : Int) - 2) = ((bs.length - 2 : Nat) : Int) := by rw [i64_in _ (by omega)]; omega
    have hbne : bs ≠ [] := by rintro rfl; simp at h8
    have hlb := get_lt hw1 hsl1.ne
    simp [e1, e3, e4, e5, l0, l1, l2, l3, en, eg, hbne, List.length_pos_iff]
    have f1 : Nat.beq H1.next b.block = false := nbeq' (by omega)
    refine d_bs (esz := 1) (cs := []) hw1 (by simp [f1]) (by simp) (by simp) (by simp) fun q H2 hq hbq => ?_
    simp
    have hqb : q ≠ b.block := by have := hq.new; omega
    have f2 : Nat.beq q b.block = false := nbeq' hqb
    refine d_sliceS (k1 := .i64) (k2 := .i64) (a := b) (n := bs.length) (c := c) (l := 6) (h := bs.length - 2) (by simp) (hsl1.same hq.same) (by simp) (by simp [e6]) (by omega) (by omega) (by simp [f2]) ?_
    simp
    have hsub : Bs (ctxW w) H2 (.slice (some (aadd b 6)) (bs.length - 2 - 6) (c - 6)) d := by
      have := Bs.sub (c' := c - 6) (hb1.same hq.same) (l := 6) (h := bs.length - 2) (by omega) (by omega)
      have e : bs.length - 2 - 6 = bs.length - 8 := by omega
      rw [e] at this ⊢
      rw [hd]
      exact this
    refine d_app' (g := q) (n := 0) (m := d.length) (cs := []) (xs := d.map u8v) hq.same.wf' (by simpa using hbq) (by simp; exact hsub) (u8_scalar d) (by simp [roomy]; omega)
      (fun rd' md hmd => by
        have hf := free_rd_mod (C := ctxW w) (ri := rd') (mi := md) (x := b.block) fun y hy => by rw [hmd y hy]; exact hqb
        simp [hf]) fun r2 H3 rd' md hm3 hb3 hmd hrd => ?_
    have hqH : H1.next ≤ q := by have := hq.new; omega
    have hs13 : Same H1 H3 := hq.same.then_mod hm3 hqH
    have hb3r : Bs (ctxW w) H3 r2 d := by
      have := hb3.row (C := ctxW w)
      simpa [Bs] using this
    have hoff2 : Off p r2 := hb3.off (by have := hp.next; omega)
    have hoffA : ∀ b, b < H.next → Off b r2 := fun b hb => hb3.off (by have := hp.same.grow.next; omega)
    obtain ⟨a2, c2, rfl⟩ := hb3r.val
    simp
    have hq3 := hb3.lt hs13.wf'
    have f3 : Nat.beq H3.next b.block = false := nbeq' (by have := hs13.grow.next; omega)
    have f4 : Nat.beq q H3.next = false := nbeq' (by omega)
    have f5 : free (ctxW w) (.exp rd' md) (.exp [] [H3.next]) = true := free_exp_new (fun x hx => by rw [hmd x hx]; omega) fun x hx => by have := hrd x hx; have := hm3.grow.next; omega
    refine d_mk hs13.wf' (by simp [f3, f4, f5]) fun p4 H4 hp4 => ?_
    refine d_store (p := p4) (off := 0) (xs := [.int .i64 n, .int .i64 g, .slice a2 d.length c2]) hp4.same.wf' rfl hp4.obj (by simp) (by simp) rfl (by simp) (by simp) (by simp) fun H5 hm5 hn5 ho5 => ?_
    have hs15 : Same H1 H5 := (hs13.trans hp4.same).then_mod hm5 (by have := hp4.new; have := hs13.grow.next; omega)
    have hb5 : Bs (ctxW w) H5 (.slice a2 d.length c2) d := Row.mod hm5 (hb3r.same hp4.same) (Row.off hs13.wf' hb3r (by have := hp4.new; omega))
    have ld5 := fun off n => Obj1.load (C := ctxW w) (off := off) (n := n) ho5
    simp [ld5]
    refine wpCall_mono (refBytes_spec w hs15.wf' n g hb5) ?_
    rintro r6 H6 ⟨hs6, hcase⟩
    have hread : readB bs = if okP n g d.length = true ∧ enc n g d = bs then some (n, g, d) else none := by
      unfold readB
      rw [if_neg (by omega), hn, hg, hd]
    have hs16 := hs15.trans hs6
    have ho6 := hp.obj.same hs16
    have hsf := hp.same.trans hs16
    have ld6 := fun off n => Obj1.load (C := ctxW w) (off := off) (n := n) (ho5.same hs6)
    have bad : readB bs = none → ∀ H7, Mod p H6 H7 → ReadOff (ctxW w) H bs (.tuple #[pkV 0 0 (.slice none 0 0), .int .i64 4]) H7 := by
      intro hr H7 hm7
      refine ⟨hsf.then_mod hm7 (by have := hp.new; omega), ?_⟩
      rw [hr]
    rcases hcase with ⟨hok, v6, rfl, hb6⟩ | ⟨hok, rfl⟩
    · simp at hb6
      simp
      refine w_toStr (bs := enc n g d) (by simpa using hb6) ?_
      simp
      refine w_toStr (bs := bs) (by simp; exact hb1.same hs16) ?_
      by_cases henc : enc n g d = bs
      · simp [strV, henc, ld6]
        refine w_store (p := p) (off := 0) (xs := [.int .i64 n, .int .i64 g, .slice a2 d.length c2]) hs16.wf' ho6 (by simp) (by simp) rfl (by simp) (by simp) (by simp) fun H7 hm7 hn7 ho7 => ?_
        have ld7 := fun off n => Obj1.load (C := ctxW w) (off := off) (n := n) ho7
        simp [ld7]
        refine ⟨hsf.then_mod hm7 (by have := hp.new; omega), ?_⟩
        rw [hread, if_pos ⟨hok, henc⟩]
        exact ⟨.slice a2 d.length c2, rfl, Row.mod hm7 (hb5.same hs6) hoff2, hoffA⟩
      · simp [strV, henc]
        refine w_store (p := p) (off := 0) (xs := [.int .i64 0, .int .i64 0, .slice none 0 0]) hs16.wf' ho6 (by simp) (by simp) rfl (by simp) (by simp) (by simp) fun H7 hm7 hn7 ho7 => ?_
        have ld7 := fun off n => Obj1.load (C := ctxW w) (off := off) (n := n) ho7
        simp [ld7]
        exact bad (by rw [hread, if_neg (by simp [henc])]) H7 hm7
    · simp
      refine w_store (p := p) (off := 0) (xs := [.int .i64 0, .int .i64 0, .slice none 0 0]) hs16.wf' ho6 (by simp) (by simp) rfl (by simp) (by simp) (by simp) fun H7 hm7 hn7 ho7 => ?_
      have ld7 := fun off n => Obj1.load (C := ctxW w) (off := off) (n := n) ho7
      simp [ld7]
      exact bad (by rw [hread, if_neg (by simp [hok])]) H7 hm7

end Go.Ai.Wire

namespace Go.Ai

theorem wpCall_known {C : Ctx} {k : FuncId} {first cap : Array Value} {args : List Value} {H : AHeap} {v : Value} {K : Value → AHeap → Prop} (hk : C.known k (first.toList ++ (args ++ cap.toList)) H.get = some (v, none)) (h : K v H) : wpCall C (.func (.func k) first cap) args H K := by
  have : (fixO C).call (.func (.func k) first cap) args H = some (v, H) := fix_callA (by unfold callA; dsimp only; rw [hk]; rfl)
  unfold wpCall
  rw [this]
  exact h
end Go.Ai
namespace Go.Ai.Wire
open Go.Proofs Go.IntWalk

attribute [-simp] wpO_toStr wpD_toStr
attribute [simp] bytesEq_dec

theorem Bs.nil (C : Ctx) (H : AHeap) : Bs C H (.slice none 0 0) [] := ⟨rfl, none, 0, rfl, by simp, by simp⟩

theorem awake_spec (w : World) {H : AHeap} : wpCall (ctxW w) (.func (.func 7) #[] #[]) [] H fun r H' => H' = H ∧ r = .bool true := wpCall_known (by rfl) ⟨rfl, rfl⟩

end Go.Ai.Wire
