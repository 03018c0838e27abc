/-
  A packet is read from bytes, by the reference.
-/
import Derived.Test.YtlikgpehalhgkaaW6
namespace Go.Ai

theorem free_rd_mod {C : Ctx} {x : Nat} {ri mi : List Nat} (h : ∀ y ∈ mi, y ≠ x) : free C (.exp [x] []) (.exp ri mi) = true := by
  simp only [free, disj, Bool.and_eq_true, List.all_eq_true]
  refine ⟨by simp, by simp, fun a ha b hb => ?_⟩
  simp at hb
  subst hb
  exact nbeq (h a ha)
@[simp] theorem aadd_block (a : Addr) (n : Nat) : (aadd a n).block = a.block := rfl
theorem d_app' {C : Ctx} {H : AHeap} {T : Env} {d : Option Nat} {K : Env → AHeap → Prop} {rd : List (Nat × IOper × List Nat)} {log : List Info} {i : Nat} {un : List Nat} {esz bytes g n m : Nat} {s x : IOpd} {cs xs : List Value} (hw : WF H) (hb : Buf H (s.val T.val) g esz n cs) (hx : Row C H (x.val T.val) esz m xs)
    (hs : xs.all scalar = true) (hr : roomy (n + m) bytes = true) (hf : ∀ rd' md, (∀ x ∈ md, x = g) → freeAll C log (.exp rd' md) un = true)
    (hk : ∀ v H' rd' md, Mod g H H' → Buf H' v g esz (n + m) (cs ++ xs) → (∀ x ∈ md, x = g) → (∀ x ∈ rd', x < H.next) → wpD C rd (.exp rd' md :: log) K (putDst T d v) H') : wpD C ((i, ⟨d, .append esz bytes s x, none⟩, un) :: rd) log K T H := by
  rw [wpD_append]
  obtain ⟨rd0, h1, h2, _⟩ := hx.src
  obtain ⟨v, put, rd', h3, h4, h5, _, h6⟩ := appendA_buf (C := C) (bytes := bytes) (rd := rd0) (nid := H.next) hw hb hx.1 hs hr
  have he : evalOp C H.get T.val H.next (.append esz bytes s x) = some ⟨v, put, none, rd'⟩ := by
    simp only [evalOp, h2, h1]
    exact h3
  rw [he]
  simp only [bindO_some, opKD_eq]
  have hmd : ∀ x ∈ AOut.mods ⟨v, put, none, rd'⟩ H.next, x = g := by
    intro x hx
    cases put with
    | none => simp [AOut.mods] at hx
    | some p =>
      obtain ⟨b, o⟩ := p
      simp [AOut.mods] at hx
      rw [hx]
      exact h6 b o rfl
  rw [hf _ _ hmd]
  exact hk v _ _ _ h5 h4 hmd fun x hx => get_lt hw ((evalOp_local he).there x hx)
theorem bytesEq_dec : ∀ (a b : List UInt8), bytesEq a b = decide (a = b)
  | [], [] => by simp [bytesEq]
  | [], _ :: _ => by simp [bytesEq]
  | _ :: _, [] => by simp [bytesEq]
  | x :: r, y :: s => by
    simp only [bytesEq, bytesEq_dec r s]
    by_cases h : x = y
    · subst h; simp
    · have : Nat.beq x.toNat y.toNat = false := nbeq' fun e => h (UInt8.toNat_inj.1 e)
      simp [this, h]
attribute [-simp] wpO_toStr wpD_toStr
end Go.Ai
namespace Go.Ai.Wire
open Go.Proofs Go.IntWalk

attribute [-simp] wpO_toStr wpD_toStr
attribute [simp] bytesEq_dec

theorem byte_pair {x y : UInt8} {N : Nat} (h : N = x.toNat * 256 + y.toNat) : IntKind.i64.wrap (IntKind.i64.wrap (IntKind.i64.wrap (x.toNat : Int) * 256) + IntKind.i64.wrap (y.toNat : Int)) = (N : Int) := by
  have := x.toNat_lt
  have := y.toNat_lt
  rw [i64_in (x.toNat : Int) (by omega), i64_in (y.toNat : Int) (by omega), i64_in ((x.toNat : Int) * 256) (by omega), i64_in _ (by omega)]
  omega

/-- The string of some bytes. -/
def strV (bs : List UInt8) : Value := .string ⟨bs.toArray⟩

theorem toBytes_u8 : ∀ bs : List UInt8, toBytes (bs.map u8v) = some bs
  | [] => rfl
  | b :: r => by
    show (toBytes (r.map u8v)).map (UInt8.ofNat ((b.toNat : Int)).toNat :: ·) = some (b :: r)
    rw [toBytes_u8 r]
    simp

theorem toStr_spec {C : Ctx} {H : AHeap} {T : Nat → Value} {nid : Nat} {x : IOpd} {v : Value} {bs : List UInt8} (hx : x.val T = v) (hb : Bs C H v bs) : ∃ rd, evalOp C H.get T nid (.toStr x) = some ⟨strV bs, none, none, rd⟩ := by
  obtain ⟨h1, a, c, rfl, h3, h4⟩ := hb
  by_cases h0 : bs = []
  · subst h0
    cases a with
    | none => exact ⟨[], by simp [hx]; rfl⟩
    | some a => exact ⟨[], by simp [hx]; rfl⟩
  · have hl : bs.length ≠ 0 := fun h => h0 (List.length_eq_zero_iff.1 h)
    cases a with
    | none => exact absurd (h3 rfl).1 hl
    | some a =>
      have := h4 a rfl hl
      refine ⟨[a.block], ?_⟩
      simp only [Nat.mul_one] at this
      simp [hx, h0, this, toBytes_u8, strV]

theorem w_toStr {C : Ctx} {H : AHeap} {T : Env} {d : Option Nat} {r : List IOper} {K : Env → AHeap → Prop} {x : IOpd} {bs : List UInt8} (hb : Bs C H (x.val T.val) bs) (hk : wpO C r K (putDst T d (strV bs)) H) : wpO C (⟨d, .toStr x, none⟩ :: r) K T H := by
  obtain ⟨rd, he⟩ := toStr_spec (T := T.val) (nid := H.next) (x := x) rfl hb
  rw [wpO_toStr, he]
  exact hk

theorem refRead_spec (w : World) {H : AHeap} (hw : WF H) {v : Value} {bs : List UInt8} (hb : BsS (ctxW w) H v bs) (hlen : bs.length ≤ 500) : wpCall (ctxW w) (.func (.func 17) #[] #[]) [v] H (ReadOut (ctxW w) H bs) := by
  obtain ⟨hb, a, c, rfl, hcap, hslc⟩ := hb
  refine wpCall_fn rfl (get17 w) ?_
  simp [ir17]
  refine w_mk hw fun p H1 hp => ?_
  simp
  have hw1 := hp.same.wf'
  by_cases h8 : bs.length < 8
  · have e1 : (bs.length : Int) < 8 := by omega
    simp [e1]
    refine w_store (p := p) (off := 0) (xs := [.int .i64 0, .int .i64 0, .slice none 0 0]) hp.same.wf' hp.obj (by simp) (by simp) rfl (by simp) (by simp) (by simp) fun H6 hm6 hn6 ho6 => ?_
    have ld6 := fun off n => Obj1.load (C := ctxW w) (off := off) (n := n) ho6
    simp [ld6]
    refine ⟨hp.same.then_mod hm6 (by have := hp.new; omega), ?_⟩
    have : readB bs = none := by unfold readB; rw [if_pos h8]
    rw [this]
    rfl
  · have e1 : ¬ ((bs.length : Int) < 8) := by omega
    obtain ⟨b, rfl⟩ : ∃ b, a = some b := by
      obtain ⟨_, h, _⟩ := hb.at (i := 0) (by omega)
      exact ⟨_, h⟩
    have hb1 := hb.same hp.same
    have hsl1 := (hslc b rfl (by omega)).same hp.same
    have hl : ∀ i (hi : i < bs.length), loadN (ctxW w) H1.get (aadd b i) 1 = some [.int .u8 bs[i].toNat] := fun i hi => by
      obtain ⟨b', he, h⟩ := hb1.at hi
      cases he
      exact h
    have l0 := hl 0 (by omega)
    have l1 := hl 1 (by omega)
    have l2 := hl 2 (by omega)
    have l3 := hl 3 (by omega)
    rw [aadd_zero] at l0
    obtain ⟨n, hn⟩ : ∃ n, n = (bs.getD 0 0).toNat * 256 + (bs.getD 1 0).toNat := ⟨_, rfl⟩
    obtain ⟨g, hg⟩ : ∃ g, g = (bs.getD 2 0).toNat * 256 + (bs.getD 3 0).toNat := ⟨_, rfl⟩
    obtain ⟨d, hd⟩ : ∃ d, d = (bs.drop 6).take (bs.length - 8) := ⟨_, rfl⟩
    have hdl : d.length = bs.length - 8 := by rw [hd]; simp; omega
    have gd : ∀ i (hi : i < bs.length), bs.getD i 0 = bs[i] := fun i hi => by rw [List.getD_eq_getElem?_getD, List.getElem?_eq_getElem hi]; rfl
    have en := byte_pair (x := bs[0]) (y := bs[1]) (N := n) (by rw [hn, gd 0 (by omega), gd 1 (by omega)])
    have eg := byte_pair (x := bs[2]) (y := bs[3]) (N := g) (by rw [hg, gd 2 (by omega), gd 3 (by omega)])
    have e2 : (0 : Int) < bs.length := by omega
    have e3 : (1 : Int) < bs.length := by omega
    have e4 : (2 : Int) < bs.length := by omega
    have e5 : (3 : Int) < bs.length := by omega
    have e6 : IntKind.i64.wrap ((bs.length : Int) - 2) = ((bs.length - 2 : Nat) : Int) := by rw [i64_in _ (by omega)]; omega
    have hbne : bs ≠ [] := by rintro rfl; simp at h8
    have hlb := get_lt hw1 hsl1.ne
    simp [e1, e2, e3, e4, e5, l0, l1, l2, l3, en, eg, hbne, List.length_pos_iff]
    have f1 : Nat.beq H1.next b.block = false := nbeq' (by omega)
    refine d_bs (esz := 1) (cs := []) hw1 (by simp [f1]) (by simp) (by simp) (by simp) fun q H2 hq hbq => ?_
    simp
    have hqb : q ≠ b.block := by have := hq.new; omega
    have f2 : Nat.beq q b.block = false := nbeq' hqb
    refine d_sliceS (k1 := .i64) (k2 := .i64) (a := b) (n := bs.length) (c := c) (l := 6) (h := bs.length - 2) (by simp) (hsl1.same hq.same) (by simp) (by simp [e6]) (by omega) (by omega) (by simp [f2]) ?_
    simp
    have hsub : Bs (ctxW w) H2 (.slice (some (aadd b 6)) (bs.length - 2 - 6) (c - 6)) d := by
      have := Bs.sub (c' := c - 6) (hb1.same hq.same) (l := 6) (h := bs.length - 2) (by omega) (by omega)
      have e : bs.length - 2 - 6 = bs.length - 8 := by omega
      rw [e] at this ⊢
      rw [hd]
      exact this
    refine d_app' (g := q) (n := 0) (m := d.length) (cs := []) (xs := d.map u8v) hq.same.wf' (by simpa using hbq) (by simp; exact hsub) (u8_scalar d) (by simp [roomy]; omega)
      (fun rd' md hmd => by
        have hf := free_rd_mod (C := ctxW w) (ri := rd') (mi := md) (x := b.block) fun y hy => by rw [hmd y hy]; exact hqb
        simp [hf]) fun r2 H3 rd' md hm3 hb3 hmd hrd => ?_
    have hqH : H1.next ≤ q := by have := hq.new; omega
    have hs13 : Same H1 H3 := hq.same.then_mod hm3 hqH
    have hb3r : Bs (ctxW w) H3 r2 d := by
      have := hb3.row (C := ctxW w)
      simpa [Bs] using this
    have hoff2 : Off p r2 := hb3.off (by have := hp.next; omega)
    obtain ⟨a2, c2, rfl⟩ := hb3r.val
    simp
    have hq3 := hb3.lt hs13.wf'
    have f3 : Nat.beq H3.next b.block = false := nbeq' (by have := hs13.grow.next; omega)
    have f4 : Nat.beq q H3.next = false := nbeq' (by omega)
    have f5 : free (ctxW w) (.exp rd' md) (.exp [] [H3.next]) = true := free_exp_new (fun x hx => by rw [hmd x hx]; omega) fun x hx => by have := hrd x hx; have := hm3.grow.next; omega
    refine d_mk hs13.wf' (by simp [f3, f4, f5]) fun p4 H4 hp4 => ?_
    refine d_store (p := p4) (off := 0) (xs := [.int .i64 n, .int .i64 g, .slice a2 d.length c2]) hp4.same.wf' rfl hp4.obj (by simp) (by simp) rfl (by simp) (by simp) (by simp) fun H5 hm5 hn5 ho5 => ?_
    have hs15 : Same H1 H5 := (hs13.trans hp4.same).then_mod hm5 (by have := hp4.new; have := hs13.grow.next; omega)
    have hb5 : Bs (ctxW w) H5 (.slice a2 d.length c2) d := Row.mod hm5 (hb3r.same hp4.same) (Row.off hs13.wf' hb3r (by have := hp4.new; omega))
    have ld5 := fun off n => Obj1.load (C := ctxW w) (off := off) (n := n) ho5
    simp [ld5]
    refine wpCall_mono (refBytes_spec w hs15.wf' n g hb5) ?_
    rintro r6 H6 ⟨hs6, hcase⟩
    have hread : readB bs = if okP n g d.length = true ∧ enc n g d = bs then some (n, g, d) else none := by
      unfold readB
      rw [if_neg (by omega), hn, hg, hd]
    have hs16 := hs15.trans hs6
    have ho6 := hp.obj.same hs16
    have hsf := hp.same.trans hs16
    have ld6 := fun off n => Obj1.load (C := ctxW w) (off := off) (n := n) (ho5.same hs6)
    have bad : readB bs = none → ∀ H7, Mod p H6 H7 → ReadOut (ctxW w) H bs (.tuple #[pkV 0 0 (.slice none 0 0), .int .i64 4]) H7 := by
      intro hr H7 hm7
      refine ⟨hsf.then_mod hm7 (by have := hp.new; omega), ?_⟩
      rw [hr]
    rcases hcase with ⟨hok, v6, rfl, hb6⟩ | ⟨hok, rfl⟩
    · simp at hb6
      simp
      refine w_toStr (bs := enc n g d) (by simpa using hb6) ?_
      simp
      refine w_toStr (bs := bs) (by simp; exact hb1.same hs16) ?_
      by_cases henc : enc n g d = bs
      · simp [strV, henc, ld6]
        refine w_store (p := p) (off := 0) (xs := [.int .i64 n, .int .i64 g, .slice a2 d.length c2]) hs16.wf' ho6 (by simp) (by simp) rfl (by simp) (by simp) (by simp) fun H7 hm7 hn7 ho7 => ?_
        have ld7 := fun off n => Obj1.load (C := ctxW w) (off := off) (n := n) ho7
        simp [ld7]
        refine ⟨hsf.then_mod hm7 (by have := hp.new; omega), ?_⟩
        rw [hread, if_pos ⟨hok, henc⟩]
        exact ⟨.slice a2 d.length c2, rfl, Row.mod hm7 (hb5.same hs6) hoff2⟩
      · simp [strV, henc]
        refine w_store (p := p) (off := 0) (xs := [.int .i64 0, .int .i64 0, .slice none 0 0]) hs16.wf' ho6 (by simp) (by simp) rfl (by simp) (by simp) (by simp) fun H7 hm7 hn7 ho7 => ?_
        have ld7 := fun off n => Obj1.load (C := ctxW w) (off := off) (n := n) ho7
        simp [ld7]
        exact bad (by rw [hread, if_neg (by simp [henc])]) H7 hm7
    · simp
      refine w_store (p := p) (off := 0) (xs := [.int .i64 0, .int .i64 0, .slice none 0 0]) hs16.wf' ho6 (by simp) (by simp) rfl (by simp) (by simp) (by simp) fun H7 hm7 hn7 ho7 => ?_
      have ld7 := fun off n => Obj1.load (C := ctxW w) (off := off) (n := n) ho7
      simp [ld7]
      exact bad (by rw [hread, if_neg (by simp [hok])]) H7 hm7
end Go.Ai.Wire
