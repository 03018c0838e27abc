/-
  Beginnings; what a story does next.
  What a story's bytes say.
  A story at work.
-/
import Derived.Test.YtlikgpehalhgkaaQWQ
namespace Go.Ai.Wire
open Go.Proofs Go.IntWalk
attribute [local irreducible] Trie.put

theorem FrC.take {C : Ctx} {H : AHeap} {l : List (List UInt8)} {cs : List Value} (h : FrC C H l cs) : ∀ i, FrC C H (l.take i) (cs.take i) := by
  induction h with
  | nil => intro i; simp; exact .nil
  | cons h1 _ ih =>
    intro i
    cases i with
    | zero => simp; exact .nil
    | succ i =>
      simp only [List.take_succ_cons]
      exact .cons h1 (ih i)

theorem begins_spec (w : World) {H : AHeap} {col : Nat → Nat} {k : Nat} {v u : Value} {l m : List (List UInt8)} (hv : Frs (ctxW w) H v l) (hu : WRow (ctxW w) H col k u m) (hsm : l.length ≤ 1000000) (hsm2 : m.length ≤ 1000000) :
    wpCall (ctxW w) (.func (.func 87) #[] #[]) [v, u] H fun r H' => H' = H ∧ r = .bool (decide (l = m.take l.length)) := by
  obtain ⟨a1, c1, rfl⟩ := hv.val
  obtain ⟨a2, c2, rfl⟩ := hu.val
  refine wpCall_fn rfl (get87 w) ?_
  by_cases hle : l.length ≤ m.length
  · have hle' : (l.length : Int) ≤ m.length := by omega
    obtain ⟨g, cs, k1, k2, k3, k4⟩ := hu
    rcases k1 with ⟨he, hm0, hc0⟩ | hb
    · have hl0 : l.length = 0 := by omega
      have hl : l = [] := List.length_eq_zero_iff.1 hl0
      have hm : m = [] := List.length_eq_zero_iff.1 hm0
      subst hl hm
      cases he
      simp [ir87]
      refine w_sliceNil (by simp) (by simp [bounds, bnd]) ?_
      simp
      refine wpCall_mono (sameFrames_spec w (l := []) (m := []) hv (Frs.nil _ _) (by simp)) ?_
      rintro _ H' ⟨rfl, rfl⟩
      simp
    · obtain ⟨b, c', he, hnc, _⟩ := hb.load (C := ctxW w)
      cases he
      simp [ir87, hle']
      refine w_sliceM (a := b) (n := m.length) (c := c2) (l := 0) (h := l.length) (m := c2) (by simp) hb.slc (bounds_of rfl (bnd_some (k := .i64) (by simp) (by omega)) rfl (by omega)) ?_
      simp
      have hsub := hb.sub (l := 0) (u := l.length) (by omega) hle
      have hf : Frs (ctxW w) H (.slice (some (aadd b (0 * 1))) (l.length - 0) (c2 - 0)) (m.take l.length) := by
        refine ⟨cs.take l.length, k3.take _, ?_⟩
        have := hsub.row (C := ctxW w)
        have e : (m.take l.length).length = l.length := by rw [List.length_take]; omega
        rw [e]
        simpa using this
      simp at hf
      refine wpCall_mono (sameFrames_spec w hv hf hsm) ?_
      rintro _ H' ⟨rfl, rfl⟩
      simp
  · have hle' : ¬ (l.length : Int) ≤ m.length := by omega
    simp [ir87, hle']
    intro h
    have := congrArg List.length h
    rw [List.length_take] at this
    omega
end Go.Ai.Wire

namespace Go.Ai
section
variable {C : Ctx} {H : AHeap} {T : Env} {d : Option Nat} {r : List IOper} {K : Env → AHeap → Prop}

theorem flat_rep {z : Value} : ∀ k : Nat, (List.replicate k [z]).flatten = List.replicate k z
  | 0 => rfl
  | k + 1 => by rw [List.replicate_succ, List.flatten_cons, flat_rep k, List.replicate_succ]; rfl

theorem w_appZB {bytes g m k : Nat} {s n : IOpd} {z : Value} {cs : List Value} (hw : WF H) (hb : Buf H (s.val T.val) g 1 m cs) (hn : n.val T.val = .int .i64 k) (hz : scalar z = true) (hk : k * bytes ≤ 281474976710656 ∧ k < 1099511627776) (hr : roomy (m + k) bytes = true)
    (hc : ∀ v H', Mod g H H' → Buf H' v g 1 (m + k) (cs ++ List.replicate k z) → wpO C r K (putDst T d v) H') : wpO C (⟨d, .appendZ bytes [z] s n, none⟩ :: r) K T H := by
  rw [wpO_appendZ]
  have hsc : (List.replicate k z).all scalar = true := by
    rw [List.all_eq_true]
    intro x hx
    rw [(List.mem_replicate.1 hx).2]
    exact hz
  obtain ⟨v, put, rd', h3, h4, h5, _⟩ := appendA_buf (C := C) (bytes := bytes) (rd := []) (nid := H.next) (m := k) (xs := List.replicate k z) hw hb (by omega) (by simp) hsc hr
  have : evalOp C H.get T.val H.next (.appendZ bytes [z] s n) = some ⟨v, put, none, rd'⟩ := by
    simp only [evalOp, hn]
    rw [if_pos (by omega)]
    simp only [Int.toNat_natCast, flat_rep]
    exact h3
  rw [this]
  exact hc _ _ h5 h4
end
end Go.Ai
namespace Go.Ai.Wire
open Go.Proofs Go.IntWalk
attribute [local irreducible] Trie.put

/-- The act that three bytes say. -/
def actS (fly : List Itm) (sp : Bool) (b0 b1 b2 : UInt8) : ActA :=
  if 0 < fly.length ∧ 6 ≤ b0.toNat % 16 then
    if b0.toNat % 16 = 12 then ⟨4, 0, (b1.toNat % fly.length : Nat), 0, 0, []⟩
    else if b0.toNat % 16 = 13 then ⟨5, 0, (b1.toNat % fly.length : Nat), 0, 0, []⟩
    else if b0.toNat % 16 = 14 ∧ sp = false ∧ 0 < (fly.getD (b1.toNat % fly.length) (0, [])).2.length then
      ⟨6, 0, (b1.toNat % fly.length : Nat), (b2.toNat % (fly.getD (b1.toNat % fly.length) (0, [])).2.length : Nat), (1 + b1.toNat % fly.length * b2.toNat % 255 : Nat), []⟩
    else ⟨3, 0, (b1.toNat % fly.length : Nat), 0, 0, []⟩
  else if b0.toNat % 16 % 3 = 2 then ⟨2, (b1.toNat % 2 : Nat), 0, 0, 0, []⟩
  else ⟨1, (b1.toNat % 2 : Nat), 0, 0, 0, b1 :: List.replicate (b2.toNat % 9) 0⟩

def ActOut (C : Ctx) (H : AHeap) (a : ActA) (r : Value) (H' : AHeap) : Prop := Same H H' ∧ ∃ da dc, r = actV a (.slice da a.data.length dc) ∧ Bs C H' (.slice da a.data.length dc) a.data ∧ ∀ b, da = some b → a.data.length ≠ 0 → H.next ≤ b.block

theorem tmod_nat (x y : Nat) : ((x : Int).tmod (y : Int)) = ((x % y : Nat) : Int) := by
  rw [Int.tmod_eq_emod_of_nonneg (by omega)]
  omega

set_option maxHeartbeats 4000000 in
theorem act_spec (w : World) {H : AHeap} (hw : WF H) {q : Nat} {cs0 : List Value} {fa : Option Addr} {fc : Nat} {fly : List Itm} {c0 c1 c2 c3 : Value} {sp : Bool} (hl0 : cs0.length = 8) (hq : Obj1 H q (cs0 ++ [.slice fa fly.length fc, c0, c1, c2, c3, .bool sp])) (hf : Its (ctxW w) H (.slice fa fly.length fc) fly) (hfl : fly.length ≤ 1000) (hfb : ∀ y ∈ fly, y.2.length ≤ 1000)
    (b0 b1 b2 : UInt8) : wpCall (ctxW w) (.func (.func 38) #[] #[]) [.pointer (some ⟨q, 0, none⟩), .agg #[.int .u8 b0.toNat, .int .u8 b1.toNat, .int .u8 b2.toNat]] H (ActOut (ctxW w) H (actS fly sp b0 b1 b2)) := by
  have hb0 := b0.toNat_lt
  have hb1 := b1.toNat_lt
  have hb2 := b2.toNat_lt
  refine wpCall_fn rfl (get38 w) ?_
  simp [ir38]
  refine w_box (cs := [.int .u8 b0.toNat, .int .u8 b1.toNat, .int .u8 b2.toNat]) hw (by simp) rfl (by simp) fun p H1 hp => ?_
  refine w_mk hp.same.wf' fun t H2 ht => ?_
  have hs2 := hp.same.trans ht.same
  have np := hp.new
  have np' := hp.next
  have nt := ht.new
  have nt' := ht.next
  have ldp2 := fun off n => Obj1.load (C := ctxW w) (off := off) (n := n) (hp.obj.same ht.same)
  obtain ⟨K, hK⟩ : ∃ K : Nat, K = b0.toNat % 16 := ⟨_, rfl⟩
  obtain ⟨Z, hZ⟩ : ∃ Z : Nat, Z = b2.toNat % 9 := ⟨_, rfl⟩
  have hKl : K < 16 := by omega
  have k0 : (b0.toNat : Int).tmod 16 = (K : Int) := by rw [hK]; exact tmod_nat b0.toNat 16
  have k1 : IntKind.i64.wrap (b1.toNat : Int) = (b1.toNat : Int) := i64_in _ (by omega)
  have k2 : IntKind.i64.wrap (b2.toNat : Int) = (b2.toNat : Int) := i64_in _ (by omega)
  have k9 : (b2.toNat : Int).tmod 9 = (Z : Int) := by rw [hZ]; exact tmod_nat b2.toNat 9
  simp [ldp2, k0, k1]
  refine w_bs (esz := 1) (cs := [.int .u8 b1.toNat]) hs2.wf' (by simp) (by simp) (by simp) fun q5 H5 hq5 hb5 => ?_
  have hp5 := (hp.obj.same ht.same).same hq5.same
  have ldp5 := fun off n => Obj1.load (C := ctxW w) (off := off) (n := n) hp5
  have n5 := hq5.new
  have n5' := hq5.next
  simp [ldp5, k2, k9]
  refine w_appZB (g := q5) (m := 1) (k := Z) (cs := [.int .u8 b1.toNat]) hq5.same.wf' (by simpa using hb5) (by simp) rfl (by omega) (by simp [roomy]; omega) fun v6 H6 hm6 hb6 => ?_
  have hs26 : Same H2 H6 := hq5.same.then_mod hm6 (by omega)
  have hs06 := hs2.trans hs26
  have hq6 := hq.same hs06
  have l8 : loadN (ctxW w) H6.get ⟨q, 8, none⟩ 1 = some [.slice fa fly.length fc] := by
    rw [Obj1.load hq6]
    rw [List.drop_append_of_le_length (by omega), List.drop_of_length_le (by omega)]
    simp
  have l13 : loadN (ctxW w) H6.get ⟨q, 13, none⟩ 1 = some [.bool sp] := by
    rw [Obj1.load hq6]
    rw [List.drop_append, hl0, List.drop_of_length_le (by omega)]
    simp
  have hdat : Bs (ctxW w) H6 v6 (b1 :: List.replicate Z 0) := by
    have := hb6.row (C := ctxW w)
    unfold Bs
    have e : (b1 :: List.replicate Z 0).length = 1 + Z := by simp; omega
    rw [e]
    have e2 : (b1 :: List.replicate Z (0 : UInt8)).map u8v = [.int .u8 b1.toNat] ++ List.replicate Z (.int .u8 0) := by
      simp [u8v]
    rw [e2]
    exact this
  obtain ⟨a6, c6, rfl⟩ := hdat.val
  have hdat0 : ∀ b, a6 = some b → (b1 :: List.replicate Z (0 : UInt8)).length ≠ 0 → H.next ≤ b.block := by
    intro b hb _
    subst hb
    obtain ⟨b', c', he, _, hbl, _⟩ := hb6.g.load (C := ctxW w)
    have hbb : b.block = b'.block := by
      have h1 := congrArg (fun v => match v with | Value.slice (some a) _ _ => a.block | _ => 0) he
      exact h1
    omega
  have ht6 := ht.obj.same hs26
  have hp6 := hp5.mod hm6 (by omega)
  have ldp6 := fun off n => Obj1.load (C := ctxW w) (off := off) (n := n) hp6
  simp [l8]
  have fin : ∀ (T : Env) (H7 : AHeap) (a : ActA), a.kind ≠ 1 → a.data = [] → T.val 4 = .pointer (some ⟨t, 0, none⟩) → Same H H7 → Obj1 H7 t (actC a (.slice none 0 0)) → True := fun _ _ _ _ _ _ _ _ => trivial
  by_cases hin : 0 < fly.length ∧ 6 ≤ K
  · obtain ⟨hm, h6⟩ := hin
    obtain ⟨N, hN⟩ : ∃ N : Nat, N = b1.toNat % fly.length := ⟨_, rfl⟩
    have hNl : N < fly.length := by rw [hN]; exact Nat.mod_lt _ hm
    have kN : (b1.toNat : Int).tmod (fly.length : Int) = (N : Int) := by rw [hN]; exact tmod_nat _ _
    have e1 : (0 : Int) < fly.length := by omega
    have e6 : (6 : Int) ≤ K := by omega
    have e0 : ¬ (fly.length : Int) = 0 := by omega
    have e0' : ¬ fly = [] := fun h => by rw [h] at hm; simp at hm
    simp [hm, e6, e0', kN]
    refine w_mk hs06.wf' fun p9 H7 hp9 => ?_
    have n9 := hp9.new
    have n9' := hp9.next
    have n26 := hs26.grow.next
    refine w_store (p := p9) (off := 0) (xs := [.int .u8 3, .int .i64 0, .int .i64 N, .int .i64 0, .int .i64 0, .slice none 0 0]) hp9.same.wf' hp9.obj (by simp) (by simp) rfl (by simp) (by simp) (by simp) fun H8 hm8 hn8 ho8 => ?_
    have hs68 : Same H6 H8 := hp9.same.then_mod hm8 (by omega)
    have hs08 := hs06.trans hs68
    have ht8 := ht6.same hs68
    have n68 := hs68.grow.next
    have n06 := hs06.grow.next
    have htp9 : t ≠ p9 := by omega
    simp at ho8
    by_cases h12 : K = 12
    · have ea : actS fly sp b0 b1 b2 = ⟨4, 0, N, 0, 0, []⟩ := by
        unfold actS
        rw [if_pos ⟨hm, by omega⟩, if_pos (by omega), ← hN]
      rw [ea]
      have e12 : (K : Int) = 12 := by omega
      simp [h12]
      refine w_store (p := p9) (off := 0) (xs := [.int .u8 4]) hs08.wf' ho8 (by simp) (by simp) rfl (by simp) (by simp) (by simp) fun H9 hm9 hn9 ho9 => ?_
      have ld9 := fun off n => Obj1.load (C := ctxW w) (off := off) (n := n) ho9
      simp [ld9]
      refine w_store (p := t) (off := 0) (xs := [.int .u8 4, .int .i64 0, .int .i64 N, .int .i64 0, .int .i64 0, .slice none 0 0]) hm9.wf' (ht8.mod hm9 htp9) (by simp) (by simp) rfl (by simp) (by simp) (by simp) fun H12 hm12 hn12 ho12 => ?_
      have ld12 := fun off n => Obj1.load (C := ctxW w) (off := off) (n := n) ho12
      simp [ld12]
      exact ⟨(hs08.then_mod hm9 (by omega)).then_mod hm12 (by omega), none, 0, rfl, Bs.nil _ _, fun b h => by cases h⟩
    · by_cases h13 : K = 13
      · have ea : actS fly sp b0 b1 b2 = ⟨5, 0, N, 0, 0, []⟩ := by
          unfold actS
          rw [if_pos ⟨hm, by omega⟩, if_neg (by omega), if_pos (by omega), ← hN]
        rw [ea]
        have e12 : ¬ (K : Int) = 12 := by omega
        have e13 : (K : Int) = 13 := by omega
        simp [h13]
        refine w_store (p := p9) (off := 0) (xs := [.int .u8 5]) hs08.wf' ho8 (by simp) (by simp) rfl (by simp) (by simp) (by simp) fun H9 hm9 hn9 ho9 => ?_
        have ld9 := fun off n => Obj1.load (C := ctxW w) (off := off) (n := n) ho9
        simp [ld9]
        refine w_store (p := t) (off := 0) (xs := [.int .u8 5, .int .i64 0, .int .i64 N, .int .i64 0, .int .i64 0, .slice none 0 0]) hm9.wf' (ht8.mod hm9 htp9) (by simp) (by simp) rfl (by simp) (by simp) (by simp) fun H12 hm12 hn12 ho12 => ?_
        have ld12 := fun off n => Obj1.load (C := ctxW w) (off := off) (n := n) ho12
        simp [ld12]
        exact ⟨(hs08.then_mod hm9 (by omega)).then_mod hm12 (by omega), none, 0, rfl, Bs.nil _ _, fun b h => by cases h⟩
      · have e12 : ¬ (K : Int) = 12 := by omega
        have e13 : ¬ (K : Int) = 13 := by omega
        have plainend : ∀ (_ : ¬ (K = 14 ∧ sp = false ∧ 0 < (fly.getD N (0, [])).2.length)), actS fly sp b0 b1 b2 = ⟨3, 0, N, 0, 0, []⟩ := by
          intro hno
          unfold actS
          rw [if_pos ⟨hm, by omega⟩, if_neg (by omega), if_neg (by omega), ← hN, if_neg (by rw [← hK]; exact hno)]
        have hq8 := hq6.same hs68
        obtain ⟨b, ya, yc, rfl, _, m2, _, hy⟩ := (hf.same hs08).at hNl
        have hbl : b.block < H6.next := by
          obtain ⟨b', _, _, hbb, _, m2', _, _⟩ := (hf.same hs06).at hNl
          have hbb : b = b' := Option.some.inj hbb
          rw [hbb]
          show (aadd b' (N * 2 + 1)).block < H6.next
          exact load_lt hs06.wf' m2'
        have l88 := loadN_same hs68 l8
        have l138 := loadN_same hs68 l13
        have hNl' : (N : Int) < fly.length := by omega
        have hgd : fly.getD N (0, []) = fly[N] := by rw [List.getD_eq_getElem?_getD, List.getElem?_eq_getElem hNl]; rfl
        rw [hgd] at plainend
        by_cases h14 : K = 14
        · have e14 : (K : Int) = 14 := by omega
          cases sp with
          | true =>
            rw [plainend (by simp)]
            simp [absent, h14, l138]
            have ld9 := fun off n => Obj1.load (C := ctxW w) (off := off) (n := n) ho8
            simp [ld9]
            refine w_store (p := t) (off := 0) (xs := [.int .u8 3, .int .i64 0, .int .i64 N, .int .i64 0, .int .i64 0, .slice none 0 0]) hs08.wf' ht8 (by simp) (by simp) rfl (by simp) (by simp) (by simp) fun H12 hm12 hn12 ho12 => ?_
            have ld12 := fun off n => Obj1.load (C := ctxW w) (off := off) (n := n) ho12
            simp [ld12]
            exact ⟨hs08.then_mod hm12 (by omega), none, 0, rfl, Bs.nil _ _, fun b h => by cases h⟩
          | false =>
            by_cases hlen : 0 < fly[N].2.length
            · have el : (0 : Int) < fly[N].2.length := by omega
              have hyl := hfb _ (List.getElem_mem hNl)
              obtain ⟨M, hM⟩ : ∃ M : Nat, M = b2.toNat % fly[N].2.length := ⟨_, rfl⟩
              obtain ⟨X, hX⟩ : ∃ X : Nat, X = N * b2.toNat % 255 := ⟨_, rfl⟩
              have kM : (b2.toNat : Int).tmod (fly[N].2.length : Int) = (M : Int) := by rw [hM]; exact tmod_nat _ _
              have hNb : N * b2.toNat ≤ 1000 * 256 := Nat.mul_le_mul (by omega) (by omega)
              have kmul : IntKind.i64.wrap ((N : Int) * (b2.toNat : Int)) = (N : Int) * (b2.toNat : Int) := by
                rw [← Int.natCast_mul]
                exact i64_in _ (by omega)
              have kX : ((N : Int) * (b2.toNat : Int)).tmod 255 = (X : Int) := by rw [hX, ← Int.natCast_mul]; exact tmod_nat _ 255
              have F1 : free (ctxW w) (.exp [p] []) (.exp [p9] [p9]) = true := free_rd_mod fun y hy => by simp at hy; omega
              have F2 : free (ctxW w) (.exp [q] []) (.exp [p9] [p9]) = true := free_rd_mod fun y hy => by simp at hy; have := hq6.lt hs06.wf'; omega
              have F3 : free (ctxW w) (.exp [b.block] []) (.exp [p9] [p9]) = true := free_rd_mod fun y hy => by simp at hy; omega
              have kadd : IntKind.i64.wrap (1 + (X : Int)) = 1 + X := i64_in _ (by omega)
              have ea : actS fly false b0 b1 b2 = ⟨6, 0, N, M, (1 + X : Nat), []⟩ := by
                unfold actS
                rw [if_pos ⟨hm, by omega⟩, if_neg (by omega), if_neg (by omega), ← hN, hgd, if_pos ⟨by omega, rfl, hlen⟩, ← hM, ← hX]
              rw [ea]
              have hp8 := hp6.same hs68
              have ldp8 := fun off n => Obj1.load (C := ctxW w) (off := off) (n := n) hp8
              have e0l : ¬ (fly[N].2.length : Int) = 0 := by omega
              have hqlt := hq6.lt hs06.wf'
              have g1 : Nat.beq p9 p = false := nbeq' (by omega)
              have g2 : Nat.beq p9 q = false := nbeq' (by omega)
              have g3 : Nat.beq p9 b.block = false := nbeq' (by omega)
              have g1' : Nat.beq p p9 = false := nbeq' (by omega)
              have g2' : Nat.beq q p9 = false := nbeq' (by omega)
              have g3' : Nat.beq b.block p9 = false := nbeq' (by omega)
              have hl0' : fly[N].2 ≠ [] := fun h => by rw [h] at hlen; simp at hlen
              simp [h14, l138, l88, hNl', m2, hlen, ldp8, k2, kM, hl0', kmul, kX, kadd]
              refine d_store (p := p9) (off := 0) (xs := [.int .u8 6]) hs08.wf' (by simp [F1, F2, F3]) ho8 (by simp) (by simp) rfl (by simp) (by simp) (by simp) fun H9 hm9 hn9 ho9 => ?_
              simp
              refine d_store (p := p9) (off := 3) (xs := [.int .i64 M]) hm9.wf' (by simp [F1]) ho9 (by simp) (by simp) rfl (by simp) (by simp) (by simp) fun H10 hm10 hn10 ho10 => ?_
              simp
              refine d_store (p := p9) (off := 4) (xs := [.int .i64 (1 + X)]) hm10.wf' rfl ho10 (by simp) (by simp) rfl (by simp) (by simp) (by simp) fun H11 hm11 hn11 ho11 => ?_
              have hs011 := ((hs08.then_mod hm9 (by omega)).then_mod hm10 (by omega)).then_mod hm11 (by omega)
              have ht11 := ((ht8.mod hm9 htp9).mod hm10 htp9).mod hm11 htp9
              have eX : ((1 + X : Nat) : Int) = 1 + X := by omega
              have ld9 := fun off n => Obj1.load (C := ctxW w) (off := off) (n := n) ho11
              simp [ld9]
              refine w_store (p := t) (off := 0) (xs := [.int .u8 6, .int .i64 0, .int .i64 N, .int .i64 M, .int .i64 (1 + X), .slice none 0 0]) hm11.wf' ht11 (by simp) (by simp) rfl (by simp) (by simp) (by simp) fun H12 hm12 hn12 ho12 => ?_
              have ld12 := fun off n => Obj1.load (C := ctxW w) (off := off) (n := n) ho12
              simp [ld12]
              exact ⟨hs011.then_mod hm12 (by omega), none, 0, rfl, Bs.nil _ _, fun b h => by cases h⟩
            · have el : ¬ (0 : Int) < fly[N].2.length := by omega
              rw [plainend (fun h => hlen h.2.2)]
              simp [h14, l138, l88, hNl', m2, hlen]
              have ld9 := fun off n => Obj1.load (C := ctxW w) (off := off) (n := n) ho8
              simp [ld9]
              refine w_store (p := t) (off := 0) (xs := [.int .u8 3, .int .i64 0, .int .i64 N, .int .i64 0, .int .i64 0, .slice none 0 0]) hs08.wf' ht8 (by simp) (by simp) rfl (by simp) (by simp) (by simp) fun H12 hm12 hn12 ho12 => ?_
              have ld12 := fun off n => Obj1.load (C := ctxW w) (off := off) (n := n) ho12
              simp [ld12]
              exact ⟨hs08.then_mod hm12 (by omega), none, 0, rfl, Bs.nil _ _, fun b h => by cases h⟩
        · have e14 : ¬ (K : Int) = 14 := by omega
          rw [plainend (fun h => h14 h.1)]
          simp [absent, e12, e13, e14]
          have ld9 := fun off n => Obj1.load (C := ctxW w) (off := off) (n := n) ho8
          simp [ld9]
          refine w_store (p := t) (off := 0) (xs := [.int .u8 3, .int .i64 0, .int .i64 N, .int .i64 0, .int .i64 0, .slice none 0 0]) hs08.wf' ht8 (by simp) (by simp) rfl (by simp) (by simp) (by simp) fun H12 hm12 hn12 ho12 => ?_
          have ld12 := fun off n => Obj1.load (C := ctxW w) (off := off) (n := n) ho12
          simp [ld12]
          exact ⟨hs08.then_mod hm12 (by omega), none, 0, rfl, Bs.nil _ _, fun b h => by cases h⟩
  · obtain ⟨W, hW⟩ : ∃ W : Nat, W = b1.toNat % 2 := ⟨_, rfl⟩
    have kW : (b1.toNat : Int).tmod 2 = (W : Int) := by rw [hW]; exact tmod_nat _ 2
    have k3 : (K : Int).tmod 3 = ((K % 3 : Nat) : Int) := tmod_nat K 3
    have rest : ∀ (P : Prop), (fly.length = 0 → P) → (0 < fly.length → K < 6 → P) → P := by
      intro P h1 h2
      by_cases h : fly.length = 0
      · exact h1 h
      · exact h2 (by omega) (by omega)
    by_cases hr : K % 3 = 2
    · have ea : actS fly sp b0 b1 b2 = ⟨2, W, 0, 0, 0, []⟩ := by
        unfold actS
        rw [if_neg (by rw [← hK]; exact hin), if_pos (by rw [← hK]; exact hr), ← hW]
      rw [ea]
      have er : ((K % 3 : Nat) : Int) = 2 := by omega
      refine rest _ (fun h0 => ?_) (fun h0 h6 => ?_)
      · have h0' : fly = [] := List.length_eq_zero_iff.1 h0
        simp [absent, h0', k3, hr, kW]
        refine w_store (p := t) (off := 0) (xs := [.int .u8 2, .int .i64 W, .int .i64 0, .int .i64 0, .int .i64 0, .slice none 0 0]) hs06.wf' ht6 (by simp) (by simp) rfl (by simp) (by simp) (by simp) fun H12 hm12 hn12 ho12 => ?_
        have ld12 := fun off n => Obj1.load (C := ctxW w) (off := off) (n := n) ho12
        simp [ld12]
        exact ⟨hs06.then_mod hm12 (by omega), none, 0, rfl, Bs.nil _ _, fun b h => by cases h⟩
      · have e1 : (0 : Int) < fly.length := by omega
        have e6 : ¬ (6 : Int) ≤ K := by omega
        have h6' : ¬ 6 ≤ K := by omega
        simp [h0, e6, k3, hr, kW]
        refine w_store (p := t) (off := 0) (xs := [.int .u8 2, .int .i64 W, .int .i64 0, .int .i64 0, .int .i64 0, .slice none 0 0]) hs06.wf' ht6 (by simp) (by simp) rfl (by simp) (by simp) (by simp) fun H12 hm12 hn12 ho12 => ?_
        have ld12 := fun off n => Obj1.load (C := ctxW w) (off := off) (n := n) ho12
        simp [ld12]
        exact ⟨hs06.then_mod hm12 (by omega), none, 0, rfl, Bs.nil _ _, fun b h => by cases h⟩
    · have ea : actS fly sp b0 b1 b2 = ⟨1, W, 0, 0, 0, b1 :: List.replicate Z 0⟩ := by
        unfold actS
        rw [if_neg (by rw [← hK]; exact hin), if_neg (by rw [← hK]; exact hr), ← hW, ← hZ]
      rw [ea]
      have er : ¬ ((K % 3 : Nat) : Int) = 2 := by omega
      have er2 : ¬ (K : Int) % 3 = 2 := by omega
      refine rest _ (fun h0 => ?_) (fun h0 h6 => ?_)
      · have h0' : fly = [] := List.length_eq_zero_iff.1 h0
        simp [absent, h0', k3, er2, kW]
        refine w_store (p := t) (off := 0) (xs := [.int .u8 1, .int .i64 W, .int .i64 0, .int .i64 0, .int .i64 0, .slice a6 (b1 :: List.replicate Z (0 : UInt8)).length c6]) hs06.wf' ht6 (by simp) (by simp) rfl (by simp) (by simp) (by simp) fun H12 hm12 hn12 ho12 => ?_
        have ld12 := fun off n => Obj1.load (C := ctxW w) (off := off) (n := n) ho12
        simp [ld12]
        refine ⟨hs06.then_mod hm12 (by omega), a6, c6, by simp [actV], ?_, hdat0⟩
        exact Row.mod hm12 hdat (hb6.off (by omega))
      · have e1 : (0 : Int) < fly.length := by omega
        have e6 : ¬ (6 : Int) ≤ K := by omega
        have h6' : ¬ 6 ≤ K := by omega
        simp [h0, e6, k3, er2, kW]
        refine w_store (p := t) (off := 0) (xs := [.int .u8 1, .int .i64 W, .int .i64 0, .int .i64 0, .int .i64 0, .slice a6 (b1 :: List.replicate Z (0 : UInt8)).length c6]) hs06.wf' ht6 (by simp) (by simp) rfl (by simp) (by simp) (by simp) fun H12 hm12 hn12 ho12 => ?_
        have ld12 := fun off n => Obj1.load (C := ctxW w) (off := off) (n := n) ho12
        simp [ld12]
        refine ⟨hs06.then_mod hm12 (by omega), a6, c6, by simp [actV], ?_, hdat0⟩
        exact Row.mod hm12 hdat (hb6.off (by omega))
end Go.Ai.Wire

namespace Go.Ai.Wire
open Go.Proofs Go.IntWalk
attribute [local irreducible] Trie.put

/-- Frames with their numbers that nobody turns. -/
def PIts (C : Ctx) (H : AHeap) (col : Nat → Nat) (v : Value) (l : List Itm) : Prop := ∃ cs, ItC C H l cs ∧ Row C H v 2 l.length cs ∧ Plain col cs ∧ ∀ a n c, v = .slice (some a) n c → n ≠ 0 → col a.block = 0

section
variable {C : Ctx} {H H' : AHeap} {col col' : Nat → Nat} {A : List Nat}
theorem PIts.step (hs : Step A H col H' col') (h0 : 0 ∉ A) {v : Value} {l : List Itm} (h : PIts C H col v l) : PIts C H' col' v l := by
  obtain ⟨cs, h1, h2, h3, h4⟩ := h
  refine ⟨cs, h1.step hs h0 h3, Row.step hs h0 h2 h4, Plain.keep hs h1 h3, fun a n c he hn => ?_⟩
  obtain ⟨_, a', c', he', _, h5⟩ := h2
  rw [he] at he'
  cases he'
  rw [hs.keep _ (load_lt hs.wf (h5 a rfl hn))]
  exact h4 a _ c he hn
theorem PIts.its {v : Value} {l : List Itm} (h : PIts C H col v l) : Its C H v l := let ⟨cs, h1, h2, _⟩ := h; ⟨cs, h1, h2⟩
theorem PIts.val {v : Value} {l : List Itm} (h : PIts C H col v l) : ∃ a c, v = .slice a l.length c := h.its.val
theorem PIts.nil (C : Ctx) (H : AHeap) (col : Nat → Nat) : PIts C H col (.slice none 0 0) [] := ⟨[], .nil, ⟨rfl, none, 0, rfl, by simp, by simp⟩, (fun v h => by cases h), fun a n c h => by cases h⟩

theorem ItsF.plain {lo : Nat} {v : Value} {l : List Itm} (h : ItsF C H lo v l) (hc : ∀ b, lo ≤ b → col b = 0) : PIts C H col v l := by
  obtain ⟨lo', hi, hl, g, cs, k1, k2, k3, k4⟩ := h
  rcases k1 with ⟨rfl, hn, rfl⟩ | ⟨hn, hb⟩
  · have : l = [] := List.length_eq_zero_iff.1 hn
    subst this
    exact PIts.nil C H col
  · refine ⟨cs, k3, hb.row, fun u hu a n c he hm => hc _ ?_, fun a n c he hm => hc _ ?_⟩
    · have := k4 u hu a n c he hm; omega
    · obtain ⟨a', he', hbl, _⟩ := hb.load (C := C)
      rw [he] at he'
      cases he'
      have := k2 (fun h => hn (by rw [h]; rfl))
      omega

/-- A line's cells that nobody turns. -/
structure PLine (C : Ctx) (H : AHeap) (col : Nat → Nat) (x : LineA) (o0 e0 o1 e1 f : Value) : Prop where
  i0 : PIts C H col o0 x.a.opens
  i1 : PIts C H col e0 x.a.early
  i2 : PIts C H col o1 x.b.opens
  i3 : PIts C H col e1 x.b.early
  i4 : PIts C H col f x.fly

theorem PLine.step (hs : Step A H col H' col') (h0 : 0 ∉ A) {x : LineA} {o0 e0 o1 e1 f : Value} (h : PLine C H col x o0 e0 o1 e1 f) : PLine C H' col' x o0 e0 o1 e1 f :=
  ⟨h.i0.step hs h0, h.i1.step hs h0, h.i2.step hs h0, h.i3.step hs h0, h.i4.step hs h0⟩
theorem PLine.r {x : LineA} {o0 e0 o1 e1 f : Value} (h : PLine C H col x o0 e0 o1 e1 f) : LineR C H x (lineV x.a.last o0 x.a.got e0 x.b.last o1 x.b.got e1 f) :=
  ⟨_, _, _, _, _, rfl, h.i0.its, h.i1.its, h.i2.its, h.i3.its, h.i4.its⟩
end

/-- A story: the line, what was said, what was handed on, and whether a packet was spoilt. -/
structure StoryA where
  x : LineA
  s0 : List (List UInt8)
  s1 : List (List UInt8)
  h0 : List (List UInt8)
  h1 : List (List UInt8)
  sp : Bool

def storyCells (y : StoryA) (o0 e0 o1 e1 f sv0 sv1 hv0 hv1 : Value) : List Value :=
  [.int .i64 y.x.a.last, o0, .int .i64 y.x.a.got, e0, .int .i64 y.x.b.last, o1, .int .i64 y.x.b.got, e1, f, sv0, sv1, hv0, hv1, .bool y.sp]

structure SW (C : Ctx) (H : AHeap) (col : Nat → Nat) (q : Nat) (o0 e0 o1 e1 f sv0 sv1 hv0 hv1 : Value) (y : StoryA) : Prop where
  obj : Obj1 H q (storyCells y o0 e0 o1 e1 f sv0 sv1 hv0 hv1)
  c1 : col q = 1
  ln : PLine C H col y.x o0 e0 o1 e1 f
  r0 : WRow C H col 2 sv0 y.s0
  r1 : WRow C H col 3 sv1 y.s1
  r2 : WRow C H col 4 hv0 y.h0
  r3 : WRow C H col 5 hv1 y.h1

def SWork (C : Ctx) (H : AHeap) (col : Nat → Nat) (q : Nat) (y : StoryA) : Prop := ∃ o0 e0 o1 e1 f sv0 sv1 hv0 hv1, SW C H col q o0 e0 o1 e1 f sv0 sv1 hv0 hv1 y

theorem SW.step {C : Ctx} {H H' : AHeap} {col col' : Nat → Nat} {A : List Nat} {q : Nat} {o0 e0 o1 e1 f sv0 sv1 hv0 hv1 : Value} {y : StoryA} (hs : Step A H col H' col') (hA : ∀ c ∈ A, 5 < c) (h : SW C H col q o0 e0 o1 e1 f sv0 sv1 hv0 hv1 y) : SW C H' col' q o0 e0 o1 e1 f sv0 sv1 hv0 hv1 y := by
  have no : ∀ c, c ≤ 5 → c ∉ A := fun c hc h => by have := hA c h; omega
  exact ⟨Obj1.step hs h.obj (by rw [h.c1]; exact no 1 (by omega)), by rw [hs.keep q (h.obj.lt hs.wf)]; exact h.c1, h.ln.step hs (no 0 (by omega)), h.r0.step hs (no 0 (by omega)) (no 2 (by omega)), h.r1.step hs (no 0 (by omega)) (no 3 (by omega)), h.r2.step hs (no 0 (by omega)) (no 4 (by omega)), h.r3.step hs (no 0 (by omega)) (no 5 (by omega))⟩

/-- The story behind an act. -/
noncomputable def goS (y : StoryA) (a : ActA) : StoryA :=
  if (doF y.x a).2.2 = 0 then
    ⟨(doF y.x a).1, if a.kind = 1 ∧ a.who = 0 then y.s0 ++ [a.data] else y.s0, if a.kind = 1 ∧ a.who ≠ 0 then y.s1 ++ [a.data] else y.s1,
      if hearsA y.x.fly a = 0 then y.h0 ++ (doF y.x a).2.1 else y.h0, if hearsA y.x.fly a ≠ 0 then y.h1 ++ (doF y.x a).2.1 else y.h1, y.sp || decide (a.kind = 6)⟩
  else y

def endX (x : LineA) (t : Int) : EndA := if t = 0 then x.a else x.b

/-- What the story's test wants of an act. -/
def StepOK (y : StoryA) (a : ActA) : Prop :=
  ((doF y.x a).2.2 = 0 ∧ (y.x.a.last ≤ (doF y.x a).1.a.last ∧ y.x.a.got ≤ (doF y.x a).1.a.got ∧ y.x.b.last ≤ (doF y.x a).1.b.last ∧ y.x.b.got ≤ (doF y.x a).1.b.got) ∧ LineOK (doF y.x a).1 ∧
    (goS y a).h0 = (goS y a).s1.take (goS y a).h0.length ∧ (goS y a).h1 = (goS y a).s0.take (goS y a).h1.length) ∨
  ((doF y.x a).2.2 = 8 ∧ a.kind = 1 ∧ (endX y.x a.who).opens.length = 8)

def byteV (b0 b1 b2 : UInt8) : Value := .agg #[.int .u8 b0.toNat, .int .u8 b1.toNat, .int .u8 b2.toNat]

/-- What is wanted of a story's sizes. -/
def SmallS (y : StoryA) : Prop := LineOK y.x ∧ y.s0.length ≤ 1000 ∧ y.s1.length ≤ 1000 ∧ y.h0.length ≤ 1000 ∧ y.h1.length ≤ 1000
end Go.Ai.Wire
