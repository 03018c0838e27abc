/-
  'Send' of the reference.
  'Again' of the reference; comparisons.
-/
import Derived.Test.YtlikgpehalhgkaaQWG
namespace Go.Ai.Wire
open Go.Proofs Go.IntWalk
attribute [local irreducible] Trie.put

end Go.Ai.Wire

namespace Go.Ai.Wire
open Go.Proofs Go.IntWalk
attribute [local irreducible] Trie.put
attribute [-simp] wpO_toStr wpD_toStr
attribute [simp] bytesEq_dec

theorem FrN.nb {C : Ctx} {H : AHeap} {lo : Nat} {v : Value} {l : List (List UInt8)} (hw : WF H) (h : FrN C H lo v l) (q : Nat) : ∃ g cs, NB H v g 1 l.length cs ∧ (l ≠ [] → lo ≤ g ∧ g < H.next) ∧ FrC C H l cs ∧ (∀ u ∈ cs, ∀ a n c, u = .slice (some a) n c → n ≠ 0 → lo ≤ a.block ∧ a.block ≠ g ∧ a.block < H.next) ∧ (l = [] → g ≠ q) := by
  obtain ⟨g, cs, k1, k3, k4⟩ := h
  have klt := FrC.lt hw k3
  rcases k1 with ⟨e1, e2⟩ | ⟨e1, e2, e3⟩
  · subst e2
    cases k3
    exact ⟨q + 1, [], .inl ⟨e1, rfl, rfl⟩, fun h => absurd rfl h, .nil, (fun u hu => by cases hu), fun _ => by omega⟩
  · exact ⟨g, cs, .inr ⟨fun h => e1 (List.length_eq_zero_iff.1 h), e3⟩, fun _ => ⟨e2, e3.lt hw⟩, k3, fun u hu a n c he hn => ⟨(k4 u hu a n c he hn).1, (k4 u hu a n c he hn).2, klt u hu a n c he hn⟩, fun h => absurd h e1⟩

/-! ### comparisons -/
theorem d_toStr {C : Ctx} {H : AHeap} {T : Env} {d : Option Nat} {K : Env → AHeap → Prop} {rd : List (Nat × IOper × List Nat)} {log : List Info} {i : Nat} {un : List Nat} {x : IOpd} {bs : List UInt8} (hb : Bs C H (x.val T.val) bs) (hf : ∀ r, freeAll C log (.exp r []) un = true)
    (hk : ∀ r, wpD C rd (.exp r [] :: log) K (putDst T d (strV bs)) H) : wpD C ((i, ⟨d, .toStr x, none⟩, un) :: rd) log K T H := by
  obtain ⟨r, he⟩ := toStr_spec (T := T.val) (nid := H.next) (x := x) rfl hb
  rw [wpD_toStr, he]
  simp only [bindO_some, opKD_eq, AOut.mods, List.append_nil]
  rw [hf]
  exact hk r

theorem sameFrames_spec (w : World) {H : AHeap} {v u : Value} {l m : List (List UInt8)} (hv : Frs (ctxW w) H v l) (hu : Frs (ctxW w) H u m) (hsm : l.length ≤ 1000000) : wpCall (ctxW w) (.func (.func 31) #[] #[]) [v, u] H fun r H' => H' = H ∧ r = .bool (decide (l = m)) := by
  obtain ⟨a1, c1, rfl⟩ := hv.val
  obtain ⟨a2, c2, rfl⟩ := hu.val
  refine wpCall_fn rfl (get31 w) ?_
  by_cases hl : l.length = m.length
  · have hl' : (l.length : Int) = m.length := by omega
    simp [ir31, hl']
    refine wp_loop' (fun n s => ∃ (T : Env) (i : Nat), s = ⟨T, H, []⟩ ∧ n = l.length - i ∧ i ≤ l.length ∧ T.val 0 = .slice a1 l.length c1 ∧ T.val 1 = .slice a2 m.length c2 ∧ T.val 5 = .int .i64 i ∧ l.take i = m.take i) (n := l.length)
      ⟨_, 0, rfl, rfl, Nat.zero_le _, by simp, by simp, by simp, by simp⟩ ?_
    rintro n s K ⟨T, i, rfl, rfl, hi, t0, t1, t5, heq⟩ hnext hexit
    by_cases hlt : i < l.length
    · obtain ⟨b, da, dc, rfl, m1, hd⟩ := hv.at hlt
      obtain ⟨b2, db, dc2, rfl, m2, hd2⟩ := hu.at (i := i) (by omega)
      have e3 : (i : Int) < l.length := by omega
      have e4 : (i : Int) < m.length := by omega
      simp [t0, t5, e3, m1]
      refine d_toStr (bs := l[i]) (by simp; exact hd) (by simp) fun r1 => ?_
      simp [t1, t5, e4, m2]
      refine d_toStr (bs := m[i]) (by simp; exact hd2) (by simp) fun r2 => ?_
      by_cases hab : l[i] = m[i]
      · simp [strV, hab, t5]
        refine hnext (l.length - (i + 1)) _ (by omega) ⟨_, i + 1, rfl, rfl, by omega, by simp [t0], by simp [t1], by simp; rw [i64_in _ (by omega)], ?_⟩
        rw [List.take_succ_eq_append_getElem hlt, List.take_succ_eq_append_getElem (by omega), heq, hab]
      · simp [strV, hab]
        refine hexit _ _ (by simp) ?_
        have : l ≠ m := by
          rintro rfl
          exact hab rfl
        simp [this]
    · have : i = l.length := by omega
      subst this
      simp [t0, t5]
      refine hexit _ _ (by simp) ?_
      rw [List.take_length, hl, List.take_length] at heq
      simp [heq]
  · have hl' : ¬ ((l.length : Int) = m.length) := by omega
    simp [ir31, hl']
    rintro rfl
    exact hl rfl

theorem sameItems_spec (w : World) {H : AHeap} {v u : Value} {l m : List Itm} (hv : Its (ctxW w) H v l) (hu : Its (ctxW w) H u m) (hsm : l.length ≤ 1000000) : wpCall (ctxW w) (.func (.func 60) #[] #[]) [v, u] H fun r H' => H' = H ∧ r = .bool (decide (l = m)) := by
  obtain ⟨a1, c1, rfl⟩ := hv.val
  obtain ⟨a2, c2, rfl⟩ := hu.val
  refine wpCall_fn rfl (get60 w) ?_
  by_cases hl : l.length = m.length
  · have hl' : (l.length : Int) = m.length := by omega
    simp [ir60, hl']
    refine wp_loop' (fun n s => ∃ (T : Env) (i : Nat), s = ⟨T, H, []⟩ ∧ n = l.length - i ∧ i ≤ l.length ∧ T.val 0 = .slice a1 l.length c1 ∧ T.val 1 = .slice a2 m.length c2 ∧ T.val 5 = .int .i64 i ∧ l.take i = m.take i) (n := l.length)
      ⟨_, 0, rfl, rfl, Nat.zero_le _, by simp, by simp, by simp, by simp⟩ ?_
    rintro n s K ⟨T, i, rfl, rfl, hi, t0, t1, t5, heq⟩ hnext hexit
    by_cases hlt : i < l.length
    · obtain ⟨b, da, dc, rfl, m1, m2, _, hd⟩ := hv.at hlt
      obtain ⟨b2, db, dc2, rfl, m3, m4, _, hd2⟩ := hu.at (i := i) (by omega)
      have e3 : (i : Int) < l.length := by omega
      have e4 : (i : Int) < m.length := by omega
      simp [t0, t1, t5, e3, e4, m1, m3]
      by_cases hn : l[i].1 = m[i].1
      · simp [hn, t0, t5, e3, m2]
        refine d_toStr (bs := l[i].2) (by simp; exact hd) (by simp) fun r1 => ?_
        simp [t1, t5, e4, m4]
        refine d_toStr (bs := m[i].2) (by simp; exact hd2) (by simp) fun r2 => ?_
        by_cases hab : l[i].2 = m[i].2
        · simp [strV, hab, t5]
          refine hnext (l.length - (i + 1)) _ (by omega) ⟨_, i + 1, rfl, rfl, by omega, by simp [t0], by simp [t1], by simp; rw [i64_in _ (by omega)], ?_⟩
          rw [List.take_succ_eq_append_getElem hlt, List.take_succ_eq_append_getElem (by omega), heq, show l[i] = m[i] from Prod.ext hn hab]
        · simp [strV, hab]
          refine hexit _ _ (by simp) ?_
          have : l ≠ m := by
            rintro rfl
            exact hab rfl
          simp [this]
      · simp [hn]
        refine hexit _ _ (by simp) ?_
        have : l ≠ m := by
          rintro rfl
          exact hn rfl
        simp [this]
    · have : i = l.length := by omega
      subst this
      simp [t0, t5]
      refine hexit _ _ (by simp) ?_
      rw [List.take_length, hl, List.take_length] at heq
      simp [heq]
  · have hl' : ¬ ((l.length : Int) = m.length) := by omega
    simp [ir60, hl']
    rintro rfl
    exact hl rfl

theorem sameEnd_spec (w : World) {H : AHeap} (hw : WF H) {v u : Value} {x y : EndA} (hx : EndR (ctxW w) H x v) (hy : EndR (ctxW w) H y u) (hsm : x.opens.length ≤ 1000000 ∧ x.early.length ≤ 1000000) :
    wpCall (ctxW w) (.func (.func 30) #[] #[]) [v, u] H fun r H' => Same H H' ∧ Tells (x = y) r := by
  obtain ⟨o1, e1, rfl, ho, he⟩ := hx
  obtain ⟨o2, e2, rfl, ho2, he2⟩ := hy
  obtain ⟨a1, c1, rfl⟩ := ho.val
  obtain ⟨a2, c2, rfl⟩ := he.val
  obtain ⟨a3, c3, rfl⟩ := ho2.val
  obtain ⟨a4, c4, rfl⟩ := he2.val
  refine wpCall_fn rfl (get30 w) ?_
  simp [ir30]
  refine w_box (cs := [.int .i64 x.last, .slice a1 x.opens.length c1, .int .i64 x.got, .slice a2 x.early.length c2]) hw (by simp [endV]) rfl (by simp) fun p H1 hp => ?_
  simp
  refine w_box (cs := [.int .i64 y.last, .slice a3 y.opens.length c3, .int .i64 y.got, .slice a4 y.early.length c4]) hp.same.wf' (by simp [endV]) rfl (by simp) fun q H2 hq => ?_
  have hs := hp.same.trans hq.same
  have ldp := fun off n => Obj1.load (C := ctxW w) (off := off) (n := n) (hp.obj.same hq.same)
  have ldq := fun off n => Obj1.load (C := ctxW w) (off := off) (n := n) hq.obj
  have ext : x.last = y.last → x.got = y.got → x.opens = y.opens → x.early = y.early → x = y := by
    cases x; cases y
    simp only
    rintro rfl rfl rfl rfl
    rfl
  by_cases h1 : x.last = y.last
  · by_cases h2 : x.got = y.got
    · simp [ldp, ldq, h1, h2]
      refine wpCall_mono (sameItems_spec w (ho.same hs) (ho2.same hs) hsm.1) ?_
      rintro _ H2 ⟨rfl, rfl⟩
      by_cases h3 : x.opens = y.opens
      · simp [h3, ldp, ldq]
        refine wpCall_mono (sameItems_spec w (he.same hs) (he2.same hs) hsm.2) ?_
        rintro _ H2 ⟨rfl, rfl⟩
        by_cases h4 : x.early = y.early
        · simp [h4]
          exact ⟨hs, .yes (ext h1 h2 h3 h4)⟩
        · simp [h4]
          exact ⟨hs, .no fun h => h4 (by rw [h])⟩
      · simp [h3]
        exact ⟨hs, .no fun h => h3 (by rw [h])⟩
    · simp [ldp, ldq, h1, h2]
      exact ⟨hs, .no fun h => h2 (by rw [h])⟩
  · simp [ldp, ldq, h1]
    exact ⟨hs, .no fun h => h1 (by rw [h])⟩
end Go.Ai.Wire
