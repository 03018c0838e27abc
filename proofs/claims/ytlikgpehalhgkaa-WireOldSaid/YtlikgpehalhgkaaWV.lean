/-
  Bytes that come twice.
-/
import Derived.Test.YtlikgpehalhgkaaWU
import Derived.Test.YtlikgpehalhgkaaWK
namespace Go.Ai.Wire
open Go.Proofs Go.IntWalk
attribute [local irreducible] Trie.put
attribute [-simp] wpO_toStr wpD_toStr
attribute [simp] bytesEq_dec

theorem still_still (g : Int) (l : List Itm) : still g (still g l) = still g l := by
  unfold still
  rw [List.filter_filter]
  simp

theorem insI_cons (y z : Itm) (r : List Itm) : insI y (z :: r) = if z.1 < y.1 then z :: insI y r else if z.1 = y.1 then z :: r else y :: z :: r := rfl
theorem ins_ins (y : Itm) : ∀ l : List Itm, insI y (insI y l) = insI y l
  | [] => by simp [insI]
  | z :: r => by
    have ih := ins_ins y r
    rw [insI_cons]
    by_cases h1 : z.1 < y.1
    · rw [if_pos h1, insI_cons, if_pos h1, ih]
    · rw [if_neg h1]
      by_cases h2 : z.1 = y.1
      · rw [if_pos h2, insI_cons, if_neg h1, if_pos h2]
      · rw [if_neg h2, insI_cons, if_neg (by omega), if_pos rfl]

/-- Bytes that come twice hand on nothing the second time, change nothing, and have the same reply. -/
theorem takeF_twice (x : EndA) (bs : List UInt8) : takeF (takeF x bs).1 bs = ((takeF x bs).1, [], (takeF x bs).2.2) := by
  cases hr : readB bs with
  | none =>
    have h : ∀ z : EndA, takeF z bs = (z, [], []) := fun z => by unfold takeF; rw [hr]
    rw [h x, h x]
  | some y =>
    obtain ⟨n, g, d⟩ := y
    by_cases hl : x.last < g
    · have h : ∀ z : EndA, z.last = x.last → takeF z bs = (z, [], []) := fun z hz => by unfold takeF; rw [hr]; dsimp only; rw [if_pos (by omega)]
      rw [h x rfl, h x rfl]
    · by_cases hn : n = 0
      · have h : ∀ z : EndA, z.last = x.last → takeF z bs = (⟨z.last, still g z.opens, z.got, z.early⟩, [], []) := fun z hz => by unfold takeF; rw [hr]; dsimp only; rw [if_neg (by omega), if_pos hn]
        rw [h x rfl]
        dsimp only
        rw [h ⟨x.last, still g x.opens, x.got, x.early⟩ rfl]
        dsimp only
        rw [still_still]
      · by_cases h1 : (n : Int) - x.got = 1
        · have e : takeF x bs = (handed ⟨x.last, still g x.opens, x.got, x.early⟩, hands ⟨x.last, still g x.opens, x.got, x.early⟩ d, enc 0 (handed ⟨x.last, still g x.opens, x.got, x.early⟩).got.toNat []) := by
            unfold takeF; rw [hr]; dsimp only; rw [if_neg hl, if_neg hn, if_pos h1]
          rw [e]
          dsimp only
          have h : ∀ z : EndA, z.last = x.last → x.got + 1 ≤ z.got → takeF z bs = (⟨z.last, still g z.opens, z.got, z.early⟩, [], enc 0 z.got.toNat []) := fun z hz hg => by
            unfold takeF; rw [hr]; dsimp only; rw [if_neg (by omega), if_neg hn, if_neg (by omega), if_neg (by omega)]
          rw [h (handed ⟨x.last, still g x.opens, x.got, x.early⟩) rfl (by dsimp only [handed]; omega)]
          dsimp only [handed]
          rw [still_still]
        · by_cases h2 : 2 ≤ (n : Int) - x.got ∧ (n : Int) - x.got ≤ 8
          · have h : ∀ z : EndA, z.last = x.last → z.got = x.got → takeF z bs = (⟨z.last, still g z.opens, z.got, insI (n, d) z.early⟩, [], enc 0 z.got.toNat []) := fun z hz hg => by
              unfold takeF; rw [hr]; dsimp only; rw [if_neg (by omega), if_neg hn, if_neg (by omega), if_pos (by omega)]
            rw [h x rfl rfl]
            dsimp only
            rw [h ⟨x.last, still g x.opens, x.got, insI (n, d) x.early⟩ rfl rfl]
            dsimp only
            rw [still_still, ins_ins]
          · have h : ∀ z : EndA, z.last = x.last → z.got = x.got → takeF z bs = (⟨z.last, still g z.opens, z.got, z.early⟩, [], enc 0 z.got.toNat []) := fun z hz hg => by
              unfold takeF; rw [hr]; dsimp only; rw [if_neg (by omega), if_neg hn, if_neg (by omega), if_neg (by omega)]
            rw [h x rfl rfl]
            dsimp only
            rw [h ⟨x.last, still g x.opens, x.got, x.early⟩ rfl rfl]
            dsimp only
            rw [still_still]

set_option maxHeartbeats 4000000 in
theorem wireOld_walk (w : World) {H : AHeap} (hw : WF H) {v : Value} {l : List (UInt8 × UInt8 × UInt8)} (hv : Row (ctxW w) H v 3 l.length (trip l)) :
    wpCall (ctxW w) (.func (.func 10) #[] #[]) [v] H fun r _ => r = .bool true := by
  obtain ⟨_, a, c, rfl, _, _⟩ := id hv
  refine wpCall_fn rfl (get10 w) ?_
  simp [ir10]
  refine wpCall_mono (lived_spec w hw hv) ?_
  rintro _ H1 ⟨q, col, y, rfl, hs1, hbare, ⟨o0, e0, o1, e1, f, sv0, sv1, hv0, hv1, S⟩, hin, hn0, hn1⟩
  simp
  have hlok := hin.ok
  obtain ⟨a1, c1, rfl⟩ := S.ln.i0.val
  obtain ⟨a2, c2, rfl⟩ := S.ln.i1.val
  obtain ⟨a3, c3, rfl⟩ := S.ln.i2.val
  obtain ⟨a4, c4, rfl⟩ := S.ln.i3.val
  obtain ⟨a5, c5, rfl⟩ := S.ln.i4.val
  have hfl := hlok.2.2.1
  refine wp_loop' (fun n s => ∃ (T : Env) (Hc : AHeap) (i : Nat), s = ⟨T, Hc, []⟩ ∧ n = y.x.fly.length - i ∧ i ≤ y.x.fly.length ∧ T.val 3 = .pointer (some ⟨q, 0, none⟩) ∧ T.val 4 = .bool true ∧ T.val 5 = .int .i64 i ∧ Same H1 Hc) (n := y.x.fly.length)
    ⟨_, H1, 0, rfl, rfl, Nat.zero_le _, by simp, by simp, by simp, Same.refl hs1.wf'⟩ ?_
  rintro n s K ⟨T, Hc, i, rfl, rfl, hi, t3, t4, t5, hsc⟩ hnext hexit
  have ldq := fun off n => Obj1.load (C := ctxW w) (off := off) (n := n) (S.obj.same hsc)
  by_cases hlt : i < y.x.fly.length
  · have e3 : (i : Int) < y.x.fly.length := by omega
    obtain ⟨b, da, dc, rfl, _, _, m3, hd⟩ := (S.ln.i4.its.same hsc).at hlt
    have hfi := hlok.2.2.2 i hlt
    simp [t3, t4, t5, ldq, storyCells, e3, hlt, m3]
    refine w_mk hsc.wf' fun t6 H2 ht6 => ?_
    have n6 := ht6.new
    have n6' := ht6.next
    refine w_store (p := t6) (off := 0) (xs := [.int .i64 y.x.fly[i].1, .slice da y.x.fly[i].2.length dc]) ht6.same.wf' ht6.obj (by simp) (by simp) rfl (by simp) (by simp) (by simp) fun H3 hm3 hn3 ho3 => ?_
    have hsc3 : Same Hc H3 := ht6.same.then_mod hm3 (by omega)
    have hs13 := hsc.trans hsc3
    have ld6 := fun off n => Obj1.load (C := ctxW w) (off := off) (n := n) ho3
    have ldq3 := fun off n => Obj1.load (C := ctxW w) (off := off) (n := n) (S.obj.same hs13)
    obtain ⟨E, hE⟩ : ∃ E : EndA, E = (if y.x.fly[i].1 = 0 then y.x.a else y.x.b) := ⟨_, rfl⟩
    have hEok : EndOK E := by rw [hE]; split; exact hlok.1; exact hlok.2.1
    have hEs : EndS E := hEok.small (by have := early_len hEok; omega)
    obtain ⟨u, hu⟩ : ∃ u : Nat, y.x.fly[i].1 = u := ⟨y.x.fly[i].1.toNat, by have := hfi.1; omega⟩
    have hu2 : (u : Int) < 2 := by have := hfi.1; omega
    obtain ⟨ov, ev, hload, hER⟩ : ∃ ov ev, loadN (ctxW w) H3.get ⟨q, u * 4, none⟩ 4 = some [.int .i64 E.last, ov, .int .i64 E.got, ev] ∧ EndR (ctxW w) H3 E (endV E.last ov E.got ev) := by
      rcases (by omega : u = 0 ∨ u = 1) with rfl | rfl
      · rw [hE, if_pos (by omega)]
        exact ⟨_, _, by simp [ldq3, storyCells], _, _, rfl, S.ln.i0.its.same hs13, S.ln.i1.its.same hs13⟩
      · rw [hE, if_neg (by omega)]
        exact ⟨_, _, by simp [ldq3, storyCells], _, _, rfl, S.ln.i2.its.same hs13, S.ln.i3.its.same hs13⟩
    simp [t3, ld6, hu, hu2, hload]
    have hcall := copyEnd_spec w hs13.wf' hER hEs
    simp only [endV] at hcall
    refine wpCall_mono hcall ?_
    rintro r4 H4 ⟨hs4, hN4⟩
    have hR4 := hN4.r
    obtain ⟨ov4, ev4, rfl, io4, ie4⟩ := hN4.r
    have hs14 := hs13.trans hs4
    have ht64 := ho3.same hs4
    have ld64 := fun off n => Obj1.load (C := ctxW w) (off := off) (n := n) ht64
    have n4 := hs4.grow.next
    have hqlt : q < H3.next := (S.obj.same hs13).lt hs13.wf'
    have nc3 := hsc3.grow.next
    have e4 : free (ctxW w) (.call H3 H4) (.exp [] [H4.next]) = true := free_call_new (Nat.le_refl _)
    have e5 : Nat.beq H4.next q = false := nbeq' (by omega)
    have e6 : Nat.beq H4.next t6 = false := nbeq' (by omega)
    have e7 : free (ctxW w) (.call H3 H4) (.exp [t6] []) = true := free_call_rd (eqbW w) hs4 (by simp; obtain ⟨e, h⟩ := ho3; rw [h]; simp)
    simp [endV]
    refine d_bs (esz := 1) (cs := []) hs14.wf' (by simp [e4, e5, e6]) (by simp) (by simp) (by simp) fun q5 H5 hq5 hb5 => ?_
    have n5 := hq5.new
    have n5' := hq5.next
    have ht65 := ht64.same hq5.same
    have ld65 := fun off n => Obj1.load (C := ctxW w) (off := off) (n := n) ht65
    have e8 : Nat.beq q5 t6 = false := nbeq' (by omega)
    simp [ld65, e6, e7, e8]
    have hd5 : Bs (ctxW w) H5 (.slice da y.x.fly[i].2.length dc) y.x.fly[i].2 := ((hd.same hsc3).same hs4).same hq5.same
    refine d_app' (g := q5) (n := 0) (m := y.x.fly[i].2.length) (cs := []) (xs := y.x.fly[i].2.map u8v) hq5.same.wf' (by simpa using hb5) (by simp; exact hd5) (u8_scalar _) (by simp [roomy]; have := hfi.2.2; omega) (fun rd' md hmd => by simp) fun r6 H6 rd' md hm6 hb6 hmd hrd => ?_
    have hs46 : Same H4 H6 := hq5.same.then_mod hm6 (by omega)
    have hs16 := hs14.trans hs46
    have hb6s : BsS (ctxW w) H6 r6 y.x.fly[i].2 := by
      have := hb6
      simp at this
      exact Buf.bsS (g := q5) this
    obtain ⟨ra, rc, rfl⟩ := hb6s.1.val
    have n46 := hs46.grow.next
    have nm6 := hm6.grow.next
    simp
    have hcall := wireTake_spec w hs16.wf' (hR4.same hs46) hEs hb6s (by have := hfi.2.2; omega)
    simp only [endV] at hcall
    refine wpCall_mono hcall ?_
    rintro r7 H7 ⟨hs7, ev7, fv7, rv7, er7, rfl, ⟨_, rfl, hE7, hF7, hB7⟩ | ⟨hbad, _⟩⟩
    rotate_left
    · exact absurd hEok hbad
    have hs17 := hs16.trans hs7
    have n67 := hs7.grow.next
    obtain ⟨ov7, oe7, rfl, io7, ie7⟩ := hE7
    obtain ⟨a7, c7, rfl⟩ := io7.val
    obtain ⟨a8, c8, rfl⟩ := ie7.val
    obtain ⟨ba, bc, rfl⟩ := hB7.val
    obtain ⟨fa, fc, rfl⟩ := hF7.val
    obtain ⟨X, hX⟩ : ∃ X, X = (takeF E y.x.fly[i].2).1 := ⟨_, rfl⟩
    have hXok : EndOK X := by rw [hX]; exact takeF_ok hEok _
    have hXs : EndS X := hXok.small (by have := early_len hXok; omega)
    rw [← hX] at io7 ie7
    have g1 : free (ctxW w) (.call H6 H7) (.exp [] [H7.next]) = true := free_call_new (Nat.le_refl _)
    have g2 : free (ctxW w) (.call H3 H4) (.exp [] [H7.next]) = true := free_call_new (by omega)
    have g3 : Nat.beq H7.next q = false := nbeq' (by omega)
    have g4 : Nat.beq H7.next t6 = false := nbeq' (by omega)
    have g5 : free (ctxW w) (.exp rd' md) (.exp [] [H7.next]) = true := free_exp_new (fun x hx => by rw [hmd x hx]; omega) fun x hx => by have := hrd x hx; have := hm6.grow.next; omega
    have g6 : Nat.beq q5 H7.next = false := nbeq' (by omega)
    simp [endV, ← hX]
    refine d_mk hs17.wf' (by simp [g1, g2, g3, g4, g5, g6]) fun t7 H8 ht7 => ?_
    have n7 := ht7.new
    have n7' := ht7.next
    simp
    refine d_store (p := t7) (off := 0) (xs := [.int .i64 X.last, .slice a7 X.opens.length c7, .int .i64 X.got, .slice a8 X.early.length c8]) ht7.same.wf' rfl ht7.obj (by simp) (by simp) rfl (by simp) (by simp) (by simp) fun H9 hm9 hn9 ho9 => ?_
    have hs79 : Same H7 H9 := ht7.same.then_mod hm9 (by omega)
    have hs19 := hs17.trans hs79
    have ld79 := fun off n => Obj1.load (C := ctxW w) (off := off) (n := n) ho9
    have ht69 : Obj1 H9 t6 _ := ((ht65.mod hm6 (by omega)).same hs7).same hs79
    have hXR : EndR (ctxW w) H9 X (.agg #[.int .i64 X.last, .slice a7 X.opens.length c7, .int .i64 X.got, .slice a8 X.early.length c8]) := ⟨_, _, rfl, io7.same hs79, ie7.same hs79⟩
    simp [ld79]
    refine wpCall_mono (copyEnd_spec w hs19.wf' hXR hXs) ?_
    rintro r10 H10 ⟨hs10, hN10⟩
    have hR10 := hN10.r
    obtain ⟨ov10, ev10, rfl, io10, ie10⟩ := hN10.r
    have hs110 := hs19.trans hs10
    have n10 := hs10.grow.next
    have n79 := hs79.grow.next
    have ht610 := ht69.same hs10
    have k4 : free (ctxW w) (.call H9 H10) (.exp [] [H10.next]) = true := free_call_new (Nat.le_refl _)
    have k6 : Nat.beq H10.next t6 = false := nbeq' (by omega)
    have k5 : Nat.beq H10.next t7 = false := nbeq' (by omega)
    have k7 : free (ctxW w) (.call H9 H10) (.exp [t6] []) = true := free_call_rd (eqbW w) hs10 (by simp; obtain ⟨e, h⟩ := ht69; rw [h]; simp)
    simp [endV]
    refine d_bs (esz := 1) (cs := []) hs110.wf' (by simp [k4, k5, k6]) (by simp) (by simp) (by simp) fun q11 H11 hq11 hb11 => ?_
    have n11 := hq11.new
    have n11' := hq11.next
    have ht611 := ht610.same hq11.same
    have ld611 := fun off n => Obj1.load (C := ctxW w) (off := off) (n := n) ht611
    have k8 : Nat.beq q11 t6 = false := nbeq' (by omega)
    simp [ld611, k6, k7, k8]
    have hs511 : Same H5 H11 → True := fun _ => trivial
    have hd11 : Bs (ctxW w) H11 (.slice da y.x.fly[i].2.length dc) y.x.fly[i].2 := (hd.same ((hsc3.trans hs4).trans (hs46.trans ((hs7.trans hs79).trans hs10)))).same hq11.same
    refine d_app' (g := q11) (n := 0) (m := y.x.fly[i].2.length) (cs := []) (xs := y.x.fly[i].2.map u8v) hq11.same.wf' (by simpa using hb11) (by simp; exact hd11) (u8_scalar _) (by simp [roomy]; have := hfi.2.2; omega) (fun rd' md hmd => by simp) fun r12 H12 rd12 md12 hm12 hb12 hmd12 hrd12 => ?_
    have hs1012 : Same H10 H12 := hq11.same.then_mod hm12 (by omega)
    have hs112 := hs110.trans hs1012
    have hb12s : BsS (ctxW w) H12 r12 y.x.fly[i].2 := by
      have := hb12
      simp at this
      exact Buf.bsS (g := q11) this
    obtain ⟨sa, sc, rfl⟩ := hb12s.1.val
    have n1012 := hs1012.grow.next
    have nm12 := hm12.grow.next
    simp
    have hcall := wireTake_spec w hs112.wf' (hR10.same hs1012) hXs hb12s (by have := hfi.2.2; omega)
    simp only [endV] at hcall
    refine wpCall_mono hcall ?_
    rintro r13 H13 ⟨hs13', ev13, fv13, rv13, er13, rfl, ⟨_, rfl, hE13, hF13, hB13⟩ | ⟨hbad, _⟩⟩
    rotate_left
    · exact absurd hXok hbad
    have htw := takeF_twice E y.x.fly[i].2
    rw [hX] at hE13 hF13 hB13
    rw [htw] at hE13 hF13 hB13
    dsimp only at hE13 hF13 hB13
    rw [← hX] at hE13
    have hs113 := hs112.trans hs13'
    have n1213 := hs13'.grow.next
    obtain ⟨ov13, oe13, rfl, io13, ie13⟩ := hE13
    obtain ⟨b1, d1, rfl⟩ := io13.val
    obtain ⟨b2, d2, rfl⟩ := ie13.val
    obtain ⟨b3, d3, rfl⟩ := hB13.val
    obtain ⟨b4, d4, rfl⟩ := hF13.val
    have m1 : free (ctxW w) (.call H12 H13) (.exp [] [H13.next]) = true := free_call_new (Nat.le_refl _)
    have m2 : free (ctxW w) (.call H9 H10) (.exp [] [H13.next]) = true := free_call_new (by omega)
    have m3 : Nat.beq H13.next t7 = false := nbeq' (by omega)
    have m4 : Nat.beq H13.next t6 = false := nbeq' (by omega)
    have m5 : free (ctxW w) (.exp rd12 md12) (.exp [] [H13.next]) = true := free_exp_new (fun x hx => by rw [hmd12 x hx]; omega) fun x hx => by have := hrd12 x hx; have := hm12.grow.next; omega
    have m6 : Nat.beq q11 H13.next = false := nbeq' (by omega)
    simp [endV]
    refine d_mk hs113.wf' (by simp [m1, m2, m3, m4, m5, m6]) fun t11 H14 ht11 => ?_
    have nn11 := ht11.new
    have nn11' := ht11.next
    simp
    refine d_store (p := t11) (off := 0) (xs := [.int .i64 X.last, .slice b1 X.opens.length d1, .int .i64 X.got, .slice b2 X.early.length d2]) ht11.same.wf' rfl ht11.obj (by simp) (by simp) rfl (by simp) (by simp) (by simp) fun H15 hm15 hn15 ho15 => ?_
    have hs1315 : Same H13 H15 := ht11.same.then_mod hm15 (by omega)
    have hs115 := hs113.trans hs1315
    have hs915 : Same H9 H15 := ((hs10.trans hs1012).trans hs13').trans hs1315
    have hs715 := hs79.trans hs915
    have o7 := fun off n => Obj1.load (C := ctxW w) (off := off) (n := n) (ho9.same hs915)
    have o11 := fun off n => Obj1.load (C := ctxW w) (off := off) (n := n) ho15
    obtain ⟨B, hB⟩ : ∃ B, B = (takeF E y.x.fly[i].2).2.2 := ⟨_, rfl⟩
    rw [← hB] at hB7 hB13
    simp [← hB]
    refine w_toStr (bs := B) (by simp; exact hB7.same hs715) ?_
    simp
    refine w_toStr (bs := B) (by simp; exact hB13.same hs1315) ?_
    simp [strV, o7, o11]
    refine wpCall_mono (sameEnd_spec w hs115.wf' (x := X) (y := X) ⟨_, _, rfl, io7.same hs715, ie7.same hs715⟩ ⟨_, _, rfl, io13.same hs1315, ie13.same hs1315⟩ (by have := hXs.1.1; have := hXs.2.1; omega)) ?_
    rintro _ H16 ⟨hs16', b16, rfl, hb16⟩
    have : b16 = true := hb16.2 rfl
    subst this
    simp [t5]
    exact hnext (y.x.fly.length - (i + 1)) _ (by omega) ⟨_, H16, i + 1, rfl, rfl, by omega, by simp [t3], by simp, by simp; rw [i64_in _ (by omega)], hs115.trans hs16'⟩
  · have : i = y.x.fly.length := by omega
    subst this
    simp [t3, t4, t5, ldq, storyCells]
    refine hexit _ _ (by simp) ?_
    simp [t4]
    refine wpCall_mono (awake_spec w) ?_
    rintro _ H3 ⟨rfl, rfl⟩
    simp
end Go.Ai.Wire
