/-
  'WireBytes' answers true and leaves all memory as it was. No condition.
  Its walk is one of an evaluator that is proved sound against the kit's calculus: contracts of the functions that it reaches (the bytes of a packet, the packet with some bytes, their sum; the program's and the reference's), one closed call by the kernel.
-/
import Derived.Test.YtlikgpehalhgkaaRows
import Derived.Test.YtlikgpehalhgkaaW9
import Derived.WalkKit
import Derived.ProofKit
import Derived.OpenShut
import Derived.ShutString
import Derived.ChangeOld
import Derived.ChangeSame
import Derived.Carry
import Derived.Below
namespace Go.Proofs.Ytlikgpehalhgkaa.wireBytes
open Go.ChangeShapes Go.WideShapes Go.ChangeAt Go.RowKit Go.Ai Go.Ai.Wire

theorem own : ownKnob Try.prog.godebug = none := by kernel_rfl
theorem laidOut : laidOutB Try.prog = true := by kernel_rfl
theorem mixed : Try.prog.follows .mixedOrders = true := by kernel_rfl

set_option maxRecDepth 100000 in
theorem awakeAnswers (w : World) : isTrue (run (ctxOf Try.prog 150 (fun _ _ => none) w) 100000 13 [] emptyHeap) = true := by kernel_rfl

theorem knownAll (w : World) : KnownOK Try.prog (ctxW w) := by
  intro k args v hk φ M u args' hR ha
  have hk : knownW k args = some v := hk
  unfold knownW at hk
  split at hk
  · split at hk
    · rename_i h13
      cases hk
      subst h13
      have : args' = #[] := by
        cases args' with
        | mk l => cases l with
          | nil => rfl
          | cons x r => cases ha
      subst this
      exact known_of (fun u => (closed_true mixed u (no_known _ _ rfl) (awakeAnswers u)).2) (fun u => (closed_true mixed u (no_known _ _ rfl) (awakeAnswers u)).1) rfl hR
    · cases hk
  · cases hk

theorem eqbOK (w : World) : ∀ a b, (ctxW w).eqb a b = true → a = b := by
  intro a b h
  simpa [ctxW] using h

theorem funcsAny (P : Program) (l : List Nat) (k : FuncId) (F : IFunc) (h : (funcsFrom P l .leaf).get k = some F) : ∃ fn, P.funcs[k]? = some fn ∧ compFunc P fn = some F :=
  funcsFrom_ok P l .leaf (fun k F h => by rw [Trie.get_leaf] at h; cases h) k F h

theorem funcsOK (w : World) : FuncsOK Try.prog (ctxW w) := by
  intro k F h
  have e : (ctxW w).funcs = funcsFrom Try.prog (List.range 150) .leaf := by kernel_rfl
  rw [e] at h
  generalize List.range 150 = l at h
  exact funcsAny Try.prog l k F h

theorem w0W (w : World) : (ctxW w).w0 = w := rfl

theorem list3 {α : Type} (l : List α) (h : l.length = 3) : ∃ x y z, l = [x, y, z] := by
  match l, h with
  | [x, y, z], _ => exact ⟨x, y, z, rfl⟩

theorem arr3 {α : Type} (a : Array α) (h : a.size = 3) : ∃ x y z, a = #[x, y, z] := by
  obtain ⟨l⟩ := a
  obtain ⟨x, y, z, rfl⟩ := list3 l h
  exact ⟨x, y, z, rfl⟩

theorem trod_int_inv {H : Type} {enc : TypeId × Value → H} {P : Program} {w : World} {base : Nat} {spare : Nat → Bool} {held : Bool} {t : TypeId} {k : IntKind} {fuel : Nat} {c : Value} {x : DataW H × List MemPlace} (ht : P.underlying t = some (.int k))
    (h : DataW.trod enc P w base spare held fuel t [c] = some x) : ∃ n, c = .int k n := by
  cases fuel with
  | zero => simp [DataW.trod] at h
  | succ m =>
    cases c <;> simp [DataW.trod, ht] at h
    obtain ⟨⟨rfl, _⟩, _⟩ := h
    exact ⟨_, rfl⟩

theorem trod_slice_inv {H : Type} {enc : TypeId × Value → H} {P : Program} {w : World} {base : Nat} {spare : Nat → Bool} {held : Bool} {t e : TypeId} {fuel : Nat} {c : Value} {x : DataW H × List MemPlace} (ht : P.underlying t = some (.slice e))
    (h : DataW.trod enc P w base spare held fuel t [c] = some x) : ∃ a l m, c = .slice a l m := by
  cases fuel with
  | zero => simp [DataW.trod] at h
  | succ m =>
    cases c <;> simp [DataW.trod, ht] at h
    exact ⟨_, _, _, rfl⟩

theorem walk {v0 v1 : Value} {n g : Int} {x : Value} {d bs : List UInt8} (w : World) (e0 : v0 = .agg #[.int .i64 n, .int .i64 g, x]) {x0 y0 : Value} (hx : VRel (rawPhi w) x0 x) (hy : VRel (rawPhi w) y0 v1) (hd : BsS (ctxW w) (rawHeap w) x0 d) (hb : BsS (ctxW w) (rawHeap w) y0 bs) :
    Calls Try.prog 3 #[v0, v1] w fun e w' => e = .returned (.bool true) ∧ Below w.heap.size w w' := by
  subst e0
  refine lift_true (C := ctxW w) (w0W w) (eqbOK w) mixed (funcsOK w) (knownAll w) (args := [pkV n g x0, y0]) ?_ (wireBytes_walk w (rawHeap_wf w) hd.1 hb)
  exact .cons _ _ _ _ (.agg _ _ (.cons _ _ _ _ (.int _ _) (.cons _ _ _ _ (.int _ _) (.cons _ _ _ _ hx .nil)))) (.cons _ _ _ _ hy .nil)

set_option maxRecDepth 100000 in
theorem lifted (os : Os) (started : os.Started) (H : Type) (enc : TypeId × Value → H) :
    ReturnsInHanded {} Try.checked os 3 .any (Rows.wireBytesSpec.pre6 enc Try.prog Try.f3 Rows.wireBytesRow.domain false) (Rows.wireBytesSpec.post enc Try.prog Try.f3 false true false false) := by
  refine returnsInHanded_of_change (C := Try.checked) own started (by kernel_rfl) Try.func3
    (ChangeSpec.witness6 (enc := enc) (C := Try.checked) false ⟨#[], #[.agg #[.int .i64 0, .int .i64 0, .slice none 0 0], .slice none 0 0], []⟩ 8 (by kernel_rfl) (by kernel_rfl) (by kernel_rfl) (by kernel_rfl)) ?_
  intro W base args ds gs before hval0 hW hcnd _
  have hval : ∀ (j : Nat) t v, Try.f3.params[j]? = some t → args[j]? = some v → Value.okWide Try.prog W .any base t v := hval0
  have hW' := hW
  obtain ⟨p, q, hA0, hV, rfl, hfz, hnd⟩ := hW
  have hA : DataW.TrodAll enc Try.prog W 0 (fun _ => true) true Try.f3.params.toList args.toList ds p := hA0
  rw [Try.params3] at hA hval
  obtain ⟨v0, vs0, d0, ds0, p0, q0, hargs, rfl, rfl, h0, r0⟩ := trodAll_cons hA
  obtain ⟨v1, vs1, d1, ds1, p1, q1, rfl, rfl, rfl, h1, r1⟩ := trodAll_cons r0
  obtain ⟨rfl, rfl, rfl⟩ := trodAll_nil r1
  obtain rfl : args = #[v0, v1] := by cases args; simp_all
  obtain ⟨rfl, rfl⟩ := trodVars_none hV
  have k0 := h0
  have k1 := h1
  have lt0 : ∀ x ∈ p0, x.block < W.heap.size := by obtain ⟨m, hm⟩ := k0; exact DataW.trod_lt m _ _ _ hm
  have lt1 : ∀ x ∈ p1, x.block < W.heap.size := by obtain ⟨m, hm⟩ := k1; exact DataW.trod_lt m _ _ _ hm
  obtain ⟨cs, rfl, hsz⟩ := okWide_struct Try.underlying24 (hval 0 24 v0 rfl rfl)
  obtain ⟨a1, l1, c1, rfl⟩ := okWide_slice Try.underlying22 (hval 1 22 v1 rfl rfl)
  obtain ⟨f1, hf1⟩ := h1
  obtain ⟨bs, y0, hy, hb⟩ := open_bytes (C := ctxW W) (w := W) (w0W W) Try.underlying22 Try.underlying5 (by kernel_rfl) rfl hf1
  obtain ⟨f0, hf0⟩ := h0
  obtain ⟨xs, m, _, hx, _, hlen, hf⟩ := DataW.trod_struct Try.underlying24 hf0
  have hsz3 : cs.size = 3 := hsz.trans (by kernel_rfl)
  obtain ⟨c0, c1', c2, rfl⟩ := arr3 cs hsz3
  have e3 : Try.prog.cellsOf 3 = 1 := by kernel_rfl
  have e22 : Try.prog.cellsOf 22 = 1 := by kernel_rfl
  obtain ⟨x0, x1, x2, rfl⟩ := list3 xs hlen
  have g0 : DataW.trod enc Try.prog W 0 (fun _ => true) true m 3 ((([c0, c1', c2] : List Value).drop 0).take (Try.prog.cellsOf 3)) = some x0 := hf 0 _ rfl
  have g1 : DataW.trod enc Try.prog W 0 (fun _ => true) true m 3 ((([c0, c1', c2] : List Value).drop 1).take (Try.prog.cellsOf 3)) = some x1 := hf 1 _ rfl
  have g2 : DataW.trod enc Try.prog W 0 (fun _ => true) true m 22 ((([c0, c1', c2] : List Value).drop 2).take (Try.prog.cellsOf 22)) = some x2 := hf 2 _ rfl
  rw [e3] at g0 g1
  rw [e22] at g2
  obtain ⟨n, rfl⟩ := trod_int_inv Try.underlying3 (c := c0) g0
  obtain ⟨g, rfl⟩ := trod_int_inv Try.underlying3 (c := c1') g1
  obtain ⟨a2, l2, m2, rfl⟩ := trod_slice_inv Try.underlying22 (c := c2) g2
  obtain ⟨d, z0, hz, hd⟩ := open_bytes (C := ctxW W) (w := W) (v := .slice a2 l2 m2) (w0W W) Try.underlying22 Try.underlying5 (by kernel_rfl) rfl g2
  refine (walk W rfl hz hy hd hb).mono fun e W' ⟨he, bel⟩ => ?_
  subst he
  exact ⟨_, rfl, _, _, _, [], _, [], hW', trodAll_mk1 (shut_bool Try.underlying4 _), (trodAll_cons_mk (Below.trod laidOut (by kernel_rfl) (of_decide_eq_true (by kernel_rfl)) k0 bel lt0) (trodAll_cons_mk (Below.trod laidOut (by kernel_rfl) (of_decide_eq_true (by kernel_rfl)) k1 bel lt1) trodAll_mk0)),
    rfl, bel.frame _, fun h => by cases h⟩

theorem over : Rows.wireBytesRow.holds Try.pinned (OpenSpec.ofChange Rows.wireBytesSpec) :=
  OpenClaim.holds_of_wide 3 Try.f3 rfl rfl rfl rfl rfl rfl rfl ⟨rfl, rfl, rfl, rfl, rfl⟩ rfl rfl rfl rfl rfl (by kernel_rfl) Try.func3 (by kernel_rfl)
    (of_decide_eq_true (by kernel_rfl)) (by unfold Func.isWrapper; first | (rw [if_pos (by decide +kernel)]; kernel_rfl) | (rw [if_neg (by decide +kernel)]; exact ⟨rfl, rfl⟩))
    (fun os started H enc _ => lifted os started H enc)

/-- The statement. -/
theorem proved : Rows.WireBytesSaid := over
#print axioms proved
end Go.Proofs.Ytlikgpehalhgkaa.wireBytes
