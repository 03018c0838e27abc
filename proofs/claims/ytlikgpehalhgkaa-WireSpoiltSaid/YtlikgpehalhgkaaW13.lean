/-
  'WireSpoilt' answers true and leaves all memory as it was. No condition.
  Its walk is one of an evaluator that is proved sound against the kit's calculus: contracts of the functions that it reaches (the bytes of a packet, the packet with some bytes, their sum), and a law of sums: one byte that is another one changes the sum, one closed call by the kernel.
-/
import Derived.Test.YtlikgpehalhgkaaRows
import Derived.Test.YtlikgpehalhgkaaW9
import Derived.Test.YtlikgpehalhgkaaW12
import Derived.WalkKit
import Derived.ProofKit
import Derived.OpenShut
import Derived.ShutString
import Derived.ChangeOld
import Derived.ChangeSame
import Derived.Carry
import Derived.Below
namespace Go.Proofs.Ytlikgpehalhgkaa.wireSpoilt
open Go.ChangeShapes Go.WideShapes Go.ChangeAt Go.RowKit Go.Ai Go.Ai.Wire

theorem own : ownKnob Try.prog.godebug = none := by kernel_rfl
theorem laidOut : laidOutB Try.prog = true := by kernel_rfl
theorem mixed : Try.prog.follows .mixedOrders = true := by kernel_rfl

set_option maxRecDepth 100000 in
theorem awakeAnswers (w : World) : isTrue (run (ctxOf Try.prog 150 (fun _ _ => none) w) 100000 13 [] emptyHeap) = true := by kernel_rfl

theorem knownAll (w : World) : KnownOK Try.prog (ctxW w) := by
  intro k args v hk φ M u args' hR ha
  have hk : knownW k args = some v := hk
  unfold knownW at hk
  split at hk
  · split at hk
    · rename_i h13
      cases hk
      subst h13
      have : args' = #[] := by
        cases args' with
        | mk l => cases l with
          | nil => rfl
          | cons x r => cases ha
      subst this
      exact known_of (fun u => (closed_true mixed u (no_known _ _ rfl) (awakeAnswers u)).2) (fun u => (closed_true mixed u (no_known _ _ rfl) (awakeAnswers u)).1) rfl hR
    · cases hk
  · cases hk

theorem eqbOK (w : World) : ∀ a b, (ctxW w).eqb a b = true → a = b := by
  intro a b h
  simpa [ctxW] using h

theorem funcsAny (P : Program) (l : List Nat) (k : FuncId) (F : IFunc) (h : (funcsFrom P l .leaf).get k = some F) : ∃ fn, P.funcs[k]? = some fn ∧ compFunc P fn = some F :=
  funcsFrom_ok P l .leaf (fun k F h => by rw [Trie.get_leaf] at h; cases h) k F h

theorem funcsOK (w : World) : FuncsOK Try.prog (ctxW w) := by
  intro k F h
  have e : (ctxW w).funcs = funcsFrom Try.prog (List.range 150) .leaf := by kernel_rfl
  rw [e] at h
  generalize List.range 150 = l at h
  exact funcsAny Try.prog l k F h

theorem w0W (w : World) : (ctxW w).w0 = w := rfl

theorem list2 {α : Type} (l : List α) (h : l.length = 2) : ∃ x y, l = [x, y] := by
  match l, h with
  | [x, y], _ => exact ⟨x, y, rfl⟩

theorem arr2 {α : Type} (a : Array α) (h : a.size = 2) : ∃ x y, a = #[x, y] := by
  obtain ⟨l⟩ := a
  obtain ⟨x, y, rfl⟩ := list2 l h
  exact ⟨x, y, rfl⟩

theorem okWide_array {P : Program} {W : World} {r : Reach} {b0 : Nat} {t e : TypeId} {n : Nat} {v : Value} (ht : P.underlying t = some (.array n e)) (h : Value.okWide P W r b0 t v) : ∃ xs : Array Value, v = .agg xs ∧ xs.size = P.cellsOf t := by
  simp only [Value.okWide, ht] at h
  obtain ⟨cs, h1, h2, _⟩ := h
  exact ⟨cs, h1, h2⟩

/-- Two integers. -/
theorem trod_pair {H : Type} {enc : TypeId × Value → H} {P : Program} {w : World} {base : Nat} {spare : Nat → Bool} {held : Bool} {t e : TypeId} {k : IntKind} {fuel : Nat} {c d : Value} {x : DataW H × List MemPlace} (ht : P.underlying t = some (.array 2 e)) (he : P.underlying e = some (.int k))
    (hc : P.cellsOf e = 1) (h : DataW.trod enc P w base spare held fuel t [c, d] = some x) : ∃ m n, c = .int k m ∧ d = .int k n ∧ (Lit.int k m).wf = true ∧ (Lit.int k n).wf = true := by
  cases fuel with
  | zero => simp [DataW.trod] at h
  | succ m =>
    rw [DataW.trod_step] at h
    unfold DataW.trodStep at h
    simp only [ht, hc] at h
    split at h
    · simp only [Option.map_eq_some_iff] at h
      obtain ⟨xs, h1, _⟩ := h
      have e2 : List.range 2 = [0, 1] := rfl
      rw [e2] at h1
      simp only [List.mapM_cons, List.mapM_nil, bind, Option.bind_eq_some_iff, pure] at h1
      obtain ⟨y0, h0, y1, ⟨z0, h2, _⟩, _⟩ := h1
      obtain ⟨a, ea, _, wa⟩ := DataW.trod_int he (cs := [c]) h0
      obtain ⟨b, eb, _, wb⟩ := DataW.trod_int he (cs := [d]) h2
      cases ea
      cases eb
      exact ⟨a, b, rfl, rfl, wa, wb⟩
    · cases h

theorem wf_u16 {n : Int} (h : (Lit.int .u16 n).wf = true) : 0 ≤ n ∧ n < 65536 := by
  have h : IntKind.u16.min ≤ n ∧ n ≤ IntKind.u16.max := by simpa [Lit.wf] using h
  have : 0 ≤ n ∧ n ≤ 65535 := h
  omega
theorem wf_u8 {n : Int} (h : (Lit.int .u8 n).wf = true) : ∃ b : UInt8, n = (b.toNat : Int) := by
  have h : IntKind.u8.min ≤ n ∧ n ≤ IntKind.u8.max := by simpa [Lit.wf] using h
  have : 0 ≤ n ∧ n ≤ 255 := h
  exact ⟨UInt8.ofNat n.toNat, by simp; omega⟩

theorem walk {v0 v1 v2 : Value} {n0 n1 z0 z1 : Int} {d : List UInt8} (w : World) (e1 : v1 = .agg #[.int .u16 n0, .int .u16 n1]) (e2 : v2 = .agg #[.int .u8 z0, .int .u8 z1]) (h0 : (Lit.int .u16 n0).wf = true) (h1 : (Lit.int .u16 n1).wf = true) (h2 : (Lit.int .u8 z0).wf = true) (h3 : (Lit.int .u8 z1).wf = true)
    {x0 : Value} (hx : VRel (rawPhi w) x0 v0) (hd : BsS (ctxW w) (rawHeap w) x0 d) :
    Calls Try.prog 4 #[v0, v1, v2] w fun e w' => e = .returned (.bool true) ∧ Below w.heap.size w w' := by
  subst e1 e2
  obtain ⟨a0, b0⟩ := wf_u16 h0
  obtain ⟨a1, b1⟩ := wf_u16 h1
  obtain ⟨m0, rfl⟩ := Int.eq_ofNat_of_zero_le a0
  obtain ⟨m1, rfl⟩ := Int.eq_ofNat_of_zero_le a1
  obtain ⟨y0, rfl⟩ := wf_u8 h2
  obtain ⟨y1, rfl⟩ := wf_u8 h3
  refine lift_true (C := ctxW w) (w0W w) (eqbOK w) mixed (funcsOK w) (knownAll w) (args := [x0, .agg #[.int .u16 m0, .int .u16 m1], .agg #[.int .u8 y0.toNat, .int .u8 y1.toNat]]) ?_ (spoilt_walk w (rawHeap_wf w) hd.1 (by omega) (by omega) y0 y1)
  exact .cons _ _ _ _ hx (.cons _ _ _ _ (.agg _ _ (.cons _ _ _ _ (.int _ _) (.cons _ _ _ _ (.int _ _) .nil))) (.cons _ _ _ _ (.agg _ _ (.cons _ _ _ _ (.int _ _) (.cons _ _ _ _ (.int _ _) .nil))) .nil))

set_option maxRecDepth 100000 in
theorem lifted (os : Os) (started : os.Started) (H : Type) (enc : TypeId × Value → H) :
    ReturnsInHanded {} Try.checked os 4 .any (Rows.wireSpoiltSpec.pre6 enc Try.prog Try.f4 Rows.wireSpoiltRow.domain false) (Rows.wireSpoiltSpec.post enc Try.prog Try.f4 false true false false) := by
  refine returnsInHanded_of_change (C := Try.checked) own started (by kernel_rfl) Try.func4
    (ChangeSpec.witness6 (enc := enc) (C := Try.checked) false ⟨#[], #[.slice none 0 0, .agg #[.int .u16 0, .int .u16 0], .agg #[.int .u8 0, .int .u8 0]], []⟩ 8 (by kernel_rfl) (by kernel_rfl) (by kernel_rfl) (by kernel_rfl)) ?_
  intro W base args ds gs before hval0 hW hcnd _
  have hval : ∀ (j : Nat) t v, Try.f4.params[j]? = some t → args[j]? = some v → Value.okWide Try.prog W .any base t v := hval0
  have hW' := hW
  obtain ⟨p, q, hA0, hV, rfl, hfz, hnd⟩ := hW
  have hA : DataW.TrodAll enc Try.prog W 0 (fun _ => true) true Try.f4.params.toList args.toList ds p := hA0
  rw [Try.params4] at hA hval
  obtain ⟨v0, vs0, d0, ds0, p0, q0, hargs, rfl, rfl, h0, r0⟩ := trodAll_cons hA
  obtain ⟨v1, vs1, d1, ds1, p1, q1, rfl, rfl, rfl, h1, r1⟩ := trodAll_cons r0
  obtain ⟨v2, vs2, d2, ds2, p2, q2, rfl, rfl, rfl, h2, r2⟩ := trodAll_cons r1
  obtain ⟨rfl, rfl, rfl⟩ := trodAll_nil r2
  obtain rfl : args = #[v0, v1, v2] := by cases args; simp_all
  obtain ⟨rfl, rfl⟩ := trodVars_none hV
  have k0 := h0
  have k1 := h1
  have k2 := h2
  have lt0 : ∀ x ∈ p0, x.block < W.heap.size := by obtain ⟨m, hm⟩ := k0; exact DataW.trod_lt m _ _ _ hm
  have lt1 : ∀ x ∈ p1, x.block < W.heap.size := by obtain ⟨m, hm⟩ := k1; exact DataW.trod_lt m _ _ _ hm
  have lt2 : ∀ x ∈ p2, x.block < W.heap.size := by obtain ⟨m, hm⟩ := k2; exact DataW.trod_lt m _ _ _ hm
  obtain ⟨a0, l0, c0, rfl⟩ := okWide_slice Try.underlying22 (hval 0 22 v0 rfl rfl)
  obtain ⟨x1, rfl, hs1⟩ := okWide_array Try.underlying34 (hval 1 34 v1 rfl rfl)
  obtain ⟨x2, rfl, hs2⟩ := okWide_array Try.underlying35 (hval 2 35 v2 rfl rfl)
  obtain ⟨f0, hf0⟩ := h0
  obtain ⟨d, z0, hz, hd⟩ := open_bytes (C := ctxW W) (w := W) (v := .slice a0 l0 c0) (w0W W) Try.underlying22 Try.underlying5 (by kernel_rfl) rfl hf0
  obtain ⟨u0, u1, rfl⟩ := arr2 x1 (hs1.trans (by kernel_rfl))
  obtain ⟨w0, w1, rfl⟩ := arr2 x2 (hs2.trans (by kernel_rfl))
  obtain ⟨f1, hf1⟩ := h1
  obtain ⟨f2, hf2⟩ := h2
  obtain ⟨n0, n1, rfl, rfl, g0, g1⟩ := trod_pair (c := u0) (d := u1) Try.underlying34 Try.underlying33 (by kernel_rfl) hf1
  obtain ⟨y0, y1, rfl, rfl, g2, g3⟩ := trod_pair (c := w0) (d := w1) Try.underlying35 Try.underlying5 (by kernel_rfl) hf2
  refine (walk W rfl rfl g0 g1 g2 g3 hz hd).mono fun e W' ⟨he, bel⟩ => ?_
  subst he
  exact ⟨_, rfl, _, _, _, [], _, [], hW', trodAll_mk1 (shut_bool Try.underlying4 _), (trodAll_cons_mk (Below.trod laidOut (by kernel_rfl) (of_decide_eq_true (by kernel_rfl)) k0 bel lt0) (trodAll_cons_mk (Below.trod laidOut (by kernel_rfl) (of_decide_eq_true (by kernel_rfl)) k1 bel lt1)
    (trodAll_cons_mk (Below.trod laidOut (by kernel_rfl) (of_decide_eq_true (by kernel_rfl)) k2 bel lt2) trodAll_mk0))),
    rfl, bel.frame _, fun h => by cases h⟩

theorem over : Rows.wireSpoiltRow.holds Try.pinned (OpenSpec.ofChange Rows.wireSpoiltSpec) :=
  OpenClaim.holds_of_wide 4 Try.f4 rfl rfl rfl rfl rfl rfl rfl ⟨rfl, rfl, rfl, rfl, rfl⟩ rfl rfl rfl rfl rfl (by kernel_rfl) Try.func4 (by kernel_rfl)
    (of_decide_eq_true (by kernel_rfl)) (by unfold Func.isWrapper; first | (rw [if_pos (by decide +kernel)]; kernel_rfl) | (rw [if_neg (by decide +kernel)]; exact ⟨rfl, rfl⟩))
    (fun os started H enc _ => lifted os started H enc)

/-- The statement. -/
theorem proved : Rows.WireSpoiltSaid := over
#print axioms proved
end Go.Proofs.Ytlikgpehalhgkaa.wireSpoilt
