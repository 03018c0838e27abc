/-
  'WireAll' answers true and leaves all memory as it was. No condition.
  Its walk is one of an evaluator that is proved sound against the kit's calculus: contracts of the functions that it reaches (lines and ends at work, and what a story does), one known answer of a library function that is proved from its code, one closed call by the kernel.
-/
import Derived.Test.YtlikgpehalhgkaaRows
import Derived.Test.YtlikgpehalhgkaaQWU
import Derived.Test.YtlikgpehalhgkaaQX3
import Derived.Test.YtlikgpehalhgkaaQWAc
import Derived.Test.YtlikgpehalhgkaaQWB
import Derived.WalkKit
import Derived.ProofKit
import Derived.OpenShut
import Derived.ShutString
import Derived.ChangeOld
import Derived.ChangeSame
import Derived.Carry
import Derived.Below
namespace Go.Proofs.Ytlikgpehalhgkaa.wireAll
open Go.ChangeShapes Go.WideShapes Go.ChangeAt Go.RowKit Go.Ai Go.Ai.Wire

theorem own : ownKnob Try.prog.godebug = none := by kernel_rfl
theorem laidOut : laidOutB Try.prog = true := by kernel_rfl
theorem mixed : Try.prog.follows .mixedOrders = true := by kernel_rfl

set_option maxRecDepth 100000 in
theorem awakeAnswers (w : World) : isTrue (run (ctxOf Try.prog 150 (fun _ _ _ => none) w) 100000 13 [] emptyHeap) = true := by kernel_rfl

theorem knownAll (w : World) : KnownOK Try.prog (ctxW w) := by
  intro k args M0 v p hk φ M u args' hM _ hR ha
  have hk : knownW k args M0 = some (v, p) := hk
  unfold knownW at hk
  cases hb : Nat.beq k 103 with
  | true =>
    rw [hb] at hk
    have : k = 103 := Nat.eq_of_beq_eq_true hb
    subst this
    exact insA_ok hk hM hR ha
  | false =>
    rw [hb] at hk
    dsimp only [cond_false] at hk
    split at hk
    · split at hk
      · rename_i h13
        cases hk
        subst h13
        have : args' = #[] := by
          cases args' with
          | mk l => cases l with
            | nil => rfl
            | cons x r => cases ha
        subst this
        exact known_of (fun u => (closed_true mixed u (no_known _ _ rfl) (awakeAnswers u)).2) (fun u => (closed_true mixed u (no_known _ _ rfl) (awakeAnswers u)).1) rfl hR
      · cases hk
    · cases hk

theorem eqbOK (w : World) : ∀ a b, (ctxW w).eqb a b = true → a = b := by
  intro a b h
  simpa [ctxW] using h

theorem funcsAny (P : Program) (l : List Nat) (k : FuncId) (F : IFunc) (h : (funcsFrom P l .leaf).get k = some F) : ∃ fn, P.funcs[k]? = some fn ∧ compFunc P fn = some F :=
  funcsFrom_ok P l .leaf (fun k F h => by rw [Trie.get_leaf] at h; cases h) k F h

theorem funcsOK (w : World) : FuncsOK Try.prog (ctxW w) := by
  intro k F h
  have e : (ctxW w).funcs = funcsFrom Try.prog (List.range 150) .leaf := by kernel_rfl
  rw [e] at h
  generalize List.range 150 = l at h
  exact funcsAny Try.prog l k F h

theorem w0W (w : World) : (ctxW w).w0 = w := rfl

theorem walk {v0 : Value} {l : List (UInt8 × UInt8 × UInt8)} (w : World) (hc0 : cleanS w.heap.size v0 = true) (hx : Row (ctxW w) (rawHeap w) v0 3 l.length (trip l)) :
    Calls Try.prog 11 #[v0] w fun e w' => e = .returned (.bool true) ∧ Below w.heap.size w w' := by
  refine lift_true (C := ctxW w) (w0W w) (eqbOK w) mixed (funcsOK w) (knownAll w) (args := [v0]) ?_ (wireAll_walk w (rawHeap_wf w) hx)
  exact .cons _ _ _ _ (cleanS_rel (rawPhi_old w) hc0) .nil

set_option maxRecDepth 100000 in
theorem lifted (os : Os) (started : os.Started) (H : Type) (enc : TypeId × Value → H) :
    ReturnsInHanded {} Try.checked os 11 .any (Rows.wireAllSpec.pre6 enc Try.prog Try.f11 Rows.wireAllRow.domain false) (Rows.wireAllSpec.post enc Try.prog Try.f11 false true false false) := by
  refine returnsInHanded_of_change (C := Try.checked) own started (by kernel_rfl) Try.func11
    (ChangeSpec.witness6 (enc := enc) (C := Try.checked) false ⟨#[], #[.slice none 0 0], []⟩ 8 (by kernel_rfl) (by kernel_rfl) (by kernel_rfl) (by kernel_rfl)) ?_
  intro W base args ds gs before hval0 hW hcnd _
  have hval : ∀ (j : Nat) t v, Try.f11.params[j]? = some t → args[j]? = some v → Value.okWide Try.prog W .any base t v := hval0
  have hW' := hW
  obtain ⟨p, q, hA0, hV, rfl, hfz, hnd⟩ := hW
  have hA : DataW.TrodAll enc Try.prog W 0 (fun _ => true) true Try.f11.params.toList args.toList ds p := hA0
  rw [Try.params11] at hA hval
  obtain ⟨v0, vs0, d0, ds0, p0, q0, hargs, rfl, rfl, h0, r0⟩ := trodAll_cons hA
  obtain ⟨rfl, rfl, rfl⟩ := trodAll_nil r0
  obtain rfl : args = #[v0] := by cases args; simp_all
  obtain ⟨rfl, rfl⟩ := trodVars_none hV
  have k0 := h0
  have lt0 : ∀ x ∈ p0, x.block < W.heap.size := by obtain ⟨m, hm⟩ := k0; exact DataW.trod_lt m _ _ _ hm
  obtain ⟨a1, l1, c1, rfl⟩ := okWide_slice Try.underlying60 (hval 0 60 v0 rfl rfl)
  obtain ⟨f0, hf0⟩ := h0
  have hf0' : DataW.trod enc Try.prog W 0 (fun _ => true) true f0 60 [.slice a1 l1 c1] = some (d0, p0) := hf0
  obtain ⟨l, cb, hb⟩ := open_trips (C := ctxW W) (w := W) (v := .slice a1 l1 c1) (w0W W) Try.underlying60 Try.underlying72 Try.underlying5 (by kernel_rfl) (by kernel_rfl) hf0'
  refine (walk W cb hb).mono fun e W' ⟨he, bel⟩ => ?_
  subst he
  exact ⟨_, rfl, _, _, _, [], _, [], hW', trodAll_mk1 (shut_bool Try.underlying4 _), (trodAll_cons_mk (Below.trod laidOut (by kernel_rfl) (of_decide_eq_true (by kernel_rfl)) k0 bel lt0) trodAll_mk0),
    rfl, bel.frame _, fun h => by cases h⟩

theorem over : Rows.wireAllRow.holds Try.pinned (OpenSpec.ofChange Rows.wireAllSpec) :=
  OpenClaim.holds_of_wide 11 Try.f11 rfl rfl rfl rfl rfl rfl rfl ⟨rfl, rfl, rfl, rfl, rfl⟩ rfl rfl rfl rfl rfl (by kernel_rfl) Try.func11 (by kernel_rfl)
    (of_decide_eq_true (by kernel_rfl)) (by unfold Func.isWrapper; first | (rw [if_pos (by decide +kernel)]; kernel_rfl) | (rw [if_neg (by decide +kernel)]; exact ⟨rfl, rfl⟩))
    (fun os started H enc _ => lifted os started H enc)

/-- The statement. -/
theorem proved : Rows.WireAllSaid := over
#print axioms proved
end Go.Proofs.Ytlikgpehalhgkaa.wireAll
