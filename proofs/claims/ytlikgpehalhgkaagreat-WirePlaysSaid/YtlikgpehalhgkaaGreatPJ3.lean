/-
  'WirePlays' answers true and leaves all memory as it was. No condition.
  Its walk is one of an evaluator that is proved sound against the kit's calculus: contracts of the functions that it reaches (acts on lines, one after the other; the program's and the reference's), one known answer of a library function that is proved from its code, one closed call by the kernel.
-/
import Derived.Test.YtlikgpehalhgkaaGreatRows
import Derived.Test.YtlikgpehalhgkaaGreatPO1
import Derived.Test.YtlikgpehalhgkaaGreatPP3
import Derived.Test.YtlikgpehalhgkaaGreatPWAc
import Derived.Test.YtlikgpehalhgkaaGreatPWB
import Derived.WalkKit
import Derived.ProofKit
import Derived.OpenShut
import Derived.ShutString
import Derived.ChangeOld
import Derived.ChangeSame
import Derived.Carry
import Derived.Below
namespace Go.Proofs.YtlikgpehalhgkaaGreat.wirePlays
open Go.ChangeShapes Go.WideShapes Go.ChangeAt Go.RowKit Go.Ai Go.Ai.Wire

theorem own : ownKnob Tryz.prog.godebug = none := by kernel_rfl
theorem laidOut : laidOutB Tryz.prog = true := by kernel_rfl
theorem mixed : Tryz.prog.follows .mixedOrders = true := by kernel_rfl

set_option maxRecDepth 100000 in
theorem awakeAnswers (w : World) : isTrue (run (ctxOf Tryz.prog 150 (fun _ _ _ => none) w) 100000 7 [] emptyHeap) = true := by kernel_rfl

theorem knownAll (w : World) : KnownOK Tryz.prog (ctxW w) := by
  intro k args M0 v p hk φ M u args' hM _ hR ha
  have hk : knownW k args M0 = some (v, p) := hk
  unfold knownW at hk
  cases hb : Nat.beq k 111 with
  | true =>
    rw [hb] at hk
    have : k = 111 := Nat.eq_of_beq_eq_true hb
    subst this
    exact insA_ok hk hM hR ha
  | false =>
    rw [hb] at hk
    dsimp only [cond_false] at hk
    split at hk
    · split at hk
      · rename_i h7
        cases hk
        subst h7
        have : args' = #[] := by
          cases args' with
          | mk l => cases l with
            | nil => rfl
            | cons x r => cases ha
        subst this
        exact known_of (fun u => (closed_true mixed u (no_known _ _ rfl) (awakeAnswers u)).2) (fun u => (closed_true mixed u (no_known _ _ rfl) (awakeAnswers u)).1) rfl hR
      · cases hk
    · cases hk

theorem eqbOK (w : World) : ∀ a b, (ctxW w).eqb a b = true → a = b := by
  intro a b h
  simpa [ctxW] using h

theorem funcsAny (P : Program) (l : List Nat) (k : FuncId) (F : IFunc) (h : (funcsFrom P l .leaf).get k = some F) : ∃ fn, P.funcs[k]? = some fn ∧ compFunc P fn = some F :=
  funcsFrom_ok P l .leaf (fun k F h => by rw [Trie.get_leaf] at h; cases h) k F h

theorem funcsOK (w : World) : FuncsOK Tryz.prog (ctxW w) := by
  intro k F h
  have e : (ctxW w).funcs = funcsFrom Tryz.prog (List.range 150) .leaf := by kernel_rfl
  rw [e] at h
  generalize List.range 150 = l at h
  exact funcsAny Tryz.prog l k F h

theorem w0W (w : World) : (ctxW w).w0 = w := rfl

theorem itemT : ItT Tryz.prog 22 82 := ⟨Tryz.underlying22, ⟨_, _, _, Tryz.underlying82, rfl, rfl, rfl, rfl, Tryz.underlying3, by kernel_rfl, by kernel_rfl, 5, Tryz.underlying32, Tryz.underlying5, by kernel_rfl⟩, by kernel_rfl⟩
theorem flightT : ItT Tryz.prog 26 53 := ⟨Tryz.underlying26, ⟨_, _, _, Tryz.underlying53, rfl, rfl, rfl, rfl, Tryz.underlying3, by kernel_rfl, by kernel_rfl, 5, Tryz.underlying32, Tryz.underlying5, by kernel_rfl⟩, by kernel_rfl⟩
theorem endT : EndT Tryz.prog 24 3 22 82 := ⟨⟨_, _, _, _, _, Tryz.underlying24, rfl, rfl, rfl, rfl, rfl, rfl, rfl, rfl, rfl, rfl, rfl, rfl⟩, Tryz.underlying3, itemT, by kernel_rfl, by kernel_rfl, by kernel_rfl⟩
theorem lineT : LineT Tryz.prog 28 25 24 3 22 82 26 53 := ⟨⟨_, _, _, Tryz.underlying28, rfl, rfl, rfl, rfl, rfl, rfl⟩, Tryz.underlying25, endT, flightT, by kernel_rfl, by kernel_rfl, by kernel_rfl⟩

theorem actT : ActT Tryz.prog 34 5 3 32 5 := ⟨⟨_, _, _, _, _, _, _, Tryz.underlying34, ⟨rfl, rfl, rfl, rfl, rfl, rfl⟩, ⟨rfl, rfl, rfl, rfl, rfl, rfl⟩, rfl, rfl, rfl, rfl, rfl, rfl⟩, Tryz.underlying5, Tryz.underlying3, Tryz.underlying32, Tryz.underlying5, by kernel_rfl, by kernel_rfl, by kernel_rfl, by kernel_rfl, by kernel_rfl⟩

theorem walk {v0 v1 : Value} {x : LineA} {l : List ActA} (w : World) (hc0 : clean w.heap.size v0 = true) (hc1 : clean w.heap.size v1 = true) (hx : LineR (ctxW w) (rawHeap w) x v0) (hA : Acts (ctxW w) (rawHeap w) v1 l) :
    Calls Tryz.prog 3 #[v0, v1] w fun e w' => e = .returned (.bool true) ∧ Below w.heap.size w w' := by
  refine lift_true (C := ctxW w) (w0W w) (eqbOK w) mixed (funcsOK w) (knownAll w) (args := [v0, v1]) ?_ (wirePlays_walk w (rawHeap_wf w) hx hA)
  exact .cons _ _ _ _ (clean_rel (rawPhi_old w) hc0) (.cons _ _ _ _ (clean_rel (rawPhi_old w) hc1) .nil)

set_option maxRecDepth 100000 in
theorem lifted (os : Os) (started : os.Started) (H : Type) (enc : TypeId × Value → H) :
    ReturnsInHanded {} Tryz.checked os 3 .any (Rows.wirePlaysSpec.pre6 enc Tryz.prog Tryz.f3 Rows.wirePlaysRow.domain false) (Rows.wirePlaysSpec.post enc Tryz.prog Tryz.f3 false true false false) := by
  refine returnsInHanded_of_change (C := Tryz.checked) own started (by kernel_rfl) Tryz.func3
    (ChangeSpec.witness6 (enc := enc) (C := Tryz.checked) false ⟨#[], #[.agg #[.int .i64 0, .slice none 0 0, .int .i64 0, .slice none 0 0, .int .i64 0, .slice none 0 0, .int .i64 0, .slice none 0 0, .slice none 0 0], .slice none 0 0], []⟩ 8 (by kernel_rfl) (by kernel_rfl) (by kernel_rfl) (by kernel_rfl)) ?_
  intro W base args ds gs before hval0 hW hcnd _
  have hval : ∀ (j : Nat) t v, Tryz.f3.params[j]? = some t → args[j]? = some v → Value.okWide Tryz.prog W .any base t v := hval0
  have hW' := hW
  obtain ⟨p, q, hA0, hV, rfl, hfz, hnd⟩ := hW
  have hA : DataW.TrodAll enc Tryz.prog W 0 (fun _ => true) true Tryz.f3.params.toList args.toList ds p := hA0
  rw [Tryz.params3] at hA hval
  obtain ⟨v0, vs0, d0, ds0, p0, q0, hargs, rfl, rfl, h0, r0⟩ := trodAll_cons hA
  obtain ⟨v1, vs1, d1, ds1, p1, q1, rfl, rfl, rfl, h1, r1⟩ := trodAll_cons r0
  obtain ⟨rfl, rfl, rfl⟩ := trodAll_nil r1
  obtain rfl : args = #[v0, v1] := by cases args; simp_all
  obtain ⟨rfl, rfl⟩ := trodVars_none hV
  have k0 := h0
  have k1 := h1
  have lt0 : ∀ x ∈ p0, x.block < W.heap.size := by obtain ⟨m, hm⟩ := k0; exact DataW.trod_lt m _ _ _ hm
  have lt1 : ∀ x ∈ p1, x.block < W.heap.size := by obtain ⟨m, hm⟩ := k1; exact DataW.trod_lt m _ _ _ hm
  obtain ⟨cs, rfl, hsz⟩ := okWide_struct Tryz.underlying28 (hval 0 28 v0 rfl rfl)
  obtain ⟨sa, sl, sc, rfl⟩ := okWide_slice Tryz.underlying29 (hval 1 29 v1 rfl rfl)
  obtain ⟨f0, hf0⟩ := h0
  obtain ⟨f1, hf1⟩ := h1
  have hf1' : DataW.trod enc Tryz.prog W 0 (fun _ => true) true f1 29 [.slice sa sl sc] = some (d1, p1) := hf1
  obtain ⟨x, hc, hx⟩ := open_line (C := ctxW W) (w := W) (w0W W) lineT (v := cs) hf0
  obtain ⟨l, c1, hb⟩ := open_acts (C := ctxW W) (w := W) (w0W W) Tryz.underlying29 actT hf1'
  refine (walk W hc (by simpa [clean] using c1) hx hb).mono fun e W' ⟨he, bel⟩ => ?_
  subst he
  exact ⟨_, rfl, _, _, _, [], _, [], hW', trodAll_mk1 (shut_bool Tryz.underlying4 _), (trodAll_cons_mk (Below.trod laidOut (by kernel_rfl) (of_decide_eq_true (by kernel_rfl)) k0 bel lt0) (trodAll_cons_mk (Below.trod laidOut (by kernel_rfl) (of_decide_eq_true (by kernel_rfl)) k1 bel lt1) trodAll_mk0)),
    rfl, bel.frame _, fun h => by cases h⟩

theorem over : Rows.wirePlaysRow.holds Tryz.pinned (OpenSpec.ofChange Rows.wirePlaysSpec) :=
  OpenClaim.holds_of_wide 3 Tryz.f3 rfl rfl rfl rfl rfl rfl rfl ⟨rfl, rfl, rfl, rfl, rfl⟩ rfl rfl rfl rfl rfl (by kernel_rfl) Tryz.func3 (by kernel_rfl)
    (of_decide_eq_true (by kernel_rfl)) (by unfold Func.isWrapper; first | (rw [if_pos (by decide +kernel)]; kernel_rfl) | (rw [if_neg (by decide +kernel)]; exact ⟨rfl, rfl⟩))
    (fun os started H enc _ => lifted os started H enc)

/-- The statement. -/
theorem proved : Rows.WirePlaysSaid := over
#print axioms proved
end Go.Proofs.YtlikgpehalhgkaaGreat.wirePlays
