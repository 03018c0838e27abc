/-
  'StratNames' answers true and leaves all memory as it was. Its tied card: the three listed variables hold what the program's text lays.
  The call has no parameters: it is run by an evaluator that is proved sound against the kit's calculus, whatever the tape, the spare rooms and the orders of evaluation; the run is cut in pieces at calls, each run by the kernel from the objects that it looks at. strconv's table is looked at by one function alone, which is known at the numbers 1 and 2.
-/
import Derived.Test.YthigfnjbabcfnaaGreatDoorCards
import Derived.Test.YthigfnjbabcfnaaGreatDoorTie
import Derived.Test.YthigfnjbabcfnaaGreatDoorFac
import Derived.Test.YthigfnjbabcfnaaGreatDoorFad
import Derived.Test.YthigfnjbabcfnaaGreatDoorFnd
import Derived.Test.YthigfnjbabcfnaaGreatDoorRun6
import Derived.Shelf.Strconv.Itoa1
import Derived.Shelf.Lay
import Derived.WalkKit
import Derived.ProofKit
import Derived.LaidMore
import Derived.OpenShut
import Derived.Stop.Joined
import Derived.SevenTiedAt
namespace Go.Proofs
open Go.Shelf
shelf_lay LaysM.n284 Nm 284 at Tryz as Tryz.lays284
end Go.Proofs
namespace Go.Proofs.YthigfnjbabcfnaaGreatDoor.stratNames
open Go.ChangeShapes Go.WideShapes Go.ChangeAt Go.WideMaps Go.WideElems Go.RowKit

theorem own : ownKnob Tryz.prog.godebug = none := by kernel_rfl

theorem mixed : Tryz.prog.follows .mixedOrders = true := by kernel_rfl

abbrev laid3 {H : Type} : List (String × DataW H) :=
  [("math/bits.deBruijn32tab", Rows.laid_math_bits_deBruijn32tab), ("math/bits.deBruijn64tab", Rows.laid_math_bits_deBruijn64tab), ("internal/strconv.uint64pow10", Rows.laid_internal_strconv_uint64pow10)]

theorem table {H : Type} : (Rows.laid_internal_strconv_uint64pow10 : DataW H) = Lib.tabData .u64 Lib.pow10Tab := rfl

theorem place : Tryz.prog.globalNamed "internal/strconv.uint64pow10" = some 0 := by kernel_rfl

set_option maxRecDepth 100000 in
/-- The table, off the row's condition. -/
theorem tab_of {W : World} (h : laidMetH Tryz.prog laid3 W) : Lib.TabIs Tryz.prog W "internal/strconv.uint64pow10" .u64 Lib.pow10Tab := by
  rw [MakeChecks.laidMetH_plain _ _ _ (by kernel_rfl)] at h
  obtain ⟨ps, ⟨_, _, _, _, _, _, _, _, _, _, ⟨_, _, _, _, _, _, _, _, _, _, ⟨g, t, cs, fuel, p, q, hg, ht, hv, hd, _⟩, _⟩, _⟩, _⟩ := h
  obtain ⟨t', e', h1, h2, h3, h4, h5⟩ : ∃ t' e', (Tryz.prog.globals[0]?).map (·.type) = some t' ∧ Tryz.prog.underlying t' = some (.array 20 e') ∧ Tryz.prog.underlying e' = some (.int .u64) ∧ Tryz.prog.cellsOf e' = 1 ∧ Tryz.prog.cellsOf t' = 20 :=
    ⟨316, 258, by kernel_rfl, by kernel_rfl, by kernel_rfl, by kernel_rfl, by kernel_rfl⟩
  obtain rfl := Option.some.inj (place.symm.trans hg)
  obtain rfl := Option.some.inj (h1.symm.trans ht)
  unfold Lib.TabIs
  rw [hv, ← Lib.cells_of_tab h2 h3 h4 h5 (by rw [table] at hd; exact hd)]

theorem num : Tryz.lays284_ren.f 284 = 248 := by kernel_rfl

theorem digits {w w' : World} (ht : Lib.TabIs Tryz.prog w "internal/strconv.uint64pow10" .u64 Lib.pow10Tab) (hb : ∀ b, b < 1 → w'.heap[b]? = w.heap[b]?) (u : Int) (hu : u = 1 ∨ u = 2) :
    (callFunc 248 #[.int .u64 u]).run Tryz.prog w' = .ok (.enter 248 #[.int .u64 u]) w' ∧ Calls Tryz.prog 248 #[.int .u64 u] w' fun e w'' => e = .returned (.int .i64 1) ∧ w'' = w' := by
  refine ⟨enters_of Tryz.func248 (by kernel_rfl) rfl _ _, ?_⟩
  have ht' : Lib.TabIs Tryz.prog w' "internal/strconv.uint64pow10" .u64 Lib.pow10Tab := by
    unfold Lib.TabIs World.var? at ht ⊢
    rw [place] at ht ⊢
    simp only [Option.bind_some] at ht ⊢
    rw [hb 0 (by omega)]
    exact ht
  rcases hu with rfl | rfl
  · have h := Any.internal_strconv_numDigits Tryz.lays284 1 (by omega) (by omega) w' ht'
    rw [num, show Lib.nDigits 1 = 1 by kernel_rfl] at h
    exact h
  · have h := Any.internal_strconv_numDigits Tryz.lays284 2 (by omega) (by omega) w' ht'
    rw [num, show Lib.nDigits 2 = 1 by kernel_rfl] at h
    exact h

theorem base {w : World} (ht : Lib.TabIs Tryz.prog w "internal/strconv.uint64pow10" .u64 Lib.pow10Tab) : Ak.BaseOK Tryz.prog 1 St.kb w :=
  Ak.base_of (Ak.base_of Ak.base_nil (Ak.digits_ok fun w' hb u hu => digits ht hb u hu)) (Ak.noEscape_ok Tryz.func238 (by kernel_rfl) (by kernel_rfl) (by kernel_rfl) (by kernel_rfl))

theorem walk (w : World) (hl : laidMetH Tryz.prog laid3 w) : Calls Tryz.prog 3 #[] w fun e w' => e = .returned (.bool true) ∧ Below w.heap.size w w' := by
  have ht := tab_of hl
  have hB : 1 ≤ w.heap.size := by
    unfold Lib.TabIs World.var? at ht
    rw [place] at ht
    simp only [Option.bind_some] at ht
    cases hh : w.heap[0]? with
    | none => rw [hh] at ht; cases ht
    | some o => exact (Array.getElem?_eq_some_iff.1 hh).1
  exact (Ak.calls_of_ret (Ak.pieces_true mixed (Ak.funcs_of St.tab_ok) (base ht) hB (St.ok0 w) rfl rfl rfl rfl rfl rfl).2).mono fun e w' ⟨v, he, hv, hb⟩ => ⟨by rw [he, hv], hb⟩

set_option maxRecDepth 100000 in
/-- The door's own heap meets the condition. -/
theorem door_met (os : Os) (args : Array Value) : laidMetH Tryz.prog laid3 ((World.doorLaid Tryz.prog 400 os).forCall (fun _ _ => 0) ⟨#[], args, []⟩).memory :=
  laidMetH_of_parts3 (fuel := 8) (laidMet_of_run' 8 (by kernel_rfl) (by kernel_rfl)) (by kernel_rfl) (by kernel_rfl)

set_option maxRecDepth 100000 in
theorem lifted (os : Os) (started : os.Started) (H : Type) (enc : TypeId × Value → H) :
    ReturnsInHanded {} Tryz.checked os 3 .any (fun w args => (Rows.stratNamesSpec.pre enc Tryz.prog Tryz.f3 [] false w args ∧ laidMetH Tryz.prog laid3 w) ∧ sizedMet enc Tryz.prog Tryz.f3 (OpenSpec.ofChange Rows.stratNamesSpec) false w args)
      (Rows.stratNamesSpec.post enc Tryz.prog Tryz.f3 false true false false) := by
  refine returnsInHanded_of_change_and (C := Tryz.checked) (X := fun w _ => laidMetH Tryz.prog laid3 w) (fun _ _ _ hh h => h.of_heap hh) own started (by kernel_rfl) Tryz.func3
    (ChangeSpec.witness_shaped (enc := enc) (C := Tryz.checked) (os := os) (X := fun w _ => laidMetH Tryz.prog laid3 w) false (World.doorLaid Tryz.prog 400 os) #[] 8 rfl (World.shaped_of_RefB (by kernel_rfl) (by kernel_rfl)) (by kernel_rfl) (by kernel_rfl) (by kernel_rfl) (door_met os _)) ?_
  intro W base args ds gs before hval0 hW _ _ hL _
  have hW' := hW
  obtain ⟨p, q, hA0, hV, rfl, hfz, hnd⟩ := hW
  have hA : DataW.TrodAll enc Tryz.prog W 0 (fun _ => true) true Tryz.f3.params.toList args.toList ds p := hA0
  rw [Tryz.params3] at hA
  obtain ⟨hargs, rfl, rfl⟩ := trodAll_none hA
  obtain rfl : args = #[] := by cases args; simp_all
  obtain ⟨rfl, rfl⟩ := trodVars_none hV
  clear hA0
  refine (walk W hL).mono fun e W' ⟨he, bel⟩ => ?_
  subst he
  exact ⟨_, rfl, _, _, _, [], _, [], hW', trodAll_mk1 (shut_bool Tryz.underlying4 _), trodAll_mk0, rfl, bel.frame _, fun h => by cases h⟩

theorem both {a b : Bool} (h : a = true) (k : b = true) : (a && b) = true := by rw [h, k]; rfl

set_option maxRecDepth 100000 in
theorem closed : joinedFacts Tryz.pinned.checked.prog 3 Tryz.f3 Rows.stratNamesSpec Rows.stratNamesRow = true := by
  unfold joinedFacts
  exact (both (both (both (both (both (both (both (both (both (both (both (both (both (both (both (both (both (both (both (both (both (both (both (both (both (both (both (both (both (both (both k1 k2) k3) k4) k5) k6) k7) k8) k9) k10) k11) k12) k13) k14) k15) k16) k17) k18) k19) k20) k21) k22) k23) k24) k25) k26) k27) k28) k29) k30) k31) k32)

theorem over : Rows.StratNamesSaid :=
  OpenClaim.holds_of_wide 3 Tryz.f3 rfl rfl rfl rfl rfl rfl rfl ⟨rfl, rfl, rfl, rfl, rfl⟩ rfl rfl rfl rfl rfl kf Tryz.func3 closed
    (of_decide_eq_true (by kernel_rfl)) (by unfold Func.isWrapper; first | (rw [if_pos (by decide +kernel)]; kernel_rfl) | (rw [if_neg (by decide +kernel)]; exact ⟨rfl, rfl⟩))
    (fun os started H enc _ => lifted os started H enc)

/-- The statement. -/
theorem proved : Rows.StratNamesCardSaid :=
  Claim7.holds_tied_plain_at .later [] [.data, .data, .data] true (true, "4181692667e31413760a8f5cff7f37bef1a2a82b927e91f82a90f021409d1c6f") false
    over (fun _ h => by cases h) kw (fun _ h => by cases h) stratNames_row_tie rfl ⟨rfl, rfl⟩ km rfl
    (fun f fn hf hfn => by
      obtain rfl : f = 3 := Option.some.inj (kf.symm.trans hf) |>.symm
      obtain rfl : fn = Tryz.f3 := (Option.some.inj (Tryz.func3.symm.trans hfn)).symm
      exact ⟨kl, fun j t ht => by
        rw [Tryz.params3] at ht
        simp at ht⟩)
    kg
#print axioms proved
end Go.Proofs.YthigfnjbabcfnaaGreatDoor.stratNames
