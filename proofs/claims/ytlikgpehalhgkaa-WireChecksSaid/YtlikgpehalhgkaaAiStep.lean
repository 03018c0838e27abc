/-
  One operation: from the evaluator's step to an event, from an event to the walk of the model.
-/
import Derived.Test.YtlikgpehalhgkaaAiSwap
import Derived.RangeFuncRecord
import Derived.RangeFuncNested
namespace Go.Ai

/-- The fence: none, in or out of a round. -/
def fen : Option Nat → Fence
  | none => Fence.wide
  | some l => Fence.wide.inRound l

def retPost (K : Value → World → Prop) : Ending → World → Prop
  | .returned v, w => K v w
  | _, _ => False

/-- A call of a value at arguments. -/
def Upon (P : Program) (w : World) (f : Value) (args : Array Value) (K : Value → World → Prop) : Prop :=
  match f with
  | .func (.func k) first cap => (callFunc k (first ++ args ++ cap)).run P w = .ok (.enter k (first ++ args ++ cap)) w ∧ CallsIn Fence.wide 0 P k (first ++ args ++ cap) w (retPost K)
  | .func (.yield l) first _ => ∃ r, w.heap[l]? = some (.loop r) ∧ (first ++ args).size = r.params.size ∧
      RoundIn Fence.wide 0 P l r.fn ((r.params.zip (first ++ args)).foldl (fun tmps (t, a) => tmps.setIfInBounds t a) r.tmps) r.assign r.body w (retPost K)
  | _ => False

theorem callsIn_fen {ro : Option Nat} {n : Nat} {P : Program} {f : FuncId} {args : Array Value} {w : World} {K : Ending → World → Prop} :
    CallsIn (fen ro) n P f args w K ↔ CallsIn Fence.wide n P f args w K := by cases ro <;> exact Iff.rfl
theorem roundIn_fen {ro : Option Nat} {n : Nat} {P : Program} {l : Nat} {f : FuncId} {tmps : Array Value} {x y : Code} {w : World} {K : Ending → World → Prop} :
    RoundIn (fen ro) n P l f tmps x y w K ↔ RoundIn Fence.wide n P l f tmps x y w K := by cases ro <;> exact Iff.rfl
theorem fen_fn (ro : Option Nat) (f : FuncId) : (fen ro).fn f := by cases ro <;> trivial
theorem fen_depth (ro : Option Nat) : (fen ro).depth.isSome = true → 1 ≤ 0 := by cases ro <;> simp [fen, Fence.wide, Fence.inRound]
theorem fen_round (ro : Option Nat) : (fen ro).round = ro := by cases ro <;> rfl

section
variable (P : Program) (C : Ctx)

/-- The oracle's calls are sound. -/
def CallsOK (o : Orc) : Prop := ∀ (f : Value) (args : List Value) (H : AHeap) (v : Value) (H' : AHeap), o.call f args H = some (v, H') → WF H → Grow H H' ∧
  ∀ (φ : Phi) (M : Nat → Option AObj) (w : World) (f' : Value) (args' : Array Value), Ext H M → Fresh H H' M → R P C φ M w → VRel φ f f' → VsRel φ args args'.toList →
    Upon P w f' args' fun v' w' => ∃ φ', φ.le φ' ∧ VRel φ' v v' ∧ R P C φ' (over H' M) w'

variable {P C} {o : Orc} {H H' : AHeap} {T T' : Env} {M : Nat → Option AObj} {x : IOper} {i : Info}

/-! ### the evaluator's step -/
theorem get_lt (hw : WF H) {b : Nat} (h : H.get b ≠ none) : b < H.next := by
  unfold AHeap.get at h
  unfold AHeap.next
  split at h
  · omega
  · rcases Nat.lt_or_ge (b - H.base) H.cnt with h1 | h1
    · omega
    · exact absurd (hw _ h1) h

theorem apply_spec (hw : WF H) {out : AOut} (hput : ∀ b x, out.put = some (b, x) → H.get b ≠ none ∧ H.get b ≠ some .raw) :
    Grow H (H.apply out) ∧ ∀ b, (H.apply out).get b = patch H.get H.next out b := by
  obtain ⟨base, t, cnt⟩ := H
  obtain ⟨v, put, new, rd⟩ := out
  have hb : ∀ b x, put = some (b, x) → base ≤ b ∧ b - base < cnt := fun b x he => by
    obtain ⟨h1, h2⟩ := hput b x he
    have h3 := get_lt hw h1
    refine ⟨?_, ?_⟩
    · rcases Nat.lt_or_ge b base with h | h
      · exact absurd (by simp [AHeap.get, h]) h2
      · exact h
    · rcases Nat.lt_or_ge b base with h | h
      · exact absurd (by simp [AHeap.get, h]) h2
      · simp only [AHeap.next] at h3; omega
  have hw' : ∀ j, cnt ≤ j → t.get j = none := hw
  cases put with
  | none =>
    cases new with
    | none => exact ⟨⟨rfl, Nat.le_refl _, fun h => h⟩, fun b => rfl⟩
    | some y =>
      refine ⟨⟨rfl, Nat.le_succ _, fun _ j hj => ?_⟩, fun b => ?_⟩
      · show (t.put cnt y).get j = none
        have hj' : cnt + 1 ≤ j := hj
        rw [Trie.get_put, if_neg (by omega)]
        exact hw' j (by omega)
      · show (if b < base then some AObj.raw else (t.put cnt y).get (b - base)) = (if b = base + cnt then some y else if b < base then some AObj.raw else t.get (b - base))
        rw [Trie.get_put]
        by_cases h1 : b < base
        · simp [h1]; omega
        · by_cases h2 : b = base + cnt
          · subst h2; simp; intro h; omega
          · rw [if_neg h1, if_neg (by omega), if_neg h2, if_neg h1]
  | some p =>
    obtain ⟨c, z⟩ := p
    obtain ⟨hc1, hc2⟩ := hb c z rfl
    cases new with
    | none =>
      refine ⟨⟨rfl, Nat.le_refl _, fun _ j hj => ?_⟩, fun b => ?_⟩
      · show (t.put (c - base) z).get j = none
        have hj' : cnt ≤ j := hj
        rw [Trie.get_put, if_neg (by omega)]
        exact hw' j hj'
      · show (if b < base then some AObj.raw else (t.put (c - base) z).get (b - base)) = (if b = c then some z else if b < base then some AObj.raw else t.get (b - base))
        rw [Trie.get_put]
        by_cases h1 : b < base
        · simp [h1]; omega
        · by_cases h2 : b = c
          · subst h2; simp [h1]
          · rw [if_neg h1, if_neg (by omega), if_neg h2, if_neg h1]
    | some y =>
      refine ⟨⟨rfl, Nat.le_succ _, fun _ j hj => ?_⟩, fun b => ?_⟩
      · show ((t.put (c - base) z).put cnt y).get j = none
        have hj' : cnt + 1 ≤ j := hj
        rw [Trie.get_put, if_neg (by omega), Trie.get_put, if_neg (by omega)]
        exact hw' j (by omega)
      · show (if b < base then some AObj.raw else ((t.put (c - base) z).put cnt y).get (b - base)) =
          (if b = base + cnt then some y else if b = c then some z else if b < base then some AObj.raw else t.get (b - base))
        rw [Trie.get_put, Trie.get_put]
        by_cases h1 : b < base
        · simp [h1]
          rw [if_neg (by omega), if_neg (by omega)]
        · by_cases h2 : b = base + cnt
          · subst h2; simp; intro h; omega
          · rw [if_neg h1, if_neg (by omega), if_neg h2]
            by_cases h3 : b = c
            · subst h3; simp
            · rw [if_neg (by omega), if_neg h3, if_neg h1]

/-- The step gives an event. -/
theorem step_ev (hcall : ∀ f as H v H', o.call f as H = some (v, H') → WF H → Grow H H') (hw : WF H) (h : stepA C o x T H = some (T', H', i)) :
    Grow H H' ∧ ∀ M, Ext H M → Fresh H H' M → ∃ e : Eff, e.info = i ∧ e.ok C o x T.val M ∧ T'.val = upT T.val x.dst e.val ∧ e.mem M = over H' M ∧ (isPure x.op = true → i = .exp [] []) := by
  unfold stepA at h
  cases hg : wantedA T.val x.g with
  | none => rw [hg] at h; cases h
  | some b =>
    rw [hg] at h
    cases b with
    | false =>
      cases h
      refine ⟨⟨rfl, Nat.le_refl _, fun h => h⟩, fun M hM _ => ⟨.skip, rfl, hg, putDst_val _ _ _, ?_, fun _ => rfl⟩⟩
      funext b
      show M b = over H M b
      unfold over
      split
      · exact hM b (by assumption)
      · rfl
    | true =>
      dsimp only at h
      split at h
      · rename_i f as hop
        split at h
        · rename_i v H1 hc
          cases h
          have hgr := hcall _ _ _ _ _ hc hw
          exact ⟨hgr, fun M hM hF => ⟨.call H H' v, rfl, ⟨hg, f, as, hop, hc, ⟨hw, hgr⟩, hM, hF⟩, putDst_val _ _ _, rfl, fun hp => by rw [hop] at hp; simp [isPure] at hp⟩⟩
        · cases h
      · rename_i hop
        split at h
        · rename_i out ho
          cases h
          have hloc := evalOp_local ho
          have hput : ∀ b x, out.put = some (b, x) → H.get b ≠ none ∧ H.get b ≠ some .raw := fun b x he =>
            let ⟨h1, h2, _⟩ := hloc.turns b x he
            ⟨hloc.there b h1, h2⟩
          obtain ⟨hgr, hap⟩ := apply_spec hw hput
          refine ⟨hgr, fun M hM hF => ⟨.exp H.next out, rfl, ⟨hg, ?_, ?_, ?_⟩, putDst_val _ _ _, ?_, ?_⟩⟩
          · cases hx : x.op <;> first | rfl | exact absurd hx (hop _ _)
          · exact hloc.again M fun b hb => hM b (get_lt hw (hloc.there b hb))
          · intro hn
            refine hF _ (Nat.le_refl _) ?_
            unfold AHeap.apply AHeap.push AHeap.next
            cases hnew : out.new with
            | none => exact absurd hnew hn
            | some y => cases hpp : out.put with
              | none => simp
              | some p => simp [AHeap.put]
          · funext b
            show patch M H.next out b = over (H.apply out) M b
            unfold over
            by_cases hb : b ∈ out.mods H.next
            · have hlt : b < (H.apply out).next := by
                refine get_lt (hgr.wf hw) ?_
                rw [hap]
                unfold AOut.mods at hb
                unfold patch
                cases hpp : out.put with
                | none => cases hnn : out.new with
                  | none => simp [hpp, hnn] at hb
                  | some y => simp [hpp, hnn] at hb; simp [upd, hb]
                | some p => cases hnn : out.new with
                  | none => simp [hpp, hnn] at hb; simp [upd, hb]
                  | some y => simp [hpp, hnn] at hb; rcases hb with rfl | rfl <;> simp [upd]; split <;> simp
              rw [if_pos hlt, hap]
              exact patch_other hb
            · rw [patch_same hb, hap, patch_same hb]
              split
              · rename_i hlt
                by_cases h2 : b < H.next
                · exact hM b h2
                · have : M b = none := hF b (by omega) hlt
                  rw [this]
                  cases hgg : H.get b with
                  | none => rfl
                  | some y => exact absurd (get_lt hw (by rw [hgg]; simp)) h2
              · rfl
          · intro hp
            cases hx : x.op <;> rw [hx] at hp <;> simp only [isPure, Bool.false_eq_true] at hp <;> rw [hx] at ho <;> simp only [evalOp, Option.map_eq_some_iff] at ho <;>
              (repeat' split at ho) <;> (first | (obtain ⟨_, _, rfl⟩ := ho) | cases ho | skip) <;> (first | rfl | skip) <;>
              (try simp only [Option.map_eq_some_iff] at ho) <;> (try obtain ⟨_, _, rfl⟩ := ho) <;> (try rfl)
        · cases h

end
end Go.Ai
