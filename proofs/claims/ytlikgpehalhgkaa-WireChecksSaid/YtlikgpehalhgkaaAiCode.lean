/-
  Code: the evaluator's way through it, and the model's walk.
-/
import Derived.Test.YtlikgpehalhgkaaAiRegion
namespace Go.Ai

def AExit.exit' : AExit → Exit
  | .normal => .normal
  | .exit id => .exit id
  | .ret => .ret

def DsRel (φ : Phi) : List Nat → List Deferred → Prop
  | [], [] => True
  | d :: ds, x :: xs => (∃ l, φ d 0 = some l ∧ x.target = .collected l.cb) ∧ DsRel φ ds xs
  | _, _ => False

theorem DsRel.mono {φ ψ : Phi} (h : φ.le ψ) : ∀ {ds : List Nat} {xs : List Deferred}, DsRel φ ds xs → DsRel ψ ds xs
  | [], [], _ => trivial
  | _ :: _, _ :: _, ⟨⟨l, h1, h2⟩, h3⟩ => ⟨⟨l, h _ _ _ h1, h2⟩, h3.mono h⟩
  | [], _ :: _, h => h.elim
  | _ :: _, [], h => h.elim

def RoRel (φ : Phi) : Option Nat → Option Nat → Prop
  | none, none => True
  | some g, some c => ∃ l, φ g 0 = some l ∧ l.cb = c
  | _, _ => False

theorem RoRel.mono {φ ψ : Phi} (h : φ.le ψ) {a b : Option Nat} (k : RoRel φ a b) : RoRel ψ a b := by
  cases a <;> cases b <;> first | trivial | exact k.elim | exact let ⟨l, h1, h2⟩ := k; ⟨l, h _ _ _ h1, h2⟩

section
variable (P : Program) (C : Ctx)

def Post (φ : Phi) (a : Act) (e : AExit) (s' : St) (M : Nat → Option AObj) : Exit → Act → World → Prop := fun x a' w' =>
  x = e.exit' ∧ ∃ φ', φ.le φ' ∧ TRel φ' s'.T.val a'.tmps ∧ R P C φ' (over s'.H M) w' ∧ a'.tmps.size = a.tmps.size ∧ DsRel φ' s'.ds a'.defers

structure CodeOK (ro : Option Nat) (code : Code) (nt : Nat) (s : St) (e : AExit) (s' : St) : Prop where
  grow : Grow s.H s'.H
  ds : ∃ pre, s'.ds = pre ++ s.ds ∧ (ro ≠ none → pre = [])
  walk : ∀ (φ : Phi) (M : Nat → Option AObj) (a : Act) (w : World) (ro' : Option Nat), Ext s.H M → Fresh s.H s'.H M → R P C φ M w → TRel φ s.T.val a.tmps → nt ≤ a.tmps.size → DsRel φ s.ds a.defers → RoRel φ ro ro' →
    code.wpIn (fen ro') 0 P (Post P C φ a e s' M) a w

def LoopsOK (o : Orc) : Prop := ∀ (ro : Option Nat) (code : Code) (nt : Nat) (s : St) (e : AExit) (s' : St), o.loop ro (compCode P nt code) s = some (e, s') → WF s.H → CodeOK P C ro (.loop code) nt s e s'

variable {P C} {o : Orc}

theorem Post.later {φ φ1 : Phi} {a a1 : Act} {e : AExit} {s1 s' : St} {M : Nat → Option AObj} {x : Exit} {a' : Act} {w' : World} (h : Post P C φ1 a1 e s' (over s1.H M) x a' w') (hle : φ.le φ1) (hs : a1.tmps.size = a.tmps.size)
    (hn : s1.H.next ≤ s'.H.next) : Post P C φ a e s' M x a' w' := by
  obtain ⟨h1, φ', h2, h3, h4, h5, h6⟩ := h
  rw [over_over hn] at h4
  exact ⟨h1, φ', Phi.le_trans hle h2, h3, h4, h5.trans hs, h6⟩

/-- Where nothing has become of the memory. -/
theorem Post.here {φ : Phi} {a : Act} {e : AExit} {s : St} {M : Nat → Option AObj} {w : World} (hE : Ext s.H M) (hR : R P C φ M w) (hT : TRel φ s.T.val a.tmps) (hD : DsRel φ s.ds a.defers) : Post P C φ a e s M e.exit' a w :=
  ⟨rfl, φ, Phi.le_refl φ, hT, by rw [over_self hE]; exact hR, rfl, hD⟩

/-- One after the other. -/
theorem seq_ok {ro : Option Nat} {x y : Code} {nt : Nat} {s s1 : St} {e : AExit} {s' : St} (h1 : CodeOK P C ro x nt s .normal s1) (h2 : CodeOK P C ro y nt s1 e s') : CodeOK P C ro (.seq x y) nt s e s' := by
  refine ⟨h1.grow.trans h2.grow, ?_, fun φ M a w ro' hE hF hR hT hnt hD hro => ?_⟩
  · obtain ⟨p1, e1, q1⟩ := h1.ds
    obtain ⟨p2, e2, q2⟩ := h2.ds
    exact ⟨p2 ++ p1, by rw [e2, e1, List.append_assoc], fun h => by rw [q1 h, q2 h]; rfl⟩
  · refine wpIn_seq (wpIn_mono (h1.walk φ M a w ro' hE (hF.left h2.grow) hR hT hnt hD hro) ?_)
    rintro x a1 w1 ⟨rfl, φ1, hle, hT1, hR1, hs1, hD1⟩
    exact wpIn_mono (h2.walk φ1 (over s1.H M) a1 w1 ro' (ext_over _ _) (hF.right h1.grow) hR1 hT1 (hs1 ▸ hnt) hD1 (hro.mono hle)) fun x a' w' hp => hp.later hle hs1 h2.grow.next

theorem seq_ok_left {ro : Option Nat} {x y : Code} {nt : Nat} {s : St} {e : AExit} {s' : St} (h1 : CodeOK P C ro x nt s e s') (hne : e ≠ .normal) : CodeOK P C ro (.seq x y) nt s e s' := by
  refine ⟨h1.grow, h1.ds, fun φ M a w ro' hE hF hR hT hnt hD hro => ?_⟩
  refine wpIn_seq (wpIn_mono (h1.walk φ M a w ro' hE hF hR hT hnt hD hro) ?_)
  intro x a1 w1 hp
  have hx := hp.1
  cases e with
  | normal => exact absurd rfl hne
  | exit id => subst hx; exact hp
  | ret => subst hx; exact hp

theorem block_ok {ro : Option Nat} {id : Nat} {x : Code} {nt : Nat} {s : St} {e : AExit} {s' : St} (h1 : CodeOK P C ro x nt s e s') :
    CodeOK P C ro (.block id x) nt s (match e with | .exit i => if i = id then .normal else .exit i | e => e) s' := by
  refine ⟨h1.grow, h1.ds, fun φ M a w ro' hE hF hR hT hnt hD hro => ?_⟩
  refine wpIn_block (wpIn_mono (h1.walk φ M a w ro' hE hF hR hT hnt hD hro) ?_)
  intro x a1 w1 hp
  have hx := hp.1
  cases e with
  | normal => subst hx; exact hp
  | exit i =>
    subst hx
    show if i = id then _ else _
    by_cases hi : i = id
    · rw [if_pos hi]
      simp only [hi, if_true]
      exact ⟨rfl, hp.2⟩
    · rw [if_neg hi]
      simp only [hi, if_false]
      exact hp
  | ret => subst hx; exact hp

theorem cond_ok {ro : Option Nat} {c : Operand} {y : IOpd} {b : Bool} {x z : Code} {nt : Nat} {s : St} {e : AExit} {s' : St} (hc : opd c = some y) (hv : y.val s.T.val = .bool b) (h1 : CodeOK P C ro (if b then x else z) nt s e s') :
    CodeOK P C ro (.cond c x z) nt s e s' := by
  refine ⟨h1.grow, h1.ds, fun φ M a w ro' hE hF hR hT hnt hD hro => ?_⟩
  have := opds_of hT c y hc
  rw [hv] at this
  exact wpIn_cond (bool_inv this) (h1.walk φ M a w ro' hE hF hR hT hnt hD hro)

/-- A region of the evaluator. -/
theorem region_ok (hE : ∀ a b, C.eqb a b = true → a = b) (hmo : P.follows .mixedOrders = true) (hcall : CallsOK P C o) {ro : Option Nat} {id : Nat} {ops : Array Oper} {draw : Bool} {nt : Nat} {s : St} {e : AExit} {s' : St} (hw : WF s.H)
    (h : codeA C o ro (compRegion P nt ops draw) s = some (e, s')) : CodeOK P C ro (.region id ops draw) nt s e s' := by
  unfold compRegion at h
  dsimp only at h
  cases draw with
  | false =>
    simp only [Bool.false_eq_true, if_false, codeA] at h
    split at h
    · rename_i T' H' ho
      cases h
      refine ⟨ops_grow hcall _ _ _ _ _ ho hw, ⟨[], rfl, fun _ => rfl⟩, fun φ M a w ro' hX hF hR hT hnt hD hro => ?_⟩
      exact region_sound hcall ho hw hX hF hT hR hnt fun φ' a' w' hle hT' hR' hs hd => ⟨rfl, φ', hle, hT', hR', hs, by rw [hd]; exact hD.mono hle⟩
    · cases h
  | true =>
    simp only [if_true] at h
    split at h
    · rename_i hok
      simp only [Bool.and_eq_true] at hok
      simp only [codeA] at h
      split at h
      · rename_i T' H' ho
        cases h
        refine ⟨dops_grow hcall _ _ _ _ _ _ ho hw, ⟨[], rfl, fun _ => rfl⟩, fun φ M a w ro' hX hF hR hT hnt hD hro => ?_⟩
        exact dregion_sound hE hmo hcall rfl hok.1 hok.2 ho hw hX hF hT hR hnt fun φ' a' w' hle hT' hR' hs hd => ⟨rfl, φ', hle, hT', hR', hs, by rw [hd]; exact hD.mono hle⟩
      · cases h
    · simp only [codeA] at h; cases h

/-! ### a loop over a function -/
theorem push_spec (H : AHeap) (o : AObj) (hw : WF H) : Grow H (H.push o) ∧ (H.push o).next = H.next + 1 ∧ (∀ b, b < H.next → (H.push o).get b = H.get b) ∧ (H.push o).get H.next = some o := by
  obtain ⟨hg, hp⟩ := apply_spec hw (out := { v := undef, new := some o }) (by simp)
  have e : H.apply { v := undef, new := some o } = H.push o := rfl
  rw [e] at hg hp
  refine ⟨hg, rfl, fun b hb => ?_, ?_⟩
  · rw [hp]
    show upd H.get H.next o b = H.get b
    unfold upd
    rw [if_neg (by omega)]
  · rw [hp]
    show upd H.get H.next o H.next = some o
    simp [upd]

theorem put_spec {H : AHeap} {b : Nat} {x : AObj} (o : AObj) (hw : WF H) (hb : H.get b = some x) (hx : x ≠ .raw) : Grow H (H.put b o) ∧ (H.put b o).next = H.next ∧ ∀ c, (H.put b o).get c = upd H.get b o c := by
  obtain ⟨hg, hp⟩ := apply_spec hw (out := { v := undef, put := some (b, o) }) (fun c y he => by
    simp only [Option.some.injEq, Prod.mk.injEq] at he
    obtain ⟨rfl, _⟩ := he
    exact ⟨by rw [hb]; simp, by rw [hb]; simpa using hx⟩)
  exact ⟨hg, rfl, hp⟩

theorem over_push {H : AHeap} {M : Nat → Option AObj} (o : AObj) (hw : WF H) (hE : Ext H M) : over (H.push o) M = upd M H.next o := by
  obtain ⟨_, h2, h3, h4⟩ := push_spec H o hw
  funext b
  unfold over upd
  rw [h2]
  by_cases h : b = H.next
  · subst h; rw [if_pos (by omega), if_pos rfl, h4]
  · by_cases hb : b < H.next
    · rw [if_pos (by omega), if_neg h, h3 b hb, hE b hb]
    · rw [if_neg (by omega), if_neg h]

theorem over_put {H : AHeap} {M : Nat → Option AObj} {b : Nat} {x : AObj} (o : AObj) (hw : WF H) (hb : H.get b = some x) (hx : x ≠ .raw) : over (H.put b o) M = upd (over H M) b o := by
  obtain ⟨_, h2, h3⟩ := put_spec o hw hb hx
  have hlt := get_lt hw (b := b) (by rw [hb]; simp)
  funext c
  unfold over
  rw [h2, h3]
  unfold upd
  by_cases h : c = b
  · subst h; simp [hlt]
  · simp [h]

end
end Go.Ai
