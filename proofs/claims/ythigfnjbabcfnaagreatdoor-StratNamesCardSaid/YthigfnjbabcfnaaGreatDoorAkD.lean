/-
  Events: what an operation of a region did; two events that are free of each other change places.
  One operation: from the evaluator's step to an event, from an event to the walk of the model.
  One event in the model's walk; a region whose order is fixed.
  Regions: in their own order, and in whatever order.
  Code: the evaluator's way through it, and the model's walk.
  The evaluator never takes an object away.
  The evaluator is sound: what it answers, every walk of the model answers.
-/
import Derived.Test.YthigfnjbabcfnaaGreatDoorAkC
import Derived.RangeFuncRecord
import Derived.RangeFuncNested
namespace Go.Ak

def upT (T : Nat → Value) (d : Option Nat) (v : Value) : Nat → Value := match d with
  | some d => fun i => if i = d then v else T i
  | none => T

theorem putDst_val (T : Env) (d : Option Nat) (v : Value) : (putDst T d v).val = upT T.val d v := by
  cases d with
  | none => rfl
  | some d =>
    funext i
    exact Env.val_put T d i v

theorem upT_of (T : Nat → Value) {d : Option Nat} (v : Value) {t : Nat} (h : d ≠ some t) : upT T d v t = T t := by
  cases d with
  | none => rfl
  | some d =>
    show (if t = d then v else T t) = T t
    rw [if_neg]
    rintro rfl
    exact h rfl

/-- A memory under an abstract one. -/
def over (H : AHeap) (M : Nat → Option AObj) (b : Nat) : Option AObj := if b < H.next then H.get b else M b

theorem Grow.next {H H' : AHeap} (h : Grow H H') : H.next ≤ H'.next := by
  unfold AHeap.next
  have := h.base
  have := h.cnt
  omega

def Ext (H : AHeap) (M : Nat → Option AObj) : Prop := ∀ b, b < H.next → M b = H.get b
def Fresh (H H' : AHeap) (M : Nat → Option AObj) : Prop := ∀ b, H.next ≤ b → b < H'.next → M b = none

inductive Eff where
  | skip
  | exp (nid : Nat) (out : AOut)
  | call (b a : AHeap) (v : Value)

def Eff.val : Eff → Value
  | .skip => absent
  | .exp _ o => o.v
  | .call _ _ v => v

def Eff.mem : Eff → (Nat → Option AObj) → Nat → Option AObj
  | .skip, M => M
  | .exp nid o, M => patch M nid o
  | .call _ a _, M => over a M

def Eff.info : Eff → Info
  | .skip => .exp [] []
  | .exp nid o => o.info nid
  | .call b a _ => .call b a

structure Ev where
  idx : Nat
  x : IOper
  eff : Eff

def Ev.eT (e : Ev) (T : Nat → Value) : Nat → Value := upT T e.x.dst e.eff.val

section
variable (C : Ctx) (o : Orc)

def Eff.ok (x : IOper) (T : Nat → Value) (M : Nat → Option AObj) : Eff → Prop
  | .skip => wantedA T x.g = some false
  | .exp nid out => wantedA T x.g = some true ∧ isCall x.op = false ∧ evalOp C M T nid x.op = some out ∧ (out.new ≠ none → M nid = none)
  | .call b a v => wantedA T x.g = some true ∧ ∃ f as, x.op = .call f as ∧ o.call (f.val T) (as.map (·.val T)) b = some (v, a) ∧ (WF b ∧ Grow b a) ∧ Ext b M ∧ Fresh b a M

def Runs : List Ev → (Nat → Value) → (Nat → Option AObj) → (Nat → Value) → (Nat → Option AObj) → Prop
  | [], T, M, T', M' => T = T' ∧ M = M'
  | e :: r, T, M, T', M' => e.eff.ok C o e.x T M ∧ Runs r (e.eT T) (e.eff.mem M) T' M'

def TFree (k e : IOper) : Prop := (∀ d, k.dst = some d → d ∉ e.uses) ∧ (∀ d, e.dst = some d → d ∉ k.uses) ∧ (∀ d, k.dst = some d → e.dst ≠ some d)

def MFree (k e : Info) : Prop := free C k e = true ∨ k = .exp [] [] ∨ e = .exp [] []

def Free (k e : Ev) : Prop := TFree k.x e.x ∧ MFree C k.eff.info e.eff.info

variable {C o} {T T' : Nat → Value} {M M' : Nat → Option AObj}

theorem wantedA_congr {g : Option (Nat × Bool)} (h : ∀ t b, g = some (t, b) → T' t = T t) : wantedA T' g = wantedA T g := by
  cases g with
  | none => rfl
  | some p => obtain ⟨t, b⟩ := p; simp only [wantedA, h t b rfl]

theorem Eff.ok_T {x : IOper} {e : Eff} (h : ∀ t ∈ x.uses, T' t = T t) (k : e.ok C o x T M) : e.ok C o x T' M := by
  have hg : wantedA T' x.g = wantedA T x.g := wantedA_congr fun t b hg => h t (by simp [IOper.uses, hg])
  have hop : ∀ t ∈ x.op.uses, T' t = T t := fun t ht => h t (by simp [IOper.uses, ht])
  cases e with
  | skip => exact hg.trans k
  | exp nid out =>
    obtain ⟨h1, h2, h3, h4⟩ := k
    exact ⟨hg.trans h1, h2, (evalOp_T _ hop).trans h3, h4⟩
  | call b a v =>
    obtain ⟨h1, f, as, h2, h3, h4⟩ := k
    rw [h2] at hop
    simp only [IOp.uses, List.mem_append] at hop
    exact ⟨hg.trans h1, f, as, h2, by rw [IOpd.val_congr (x := f) fun t ht => hop t (.inl ht), vals_congr (xs := as) fun t ht => hop t (.inr ht)]; exact h3, h4⟩

theorem patch_same {nid : Nat} {out : AOut} {b : Nat} (h : b ∉ out.mods nid) : patch M nid out b = M b := by
  unfold AOut.mods at h
  unfold patch
  cases hp : out.put with
  | none => cases hn : out.new with
    | none => rfl
    | some x => simp [hp, hn] at h; simp [upd, h]
  | some p =>
    obtain ⟨c, x⟩ := p
    cases hn : out.new with
    | none => simp [hp, hn] at h; simp [upd, h]
    | some y => simp [hp, hn] at h; simp [upd, h]

theorem patch_other {nid : Nat} {out : AOut} {b : Nat} (h : b ∈ out.mods nid) : patch M nid out b = patch M' nid out b := by
  unfold AOut.mods at h
  unfold patch
  cases hp : out.put with
  | none => cases hn : out.new with
    | none => simp [hp, hn] at h
    | some x => simp [hp, hn] at h; simp [upd, h]
  | some p =>
    obtain ⟨c, x⟩ := p
    cases hn : out.new with
    | none => simp [hp, hn] at h; simp [upd, h]
    | some y =>
      simp [hp, hn] at h
      simp only [upd]
      split
      · rfl
      · rename_i hne
        rw [if_pos (h.resolve_right hne), if_pos (h.resolve_right hne)]

theorem patch_nil {nid : Nat} {out : AOut} (h : out.mods nid = []) : patch M nid out = M := by
  funext b
  exact patch_same (by simp [h])

theorem new_mem {nid : Nat} {out : AOut} (h : out.new ≠ none) : nid ∈ out.mods nid := by
  unfold AOut.mods
  cases hn : out.new with
  | none => exact absurd hn h
  | some x => simp

theorem Eff.ok_M {x : IOper} {nid : Nat} {out : AOut} (h1 : ∀ b ∈ out.rd, M' b = M b) (h2 : ∀ b ∈ out.mods nid, M b = none → M' b = none) (k : (Eff.exp nid out).ok C o x T M) : (Eff.exp nid out).ok C o x T M' := by
  obtain ⟨k1, k2, k3, k4⟩ := k
  exact ⟨k1, k2, (evalOp_local k3).again M' h1, fun hn => h2 nid (new_mem hn) (k4 hn)⟩

theorem disj_spec {a b : List Nat} (h : disj a b = true) {x : Nat} (hx : x ∈ a) : x ∉ b := by
  intro hb
  unfold disj at h
  have := List.all_eq_true.1 (List.all_eq_true.1 h x hx) x hb
  simp at this

theorem same_spec (hE : ∀ a b, C.eqb a b = true → a = b) {a b : Option AObj} (h : same C a b = true) : a = b := by
  cases a <;> cases b <;> simp [same] at h
  exact congrArg some (hE _ _ h)

/-- What an operation looks at and what it makes or turns, off what is remembered of it. -/
theorem info_cases {x : IOper} {nid : Nat} {out : AOut} (k : (Eff.exp nid out).ok C o x T M) : (out.lk = none ∧ out.info nid = .exp out.rd (out.mods nid)) ∨
    ∃ a l, out.lk = some (a, l) ∧ out.info nid = .look a l ∧ out.rd = [a.block] ∧ out.mods nid = [] ∧ ∀ M', loadN C M' a l.length = some l → evalOp C M' T nid x.op = some out := by
  obtain ⟨_, _, k3, _⟩ := k
  cases hl : out.lk with
  | none => exact .inl ⟨rfl, by unfold AOut.info; rw [hl]⟩
  | some p =>
    obtain ⟨a, l⟩ := p
    obtain ⟨h1, h2, h3, h4⟩ := evalOp_look k3 hl
    exact .inr ⟨a, l, rfl, by unfold AOut.info; rw [hl], h1, by unfold AOut.mods; rw [h2, h3]; rfl, h4⟩

/-- Two explicit operations. -/
theorem free_exp {rk mk ri mi : List Nat} (h : MFree C (.exp rk mk) (.exp ri mi)) : (∀ b ∈ mk, b ∉ ri) ∧ (∀ b ∈ mk, b ∉ mi) ∧ ∀ b ∈ mi, b ∉ rk := by
  rcases h with h | h | h
  · simp only [free, Bool.and_eq_true] at h
    exact ⟨fun b hb => disj_spec h.1 hb, fun b hb => disj_spec h.2.1 hb, fun b hb => disj_spec h.2.2 hb⟩
  · cases h; simp
  · cases h; simp

theorem free_call (hE : ∀ a b, C.eqb a b = true → a = b) {Hb Ha : AHeap} {ri mi : List Nat} (h : MFree C (.call Hb Ha) (.exp ri mi)) :
    (∀ b ∈ ri, Ha.next ≤ b ∨ (b < Hb.next ∧ Hb.get b = Ha.get b)) ∧ ∀ b ∈ mi, Ha.next ≤ b := by
  rcases h with h | h | h
  · simp only [free, Bool.and_eq_true, List.all_eq_true, Bool.or_eq_true, Nat.ble_eq, Nat.blt_eq] at h
    exact ⟨fun b hb => (h.1 b hb).imp id fun h => ⟨h.1, same_spec hE h.2⟩, h.2⟩
  · cases h
  · cases h; simp

/-- Two operations that are no calls. -/
theorem free_two {x y : IOper} {nk ne : Nat} {ok oe : AOut} {T1 T2 : Nat → Value} {M1 M2 : Nat → Option AObj} (hk : (Eff.exp nk ok).ok C o x T1 M1) (he : (Eff.exp ne oe).ok C o y T2 M2) (h : MFree C (ok.info nk) (oe.info ne)) :
    (∀ b ∈ ok.mods nk, b ∉ oe.rd) ∧ (∀ b ∈ ok.mods nk, b ∉ oe.mods ne) ∧ ∀ b ∈ oe.mods ne, b ∉ ok.rd := by
  rcases info_cases hk with ⟨_, e1⟩ | ⟨a, l, _, e1, e2, e3, _⟩ <;> rcases info_cases he with ⟨_, f1⟩ | ⟨b, m, _, f1, f2, f3, _⟩
  · rw [e1, f1] at h
    exact free_exp h
  · rw [f2, f3]
    refine ⟨fun c hc => ?_, by simp, by simp⟩
    rw [e1, f1] at h
    rcases h with h | h | h
    · simp only [free] at h; exact disj_spec h hc
    · simp at h; rw [h.2] at hc; cases hc
    · cases h
  · rw [e2, e3]
    refine ⟨by simp, by simp, fun c hc => ?_⟩
    rw [e1, f1] at h
    rcases h with h | h | h
    · simp only [free] at h; exact disj_spec h hc
    · cases h
    · simp at h; rw [h.2] at hc; cases hc
  · rw [e3, f3]
    exact ⟨by simp, by simp, by simp⟩

/-- Two events that are free of each other change places. -/
theorem swap (hE : ∀ a b, C.eqb a b = true → a = b) {k e : Ev} (hf : Free C k e) (hk : k.eff.ok C o k.x T M) (he : e.eff.ok C o e.x (k.eT T) (k.eff.mem M)) :
    e.eff.ok C o e.x T M ∧ k.eff.ok C o k.x (e.eT T) (e.eff.mem M) ∧ k.eT (e.eT T) = e.eT (k.eT T) ∧ k.eff.mem (e.eff.mem M) = e.eff.mem (k.eff.mem M) := by
  obtain ⟨⟨t1, t2, t3⟩, hm⟩ := hf
  have he1 : e.eff.ok C o e.x T (k.eff.mem M) := Eff.ok_T (fun t ht => by
    refine (upT_of T k.eff.val fun hd => ?_).symm
    exact t1 t hd ht) he
  have hk1 : k.eff.ok C o k.x (e.eT T) M := Eff.ok_T (fun t ht => upT_of T e.eff.val fun hd => t2 t hd ht) hk
  have hT : k.eT (e.eT T) = e.eT (k.eT T) := by
    unfold Ev.eT upT
    cases hkd : k.x.dst with
    | none => rfl
    | some d => cases hed : e.x.dst with
      | none => rfl
      | some c =>
        have : d ≠ c := fun h => t3 d hkd (by rw [hed, h])
        funext i
        dsimp only
        by_cases h1 : i = d
        · subst h1; rw [if_pos rfl, if_neg this, if_pos rfl]
        · by_cases h2 : i = c
          · subst h2; simp [h1]
          · simp [h1, h2]
  suffices e.eff.ok C o e.x T M ∧ k.eff.ok C o k.x (e.eT T) (e.eff.mem M) ∧ k.eff.mem (e.eff.mem M) = e.eff.mem (k.eff.mem M) from ⟨this.1, this.2.1, hT, this.2.2⟩
  cases hke : k.eff with
  | skip =>
    rw [hke] at he1 hk1
    exact ⟨he1, hk1, rfl⟩
  | exp nk ok =>
    rw [hke] at he1 hk1 hm
    cases hee : e.eff with
    | skip =>
      rw [hee] at he1
      exact ⟨he1, hk1, rfl⟩
    | exp ne oe =>
      rw [hee] at he1 hm
      obtain ⟨d1, d2, d3⟩ := free_two hk1 he1 hm
      refine ⟨?_, ?_, ?_⟩
      · refine Eff.ok_M (fun b hb => (patch_same fun hmk => d1 b hmk hb).symm) (fun b hb h0 => ?_) he1
        have : patch M nk ok b = M b := patch_same fun hmk => d2 b hmk hb
        exact this.symm.trans h0
      · refine Eff.ok_M (fun b hb => patch_same fun hmi => d3 b hmi hb) (fun b hb h0 => ?_) hk1
        have : patch M ne oe b = M b := patch_same fun hmi => d2 b hb hmi
        exact this.trans h0
      · funext b
        show patch (patch M ne oe) nk ok b = patch (patch M nk ok) ne oe b
        by_cases h1 : b ∈ ok.mods nk
        · rw [patch_same (d2 b h1)]
          exact patch_other h1
        · by_cases h2 : b ∈ oe.mods ne
          · rw [patch_same h1]
            exact patch_other h2
          · rw [patch_same h1, patch_same h2, patch_same h2, patch_same h1]
    | call Hb Ha v =>
      rw [hee] at he1 hm
      have : ok.rd = [] ∧ ok.mods nk = [] := by
        have hm : MFree C (ok.info nk) (.call Hb Ha) := hm
        rcases info_cases hk1 with ⟨_, e1⟩ | ⟨a, l, _, e1, _⟩ <;> rw [e1] at hm <;> rcases hm with h | h | h
        · simp [free] at h
        · simpa using h
        · cases h
        · simp [free] at h
        · cases h
        · cases h
      have hid : ∀ M : Nat → Option AObj, (Eff.exp nk ok).mem M = M := fun M => patch_nil this.2
      rw [hid] at he1
      exact ⟨he1, Eff.ok_M (by simp [this.1]) (by simp [this.2]) hk1, by rw [hid, hid]⟩
  | call Hb Ha v =>
    rw [hke] at he1 hk1 hm
    cases hee : e.eff with
    | skip =>
      rw [hee] at he1
      exact ⟨he1, hk1, rfl⟩
    | exp ne oe =>
      rw [hee] at he1 hm
      obtain ⟨g1, f, as, g2, g3, g4, g5, g6⟩ := hk1
      have gn : Hb.next ≤ Ha.next := g4.2.next
      have hm : MFree C (.call Hb Ha) (oe.info ne) := hm
      have d2 : ∀ b ∈ oe.mods ne, Ha.next ≤ b := by
        rcases info_cases he1 with ⟨_, e1⟩ | ⟨a, l, _, _, _, e3, _⟩
        · rw [e1] at hm; exact (free_call hE hm).2
        · rw [e3]; simp
      refine ⟨?_, ?_, ?_⟩
      · rcases info_cases he1 with ⟨_, e1⟩ | ⟨a, l, _, e1, e2, e3, e4⟩
        · rw [e1] at hm
          obtain ⟨d1, _⟩ := free_call hE hm
          refine Eff.ok_M (fun b hb => ?_) (fun b hb h0 => ?_) he1
          · show M b = over Ha M b
            unfold over
            rcases d1 b hb with h | ⟨h1, h2⟩
            · rw [if_neg (by omega)]
            · rw [if_pos (by omega), ← h2, g5 b h1]
          · have : over Ha M b = M b := by unfold over; rw [if_neg (by have := d2 b hb; omega)]
            exact this.symm.trans h0
        · rw [e1] at hm
          obtain ⟨k1, k2, k3, k4⟩ := he1
          refine ⟨k1, k2, ?_, fun hn => absurd (new_mem (nid := ne) hn) (by rw [e3]; simp)⟩
          rcases hm with h | h | h
          · simp only [free, Bool.or_eq_true, Bool.and_eq_true, Nat.ble_eq, Nat.blt_eq] at h
            rcases h with h | ⟨h1, h2⟩
            · refine (evalOp_local k3).again M fun b hb => ?_
              rw [e2] at hb
              simp at hb
              subst hb
              show M a.block = over Ha M a.block
              unfold over
              rw [if_neg (by omega)]
            · refine e4 M ?_
              rw [loadN_congr (M := Hb.get) (g5 _ h1)]
              unfold reads at h2
              split at h2
              · rename_i l' hl'
                have := hE _ _ h2
                simp at this
                rw [hl', this]
              · cases h2
          · cases h
          · cases h
      · have hsame : ∀ b, b < Ha.next → patch M ne oe b = M b := fun b hb => patch_same fun hmi => by have := d2 b hmi; omega
        exact ⟨g1, f, as, g2, g3, g4, fun b hb => (hsame b (by omega)).trans (g5 b hb), fun b h1 h2 => (hsame b h2).trans (g6 b h1 h2)⟩
      · funext b
        show over Ha (patch M ne oe) b = patch (over Ha M) ne oe b
        by_cases hb : b < Ha.next
        · have h1 : b ∉ oe.mods ne := fun hmi => by have := d2 b hmi; omega
          rw [patch_same h1]
          unfold over
          rw [if_pos hb, if_pos hb]
        · have : over Ha (patch M ne oe) b = patch M ne oe b := by unfold over; rw [if_neg hb]
          rw [this]
          by_cases hmi : b ∈ oe.mods ne
          · exact patch_other hmi
          · rw [patch_same hmi, patch_same hmi]
            unfold over
            rw [if_neg hb]
    | call Hb' Ha' v' =>
      rw [hee] at hm
      rcases hm with h | h | h
      · simp [Eff.info, free] at h
      · simp [Eff.info] at h
      · simp [Eff.info] at h

/-- An event comes to the front of those of which it is free. -/
theorem bubble (hE : ∀ a b, C.eqb a b = true → a = b) {e : Ev} {post : List Ev} {Tf : Nat → Value} {Mf : Nat → Option AObj} :
    ∀ (pre : List Ev) (T : Nat → Value) (M : Nat → Option AObj), (∀ k ∈ pre, Free C k e) → Runs C o (pre ++ e :: post) T M Tf Mf → Runs C o (e :: (pre ++ post)) T M Tf Mf
  | [], _, _, _, h => h
  | k :: r, T, M, hf, h => by
    obtain ⟨hk, hr⟩ := h
    obtain ⟨he, hrest⟩ := bubble hE r _ _ (fun x hx => hf x (List.mem_cons_of_mem _ hx)) hr
    obtain ⟨s1, s2, s3, s4⟩ := swap hE (hf k (by simp)) hk he
    refine ⟨s1, s2, ?_⟩
    rw [s3, s4]
    exact hrest

end
end Go.Ak

namespace Go.Ak

/-- The fence: none, in or out of a round. -/
def fen : Option Nat → Fence
  | none => Fence.wide
  | some l => Fence.wide.inRound l

def retPost (K : Value → World → Prop) : Ending → World → Prop
  | .returned v, w => K v w
  | _, _ => False

/-- A call of a value at arguments. -/
def Upon (P : Program) (w : World) (f : Value) (args : Array Value) (K : Value → World → Prop) : Prop :=
  match f with
  | .func (.func k) first cap => ((callFunc k (first ++ args ++ cap)).run P w = .ok (.enter k (first ++ args ++ cap)) w ∧ CallsIn Fence.wide 0 P k (first ++ args ++ cap) w (retPost K)) ∨
      ((∀ l a b, Value.func (.yield l) a b ∉ args.toList) ∧ ∃ v w', (callFunc k (first ++ args ++ cap)).run P w = .ok (.value v) w' ∧ K v w')
  | .func (.yield l) first _ => ∃ r, w.heap[l]? = some (.loop r) ∧ (first ++ args).size = r.params.size ∧
      RoundIn Fence.wide 0 P l r.fn ((r.params.zip (first ++ args)).foldl (fun tmps (t, a) => tmps.setIfInBounds t a) r.tmps) r.assign r.body w (retPost K)
  | _ => False

theorem callsIn_fen {ro : Option Nat} {n : Nat} {P : Program} {f : FuncId} {args : Array Value} {w : World} {K : Ending → World → Prop} :
    CallsIn (fen ro) n P f args w K ↔ CallsIn Fence.wide n P f args w K := by cases ro <;> exact Iff.rfl
theorem roundIn_fen {ro : Option Nat} {n : Nat} {P : Program} {l : Nat} {f : FuncId} {tmps : Array Value} {x y : Code} {w : World} {K : Ending → World → Prop} :
    RoundIn (fen ro) n P l f tmps x y w K ↔ RoundIn Fence.wide n P l f tmps x y w K := by cases ro <;> exact Iff.rfl
theorem fen_fn (ro : Option Nat) (f : FuncId) : (fen ro).fn f := by cases ro <;> trivial
theorem fen_depth (ro : Option Nat) : (fen ro).depth.isSome = true → 1 ≤ 0 := by cases ro <;> simp [fen, Fence.wide, Fence.inRound]
theorem fen_round (ro : Option Nat) : (fen ro).round = ro := by cases ro <;> rfl

section
variable (P : Program) (C : Ctx)

/-- The oracle's calls are sound. -/
def CallsOK (o : Orc) : Prop := ∀ (f : Value) (args : List Value) (H : AHeap) (v : Value) (H' : AHeap), o.call f args H = some (v, H') → WF H → Grow H H' ∧
  ∀ (φ : Phi) (M : Nat → Option AObj) (w : World) (f' : Value) (args' : Array Value), Ext H M → Fresh H H' M → R P C φ M w → VRel φ f f' → VsRel φ args args'.toList →
    Upon P w f' args' fun v' w' => ∃ φ', φ.le φ' ∧ VRel φ' v v' ∧ R P C φ' (over H' M) w'

variable {P C} {o : Orc} {H H' : AHeap} {T T' : Env} {M : Nat → Option AObj} {x : IOper} {i : Info}

/-! ### the evaluator's step -/
theorem get_lt (hw : WF H) {b : Nat} (h : H.get b ≠ none) : b < H.next := by
  unfold AHeap.get at h
  unfold AHeap.next
  split at h
  · omega
  · rcases Nat.lt_or_ge (b - H.base) H.cnt with h1 | h1
    · omega
    · exact absurd (hw _ h1) h

theorem apply_spec (hw : WF H) {out : AOut} (hput : ∀ b x, out.put = some (b, x) → H.get b ≠ none ∧ H.get b ≠ some .raw) :
    Grow H (H.apply out) ∧ ∀ b, (H.apply out).get b = patch H.get H.next out b := by
  obtain ⟨base, t, cnt⟩ := H
  obtain ⟨v, put, new, rd⟩ := out
  have hb : ∀ b x, put = some (b, x) → base ≤ b ∧ b - base < cnt := fun b x he => by
    obtain ⟨h1, h2⟩ := hput b x he
    have h3 := get_lt hw h1
    refine ⟨?_, ?_⟩
    · rcases Nat.lt_or_ge b base with h | h
      · exact absurd (by simp [AHeap.get, h]) h2
      · exact h
    · rcases Nat.lt_or_ge b base with h | h
      · exact absurd (by simp [AHeap.get, h]) h2
      · simp only [AHeap.next] at h3; omega
  have hw' : ∀ j, cnt ≤ j → t.get j = none := hw
  cases put with
  | none =>
    cases new with
    | none => exact ⟨⟨rfl, Nat.le_refl _, fun h => h⟩, fun b => rfl⟩
    | some y =>
      refine ⟨⟨rfl, Nat.le_succ _, fun _ j hj => ?_⟩, fun b => ?_⟩
      · show (t.put cnt y).get j = none
        have hj' : cnt + 1 ≤ j := hj
        rw [Tab.get_put, if_neg (by omega)]
        exact hw' j (by omega)
      · show (if b < base then some AObj.raw else (t.put cnt y).get (b - base)) = (if b = base + cnt then some y else if b < base then some AObj.raw else t.get (b - base))
        rw [Tab.get_put]
        by_cases h1 : b < base
        · simp [h1]; omega
        · by_cases h2 : b = base + cnt
          · subst h2; simp; intro h; omega
          · rw [if_neg h1, if_neg (by omega), if_neg h2, if_neg h1]
  | some p =>
    obtain ⟨c, z⟩ := p
    obtain ⟨hc1, hc2⟩ := hb c z rfl
    cases new with
    | none =>
      refine ⟨⟨rfl, Nat.le_refl _, fun _ j hj => ?_⟩, fun b => ?_⟩
      · show (t.put (c - base) z).get j = none
        have hj' : cnt ≤ j := hj
        rw [Tab.get_put, if_neg (by omega)]
        exact hw' j hj'
      · show (if b < base then some AObj.raw else (t.put (c - base) z).get (b - base)) = (if b = c then some z else if b < base then some AObj.raw else t.get (b - base))
        rw [Tab.get_put]
        by_cases h1 : b < base
        · simp [h1]; omega
        · by_cases h2 : b = c
          · subst h2; simp [h1]
          · rw [if_neg h1, if_neg (by omega), if_neg h2, if_neg h1]
    | some y =>
      refine ⟨⟨rfl, Nat.le_succ _, fun _ j hj => ?_⟩, fun b => ?_⟩
      · show ((t.put (c - base) z).put cnt y).get j = none
        have hj' : cnt + 1 ≤ j := hj
        rw [Tab.get_put, if_neg (by omega), Tab.get_put, if_neg (by omega)]
        exact hw' j (by omega)
      · show (if b < base then some AObj.raw else ((t.put (c - base) z).put cnt y).get (b - base)) =
          (if b = base + cnt then some y else if b = c then some z else if b < base then some AObj.raw else t.get (b - base))
        rw [Tab.get_put, Tab.get_put]
        by_cases h1 : b < base
        · simp [h1]
          rw [if_neg (by omega), if_neg (by omega)]
        · by_cases h2 : b = base + cnt
          · subst h2; simp; intro h; omega
          · rw [if_neg h1, if_neg (by omega), if_neg h2]
            by_cases h3 : b = c
            · subst h3; simp
            · rw [if_neg (by omega), if_neg h3, if_neg h1]

/-- The step gives an event. -/
theorem step_ev (hcall : ∀ f as H v H', o.call f as H = some (v, H') → WF H → Grow H H') (hw : WF H) (h : stepA C o x T H = some (T', H', i)) :
    Grow H H' ∧ ∀ M, Ext H M → Fresh H H' M → ∃ e : Eff, e.info = i ∧ e.ok C o x T.val M ∧ T'.val = upT T.val x.dst e.val ∧ e.mem M = over H' M ∧ (isPure x.op = true → i = .exp [] []) := by
  unfold stepA at h
  cases hg : wantedA T.val x.g with
  | none => rw [hg] at h; cases h
  | some b =>
    rw [hg] at h
    cases b with
    | false =>
      cases h
      refine ⟨⟨rfl, Nat.le_refl _, fun h => h⟩, fun M hM _ => ⟨.skip, rfl, hg, putDst_val _ _ _, ?_, fun _ => rfl⟩⟩
      funext b
      show M b = over H M b
      unfold over
      split
      · exact hM b (by assumption)
      · rfl
    | true =>
      dsimp only at h
      split at h
      · rename_i f as hop
        split at h
        · rename_i v H1 hc
          cases h
          have hgr := hcall _ _ _ _ _ hc hw
          exact ⟨hgr, fun M hM hF => ⟨.call H H' v, rfl, ⟨hg, f, as, hop, hc, ⟨hw, hgr⟩, hM, hF⟩, putDst_val _ _ _, rfl, fun hp => by rw [hop] at hp; simp [isPure] at hp⟩⟩
        · cases h
      · rename_i hop
        split at h
        · rename_i out ho
          cases h
          have hloc := evalOp_local ho
          have hput : ∀ b x, out.put = some (b, x) → H.get b ≠ none ∧ H.get b ≠ some .raw := fun b x he =>
            let ⟨h1, h2, _⟩ := hloc.turns b x he
            ⟨hloc.there b h1, h2⟩
          obtain ⟨hgr, hap⟩ := apply_spec hw hput
          refine ⟨hgr, fun M hM hF => ⟨.exp H.next out, rfl, ⟨hg, ?_, ?_, ?_⟩, putDst_val _ _ _, ?_, ?_⟩⟩
          · cases hx : x.op <;> first | rfl | exact absurd hx (hop _ _)
          · exact hloc.again M fun b hb => hM b (get_lt hw (hloc.there b hb))
          · intro hn
            refine hF _ (Nat.le_refl _) ?_
            unfold AHeap.apply AHeap.push AHeap.next
            cases hnew : out.new with
            | none => exact absurd hnew hn
            | some y => cases hpp : out.put with
              | none => simp
              | some p => simp [AHeap.put]
          · funext b
            show patch M H.next out b = over (H.apply out) M b
            unfold over
            by_cases hb : b ∈ out.mods H.next
            · have hlt : b < (H.apply out).next := by
                refine get_lt (hgr.wf hw) ?_
                rw [hap]
                unfold AOut.mods at hb
                unfold patch
                cases hpp : out.put with
                | none => cases hnn : out.new with
                  | none => simp [hpp, hnn] at hb
                  | some y => simp [hpp, hnn] at hb; simp [upd, hb]
                | some p => cases hnn : out.new with
                  | none => simp [hpp, hnn] at hb; simp [upd, hb]
                  | some y => simp [hpp, hnn] at hb; rcases hb with rfl | rfl <;> simp [upd]; split <;> simp
              rw [if_pos hlt, hap]
              exact patch_other hb
            · rw [patch_same hb, hap, patch_same hb]
              split
              · rename_i hlt
                by_cases h2 : b < H.next
                · exact hM b h2
                · have : M b = none := hF b (by omega) hlt
                  rw [this]
                  cases hgg : H.get b with
                  | none => rfl
                  | some y => exact absurd (get_lt hw (by rw [hgg]; simp)) h2
              · rfl
          · intro hp
            cases hx : x.op <;> rw [hx] at hp <;> simp only [isPure, Bool.false_eq_true] at hp <;> rw [hx] at ho <;> simp only [evalOp, Option.map_eq_some_iff] at ho <;>
              (repeat' split at ho) <;> (first | (obtain ⟨_, _, rfl⟩ := ho) | cases ho | skip) <;> (first | rfl | skip) <;>
              (try simp only [Option.map_eq_some_iff] at ho) <;> (try obtain ⟨_, _, rfl⟩ := ho) <;> (try rfl)
        · cases h

end
end Go.Ak

namespace Go.Ak

theorem Upon.mono {P : Program} {w : World} {f : Value} {args : Array Value} {K K' : Value → World → Prop} (h : Upon P w f args K) (hk : ∀ v w, K v w → K' v w) : Upon P w f args K' := by
  unfold Upon at *
  split at h
  · rcases h with h | ⟨h1, v, w', h2, h3⟩
    · exact .inl ⟨h.1, h.2.mono fun e w' he => by cases e <;> first | exact hk _ _ he | exact he⟩
    · exact .inr ⟨h1, v, w', h2, hk _ _ h3⟩
  · obtain ⟨r, h1, h2, h3⟩ := h
    exact ⟨r, h1, h2, h3.mono fun e w' he => by cases e <;> first | exact hk _ _ he | exact he⟩
  · exact h.elim

section
variable {P : Program} {C : Ctx} {o : Orc} {φ : Phi} {M : Nat → Option AObj} {w : World} {T : Nat → Value} {ops : Array Oper} {ro : Option Nat} {nt : Nat} {Q : Exit → Act → World → Prop}

theorem trel_put {φ : Phi} {T : Nat → Value} {a : Act} {d : Option Nat} {v v' : Value} (hT : TRel φ T a.tmps) (hd : ∀ k, d = some k → k < a.tmps.size) (hv : VRel φ v v') : TRel φ (upT T d v) (a.put d v').tmps := by
  intro i
  cases d with
  | none => exact hT i
  | some d =>
    show VRel φ (if i = d then v else T i) ((a.tmps.setIfInBounds d v').getD i undef)
    have hlt := hd d rfl
    by_cases h : i = d
    · subst h
      simp [Array.getD, hlt]
      exact hv
    · rw [if_neg h]
      have := hT i
      simp only [Array.getD_eq_getD_getElem?] at this ⊢
      rw [Array.getElem?_setIfInBounds_ne (Ne.symm h)]
      exact this

theorem put_size (a : Act) (d : Option Nat) (v : Value) : (a.put d v).tmps.size = a.tmps.size := by cases d <;> simp [Act.put]
theorem put_defers (a : Act) (d : Option Nat) (v : Value) : (a.put d v).defers = a.defers := by cases d <;> rfl

theorem compOper_ok {oo : Oper} {x : IOper} (hx : x = compOper P nt ops oo) (hb : ¬ (x.op = .bad ∧ x.g = none)) :
    (∀ d, oo.dst = some d → d < nt) ∧ x.dst = oo.dst ∧ x.op = compOp P oo.op ∧
    ((oo.guard = none ∧ x.g = none) ∨ ∃ j b t, oo.guard = some (j, b) ∧ (ops[j]?).bind (·.dst) = some t ∧ x.g = some (t, b)) := by
  unfold compOper at hx
  split at hx
  · subst hx; exact absurd ⟨rfl, rfl⟩ hb
  · rename_i hd
    have hd' : ∀ d, oo.dst = some d → d < nt := fun d he => by rw [he] at hd; simpa using hd
    split at hx
    · rename_i hg; subst hx; exact ⟨hd', rfl, rfl, .inl ⟨hg, rfl⟩⟩
    · rename_i j b hg
      split at hx
      · rename_i t ht; subst hx; exact ⟨hd', rfl, rfl, .inr ⟨j, b, t, hg, ht, rfl⟩⟩
      · subst hx; exact absurd ⟨rfl, rfl⟩ hb

theorem wanted_rel {oo : Oper} {x : IOper} {b : Bool} {a : Act} (hT : TRel φ T a.tmps)
    (hg : (oo.guard = none ∧ x.g = none) ∨ ∃ j b t, oo.guard = some (j, b) ∧ (ops[j]?).bind (·.dst) = some t ∧ x.g = some (t, b)) (h : wantedA T x.g = some b) :
    Region.wanted oo (yielded ops a.tmps) = b := by
  rcases hg with ⟨h1, h2⟩ | ⟨j, c, t, h1, h2, h3⟩
  · rw [h2] at h
    simp only [wantedA, Option.some.injEq] at h
    simp [Region.wanted, h1, h]
  · rw [h3] at h
    have ht := hT t
    simp only [wantedA] at h
    simp only [Region.wanted, h1, yielded, h2, Option.bind_some]
    split at h
    · rename_i y hy
      rw [hy] at ht
      have := bool_inv ht
      simp only [Array.getD_eq_getD_getElem?] at this
      cases hh : a.tmps[t]? with
      | none => rw [hh] at this; cases this
      | some z =>
        rw [hh] at this
        simp only [Option.getD_some] at this
        subst this
        simp only [Option.some.injEq] at h
        subst h
        cases y <;> cases c <;> rfl
    · rename_i vs hy
      split at h
      · rename_i hl
        simp only [Option.some.injEq] at h
        rw [hy] at ht
        have hv : a.tmps.getD t undef = .tuple #[] := by
          generalize a.tmps.getD t undef = u at ht
          cases ht with
          | undef => simp at hl
          | absent => rfl
          | tup _ _ h2 => rw [← Array.length_toList, hl] at h2; simp at h2
          | over => simp at hl
        simp only [Array.getD_eq_getD_getElem?] at hv
        subst h
        cases hh : a.tmps[t]? with
        | none => rfl
        | some z =>
          rw [hh] at hv
          simp only [Option.getD_some] at hv
          subst hv
          rfl
      · cases h
    · cases h

theorem builtin_call {b : Builtin} {ts : Array TypeId} {xs : List Operand} {f : IOpd} {as : List IOpd} (h : compBuiltin P b ts xs = some (.call f as)) : False := by
  unfold compBuiltin at h
  split at h <;> first
    | (obtain ⟨_, _, h⟩ := Option.map_eq_some_iff.1 h; cases h; done)
    | ((repeat' split at h) <;> cases h)

theorem comp_call {op : Op} {f : IOpd} {as : List IOpd} (h : compOp? P op = some (.call f as)) : ∃ c g, op = .call c ∧ c.callee = .value g ∧ opd g = some f ∧ opds c.args.toList = some as := by
  unfold compOp? at h
  split at h <;> first
    | (cases h; done)
    | (obtain ⟨_, _, h⟩ := Option.map_eq_some_iff.1 h; cases h; done)
    | ((repeat' split at h) <;> first | (cases h; done) | (obtain ⟨_, _, h⟩ := Option.map_eq_some_iff.1 h; cases h; done))
    | skip
  rename_i c
  split at h
  · exact (builtin_call h).elim
  · rename_i g hg
    split at h
    · rename_i a b h1 h2
      cases h
      exact ⟨c, g, rfl, hg, h1, h2⟩
    · cases h
  · cases h

/-- A call, by what is known of the value called. -/
theorem upon_call {oo : Oper} {c : Call} {g : Operand} {a : Act} {K : Value → World → Prop} {next : Act → World → Prop} (hop : oo.op = .call c) (hcal : c.callee = .value g)
    (h : Upon P w (a.eval g) (c.args.map a.eval) K) (hK : ∀ v w, K v w → next (a.put oo.dst v) w) : oo.uponIn (fen ro) 0 P a next Q ((execOp a.eval oo).run P w) := by
  have hx : execOp a.eval oo = (Deferred.ofValue (a.eval g) (c.args.map a.eval) >>= fun d => invoke d.target d.args) := by
    simp only [execOp, hop, resolve, hcal]
  rw [hx]
  unfold Upon at h
  split at h
  · rename_i k first cap hg
    rcases h with ⟨h1, h2⟩ | ⟨_, v, w', h1, h2⟩
    · rw [hg]
      simp only [Deferred.ofValue, Sem.run_bind, Sem.run_pure, Result.andThen_ok, invoke, h1]
      rw [Oper.uponIn_enter]
      refine ⟨fen_depth ro, callsIn_fen.2 (h2.mono fun e w' he => ?_)⟩
      cases e with
      | returned v => exact hK v w' he
      | panicked ch => exact he.elim
      | outgrown => exact he.elim
    · rw [hg]
      simp only [Deferred.ofValue, Sem.run_bind, Sem.run_pure, Result.andThen_ok, invoke, h1]
      rw [Oper.uponIn_value]
      exact hK v w' h2
  · rename_i l first cap hg
    obtain ⟨r, h1, h2, h3⟩ := h
    rw [hg]
    simp only [Deferred.ofValue, Sem.run_bind, Sem.run_pure, Result.andThen_ok, invoke, run_yield h1 h2]
    rw [Oper.uponIn_round]
    refine ⟨fen_depth ro, roundIn_fen.2 (h3.mono fun e w' he => ?_)⟩
    cases e with
    | returned v => exact hK v w' he
    | panicked ch => exact he.elim
    | outgrown => exact he.elim
  · exact h.elim

/-- One event is walked. -/
theorem ev_sound (hcall : CallsOK P C o) {i : Nat} {oo : Oper} {x : IOper} {e : Eff} {a : Act} (ho : ops[i]? = some oo) (hx : x = compOper P nt ops oo) (hok : e.ok C o x T M) (hT : TRel φ T a.tmps) (hR : R P C φ M w)
    (hnt : nt ≤ a.tmps.size) {K : Act → World → Prop}
    (hK : ∀ φ' a' w', φ.le φ' → TRel φ' (upT T x.dst e.val) a'.tmps → R P C φ' (e.mem M) w' → a'.tmps.size = a.tmps.size → a'.defers = a.defers → K a' w') :
    wpOpIn (fen ro) 0 P ops Q i K a w := by
  unfold wpOpIn
  rw [ho]
  dsimp only
  cases e with
  | skip =>
    obtain ⟨h1, h2, h3, h4⟩ := compOper_ok hx fun hb => by
      have hok : wantedA T x.g = some false := hok
      rw [hb.2] at hok
      cases hok
    rw [wanted_rel hT h4 hok]
    refine ⟨fun f _ => fen_fn ro f, ?_⟩
    rw [← h2]
    exact hK φ _ w (Phi.le_refl φ) (trel_put hT (fun k hk => Nat.lt_of_lt_of_le (h1 k (h2 ▸ hk)) hnt) .absent) hR (put_size _ _ _) (put_defers _ _ _)
  | exp nid out =>
    obtain ⟨k1, k2, k3, k4⟩ := hok
    have hnb : x.op ≠ .bad := fun hb => by rw [hb] at k3; cases k3
    obtain ⟨h1, h2, h3, h4⟩ := compOper_ok hx fun hb => hnb hb.1
    rw [wanted_rel hT h4 k1, if_pos rfl]
    have hc : compOp? P oo.op = some x.op := by
      rw [h3] at hnb ⊢
      unfold compOp at hnb ⊢
      cases hh : compOp? P oo.op with
      | none => rw [hh] at hnb; exact absurd rfl hnb
      | some y => rfl
    obtain ⟨v', w', φ', hrun, hle, hv, hR'⟩ := op_sound hc k2 (opds_of hT) hR k4 k3
    refine ⟨fun f _ => fen_fn ro f, ?_⟩
    rw [fen_round, Oper.semAt_eq _ _ _ fun c hd => by rw [hd] at hc; simp [compOp?] at hc]
    have hdst : ∀ k, x.dst = some k → k < a.tmps.size := fun k hk => Nat.lt_of_lt_of_le (h1 k (h2 ▸ hk)) hnt
    rcases hrun with hrun | ⟨hrun, rfl⟩
    · rw [hrun, Oper.uponIn_value, ← h2]
      exact hK φ' _ w' hle (trel_put (hT.mono hle) hdst hv) hR' (put_size _ _ _) (put_defers _ _ _)
    · rw [hrun, Oper.uponIn_skip, ← h2]
      exact hK φ' _ w' hle (trel_put (hT.mono hle) hdst hv) hR' (put_size _ _ _) (put_defers _ _ _)
  | call b c v =>
    obtain ⟨k1, f, as, k2, k3, ⟨k4, _⟩, k5, k6⟩ := hok
    have hnb : x.op ≠ .bad := fun hb => by rw [k2] at hb; cases hb
    obtain ⟨h1, h2, h3, h4⟩ := compOper_ok hx fun hb => hnb hb.1
    rw [wanted_rel hT h4 k1, if_pos rfl]
    have hc : compOp? P oo.op = some (.call f as) := by
      rw [← k2]
      rw [h3] at hnb ⊢
      unfold compOp at hnb ⊢
      cases hh : compOp? P oo.op with
      | none => rw [hh] at hnb; exact absurd rfl hnb
      | some y => rfl
    obtain ⟨cc, g, hop, hcal, hf, has⟩ := comp_call hc
    refine ⟨fun f _ => fen_fn ro f, ?_⟩
    rw [fen_round, Oper.semAt_eq _ _ _ fun c hd => by rw [hd] at hop; cases hop]
    have hdst : ∀ k, x.dst = some k → k < a.tmps.size := fun k hk => Nat.lt_of_lt_of_le (h1 k (h2 ▸ hk)) hnt
    have hfv := opds_of hT g f hf
    have hav := opds_rel has (opds_of hT)
    have hup := (hcall _ _ _ _ _ k3 k4).2 φ M w (a.eval g) (cc.args.map a.eval) k5 k6 hR hfv (by simpa using hav)
    exact upon_call hop hcal hup fun v' w' ⟨φ', hle, hv, hR'⟩ => by
      rw [← h2]
      exact hK φ' _ w' hle (trel_put (hT.mono hle) hdst hv) hR' (put_size _ _ _) (put_defers _ _ _)
end
end Go.Ak

namespace Go.Ak

theorem over_over {H H' : AHeap} (h : H.next ≤ H'.next) (M : Nat → Option AObj) : over H' (over H M) = over H' M := by
  funext b
  unfold over
  split
  · rfl
  · rw [if_neg (by omega)]

theorem over_self {H : AHeap} {M : Nat → Option AObj} (h : Ext H M) : over H M = M := by
  funext b
  unfold over
  split
  · exact (h b (by assumption)).symm
  · rfl

theorem ext_over (H : AHeap) (M : Nat → Option AObj) : Ext H (over H M) := fun b hb => by unfold over; rw [if_pos hb]

theorem Fresh.left {H H1 H2 : AHeap} {M : Nat → Option AObj} (h : Fresh H H2 M) (g : Grow H1 H2) : Fresh H H1 M := fun b h1 h2 => h b h1 (Nat.lt_of_lt_of_le h2 g.next)
theorem Fresh.right {H H1 H2 : AHeap} {M : Nat → Option AObj} (h : Fresh H H2 M) (g : Grow H H1) : Fresh H1 H2 (over H1 M) := fun b h1 h2 => by
  unfold over
  rw [if_neg (by omega)]
  exact h b (Nat.le_trans g.next h1) h2

theorem Grow.refl (H : AHeap) : Grow H H := ⟨rfl, Nat.le_refl _, fun h => h⟩
theorem Grow.trans {a b c : AHeap} (h : Grow a b) (k : Grow b c) : Grow a c := ⟨k.base.trans h.base, Nat.le_trans h.cnt k.cnt, fun x => k.wf (h.wf x)⟩

section
variable {P : Program} {C : Ctx} {o : Orc} {ops : Array Oper} {ro : Option Nat} {nt : Nat} {Q : Exit → Act → World → Prop}

theorem CallsOK.grow (h : CallsOK P C o) : ∀ f as H v H', o.call f as H = some (v, H') → WF H → Grow H H' := fun f as H v H' hc hw => (h f as H v H' hc hw).1

theorem ops_grow (hcall : CallsOK P C o) : ∀ (xs : List IOper) (T : Env) (H : AHeap) (T' : Env) (H' : AHeap), opsA C o xs T H = some (T', H') → WF H → Grow H H'
  | [], T, H, T', H', h, _ => by simp only [opsA, Option.some.injEq, Prod.mk.injEq] at h; obtain ⟨_, rfl⟩ := h; exact .refl _
  | x :: r, T, H, T', H', h, hw => by
    simp only [opsA] at h
    split at h
    · rename_i T1 H1 i hs
      have g1 := (step_ev hcall.grow hw hs).1
      exact g1.trans (ops_grow hcall r T1 H1 T' H' h (g1.wf hw))
    · cases h

/-- What is asked behind a piece of code that has been walked. -/
def Then (P : Program) (C : Ctx) (φ : Phi) (a : Act) (T' : Nat → Value) (M' : Nat → Option AObj) (K : Act → World → Prop) : Prop :=
  ∀ φ' a' w', φ.le φ' → TRel φ' T' a'.tmps → R P C φ' M' w' → a'.tmps.size = a.tmps.size → a'.defers = a.defers → K a' w'

theorem ops_sound (hcall : CallsOK P C o) : ∀ (n k : Nat), k + n = ops.size → ∀ (T : Env) (H : AHeap) (T' : Env) (H' : AHeap) (φ : Phi) (M : Nat → Option AObj) (a : Act) (w : World),
    opsA C o ((ops.toList.drop k).map (compOper P nt ops)) T H = some (T', H') → WF H → Ext H M → Fresh H H' M → TRel φ T.val a.tmps → R P C φ M w → nt ≤ a.tmps.size →
    Then P C φ a T'.val (over H' M) (Q .normal) → wpOpsIn (fen ro) 0 P ops Q (List.range' k n) a w := by
  intro n
  induction n with
  | zero =>
    intro k hk T H T' H' φ M a w h hw hE hF hT hR hnt hK
    have : ops.toList.drop k = [] := List.drop_eq_nil_of_le (by simp; omega)
    rw [this] at h
    simp only [List.map_nil, opsA, Option.some.injEq, Prod.mk.injEq] at h
    obtain ⟨rfl, rfl⟩ := h
    rw [over_self hE] at hK
    exact hK φ a w (Phi.le_refl φ) hT hR rfl rfl
  | succ n ih =>
    intro k hk T H T' H' φ M a w h hw hE hF hT hR hnt hK
    have hlt : k < ops.toList.length := by simp; omega
    rw [List.drop_eq_getElem_cons hlt] at h
    simp only [List.map_cons, opsA] at h
    split at h
    · rename_i T1 H1 i hs
      obtain ⟨g1, hev⟩ := step_ev hcall.grow hw hs
      have g2 := ops_grow hcall _ _ _ _ _ h (g1.wf hw)
      obtain ⟨e, _, hok, hT1, hM1, _⟩ := hev M hE (hF.left g2)
      rw [List.range'_succ, wpOpsIn_cons]
      refine ev_sound hcall (nt := nt) (oo := ops.toList[k]) (by simp [Array.getElem?_eq_getElem (show k < ops.size by omega)]) rfl hok hT hR hnt fun φ' a' w' hle hT' hR' hsz hdf => ?_
      rw [← hT1] at hT'
      rw [hM1] at hR'
      refine ih (k + 1) (by omega) T1 H1 T' H' φ' (over H1 M) a' w' h (g1.wf hw) (ext_over _ _) (hF.right g1) hT' hR' (hsz ▸ hnt) fun φ2 a2 w2 hle2 hT2 hR2 hsz2 hdf2 => ?_
      rw [over_over g2.next] at hR2
      exact hK φ2 a2 w2 (Phi.le_trans hle hle2) hT2 hR2 (hsz2.trans hsz) (hdf2.trans hdf)
    · cases h

theorem region_sound (hcall : CallsOK P C o) {id : Nat} {T : Env} {H : AHeap} {T' : Env} {H' : AHeap} {φ : Phi} {M : Nat → Option AObj} {a : Act} {w : World}
    (h : opsA C o (ops.toList.map (compOper P nt ops)) T H = some (T', H')) (hw : WF H) (hE : Ext H M) (hF : Fresh H H' M) (hT : TRel φ T.val a.tmps) (hR : R P C φ M w) (hnt : nt ≤ a.tmps.size)
    (hK : Then P C φ a T'.val (over H' M) (Q .normal)) : (Code.region id ops false).wpIn (fen ro) 0 P Q a w := by
  refine wpIn_region ?_
  rw [List.range_eq_range']
  exact ops_sound hcall ops.size 0 (by omega) T H T' H' φ M a w (by simpa using h) hw hE hF hT hR hnt hK

/-! ### whatever order -/
def PairP (C : Ctx) (ms : List Nat) (k e : Ev) : Prop := k.idx ≠ e.idx ∧ ((ms.getD e.idx 0).testBit k.idx = true ∨ Free C k e)

theorem pairs_spec {ms : List Nat} {e : Nat × IOper × List Nat} : ∀ {l : List (Nat × IOper × List Nat)} {d : Nat}, pairsOK ms e d l = true → ∀ (j : Nat) (k : Nat × IOper × List Nat), l[j]? = some k → pairOK ms (d + j) k e = true
  | [], _, _, j, k, hk => by simp at hk
  | x :: r, d, h, j, k, hk => by
    simp only [pairsOK, Bool.and_eq_true] at h
    cases j with
    | zero => simp at hk; subst hk; exact h.1
    | succ j =>
      simp at hk
      have := pairs_spec h.2 j k hk
      rwa [show d + 1 + j = d + (j + 1) by omega] at this

theorem freeAll_spec {log : List Info} {i : Info} : ∀ {un : List Nat}, freeAll C log i un = true → ∀ d ∈ un, ∃ k, log[d]? = some k ∧ free C k i = true
  | [], _, d, hd => by simp at hd
  | x :: r, h, d, hd => by
    simp only [freeAll] at h
    split at h
    · rename_i k hk
      simp only [Bool.and_eq_true] at h
      rcases List.mem_cons.1 hd with rfl | hd
      · exact ⟨k, hk, h.1⟩
      · exact freeAll_spec h.2 d hd
    · cases h

theorem notIn_spec {d : Option Nat} {l : List Nat} (h : notIn d l = true) : ∀ k, d = some k → k ∉ l := by
  rintro k rfl hm
  have := List.all_eq_true.1 h k hm
  simp at this

theorem clash_spec {a b : Option Nat} (h : (!clash a b) = true) : ∀ d, a = some d → b ≠ some d := by
  rintro d rfl rfl
  simp [clash] at h

theorem pair_free {ms : List Nat} {d : Nat} {k e : Nat × IOper × List Nat} {ek ee : Ev} (h : pairOK ms d k e = true) (hk : ek.idx = k.1 ∧ ek.x = k.2.1) (he : ee.idx = e.1 ∧ ee.x = e.2.1)
    (hpk : isPure ek.x.op = true → ek.eff.info = .exp [] []) (hpe : isPure ee.x.op = true → ee.eff.info = .exp [] []) (hfree : d ∈ e.2.2 → free C ek.eff.info ee.eff.info = true) : PairP C ms ek ee := by
  simp only [pairOK, Bool.and_eq_true, Bool.or_eq_true, Bool.not_eq_true'] at h
  obtain ⟨h0, h⟩ := h
  refine ⟨(by rw [hk.1, he.1]; intro hh; rw [hh, Nat.beq_refl] at h0; cases h0), ?_⟩
  rw [hk.1, he.1]
  rcases h with h | ⟨h1, h2, h3, h4⟩
  · exact .inl h
  · refine .inr ⟨⟨?_, ?_, ?_⟩, ?_⟩
    · rw [hk.2, he.2]; exact notIn_spec h1
    · rw [hk.2, he.2]; exact notIn_spec h2
    · rw [hk.2, he.2]; exact clash_spec (by simpa using h3)
    · rcases h4 with h4 | h4 | h4
      · exact .inr (.inl (hpk (by rw [hk.2]; exact h4)))
      · exact .inr (.inr (hpe (by rw [he.2]; exact h4)))
      · refine .inl (hfree ?_)
        obtain ⟨x, hx, hb⟩ := List.any_eq_true.1 h4
        simp at hb
        rw [hb]
        exact hx

theorem dops_grow (hcall : CallsOK P C o) : ∀ (es : List (Nat × IOper × List Nat)) (log : List Info) (T : Env) (H : AHeap) (T' : Env) (H' : AHeap), dopsA C o es log T H = some (T', H') → WF H → Grow H H'
  | [], _, T, H, T', H', h, _ => by simp only [dopsA, Option.some.injEq, Prod.mk.injEq] at h; obtain ⟨_, rfl⟩ := h; exact .refl _
  | (_, x, un) :: r, log, T, H, T', H', h, hw => by
    simp only [dopsA] at h
    split at h
    · rename_i T1 H1 i hs
      have g1 := (step_ev hcall.grow hw hs).1
      split at h
      · exact g1.trans (dops_grow hcall r _ T1 H1 T' H' h (g1.wf hw))
      · cases h
    · cases h

/-- The evaluator's one order, as a row of events. -/
theorem dops_runs (hcall : CallsOK P C o) {ms : List Nat} : ∀ (es done : List (Nat × IOper × List Nat)) (past : List Ev) (log : List Info) (T : Env) (H : AHeap) (T' : Env) (H' : AHeap) (M : Nat → Option AObj),
    dopsA C o es log T H = some (T', H') → planFrom ms done es = true → past.length = done.length → (∀ (j : Nat) (p : Ev), past[j]? = some p → ∃ k, done[j]? = some k ∧ p.idx = k.1 ∧ p.x = k.2.1) → past.map (·.eff.info) = log →
    (∀ p ∈ past, isPure p.x.op = true → p.eff.info = .exp [] []) → WF H → Ext H M → Fresh H H' M →
    ∃ L : List Ev, L.length = es.length ∧ (∀ (j : Nat) (p : Ev), L[j]? = some p → ∃ k, es[j]? = some k ∧ p.idx = k.1 ∧ p.x = k.2.1) ∧ Runs C o L T.val M T'.val (over H' M) ∧ L.Pairwise (PairP C ms) ∧ ∀ k ∈ past, ∀ e ∈ L, PairP C ms k e := by
  intro es
  induction es with
  | nil =>
    intro done past log T H T' H' M h _ _ _ _ _ _ hE _
    simp only [dopsA, Option.some.injEq, Prod.mk.injEq] at h
    obtain ⟨rfl, rfl⟩ := h
    exact ⟨[], rfl, by simp, ⟨rfl, (over_self hE).symm⟩, .nil, by simp⟩
  | cons y r ih =>
    obtain ⟨i, x, un⟩ := y
    intro done past log T H T' H' M h hplan hlen hpast hlog hpure hw hE hF
    simp only [dopsA] at h
    split at h
    · rename_i T1 H1 info hs
      split at h
      · rename_i hfree
        obtain ⟨g1, hev⟩ := step_ev hcall.grow hw hs
        have g2 := dops_grow hcall _ _ _ _ _ _ h (g1.wf hw)
        obtain ⟨e, hinfo, hok, hT1, hM1, hpe⟩ := hev M hE (hF.left g2)
        simp only [planFrom, Bool.and_eq_true] at hplan
        obtain ⟨hp1, hp2⟩ := hplan
        let E : Ev := ⟨i, x, e⟩
        have hpurE : isPure E.x.op = true → E.eff.info = .exp [] [] := fun hh => by
          show e.info = _
          rw [hinfo]; exact hpe hh
        have hpastE : ∀ k ∈ past, PairP C ms k E := by
          intro k hk
          obtain ⟨j, hj⟩ := List.getElem?_of_mem hk
          obtain ⟨d, hd, hd1, hd2⟩ := hpast j k hj
          have hpo := pairs_spec hp1 j d hd
          rw [Nat.zero_add] at hpo
          refine pair_free hpo ⟨hd1, hd2⟩ ⟨rfl, rfl⟩ (hpure k hk) hpurE fun hju => ?_
          obtain ⟨ki, hki, hfr⟩ := freeAll_spec hfree j hju
          rw [← hlog] at hki
          simp only [List.getElem?_map, hj, Option.map_some, Option.some.injEq] at hki
          show free C k.eff.info e.info = true
          rw [hki, hinfo]; exact hfr
        obtain ⟨L, hL1, hL2, hL3, hL4, hL5⟩ := ih ((i, x, un) :: done) (E :: past) (info :: log) T1 H1 T' H' (over H1 M) h hp2 (by simp [hlen])
          (fun j p hj => by
            cases j with
            | zero => simp only [List.getElem?_cons_zero, Option.some.injEq] at hj ⊢; subst hj; exact ⟨_, rfl, rfl, rfl⟩
            | succ j => simp only [List.getElem?_cons_succ] at hj ⊢; exact hpast j p hj)
          (by simp only [List.map_cons, hlog]; congr 1)
          (fun p hp => by rcases List.mem_cons.1 hp with rfl | hp; exact hpurE; exact hpure p hp)
          (g1.wf hw) (ext_over _ _) (hF.right g1)
        refine ⟨E :: L, by simp [hL1], fun j p hj => ?_, ⟨hok, ?_⟩, ?_, fun k hk e' he' => ?_⟩
        · cases j with
          | zero => simp only [List.getElem?_cons_zero, Option.some.injEq] at hj ⊢; subst hj; exact ⟨_, rfl, rfl, rfl⟩
          | succ j => simp only [List.getElem?_cons_succ] at hj ⊢; exact hL2 j p hj
        · rw [over_over g2.next] at hL3
          show Runs C o L (upT T.val x.dst e.val) (e.mem M) T'.val (over H' M)
          rw [← hT1, hM1]
          exact hL3
        · exact List.pairwise_cons.2 ⟨fun e' he' => hL5 E (by simp) e' he', hL4⟩
        · rcases List.mem_cons.1 he' with rfl | he'
          · exact hpastE k hk
          · exact hL5 k (List.mem_cons_of_mem _ hk) e' he'
      · cases h
    · cases h

/-! ### the masks -/
theorem hard_binds (e : Edge) : Region.binds .any e = hard e := by
  unfold Region.binds hard
  cases e.ground <;> rfl

theorem maskOf_bit {acc : List Nat} {k : Nat} : ∀ {es : List Edge}, (maskOf acc es).testBit k = true → ∃ e ∈ es, hard e = true ∧ (k = e.on ∨ (acc.getD e.on 0).testBit k = true)
  | [], h => by simp [maskOf] at h
  | e :: r, h => by
    simp only [maskOf] at h
    split at h
    · rename_i hh
      simp only [Nat.testBit_or, Bool.or_eq_true, Nat.testBit_two_pow, decide_eq_true_eq] at h
      rcases h with (h | h) | h
      · exact ⟨e, by simp, hh, .inl h.symm⟩
      · exact ⟨e, by simp, hh, .inr h⟩
      · obtain ⟨e', h1, h2⟩ := maskOf_bit h
        exact ⟨e', List.mem_cons_of_mem _ h1, h2⟩
    · obtain ⟨e', h1, h2⟩ := maskOf_bit h
      exact ⟨e', List.mem_cons_of_mem _ h1, h2⟩

theorem masks_keep : ∀ (l : List Oper) (acc : List Nat) (i : Nat), i < acc.length → (masks l acc)[i]? = acc[i]?
  | [], _, _, _ => rfl
  | o :: r, acc, i, h => by
    simp only [masks]
    rw [masks_keep r _ i (by simp; omega), List.getElem?_append_left h]

theorem masks_at : ∀ (l : List Oper) (acc : List Nat) (j : Nat) (o : Oper), l[j]? = some o → (masks l acc)[acc.length + j]? = some (maskOf ((masks l acc).take (acc.length + j)) o.after.toList)
  | [], _, j, o, h => by simp at h
  | x :: r, acc, j, o, h => by
    simp only [masks]
    cases j with
    | zero =>
      simp at h
      subst h
      rw [Nat.add_zero, masks_keep r _ _ (by simp)]
      have : (masks r (acc ++ [maskOf acc x.after.toList])).take acc.length = acc := by
        apply List.ext_getElem?
        intro i
        rw [List.getElem?_take]
        split
        · rename_i hi
          rw [masks_keep r _ i (by simp; omega), List.getElem?_append_left hi]
        · rename_i hi
          rw [List.getElem?_eq_none (by omega)]
      rw [this]
      simp
    | succ j =>
      simp at h
      have := masks_at r (acc ++ [maskOf acc x.after.toList]) j o h
      rw [List.length_append, List.length_singleton, show acc.length + 1 + j = acc.length + (j + 1) by omega] at this
      exact this

theorem masks_bit {i k : Nat} {oo : Oper} (ho : ops[i]? = some oo) (h : ((masks ops.toList []).getD i 0).testBit k = true) :
    ∃ e ∈ oo.after, hard e = true ∧ (k = e.on ∨ ((masks ops.toList []).getD e.on 0).testBit k = true) := by
  have hm := masks_at ops.toList [] i oo (by simpa using ho)
  simp only [List.length_nil, Nat.zero_add] at hm
  rw [List.getD_eq_getElem?_getD, hm] at h
  obtain ⟨e, h1, h2, h3⟩ := maskOf_bit h
  refine ⟨e, by simpa using h1, h2, h3.imp id fun h => ?_⟩
  rw [List.getD_eq_getElem?_getD, List.getElem?_take] at h
  rw [List.getD_eq_getElem?_getD]
  split at h
  · exact h
  · simp at h

theorem edges_spec : ∀ {l : List Oper} {i : Nat}, edgesOK i l = true → ∀ (j : Nat) (oo : Oper), l[j]? = some oo → ∀ e ∈ oo.after, hard e = true → e.on < i + j
  | [], _, _, j, oo, h, _, _, _ => by simp at h
  | x :: r, i, hok, j, oo, h, e, he, hh => by
    simp only [edgesOK, Bool.and_eq_true] at hok
    cases j with
    | zero =>
      simp at h
      subst h
      have := List.all_eq_true.1 hok.1 e (by simpa using he)
      rw [hh] at this
      simpa using this
    | succ j =>
      simp at h
      have := edges_spec hok.2 j oo h e he hh
      omega

/-- All orders lead to the same end. -/
theorem any_sound (hE : ∀ a b, C.eqb a b = true → a = b) (hcall : CallsOK P C o) {ms : List Nat} (hms : ms = masks ops.toList []) (hedge : edgesOK 0 ops.toList = true) {Tf : Nat → Value} {Mf : Nat → Option AObj} :
    ∀ (fuel : Nat) (L : List Ev) (listed : Array Bool) (φ : Phi) (T : Nat → Value) (M : Nat → Option AObj) (a : Act) (w : World),
      Runs C o L T M Tf Mf → L.Pairwise (PairP C ms) → (∀ e ∈ L, ∃ oo, ops[e.idx]? = some oo ∧ e.x = compOper P nt ops oo) → listed.size = ops.size → (∀ i, i < ops.size → (listed[i]? = some false ↔ ∃ e ∈ L, e.idx = i)) →
      (∀ i k, listed[i]? = some true → (ms.getD i 0).testBit k = true → listed[k]? = some true) → L.length ≤ fuel → TRel φ T a.tmps → R P C φ M w → nt ≤ a.tmps.size →
      Then P C φ a Tf Mf (Q .normal) → wpAnyIn (fen ro) 0 P .any ops Q fuel listed a w := by
  intro fuel
  have done : ∀ (L : List Ev) (listed : Array Bool) (φ : Phi) (T : Nat → Value) (M : Nat → Option AObj) (a : Act) (w : World),
      L = [] → Runs C o L T M Tf Mf → TRel φ T a.tmps → R P C φ M w → Then P C φ a Tf Mf (Q .normal) → Q .normal a w := by
    rintro L listed φ T M a w rfl ⟨rfl, rfl⟩ hT hR hK
    exact hK φ a w (Phi.le_refl φ) hT hR rfl rfl
  induction fuel with
  | zero =>
    intro L listed φ T M a w hrun _ _ hsz hlist _ hlen hT hR _ hK
    have hL : L = [] := List.length_eq_zero_iff.1 (by omega)
    refine ⟨?_, done L listed φ T M a w hL hrun hT hR hK⟩
    rw [List.eq_nil_iff_forall_not_mem]
    intro i hi
    obtain ⟨h1, oo, h2, _⟩ := mem_ready.1 hi
    have hlt : i < ops.size := (Array.getElem?_eq_some_iff.1 h2).1
    have : listed[i]? = some false := by
      rw [Array.getD_eq_getD_getElem?] at h1
      cases hh : listed[i]? with
      | none => rw [hh] at h1; cases h1
      | some b => rw [hh] at h1; simp at h1; rw [h1]
    obtain ⟨e, he, _⟩ := (hlist i hlt).1 this
    rw [hL] at he
    cases he
  | succ fuel ih =>
    intro L listed φ T M a w hrun hpair hops hsz hlist hclosed hlen hT hR hnt hK
    refine ⟨fun hready => ?_, fun i hi => ?_⟩
    · refine done L listed φ T M a w ?_ hrun hT hR hK
      have hall : ∀ i, i < ops.size → listed[i]? = some true := by
        intro i
        induction i using Nat.strongRecOn with
        | _ i ihi =>
          intro hlt
          cases hh : listed[i]? with
          | none => rw [Array.getElem?_eq_none_iff] at hh; omega
          | some b =>
            cases b with
            | true => rfl
            | false =>
              have hmem : i ∈ Region.ready .any ops listed := by
                refine mem_ready.2 ⟨by rw [Array.getD_eq_getD_getElem?, hh]; rfl, ops[i], Array.getElem?_eq_getElem hlt, fun e he hb => ?_⟩
                rw [hard_binds] at hb
                have hon := edges_spec hedge i ops[i] (by simp [Array.getElem?_eq_getElem hlt]) e he hb
                rw [Array.getD_eq_getD_getElem?, ihi e.on (by omega) (by omega)]
                rfl
              rw [hready] at hmem
              cases hmem
      rw [List.eq_nil_iff_forall_not_mem]
      intro e he
      obtain ⟨oo, h1, _⟩ := hops e he
      have hlt := (Array.getElem?_eq_some_iff.1 h1).1
      have := (hlist e.idx hlt).2 ⟨e, he, rfl⟩
      rw [hall _ hlt] at this
      cases this
    · obtain ⟨h1, oo, h2, h3⟩ := mem_ready.1 hi
      have hlt : i < ops.size := (Array.getElem?_eq_some_iff.1 h2).1
      have hfalse : listed[i]? = some false := by
        rw [Array.getD_eq_getD_getElem?] at h1
        cases hh : listed[i]? with
        | none => rw [hh] at h1; cases h1
        | some b => rw [hh] at h1; simp at h1; rw [h1]
      obtain ⟨e, he, hei⟩ := (hlist i hlt).1 hfalse
      subst hei
      obtain ⟨pre, post, rfl⟩ := List.append_of_mem he
      have hanc : ∀ k, (ms.getD e.idx 0).testBit k = true → listed[k]? = some true := by
        intro k hk
        rw [hms] at hk
        obtain ⟨ed, g1, g2, g3⟩ := masks_bit h2 hk
        have hl : listed[ed.on]? = some true := by
          have := h3 ed g1 (by rw [hard_binds]; exact g2)
          rw [Array.getD_eq_getD_getElem?] at this
          cases hh : listed[ed.on]? with
          | none => rw [hh] at this; cases this
          | some b => rw [hh] at this; simp at this; rw [this]
        rcases g3 with rfl | g3
        · exact hl
        · exact hclosed ed.on k hl (by rw [hms]; exact g3)
      have hfree : ∀ k ∈ pre, Free C k e := by
        intro k hk
        have hp : PairP C ms k e := (List.pairwise_append.1 hpair).2.2 k hk e (by simp)
        rcases hp.2 with hb | hf
        · obtain ⟨ok, hok, _⟩ := hops k (by simp [hk])
          have hkl := (Array.getElem?_eq_some_iff.1 hok).1
          have := (hlist k.idx hkl).2 ⟨k, by simp [hk], rfl⟩
          rw [hanc _ hb] at this
          cases this
        · exact hf
      obtain ⟨hok, hrest⟩ := bubble hE pre T M hfree hrun
      obtain ⟨oo', ho', hx'⟩ := hops e he
      have hne : ∀ k ∈ pre ++ post, k.idx ≠ e.idx := by
        intro k hk
        rcases List.mem_append.1 hk with hk | hk
        · exact ((List.pairwise_append.1 hpair).2.2 k hk e (by simp)).1
        · exact Ne.symm ((List.pairwise_cons.1 (List.pairwise_append.1 hpair).2.1).1 k hk).1
      refine ev_sound hcall ho' hx' hok hT hR hnt fun φ' a' w' hle hT' hR' hs' hd' => ?_
      refine ih (pre ++ post) (listed.setIfInBounds e.idx true) φ' (e.eT T) (e.eff.mem M) a' w' hrest ?_ (fun k hk => hops k ?_) (by simp [hsz]) ?_ ?_ (by simp at hlen ⊢; omega) hT' hR' (hs' ▸ hnt) fun φ2 a2 w2 hle2 hT2 hR2 hs2 hd2 => ?_
      · rw [List.pairwise_append] at hpair ⊢
        exact ⟨hpair.1, (List.pairwise_cons.1 hpair.2.1).2, fun x hx y hy => hpair.2.2 x hx y (List.mem_cons_of_mem _ hy)⟩
      · rcases List.mem_append.1 hk with hk | hk <;> simp [hk]
      · intro j hj
        by_cases hje : j = e.idx
        · subst hje
          rw [Array.getElem?_setIfInBounds_self_of_lt (by omega)]
          constructor
          · intro h; cases h
          · rintro ⟨k, hk, hke⟩; exact absurd hke (hne k hk)
        · rw [Array.getElem?_setIfInBounds_ne (Ne.symm hje), hlist j hj]
          constructor
          · rintro ⟨k, hk, hkj⟩
            refine ⟨k, ?_, hkj⟩
            rcases List.mem_append.1 hk with hk | hk
            · simp [hk]
            · rcases List.mem_cons.1 hk with rfl | hk
              · exact absurd hkj.symm hje
              · simp [hk]
          · rintro ⟨k, hk, hkj⟩
            refine ⟨k, ?_, hkj⟩
            rcases List.mem_append.1 hk with hk | hk <;> simp [hk]
      · intro j k hj hk
        have hkt : listed[k]? = some true := by
          by_cases hje : j = e.idx
          · subst hje; exact hanc k hk
          · rw [Array.getElem?_setIfInBounds_ne (Ne.symm hje)] at hj
            exact hclosed j k hj hk
        by_cases hke : k = e.idx
        · subst hke; rw [hkt] at hfalse; cases hfalse
        · rw [Array.getElem?_setIfInBounds_ne (Ne.symm hke)]; exact hkt
      · exact hK φ2 a2 w2 (Phi.le_trans hle hle2) hT2 hR2 (hs2.trans hs') (hd2.trans hd')

theorem planOf_spec {ms : List Nat} {xs : List IOper} : ∀ {ord : List Nat} {done : List (Nat × IOper)}, ∀ e ∈ planOf ms xs ord done, xs[e.1]? = some e.2.1
  | [], _, e, h => by simp [planOf] at h
  | i :: r, done, e, h => by
    simp only [planOf] at h
    split at h
    · rename_i x hx
      rcases List.mem_cons.1 h with rfl | h
      · exact hx
      · exact planOf_spec e h
    · exact planOf_spec e h

theorem dregion_sound (hE : ∀ a b, C.eqb a b = true → a = b) (hmo : P.follows .mixedOrders = true) (hcall : CallsOK P C o) {id : Nat} {es : List (Nat × IOper × List Nat)} {T : Env} {H : AHeap} {T' : Env} {H' : AHeap} {φ : Phi}
    {M : Nat → Option AObj} {a : Act} {w : World} (hes : es = planOf (masks ops.toList []) (ops.toList.map (compOper P nt ops)) (orderOf (masks ops.toList []) (ops.toList.map (compOper P nt ops))) [])
    (hok : planOK (masks ops.toList []) (ops.toList.map (compOper P nt ops)) es = true) (hedge : edgesOK 0 ops.toList = true)
    (h : dopsA C o es [] T H = some (T', H')) (hw : WF H) (hX : Ext H M) (hF : Fresh H H' M) (hT : TRel φ T.val a.tmps) (hR : R P C φ M w) (hnt : nt ≤ a.tmps.size)
    (hK : Then P C φ a T'.val (over H' M) (Q .normal)) : (Code.region id ops true).wpIn (fen ro) 0 P Q a w := by
  refine wpIn_region_any hmo ?_
  simp only [planOK, Bool.and_eq_true] at hok
  obtain ⟨⟨hlen, hcov⟩, hplan⟩ := hok
  have hlen : es.length = ops.size := by simpa using hlen
  obtain ⟨L, hL1, hL2, hL3, hL4, _⟩ := dops_runs hcall es [] [] [] T H T' H' M h hplan rfl (by simp) rfl (by simp) hw hX hF
  have hback : ∀ (j : Nat) (k : Nat × IOper × List Nat), es[j]? = some k → ∃ p ∈ L, p.idx = k.1 := by
    intro j k hk
    have hj : j < L.length := by rw [hL1]; exact (List.getElem?_eq_some_iff.1 hk).1
    obtain ⟨k', h1, h2, _⟩ := hL2 j L[j] (List.getElem?_eq_getElem hj)
    rw [hk] at h1
    cases h1
    exact ⟨L[j], List.getElem_mem hj, h2⟩
  have hops : ∀ e ∈ L, ∃ oo, ops[e.idx]? = some oo ∧ e.x = compOper P nt ops oo := by
    intro e he
    obtain ⟨j, hj⟩ := List.getElem?_of_mem he
    obtain ⟨k, h1, h2, h3⟩ := hL2 j e hj
    have h4 : k ∈ es := List.mem_of_getElem? h1
    rw [hes] at h4
    have := planOf_spec k h4
    simp only [List.getElem?_map, Option.map_eq_some_iff] at this
    obtain ⟨oo, g1, g2⟩ := this
    exact ⟨oo, by rw [h2]; simpa using g1, by rw [h3, g2]⟩
  refine any_sound hE hcall (nt := nt) rfl hedge ops.size L _ φ T.val M a _ hL3 hL4 hops (by simp) ?_ ?_ (by omega) hT (hR.of_heap rfl rfl rfl rfl) hnt hK
  · intro i hi
    simp only [Array.getElem?_replicate, hi, if_true, true_iff]
    have := List.all_eq_true.1 hcov i (by simpa using hi)
    obtain ⟨e, he, heq⟩ := List.any_eq_true.1 this
    obtain ⟨j, hj⟩ := List.getElem?_of_mem he
    obtain ⟨p, hp, hpi⟩ := hback j e hj
    refine ⟨p, hp, ?_⟩
    rw [hpi]
    simpa using heq
  · intro i k hi
    simp [Array.getElem?_replicate] at hi

end
end Go.Ak

namespace Go.Ak

def AExit.exit' : AExit → Exit
  | .normal => .normal
  | .exit id => .exit id
  | .ret => .ret

def DsRel (φ : Phi) : List Nat → List Deferred → Prop
  | [], [] => True
  | d :: ds, x :: xs => (∃ l, φ d 0 = some l ∧ x.target = .collected l.cb) ∧ DsRel φ ds xs
  | _, _ => False

theorem DsRel.mono {φ ψ : Phi} (h : φ.le ψ) : ∀ {ds : List Nat} {xs : List Deferred}, DsRel φ ds xs → DsRel ψ ds xs
  | [], [], _ => trivial
  | _ :: _, _ :: _, ⟨⟨l, h1, h2⟩, h3⟩ => ⟨⟨l, h _ _ _ h1, h2⟩, h3.mono h⟩
  | [], _ :: _, h => h.elim
  | _ :: _, [], h => h.elim

def RoRel (φ : Phi) : Option Nat → Option Nat → Prop
  | none, none => True
  | some g, some c => ∃ l, φ g 0 = some l ∧ l.cb = c
  | _, _ => False

theorem RoRel.mono {φ ψ : Phi} (h : φ.le ψ) {a b : Option Nat} (k : RoRel φ a b) : RoRel ψ a b := by
  cases a <;> cases b <;> first | trivial | exact k.elim | exact let ⟨l, h1, h2⟩ := k; ⟨l, h _ _ _ h1, h2⟩

section
variable (P : Program) (C : Ctx)

def Post (φ : Phi) (a : Act) (e : AExit) (s' : St) (M : Nat → Option AObj) : Exit → Act → World → Prop := fun x a' w' =>
  x = e.exit' ∧ ∃ φ', φ.le φ' ∧ TRel φ' s'.T.val a'.tmps ∧ R P C φ' (over s'.H M) w' ∧ a'.tmps.size = a.tmps.size ∧ DsRel φ' s'.ds a'.defers

structure CodeOK (ro : Option Nat) (code : Code) (nt : Nat) (s : St) (e : AExit) (s' : St) : Prop where
  grow : Grow s.H s'.H
  ds : ∃ pre, s'.ds = pre ++ s.ds ∧ (ro ≠ none → pre = [])
  walk : ∀ (φ : Phi) (M : Nat → Option AObj) (a : Act) (w : World) (ro' : Option Nat), Ext s.H M → Fresh s.H s'.H M → R P C φ M w → TRel φ s.T.val a.tmps → nt ≤ a.tmps.size → DsRel φ s.ds a.defers → RoRel φ ro ro' →
    code.wpIn (fen ro') 0 P (Post P C φ a e s' M) a w

def LoopsOK (o : Orc) : Prop := ∀ (ro : Option Nat) (code : Code) (nt : Nat) (s : St) (e : AExit) (s' : St), o.loop ro (compCode P nt code) s = some (e, s') → WF s.H → CodeOK P C ro (.loop code) nt s e s'

variable {P C} {o : Orc}

theorem Post.later {φ φ1 : Phi} {a a1 : Act} {e : AExit} {s1 s' : St} {M : Nat → Option AObj} {x : Exit} {a' : Act} {w' : World} (h : Post P C φ1 a1 e s' (over s1.H M) x a' w') (hle : φ.le φ1) (hs : a1.tmps.size = a.tmps.size)
    (hn : s1.H.next ≤ s'.H.next) : Post P C φ a e s' M x a' w' := by
  obtain ⟨h1, φ', h2, h3, h4, h5, h6⟩ := h
  rw [over_over hn] at h4
  exact ⟨h1, φ', Phi.le_trans hle h2, h3, h4, h5.trans hs, h6⟩

/-- Where nothing has become of the memory. -/
theorem Post.here {φ : Phi} {a : Act} {e : AExit} {s : St} {M : Nat → Option AObj} {w : World} (hE : Ext s.H M) (hR : R P C φ M w) (hT : TRel φ s.T.val a.tmps) (hD : DsRel φ s.ds a.defers) : Post P C φ a e s M e.exit' a w :=
  ⟨rfl, φ, Phi.le_refl φ, hT, by rw [over_self hE]; exact hR, rfl, hD⟩

/-- One after the other. -/
theorem seq_ok {ro : Option Nat} {x y : Code} {nt : Nat} {s s1 : St} {e : AExit} {s' : St} (h1 : CodeOK P C ro x nt s .normal s1) (h2 : CodeOK P C ro y nt s1 e s') : CodeOK P C ro (.seq x y) nt s e s' := by
  refine ⟨h1.grow.trans h2.grow, ?_, fun φ M a w ro' hE hF hR hT hnt hD hro => ?_⟩
  · obtain ⟨p1, e1, q1⟩ := h1.ds
    obtain ⟨p2, e2, q2⟩ := h2.ds
    exact ⟨p2 ++ p1, by rw [e2, e1, List.append_assoc], fun h => by rw [q1 h, q2 h]; rfl⟩
  · refine wpIn_seq (wpIn_mono (h1.walk φ M a w ro' hE (hF.left h2.grow) hR hT hnt hD hro) ?_)
    rintro x a1 w1 ⟨rfl, φ1, hle, hT1, hR1, hs1, hD1⟩
    exact wpIn_mono (h2.walk φ1 (over s1.H M) a1 w1 ro' (ext_over _ _) (hF.right h1.grow) hR1 hT1 (hs1 ▸ hnt) hD1 (hro.mono hle)) fun x a' w' hp => hp.later hle hs1 h2.grow.next

theorem seq_ok_left {ro : Option Nat} {x y : Code} {nt : Nat} {s : St} {e : AExit} {s' : St} (h1 : CodeOK P C ro x nt s e s') (hne : e ≠ .normal) : CodeOK P C ro (.seq x y) nt s e s' := by
  refine ⟨h1.grow, h1.ds, fun φ M a w ro' hE hF hR hT hnt hD hro => ?_⟩
  refine wpIn_seq (wpIn_mono (h1.walk φ M a w ro' hE hF hR hT hnt hD hro) ?_)
  intro x a1 w1 hp
  have hx := hp.1
  cases e with
  | normal => exact absurd rfl hne
  | exit id => subst hx; exact hp
  | ret => subst hx; exact hp

theorem block_ok {ro : Option Nat} {id : Nat} {x : Code} {nt : Nat} {s : St} {e : AExit} {s' : St} (h1 : CodeOK P C ro x nt s e s') :
    CodeOK P C ro (.block id x) nt s (match e with | .exit i => if i = id then .normal else .exit i | e => e) s' := by
  refine ⟨h1.grow, h1.ds, fun φ M a w ro' hE hF hR hT hnt hD hro => ?_⟩
  refine wpIn_block (wpIn_mono (h1.walk φ M a w ro' hE hF hR hT hnt hD hro) ?_)
  intro x a1 w1 hp
  have hx := hp.1
  cases e with
  | normal => subst hx; exact hp
  | exit i =>
    subst hx
    show if i = id then _ else _
    by_cases hi : i = id
    · rw [if_pos hi]
      simp only [hi, if_true]
      exact ⟨rfl, hp.2⟩
    · rw [if_neg hi]
      simp only [hi, if_false]
      exact hp
  | ret => subst hx; exact hp

theorem cond_ok {ro : Option Nat} {c : Operand} {y : IOpd} {b : Bool} {x z : Code} {nt : Nat} {s : St} {e : AExit} {s' : St} (hc : opd c = some y) (hv : y.val s.T.val = .bool b) (h1 : CodeOK P C ro (if b then x else z) nt s e s') :
    CodeOK P C ro (.cond c x z) nt s e s' := by
  refine ⟨h1.grow, h1.ds, fun φ M a w ro' hE hF hR hT hnt hD hro => ?_⟩
  have := opds_of hT c y hc
  rw [hv] at this
  exact wpIn_cond (bool_inv this) (h1.walk φ M a w ro' hE hF hR hT hnt hD hro)

/-- A region of the evaluator. -/
theorem region_ok (hE : ∀ a b, C.eqb a b = true → a = b) (hmo : P.follows .mixedOrders = true) (hcall : CallsOK P C o) {ro : Option Nat} {id : Nat} {ops : Array Oper} {draw : Bool} {nt : Nat} {s : St} {e : AExit} {s' : St} (hw : WF s.H)
    (h : codeA C o ro (compRegion P nt ops draw) s = some (e, s')) : CodeOK P C ro (.region id ops draw) nt s e s' := by
  unfold compRegion at h
  dsimp only at h
  cases draw with
  | false =>
    simp only [Bool.false_eq_true, if_false, codeA] at h
    split at h
    · rename_i T' H' ho
      cases h
      refine ⟨ops_grow hcall _ _ _ _ _ ho hw, ⟨[], rfl, fun _ => rfl⟩, fun φ M a w ro' hX hF hR hT hnt hD hro => ?_⟩
      exact region_sound hcall ho hw hX hF hT hR hnt fun φ' a' w' hle hT' hR' hs hd => ⟨rfl, φ', hle, hT', hR', hs, by rw [hd]; exact hD.mono hle⟩
    · cases h
  | true =>
    simp only [if_true] at h
    split at h
    · rename_i hok
      simp only [Bool.and_eq_true] at hok
      simp only [codeA] at h
      split at h
      · rename_i T' H' ho
        cases h
        refine ⟨dops_grow hcall _ _ _ _ _ _ ho hw, ⟨[], rfl, fun _ => rfl⟩, fun φ M a w ro' hX hF hR hT hnt hD hro => ?_⟩
        exact dregion_sound hE hmo hcall rfl hok.1 hok.2 ho hw hX hF hT hR hnt fun φ' a' w' hle hT' hR' hs hd => ⟨rfl, φ', hle, hT', hR', hs, by rw [hd]; exact hD.mono hle⟩
      · cases h
    · simp only [codeA] at h; cases h

/-! ### a loop over a function -/
theorem push_spec (H : AHeap) (o : AObj) (hw : WF H) : Grow H (H.push o) ∧ (H.push o).next = H.next + 1 ∧ (∀ b, b < H.next → (H.push o).get b = H.get b) ∧ (H.push o).get H.next = some o := by
  obtain ⟨hg, hp⟩ := apply_spec hw (out := { v := undef, new := some o }) (by simp)
  have e : H.apply { v := undef, new := some o } = H.push o := rfl
  rw [e] at hg hp
  refine ⟨hg, rfl, fun b hb => ?_, ?_⟩
  · rw [hp]
    show upd H.get H.next o b = H.get b
    unfold upd
    rw [if_neg (by omega)]
  · rw [hp]
    show upd H.get H.next o H.next = some o
    simp [upd]

theorem put_spec {H : AHeap} {b : Nat} {x : AObj} (o : AObj) (hw : WF H) (hb : H.get b = some x) (hx : x ≠ .raw) : Grow H (H.put b o) ∧ (H.put b o).next = H.next ∧ ∀ c, (H.put b o).get c = upd H.get b o c := by
  obtain ⟨hg, hp⟩ := apply_spec hw (out := { v := undef, put := some (b, o) }) (fun c y he => by
    simp only [Option.some.injEq, Prod.mk.injEq] at he
    obtain ⟨rfl, _⟩ := he
    exact ⟨by rw [hb]; simp, by rw [hb]; simpa using hx⟩)
  exact ⟨hg, rfl, hp⟩

theorem over_push {H : AHeap} {M : Nat → Option AObj} (o : AObj) (hw : WF H) (hE : Ext H M) : over (H.push o) M = upd M H.next o := by
  obtain ⟨_, h2, h3, h4⟩ := push_spec H o hw
  funext b
  unfold over upd
  rw [h2]
  by_cases h : b = H.next
  · subst h; rw [if_pos (by omega), if_pos rfl, h4]
  · by_cases hb : b < H.next
    · rw [if_pos (by omega), if_neg h, h3 b hb, hE b hb]
    · rw [if_neg (by omega), if_neg h]

theorem over_put {H : AHeap} {M : Nat → Option AObj} {b : Nat} {x : AObj} (o : AObj) (hw : WF H) (hb : H.get b = some x) (hx : x ≠ .raw) : over (H.put b o) M = upd (over H M) b o := by
  obtain ⟨_, h2, h3⟩ := put_spec o hw hb hx
  have hlt := get_lt hw (b := b) (by rw [hb]; simp)
  funext c
  unfold over
  rw [h2, h3]
  unfold upd
  by_cases h : c = b
  · subst h; simp [hlt]
  · simp [h]

end
end Go.Ak

namespace Go.Ak

structure GrowSt (ro : Option Nat) (s s' : St) : Prop where
  grow : Grow s.H s'.H
  ds : ∃ pre, s'.ds = pre ++ s.ds ∧ (ro ≠ none → pre = [])

theorem GrowSt.refl (ro : Option Nat) (s : St) : GrowSt ro s s := ⟨.refl _, [], rfl, fun _ => rfl⟩
theorem GrowSt.trans {ro : Option Nat} {a b c : St} (h : GrowSt ro a b) (k : GrowSt ro b c) : GrowSt ro a c := by
  obtain ⟨p1, e1, q1⟩ := h.ds
  obtain ⟨p2, e2, q2⟩ := k.ds
  exact ⟨h.grow.trans k.grow, p2 ++ p1, by rw [e2, e1, List.append_assoc], fun h => by rw [q1 h, q2 h]; rfl⟩

section
variable {C : Ctx} {o : Orc}

structure GrowOK (o : Orc) : Prop where
  call : ∀ f as H v H', o.call f as H = some (v, H') → WF H → Grow H H'
  loop : ∀ ro c s e s', o.loop ro c s = some (e, s') → WF s.H → GrowSt ro s s'

theorem opsA_grow (h : GrowOK o) : ∀ (xs : List IOper) (T : Env) (H : AHeap) (T' : Env) (H' : AHeap), opsA C o xs T H = some (T', H') → WF H → Grow H H'
  | [], T, H, T', H', h, _ => by simp only [opsA, Option.some.injEq, Prod.mk.injEq] at h; obtain ⟨_, rfl⟩ := h; exact .refl _
  | x :: r, T, H, T', H', hh, hw => by
    simp only [opsA] at hh
    split at hh
    · rename_i T1 H1 i hs
      have g1 := (step_ev h.call hw hs).1
      exact g1.trans (opsA_grow h r T1 H1 T' H' hh (g1.wf hw))
    · cases hh

theorem dopsA_grow (h : GrowOK o) : ∀ (es : List (Nat × IOper × List Nat)) (log : List Info) (T : Env) (H : AHeap) (T' : Env) (H' : AHeap), dopsA C o es log T H = some (T', H') → WF H → Grow H H'
  | [], _, T, H, T', H', h, _ => by simp only [dopsA, Option.some.injEq, Prod.mk.injEq] at h; obtain ⟨_, rfl⟩ := h; exact .refl _
  | (_, x, un) :: r, log, T, H, T', H', hh, hw => by
    simp only [dopsA] at hh
    split at hh
    · rename_i T1 H1 i hs
      have g1 := (step_ev h.call hw hs).1
      split at hh
      · exact g1.trans (dopsA_grow h r _ T1 H1 T' H' hh (g1.wf hw))
      · cases hh
    · cases hh

theorem push_grow (H : AHeap) (x : AObj) (hw : WF H) : Grow H (H.push x) := (push_spec H x hw).1

theorem code_grow (h : GrowOK o) : ∀ (c : ICode) (ro : Option Nat) (s : St) (e : AExit) (s' : St), codeA C o ro c s = some (e, s') → WF s.H → GrowSt ro s s' := by
  intro c
  induction c with
  | skip => intro ro s e s' hh _; simp only [codeA] at hh; cases hh; exact .refl _ _
  | exit id => intro ro s e s' hh _; simp only [codeA] at hh; cases hh; exact .refl _ _
  | ret => intro ro s e s' hh _; simp only [codeA] at hh; cases hh; exact .refl _ _
  | bad => intro ro s e s' hh _; simp only [codeA] at hh; cases hh
  | region ops =>
    intro ro s e s' hh hw
    simp only [codeA] at hh
    split at hh
    · rename_i T H ho; cases hh; exact ⟨opsA_grow h _ _ _ _ _ ho hw, [], rfl, fun _ => rfl⟩
    · cases hh
  | dregion ops =>
    intro ro s e s' hh hw
    simp only [codeA] at hh
    split at hh
    · rename_i T H ho; cases hh; exact ⟨dopsA_grow h _ _ _ _ _ _ ho hw, [], rfl, fun _ => rfl⟩
    · cases hh
  | seq a b iha ihb =>
    intro ro s e s' hh hw
    simp only [codeA] at hh
    split at hh
    · rename_i s1 h1
      have g := iha _ _ _ _ h1 hw
      exact g.trans (ihb _ _ _ _ hh (g.grow.wf hw))
    · exact iha _ _ _ _ hh hw
  | cond x a b iha ihb =>
    intro ro s e s' hh hw
    simp only [codeA] at hh
    split at hh
    · exact iha _ _ _ _ hh hw
    · exact ihb _ _ _ _ hh hw
    · cases hh
  | block id c ih =>
    intro ro s e s' hh hw
    simp only [codeA] at hh
    split at hh
    · rename_i i s1 h1
      have g := ih _ _ _ _ h1 hw
      split at hh <;> (cases hh; exact g)
    · exact ih _ _ _ _ hh hw
  | loop c ih => intro ro s e s' hh hw; exact h.loop _ _ _ _ _ hh hw
  | rangeFunc f ps assign body _ _ =>
    intro ro s e s' hh hw
    simp only [codeA] at hh
    split at hh
    · cases hh
    · rename_i hin
      split at hh
      · cases hh
      · rename_i v H3 hc
        split at hh
        · rename_i L hL
          split at hh
          · cases hh
          · cases hh
            cases ro with
            | none =>
              dsimp only at hc hL ⊢
              have g1 := push_grow s.H (.deferred true) hw
              have g2 := push_grow _ (.loop { state := .ready, pending := none, T := s.T, params := ps, assign, body }) (g1.wf hw)
              have g3 := h.call _ _ _ _ _ hc (g2.wf (g1.wf hw))
              have g4 := (put_spec (.loop { L with state := .exhausted }) (g3.wf (g2.wf (g1.wf hw))) hL (by simp)).1
              exact ⟨((g1.trans g2).trans g3).trans g4, [s.H.next], rfl, fun h => absurd rfl h⟩
            | some r =>
              dsimp only at hc hL ⊢
              have g2 := push_grow s.H (.loop { state := .ready, pending := none, T := s.T, params := ps, assign, body }) hw
              have g3 := h.call _ _ _ _ _ hc (g2.wf hw)
              have g4 := (put_spec (.loop { L with state := .exhausted }) (g3.wf (g2.wf hw)) hL (by simp)).1
              exact ⟨(g2.trans g3).trans g4, [], rfl, fun _ => rfl⟩
        · cases hh

theorem shut_grow : ∀ (ds : List Nat) (H H' : AHeap), shut ds H = some H' → WF H → Grow H H'
  | [], H, H', h, _ => by simp only [shut, Option.some.injEq] at h; subst h; exact .refl _
  | d :: ds, H, H', h, hw => by
    simp only [shut] at h
    split at h
    · rename_i hd
      have g := (put_spec (.deferred false) hw hd (by simp)).1
      exact g.trans (shut_grow ds _ _ h (g.wf hw))
    · cases h

theorem callFn_grow (h : GrowOK o) {F : IFunc} {as : List Value} {H : AHeap} {v : Value} {H' : AHeap} (hh : callFn C o F as H = some (v, H')) (hw : WF H) : Grow H H' := by
  unfold callFn at hh
  split at hh
  · cases hh
  · rename_i e s hc
    have g := (code_grow h _ _ _ _ _ hc hw).grow
    split at hh
    · cases hh
    · split at hh
      · cases hh
      · rename_i H1 hs
        split at hh
        · cases hh; exact g.trans (shut_grow _ _ _ hs (g.wf hw))
        · cases hh

theorem endRound_grow {l : Nat} {e : AExit} {s : St} {v : Value} {H' : AHeap} (hh : endRound l e s = some (v, H')) (hw : WF s.H) : Grow s.H H' := by
  unfold endRound at hh
  split at hh
  · rename_i L hL
    split at hh
    · split at hh <;> (cases hh; exact (put_spec _ hw hL (by simp)).1)
    · cases hh
  · cases hh

theorem bodyRound_grow (h : GrowOK o) {l : Nat} {body : ICode} {s : St} {v : Value} {H' : AHeap} (hh : bodyRound C o l body s = some (v, H')) (hw : WF s.H) : Grow s.H H' := by
  unfold bodyRound at hh
  split at hh
  · rename_i L hL
    split at hh
    · split at hh
      · rename_i e s' hc
        have g1 := (put_spec (.loop { L with state := .busy }) hw hL (by simp)).1
        have g2 := (code_grow h _ _ _ _ _ hc (g1.wf hw)).grow
        exact (g1.trans g2).trans (endRound_grow hh (g2.wf (g1.wf hw)))
      · cases hh
    · cases hh
  · cases hh

theorem callYield_grow (h : GrowOK o) {l : Nat} {args : List Value} {H : AHeap} {v : Value} {H' : AHeap} (hh : callYield C o l args H = some (v, H')) (hw : WF H) : Grow H H' := by
  unfold callYield at hh
  split at hh
  · split at hh
    · split at hh
      · rename_i e s hc
        have g := (code_grow h _ _ _ _ _ hc hw).grow
        split at hh
        · exact g.trans (bodyRound_grow h hh (g.wf hw))
        · cases hh
      · cases hh
    · cases hh
  · cases hh

theorem callA_grow (h : GrowOK o) {f : Value} {args : List Value} {H : AHeap} {v : Value} {H' : AHeap} (hh : callA C o f args H = some (v, H')) (hw : WF H) : Grow H H' := by
  unfold callA at hh
  split at hh
  · split at hh
    · split at hh
      · rename_i r hk
        cases hh
        exact C.kgrow _ _ _ _ _ hk hw
      · split at hh
        · cases hh
        · exact callFn_grow h hh hw
    · split at hh
      · exact callYield_grow h hh hw
      · cases hh
    · cases hh
  · cases hh

theorem all_grow : ∀ n, GrowOK (orc C n)
  | 0 => ⟨fun _ _ _ _ _ h => (by cases h), fun _ _ _ _ _ h => (by cases h)⟩
  | n + 1 => by
    have ih := all_grow n
    refine ⟨fun f as H v H' h hw => callA_grow ih h hw, fun ro c s e s' h hw => ?_⟩
    have h : loopA C (orc C n) ro c s = some (e, s') := h
    unfold loopA at h
    split at h
    · rename_i s1 h1
      have g := code_grow ih _ _ _ _ _ h1 hw
      exact g.trans (ih.loop _ _ _ _ _ h (g.grow.wf hw))
    · exact code_grow ih _ _ _ _ _ h hw

end
end Go.Ak

namespace Go.Ak

section
variable {P : Program} {C : Ctx} {o : Orc}

/-! ### the results of a function -/
def resOf (tmps : Array Value) : ResultVar → Sem Value
  | .tmp t => pure (tmps.getD t undef)
  | .cell a t => do loadVar t (← asAddr (tmps.getD a undef))

theorem mapM_run {α β : Type} {f : α → Sem β} {w : World} {r : α} {rs : List α} {v : β} {vs : List β} (h1 : (f r).run P w = .ok v w) (h2 : (rs.mapM f).run P w = .ok vs w) : ((r :: rs).mapM f).run P w = .ok (v :: vs) w := by
  simp [List.mapM_cons, h1, h2]

theorem resA_rel {φ : Phi} {M : Nat → Option AObj} {w : World} {T : Nat → Value} {tmps : Array Value} (hT : TRel φ T tmps) (h : R P C φ M w) : ∀ {rs : List ResultVar} {irs : List IRes} {vs : List Value}, compRes P rs = some irs → resAll C T M irs = some vs →
    ∃ vs', (rs.mapM (resOf tmps)).run P w = .ok vs' w ∧ VsRel φ vs vs'
  | [], irs, vs, hc, hr => by
    simp only [compRes, Option.some.injEq] at hc
    subst hc
    simp only [resAll, Option.some.injEq] at hr
    subst hr
    exact ⟨[], by simp, .nil⟩
  | .tmp t :: rs, irs, vs, hc, hr => by
    simp only [compRes, Option.map_eq_some_iff] at hc
    obtain ⟨irs', hc', rfl⟩ := hc
    simp only [resAll, resA] at hr
    split at hr
    · rename_i v vs1 h1 h2
      cases h1
      cases hr
      obtain ⟨vs', hrun, hrel⟩ := resA_rel hT h hc' h2
      exact ⟨tmps.getD t undef :: vs', mapM_run (Sem.run_pure _ _ _) hrun, .cons _ _ _ _ (hT t) hrel⟩
    · cases hr
  | .cell a t :: rs, irs, vs, hc, hr => by
    simp only [compRes] at hc
    split at hc
    · rename_i n irs' hb hn hc'
      cases hc
      simp only [resAll] at hr
      split at hr
      · rename_i v vs1 h1 h2
        cases hr
        simp only [resA] at h1
        split at h1
        · rename_i ad had
          simp only [Option.map_eq_some_iff] at h1
          obtain ⟨l, hl, rfl⟩ := h1
          have hv := hT a
          rw [asCell_inv had] at hv
          obtain ⟨a', e1, e2⟩ := ptr_inv hv
          obtain ⟨_, xs', _, _, hx, hrun1⟩ := loadN_rel h e2 hl
          obtain ⟨vs', hrun, hrel⟩ := resA_rel hT h hc' h2
          exact ⟨.agg xs'.toArray :: vs', mapM_run (by simp only [resOf, e1]; simp [asAddr, loadVar, run_isAgg hb, run_sizeOf hn, hrun1]) hrun, .cons _ _ _ _ (.agg _ _ (by simpa using hx)) hrel⟩
        · cases h1
      · cases hr
    · rename_i n irs' hb hn hc'
      cases hc
      simp only [resAll] at hr
      split at hr
      · rename_i v vs1 h1 h2
        cases hr
        simp only [resA] at h1
        split at h1
        · rename_i ad had
          split at h1
          · rename_i v0 hl
            cases h1
            have hv := hT a
            rw [asCell_inv had] at hv
            obtain ⟨a', e1, e2⟩ := ptr_inv hv
            obtain ⟨_, xs', hcell, _, hx, _⟩ := loadN_rel h e2 hl
            obtain ⟨v', p, q⟩ := hx.get (i := 0) (v := v) rfl
            have hc0 := hcell 0 v' p
            rw [show a'.add 0 = a' from by simp [Addr.add]] at hc0
            obtain ⟨vs', hrun, hrel⟩ := resA_rel hT h hc' h2
            exact ⟨v' :: vs', mapM_run (by simp only [resOf, e1]; simp [asAddr, loadVar, run_isAgg hb, hc0]) hrun, .cons _ _ _ _ q hrel⟩
          · cases h1
        · cases h1
      · cases hr
    · cases hc

theorem oneOrTuple_rel {φ : Phi} {vs vs' : List Value} (h : VsRel φ vs vs') : VRel φ (oneOrTuple vs) (if h : vs'.toArray.size = 1 then vs'.toArray[0] else .tuple vs'.toArray) := by
  cases h with
  | nil => exact .undef _
  | cons v v' r r' h1 h2 =>
    cases h2 with
    | nil => exact h1
    | cons u u' r2 r2' h3 h4 => exact .tup _ _ (by simp) (.cons _ _ _ _ h1 (.cons _ _ _ _ h3 h4))

theorem results_rel {φ : Phi} {M : Nat → Option AObj} {w : World} {T : Nat → Value} {tmps : Array Value} (hT : TRel φ T tmps) (h : R P C φ M w) {fn : Func} {irs : List IRes} {vs : List Value} (hc : compRes P fn.results.toList = some irs)
    (hr : resAll C T M irs = some vs) : ∃ v', (results fn tmps).run P w = .ok v' w ∧ VRel φ (oneOrTuple vs) v' := by
  obtain ⟨vs', hrun, hrel⟩ := resA_rel hT h hc hr
  refine ⟨_, ?_, oneOrTuple_rel hrel⟩
  have e : results fn tmps = (do let vs ← fn.results.mapM (resOf tmps); pure (if h : vs.size = 1 then vs[0] else .tuple vs)) := by
    unfold results
    congr 1
  rw [e, Array.mapM_eq_mapM_toList]
  simp only [bind_map_left, Sem.run_bind]
  rw [hrun]
  rfl

/-! ### a loop -/
theorem least {p : Nat → Prop} : ∀ n, p n → ∃ n, p n ∧ ∀ m, p m → n ≤ m := by
  intro n
  induction n using Nat.strongRecOn with
  | _ n ih =>
    intro hn
    by_cases h : ∃ m, m < n ∧ p m
    · obtain ⟨m, h1, h2⟩ := h
      exact ih m h1 h2
    · exact ⟨n, hn, fun m hm => by
        rcases Nat.lt_or_ge m n with h' | h'
        · exact absurd ⟨m, h', hm⟩ h
        · exact h'⟩

/-- A loop, with a number that falls. -/
theorem wpIn_loop_ix {F : Fence} {n : Nat} {c : Code} {Q : Exit → Act → World → Prop} {a : Act} {w : World} (I : Nat → Act → World → Prop) {j : Nat} (h0 : I j a w)
    (round : ∀ j a w, I j a w → c.wpIn F n P (Exit.then (fun a' w' => ∃ i, i < j ∧ I i a' w') Q) a w) : (Code.loop c).wpIn F n P Q a w := by
  classical
  have ex : ∀ a w, (∃ j, I j a w) → ∃ j, I j a w ∧ ∀ i, I i a w → j ≤ i := fun a w ⟨j, hj⟩ => least (p := fun j => I j a w) j hj
  let μ : Act → World → Nat := fun a w => if h : ∃ j, I j a w then Classical.choose (ex a w h) else 0
  have hμ : ∀ a w, (∃ j, I j a w) → I (μ a w) a w ∧ ∀ i, I i a w → μ a w ≤ i := fun a w h => by
    have e : μ a w = Classical.choose (ex a w h) := by simp only [μ, dif_pos h]
    rw [e]
    exact Classical.choose_spec (ex a w h)
  refine wpIn_loop (fun a w => ∃ j, I j a w) μ ⟨j, h0⟩ fun a w hI => wpIn_mono (round (μ a w) a w (hμ a w hI).1) fun e a' w' hq => ?_
  cases e with
  | normal =>
    obtain ⟨i, hi, hI'⟩ := hq
    exact ⟨⟨i, hI'⟩, Nat.lt_of_le_of_lt ((hμ a' w' ⟨i, hI'⟩).2 i hI') hi⟩
  | exit _ => exact hq
  | goto _ => exact hq
  | ret => exact hq
  | panic _ => exact hq
  | outgrown => exact hq

/-- The code is sound at an oracle. -/
def CodesOK (P : Program) (C : Ctx) (o : Orc) : Prop := ∀ (code : Code) (nt : Nat) (ro : Option Nat) (s : St) (e : AExit) (s' : St), codeA C o ro (compCode P nt code) s = some (e, s') → WF s.H → CodeOK P C ro code nt s e s'

theorem loop_exit (n : Nat) {ro : Option Nat} {c : ICode} : ∀ {s : St} {e : AExit} {s' : St}, (orc C n).loop ro c s = some (e, s') → e ≠ .normal := by
  induction n with
  | zero => intro s e s' h; cases h
  | succ n ih =>
    intro s e s' h
    have h : loopA C (orc C n) ro c s = some (e, s') := h
    unfold loopA at h
    split at h
    · exact ih h
    · rename_i hne
      rintro rfl
      exact hne _ h

theorem loops_ok (n : Nat) (hcs : ∀ m, m < n → CodesOK P C (orc C m)) : LoopsOK P C (orc C n) := by
  intro ro code nt s e s' h hw
  have g := (all_grow (C := C) n).loop _ _ _ _ _ h hw
  refine ⟨g.grow, g.ds, fun φ M a w ro' hE hF hR hT hnt hD hro => ?_⟩
  have hne := loop_exit n h
  refine wpIn_loop_ix (fun j a1 w1 => j ≤ n ∧ ∃ s1 φ1, (orc C j).loop ro (compCode P nt code) s1 = some (e, s') ∧ WF s1.H ∧ Grow s.H s1.H ∧ φ.le φ1 ∧ TRel φ1 s1.T.val a1.tmps ∧ R P C φ1 (over s1.H M) w1 ∧ a1.tmps.size = a.tmps.size ∧ DsRel φ1 s1.ds a1.defers)
    (j := n) ⟨Nat.le_refl _, s, φ, h, hw, .refl _, Phi.le_refl φ, hT, by rw [over_self hE]; exact hR, rfl, hD⟩ ?_
  rintro j a1 w1 ⟨hj, s1, φ1, h1, hw1, g1, hle1, hT1, hR1, hs1, hD1⟩
  cases j with
  | zero => cases h1
  | succ m =>
    have h2 : loopA C (orc C m) ro (compCode P nt code) s1 = some (e, s') := h1
    unfold loopA at h2
    have gall := ((all_grow (C := C) (m + 1)).loop _ _ _ _ _ h1 hw1).grow
    have hF1 : Fresh s1.H s'.H (over s1.H M) := hF.right g1
    split at h2
    · rename_i s2 hc
      have ok := hcs m (by omega) code nt ro s1 .normal s2 hc hw1
      have g2 := ((all_grow (C := C) m).loop _ _ _ _ _ h2 (ok.grow.wf hw1)).grow
      refine wpIn_mono (ok.walk φ1 (over s1.H M) a1 w1 ro' (ext_over _ _) (hF1.left g2) hR1 hT1 (hs1 ▸ hnt) hD1 (hro.mono hle1)) ?_
      rintro x a2 w2 ⟨rfl, φ2, hle2, hT2, hR2, hs2, hD2⟩
      rw [over_over ok.grow.next] at hR2
      exact ⟨m, Nat.lt_succ_self m, by omega, s2, φ2, h2, ok.grow.wf hw1, g1.trans ok.grow, Phi.le_trans hle1 hle2, hT2, hR2, hs2.trans hs1, hD2⟩
    · rename_i hnn
      have ok := hcs m (by omega) code nt ro s1 e s' h2 hw1
      refine wpIn_mono (ok.walk φ1 (over s1.H M) a1 w1 ro' (ext_over _ _) hF1 hR1 hT1 (hs1 ▸ hnt) hD1 (hro.mono hle1)) fun x a2 w2 hp => ?_
      have hx := hp.1
      have hp' := hp.later hle1 hs1 ok.grow.next
      cases e with
      | normal => exact absurd rfl hne
      | exit id => subst hx; exact hp'
      | ret => subst hx; exact hp'

end
end Go.Ak
