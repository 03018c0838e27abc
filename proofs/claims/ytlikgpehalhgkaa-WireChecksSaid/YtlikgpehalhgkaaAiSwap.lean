/-
  Events: what an operation of a region did; two events that are free of each other change places.
-/
import Derived.Test.YtlikgpehalhgkaaAiEv
namespace Go.Ai

def upT (T : Nat → Value) (d : Option Nat) (v : Value) : Nat → Value := match d with
  | some d => fun i => if i = d then v else T i
  | none => T

theorem putDst_val (T : Env) (d : Option Nat) (v : Value) : (putDst T d v).val = upT T.val d v := by
  cases d with
  | none => rfl
  | some d =>
    funext i
    show ((T.put d v).get i).getD undef = if i = d then v else (T.get i).getD undef
    rw [Trie.get_put]
    split <;> rfl

theorem upT_of (T : Nat → Value) {d : Option Nat} (v : Value) {t : Nat} (h : d ≠ some t) : upT T d v t = T t := by
  cases d with
  | none => rfl
  | some d =>
    show (if t = d then v else T t) = T t
    rw [if_neg]
    rintro rfl
    exact h rfl

/-- A memory under an abstract one. -/
def over (H : AHeap) (M : Nat → Option AObj) (b : Nat) : Option AObj := if b < H.next then H.get b else M b

def WF (H : AHeap) : Prop := ∀ i, H.cnt ≤ i → H.t.get i = none

/-- An abstract memory has become more. -/
structure Grow (H H' : AHeap) : Prop where
  base : H'.base = H.base
  cnt : H.cnt ≤ H'.cnt
  wf : WF H → WF H'

theorem Grow.next {H H' : AHeap} (h : Grow H H') : H.next ≤ H'.next := by
  unfold AHeap.next
  have := h.base
  have := h.cnt
  omega

def Ext (H : AHeap) (M : Nat → Option AObj) : Prop := ∀ b, b < H.next → M b = H.get b
def Fresh (H H' : AHeap) (M : Nat → Option AObj) : Prop := ∀ b, H.next ≤ b → b < H'.next → M b = none

inductive Eff where
  | skip
  | exp (nid : Nat) (out : AOut)
  | call (b a : AHeap) (v : Value)

def Eff.val : Eff → Value
  | .skip => absent
  | .exp _ o => o.v
  | .call _ _ v => v

def Eff.mem : Eff → (Nat → Option AObj) → Nat → Option AObj
  | .skip, M => M
  | .exp nid o, M => patch M nid o
  | .call _ a _, M => over a M

def Eff.info : Eff → Info
  | .skip => .exp [] []
  | .exp nid o => .exp o.rd (o.mods nid)
  | .call b a _ => .call b a

structure Ev where
  idx : Nat
  x : IOper
  eff : Eff

def Ev.eT (e : Ev) (T : Nat → Value) : Nat → Value := upT T e.x.dst e.eff.val

section
variable (C : Ctx) (o : Orc)

def Eff.ok (x : IOper) (T : Nat → Value) (M : Nat → Option AObj) : Eff → Prop
  | .skip => wantedA T x.g = some false
  | .exp nid out => wantedA T x.g = some true ∧ isCall x.op = false ∧ evalOp C M T nid x.op = some out ∧ (out.new ≠ none → M nid = none)
  | .call b a v => wantedA T x.g = some true ∧ ∃ f as, x.op = .call f as ∧ o.call (f.val T) (as.map (·.val T)) b = some (v, a) ∧ (WF b ∧ Grow b a) ∧ Ext b M ∧ Fresh b a M

def Runs : List Ev → (Nat → Value) → (Nat → Option AObj) → (Nat → Value) → (Nat → Option AObj) → Prop
  | [], T, M, T', M' => T = T' ∧ M = M'
  | e :: r, T, M, T', M' => e.eff.ok C o e.x T M ∧ Runs r (e.eT T) (e.eff.mem M) T' M'

def TFree (k e : IOper) : Prop := (∀ d, k.dst = some d → d ∉ e.uses) ∧ (∀ d, e.dst = some d → d ∉ k.uses) ∧ (∀ d, k.dst = some d → e.dst ≠ some d)

def MFree (k e : Info) : Prop := free C k e = true ∨ k = .exp [] [] ∨ e = .exp [] []

def Free (k e : Ev) : Prop := TFree k.x e.x ∧ MFree C k.eff.info e.eff.info

variable {C o} {T T' : Nat → Value} {M M' : Nat → Option AObj}

theorem wantedA_congr {g : Option (Nat × Bool)} (h : ∀ t b, g = some (t, b) → T' t = T t) : wantedA T' g = wantedA T g := by
  cases g with
  | none => rfl
  | some p => obtain ⟨t, b⟩ := p; simp only [wantedA, h t b rfl]

theorem Eff.ok_T {x : IOper} {e : Eff} (h : ∀ t ∈ x.uses, T' t = T t) (k : e.ok C o x T M) : e.ok C o x T' M := by
  have hg : wantedA T' x.g = wantedA T x.g := wantedA_congr fun t b hg => h t (by simp [IOper.uses, hg])
  have hop : ∀ t ∈ x.op.uses, T' t = T t := fun t ht => h t (by simp [IOper.uses, ht])
  cases e with
  | skip => exact hg.trans k
  | exp nid out =>
    obtain ⟨h1, h2, h3, h4⟩ := k
    exact ⟨hg.trans h1, h2, (evalOp_T _ hop).trans h3, h4⟩
  | call b a v =>
    obtain ⟨h1, f, as, h2, h3, h4⟩ := k
    rw [h2] at hop
    simp only [IOp.uses, List.mem_append] at hop
    exact ⟨hg.trans h1, f, as, h2, by rw [IOpd.val_congr (x := f) fun t ht => hop t (.inl ht), vals_congr (xs := as) fun t ht => hop t (.inr ht)]; exact h3, h4⟩

theorem patch_same {nid : Nat} {out : AOut} {b : Nat} (h : b ∉ out.mods nid) : patch M nid out b = M b := by
  unfold AOut.mods at h
  unfold patch
  cases hp : out.put with
  | none => cases hn : out.new with
    | none => rfl
    | some x => simp [hp, hn] at h; simp [upd, h]
  | some p =>
    obtain ⟨c, x⟩ := p
    cases hn : out.new with
    | none => simp [hp, hn] at h; simp [upd, h]
    | some y => simp [hp, hn] at h; simp [upd, h]

theorem patch_other {nid : Nat} {out : AOut} {b : Nat} (h : b ∈ out.mods nid) : patch M nid out b = patch M' nid out b := by
  unfold AOut.mods at h
  unfold patch
  cases hp : out.put with
  | none => cases hn : out.new with
    | none => simp [hp, hn] at h
    | some x => simp [hp, hn] at h; simp [upd, h]
  | some p =>
    obtain ⟨c, x⟩ := p
    cases hn : out.new with
    | none => simp [hp, hn] at h; simp [upd, h]
    | some y =>
      simp [hp, hn] at h
      simp only [upd]
      split
      · rfl
      · rename_i hne
        rw [if_pos (h.resolve_right hne), if_pos (h.resolve_right hne)]

theorem patch_nil {nid : Nat} {out : AOut} (h : out.mods nid = []) : patch M nid out = M := by
  funext b
  exact patch_same (by simp [h])

theorem new_mem {nid : Nat} {out : AOut} (h : out.new ≠ none) : nid ∈ out.mods nid := by
  unfold AOut.mods
  cases hn : out.new with
  | none => exact absurd hn h
  | some x => simp

theorem Eff.ok_M {x : IOper} {nid : Nat} {out : AOut} (h1 : ∀ b ∈ out.rd, M' b = M b) (h2 : ∀ b ∈ out.mods nid, M b = none → M' b = none) (k : (Eff.exp nid out).ok C o x T M) : (Eff.exp nid out).ok C o x T M' := by
  obtain ⟨k1, k2, k3, k4⟩ := k
  exact ⟨k1, k2, (evalOp_local k3).again M' h1, fun hn => h2 nid (new_mem hn) (k4 hn)⟩

theorem disj_spec {a b : List Nat} (h : disj a b = true) {x : Nat} (hx : x ∈ a) : x ∉ b := by
  intro hb
  unfold disj at h
  have := List.all_eq_true.1 (List.all_eq_true.1 h x hx) x hb
  simp at this

theorem same_spec (hE : ∀ a b, C.eqb a b = true → a = b) {a b : Option AObj} (h : same C a b = true) : a = b := by
  cases a <;> cases b <;> simp [same] at h
  exact congrArg some (hE _ _ h)

/-- Two explicit operations. -/
theorem free_exp {rk mk ri mi : List Nat} (h : MFree C (.exp rk mk) (.exp ri mi)) : (∀ b ∈ mk, b ∉ ri) ∧ (∀ b ∈ mk, b ∉ mi) ∧ ∀ b ∈ mi, b ∉ rk := by
  rcases h with h | h | h
  · simp only [free, Bool.and_eq_true] at h
    exact ⟨fun b hb => disj_spec h.1 hb, fun b hb => disj_spec h.2.1 hb, fun b hb => disj_spec h.2.2 hb⟩
  · cases h; simp
  · cases h; simp

theorem free_call (hE : ∀ a b, C.eqb a b = true → a = b) {Hb Ha : AHeap} {ri mi : List Nat} (h : MFree C (.call Hb Ha) (.exp ri mi)) :
    (∀ b ∈ ri, Ha.next ≤ b ∨ (b < Hb.next ∧ Hb.get b = Ha.get b)) ∧ ∀ b ∈ mi, Ha.next ≤ b := by
  rcases h with h | h | h
  · simp only [free, Bool.and_eq_true, List.all_eq_true, Bool.or_eq_true, Nat.ble_eq, Nat.blt_eq] at h
    exact ⟨fun b hb => (h.1 b hb).imp id fun h => ⟨h.1, same_spec hE h.2⟩, h.2⟩
  · cases h
  · cases h; simp

/-- Two events that are free of each other change places. -/
theorem swap (hE : ∀ a b, C.eqb a b = true → a = b) {k e : Ev} (hf : Free C k e) (hk : k.eff.ok C o k.x T M) (he : e.eff.ok C o e.x (k.eT T) (k.eff.mem M)) :
    e.eff.ok C o e.x T M ∧ k.eff.ok C o k.x (e.eT T) (e.eff.mem M) ∧ k.eT (e.eT T) = e.eT (k.eT T) ∧ k.eff.mem (e.eff.mem M) = e.eff.mem (k.eff.mem M) := by
  obtain ⟨⟨t1, t2, t3⟩, hm⟩ := hf
  have he1 : e.eff.ok C o e.x T (k.eff.mem M) := Eff.ok_T (fun t ht => by
    refine (upT_of T k.eff.val fun hd => ?_).symm
    exact t1 t hd ht) he
  have hk1 : k.eff.ok C o k.x (e.eT T) M := Eff.ok_T (fun t ht => upT_of T e.eff.val fun hd => t2 t hd ht) hk
  have hT : k.eT (e.eT T) = e.eT (k.eT T) := by
    unfold Ev.eT upT
    cases hkd : k.x.dst with
    | none => rfl
    | some d => cases hed : e.x.dst with
      | none => rfl
      | some c =>
        have : d ≠ c := fun h => t3 d hkd (by rw [hed, h])
        funext i
        dsimp only
        by_cases h1 : i = d
        · subst h1; rw [if_pos rfl, if_neg this, if_pos rfl]
        · by_cases h2 : i = c
          · subst h2; simp [h1]
          · simp [h1, h2]
  suffices e.eff.ok C o e.x T M ∧ k.eff.ok C o k.x (e.eT T) (e.eff.mem M) ∧ k.eff.mem (e.eff.mem M) = e.eff.mem (k.eff.mem M) from ⟨this.1, this.2.1, hT, this.2.2⟩
  cases hke : k.eff with
  | skip =>
    rw [hke] at he1 hk1
    exact ⟨he1, hk1, rfl⟩
  | exp nk ok =>
    rw [hke] at he1 hk1 hm
    cases hee : e.eff with
    | skip =>
      rw [hee] at he1
      exact ⟨he1, hk1, rfl⟩
    | exp ne oe =>
      rw [hee] at he1 hm
      obtain ⟨d1, d2, d3⟩ := free_exp hm
      refine ⟨?_, ?_, ?_⟩
      · refine Eff.ok_M (fun b hb => (patch_same fun hmk => d1 b hmk hb).symm) (fun b hb h0 => ?_) he1
        have : patch M nk ok b = M b := patch_same fun hmk => d2 b hmk hb
        exact this.symm.trans h0
      · refine Eff.ok_M (fun b hb => patch_same fun hmi => d3 b hmi hb) (fun b hb h0 => ?_) hk1
        have : patch M ne oe b = M b := patch_same fun hmi => d2 b hb hmi
        exact this.trans h0
      · funext b
        show patch (patch M ne oe) nk ok b = patch (patch M nk ok) ne oe b
        by_cases h1 : b ∈ ok.mods nk
        · rw [patch_same (d2 b h1)]
          exact patch_other h1
        · by_cases h2 : b ∈ oe.mods ne
          · rw [patch_same h1]
            exact patch_other h2
          · rw [patch_same h1, patch_same h2, patch_same h2, patch_same h1]
    | call Hb Ha v =>
      rw [hee] at he1 hm
      have : ok.rd = [] ∧ ok.mods nk = [] := by
        rcases hm with h | h | h
        · simp [Eff.info, free] at h
        · simpa [Eff.info] using h
        · simp [Eff.info] at h
      have hid : ∀ M : Nat → Option AObj, (Eff.exp nk ok).mem M = M := fun M => patch_nil this.2
      rw [hid] at he1
      exact ⟨he1, Eff.ok_M (by simp [this.1]) (by simp [this.2]) hk1, by rw [hid, hid]⟩
  | call Hb Ha v =>
    rw [hke] at he1 hk1 hm
    cases hee : e.eff with
    | skip =>
      rw [hee] at he1
      exact ⟨he1, hk1, rfl⟩
    | exp ne oe =>
      rw [hee] at he1 hm
      obtain ⟨d1, d2⟩ := free_call hE hm
      obtain ⟨g1, f, as, g2, g3, g4, g5, g6⟩ := hk1
      have gn : Hb.next ≤ Ha.next := g4.2.next
      refine ⟨?_, ?_, ?_⟩
      · refine Eff.ok_M (fun b hb => ?_) (fun b hb h0 => ?_) he1
        · show M b = over Ha M b
          unfold over
          rcases d1 b hb with h | ⟨h1, h2⟩
          · rw [if_neg (by omega)]
          · rw [if_pos (by omega), ← h2, g5 b h1]
        · have : over Ha M b = M b := by unfold over; rw [if_neg (by have := d2 b hb; omega)]
          exact this.symm.trans h0
      · have hsame : ∀ b, b < Ha.next → patch M ne oe b = M b := fun b hb => patch_same fun hmi => by have := d2 b hmi; omega
        exact ⟨g1, f, as, g2, g3, g4, fun b hb => (hsame b (by omega)).trans (g5 b hb), fun b h1 h2 => (hsame b h2).trans (g6 b h1 h2)⟩
      · funext b
        show over Ha (patch M ne oe) b = patch (over Ha M) ne oe b
        by_cases hb : b < Ha.next
        · have h1 : b ∉ oe.mods ne := fun hmi => by have := d2 b hmi; omega
          rw [patch_same h1]
          unfold over
          rw [if_pos hb, if_pos hb]
        · have : over Ha (patch M ne oe) b = patch M ne oe b := by unfold over; rw [if_neg hb]
          rw [this]
          by_cases hmi : b ∈ oe.mods ne
          · exact patch_other hmi
          · rw [patch_same hmi, patch_same hmi]
            unfold over
            rw [if_neg hb]
    | call Hb' Ha' v' =>
      rw [hee] at hm
      rcases hm with h | h | h
      · simp [Eff.info, free] at h
      · simp [Eff.info] at h
      · simp [Eff.info] at h

/-- An event comes to the front of those of which it is free. -/
theorem bubble (hE : ∀ a b, C.eqb a b = true → a = b) {e : Ev} {post : List Ev} {Tf : Nat → Value} {Mf : Nat → Option AObj} :
    ∀ (pre : List Ev) (T : Nat → Value) (M : Nat → Option AObj), (∀ k ∈ pre, Free C k e) → Runs C o (pre ++ e :: post) T M Tf Mf → Runs C o (e :: (pre ++ post)) T M Tf Mf
  | [], _, _, _, h => h
  | k :: r, T, M, hf, h => by
    obtain ⟨hk, hr⟩ := h
    obtain ⟨he, hrest⟩ := bubble hE r _ _ (fun x hx => hf x (List.mem_cons_of_mem _ hx)) hr
    obtain ⟨s1, s2, s3, s4⟩ := swap hE (hf k (by simp)) hk he
    refine ⟨s1, s2, ?_⟩
    rw [s3, s4]
    exact hrest

end
end Go.Ai
