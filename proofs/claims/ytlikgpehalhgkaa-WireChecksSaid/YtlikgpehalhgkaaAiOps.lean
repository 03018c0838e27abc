/-
  Every operation that is no call, against the model's.
-/
import Derived.Test.YtlikgpehalhgkaaAiOpsF
namespace Go.Ai

section
variable {P : Program} {C : Ctx} {φ : Phi} {M : Nat → Option AObj} {w : World} {T : Nat → Value} {nid : Nat} {ρ : Operand → Value} {out : AOut} {o : Oper}

theorem keyT_inv {t : TypeId} (h : keyT P t = true) : ∃ k, P.underlying t = some (.int k) := by
  unfold keyT at h
  split at h
  · rename_i k hk; exact ⟨k, hk⟩
  · cases h

theorem new_box {n : Nat} {x : IOpd} (he : evalOp C M T nid (.box n x) = some out) : out.new ≠ none := by
  simp only [evalOp] at he
  split at he
  · split at he
    · cases he; simp
    · cases he
  · cases he

theorem new_buildSlice {len : Nat} {z : List Value} {ps : List (Nat × Nat × IOpd)} (he : evalOp C M T nid (.buildSlice len z ps) = some out) : out.new ≠ none := by
  simp only [evalOp] at he
  split at he
  · split at he
    · cases he; simp
    · cases he
  · cases he

theorem new_mkSlice {m : Nat} {z : List Value} {a b : IOpd} (he : evalOp C M T nid (.mkSlice m z a b) = some out) : out.new ≠ none := by
  simp only [evalOp] at he
  split at he
  · split at he
    · cases he; simp
    · cases he
  · cases he

theorem builtin_sound {c : Call} {b : Builtin} {io : IOp} (ho : o.op = .call c) (hb : c.callee = .builtin b) (hc : compBuiltin P b c.argTypes c.args.toList = some io)
    (hT : Opds φ T ρ) (h : R P C φ M w) (hn : out.new ≠ none → M nid = none) (he : evalOp C M T nid io = some out) : Good P C φ M w nid (execOp ρ o) out := by
  unfold compBuiltin at hc
  split at hc
  · rename_i t ts x hts ha
    split at hc
    · rename_i y ht hx; cases hc; exact good_lenStr ho hb hts ha hx ht hT h he
    · rename_i y ht hx; cases hc; exact good_len ho hb hts ha hx ht hT h he
    · rename_i n e y ht hx; cases hc; exact good_lenArr ho hb hts ha ht h he
    · rename_i k e y ht hx; cases hc; exact good_lenM ho hb hts ha hx ht hT h he
    · rename_i e y ht hx
      split at hc
      · rename_i n e' hta; cases hc; exact good_lenPtr ho hb hts ha ht hta h he
      · cases hc
    · cases hc
  · rename_i t ts x hts ha
    split at hc
    · rename_i e y ht hx; cases hc; exact good_cap ho hb hts ha hx ht hT h he
    · rename_i n e y ht hx; cases hc; exact good_capArr ho hb hts ha ht h he
    · cases hc
  · rename_i t u ts x y hts ha
    split at hc
    · rename_i e a b' ht hx hy
      split at hc
      · rename_i n m d hsz hby hu
        split at hc
        · rename_i hpos
          split at hc
          · rename_i z hz
            split at hc
            · rename_i hzl
              split at hc
              · cases hc; exact good_appendZ ho hb hts ha hx hy ht hu hsz hby hz hzl hpos hT h hn he
              · cases hc; exact good_append ho hb hts ha hx hy ht hu (.inl ⟨_, rfl⟩) hsz hby hz hzl hpos hT h hn he
              · cases hc; exact good_append ho hb hts ha hx hy ht hu (.inr rfl) hsz hby hz hzl hpos hT h hn he
              · cases hc
            · cases hc
          · cases hc
        · cases hc
      · cases hc
    · cases hc
  · rename_i t ts x y hts ha
    split at hc
    · rename_i e a b' ht hx hy
      split at hc
      · rename_i n hsz
        split at hc
        · cases hc; exact good_copy ho hb hts ha hx hy ht hsz hT h he
        · cases hc
      · cases hc
    · cases hc
  · rename_i t ts x hts ha
    split at hc
    · rename_i e a ht hx
      split at hc
      · rename_i z hz; cases hc; exact good_clear ho hb hts ha hx ht hz hT h he
      · cases hc
    · cases hc
  · rename_i x y ha
    split at hc
    · rename_i a b' hx hy; cases hc; exact good_minI ho hb ha hx hy hT h he
    · cases hc
  · rename_i x y ha
    split at hc
    · rename_i a b' hx hy; cases hc; exact good_maxI ho hb ha hx hy hT h he
    · cases hc
  · cases hc

theorem op_sound {io : IOp} (hc : compOp? P o.op = some io) (hcall : isCall io = false) (hT : Opds φ T ρ) (h : R P C φ M w) (hn : out.new ≠ none → M nid = none)
    (he : evalOp C M T nid io = some out) : Good P C φ M w nid (execOp ρ o) out := by
  unfold compOp? at hc
  split at hc
  · rename_i x ho
    obtain ⟨y, hx, rfl⟩ := Option.map_eq_some_iff.1 hc
    simp only [evalOp, Option.some.injEq] at he; subst he
    exact good_move (.inl ho) hx hT h
  · rename_i x ho
    obtain ⟨y, hx, rfl⟩ := Option.map_eq_some_iff.1 hc
    simp only [evalOp, Option.some.injEq] at he; subst he
    exact good_move (.inr ho) hx hT h
  · rename_i c a b ho
    split at hc
    · rename_i c' a' b' h1 h2 h3; cases hc; exact good_pick ho h1 h2 h3 hT h he
    · cases hc
  · rename_i e ho
    obtain ⟨z, hz, rfl⟩ := Option.map_eq_some_iff.1 hc
    exact good_mk ho hz h (hn (by simp only [evalOp] at he; cases he; simp)) he
  · rename_i e x ho
    split at hc
    · rename_i n y h1 h2; cases hc; exact good_box ho h2 hT h (hn (new_box he)) he
    · cases hc
  · rename_i t ps ho
    split at hc
    · rename_i z qs hz hp
      split at hc
      · rename_i hf; cases hc; exact good_build ho hz hp hf hT h he
      · cases hc
    · cases hc
  · rename_i t len ps ho
    split at hc
    · rename_i e ht
      split at hc
      · rename_i n z hsz hz
        split at hc
        · rename_i hs
          split at hc
          · rename_i qs hp; cases hc; exact good_buildSlice ho ht hsz hz hs.1 hs.2 hp hT h (hn (new_buildSlice he)) he
          · cases hc
        · cases hc
      · cases hc
    · cases hc
  · rename_i t x ho
    split at hc
    · rename_i n y h1 h2 h3; cases hc; exact good_loadN ho h1 h2 h3 hT h he
    · rename_i n y h1 h2 h3; cases hc; exact good_load1 ho h1 h3 hT h he
    · cases hc
  · rename_i t a x ho
    split at hc
    · rename_i n b y h1 h2 h3; cases hc; exact good_store ho h1 h2 h3 hT h he
    · cases hc
  · rename_i x ho
    obtain ⟨y, hx, rfl⟩ := Option.map_eq_some_iff.1 hc
    exact good_nilCheck ho hx hT h he
  · rename_i op t x y yt ho
    split at hc
    · rename_i k a b hk hx hy
      unfold bkOf at hk
      split at hk
      · cases hk; cases hc; exact good_num ho hx hy hT h he
      · rename_i ht; cases hk; cases hc; exact good_boo ho ht hx hy hT h he
      · cases hk; cases hc; exact good_str ho hx hy hT h he
      · rename_i ht; cases hk; cases hc; exact good_ref ho ht (by constructor) (by simp) hx hy hT h he
      · rename_i ht; cases hk; cases hc; exact good_ref ho ht (by constructor) (by simp) hx hy hT h he
      · rename_i ht; cases hk; cases hc; exact good_ref ho ht (by constructor) (by simp) hx hy hT h he
      · rename_i ht; cases hk; cases hc; exact good_ref ho ht (by constructor) (by simp) hx hy hT h he
      · rename_i ht
        cases hk
        simp only [if_true] at hc
        split at hc
        · rename_i hcc; cases hc; exact good_ref ho ht (by constructor) (fun _ => by simpa using hcc) hx hy hT h he
        · cases hc
      · cases hk
    · cases hc
  · rename_i t x ho
    obtain ⟨y, hx, rfl⟩ := Option.map_eq_some_iff.1 hc
    exact good_not ho hx hT h he
  · rename_i t x ho
    obtain ⟨y, hx, rfl⟩ := Option.map_eq_some_iff.1 hc
    exact good_neg ho hx hT h he
  · rename_i s d x ho
    split at hc
    · rename_i ks k y h1 h2 h3; cases hc; exact good_conv ho h1 h2 h3 hT h he
    · rename_i e y h1 h2 h3
      split at hc
      · rename_i hu; cases hc; exact good_toStr ho h1 h2 hu h3 hT h he
      · cases hc
    · cases hc
  · rename_i s x f ho
    split at hc
    · rename_i fs y h1 h2
      split at hc
      · rename_i g hg
        split at hc
        · rename_i n hsz
          split at hc
          · cases hc
          · rename_i h0; cases hc; exact good_faddr ho h1 hg hsz h0 h2 hT h he
        · cases hc
      · cases hc
    · cases hc
  · rename_i s x f ho
    split at hc
    · rename_i fs y h1 h2
      split at hc
      · rename_i g hg
        split at hc
        · rename_i n b hsz hb; cases hc; exact good_field ho h1 hg hsz hb h2 hT h he
        · cases hc
      · cases hc
    · cases hc
  · rename_i t x i ho
    split at hc
    · rename_i e y j h1 h2 h3
      obtain ⟨n, hsz, rfl⟩ := Option.map_eq_some_iff.1 hc
      exact good_idxS ho h1 hsz h2 h3 hT h he
    · rename_i len e y j h1 h2 h3
      obtain ⟨n, hsz, rfl⟩ := Option.map_eq_some_iff.1 hc
      exact good_idxA ho h1 hsz h2 h3 hT h he
    · cases hc
  · rename_i t x i ho
    split at hc
    · rename_i len e y j h1 h2 h3
      split at hc
      · rename_i n b hsz hb; cases hc; exact good_idxV ho h1 hsz hb h2 h3 hT h he
      · cases hc
    · rename_i y j h1 h2 h3; cases hc; exact good_idxStr ho h1 h2 h3 hT h he
    · cases hc
  · rename_i t x lo hi mx ho
    split at hc
    · rename_i e y l hh m h1 h2 h3 h4 h5
      split at hc
      · cases hc
      · rename_i hm
        obtain ⟨n, hsz, rfl⟩ := Option.map_eq_some_iff.1 hc
        exact good_sliceS ho h1 hsz h2 h3 h4 h5 (by simpa using hm) hT h he
    · rename_i k e y l hh m h1 h2 h3 h4 h5
      split at hc
      · cases hc
      · rename_i hm
        obtain ⟨n, hsz, rfl⟩ := Option.map_eq_some_iff.1 hc
        exact good_sliceA ho h1 hsz h2 h3 h4 h5 (by simpa using hm) hT h he
    · rename_i y l hh m h1 h2 h3 h4 h5
      split at hc
      · cases hc
      · rename_i hm
        cases hc
        have : mx = none := by cases mx <;> simp_all
        subst this
        exact good_sliceStr ho h1 h2 h3 h4 hT h he
    · cases hc
  · rename_i x k ho
    obtain ⟨y, hx, rfl⟩ := Option.map_eq_some_iff.1 hc
    exact good_extract ho hx hT h he
  · rename_i fn first captured ho
    split at hc
    · rename_i f a b h1 h2; cases hc; exact good_mkfn ho h1 h2 hT h he
    · cases hc
  · rename_i t ho
    cases hc
    exact good_mkmap ho h (hn (by simp only [evalOp] at he; cases he; simp)) he
  · rename_i t m k x ho
    split at hc
    · rename_i kt e a b c h1 h2 h3 h4
      split at hc
      · rename_i hk; obtain ⟨ik, hik⟩ := keyT_inv hk; cases hc; exact good_insert (.inl ho) h1 hik h2 h3 h4 hT h he
      · cases hc
    · cases hc
  · rename_i t m k x ho
    split at hc
    · rename_i kt e a b c h1 h2 h3 h4
      split at hc
      · rename_i hk; obtain ⟨ik, hik⟩ := keyT_inv hk; cases hc; exact good_insert (.inr ho) h1 hik h2 h3 h4 hT h he
      · cases hc
    · cases hc
  · rename_i t m k ok ho
    split at hc
    · rename_i kt e a b h1 h2 h3
      split at hc
      · rename_i z hz
        split at hc
        · rename_i hk; obtain ⟨ik, hik⟩ := keyT_inv hk; cases hc; exact good_lookup ho h1 hik hz h2 h3 hT h he
        · cases hc
      · cases hc
    · cases hc
  · rename_i t n c ho
    split at hc
    · rename_i e a b h1 h2 h3
      split at hc
      · rename_i m z k h4 h5 h6
        split at hc
        · rename_i hz; cases hc; exact good_mkSlice (x3 := n) ho h2 h3 h1 h6 h4 h5 hz hT h (hn (new_mkSlice he)) he
        · cases hc
      · cases hc
    · cases hc
  · rename_i c ho
    split at hc
    · rename_i b hb
      exact builtin_sound ho hb hc hT h hn he
    · rename_i f hf
      split at hc
      · cases hc; cases hcall
      · cases hc
    · cases hc
  · cases hc
end
end Go.Ai
