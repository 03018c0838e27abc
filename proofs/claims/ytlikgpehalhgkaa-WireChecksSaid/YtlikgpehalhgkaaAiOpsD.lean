/-
  Each operation, against the model's: reading and writing memory, slices.
-/
import Derived.Test.YtlikgpehalhgkaaAiOpsC
namespace Go.Ai
section
variable {P : Program} {C : Ctx} {φ : Phi} {M : Nat → Option AObj} {w : World} {T : Nat → Value} {nid : Nat} {ρ : Operand → Value} {out : AOut} {o : Oper}

theorem good_load1 {t : TypeId} {x : Operand} {y : IOpd} (ho : o.op = .load t x) (hb : isAggT P t = some false) (hx : opd x = some y) (hT : Opds φ T ρ) (h : R P C φ M w) (he : evalOp C M T nid (.load1 y) = some out) : Good P C φ M w nid (execOp ρ o) out := by
  simp only [evalOp] at he
  split at he
  · rename_i a ha
    split at he
    · rename_i v hv
      cases he
      have h1 := hT x y hx
      rw [asCell_inv ha] at h1
      obtain ⟨a', h2, h3⟩ := ptr_inv h1
      obtain ⟨_, xs', hc, hl, hr, _⟩ := loadN_rel h h3 hv
      obtain ⟨v', p, q⟩ := hr.get (i := 0) (v := v) rfl
      have hcell := hc 0 v' p
      rw [show a'.add 0 = a' from by simp [Addr.add]] at hcell
      exact good_rd h (v' := v') (by simp [execOp, ho, h2, Instr.loadAt, Instr.sureAddr, loadVar, run_isAgg hb, hcell]) q
    · cases he
  · cases he

theorem good_loadN {t : TypeId} {n : Nat} {x : Operand} {y : IOpd} (ho : o.op = .load t x) (hb : isAggT P t = some true) (hn : sizeT P t = some n) (hx : opd x = some y) (hT : Opds φ T ρ) (h : R P C φ M w) (he : evalOp C M T nid (.loadN n y) = some out) :
    Good P C φ M w nid (execOp ρ o) out := by
  simp only [evalOp] at he
  split at he
  · rename_i a ha
    simp only [Option.map_eq_some_iff] at he
    obtain ⟨l, hl, rfl⟩ := he
    have h1 := hT x y hx
    rw [asCell_inv ha] at h1
    obtain ⟨a', h2, h3⟩ := ptr_inv h1
    obtain ⟨_, xs', hc, hln, hr, hrun⟩ := loadN_rel h h3 hl
    exact good_rd h (v' := .agg xs'.toArray) (by simp [execOp, ho, h2, Instr.loadAt, Instr.sureAddr, loadVar, run_isAgg hb, run_sizeOf hn, hrun]) (.agg _ _ (by simpa using hr))
  · cases he

theorem good_store {t : TypeId} {n : Nat} {a x : Operand} {b y : IOpd} (ho : o.op = .store t a x) (hn : sizeT P t = some n) (ha : opd a = some b) (hx : opd x = some y) (hT : Opds φ T ρ) (h : R P C φ M w) (he : evalOp C M T nid (.store n b y) = some out) :
    Good P C φ M w nid (execOp ρ o) out := by
  simp only [evalOp] at he
  split at he
  · rename_i ad cs had hcs
    split at he
    · rename_i hlen
      split at he
      · rename_i ob hst
        cases he
        have h1 := hT a b ha
        rw [asCell_inv had] at h1
        obtain ⟨a', h2, h3⟩ := ptr_inv h1
        have hv := vcells_rel (hT x y hx) hcs
        obtain ⟨w', hrun, hR⟩ := storeN_rel h h3 hv hst
        refine ⟨undef, w', φ, .inr ⟨?_, rfl⟩, Phi.le_refl φ, .undef _, hR⟩
        have hsz : (ρ x).cells.size = n := by have := hv.length; simp at this; omega
        simp [execOp, ho, h2, Instr.storeAt, Instr.sureAddr, storeVar, run_sizeOf hn, hsz, hrun]
      · cases he
    · cases he
  · cases he

theorem toBytes_inv : ∀ {l : List Value} {bs : List UInt8}, toBytes l = some bs → ∃ ns : List Int, l = ns.map (Value.int .u8) ∧ bs = ns.map fun n => UInt8.ofNat n.toNat
  | [], bs, h => by simp [toBytes] at h; subst h; exact ⟨[], rfl, rfl⟩
  | v :: r, bs, h => by
    unfold toBytes at h
    split at h
    · rename_i heq; simp at heq
    · rename_i n r' heq
      simp only [List.cons.injEq] at heq
      obtain ⟨rfl, rfl⟩ := heq
      simp only [Option.map_eq_some_iff] at h
      obtain ⟨bs', hbs, rfl⟩ := h
      obtain ⟨ns, rfl, rfl⟩ := toBytes_inv hbs
      exact ⟨n :: ns, rfl, rfl⟩
    · cases h

theorem ints_inv : ∀ {ns : List Int} {l : List Value}, VsRel φ (ns.map (Value.int .u8)) l → l = ns.map (Value.int .u8)
  | [], l, h => by cases h; rfl
  | n :: r, l, h => by
    cases h with
    | cons _ v' _ vs' h1 h2 => rw [int_inv h1, ints_inv h2]; rfl

theorem push_bytes (ns : List Int) : ∀ b : ByteArray, ns.foldl (fun (r : ByteArray) n => r.push (UInt8.ofNat n.toNat)) b = ⟨(b.data.toList ++ ns.map fun n => UInt8.ofNat n.toNat).toArray⟩ := by
  induction ns with
  | nil => intro b; cases b; simp
  | cons n r ih =>
    intro b
    simp only [List.foldl_cons, ih, List.map_cons]
    cases b
    simp [ByteArray.push]

theorem good_toStr {s d e : TypeId} {x : Operand} {y : IOpd} (ho : o.op = .convert s d x) (hs : P.underlying s = some (.slice e)) (hd : P.underlying d = some .string) (hu : P.underlying e = some (.int .u8)) (hx : opd x = some y) (hT : Opds φ T ρ) (h : R P C φ M w)
    (he : evalOp C M T nid (.toStr y) = some out) : Good P C φ M w nid (execOp ρ o) out := by
  simp only [evalOp] at he
  have h1 := hT x y hx
  have conv : ∀ a l c (r : Value), ρ x = .slice a l c → (Conv.bytesToString (.slice a l c)).run P w = .ok r w → (execOp ρ o).run P w = .ok (.value r) w := by
    intro a l c r hr hb
    simp [execOp, ho, hr, convert, run_underlying hs, run_underlying hd, run_underlying hu, hb]
  split at he
  · rename_i l c hv
    cases he
    rw [hv] at h1
    have h2 := nilsl_inv h1
    exact good_pure h (v' := .string .empty) (conv _ _ _ _ h2 (by simp [Conv.bytesToString])) (.string _)
  · rename_i a n c hv
    rw [hv] at h1
    obtain ⟨a', c', h2, _, h4⟩ := sl_inv h1
    split at he
    · rename_i h0
      subst h0
      cases he
      refine good_pure h (v' := .string .empty) (conv _ _ _ _ h2 ?_) (.string _)
      have := run_bytesToString (P := P) w a' 0 c' [] (by simp [loadCells, loadCellsFrom])
      simpa using this
    · rename_i h0
      split at he
      · rename_i l hl
        simp only [Option.map_eq_some_iff] at he
        obtain ⟨bs, hbs, rfl⟩ := he
        obtain ⟨ns, rfl, rfl⟩ := toBytes_inv hbs
        have ha := h4.resolve_right (by omega)
        obtain ⟨_, xs', hc, hln, hr, hrun⟩ := loadN_rel h ha hl
        rw [ints_inv hr] at hrun
        refine good_rd h (v' := .string ⟨(ns.map fun n => UInt8.ofNat n.toNat).toArray⟩) (conv _ _ _ _ h2 ?_) (.string _)
        rw [run_bytesToString (P := P) w a' n c' ns hrun, push_bytes]
        rfl
      · cases he
  · cases he

/-! ### builtins -/
theorem builtin_op {c : Call} {b : Builtin} (ho : o.op = .call c) (hc : c.callee = .builtin b) :
    execOp ρ o = builtin b c.argTypes o.type (c.args.map fun | .const _ => true | _ => false) (c.args.map ρ) := by
  simp only [execOp, ho, resolve, hc]
  rfl

theorem args_one {c : Call} {x : Operand} (ha : c.args.toList = [x]) : c.args = #[x] := by rw [← ha]
theorem args_two {c : Call} {x y : Operand} (ha : c.args.toList = [x, y]) : c.args = #[x, y] := by rw [← ha]
theorem type_first {c : Call} {t : TypeId} {ts : List TypeId} (hts : c.argTypes.toList = t :: ts) : c.argTypes[0]? = some t := by
  have : c.argTypes.toList[0]? = some t := by rw [hts]; rfl
  simpa using this
theorem type_second {c : Call} {t u : TypeId} {ts : List TypeId} (hts : c.argTypes.toList = t :: u :: ts) : c.argTypes[1]? = some u := by
  have : c.argTypes.toList[1]? = some u := by rw [hts]; rfl
  simpa using this

section
variable {c : Call} {x : Operand} {y : IOpd} {t : TypeId} {ts : List TypeId}

theorem good_len {e : TypeId} (ho : o.op = .call c) (hc : c.callee = .builtin .len) (hts : c.argTypes.toList = t :: ts) (ha : c.args.toList = [x]) (hx : opd x = some y) (ht : P.underlying t = some (.slice e))
    (hT : Opds φ T ρ) (h : R P C φ M w) (he : evalOp C M T nid (.len y) = some out) : Good P C φ M w nid (execOp ρ o) out := by
  simp only [evalOp] at he
  have h1 := hT x y hx
  split at he
  · rename_i a n cp hv
    cases he
    rw [hv] at h1
    refine good_pure h (v' := .int .i64 n) ?_ (.int _ _)
    rw [builtin_op ho hc, args_one ha]
    cases a with
    | none => simp [builtin, Builtin.len_, type_first hts, nilsl_inv h1, run_underlying ht, goInt]
    | some a =>
      obtain ⟨a', c', h2, _, _⟩ := sl_inv h1
      simp [builtin, Builtin.len_, type_first hts, h2, run_underlying ht, goInt]
  · cases he

theorem good_lenStr (ho : o.op = .call c) (hc : c.callee = .builtin .len) (hts : c.argTypes.toList = t :: ts) (ha : c.args.toList = [x]) (hx : opd x = some y) (ht : P.underlying t = some .string)
    (hT : Opds φ T ρ) (h : R P C φ M w) (he : evalOp C M T nid (.lenStr y) = some out) : Good P C φ M w nid (execOp ρ o) out := by
  simp only [evalOp] at he
  have h1 := hT x y hx
  split at he
  · rename_i s hv
    cases he
    rw [hv] at h1
    refine good_pure h (v' := .int .i64 s.size) ?_ (.int _ _)
    rw [builtin_op ho hc, args_one ha]
    simp [builtin, Builtin.len_, type_first hts, str_inv h1, run_underlying ht, goInt]
  · cases he

theorem good_lenArr {n : Nat} {e : TypeId} (ho : o.op = .call c) (hc : c.callee = .builtin .len) (hts : c.argTypes.toList = t :: ts) (ha : c.args.toList = [x]) (ht : P.underlying t = some (.array n e))
    (h : R P C φ M w) (he : evalOp C M T nid (.lenC n) = some out) : Good P C φ M w nid (execOp ρ o) out := by
  refine good_lenC ?_ h he
  rw [builtin_op ho hc, args_one ha]
  simp [builtin, Builtin.len_, type_first hts, run_underlying ht, goInt]

theorem good_lenPtr {n : Nat} {e a : TypeId} (ho : o.op = .call c) (hc : c.callee = .builtin .len) (hts : c.argTypes.toList = t :: ts) (ha : c.args.toList = [x]) (ht : P.underlying t = some (.pointer a)) (hta : P.underlying a = some (.array n e))
    (h : R P C φ M w) (he : evalOp C M T nid (.lenC n) = some out) : Good P C φ M w nid (execOp ρ o) out := by
  refine good_lenC ?_ h he
  rw [builtin_op ho hc, args_one ha]
  simp [builtin, Builtin.len_, type_first hts, run_underlying ht, run_underlying hta, goInt]

theorem good_capArr {n : Nat} {e : TypeId} (ho : o.op = .call c) (hc : c.callee = .builtin .cap) (hts : c.argTypes.toList = t :: ts) (ha : c.args.toList = [x]) (ht : P.underlying t = some (.array n e))
    (h : R P C φ M w) (he : evalOp C M T nid (.lenC n) = some out) : Good P C φ M w nid (execOp ρ o) out := by
  refine good_lenC ?_ h he
  rw [builtin_op ho hc, args_one ha]
  simp [builtin, Builtin.cap_, type_first hts, run_underlying ht, goInt]

theorem good_cap {e : TypeId} (ho : o.op = .call c) (hc : c.callee = .builtin .cap) (hts : c.argTypes.toList = t :: ts) (ha : c.args.toList = [x]) (hx : opd x = some y) (ht : P.underlying t = some (.slice e))
    (hT : Opds φ T ρ) (h : R P C φ M w) (he : evalOp C M T nid (.cap y) = some out) : Good P C φ M w nid (execOp ρ o) out := by
  simp only [evalOp] at he
  have h1 := hT x y hx
  split at he
  · rename_i l cp hv
    cases he
    rw [hv] at h1
    refine good_pure h (v' := .int .i64 cp) ?_ (.int _ _)
    rw [builtin_op ho hc, args_one ha]
    simp [builtin, Builtin.cap_, type_first hts, nilsl_inv h1, run_underlying ht, goInt]
  · rename_i a l cp hv
    rw [hv] at h1
    have key : out = { v := .int .i64 cp, rd := [a.block] } ∧ ∀ loc, φ a.block (ver a) = some loc → loc.esz = 0 := by
      split at he
      · rename_i hM
        split at he
        case isFalse => cases he
        rename_i hsp
        cases he
        refine ⟨rfl, fun loc hl => ?_⟩
        obtain ⟨hlt, hOld, _⟩ := h.obj _ _ hM
        have hva : ver a = 0 := by unfold ver; cases hs : a.spot <;> simp_all
        rw [hva, hOld _ hlt] at hl
        cases hl
        rfl
      · rename_i vs hM
        split at he
        · rename_i v hvv
          split at he
          · rename_i hesz
            cases he
            refine ⟨rfl, fun loc hl => ?_⟩
            obtain ⟨l', cc, tt, q1, q2, q3, q4, q5⟩ := (h.obj _ _ hM).1 _ v hvv
            rw [hl] at q1
            cases q1
            omega
          · cases he
        · cases he
      · cases he
    obtain ⟨rfl, hz⟩ := key
    refine good_rd h (v' := .int .i64 cp) ?_ (.int _ _)
    rw [builtin_op ho hc, args_one ha]
    generalize hr : ρ x = r at h1
    cases h1 with
    | slice _ loc _ _ c' hl hcr =>
      have : c' = cp := by
        rcases hcr with q | ⟨q, _⟩
        · exact q
        · have := hz loc hl; omega
      subst this
      simp [builtin, Builtin.cap_, type_first hts, hr, run_underlying ht, goInt]
    | slice0 _ a' => simp [builtin, Builtin.cap_, type_first hts, hr, run_underlying ht, goInt]
  · cases he

theorem good_lenM {k e : TypeId} (ho : o.op = .call c) (hc : c.callee = .builtin .len) (hts : c.argTypes.toList = t :: ts) (ha : c.args.toList = [x]) (hx : opd x = some y) (ht : P.underlying t = some (.map k e))
    (hT : Opds φ T ρ) (h : R P C φ M w) (he : evalOp C M T nid (.lenM y) = some out) : Good P C φ M w nid (execOp ρ o) out := by
  simp only [evalOp] at he
  have h1 := hT x y hx
  split at he
  · rename_i hv
    cases he
    rw [hv] at h1
    refine good_pure h (v' := .int .i64 0) ?_ (.int _ _)
    rw [builtin_op ho hc, args_one ha]
    have h2 : ρ x = .map none := by generalize ρ x = r at h1; cases h1; rfl
    simp [builtin, Builtin.len_, type_first hts, h2, run_underlying ht, goInt]
  · rename_i r hv
    rw [hv] at h1
    split at he
    · rename_i es hM
      cases he
      obtain ⟨l, es', clk, q1, _, q2, q3, q4⟩ := h.obj _ _ hM
      have h2 : ρ x = .map (some l.cb) := by
        generalize ρ x = v at h1
        cases h1 with
        | map _ l' hl => rw [hl] at q1; cases q1; rfl
      refine good_rd h (v' := .int .i64 es.length) ?_ (.int _ _)
      rw [builtin_op ho hc, args_one ha]
      have hget : (getObj l.cb).run P w = .ok (.map es' clk) w := by simp [getObj, Sem.run, q2]
      simp [builtin, Builtin.len_, type_first hts, h2, run_underlying ht, hget, goInt, q3]
    · cases he
  · cases he
end
end
end Go.Ai
