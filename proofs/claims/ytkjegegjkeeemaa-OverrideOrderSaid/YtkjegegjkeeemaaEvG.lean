/- More operations: whole numbers, structs, addresses, loads and stores. -/
import Derived.Test.YtkjegegjkeeemaaEvF
set_option linter.all false
namespace Go.Proofs.Ytkjegegjkeeemaa.Ev
open Go

variable {P : Program} {β : Bt} {w : World} {h : List AO} {t : Tr} {a : Act} {o : Oper} {R : Type} {K : AV → List AO → Option R} {res : R}

theorem binA_sound {op : BinOp} {x y v : AV} {x' y' : Value} (hx : VR β w x x') (hy : VR β w y y') (he : binA op x y = some v) (t : TypeId) (u v' : Operand) :
    ∃ z, (do eqGuard op t u v' x' y'; binOp op t x' y' : Sem Value).run P w = .ok z w ∧ VR β w v z := by
  unfold binA at he
  split at he
  · rename_i k a k' b
    simp only [VR] at hx hy
    subst hx hy
    split at he
    · rename_i hk
      have hk := of_decide_eq_true hk
      subst hk
      cases op <;> simp only [arith] at he <;> first
        | (cases he; done)
        | (cases he
           refine ⟨_, by (first | (simp [eqGuard, binOp, Op.intArith, Op.intCmp]; done) | (simp [eqGuard, binOp, Op.intArith, Op.intCmp]; rfl)), ?_⟩
           simp only [VR, wr_eq, leI_iff, eqI_iff, Value.bool.injEq]
           try first | rfl | (rw [Bool.eq_iff_iff]; simp))
    · cases he
  · cases he

section
variable (hk : HR P β w h) (ht : TR β w t a.tmps)
include hk ht

theorem s_bin {op : BinOp} {x y : Opd} (hok : okOp P a.tmps.size o.op (.bin op x y) = true) (he : ev_bin t h K op x y = some res) : ∃ v h', K v h' = some res ∧ Did P a o β w v h' := by
  simp only [okOp] at hok
  split at hok
  · rename_i o' t' x' y' _ hop
    simp only [Bool.and_eq_true, decide_eq_true_eq] at hok
    obtain ⟨⟨rfl, h2⟩, h3⟩ := hok
    unfold ev_bin at he
    split at he
    · rename_i v hv
      obtain ⟨z, hz, hvz⟩ := binA_sound (P := P) (opd_sound ht h2) (opd_sound ht h3) hv t' x' y'
      refine ⟨_, _, he, did_val hk (v' := z) ?_ hvz⟩
      simp only [execOp, hop]
      rw [Sem.run_bind, hz]; rfl
    · cases he
  · cases hok

theorem s_eqb {neg : Bool} {x y : Opd} (hok : okOp P a.tmps.size o.op (.eqb neg x y) = true) (he : ev_eqb t h K neg x y = some res) : ∃ v h', K v h' = some res ∧ Did P a o β w v h' := by
  simp only [okOp] at hok
  split at hok
  · rename_i o' t' x' y' _ hop
    simp only [Bool.and_eq_true, decide_eq_true_eq] at hok
    obtain ⟨⟨⟨rfl, h2⟩, h3⟩, h4⟩ := hok
    have hb : P.underlying t' = some .bool := by
      unfold isBool at h4
      split at h4
      · assumption
      · cases h4
    have hx := opd_sound ht h2
    have hy := opd_sound ht h3
    unfold ev_eqb at he
    split at he
    · rename_i b c e1 e2
      rw [e1] at hx; rw [e2] at hy
      simp only [VR] at hx hy
      cases neg with
      | false => exact ⟨_, _, he, did_val hk (v' := .bool (b == c)) (by simp [execOp, hop, hx, hy, eqGuard, run_eql_bool w t' b c hb]) (by simp [VR])⟩
      | true => exact ⟨_, _, he, did_val hk (v' := .bool (!(b == c))) (by simp [execOp, hop, hx, hy, eqGuard, run_neq_bool w t' b c hb]) (by simp [VR])⟩
    · cases he
  · cases hok

theorem s_ext {i : Nat} {x : Opd} (hok : okOp P a.tmps.size o.op (.ext i x) = true) (he : ev_ext t h K i x = some res) : ∃ v h', K v h' = some res ∧ Did P a o β w v h' := by
  simp only [okOp] at hok
  split at hok
  · rename_i x' i' hop
    simp only [Bool.and_eq_true, Nat.beq_eq] at hok
    obtain ⟨rfl, h2⟩ := hok
    have hx := opd_sound ht h2
    unfold ev_ext at he
    split at he
    · rename_i vs e1
      rw [e1] at hx
      simp only [VR] at hx
      obtain ⟨cs', e2, h3⟩ := hx
      split at he
      · rename_i v hv
        obtain ⟨y, e3, h4⟩ := VRs.get h3 i' v hv
        refine ⟨_, _, he, did_val hk (v' := y) ?_ h4⟩
        have e4 : cs'[i']? = some y := by simpa using e3
        simp [execOp, hop, e2, Instr.extract, e4]
      · cases he
    · cases he
  · cases hok

theorem s_mkfn {f : FuncId} {cs : List Opd} (hok : okOp P a.tmps.size o.op (.mkfn f cs) = true) (he : ev_mkfn t h K f cs = some res) : ∃ v h', K v h' = some res ∧ Did P a o β w v h' := by
  simp only [okOp] at hok
  split at hok
  · rename_i f' first cs' hop
    simp only [Bool.and_eq_true, Nat.beq_eq] at hok
    obtain ⟨⟨rfl, h2⟩, h3⟩ := hok
    have h2 : first = #[] := by
      have : first.toList = [] := by simpa using h2
      exact Array.toList_inj.1 (by simpa using this)
    subst h2
    refine ⟨_, _, he, did_val hk (v' := .func (.func f') #[] (cs'.map a.eval)) (by simp [execOp, hop, Instr.makeFunc]) ?_⟩
    simp only [VR]
    exact ⟨_, rfl, by simpa using opds_sound ht h3⟩
  · cases hok

theorem s_len {x : Opd} (hok : okOp P a.tmps.size o.op (.len x) = true) (he : ev_len t h K x = some res) : ∃ v h', K v h' = some res ∧ Did P a o β w v h' := by
  simp only [okOp] at hok
  split at hok
  · rename_i args argTypes hop
    split at hok
    · rename_i x' t' ha hta
      simp only [Bool.and_eq_true] at hok
      obtain ⟨h1, h2⟩ := hok
      obtain ⟨e, he'⟩ : ∃ e, P.underlying t' = some (.slice e) := by
        split at h2
        · exact ⟨_, by assumption⟩
        · cases h2
      have ea : args = #[x'] := Array.toList_inj.1 (by simpa using ha)
      have et : argTypes = #[t'] := Array.toList_inj.1 (by simpa using hta)
      subst ea et
      have hx := opd_sound ht h1
      unfold ev_len at he
      split at he
      · rename_i s n g k e1
        rw [e1] at hx; simp only [VR] at hx
        obtain ⟨hx, _⟩ := hx; simp only [SR] at hx; obtain ⟨_, base, cap, e2, _⟩ := hx
        exact ⟨_, _, he, did_val hk (v' := .int .i64 n) (by simp [execOp, hop, e2, resolve, invoke, builtin, Builtin.len_, run_underlying he', goInt]) (by simp [VR])⟩
      · rename_i s n g k e1
        rw [e1] at hx; simp only [VR] at hx
        obtain ⟨b, _, e2⟩ := hx
        exact ⟨_, _, he, did_val hk (v' := .int .i64 g) (by simp [execOp, hop, e2, resolve, invoke, builtin, Builtin.len_, run_underlying he', goInt]) (by simp [VR])⟩
      · rename_i k e1
        rw [e1] at hx; simp only [VR] at hx
        exact ⟨_, _, he, did_val hk (v' := .int .i64 0) (by simp [execOp, hop, hx, resolve, invoke, builtin, Builtin.len_, run_underlying he', goInt]) (by simp [VR])⟩
      · cases he
    · cases hok
  · cases hok

theorem s_slen {x : Opd} (hok : okOp P a.tmps.size o.op (.slen x) = true) (he : ev_slen t h K x = some res) : ∃ v h', K v h' = some res ∧ Did P a o β w v h' := by
  simp only [okOp] at hok
  split at hok
  · rename_i args argTypes hop
    split at hok
    · rename_i x' t' ha hta
      simp only [Bool.and_eq_true] at hok
      obtain ⟨h1, h2⟩ := hok
      have he' : P.underlying t' = some .string := by
        split at h2
        · assumption
        · cases h2
      have ea : args = #[x'] := Array.toList_inj.1 (by simpa using ha)
      have et : argTypes = #[t'] := Array.toList_inj.1 (by simpa using hta)
      subst ea et
      have hx := opd_sound ht h1
      unfold ev_slen at he
      split at he
      · rename_i s e1
        rw [e1] at hx; simp only [VR] at hx
        exact ⟨_, _, he, did_val hk (v' := .int .i64 s.size) (by simp [execOp, hop, hx, resolve, invoke, builtin, Builtin.len_, run_underlying he', goInt]) (by simp [VR])⟩
      · cases he
    · cases hok
  · cases hok

theorem s_max {x y : Opd} (hok : okOp P a.tmps.size o.op (.max x y) = true) (he : ev_max t h K x y = some res) : ∃ v h', K v h' = some res ∧ Did P a o β w v h' := by
  simp only [okOp] at hok
  split at hok
  · rename_i args argTypes hop
    split at hok
    · rename_i x' y' ha
      simp only [Bool.and_eq_true] at hok
      obtain ⟨h1, h2⟩ := hok
      have ea : args = #[x', y'] := Array.toList_inj.1 (by simpa using ha)
      subst ea
      have hx := opd_sound ht h1
      have hy := opd_sound ht h2
      unfold ev_max at he
      split at he
      · rename_i k p k' q e1 e2
        rw [e1] at hx; rw [e2] at hy; simp only [VR] at hx hy
        refine ⟨_, _, he, did_val hk (v' := .int k (if q > p then q else p)) (by simp [execOp, hop, hx, hy, resolve, invoke, builtin, Builtin.max_, Builtin.max2]) ?_⟩
        simp only [VR, leI_iff, Value.int.injEq, true_and]
        by_cases hqp : q ≤ p
        · simp [hqp, Int.not_lt.2 hqp]
        · simp [hqp, Int.not_le.1 hqp]
      · cases he
    · cases hok
  · cases hok

omit hk ht in
theorem run_fieldAt' {t' : TypeId} {fs : Array Field} {f : Nat} {fd : Field} (hu : P.underlying t' = some (.struct fs)) (hf : fs[f]? = some fd) (hi : (P.info? fd.type).isSome = true) (hs : 0 < P.cellsOf fd.type) (b off : Nat) :
    (Instr.fieldAt t' (.pointer (some ⟨b, off, none⟩)) f).run P w = .ok (.pointer (some ⟨b, off + fd.offset, none⟩)) w := by
  obtain ⟨i, hi⟩ := Option.isSome_iff_exists.1 hi
  have hsz : i.size ≠ 0 := by simp [Program.cellsOf, hi] at hs; omega
  simp [Instr.fieldAt, run_underlying hu, hf, Instr.sureAddr, fieldPlace, sizeOf, typeInfo, hi, hsz, Addr.add_lit]

theorem s_fld {off : Nat} {x : Opd} (hok : okOp P a.tmps.size o.op (.fld off x) = true) (he : ev_fld t h K off x = some res) : ∃ v h', K v h' = some res ∧ Did P a o β w v h' := by
  simp only [okOp] at hok
  split at hok
  · rename_i t' x' f hop
    simp only [Bool.and_eq_true] at hok
    obtain ⟨h1, h2⟩ := hok
    split at h1
    · rename_i fs hu
      split at h1
      · rename_i fd hf
        simp only [Bool.and_eq_true, Nat.beq_eq, hasInfo, Nat.blt_eq] at h1
        obtain ⟨⟨rfl, hi⟩, hs⟩ := h1
        have hx := opd_sound ht h2
        unfold ev_fld at he
        split at he
        · rename_i n off e1
          rw [e1] at hx; simp only [VR] at hx
          obtain ⟨b, hb, e2⟩ := hx
          refine ⟨_, _, he, did_val hk (v' := .pointer (some ⟨b, off + fd.offset, none⟩)) ?_ (by simp only [VR]; exact ⟨b, hb, rfl⟩)⟩
          simp [execOp, hop, e2, run_fieldAt' hu hf hi hs]
        · rename_i cs off e1
          rw [e1] at hx; simp only [VR, SR] at hx
          obtain ⟨b, f', cs', e2, h3, h4⟩ := hx
          refine ⟨_, _, he, did_val hk (v' := .pointer (some ⟨b, f' + off + fd.offset, none⟩)) ?_ (by simp only [VR, SR]; exact ⟨b, f', cs', by rw [Nat.add_assoc], h3, h4⟩)⟩
          simp [execOp, hop, e2, run_fieldAt' hu hf hi hs]
        · cases he
      · cases h1
    · cases h1
  · cases hok
end
end Go.Proofs.Ytkjegegjkeeemaa.Ev
