/- One operation of the abstract machine, and the model's. -/
import Derived.Test.YtkjegegjkeeemaaEvE
set_option linter.all false
namespace Go.Proofs.Ytkjegegjkeeemaa.Ev
open Go

variable {P : Program} {β : Bt} {w : World} {h : List AO} {t : Tr} {a : Act} {o : Oper} {R : Type} {K : AV → List AO → Option R} {res : R}

def Did (P : Program) (a : Act) (o : Oper) (β : Bt) (w : World) (v : AV) (h' : List AO) : Prop :=
  ∃ β' w' v', ((execOp a.eval o).run P w = .ok (.value v') w' ∨ ((execOp a.eval o).run P w = .ok .skip w' ∧ v' = undef)) ∧ VR β' w' v v' ∧ HR P β' w' h' ∧ Ext β w β' w'

theorem did_val {v : AV} {v' : Value} (hk : HR P β w h) (hrun : (execOp a.eval o).run P w = .ok (.value v') w) (hv : VR β w v v') : Did P a o β w v h :=
  ⟨β, w, v', .inl hrun, hv, hk, Ext.refl β w⟩
theorem did_lay {v : AV} {v' : Value} {m : Nat} {ao : AO} {h2 : List AO} (hk : HR P β w h) (hl : LayTo h m ao h2) (obj : Obj)
    (hrun : (execOp a.eval o).run P w = .ok (.value v') (w.alloc obj))
    (ho : ∀ β', Ext β w β' (w.alloc obj) → OR P β' (w.alloc obj) ao (.obj w.heap.size)) (hv : ∀ β', β'.own[m]? = some (.obj w.heap.size) → VR β' (w.alloc obj) v v') :
    Did P a o β w v h2 := by
  obtain ⟨β', h1, h2, h3⟩ := HR.lay hk hl (grew_alloc w obj) (.obj w.heap.size) rfl ho
  exact ⟨β', _, v', .inl hrun, hv β' h3, h1, h2⟩
theorem VR_undefTup (β : Bt) (w : World) : VR β w (.tup []) undef := by simp [VR, VRs, undef]

section
variable (hk : HR P β w h) (ht : TR β w t a.tmps)
include hk ht

theorem s_mv {x : Opd} (hok : okOp P a.tmps.size o.op (.mv x) = true) (he : ev_mv t h K x = some res) : ∃ v h', K v h' = some res ∧ Did P a o β w v h' := by
  simp only [okOp] at hok
  refine ⟨_, _, he, ?_⟩
  split at hok
  · rename_i y hop
    exact did_val hk (by simp [execOp, hop]) (opd_sound ht hok)
  · rename_i y hop
    exact did_val hk (by simp [execOp, hop]) (opd_sound ht hok)
  · cases hok

theorem s_pick {c x y : Opd} (hok : okOp P a.tmps.size o.op (.pick c x y) = true) (he : ev_pick t h K c x y = some res) : ∃ v h', K v h' = some res ∧ Did P a o β w v h' := by
  simp only [okOp] at hok
  split at hok
  · rename_i c' x' y' hop
    simp only [Bool.and_eq_true] at hok
    obtain ⟨⟨h1, h2⟩, h3⟩ := hok
    have hc := opd_sound ht h1
    unfold ev_pick at he
    split at he
    · rename_i b hb
      rw [hb] at hc
      simp only [VR] at hc
      cases b with
      | true => exact ⟨_, _, he, did_val hk (by simp [execOp, hop, hc, asBool]) (opd_sound ht h2)⟩
      | false => exact ⟨_, _, he, did_val hk (by simp [execOp, hop, hc, asBool]) (opd_sound ht h3)⟩
    · cases he
  · cases hok

omit hk ht in
theorem run_zeroValue' {ty : TypeId} {i : TypeInfo} {z : Value} (hi : P.info? ty = some i) (hz : i.zero = some z) (w : World) : (zeroValue ty).run P w = .ok z w := by
  simp [zeroValue, typeInfo, hi, hz]
omit hk ht in
theorem zeroCells_sound {ty : TypeId} {z : List AV} (hok : zeroCellsAre P ty z = true) : ∃ i v, P.info? ty = some i ∧ i.zero = some v ∧ repL v.cells.toList z = true := by
  unfold zeroCellsAre at hok
  split at hok
  · rename_i i hi
    split at hok
    · rename_i v hv
      exact ⟨i, v, hi, hv, hok⟩
    · cases hok
  · cases hok

theorem s_alloc {lay : AO → Nat × List AO} (hl : LayOK h lay) {ty : TypeId} {z : List AV} (hok : okOp P a.tmps.size o.op (.alloc ty z) = true) (he : ev_alloc h lay K ty z = some res) :
    ∃ v h', K v h' = some res ∧ Did P a o β w v h' := by
  simp only [okOp] at hok
  split at hok
  · rename_i t' hop
    simp only [Bool.and_eq_true, Nat.beq_eq] at hok
    obtain ⟨rfl, hz⟩ := hok
    obtain ⟨i, v, hi, hv, hr⟩ := zeroCells_sound hz
    refine ⟨_, _, he, did_lay hk (hl _) (.cells v.cells t') (v' := .pointer (some ⟨w.heap.size, 0, none⟩)) ?_ (fun β' _ => ?_) (fun β' hm => ?_)⟩
    · simp [execOp, hop, Instr.alloc, zeroValue, typeInfo, hi, hv, newVar, newRow]
    · exact ⟨_, _, rfl, heap_alloc_at _ _, repL_sound hr⟩
    · simp only [VR]; exact ⟨_, hm, rfl⟩
  · cases hok

theorem s_box {lay : AO → Nat × List AO} (hl : LayOK h lay) {ty : TypeId} {x : Opd} (hok : okOp P a.tmps.size o.op (.box ty x) = true) (he : ev_box t h lay K ty x = some res) :
    ∃ v h', K v h' = some res ∧ Did P a o β w v h' := by
  simp only [okOp] at hok
  split at hok
  · rename_i t' x' hop
    simp only [Bool.and_eq_true, Nat.beq_eq] at hok
    obtain ⟨rfl, hx⟩ := hok
    unfold ev_box at he
    split at he
    · rename_i hs
      have hv := opd_sound ht hx
      obtain ⟨h1, h2⟩ := VR.cells hv hs
      refine ⟨_, _, he, did_lay hk (hl _) (.cells (a.eval x').cells t') (v' := .pointer (some ⟨w.heap.size, 0, none⟩)) ?_ (fun β' e => ?_) (fun β' hm => ?_)⟩
      · simp [execOp, hop, Instr.box, newVar, newRow]
      · exact ⟨_, _, rfl, heap_alloc_at _ _, VRs.ext e _ _ h1⟩
      · simp only [VR]; exact ⟨_, hm, rfl⟩
    · cases he
  · cases hok

theorem s_mkmap {lay : AO → Nat × List AO} (hl : LayOK h lay) (hok : okOp P a.tmps.size o.op .mkmap = true) (he : ev_mkmap h lay K = some res) :
    ∃ v h', K v h' = some res ∧ Did P a o β w v h' := by
  simp only [okOp] at hok
  split at hok
  · rename_i t' hop
    refine ⟨_, _, he, did_lay hk (hl _) (.map #[] 0) (v' := .map (some w.heap.size)) ?_ (fun β' e => ?_) (fun β' hm => ?_)⟩
    · simp [execOp, hop, Instr.makeMap]
    · exact ⟨_, _, _, rfl, heap_alloc_at _ _, by simp [VRs], by simp [VRs]⟩
    · simp only [VR]; exact ⟨_, hm, rfl⟩
  · cases hok

theorem s_not {x : Opd} (hok : okOp P a.tmps.size o.op (.not x) = true) (he : ev_not t h K x = some res) : ∃ v h', K v h' = some res ∧ Did P a o β w v h' := by
  simp only [okOp] at hok
  split at hok
  · rename_i y x' hop
    have hv := opd_sound ht hok
    unfold ev_not at he
    split at he
    · rename_i b hb
      rw [hb] at hv; simp only [VR] at hv
      exact ⟨_, _, he, did_val hk (v' := .bool (!b)) (by simp [execOp, hop, hv, Op.unary]) (by simp [VR])⟩
    · cases he
  · cases hok

theorem s_neg {x : Opd} (hok : okOp P a.tmps.size o.op (.neg x) = true) (he : ev_neg t h K x = some res) : ∃ v h', K v h' = some res ∧ Did P a o β w v h' := by
  simp only [okOp] at hok
  split at hok
  · rename_i y x' hop
    have hv := opd_sound ht hok
    unfold ev_neg at he
    split at he
    · rename_i k n hb
      rw [hb] at hv; simp only [VR] at hv
      exact ⟨_, _, he, did_val hk (v' := .int k (k.wrap (0 - n))) (by simp [execOp, hop, hv, Op.unary, Op.intArith]) (by simp [VR, wr_eq])⟩
    · cases he
  · cases hok
end
end Go.Proofs.Ytkjegegjkeeemaa.Ev
