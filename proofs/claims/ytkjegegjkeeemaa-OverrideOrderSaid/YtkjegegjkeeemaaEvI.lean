/- More operations: literals of slices, addresses of elements, loads and stores. -/
import Derived.Test.YtkjegegjkeeemaaEvH
set_option linter.all false
namespace Go.Proofs.Ytkjegegjkeeemaa.Ev
open Go

variable {P : Program} {β : Bt} {w : World} {h : List AO} {t : Tr} {a : Act} {o : Oper} {R : Type} {K : AV → List AO → Option R} {res : R}

theorem sizeIs_iff {ty : TypeId} {s : Nat} (hs : sizeIs P ty s = true) : ∃ i, P.info? ty = some i ∧ i.size = s := by
  unfold sizeIs at hs
  split at hs
  · exact ⟨_, by assumption, by simpa using hs⟩
  · cases hs

/-- A load out of a stretch of cells. -/
theorem run_loadVar_at {ty : TypeId} {i : TypeInfo} {d : TypeDesc} (hi : P.info? ty = some i) (hd : P.underlying ty = some d) {agg : Bool} (hagg : isAggT P ty = agg) {cs : List AV} {l : List Value} (hv : VRs β w cs l) {b f off : Nat}
    (hc : ∀ j x, l[j]? = some x → w.cell? ⟨b, f + j, none⟩ = some x) {v : AV} (hl : loadFrom agg i.size cs off = some v) :
    ∃ v', (loadVar ty ⟨b, f + off, none⟩).run P w = .ok v' w ∧ VR β w v v' := by
  have hlen := VRs.length hv
  cases agg with
  | true =>
    simp only [loadFrom] at hl
    split at hl
    · rename_i hle
      have hle : off + i.size ≤ cs.length := by simpa using hle
      cases hl
      have hl2 : ((l.drop off).take i.size).length = i.size := by simp; omega
      have hrun : (loadCells ⟨b, f + off, none⟩ i.size).run P w = .ok ((l.drop off).take i.size).toArray w := by
        have := run_loadCells_list (P := P) w ⟨b, f + off, none⟩ ((l.drop off).take i.size) (fun j v hj => by
          rw [Addr.add_lit]
          have : l[off + j]? = some v := by
            rw [List.getElem?_take] at hj
            split at hj
            · rwa [List.getElem?_drop] at hj
            · cases hj
          rw [Nat.add_assoc]; exact hc _ _ this)
        rwa [hl2] at this
      have hA : (isAgg ty).run P w = .ok true w := by
        unfold isAggT at hagg
        simp only [isAgg, Sem.run_bind, run_underlying hd, Result.andThen_ok]
        rw [hd] at hagg
        cases d <;> simp_all
      refine ⟨.agg ((l.drop off).take i.size).toArray, ?_, ?_⟩
      · simp only [loadVar, Sem.run_bind, hA, Result.andThen_ok, if_true, run_size hi, hrun, Sem.run_pure]
      · simp only [VR]
        exact ⟨_, rfl, by simpa using VRs.take i.size (VRs.drop off hv)⟩
    · cases hl
  | false =>
    simp only [loadFrom] at hl
    obtain ⟨x, hx, hvx⟩ := VRs.get hv off v hl
    have hA : (isAgg ty).run P w = .ok false w := by
      unfold isAggT at hagg
      simp only [isAgg, Sem.run_bind, run_underlying hd, Result.andThen_ok]
      rw [hd] at hagg
      cases d <;> simp_all
    refine ⟨x, ?_, hvx⟩
    simp only [loadVar, Sem.run_bind, hA, Result.andThen_ok, Bool.false_eq_true, if_false, run_load, hc off x hx]

theorem but_setRow (w : World) (g : Nat) (cs : Array Value) : But w (w.setRow g cs) g :=
  ⟨by simp [World.setRow], fun b hb => by simp [World.setRow, Array.getElem?_modify, Ne.symm hb], rfl, rfl, rfl⟩

section
variable (hk : HR P β w h) (ht : TR β w t a.tmps)
include hk ht

theorem s_bslice {lay : AO → Nat × List AO} (hl : LayOK h lay) {e len : Nat} {z : List AV} {ps : List (Nat × Nat × Opd)} (hok : okOp P a.tmps.size o.op (.bslice e len z ps) = true)
    (he : ev_bslice t h lay K e len z ps = some res) : ∃ v h', K v h' = some res ∧ Did P a o β w v h' := by
  simp only [okOp] at hok
  split at hok
  · rename_i t' len' qs hop
    simp only [Bool.and_eq_true, Nat.beq_eq] at hok
    obtain ⟨rfl, hok⟩ := hok
    split at hok
    · rename_i e' hu
      simp only [Bool.and_eq_true, Nat.beq_eq] at hok
      obtain ⟨⟨rfl, h1⟩, h2⟩ := hok
      split at h1
      · rename_i i hi
        simp only [Bool.and_eq_true, Nat.ble_eq] at h1
        obtain ⟨h3, h4⟩ := h1
        split at h4
        · rename_i zv hz
          have hce : P.cellsOf e' = i.size := by simp [Program.cellsOf, hi]
          rw [hce] at h2
          unfold ev_bslice at he
          split at he
          · rename_i cs hf
            obtain ⟨zero, hzero⟩ : ∃ zero : Array Value, zero = if len' * i.size = 0 then #[] else zv.cells := ⟨_, rfl⟩
            have hz2 : VRs β w z ((Array.range (len' * i.size)).map (zero[· % zero.size]!)).toList := by
              by_cases h0 : len' * i.size = 0
              · rw [h0] at h4 ⊢
                have : z = [] := by simpa using h4
                subst this
                simp [VRs]
              · rw [if_neg h0] at hzero
                have hb : Nat.beq (len' * i.size) 0 = false := by
                  cases hb : Nat.beq (len' * i.size) 0 with
                  | false => rfl
                  | true => exact absurd (Nat.eq_of_beq_eq_true hb) h0
                rw [hb] at h4
                rw [hzero]
                exact repL_sound h4
            obtain ⟨out, e1, e2⟩ := fill_sound ht h2 hz2 hf
            have hmap : (qs.map fun (x : Nat × Operand) => (x.1, a.eval x.2)).toList = qs.toList.map fun x => (x.1, a.eval x.2) := by simp
            refine ⟨_, _, he, did_lay hk (hl _) (.cells out e') (v' := .slice (some ⟨w.heap.size, 0, none⟩) len' len') ?_ (fun β' ex => ?_) (fun β' hm => ?_)⟩
            · have hgt : ¬ (len' * i.size > 2 ^ 24) := by omega
              simp only [execOp, hop, Instr.buildSlice, Sem.run_bind, run_underlying hu, Result.andThen_ok, run_size hi, if_neg hgt, hmap]
              by_cases h0 : len' * i.size = 0
              · rw [if_pos h0] at hzero
                subst hzero
                rw [if_pos h0]
                simp only [Sem.run_bind, Sem.run_pure, Result.andThen_ok, e1]
                rfl
              · rw [if_neg h0] at hzero
                subst hzero
                rw [if_neg h0]
                simp only [Sem.run_bind, run_zeroValue' hi hz, Sem.run_pure, Result.andThen_ok, e1]
                rfl
            · exact ⟨_, _, rfl, heap_alloc_at _ _, VRs.ext ex _ _ e2⟩
            · simp only [VR]; exact ⟨_, hm, rfl⟩
          · cases he
        · cases h4
      · cases h1
    · cases hok
  · cases hok

theorem s_idx {s : Nat} {x j : Opd} (hok : okOp P a.tmps.size o.op (.idx s x j) = true) (he : ev_idx t h K s x j = some res) : ∃ v h', K v h' = some res ∧ Did P a o β w v h' := by
  simp only [okOp] at hok
  split at hok
  · rename_i t' x' j' hop
    simp only [Bool.and_eq_true] at hok
    obtain ⟨⟨h1, h2⟩, h3⟩ := hok
    split at h1
    · rename_i e hu
      obtain ⟨i, hi, rfl⟩ := sizeIs_iff h1
      have hx := opd_sound ht h2
      have hj := opd_sound ht h3
      unfold ev_idx at he
      split at he
      · rename_i k n ej
        rw [ej] at hj; simp only [VR] at hj
        split at he
        · rename_i s' len get tok ex
          rw [ex] at hx; simp only [VR] at hx
          obtain ⟨hx, _⟩ := hx; simp only [SR] at hx
          obtain ⟨_, base, cap, e2, _, hel⟩ := hx
          split at he
          · rename_i hs'
            have hs' : s' = i.size := by simpa using hs'
            subst hs'
            cases hb : (leI 0 n && !(leI (len : Int) n)) with
            | false => rw [hb] at he; cases he
            | true =>
              rw [hb] at he
              simp only [cond_true] at he
              simp only [leI_iff, Bool.and_eq_true, decide_eq_true_eq, Bool.not_eq_true', decide_eq_false_iff_not] at hb
              obtain ⟨hb0, hb1⟩ := hb
              have hlt : n.toNat < len := by omega
              obtain ⟨b, f, v', rfl, hv, hsz, _, hc⟩ := hel n.toNat hlt
              split at he
              · rename_i hall
                rw [allB_iff] at hall
                obtain ⟨c1, _⟩ := SR.cells hv hall
                refine ⟨_, _, he, did_val hk (v' := .pointer (some ⟨b, f + n.toNat * i.size, none⟩)) ?_ ?_⟩
                · have hlt' : n < (len : Int) := by omega
                  simp [execOp, hop, e2, hj, Instr.indexAt, asIntOf, run_underlying hu, hb0, hlt', run_size hi, Addr.add_lit]
                · simp only [VR, SR]
                  refine ⟨b, f + n.toNat * i.size, _, rfl, c1, fun q y hq => ?_⟩
                  have := hc q y (by simpa using hq)
                  rw [← Nat.add_assoc] at this
                  exact this
              · cases he
          · cases he
        · rename_i m off len cap ex
          rw [ex] at hx; simp only [VR] at hx
          obtain ⟨b, hbm, e2⟩ := hx
          cases hb : (leI 0 n && !(leI (len : Int) n)) with
          | false => rw [hb] at he; cases he
          | true =>
            rw [hb] at he
            simp only [cond_true] at he
            simp only [leI_iff, Bool.and_eq_true, decide_eq_true_eq, Bool.not_eq_true', decide_eq_false_iff_not] at hb
            obtain ⟨hb0, hb1⟩ := hb
            refine ⟨_, _, he, did_val hk (v' := .pointer (some ⟨b, off + n.toNat * i.size, none⟩)) ?_ (by simp only [VR]; exact ⟨b, hbm, rfl⟩)⟩
            have hlt' : n < (len : Int) := by omega
            simp [execOp, hop, e2, hj, Instr.indexAt, asIntOf, run_underlying hu, hb0, hlt', run_size hi, Addr.add_lit]
        · cases he
      · cases he
    · cases h1
  · cases hok

theorem s_ld {ok : Nat → Bool} {agg : Bool} {s : Nat} {x : Opd} (hok : okOp P a.tmps.size o.op (.ld agg s x) = true) (he : ev_ld ok t h K agg s x = some res) : ∃ v h', K v h' = some res ∧ Did P a o β w v h' := by
  simp only [okOp] at hok
  split at hok
  · rename_i t' x' hop
    simp only [Bool.and_eq_true, eqB_iff] at hok
    obtain ⟨⟨⟨h1, h2⟩, h3⟩, h4⟩ := hok
    obtain ⟨i, hi, rfl⟩ := sizeIs_iff h3
    obtain ⟨d, hd⟩ := Option.isSome_iff_exists.1 h2
    have hx := opd_sound ht h4
    unfold ev_ld at he
    split at he
    · split at he
      · rename_i v hv
        unfold load at hv
        split at hv
        · rename_i n off ex
          rw [ex] at hx; simp only [VR] at hx
          obtain ⟨b, hb, e2⟩ := hx
          split at hv
          · rename_i cs ty hn
            obtain ⟨b', cs', e3, e4, e5⟩ := hk.obj n _ _ hn hb
            cases e3
            obtain ⟨v', r1, r2⟩ := run_loadVar_at (P := P) hi hd h1 e5 (b := b) (f := 0) (off := off) (fun j y hj => by
              have : cs'[j]? = some y := by simpa using hj
              simp [World.cell?, e4, this]) hv
            rw [Nat.zero_add] at r1
            exact ⟨_, _, he, did_val hk (v' := v') (by simp [execOp, hop, e2, Instr.loadAt, Instr.sureAddr, r1]) r2⟩
          · cases hv
        · rename_i cs off ex
          rw [ex] at hx; simp only [VR, SR] at hx
          obtain ⟨b, f, cs', e2, h5, h6⟩ := hx
          obtain ⟨v', r1, r2⟩ := run_loadVar_at (P := P) hi hd h1 (SRs.vr _ _ h5) (b := b) (f := f) (off := off) (fun j y hj => (h6 j y hj).1) hv
          exact ⟨_, _, he, did_val hk (v' := v') (by simp [execOp, hop, e2, Instr.loadAt, Instr.sureAddr, r1]) r2⟩
        · cases hv
      · cases he
    · cases he
  · cases hok

omit hk ht in
theorem spliceV_eq : ∀ (vs : List Value) (off : Nat) (l : List Value), off + vs.length ≤ l.length → spliceV l off vs = l.take off ++ vs ++ l.drop (off + vs.length)
  | [], off, l, _ => by simp [spliceV]
  | v :: vs, off, l, hl => by
    simp only [List.length_cons] at hl
    rw [spliceV, spliceV_eq vs (off + 1) (l.set off v) (by simp; omega)]
    have h1 : (l.set off v).take (off + 1) = l.take off ++ [v] := by
      rw [List.take_add_one, List.take_set_of_le (Nat.le_refl _)]
      simp [show off < l.length by omega]
    have h2 : (l.set off v).drop (off + 1 + vs.length) = l.drop (off + (vs.length + 1)) := by
      rw [List.drop_set_of_lt (by omega)]; congr 1; omega
    rw [h1, h2]; simp

theorem s_st {ok : Nat → Bool} {s : Nat} {x y : Opd} (hok : okOp P a.tmps.size o.op (.st s x y) = true) (he : ev_st ok t h K s x y = some res) : ∃ v h', K v h' = some res ∧ Did P a o β w v h' := by
  simp only [okOp] at hok
  split at hok
  · rename_i t' x' y' hop
    simp only [Bool.and_eq_true] at hok
    obtain ⟨⟨h1, h2⟩, h3⟩ := hok
    obtain ⟨i, hi, rfl⟩ := sizeIs_iff h1
    have hx := opd_sound ht h2
    have hy := opd_sound ht h3
    unfold ev_st at he
    split at he
    · split at he
      · rename_i h' hv
        unfold store at hv
        split at hv
        · rename_i n off ex
          rw [ex] at hx; simp only [VR] at hx
          obtain ⟨b, hb, e2⟩ := hx
          split at hv
          · rename_i cs ty hn
            split at hv
            · rename_i hc
              cases hv
              simp only [Bool.and_eq_true, Nat.beq_eq, Nat.ble_eq] at hc
              obtain ⟨⟨c1, c2⟩, c3⟩ := hc
              obtain ⟨b', cs', e3, e4, e5⟩ := hk.obj n _ _ hn hb
              cases e3
              obtain ⟨k1, k2⟩ := VR.cells hy c3
              have l1 : (a.eval y').cells.toList.length = i.size := by rw [VRs.length k1]; exact c1
              have l2 : cs'.toList.length = cs.length := VRs.length e5
              have hst := run_storeCells_at (P := P) b off ty (a.eval y').cells.toList 0 cs' w e4 (by rw [l1, ← Array.length_toList, l2]; omega) k2
              rw [Nat.add_zero] at hst
              have hnew : (cs'.toList.take off ++ (a.eval y').cells.toList ++ cs'.toList.drop (off + (a.eval y').cells.toList.length)) = spliceV cs'.toList off (a.eval y').cells.toList :=
                (spliceV_eq _ off cs'.toList (by rw [l1, l2]; omega)).symm
              rw [hnew] at hst
              have hbut := but_setRow w b (spliceV cs'.toList off (a.eval y').cells.toList).toArray
              obtain ⟨q1, q2⟩ := HR.but hk hb hbut (o := .cells (splice cs off (opnd t y).cells) ty) (fun ex' => ⟨b, _, rfl, setRow_heap w b cs' _ ty _ e4, by simpa using VRs.splice off (VRs.ext ex' _ _ e5) (VRs.ext ex' _ _ k1)⟩)
              refine ⟨_, _, he, β, _, undef, .inr ⟨?_, rfl⟩, VR_undefTup _ _, q1, q2⟩
              have hcs : (a.eval y').cells.size = i.size := by simpa using l1
              simp [execOp, hop, e2, Instr.storeAt, Instr.sureAddr, storeVar, run_size hi, hcs, hst]
            · cases hv
          · cases hv
        · cases hv
      · cases he
    · cases he
  · cases hok
end
end Go.Proofs.Ytkjegegjkeeemaa.Ev
