/- More operations: literals, addresses of elements, loads and stores. -/
import Derived.Test.YtkjegegjkeeemaaEvG
set_option linter.all false
namespace Go.Proofs.Ytkjegegjkeeemaa.Ev
open Go

variable {P : Program} {β : Bt} {w : World} {h : List AO} {t : Tr} {a : Act} {o : Oper} {R : Type} {K : AV → List AO → Option R} {res : R}

theorem allB_iff {α : Type} {f : α → Bool} {l : List α} : allB f l = l.all f := by
  induction l with
  | nil => rfl
  | cons x xs ih => simp only [allB, List.all_cons]; cases f x <;> simp [ih]

/-! ### Literals -/
theorem fold_splice : ∀ (vs : List Value) (off k : Nat) (cs : Array Value), ((vs.zipIdx k).foldl (fun (cs : Array Value) (p : Value × Nat) => cs.setIfInBounds (off + p.2) p.1) cs).toList = spliceV cs.toList (off + k) vs
  | [], _, _, _ => rfl
  | v :: vs, off, k, cs => by
    simp only [List.zipIdx_cons, List.foldl_cons, spliceV]
    rw [fold_splice vs off (k + 1)]
    simp [Nat.add_assoc]
theorem fill_sound (ht : TR β w t a.tmps) {place : Nat → Option (Nat × Nat)} : ∀ {qs : List (Nat × Operand)} {ps : List (Nat × Nat × Opd)} {z cs : List AV} {zs : Array Value},
    okParts a.tmps.size place qs ps = true → VRs β w z zs.toList → fillA t z ps = some cs →
    ∃ out : Array Value, Instr.fill place zs (qs.map fun (i, x) => (i, a.eval x)) = some out ∧ VRs β w cs out.toList
  | [], [], z, cs, zs, _, hz, hf => by
    simp only [fillA] at hf; cases hf
    exact ⟨zs, rfl, hz⟩
  | [], _ :: _, _, _, _, hok, _, _ => by simp [okParts] at hok
  | (_, _) :: _, [], _, _, _, hok, _, _ => by simp [okParts] at hok
  | (i, x) :: qs, (off, size, y) :: ps, z, cs, zs, hok, hz, hf => by
    simp only [okParts, Bool.and_eq_true] at hok
    obtain ⟨⟨h1, h2⟩, h3⟩ := hok
    simp only [fillA] at hf
    split at hf
    · rename_i hc
      simp only [Bool.and_eq_true, Nat.beq_eq, Nat.ble_eq] at hc
      obtain ⟨⟨c1, c2⟩, c3⟩ := hc
      split at h1
      · rename_i o' s' hp
        simp only [Bool.and_eq_true, Nat.beq_eq] at h1
        obtain ⟨rfl, rfl⟩ := h1
        have hx := opd_sound ht h2
        obtain ⟨k1, k2⟩ := VR.cells hx c3
        have hsz : (a.eval x).cells.size = s' := by have := VRs.length k1; simp at this; omega
        have hzs : zs.size = z.length := by have := VRs.length hz; simpa using this
        obtain ⟨out, e1, e2⟩ := fill_sound ht (zs := (a.eval x).cells.zipIdx.foldl (fun cs (p : Value × Nat) => cs.setIfInBounds (o' + p.2) p.1) zs) h3 (cs := cs) (by
          rw [← Array.foldl_toList, Array.toList_zipIdx, fold_splice _ o' 0]
          exact VRs.splice o' hz k1) hf
        refine ⟨out, ?_, e2⟩
        simp only [List.map_cons, Instr.fill, hp]
        rw [if_neg (by simp only [hsz, ne_eq, not_true_eq_false, decide_false, Bool.false_or, decide_eq_true_eq]; omega)]
        exact e1
      · cases h1
    · cases hf

theorem run_size {ty : TypeId} {i : TypeInfo} (hi : P.info? ty = some i) : (sizeOf ty).run P w = .ok i.size w := by simp [sizeOf, typeInfo, hi]
theorem run_mapM_places (fs : List Field) (hi : fs.all (fun f => hasInfo P f.type) = true) :
    (List.mapM (fun (f : Field) => (do pure (f.offset, ← sizeOf f.type) : Sem (Nat × Nat))) fs).run P w = .ok (fs.map fun f => (f.offset, P.cellsOf f.type)) w := by
  induction fs with
  | nil => rfl
  | cons f fs ih =>
    simp only [List.all_cons, Bool.and_eq_true] at hi
    obtain ⟨i, hf⟩ := Option.isSome_iff_exists.1 hi.1
    simp only [List.mapM_cons, Sem.run_bind, run_size hf, Result.andThen_ok, Sem.run_pure, ih hi.2]
    simp [Program.cellsOf, hf]

section
variable (hk : HR P β w h) (ht : TR β w t a.tmps)
include hk ht

theorem s_build {z : List AV} {ps : List (Nat × Nat × Opd)} (hok : okOp P a.tmps.size o.op (.build z ps) = true) (he : ev_build t h K z ps = some res) : ∃ v h', K v h' = some res ∧ Did P a o β w v h' := by
  simp only [okOp] at hok
  split at hok
  · rename_i t' qs hop
    simp only [Bool.and_eq_true] at hok
    obtain ⟨h1, h2⟩ := hok
    obtain ⟨i, zv, hi, hz, hr⟩ := zeroCells_sound h1
    unfold ev_build at he
    split at he
    · rename_i cs hf
      split at h2
      · rename_i fs hu
        simp only [Bool.and_eq_true] at h2
        obtain ⟨h3, h4⟩ := h2
        obtain ⟨out, e1, e2⟩ := fill_sound ht h4 (repL_sound hr) hf
        refine ⟨_, _, he, did_val hk (v' := .agg out) ?_ (by simp only [VR]; exact ⟨_, rfl, e2⟩)⟩
        have hm := run_mapM_places (P := P) (w := w) fs.toList h3
        have hpl : (fun i => ((fs.toList.map fun f => (f.offset, P.cellsOf f.type)).toArray[i]? : Option (Nat × Nat))) = places P fs := by
          funext i; simp only [List.getElem?_toArray, List.getElem?_map, Array.getElem?_toList, places]; cases fs[i]? <;> rfl
        have hmap : (qs.map fun (x : Nat × Operand) => (x.1, a.eval x.2)).toList = qs.toList.map fun x => (x.1, a.eval x.2) := by simp
        simp only [execOp, hop, Instr.build, Sem.run_bind, run_zeroValue' hi hz, Result.andThen_ok, run_underlying hu, Array.mapM_eq_mapM_toList, Sem.run_map, hm, hpl, hmap, e1, Sem.run_pure]
      · rename_i n e hu
        simp only [Bool.and_eq_true, hasInfo] at h2
        obtain ⟨h3, h4⟩ := h2
        obtain ⟨ie, hie⟩ := Option.isSome_iff_exists.1 h3
        have hce : P.cellsOf e = ie.size := by simp [Program.cellsOf, hie]
        rw [hce] at h4
        obtain ⟨out, e1, e2⟩ := fill_sound ht h4 (repL_sound hr) hf
        refine ⟨_, _, he, did_val hk (v' := .agg out) ?_ (by simp only [VR]; exact ⟨_, rfl, e2⟩)⟩
        have hmap : (qs.map fun (x : Nat × Operand) => (x.1, a.eval x.2)).toList = qs.toList.map fun x => (x.1, a.eval x.2) := by simp
        simp only [execOp, hop, Instr.build, Sem.run_bind, run_zeroValue' hi hz, Result.andThen_ok, run_underlying hu, run_size hie, hmap, e1, Sem.run_pure]
      · cases h2
    · cases he
  · cases hok
end
end Go.Proofs.Ytkjegegjkeeemaa.Ev
