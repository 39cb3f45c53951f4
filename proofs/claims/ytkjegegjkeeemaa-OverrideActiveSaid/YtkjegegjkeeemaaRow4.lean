/- OverrideActive: for every input the law returns true, and its arguments read as they did. -/
import Derived.Test.YtkjegegjkeeemaaPI
import Derived.Test.YtkjegegjkeeemaaPK
set_option linter.all false
namespace Go.Proofs.Ytkjegegjkeeemaa.overrideActive
open Go Go.RowKit Go.ChangeShapes Go.WideShapes Go.ChangeAt Go.Proofs.Ytkjegegjkeeemaa.Ev
set_option maxRecDepth 100000
theorem shaped : descs Try.prog 4 Try.f4.params.toList = some [dR, dO, dI] := by kernel_rfl
theorem told (W : World) (us : List AV) (h : shAs [dR, dO, dI] us) : ∃ bs L j, (∀ vs, SRs βo W us vs → SRs βo W bs vs) ∧ callK (tabS s2) L j true (.fn 4 []) bs [] (fun v _ => some v) = some (.bool true) := by
  simp only [shAs] at h
  obtain ⟨v0, u0, rfl, h0, r0⟩ := h
  obtain ⟨v1, u1, rfl, h1, r1⟩ := r0
  obtain ⟨v2, u2, rfl, h2, r2⟩ := r1
  subst r2
  obtain ⟨n, get, rfl, hr⟩ := sh_R h0
  obtain ⟨o, rfl⟩ := sh_O h1
  obtain ⟨x2, rfl⟩ := sh_I h2
  exact ⟨_, 104, 8, named hr, law4 some n (rO get) _ _⟩
theorem lifted (os : Os) (started : os.Started) (H : Type) (enc : TypeId × Value → H) :
    ReturnsInHanded {} Try.checked os 4 .any (Rows.overrideActiveSpec.pre6 enc Try.prog Try.f4 Rows.overrideActiveRow.domain false) (Rows.overrideActiveSpec.post enc Try.prog Try.f4 false true false false) := by
  refine returnsInHanded_of_change_sized (C := Try.checked) own started (by kernel_rfl) Try.func4
    (ChangeSpec.witness6 (enc := enc) (C := Try.checked) false ⟨#[], #[.slice none 0 0, .agg #[.int .i64 0, .int .i64 0, .int .i64 0, .int .i64 0, .int .i64 0, .int .i64 0, .int .i64 0], .int .i64 0], []⟩ 8 (by kernel_rfl) (by kernel_rfl) (by kernel_rfl) (by kernel_rfl)) ?_
  intro W base args ds gs before hval hW _ _ _
  refine contract_of mixed tab_s2 laidOut shaped (by kernel_rfl) (tb := Try.f4.resultTypes.toList.headD 0) (by kernel_rfl) (by kernel_rfl) rfl (fun xs hl => ?_) (told W) base args ds gs before hval hW
  match xs, hl with
  | [x0, x1, x2], _ => exact ⟨rfl, rfl, rfl⟩
theorem over : Rows.overrideActiveRow.holds Try.pinned (OpenSpec.ofChange Rows.overrideActiveSpec) :=
  OpenClaim.holds_of_wide 4 Try.f4 rfl rfl rfl rfl rfl rfl rfl ⟨rfl, rfl, rfl, rfl, rfl⟩ rfl rfl rfl rfl rfl (by kernel_rfl) Try.func4 (by kernel_rfl)
    (of_decide_eq_true (by kernel_rfl)) (by unfold Func.isWrapper; first | (rw [if_pos (by decide +kernel)]; kernel_rfl) | (rw [if_neg (by decide +kernel)]; exact ⟨rfl, rfl⟩))
    (fun os started H enc _ => lifted os started H enc)
end Go.Proofs.Ytkjegegjkeeemaa.overrideActive
namespace Go.Proofs.Ytkjegegjkeeemaa
/-- The statement. -/
theorem overrideActive_holds : Rows.OverrideActiveSaid := overrideActive.over
#print axioms overrideActive_holds
end Go.Proofs.Ytkjegegjkeeemaa
