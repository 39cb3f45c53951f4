/- OverrideOrder: for every input the law returns true, and its arguments read as they did. -/
import Derived.Test.YtkjegegjkeeemaaPI
import Derived.Test.YtkjegegjkeeemaaPK
set_option linter.all false
namespace Go.Proofs.Ytkjegegjkeeemaa.overrideOrder
open Go Go.RowKit Go.ChangeShapes Go.WideShapes Go.ChangeAt Go.Proofs.Ytkjegegjkeeemaa.Ev
set_option maxRecDepth 100000
theorem shaped : descs Try.prog 4 Try.f7.params.toList = some [dR, dI, dI, dI, dI, dI] := by kernel_rfl
theorem told (W : World) (us : List AV) (h : shAs [dR, dI, dI, dI, dI, dI] us) : ∃ bs L j, (∀ vs, SRs βo W us vs → SRs βo W bs vs) ∧ callK (tabS s2) L j true (.fn 7 []) bs [] (fun v _ => some v) = some (.bool true) := by
  simp only [shAs] at h
  obtain ⟨v0, u0, rfl, h0, r0⟩ := h
  obtain ⟨v1, u1, rfl, h1, r1⟩ := r0
  obtain ⟨v2, u2, rfl, h2, r2⟩ := r1
  obtain ⟨v3, u3, rfl, h3, r3⟩ := r2
  obtain ⟨v4, u4, rfl, h4, r4⟩ := r3
  obtain ⟨v5, u5, rfl, h5, r5⟩ := r4
  subst r5
  obtain ⟨n, get, rfl, hr⟩ := sh_R h0
  obtain ⟨x1, rfl⟩ := sh_I h1
  obtain ⟨x2, rfl⟩ := sh_I h2
  obtain ⟨x3, rfl⟩ := sh_I h3
  obtain ⟨x4, rfl⟩ := sh_I h4
  obtain ⟨x5, rfl⟩ := sh_I h5
  exact ⟨_, 104, 8, named hr, law7 some n (rO get) _ _ _ _ _⟩
theorem lifted (os : Os) (started : os.Started) (H : Type) (enc : TypeId × Value → H) :
    ReturnsInHanded {} Try.checked os 7 .any (Rows.overrideOrderSpec.pre6 enc Try.prog Try.f7 Rows.overrideOrderRow.domain false) (Rows.overrideOrderSpec.post enc Try.prog Try.f7 false true false false) := by
  refine returnsInHanded_of_change_sized (C := Try.checked) own started (by kernel_rfl) Try.func7
    (ChangeSpec.witness6 (enc := enc) (C := Try.checked) false ⟨#[], #[.slice none 0 0, .int .i64 0, .int .i64 0, .int .i64 0, .int .i64 0, .int .i64 0], []⟩ 8 (by kernel_rfl) (by kernel_rfl) (by kernel_rfl) (by kernel_rfl)) ?_
  intro W base args ds gs before hval hW _ _ _
  refine contract_of mixed tab_s2 laidOut shaped (by kernel_rfl) (tb := Try.f7.resultTypes.toList.headD 0) (by kernel_rfl) (by kernel_rfl) rfl (fun xs hl => ?_) (told W) base args ds gs before hval hW
  match xs, hl with
  | [x0, x1, x2, x3, x4, x5], _ => exact ⟨rfl, rfl, rfl⟩
theorem over : Rows.overrideOrderRow.holds Try.pinned (OpenSpec.ofChange Rows.overrideOrderSpec) :=
  OpenClaim.holds_of_wide 7 Try.f7 rfl rfl rfl rfl rfl rfl rfl ⟨rfl, rfl, rfl, rfl, rfl⟩ rfl rfl rfl rfl rfl (by kernel_rfl) Try.func7 (by kernel_rfl)
    (of_decide_eq_true (by kernel_rfl)) (by unfold Func.isWrapper; first | (rw [if_pos (by decide +kernel)]; kernel_rfl) | (rw [if_neg (by decide +kernel)]; exact ⟨rfl, rfl⟩))
    (fun os started H enc _ => lifted os started H enc)
end Go.Proofs.Ytkjegegjkeeemaa.overrideOrder
namespace Go.Proofs.Ytkjegegjkeeemaa
/-- The statement. -/
theorem overrideOrder_holds : Rows.OverrideOrderSaid := overrideOrder.over
#print axioms overrideOrder_holds
end Go.Proofs.Ytkjegegjkeeemaa
