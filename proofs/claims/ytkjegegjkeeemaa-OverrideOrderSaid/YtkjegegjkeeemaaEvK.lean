/- The texts are the functions' very code: looked at one by one. -/
import Derived.Test.YtkjegegjkeeemaaEvM
import Derived.Test.YtkjegegjkeeemaaEvB
import Derived.Test.YtkjegegjkeeemaaProg
import Derived.KernelRfl
set_option linter.all false
namespace Go.Proofs.Ytkjegegjkeeemaa.Ev
open Go
set_option maxRecDepth 100000
theorem ok3 : okFn Try.prog 3 m3 = true := by kernel_rfl
theorem ok4 : okFn Try.prog 4 m4 = true := by kernel_rfl
theorem ok5 : okFn Try.prog 5 m5 = true := by kernel_rfl
theorem ok6 : okFn Try.prog 6 m6 = true := by kernel_rfl
theorem ok7 : okFn Try.prog 7 m7 = true := by kernel_rfl
theorem ok8 : okFn Try.prog 8 m8 = true := by kernel_rfl
theorem ok9 : okFn Try.prog 9 m9 = true := by kernel_rfl
theorem ok10 : okFn Try.prog 10 m10 = true := by kernel_rfl
theorem ok11 : okFn Try.prog 11 m11 = true := by kernel_rfl
theorem ok12 : okFn Try.prog 12 m12 = true := by kernel_rfl
theorem ok13 : okFn Try.prog 13 m13 = true := by kernel_rfl
theorem ok14 : okFn Try.prog 14 m14 = true := by kernel_rfl
theorem ok15 : okFn Try.prog 15 m15 = true := by kernel_rfl
theorem ok16 : okFn Try.prog 16 m16 = true := by kernel_rfl
theorem ok17 : okFn Try.prog 17 m17 = true := by kernel_rfl
theorem ok18 : okFn Try.prog 18 m18 = true := by kernel_rfl
theorem ok19 : okFn Try.prog 19 m19 = true := by kernel_rfl
theorem ok20 : okFn Try.prog 20 m20 = true := by kernel_rfl
theorem ok21 : okFn Try.prog 21 m21 = true := by kernel_rfl
theorem ok22 : okFn Try.prog 22 m22 = true := by kernel_rfl
theorem ok23 : okFn Try.prog 23 m23 = true := by kernel_rfl
theorem ok24 : okFn Try.prog 24 m24 = true := by kernel_rfl
theorem ok25 : okFn Try.prog 25 m25 = true := by kernel_rfl
theorem ok26 : okFn Try.prog 26 m26 = true := by kernel_rfl
theorem ok27 : okFn Try.prog 27 m27 = true := by kernel_rfl
theorem ok28 : okFn Try.prog 28 m28 = true := by kernel_rfl
theorem ok29 : okFn Try.prog 29 m29 = true := by kernel_rfl
theorem ok30 : okFn Try.prog 30 m30 = true := by kernel_rfl
theorem ok31 : okFn Try.prog 31 m31 = true := by kernel_rfl
theorem ok32 : okFn Try.prog 32 m32 = true := by kernel_rfl
theorem ok33 : okFn Try.prog 33 m33 = true := by kernel_rfl
theorem ok34 : okFn Try.prog 34 m34 = true := by kernel_rfl
theorem ok35 : okFn Try.prog 35 m35 = true := by kernel_rfl
theorem ok36 : okFn Try.prog 36 m36 = true := by kernel_rfl
theorem ok37 : okFn Try.prog 37 m37 = true := by kernel_rfl
def okAll (P : Program) : Nat → List (Option MFn) → Prop
  | _, [] => True
  | i, none :: l => okAll P (i + 1) l
  | i, some m :: l => okFn P i m = true ∧ okAll P (i + 1) l
theorem okAll_get {P : Program} : ∀ {l : List (Option MFn)} {i k : Nat} {m : MFn}, okAll P i l → (l[k]?).join = some m → okFn P (i + k) m = true
  | [], _, _, _, _, h => by simp at h
  | none :: l, i, 0, m, _, h => by simp at h
  | none :: l, i, k + 1, m, ho, h => by
    have := okAll_get (l := l) (i := i + 1) (k := k) ho (by simpa using h)
    rw [show i + (k + 1) = i + 1 + k by omega]; exact this
  | some a :: l, i, 0, m, ho, h => by
    simp only [List.getElem?_cons_zero, Option.join_some, Option.some.injEq] at h
    subst h; exact ho.1
  | some a :: l, i, k + 1, m, ho, h => by
    have := okAll_get (l := l) (i := i + 1) (k := k) ho.2 (by simpa using h)
    rw [show i + (k + 1) = i + 1 + k by omega]; exact this
theorem okAll_fns : okAll Try.prog 0 fns := ⟨ok3, ok4, ok5, ok6, ok7, ok8, ok9, ok10, ok11, ok12, ok13, ok14, ok15, ok16, ok17, ok18, ok19, ok20, ok21, ok22, ok23, ok24, ok25, ok26, ok27, ok28, ok29, ok30, ok31, ok32, ok33, ok34, ok35, ok36, ok37, trivial⟩
theorem ok_fns : ∀ (f : FuncId) (m : MFn), (fns[f]?).join = some m → okFn Try.prog f m = true := fun f m h => by
  have := okAll_get okAll_fns h
  rw [Nat.zero_add] at this; exact this
theorem mixed : Try.prog.follows .mixedOrders = true := by kernel_rfl
end Go.Proofs.Ytkjegegjkeeemaa.Ev
