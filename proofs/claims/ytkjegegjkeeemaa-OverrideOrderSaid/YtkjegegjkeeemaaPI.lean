/- What the seat's arguments look like; the rows' common part. -/
import Derived.Test.YtkjegegjkeeemaaEvRow
import Derived.Test.YtkjegegjkeeemaaPG
import Derived.Test.YtkjegegjkeeemaaRows
set_option linter.all false
namespace Go.Proofs.Ytkjegegjkeeemaa.Ev
open Go Go.RowKit Go.ChangeShapes Go.WideShapes Go.ChangeAt
theorem laidOut : laidOutB Try.prog = true := by kernel_rfl
theorem own : ownKnob Try.prog.godebug = none := by kernel_rfl
def dI : Bool × List Ct := (false, [.int .i64])
def cO : List Ct := [.int .i64, .int .i64, .int .i64, .int .i64, .int .i64, .int .i64, .int .i64]
def dR : Bool × List Ct := (false, [.sl true cO])
def dO : Bool × List Ct := (true, cO)
theorem sh_I {a : AV} (h : shA dI a) : ∃ n, a = .int .i64 n := by
  have := h.2 rfl
  simp only [dI, shCs, shC] at this
  obtain ⟨a', us', e, ⟨n, rfl, _⟩, rfl⟩ := this
  cases e; exact ⟨n, rfl⟩
theorem sh_cO {us : List AV} (h : shCs cO us) : ∃ o : O, AV.agg us = o.av := by
  simp only [cO, shCs, shC] at h
  obtain ⟨_, _, rfl, ⟨a, rfl, _⟩, _, _, rfl, ⟨b, rfl, _⟩, _, _, rfl, ⟨c, rfl, _⟩, _, _, rfl, ⟨d, rfl, _⟩, _, _, rfl, ⟨e, rfl, _⟩, _, _, rfl, ⟨f, rfl, _⟩, _, _, rfl, ⟨g, rfl, _⟩, rfl⟩ := h
  exact ⟨⟨a, b, c, d, e, f, g⟩, rfl⟩
theorem sh_O {a : AV} (h : shA dO a) : ∃ o : O, a = o.av := by
  obtain ⟨us, rfl, h2⟩ := h.1 rfl
  exact sh_cO h2
/-- The same arguments, their rows named. -/
theorem named {W : World} {n : Nat} {get : Nat → AV} {us : List AV} (h : allR isO get n = true) : ∀ vs, SRs βo W (.arr 7 n get none :: us) vs → SRs βo W (.arr 7 n (rowO (rO get)) none :: us) vs := by
  intro vs hv
  simp only [SRs] at hv ⊢
  obtain ⟨x, xs, e, h1, h2⟩ := hv
  exact ⟨x, xs, e, sr_O h1 rfl h, h2⟩
theorem sh_R {a : AV} (h : shA dR a) : ∃ n get, a = .arr 7 n get none ∧ allR isO get n = true := by
  have := h.2 rfl
  simp only [dR, shCs, shC] at this
  obtain ⟨a', us', e, ⟨n, get, rfl, _, h5⟩, rfl⟩ := this
  cases e
  refine ⟨n, get, rfl, allR_iff.2 fun i hi => ?_⟩
  obtain ⟨us, h1, h2⟩ := (h5 i hi).1 trivial
  obtain ⟨o, h3⟩ := sh_cO h2
  rw [h1, h3]; rfl
end Go.Proofs.Ytkjegegjkeeemaa.Ev
