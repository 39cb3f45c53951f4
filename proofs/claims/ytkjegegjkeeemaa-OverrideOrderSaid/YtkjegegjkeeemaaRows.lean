/-
  No cell of these rows narrows 'for every input' (looked for: loops, veiled, ifaces, maps, wideKeys, modest, calm, conditions, laid).
  DERIVED. THE GIVEN ROWS OF THIS SEAT. 5 by the template 'for every input the law returns true; each argument reads behind the call as it read before'; 0 by the template 'total and deterministic' (their statements: YtkjegegjkeeemaaTotals.lean).
  GIVEN WITH THE SEED: the statements are not yours to turn. If you find one false, say at which input.
  Laid BY PROGRAM, IN A SANDBOX (cutbox-rows.mjs): the forced cells as the released guide's own fill.sh prints them over the translation 8c212cefbfb438ad… (all of the seat's roots in one cut). By AI agents, Wed Nov 11 2026. No macro, syntax, notation, axiom, sorry.
-/
import Derived.Test.YtkjegegjkeeemaaChecked
import GoSem.Claim
import GoSem.ClaimJoined
import GoSem.ClaimMapViews
import Derived.JoinedTies
import Derived.KernelRfl
namespace Go.Proofs.Ytkjegegjkeeemaa
/- THE CELL 'sum', in the pinned program and in every row, IS THE sha256 OF THE DUMP (.gsa) THAT YtkjegegjkeeemaaProg.lean LOADS. Nothing in Lean hashes anything: it is a label: what it is worth is what the hold of that sum in a sandbox is worth. -/
noncomputable def Try.pinned : Pinned := { name := "ytkjegegjkeeemaa", sum := "8c212cefbfb438ada968a10d1cf3f65b8c35d3a4a1797a09403b57599a01630f", checked := Try.checked }
namespace Rows
def none {H : Type} : Left H := { results := [], args := [] }

/-- 'observatorylaw27.OverrideMatchesReference': WHATEVER THE INPUT: true; the input reads as it did. -/
def overrideMatchesReferenceSpec : ChangeSpec := { name := "overrideMatchesReference", fn := fun _ => fun
  | [d1, d2, d3, d4, d5] => { results := [.lit (.bool true)], args := [d1, d2, d3, d4, d5] }
  | _ => none }
def overrideMatchesReferenceRow : OpenClaim := { program := "ytkjegegjkeeemaa", sum := "8c212cefbfb438ada968a10d1cf3f65b8c35d3a4a1797a09403b57599a01630f", func := "observatory/observatorylaw27.OverrideMatchesReference", spec := "overrideMatchesReference", unfollowed := true, recurses := true, apart := false }
def OverrideMatchesReferenceSaid : Prop := overrideMatchesReferenceRow.holds Try.pinned (OpenSpec.ofChange overrideMatchesReferenceSpec)

/-- ITS FALSE NEIGHBOUR: 'it returns false'. Refute it at one input. -/
def overrideMatchesReferenceWrong : ChangeSpec := { name := "overrideMatchesReference", fn := fun _ => fun
  | [d1, d2, d3, d4, d5] => { results := [.lit (.bool false)], args := [d1, d2, d3, d4, d5] }
  | _ => none }
def OverrideMatchesReferenceWrongFalsely : Prop := overrideMatchesReferenceRow.holds Try.pinned (OpenSpec.ofChange overrideMatchesReferenceWrong)

/-- 'observatorylaw27.OverrideActive': WHATEVER THE INPUT: true; the input reads as it did. -/
def overrideActiveSpec : ChangeSpec := { name := "overrideActive", fn := fun _ => fun
  | [d1, d2, d3] => { results := [.lit (.bool true)], args := [d1, d2, d3] }
  | _ => none }
def overrideActiveRow : OpenClaim := { program := "ytkjegegjkeeemaa", sum := "8c212cefbfb438ada968a10d1cf3f65b8c35d3a4a1797a09403b57599a01630f", func := "observatory/observatorylaw27.OverrideActive", spec := "overrideActive", unfollowed := true, recurses := true, apart := false }
def OverrideActiveSaid : Prop := overrideActiveRow.holds Try.pinned (OpenSpec.ofChange overrideActiveSpec)

/-- ITS FALSE NEIGHBOUR: 'it returns false'. Refute it at one input. -/
def overrideActiveWrong : ChangeSpec := { name := "overrideActive", fn := fun _ => fun
  | [d1, d2, d3] => { results := [.lit (.bool false)], args := [d1, d2, d3] }
  | _ => none }
def OverrideActiveWrongFalsely : Prop := overrideActiveRow.holds Try.pinned (OpenSpec.ofChange overrideActiveWrong)

/-- 'observatorylaw27.OverrideExcludes': WHATEVER THE INPUT: true; the input reads as it did. -/
def overrideExcludesSpec : ChangeSpec := { name := "overrideExcludes", fn := fun _ => fun
  | [d1, d2, d3, d4, d5] => { results := [.lit (.bool true)], args := [d1, d2, d3, d4, d5] }
  | _ => none }
def overrideExcludesRow : OpenClaim := { program := "ytkjegegjkeeemaa", sum := "8c212cefbfb438ada968a10d1cf3f65b8c35d3a4a1797a09403b57599a01630f", func := "observatory/observatorylaw27.OverrideExcludes", spec := "overrideExcludes", unfollowed := true, recurses := true, apart := false }
def OverrideExcludesSaid : Prop := overrideExcludesRow.holds Try.pinned (OpenSpec.ofChange overrideExcludesSpec)

/-- ITS FALSE NEIGHBOUR: 'it returns false'. Refute it at one input. -/
def overrideExcludesWrong : ChangeSpec := { name := "overrideExcludes", fn := fun _ => fun
  | [d1, d2, d3, d4, d5] => { results := [.lit (.bool false)], args := [d1, d2, d3, d4, d5] }
  | _ => none }
def OverrideExcludesWrongFalsely : Prop := overrideExcludesRow.holds Try.pinned (OpenSpec.ofChange overrideExcludesWrong)

/-- 'observatorylaw27.OverrideFurther': WHATEVER THE INPUT: true; the input reads as it did. -/
def overrideFurtherSpec : ChangeSpec := { name := "overrideFurther", fn := fun _ => fun
  | [d1, d2, d3, d4, d5, d6] => { results := [.lit (.bool true)], args := [d1, d2, d3, d4, d5, d6] }
  | _ => none }
def overrideFurtherRow : OpenClaim := { program := "ytkjegegjkeeemaa", sum := "8c212cefbfb438ada968a10d1cf3f65b8c35d3a4a1797a09403b57599a01630f", func := "observatory/observatorylaw27.OverrideFurther", spec := "overrideFurther", unfollowed := true, recurses := true, apart := false }
def OverrideFurtherSaid : Prop := overrideFurtherRow.holds Try.pinned (OpenSpec.ofChange overrideFurtherSpec)

/-- ITS FALSE NEIGHBOUR: 'it returns false'. Refute it at one input. -/
def overrideFurtherWrong : ChangeSpec := { name := "overrideFurther", fn := fun _ => fun
  | [d1, d2, d3, d4, d5, d6] => { results := [.lit (.bool false)], args := [d1, d2, d3, d4, d5, d6] }
  | _ => none }
def OverrideFurtherWrongFalsely : Prop := overrideFurtherRow.holds Try.pinned (OpenSpec.ofChange overrideFurtherWrong)

/-- 'observatorylaw27.OverrideOrder': WHATEVER THE INPUT: true; the input reads as it did. -/
def overrideOrderSpec : ChangeSpec := { name := "overrideOrder", fn := fun _ => fun
  | [d1, d2, d3, d4, d5, d6] => { results := [.lit (.bool true)], args := [d1, d2, d3, d4, d5, d6] }
  | _ => none }
def overrideOrderRow : OpenClaim := { program := "ytkjegegjkeeemaa", sum := "8c212cefbfb438ada968a10d1cf3f65b8c35d3a4a1797a09403b57599a01630f", func := "observatory/observatorylaw27.OverrideOrder", spec := "overrideOrder", unfollowed := true, recurses := true, apart := false }
def OverrideOrderSaid : Prop := overrideOrderRow.holds Try.pinned (OpenSpec.ofChange overrideOrderSpec)

/-- ITS FALSE NEIGHBOUR: 'it returns false'. Refute it at one input. -/
def overrideOrderWrong : ChangeSpec := { name := "overrideOrder", fn := fun _ => fun
  | [d1, d2, d3, d4, d5, d6] => { results := [.lit (.bool false)], args := [d1, d2, d3, d4, d5, d6] }
  | _ => none }
def OverrideOrderWrongFalsely : Prop := overrideOrderRow.holds Try.pinned (OpenSpec.ofChange overrideOrderWrong)

/- THE SECOND FORM. 'bulk': how many values and letters a reading holds, each counted each time it is reached (what is shared counts as often as it is met; a slice's spare places count too). A statement '..UptoSaid' is the law's where the arguments, and the package variables that the reading takes, are together of bulk at most 1048576: NARROWER than '..Said'. Prove '..Said' where nothing that the law and all that it calls make is longer than what came in: it says more and counts as full. Else prove '..UptoSaid'. A law counts once. -/
mutual
def uptoBulk {H : Type} : DataW H → Nat
  | .lit (.string bytes) => bytes.length + 1
  | .lit _ => 1
  | .nil => 1
  | .ptr d => uptoBulk d + 1
  | .slice elems spare => uptoBulkAll elems + uptoBulkAll spare + 1
  | .agg parts => uptoBulkAll parts + 1
  | .iface _ d => uptoBulk d + 1
  | .map entries => uptoBulkEntries entries + 1
  | .held _ => 1
def uptoBulkAll {H : Type} : List (DataW H) → Nat
  | [] => 0
  | d :: r => uptoBulk d + uptoBulkAll r
def uptoBulkEntries {H : Type} : List (Lit × DataW H) → Nat
  | [] => 0
  | x :: r => uptoBulkEntry x + uptoBulkEntries r
def uptoBulkEntry {H : Type} : Lit × DataW H → Nat
  | (.string bytes, d) => bytes.length + uptoBulk d + 1
  | (_, d) => uptoBulk d + 1
 end
def uptoSmall : (H : Type) → List (DataW H) → Bool := fun _ ds => decide (uptoBulkAll ds ≤ 1048576)
def OpenSpec.upto (s : _root_.Go.ChangeSpec) : _root_.Go.OpenSpec := { _root_.Go.OpenSpec.ofChange s with cond := some uptoSmall }

/-- 'observatorylaw27.OverrideMatchesReference', WHERE WHAT IT READS IS OF BULK AT MOST 1048576: true; the input reads as it did. -/
def overrideMatchesReferenceUptoRow : OpenClaim := { program := "ytkjegegjkeeemaa", sum := "8c212cefbfb438ada968a10d1cf3f65b8c35d3a4a1797a09403b57599a01630f", func := "observatory/observatorylaw27.OverrideMatchesReference", spec := "overrideMatchesReference", unfollowed := true, recurses := true, apart := false, narrowed := true }
def OverrideMatchesReferenceUptoSaid : Prop := overrideMatchesReferenceUptoRow.holds Try.pinned (OpenSpec.upto overrideMatchesReferenceSpec)

/-- 'observatorylaw27.OverrideActive', WHERE WHAT IT READS IS OF BULK AT MOST 1048576: true; the input reads as it did. -/
def overrideActiveUptoRow : OpenClaim := { program := "ytkjegegjkeeemaa", sum := "8c212cefbfb438ada968a10d1cf3f65b8c35d3a4a1797a09403b57599a01630f", func := "observatory/observatorylaw27.OverrideActive", spec := "overrideActive", unfollowed := true, recurses := true, apart := false, narrowed := true }
def OverrideActiveUptoSaid : Prop := overrideActiveUptoRow.holds Try.pinned (OpenSpec.upto overrideActiveSpec)

/-- 'observatorylaw27.OverrideExcludes', WHERE WHAT IT READS IS OF BULK AT MOST 1048576: true; the input reads as it did. -/
def overrideExcludesUptoRow : OpenClaim := { program := "ytkjegegjkeeemaa", sum := "8c212cefbfb438ada968a10d1cf3f65b8c35d3a4a1797a09403b57599a01630f", func := "observatory/observatorylaw27.OverrideExcludes", spec := "overrideExcludes", unfollowed := true, recurses := true, apart := false, narrowed := true }
def OverrideExcludesUptoSaid : Prop := overrideExcludesUptoRow.holds Try.pinned (OpenSpec.upto overrideExcludesSpec)

/-- 'observatorylaw27.OverrideFurther', WHERE WHAT IT READS IS OF BULK AT MOST 1048576: true; the input reads as it did. -/
def overrideFurtherUptoRow : OpenClaim := { program := "ytkjegegjkeeemaa", sum := "8c212cefbfb438ada968a10d1cf3f65b8c35d3a4a1797a09403b57599a01630f", func := "observatory/observatorylaw27.OverrideFurther", spec := "overrideFurther", unfollowed := true, recurses := true, apart := false, narrowed := true }
def OverrideFurtherUptoSaid : Prop := overrideFurtherUptoRow.holds Try.pinned (OpenSpec.upto overrideFurtherSpec)

/-- 'observatorylaw27.OverrideOrder', WHERE WHAT IT READS IS OF BULK AT MOST 1048576: true; the input reads as it did. -/
def overrideOrderUptoRow : OpenClaim := { program := "ytkjegegjkeeemaa", sum := "8c212cefbfb438ada968a10d1cf3f65b8c35d3a4a1797a09403b57599a01630f", func := "observatory/observatorylaw27.OverrideOrder", spec := "overrideOrder", unfollowed := true, recurses := true, apart := false, narrowed := true }
def OverrideOrderUptoSaid : Prop := overrideOrderUptoRow.holds Try.pinned (OpenSpec.upto overrideOrderSpec)

end Rows
end Go.Proofs.Ytkjegegjkeeemaa
