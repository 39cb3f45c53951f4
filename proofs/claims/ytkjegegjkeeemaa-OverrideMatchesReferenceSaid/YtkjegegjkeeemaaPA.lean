/- Valid, twice; two lists of ints compared: what the rounds come to. -/
import Derived.Test.YtkjegegjkeeemaaXA
import Derived.Test.YtkjegegjkeeemaaXB
import Derived.Test.YtkjegegjkeeemaaEvD
set_option linter.all false
namespace Go.Proofs.Ytkjegegjkeeemaa.Ev
open Go

noncomputable def yes (p : Prop) : Bool := @decide p (Classical.propDecidable p)
theorem yes_iff {p : Prop} : yes p = true ↔ p := by simp [yes]
theorem yes_true {p : Prop} (h : p) : yes p = true := yes_iff.2 h
theorem yes_false {p : Prop} (h : ¬p) : yes p = false := by
  cases e : yes p with
  | false => rfl
  | true => exact absurd (yes_iff.1 e) h
theorem yes_congr {p q : Prop} (h : p ↔ q) : yes p = yes q := by
  by_cases hq : q
  · rw [yes_true hq, yes_true (h.2 hq)]
  · rw [yes_false hq, yes_false (fun hp => hq (h.1 hp))]
theorem wr64 {x : Int} (h0 : -9223372036854775808 ≤ x) (h1 : x ≤ 9223372036854775807) : wr .i64 x = x := by
  show (bif leI minI x && leI x maxI then x else IntKind.wrap .i64 x) = x
  rw [leI_iff, leI_iff, decide_eq_true (show minI ≤ x by unfold minI; omega), decide_eq_true (show x ≤ maxI by unfold maxI; omega)]; rfl
theorem eqI_dec (a b : Int) : eqI a b = decide (a = b) := by
  rw [eqI_iff]
  by_cases h : a = b
  · subst h; simp
  · rw [decide_eq_false h]; simpa using h
theorem bif_dec {α : Type} {p : Prop} [Decidable p] {a b : α} : (bif decide p then a else b) = if p then a else b := by by_cases h : p <;> simp [h]
theorem bif_not {α : Type} {c : Bool} {a b : α} : (bif !c then a else b) = bif c then b else a := by cases c <;> rfl
theorem bif_and {α : Type} {c d : Bool} {a b : α} : (bif c && d then a else b) = bif c then (bif d then a else b) else b := by cases c <;> rfl

theorem ite_split {α : Type} {c : Prop} [Decidable c] {a b r : α} (h1 : c → a = r) (h2 : ¬c → b = r) : (if c then a else b) = r := by
  by_cases h : c
  · rw [if_pos h]; exact h1 h
  · rw [if_neg h]; exact h2 h
theorem split_ite {α : Type} {c : Prop} [Decidable c] {a b r : α} (h1 : c → r = a) (h2 : ¬c → r = b) : r = if c then a else b := by
  by_cases h : c
  · rw [if_pos h]; exact h1 h
  · rw [if_neg h]; exact h2 h

/-- An override that can stand. -/
def Good (o : O) : Prop := 0 ≤ o.fr ∧ o.fr ≤ 38399 ∧ 0 ≤ o.unt ∧ o.unt ≤ 38399 ∧ 0 ≤ o.kn ∧ o.kn ≤ 38399 ∧ o.fr ≤ o.unt ∧
  ((o.kd = 1 ∨ o.kd = 4) ∧ 0 ≤ o.tel ∧ o.tel ≤ 5 ∧ o.prg = 0 ∧ o.tile = 0 ∨ o.kd = 2 ∧ 0 ≤ o.prg ∧ o.prg ≤ 63 ∧ o.tel = 0 ∧ o.tile = 0 ∨ o.kd = 3 ∧ 0 ≤ o.tile ∧ o.tile ≤ 511 ∧ o.tel = 0 ∧ o.prg = 0)
instance (o : O) : Decidable (Good o) := by unfold Good; infer_instance

section
variable {R : Type} (K : AV → Option R) (L n : Nat) (f : Nat → O)
theorem round15 (i : Int) (j : Nat) (h0 : 0 ≤ i) : L15q0 (envS no L 3) (pK K) 0 (Nat.succ j) (S15q0 [.arr 7 n (rowO f) none, .int .i64 i] []) =
    if i < n ∧ i < 101 then (if Good (f i.toNat) then L15q0 (envS no L 3) (pK K) 0 j (S15q0 [.arr 7 n (rowO f) none, .int .i64 (wr .i64 (i + 1))] []) else K (.bool false)) else K (.bool (decide ((n : Int) ≤ 100))) := by
  rw [it15]
  generalize hX : L15q0 (envS no L 3) (pK K) 0 j (S15q0 [.arr 7 n (rowO f) none, .int .i64 (wr .i64 (i + 1))] []) = X
  generalize f i.toNat = o
  simp only [leI_iff, eqI_dec, bif_not, bif_and, bif_dec, cond_true, if_true, ite_true, decide_true]
  refine split_ite (fun hc => split_ite (fun hg => ?_) (fun hg => ?_)) (fun hc => ?_) <;> (try unfold Good at hg)
  all_goals repeat' (refine ite_split (fun _ => ?_) (fun _ => ?_))
  all_goals first | rfl | (exfalso; omega)
theorem round14 (i : Int) (j : Nat) (h0 : 0 ≤ i) : L14q0 (envS no L 3) (pK K) 0 (Nat.succ j) (S14q0 [.arr 7 n (rowO f) none, .int .i64 n, .int .i64 i] []) =
    if i < n then (if Good (f i.toNat) then L14q0 (envS no L 3) (pK K) 0 j (S14q0 [.arr 7 n (rowO f) none, .int .i64 n, .int .i64 (wr .i64 (i + 1))] []) else K (.bool false)) else K (.bool true) := by
  rw [it14]
  generalize hX : L14q0 (envS no L 3) (pK K) 0 j (S14q0 [.arr 7 n (rowO f) none, .int .i64 n, .int .i64 (wr .i64 (i + 1))] []) = X
  generalize f i.toNat = o
  simp only [leI_iff, eqI_dec, bif_not, bif_and, bif_dec, cond_true, if_true, ite_true, decide_true]
  refine split_ite (fun hc => split_ite (fun hg => ?_) (fun hg => ?_)) (fun hc => ?_) <;> (try unfold Good at hg)
  all_goals repeat' (refine ite_split (fun _ => ?_) (fun _ => ?_))
  all_goals first | rfl | (exfalso; omega)
end
end Go.Proofs.Ytkjegegjkeeemaa.Ev
