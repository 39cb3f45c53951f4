/- The first law. -/
import Derived.Test.YtkjegegjkeeemaaPF
set_option linter.all false
namespace Go.Proofs.Ytkjegegjkeeemaa.Ev
open Go
set_option maxRecDepth 100000
/-- The laws look at few overrides alone. -/
def few {α : Type} (n : Nat) (y a : α) : α := bif leI (n : Int) 20 then a else (bif leI 99 (n : Int) then (bif !leI (n : Int) 102 then y else a) else y)
theorem few_eq {α : Type} {n : Nat} {y a : α} (h : n ≤ 102 → a = y) : few n y a = y := by
  unfold few
  simp only [leI_iff, bif_not, bif_dec]
  repeat' (refine ite_split (fun _ => ?_) (fun _ => ?_))
  all_goals first | rfl | (exact h (by omega))
def isV (f : Nat → O) (n : Nat) : Bool := allR isO (rowO f) n
theorem isV_true (f : Nat → O) (n : Nat) : isV f n = true := allR_O f n
theorem allR_I' (f : Nat → Int) (n : Nat) : allR isI (rowI f) n = true := allR_I f n

section
variable {R : Type} (K : AV → Option R) (n : Nat) (f : Nat → O) (o : O) (t p x m k : Int)
theorem en3 (L : Nat) : callK (tabS s2) L 8 true (.fn 3 []) [.arr 7 n (rowO f) none, .int .i64 t, .int .i64 p, .int .i64 x, .int .i64 m] [] (fun v _ => K v) =
    few n (K (.bool true)) (bif isV f n then (bif isV f n then (bif isV f n then (bif isV f n then (bif isV f n then (bif isV f n then (bif yes (Valid n f) == yes (Valid n f) then
      (bif allR isI (rowI (listI (actL n f m))) (actL n f m).length && allR isI (rowI (listI (actL n f m))) (actL n f m).length && Nat.ble (actL n f m).length 1000 then
        (bif yes ((actL n f m).length = (actL n f m).length ∧ ∀ k, k < (actL n f m).length → listI (actL n f m) k = listI (actL n f m) k) then
          (bif eqI (errA n f m) (errA n f m) then (bif stk n f t m == stk n f t m then (bif eqI (errS n f t m) (errS n f t m) then (bif isV f n then (bif isV f n then K (.bool (eqI (jdg n f t p x m) (jdg n f t p x m))) else none) else none) else K (.bool false)) else K (.bool false)) else K (.bool false)) else K (.bool false)) else none) else K (.bool false)) else none) else none) else none) else none) else none) else none) := by kernel_rfl
theorem actsLen (f : Nat → O) (m : Int) : ∀ (d i : Nat), (acts f m i d).length ≤ d
  | 0, _ => Nat.le_refl _
  | d + 1, i => by
    unfold acts
    have := actsLen f m d (i + 1)
    split
    · simp only [List.length_cons]; omega
    · omega
theorem actL_len : (actL n f m).length ≤ n := by
  unfold actL
  cases yes (Valid n f ∧ Mom m) with
  | true => exact actsLen f m n 0
  | false => exact Nat.zero_le _
theorem eqI_refl (a : Int) : eqI a a = true := by rw [eqI_dec]; exact decide_eq_true rfl
theorem law3 (L : Nat) : callK (tabS s2) L 8 true (.fn 3 []) [.arr 7 n (rowO f) none, .int .i64 t, .int .i64 p, .int .i64 x, .int .i64 m] [] (fun v _ => K v) = K (.bool true) := by
  rw [en3]
  refine few_eq fun hn => ?_
  have h1 : Nat.ble (actL n f m).length 1000 = true := by rw [Nat.ble_eq]; have := actL_len n f m; omega
  simp only [isV_true, allR_I', h1, eqI_refl, beq_self_eq_true, Bool.and_true, cond_true]
  rw [yes_true ⟨trivial, fun _ _ => trivial⟩]; rfl

end
end Go.Proofs.Ytkjegegjkeeemaa.Ev
