/- The fourth law: one override more. -/
import Derived.Test.YtkjegegjkeeemaaPG
set_option linter.all false
namespace Go.Proofs.Ytkjegegjkeeemaa.Ev
open Go
set_option maxRecDepth 100000
section
variable {R : Type} (K : AV → Option R) (n : Nat) (f : Nat → O) (o : O) (t p x m k : Int)
/-- The one override alone, as it is handed in. -/
def aloneF (o : O) : Nat → O := rO (elemAt true 7 o.av.cells)
def emptyG (i : Nat) : AV := ([] : List AV).getD i .undef
def oneG (o : O) (i : Nat) : AV := [o.av].getD i .undef
/-- One more, behind n. -/
def pushG0 (o : O) : Nat → AV := joinG 0 emptyG 1 (oneG o)
def pushG (n : Nat) (f : Nat → O) (o : O) : Nat → AV := joinG (0 + n) (joinG 0 emptyG n (rowO f)) 1 (oneG o)
def tail6 {R : Type} (K : AV → Option R) (n : Nat) (a b c : Int) : Option R :=
  bif eqI a 1 then K (.bool (eqI c 1)) else (bif eqI b 1 then K (.bool (eqI c 1)) else (bif eqI c 1 then K (.bool (leI 100 n)) else (bif !eqI a 0 then K (.bool (eqI c a)) else K (.bool (eqI c b)))))
theorem en6 (L : Nat) : callK (tabS s2) L 8 true (.fn 6 []) [.arr 7 n (rowO f) none, o.av, .int .i64 t, .int .i64 p, .int .i64 x, .int .i64 m] [] (fun v _ => K v) =
    few n (K (.bool true)) (bif isV f n then (bif Nat.beq n 0 then tail6 K n (jdg n f t p x m) (jdg 1 (aloneF o) t p x m) (jdg (0 + 1) (rO (pushG0 o)) t p x m)
      else (bif capOk 0 n 56 then (bif Nat.beq 35 35 && Nat.beq (0 + n) (0 + n) && Nat.blt 0 (0 + n) && capOk (0 + n) 1 56 then (bif allR isO (pushG n f o) (0 + n + 1) then
        tail6 K n (jdg n f t p x m) (jdg 1 (aloneF o) t p x m) (jdg (0 + n + 1) (rO (pushG n f o)) t p x m) else none) else none) else none)) else none) := by kernel_rfl
end
end Go.Proofs.Ytkjegegjkeeemaa.Ev
