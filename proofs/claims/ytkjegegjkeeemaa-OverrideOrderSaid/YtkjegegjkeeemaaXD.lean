/- Active's rounds. -/
import Derived.Test.YtkjegegjkeeemaaSA
set_option linter.all false
namespace Go.Proofs.Ytkjegegjkeeemaa.Ev
open Go
set_option maxRecDepth 100000
def H10 : List AO := [AO.cells [.nilSl none] 25, AO.dfr false, AO.loop LS.ready AJ.none 5 [p6] [AV.ptr 0 0] [p19, p20] m10qa0 m10qy0]
def H10b (c : Nat) (g : Nat → AV) (o : O) (x : Int) : List AO := [AO.cells [AV.arr 1 c g (some 5)] 25, AO.dfr false, AO.loop LS.ready AJ.none 5 [p6] [AV.ptr 0 0] [p19, p20] m10qa0 m10qy0, AO.cells o.av.cells 35, AO.cells [.int .i64 x] 3, AO.tok 3 c]
def one (x : Int) (k : Nat) : AV := [AV.int .i64 x].getD k .undef
noncomputable def s30 (m i : Int) (n : Nat) (f : Nat → O) (y : Nat) (h : List AO) : St := S30q0 [.yld y, .pptr [.int .i64 m] 0, .arr 7 n (rowO f) none, .int .i64 n, .int .i64 i] h
def inF {α : Type} (o : O) (m : Int) (a b : α) : α := bif leI (bif leI o.kn o.fr then o.fr else o.kn) m then (bif leI m o.unt then a else b) else b
theorem it10a {R : Type} (K : AV → List AO → Option R) (L n : Nat) (f : Nat → O) (m i : Int) (j : Nat) :
    L30q0 (envS s1 L 4) K 3 (Nat.succ j) (s30 m i n f 2 H10) =
    bif !leI n i then (bif leI 0 i && !leI n i then inF (f i.toNat) m (L30q0 (envS s1 L 4) K 3 j (s30 m (wr .i64 (i + 1)) n f 2 (H10b 1 (joinG 0 (fun _ => .undef) 1 (one i)) (f i.toNat) i)))
      (L30q0 (envS s1 L 4) K 3 j (s30 m (wr .i64 (i + 1)) n f 2 H10)) else none) else K (.tup []) H10 := by kernel_rfl
theorem it10b {R : Type} (K : AV → List AO → Option R) (L n c : Nat) (g : Nat → AV) (f : Nat → O) (o : O) (m i z : Int) (j : Nat) :
    L30q0 (envS s1 L 4) K 3 (Nat.succ j) (s30 m i n f 2 (H10b (Nat.succ c) g o z)) =
    bif !leI n i then (bif leI 0 i && !leI n i then inF (f i.toNat) m
        (bif Nat.beq 3 3 && Nat.beq (Nat.succ c) (Nat.succ c) && Nat.blt 0 (Nat.succ c) && capOk (Nat.succ c) 1 8 then L30q0 (envS s1 L 4) K 3 j (s30 m (wr .i64 (i + 1)) n f 2 (H10b (Nat.succ c + 1) (joinG (Nat.succ c) g 1 (one i)) o z)) else none)
      (L30q0 (envS s1 L 4) K 3 j (s30 m (wr .i64 (i + 1)) n f 2 (H10b (Nat.succ c) g o z))) else none) else K (.tup []) (H10b (Nat.succ c) g o z) := by kernel_rfl
/-- Behind the rounds. -/
noncomputable def k10 {R : Type} (L : Nat) (K : AV → Option R) : AV → List AO → Option R := KR10q0 (envS s1 L 5) (pK K) [.nilSl none, .int .i64 0, .ptr 0 0] [] [AO.cells [.nilSl none] 25]
theorem en10 {R : Type} (K : AV → Option R) (L n : Nat) (f : Nat → O) (m : Int) :
    callK (tabS s1) L 6 true (.fn 10 []) [.arr 7 n (rowO f) none, .int .i64 m] [] (fun v _ => K v) =
    bif allR isO (rowO f) n then (bif !yes (Valid n (rO (rowO f))) then K (.tup [.nilSl none, .int .i64 1])
      else (bif leI 0 m then (bif !!leI 38400 m then K (.tup [.nilSl none, .int .i64 1]) else L30q0 (envS s1 L 4) (k10 L K) 3 L (s30 m 0 n f 2 H10)) else K (.tup [.nilSl none, .int .i64 1]))) else none := by kernel_rfl
theorem end10a {R : Type} (K : AV → Option R) (L : Nat) : k10 L K (.tup []) H10 = K (.tup [.nilSl none, .int .i64 0]) := by kernel_rfl
theorem end10b {R : Type} (K : AV → Option R) (L c : Nat) (g : Nat → AV) (o : O) (z : Int) : k10 L K (.tup []) (H10b c g o z) = K (.tup [.arr 1 c g none, .int .i64 0]) := by kernel_rfl
end Go.Proofs.Ytkjegegjkeeemaa.Ev
