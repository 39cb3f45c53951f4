import Derived.Test.YtkjegegjkeeemaaTab0
import Derived.KernelRfl
set_option linter.all false
namespace Go.Proofs.Ytkjegegjkeeemaa.Ev
open Go
set_option maxRecDepth 100000
theorem en15 {R : Type} (K : AV → Option R) (L : Nat) (n : Nat) (f : Nat → O) :
    callK (tabS no) L 4 true (.fn 15 []) [.arr 7 n (rowO f) none] [] (fun v _ => K v) =
    L15q0 (envS no L 3) (pK K) 0 L (S15q0 [AV.arr 7 n (rowO f) none, AV.int IntKind.i64 0] []) := by kernel_rfl
theorem it15 {R : Type} (K : AV → Option R) (L : Nat) (n : Nat) (f : Nat → O) (i : Int) (j : Nat) :
    L15q0 (envS no L 3) (pK K) 0 (Nat.succ j) (S15q0 [.arr 7 n (rowO f) none, .int .i64 i] []) =
    bif !leI (↑n) i then (bif !leI 101 i then (bif leI 0 i && !leI (↑n) i then (bif leI 0 (f (Int.toNat i)).fr then (bif !leI (f (Int.toNat i)).fr 38399 then (K (AV.bool false))
 else (bif leI 0 (f (Int.toNat i)).unt then (bif !leI (f (Int.toNat i)).unt 38399 then (K (AV.bool false))
 else (bif leI 0 (f (Int.toNat i)).kn then (bif !leI (f (Int.toNat i)).kn 38399 then (K (AV.bool false))
 else (bif !leI (f (Int.toNat i)).fr (f (Int.toNat i)).unt then (K (AV.bool false))
 else (bif eqI (f (Int.toNat i)).kd 1 then (bif leI 0 (f (Int.toNat i)).tel then (bif leI (f (Int.toNat i)).tel 5 then (bif eqI (f (Int.toNat i)).prg 0 then (bif !eqI (f (Int.toNat i)).tile 0 then (K (AV.bool false))
 else (L15q0 (envS no L 3) (pK K) 0 j (S15q0 [AV.arr 7 n (rowO f) none, AV.int IntKind.i64 (wr IntKind.i64 (i + 1))] [])))
 else (K (AV.bool false)))
 else (K (AV.bool false)))
 else (K (AV.bool false)))
 else (bif eqI (f (Int.toNat i)).kd 4 then (bif leI 0 (f (Int.toNat i)).tel then (bif leI (f (Int.toNat i)).tel 5 then (bif eqI (f (Int.toNat i)).prg 0 then (bif !eqI (f (Int.toNat i)).tile 0 then (K (AV.bool false))
 else (L15q0 (envS no L 3) (pK K) 0 j (S15q0 [AV.arr 7 n (rowO f) none, AV.int IntKind.i64 (wr IntKind.i64 (i + 1))] [])))
 else (K (AV.bool false)))
 else (K (AV.bool false)))
 else (K (AV.bool false)))
 else (bif eqI (f (Int.toNat i)).kd 2 then (bif leI 0 (f (Int.toNat i)).prg then (bif leI (f (Int.toNat i)).prg 63 then (bif eqI (f (Int.toNat i)).tel 0 then (bif !eqI (f (Int.toNat i)).tile 0 then (K (AV.bool false))
 else (L15q0 (envS no L 3) (pK K) 0 j (S15q0 [AV.arr 7 n (rowO f) none, AV.int IntKind.i64 (wr IntKind.i64 (i + 1))] [])))
 else (K (AV.bool false)))
 else (K (AV.bool false)))
 else (K (AV.bool false)))
 else (bif eqI (f (Int.toNat i)).kd 3 then (bif leI 0 (f (Int.toNat i)).tile then (bif leI (f (Int.toNat i)).tile 511 then (bif eqI (f (Int.toNat i)).tel 0 then (bif !eqI (f (Int.toNat i)).prg 0 then (K (AV.bool false))
 else (L15q0 (envS no L 3) (pK K) 0 j (S15q0 [AV.arr 7 n (rowO f) none, AV.int IntKind.i64 (wr IntKind.i64 (i + 1))] [])))
 else (K (AV.bool false)))
 else (K (AV.bool false)))
 else (K (AV.bool false)))
 else (K (AV.bool false))))))))
 else (K (AV.bool false))))
 else (K (AV.bool false))))
 else (K (AV.bool false)))
 else (none))
 else (K (AV.bool (leI (↑n) 100))))
 else (K (AV.bool (leI (↑n) 100))) := by kernel_rfl
theorem en16 {R : Type} (K : AV → Option R) (L : Nat) (n m : Nat) (f g : Nat → Int) :
    callK (tabS no) L 4 true (.fn 16 []) [.arr 1 n (rowI f) none, .arr 1 m (rowI g) none] [] (fun v _ => K v) =
    bif !eqI ↑n ↑m then (K (AV.bool false))
 else (L16q0 (envS no L 3) (pK K) 0 L (S16q0 [AV.arr 1 n (rowI f) none, AV.arr 1 m (rowI g) none, AV.int IntKind.i64 0] [])) := by kernel_rfl
theorem it16 {R : Type} (K : AV → Option R) (L : Nat) (n m : Nat) (f g : Nat → Int) (i : Int) (j : Nat) :
    L16q0 (envS no L 3) (pK K) 0 (Nat.succ j) (S16q0 [.arr 1 n (rowI f) none, .arr 1 m (rowI g) none, .int .i64 i] []) =
    bif !leI (↑n) i then (bif leI 0 i && !leI (↑n) i then (bif leI 0 i && !leI (↑m) i then (bif !eqI (f (Int.toNat i)) (g (Int.toNat i)) then (K (AV.bool false))
 else (L16q0 (envS no L 3) (pK K) 0 j (S16q0 [AV.arr 1 n (rowI f) none, AV.arr 1 m (rowI g) none, AV.int IntKind.i64 (wr IntKind.i64 (i + 1))] [])))
 else (none))
 else (none))
 else (K (AV.bool true)) := by kernel_rfl
end Go.Proofs.Ytkjegegjkeeemaa.Ev
