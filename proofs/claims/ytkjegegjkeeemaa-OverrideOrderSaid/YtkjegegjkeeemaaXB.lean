import Derived.Test.YtkjegegjkeeemaaTab0
import Derived.KernelRfl
set_option linter.all false
namespace Go.Proofs.Ytkjegegjkeeemaa.Ev
open Go
set_option maxRecDepth 100000
theorem en14 {R : Type} (K : AV → Option R) (L : Nat) (n : Nat) (f : Nat → O) :
    callK (tabS no) L 4 true (.fn 14 []) [.arr 7 n (rowO f) none] [] (fun v _ => K v) =
    bif !leI (↑n) 100 then (K (AV.bool false))
 else (L14q0 (envS no L 3) (pK K) 0 L (S14q0 [AV.arr 7 n (rowO f) none, AV.int IntKind.i64 ↑n, AV.int IntKind.i64 0] [])) := by kernel_rfl
theorem it14 {R : Type} (K : AV → Option R) (L : Nat) (n : Nat) (f : Nat → O) (i : Int) (j : Nat) :
    L14q0 (envS no L 3) (pK K) 0 (Nat.succ j) (S14q0 [.arr 7 n (rowO f) none, .int .i64 n, .int .i64 i] []) =
    bif !leI (↑n) i then (bif leI 0 i && !leI (↑n) i then (bif eqI (f (Int.toNat i)).kd 1 then (bif leI 0 (f (Int.toNat i)).fr then (bif !!leI 38400 (f (Int.toNat i)).fr then (K (AV.bool false))
 else (bif leI 0 (f (Int.toNat i)).unt then (bif !!leI 38400 (f (Int.toNat i)).unt then (K (AV.bool false))
 else (bif leI 0 (f (Int.toNat i)).kn then (bif !!leI 38400 (f (Int.toNat i)).kn then (K (AV.bool false))
 else (bif !leI (f (Int.toNat i)).fr (f (Int.toNat i)).unt then (K (AV.bool false))
 else (bif leI 0 (f (Int.toNat i)).tel then (bif !leI 6 (f (Int.toNat i)).tel then (bif !(eqI (f (Int.toNat i)).tel (f (Int.toNat i)).tel && (eqI 0 (f (Int.toNat i)).prg && (eqI 0 (f (Int.toNat i)).tile && true))) then (K (AV.bool false))
 else (L14q0 (envS no L 3) (pK K) 0 j (S14q0 [AV.arr 7 n (rowO f) none, AV.int IntKind.i64 ↑n, AV.int IntKind.i64 (wr IntKind.i64 (i + 1))] [])))
 else (K (AV.bool false)))
 else (K (AV.bool false)))))
 else (K (AV.bool false))))
 else (K (AV.bool false))))
 else (K (AV.bool false)))
 else (bif eqI (f (Int.toNat i)).kd 2 then (bif leI 0 (f (Int.toNat i)).fr then (bif !!leI 38400 (f (Int.toNat i)).fr then (K (AV.bool false))
 else (bif leI 0 (f (Int.toNat i)).unt then (bif !!leI 38400 (f (Int.toNat i)).unt then (K (AV.bool false))
 else (bif leI 0 (f (Int.toNat i)).kn then (bif !!leI 38400 (f (Int.toNat i)).kn then (K (AV.bool false))
 else (bif !leI (f (Int.toNat i)).fr (f (Int.toNat i)).unt then (K (AV.bool false))
 else (bif leI 0 (f (Int.toNat i)).prg then (bif !leI 64 (f (Int.toNat i)).prg then (bif !(eqI 0 (f (Int.toNat i)).tel && (eqI (f (Int.toNat i)).prg (f (Int.toNat i)).prg && (eqI 0 (f (Int.toNat i)).tile && true))) then (K (AV.bool false))
 else (L14q0 (envS no L 3) (pK K) 0 j (S14q0 [AV.arr 7 n (rowO f) none, AV.int IntKind.i64 ↑n, AV.int IntKind.i64 (wr IntKind.i64 (i + 1))] [])))
 else (K (AV.bool false)))
 else (K (AV.bool false)))))
 else (K (AV.bool false))))
 else (K (AV.bool false))))
 else (K (AV.bool false)))
 else (bif eqI (f (Int.toNat i)).kd 3 then (bif leI 0 (f (Int.toNat i)).fr then (bif !!leI 38400 (f (Int.toNat i)).fr then (K (AV.bool false))
 else (bif leI 0 (f (Int.toNat i)).unt then (bif !!leI 38400 (f (Int.toNat i)).unt then (K (AV.bool false))
 else (bif leI 0 (f (Int.toNat i)).kn then (bif !!leI 38400 (f (Int.toNat i)).kn then (K (AV.bool false))
 else (bif !leI (f (Int.toNat i)).fr (f (Int.toNat i)).unt then (K (AV.bool false))
 else (bif leI 0 (f (Int.toNat i)).tile then (bif !!leI 512 (f (Int.toNat i)).tile then (K (AV.bool false))
 else (bif !(eqI 0 (f (Int.toNat i)).tel && (eqI 0 (f (Int.toNat i)).prg && (eqI (f (Int.toNat i)).tile (f (Int.toNat i)).tile && true))) then (K (AV.bool false))
 else (L14q0 (envS no L 3) (pK K) 0 j (S14q0 [AV.arr 7 n (rowO f) none, AV.int IntKind.i64 ↑n, AV.int IntKind.i64 (wr IntKind.i64 (i + 1))] []))))
 else (K (AV.bool false)))))
 else (K (AV.bool false))))
 else (K (AV.bool false))))
 else (K (AV.bool false)))
 else (bif eqI (f (Int.toNat i)).kd 4 then (bif leI 0 (f (Int.toNat i)).fr then (bif !!leI 38400 (f (Int.toNat i)).fr then (K (AV.bool false))
 else (bif leI 0 (f (Int.toNat i)).unt then (bif !!leI 38400 (f (Int.toNat i)).unt then (K (AV.bool false))
 else (bif leI 0 (f (Int.toNat i)).kn then (bif !!leI 38400 (f (Int.toNat i)).kn then (K (AV.bool false))
 else (bif !leI (f (Int.toNat i)).fr (f (Int.toNat i)).unt then (K (AV.bool false))
 else (bif leI 0 (f (Int.toNat i)).tel then (bif !leI 6 (f (Int.toNat i)).tel then (bif !(eqI (f (Int.toNat i)).tel (f (Int.toNat i)).tel && (eqI 0 (f (Int.toNat i)).prg && (eqI 0 (f (Int.toNat i)).tile && true))) then (K (AV.bool false))
 else (L14q0 (envS no L 3) (pK K) 0 j (S14q0 [AV.arr 7 n (rowO f) none, AV.int IntKind.i64 ↑n, AV.int IntKind.i64 (wr IntKind.i64 (i + 1))] [])))
 else (K (AV.bool false)))
 else (K (AV.bool false)))))
 else (K (AV.bool false))))
 else (K (AV.bool false))))
 else (K (AV.bool false)))
 else (K (AV.bool false))))))
 else (none))
 else (K (AV.bool true)) := by kernel_rfl
end Go.Proofs.Ytkjegegjkeeemaa.Ev
