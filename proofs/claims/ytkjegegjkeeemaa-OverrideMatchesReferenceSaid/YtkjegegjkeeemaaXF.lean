/- Stuck and Judge: entries, rounds. -/
import Derived.Test.YtkjegegjkeeemaaXE
set_option linter.all false
namespace Go.Proofs.Ytkjegegjkeeemaa.Ev
open Go
set_option maxRecDepth 100000
theorem en12 {R : Type} (K : AV → Option R) (L : Nat) (n : Nat) (f : Nat → O) (m t : Int) :
    callK (tabS s1) L 6 true (.fn 12 []) [.arr 7 n (rowO f) none, .int .i64 t, .int .i64 m] [] (fun v _ => K v) =
    bif allR isO (rowO f) n then (bif !yes (Valid n (rO (rowO f))) then (K (AV.tup [AV.bool false, AV.int IntKind.i64 1]))
     else (bif leI 0 m then (bif !!leI 38400 m then (K (AV.tup [AV.bool false, AV.int IntKind.i64 1]))
     else (bif leI 0 t then (bif !!leI 6 t then (K (AV.tup [AV.bool false, AV.int IntKind.i64 1]))
     else L30q0 (envS s1 L 4) (k12 L t K) 5 L (s30 m 0 n f 4 (H12 t)))
     else (K (AV.tup [AV.bool false, AV.int IntKind.i64 1]))))
     else (K (AV.tup [AV.bool false, AV.int IntKind.i64 1]))))
     else (none) := by kernel_rfl
theorem en17 {R : Type} (K : AV → Option R) (L : Nat) (n : Nat) (f : Nat → O) (m t p x : Int) :
    callK (tabS s1) L 6 true (.fn 17 []) [.arr 7 n (rowO f) none, .int .i64 t, .int .i64 p, .int .i64 x, .int .i64 m] [] (fun v _ => K v) =
    bif allR isO (rowO f) n then (bif !yes (Valid n (rO (rowO f))) then (K (AV.int IntKind.i64 1))
     else (bif leI 0 m then (bif !!leI 38400 m then (K (AV.int IntKind.i64 1))
     else (bif leI 0 t then (bif !leI 6 t then (bif leI 0 p then (bif !leI 64 p then (bif leI 0 x then (bif !!leI 512 x then (K (AV.int IntKind.i64 1))
     else L30q0 (envS s1 L 4) (k17 L t p x K) 4 L (s30 m 0 n f 3 (H17 t p x)))
     else (K (AV.int IntKind.i64 1)))
     else (K (AV.int IntKind.i64 1)))
     else (K (AV.int IntKind.i64 1)))
     else (K (AV.int IntKind.i64 1)))
     else (K (AV.int IntKind.i64 1))))
     else (K (AV.int IntKind.i64 1))))
     else (none) := by kernel_rfl
theorem it12 {R : Type} (K : AV → Option R) (L : Nat) (n : Nat) (f : Nat → O) (m t i : Int) (j : Nat) :
    L30q0 (envS s1 L 4) (k12 L t K) 5 (Nat.succ j) (s30 m i n f 4 (H12 t)) =
    bif !leI (↑n) i then (bif leI 0 i && !leI (↑n) i then (bif leI (bif leI (f (Int.toNat i)).kn (f (Int.toNat i)).fr then (f (Int.toNat i)).fr else (f (Int.toNat i)).kn) m then (bif leI m (f (Int.toNat i)).unt then (bif eqI (f (Int.toNat i)).kd 4 then (bif eqI (f (Int.toNat i)).tel t then (K (AV.tup [AV.bool true, AV.int IntKind.i64 0]))
 else (L30q0 (envS s1 L 4) (k12 L t K) 5 j (s30 m (wr IntKind.i64 (i + 1)) n f 4 (H12 t))))
 else (L30q0 (envS s1 L 4) (k12 L t K) 5 j (s30 m (wr IntKind.i64 (i + 1)) n f 4 (H12 t))))
 else (L30q0 (envS s1 L 4) (k12 L t K) 5 j (s30 m (wr IntKind.i64 (i + 1)) n f 4 (H12 t))))
 else (L30q0 (envS s1 L 4) (k12 L t K) 5 j (s30 m (wr IntKind.i64 (i + 1)) n f 4 (H12 t))))
 else (none))
 else (K (AV.tup [AV.bool false, AV.int IntKind.i64 0])) := by kernel_rfl
theorem it17 {R : Type} (K : AV → Option R) (L : Nat) (n : Nat) (f : Nat → O) (m t p x i : Int) (j : Nat) :
    L30q0 (envS s1 L 4) (k17 L t p x K) 4 (Nat.succ j) (s30 m i n f 3 (H17 t p x)) =
    bif !leI (↑n) i then (bif leI 0 i && !leI (↑n) i then (bif leI (bif leI (f (Int.toNat i)).kn (f (Int.toNat i)).fr then (f (Int.toNat i)).fr else (f (Int.toNat i)).kn) m then (bif leI m (f (Int.toNat i)).unt then (bif eqI (f (Int.toNat i)).kd 1 then (bif eqI (f (Int.toNat i)).tel t then (K (AV.int IntKind.i64 18))
 else (L30q0 (envS s1 L 4) (k17 L t p x K) 4 j (s30 m (wr IntKind.i64 (i + 1)) n f 3 (H17 t p x))))
 else (bif eqI (f (Int.toNat i)).kd 2 then (bif eqI (f (Int.toNat i)).prg p then (K (AV.int IntKind.i64 22))
 else (L30q0 (envS s1 L 4) (k17 L t p x K) 4 j (s30 m (wr IntKind.i64 (i + 1)) n f 3 (H17 t p x))))
 else (bif eqI (f (Int.toNat i)).kd 3 then (bif eqI (f (Int.toNat i)).tile x then (K (AV.int IntKind.i64 22))
 else (L30q0 (envS s1 L 4) (k17 L t p x K) 4 j (s30 m (wr IntKind.i64 (i + 1)) n f 3 (H17 t p x))))
 else (bif eqI (f (Int.toNat i)).kd 4 then (L30q0 (envS s1 L 4) (k17 L t p x K) 4 j (s30 m (wr IntKind.i64 (i + 1)) n f 3 (H17 t p x)))
 else (none)))))
 else (L30q0 (envS s1 L 4) (k17 L t p x K) 4 j (s30 m (wr IntKind.i64 (i + 1)) n f 3 (H17 t p x))))
 else (L30q0 (envS s1 L 4) (k17 L t p x K) 4 j (s30 m (wr IntKind.i64 (i + 1)) n f 3 (H17 t p x))))
 else (none))
 else (K (AV.int IntKind.i64 0)) := by kernel_rfl
end Go.Proofs.Ytkjegegjkeeemaa.Ev
