/- The reference: entries, rounds. -/
import Derived.Test.YtkjegegjkeeemaaXE
set_option linter.all false
namespace Go.Proofs.Ytkjegegjkeeemaa.Ev
open Go
set_option maxRecDepth 100000
theorem en11 {R : Type} (K : AV → Option R) (L : Nat) (n : Nat) (f : Nat → O) (m : Int) :
    callK (tabS s1) L 6 true (.fn 11 []) [.arr 7 n (rowO f) none, .int .i64 m] [] (fun v _ => K v) =
    bif allR isO (rowO f) n then (bif !yes (Valid n (rO (rowO f))) then (K (AV.tup [AV.nilSl none, AV.int IntKind.i64 1]))
 else (bif leI 0 m then (bif !leI m 38399 then (K (AV.tup [AV.nilSl none, AV.int IntKind.i64 1]))
 else (L11q0 (envS s1 L 5) (pK K) 0 L (S11q0 [AV.arr 7 n (rowO f) none, AV.int IntKind.i64 m, AV.nilSl none, AV.int IntKind.i64 0] [])))
 else (K (AV.tup [AV.nilSl none, AV.int IntKind.i64 1]))))
 else (none) := by kernel_rfl
theorem en13 {R : Type} (K : AV → Option R) (L : Nat) (n : Nat) (f : Nat → O) (m t : Int) :
    callK (tabS s1) L 6 true (.fn 13 []) [.arr 7 n (rowO f) none, .int .i64 t, .int .i64 m] [] (fun v _ => K v) =
    bif allR isO (rowO f) n then (bif !yes (Valid n (rO (rowO f))) then (K (AV.tup [AV.bool false, AV.int IntKind.i64 1]))
 else (bif leI 0 m then (bif !leI m 38399 then (K (AV.tup [AV.bool false, AV.int IntKind.i64 1]))
 else (bif leI 0 t then (bif !leI t 5 then (K (AV.tup [AV.bool false, AV.int IntKind.i64 1]))
 else (L13q0 (envS s1 L 5) (pK K) 0 L (S13q0 [AV.arr 7 n (rowO f) none, AV.int IntKind.i64 t, AV.int IntKind.i64 m, AV.int IntKind.i64 0] [])))
 else (K (AV.tup [AV.bool false, AV.int IntKind.i64 1]))))
 else (K (AV.tup [AV.bool false, AV.int IntKind.i64 1]))))
 else (none) := by kernel_rfl
theorem en18 {R : Type} (K : AV → Option R) (L : Nat) (n : Nat) (f : Nat → O) (m t p x : Int) :
    callK (tabS s1) L 6 true (.fn 18 []) [.arr 7 n (rowO f) none, .int .i64 t, .int .i64 p, .int .i64 x, .int .i64 m] [] (fun v _ => K v) =
    bif allR isO (rowO f) n then (bif !yes (Valid n (rO (rowO f))) then (K (AV.int IntKind.i64 1))
 else (bif leI 0 m then (bif !leI m 38399 then (K (AV.int IntKind.i64 1))
 else (bif leI 0 t then (bif !leI t 5 then (K (AV.int IntKind.i64 1))
 else (bif leI 0 p then (bif !leI p 63 then (K (AV.int IntKind.i64 1))
 else (bif leI 0 x then (bif !leI x 511 then (K (AV.int IntKind.i64 1))
 else (L18q0 (envS s1 L 5) (pK K) 0 L (S18q0 [AV.arr 7 n (rowO f) none, AV.int IntKind.i64 t, AV.int IntKind.i64 p, AV.int IntKind.i64 x, AV.int IntKind.i64 m, AV.int IntKind.i64 0] [])))
 else (K (AV.int IntKind.i64 1))))
 else (K (AV.int IntKind.i64 1))))
 else (K (AV.int IntKind.i64 1))))
 else (K (AV.int IntKind.i64 1))))
 else (none) := by kernel_rfl
theorem it13 {R : Type} (K : AV → Option R) (L : Nat) (n : Nat) (f : Nat → O) (m t i : Int) (j : Nat) :
    L13q0 (envS s1 L 5) (pK K) 0 (Nat.succ j) (S13q0 [.arr 7 n (rowO f) none, .int .i64 t, .int .i64 m, .int .i64 i] []) =
    bif !leI (↑n) i then (bif leI 0 i && !leI (↑n) i then (bif eqI (f (Int.toNat i)).kd 4 then (bif leI 0 i && !leI (↑n) i then (bif eqI (f (Int.toNat i)).tel t then (bif leI 0 i && !leI (↑n) i then (bif leI (f (Int.toNat i)).fr m then (bif leI (f (Int.toNat i)).kn m then (bif leI m (f (Int.toNat i)).unt then (K (AV.tup [AV.bool true, AV.int IntKind.i64 0]))
 else (L13q0 (envS s1 L 5) (pK K) 0 j (S13q0 [AV.arr 7 n (rowO f) none, AV.int IntKind.i64 t, AV.int IntKind.i64 m, AV.int IntKind.i64 (wr IntKind.i64 (i + 1))] [])))
 else (L13q0 (envS s1 L 5) (pK K) 0 j (S13q0 [AV.arr 7 n (rowO f) none, AV.int IntKind.i64 t, AV.int IntKind.i64 m, AV.int IntKind.i64 (wr IntKind.i64 (i + 1))] [])))
 else (L13q0 (envS s1 L 5) (pK K) 0 j (S13q0 [AV.arr 7 n (rowO f) none, AV.int IntKind.i64 t, AV.int IntKind.i64 m, AV.int IntKind.i64 (wr IntKind.i64 (i + 1))] [])))
 else (none))
 else (L13q0 (envS s1 L 5) (pK K) 0 j (S13q0 [AV.arr 7 n (rowO f) none, AV.int IntKind.i64 t, AV.int IntKind.i64 m, AV.int IntKind.i64 (wr IntKind.i64 (i + 1))] [])))
 else (none))
 else (L13q0 (envS s1 L 5) (pK K) 0 j (S13q0 [AV.arr 7 n (rowO f) none, AV.int IntKind.i64 t, AV.int IntKind.i64 m, AV.int IntKind.i64 (wr IntKind.i64 (i + 1))] [])))
 else (none))
 else (K (AV.tup [AV.bool false, AV.int IntKind.i64 0])) := by kernel_rfl
theorem it18 {R : Type} (K : AV → Option R) (L : Nat) (n : Nat) (f : Nat → O) (m t p x i : Int) (j : Nat) :
    L18q0 (envS s1 L 5) (pK K) 0 (Nat.succ j) (S18q0 [.arr 7 n (rowO f) none, .int .i64 t, .int .i64 p, .int .i64 x, .int .i64 m, .int .i64 i] []) =
    bif !leI (↑n) i then (bif leI 0 i && !leI (↑n) i then (bif leI (f (Int.toNat i)).fr m then (bif leI (f (Int.toNat i)).kn m then (bif !leI m (f (Int.toNat i)).unt then (L18q0 (envS s1 L 5) (pK K) 0 j (S18q0 [AV.arr 7 n (rowO f) none, AV.int IntKind.i64 t, AV.int IntKind.i64 p, AV.int IntKind.i64 x, AV.int IntKind.i64 m, AV.int IntKind.i64 (wr IntKind.i64 (i + 1))] []))
 else (bif eqI (f (Int.toNat i)).kd 1 then (bif eqI (f (Int.toNat i)).tel t then (K (AV.int IntKind.i64 18))
 else (bif eqI (f (Int.toNat i)).kd 2 then (bif eqI (f (Int.toNat i)).prg p then (K (AV.int IntKind.i64 22))
 else (bif eqI (f (Int.toNat i)).kd 3 then (bif eqI (f (Int.toNat i)).tile x then (K (AV.int IntKind.i64 22))
 else (L18q0 (envS s1 L 5) (pK K) 0 j (S18q0 [AV.arr 7 n (rowO f) none, AV.int IntKind.i64 t, AV.int IntKind.i64 p, AV.int IntKind.i64 x, AV.int IntKind.i64 m, AV.int IntKind.i64 (wr IntKind.i64 (i + 1))] [])))
 else (L18q0 (envS s1 L 5) (pK K) 0 j (S18q0 [AV.arr 7 n (rowO f) none, AV.int IntKind.i64 t, AV.int IntKind.i64 p, AV.int IntKind.i64 x, AV.int IntKind.i64 m, AV.int IntKind.i64 (wr IntKind.i64 (i + 1))] []))))
 else (bif eqI (f (Int.toNat i)).kd 3 then (bif eqI (f (Int.toNat i)).tile x then (K (AV.int IntKind.i64 22))
 else (L18q0 (envS s1 L 5) (pK K) 0 j (S18q0 [AV.arr 7 n (rowO f) none, AV.int IntKind.i64 t, AV.int IntKind.i64 p, AV.int IntKind.i64 x, AV.int IntKind.i64 m, AV.int IntKind.i64 (wr IntKind.i64 (i + 1))] [])))
 else (L18q0 (envS s1 L 5) (pK K) 0 j (S18q0 [AV.arr 7 n (rowO f) none, AV.int IntKind.i64 t, AV.int IntKind.i64 p, AV.int IntKind.i64 x, AV.int IntKind.i64 m, AV.int IntKind.i64 (wr IntKind.i64 (i + 1))] [])))))
 else (bif eqI (f (Int.toNat i)).kd 2 then (bif eqI (f (Int.toNat i)).prg p then (K (AV.int IntKind.i64 22))
 else (bif eqI (f (Int.toNat i)).kd 3 then (bif eqI (f (Int.toNat i)).tile x then (K (AV.int IntKind.i64 22))
 else (L18q0 (envS s1 L 5) (pK K) 0 j (S18q0 [AV.arr 7 n (rowO f) none, AV.int IntKind.i64 t, AV.int IntKind.i64 p, AV.int IntKind.i64 x, AV.int IntKind.i64 m, AV.int IntKind.i64 (wr IntKind.i64 (i + 1))] [])))
 else (L18q0 (envS s1 L 5) (pK K) 0 j (S18q0 [AV.arr 7 n (rowO f) none, AV.int IntKind.i64 t, AV.int IntKind.i64 p, AV.int IntKind.i64 x, AV.int IntKind.i64 m, AV.int IntKind.i64 (wr IntKind.i64 (i + 1))] []))))
 else (bif eqI (f (Int.toNat i)).kd 3 then (bif eqI (f (Int.toNat i)).tile x then (K (AV.int IntKind.i64 22))
 else (L18q0 (envS s1 L 5) (pK K) 0 j (S18q0 [AV.arr 7 n (rowO f) none, AV.int IntKind.i64 t, AV.int IntKind.i64 p, AV.int IntKind.i64 x, AV.int IntKind.i64 m, AV.int IntKind.i64 (wr IntKind.i64 (i + 1))] [])))
 else (L18q0 (envS s1 L 5) (pK K) 0 j (S18q0 [AV.arr 7 n (rowO f) none, AV.int IntKind.i64 t, AV.int IntKind.i64 p, AV.int IntKind.i64 x, AV.int IntKind.i64 m, AV.int IntKind.i64 (wr IntKind.i64 (i + 1))] []))))))
 else (L18q0 (envS s1 L 5) (pK K) 0 j (S18q0 [AV.arr 7 n (rowO f) none, AV.int IntKind.i64 t, AV.int IntKind.i64 p, AV.int IntKind.i64 x, AV.int IntKind.i64 m, AV.int IntKind.i64 (wr IntKind.i64 (i + 1))] [])))
 else (L18q0 (envS s1 L 5) (pK K) 0 j (S18q0 [AV.arr 7 n (rowO f) none, AV.int IntKind.i64 t, AV.int IntKind.i64 p, AV.int IntKind.i64 x, AV.int IntKind.i64 m, AV.int IntKind.i64 (wr IntKind.i64 (i + 1))] [])))
 else (none))
 else (K (AV.int IntKind.i64 0)) := by kernel_rfl
def M11 (c : Nat) (z : Int) : List AO := [AO.cells [.int .i64 z] 3, AO.tok 3 c]
noncomputable def s11 (n : Nat) (f : Nat → O) (m i : Int) (a : AV) (h : List AO) : St := S11q0 [.arr 7 n (rowO f) none, .int .i64 m, a, .int .i64 i] h
def inR {α : Type} (o : O) (m : Int) (a b : α) : α := bif leI o.fr m then (bif leI o.kn m then (bif leI m o.unt then a else b) else b) else b
theorem it11a {R : Type} (K : AV → Option R) (L : Nat) (n : Nat) (f : Nat → O) (m i : Int) (j : Nat) :
    L11q0 (envS s1 L 5) (pK K) 0 (Nat.succ j) (s11 n f m i (.nilSl none) []) =
    bif !leI n i then (bif leI 0 i && !leI n i then inR (f i.toNat) m (L11q0 (envS s1 L 5) (pK K) 0 j (s11 n f m (wr .i64 (i + 1)) (.arr 1 1 (joinG 0 (fun _ => .undef) 1 (one i)) (some 1)) (M11 1 i)))
      (L11q0 (envS s1 L 5) (pK K) 0 j (s11 n f m (wr .i64 (i + 1)) (.nilSl none) [])) else none) else K (.tup [.nilSl none, .int .i64 0]) := by kernel_rfl
theorem it11b {R : Type} (K : AV → Option R) (L n c : Nat) (f : Nat → O) (g : Nat → AV) (z m i : Int) (j : Nat) :
    L11q0 (envS s1 L 5) (pK K) 0 (Nat.succ j) (s11 n f m i (.arr 1 (Nat.succ c) g (some 1)) (M11 (Nat.succ c) z)) =
    bif !leI n i then (bif leI 0 i && !leI n i then inR (f i.toNat) m
      (bif Nat.beq 3 3 && Nat.beq (Nat.succ c) (Nat.succ c) && Nat.blt 0 (Nat.succ c) && capOk (Nat.succ c) 1 8 then L11q0 (envS s1 L 5) (pK K) 0 j (s11 n f m (wr .i64 (i + 1)) (.arr 1 (Nat.succ c + 1) (joinG (Nat.succ c) g 1 (one i)) (some 1)) (M11 (Nat.succ c + 1) z)) else none)
      (L11q0 (envS s1 L 5) (pK K) 0 j (s11 n f m (wr .i64 (i + 1)) (.arr 1 (Nat.succ c) g (some 1)) (M11 (Nat.succ c) z))) else none) else K (.tup [.arr 1 (Nat.succ c) g none, .int .i64 0]) := by kernel_rfl
end Go.Proofs.Ytkjegegjkeeemaa.Ev
