/- The laws with loops of their own: entries, rounds. -/
import Derived.Test.YtkjegegjkeeemaaPH2
import Derived.Test.YtkjegegjkeeemaaXJ
set_option linter.all false
namespace Go.Proofs.Ytkjegegjkeeemaa.Ev
open Go
set_option maxRecDepth 100000
section
variable {R : Type} (K : AV → Option R) (n : Nat) (f : Nat → O) (o : O) (t p x m k : Int)
/-! ### The second law -/
noncomputable def X4 (L n c : Nat) (f : Nat → O) (a : Nat → Int) (o : O) (m k i : Int) (j : Nat) : Option R :=
  L4q0 (envS s2 L 7) (pK K) 1 j (S4q0 [.arr 7 n (rowO f) none, .int .i64 m, .ptr 0 0, .bool true, .arr 1 c (rowI a) none, .int .i64 k, .int .i64 i] [.cells o.av.cells 35])
noncomputable def tail4 (c : Nat) (a : Nat → Int) (o : O) (m k : Int) (N : Nat) (g : Nat → O) : Option R :=
  bif eqI k c then (bif !eqI (errA N g m) 0 then K (.bool true) else (bif leI o.kn m then K (.bool true) else
    (bif allR isI (rowI a) c && allR isI (rowI (listI (actL N g m))) (actL N g m).length && Nat.ble c 1000 then K (.bool (yes (c = (actL N g m).length ∧ ∀ k, k < c → a k = listI (actL N g m) k))) else none))) else K (.bool false)
theorem en4 (L : Nat) : callK (tabS s2) L 8 true (.fn 4 []) [.arr 7 n (rowO f) none, o.av, .int .i64 m] [] (fun v _ => K v) =
    few n (K (.bool true)) (bif isV f n then (bif !eqI (errA n f m) 0 then (bif eqI ((actL n f m).length : Nat) 0 then (bif isV f n then (bif !yes (Valid n f) then K (.bool true) else (bif !leI 0 m then K (.bool true) else K (.bool (!leI m 38399)))) else none) else K (.bool false))
      else X4 K L n (actL n f m).length f (listI (actL n f m)) o m 0 0 L) else none) := by kernel_rfl
end
theorem it4 {R : Type} (K : AV → Option R) (L : Nat) (n c : Nat) (f : Nat → O) (a : Nat → Int) (o : O) (m k i : Int) (j : Nat) :
    X4 K L n c f a o m k i (Nat.succ j) =
    bif !leI (↑n) i then (bif leI 0 i && !leI (↑n) i then (bif !leI (f (Int.toNat i)).fr m then (X4 K L n c f a o m k (wr .i64 (i + 1)) j)
 else (bif leI 0 i && !leI (↑n) i then (bif !leI (f (Int.toNat i)).kn m then (X4 K L n c f a o m k (wr .i64 (i + 1)) j)
 else (bif leI 0 i && !leI (↑n) i then (bif !leI m (f (Int.toNat i)).unt then (X4 K L n c f a o m k (wr .i64 (i + 1)) j)
 else (bif leI (↑c) k then (K (AV.bool false))
 else (bif leI 0 k && !leI (↑c) k then (bif !eqI (a (Int.toNat k)) i then (K (AV.bool false))
 else (X4 K L n c f a o m (wr IntKind.i64 (k + 1)) (wr .i64 (i + 1)) j))
 else (none))))
 else (none)))
 else (none)))
 else (none))
 else (bif Nat.beq n 0 then (tail4 K c a o m k (0 + 1) (rO (pushG0 o)))
 else (bif capOk 0 n 56 then (bif Nat.beq 35 35 && Nat.beq (0 + n) (0 + n) && Nat.blt 0 (0 + n) && capOk (0 + n) 1 56 then (bif allR isO (pushG n f o) (0 + n + 1) then (tail4 K c a o m k (0 + n + 1) (rO (pushG n f o)))
 else (none))
 else (none))
 else (none))) := it4r K L n c f a o m k i j

section
variable {R : Type} (K : AV → Option R) (n : Nat) (f : Nat → O) (o : O) (t p x m k : Int)
/-! ### The third law -/
noncomputable def X5 (L n c : Nat) (f : Nat → O) (a : Nat → Int) (t p x g : Int) (st : Bool) (want : Int) (held : Bool) (i : Int) (j : Nat) : Option R :=
  L5q0 (envS s2 L 7) (pK K) 0 j (S5q0 [.arr 7 n (rowO f) none, .int .i64 t, .int .i64 p, .int .i64 x, .bool true, .arr 1 c (rowI a) none, .int .i64 g, .bool st, .int .i64 want, .bool held, .int .i64 i] [])
def excl2 {α : Type} (o : O) (t p x : Int) (A B : α) : α :=
  bif eqI o.kd 1 then (bif eqI o.tel t then A else (bif eqI o.kd 2 then (bif eqI o.prg p then A else (bif eqI o.kd 3 then (bif eqI o.tile x then A else B) else B)) else (bif eqI o.kd 3 then (bif eqI o.tile x then A else B) else B)))
  else (bif eqI o.kd 2 then (bif eqI o.prg p then A else (bif eqI o.kd 3 then (bif eqI o.tile x then A else B) else B)) else (bif eqI o.kd 3 then (bif eqI o.tile x then A else B) else B))
noncomputable def ex5 (L : Nat) : Option R := bif !eqI (errS n f t m) 0 then K (.bool (!stk n f t m)) else K (.bool (!false))
noncomputable def bad5 (L : Nat) : Option R := bif eqI (errA n f m) 0 then ex5 K n f t m L else (bif eqI (jdg n f t p x m) 1 then (bif eqI (errS n f t m) 1 then ex5 K n f t m L else K (.bool false)) else K (.bool false))
theorem en5 (L : Nat) : callK (tabS s2) L 8 true (.fn 5 []) [.arr 7 n (rowO f) none, .int .i64 t, .int .i64 p, .int .i64 x, .int .i64 m] [] (fun v _ => K v) =
    few n (K (.bool true)) (bif isV f n then (bif isV f n then (bif isV f n then (bif !eqI (errA n f m) 0 then bad5 K n f t p x m L else (bif eqI (jdg n f t p x m) 1 then bad5 K n f t p x m L else (bif !eqI (errS n f t m) 0 then bad5 K n f t p x m L else
      X5 K L n (actL n f m).length f (listI (actL n f m)) t p x (jdg n f t p x m) (stk n f t m) 0 false (wr .i64 ((actL n f m).length - 1)) L))) else none) else none) else none) := by kernel_rfl
noncomputable def nx5 (L n c : Nat) (f : Nat → O) (a : Nat → Int) (t p x g : Int) (st : Bool) (want : Int) (i : Int) (j : Nat) (o : O) (held : Bool) : Option R :=
  excl2 o t p x (bif eqI o.kd 1 then X5 K L n c f a t p x g st 18 held (wr .i64 (i - 1)) j else X5 K L n c f a t p x g st 22 held (wr .i64 (i - 1)) j) (X5 K L n c f a t p x g st want held (wr .i64 (i - 1)) j)
theorem it5 (L c : Nat) (a : Nat → Int) (g : Int) (st : Bool) (want : Int) (held : Bool) (i : Int) (j : Nat) : X5 K L n c f a t p x g st want held i (Nat.succ j) =
    bif leI 0 i then (bif leI 0 i && !leI c i then (bif !leI 0 (a i.toNat) then K (.bool false) else (bif leI 0 i && !leI c i then (bif leI n (a i.toNat) then K (.bool false) else (bif leI 0 i && !leI c i then (bif leI 0 (a i.toNat) && !leI n (a i.toNat) then
      (bif held then nx5 K L n c f a t p x g st want i j (f (a i.toNat).toNat) true else (bif eqI (f (a i.toNat).toNat).kd 4 then nx5 K L n c f a t p x g st want i j (f (a i.toNat).toNat) (eqI (f (a i.toNat).toNat).tel t) else nx5 K L n c f a t p x g st want i j (f (a i.toNat).toNat) false))
      else none) else none)) else none)) else none) else (bif eqI g want then K (.bool (st == held)) else K (.bool false)) := by kernel_rfl

/-! ### The fifth law -/
noncomputable def X7a (L n : Nat) (f : Nat → O) (t p x m k i : Int) (j : Nat) : Option R :=
  L7q0 (envS s2 L 7) (pK K) 0 j (S7q0 [.arr 7 n (rowO f) none, .int .i64 t, .int .i64 p, .int .i64 x, .int .i64 m, .int .i64 k, .bool true, .nilSl none, .int .i64 i] [])
noncomputable def X7b (L n : Nat) (f : Nat → O) (t p x m k i : Int) (c : Nat) (G : Nat → AV) (z : O) (j : Nat) : Option R :=
  L7q0 (envS s2 L 7) (pK K) 0 j (S7q0 [.arr 7 n (rowO f) none, .int .i64 t, .int .i64 p, .int .i64 x, .int .i64 m, .int .i64 k, .bool true, .arr 7 c G (some 1), .int .i64 i] [.cells z.av.cells 35, .tok 35 c])
noncomputable def tail7 (N : Nat) (G : Nat → AV) : Option R :=
  bif isV f n then (bif allR isO G N then (bif isV f n then (bif allR isO G N then (bif !(eqI (jdg n f t p x m) 0 == eqI (jdg N (rO G) t p x m) 0) then K (.bool false) else (bif !(eqI (jdg n f t p x m) 1 == eqI (jdg N (rO G) t p x m) 1) then K (.bool false) else
    (bif !(stk n f t m == stk N (rO G) t m) then K (.bool false) else (bif !eqI (errS n f t m) (errS N (rO G) t m) then K (.bool false) else (bif isV f n then (bif isV f n then (bif !eqI (errA n f m) 0 then K (.bool true) else (bif !eqI (errA n f k) 0 then K (.bool true) else
      (bif allR isI (rowI (listI (actL n f m))) (actL n f m).length && allR isI (rowI (listI (actL n f k))) (actL n f k).length && Nat.ble (actL n f m).length 1000 then
        (bif !yes ((actL n f m).length = (actL n f k).length ∧ ∀ q, q < (actL n f m).length → listI (actL n f m) q = listI (actL n f k) q) then K (.bool true) else
          (bif isV f n then (bif isV f n then (bif eqI (jdg n f t p x k) (jdg n f t p x m) then (bif stk n f t k == stk n f t m then K (.bool (eqI (errS n f t k) (errS n f t m))) else K (.bool false)) else K (.bool false)) else none) else none)) else none))) else none) else none)))) ) else none) else none) else none) else none
theorem en7 (L : Nat) : callK (tabS s2) L 8 true (.fn 7 []) [.arr 7 n (rowO f) none, .int .i64 t, .int .i64 p, .int .i64 x, .int .i64 m, .int .i64 k] [] (fun v _ => K v) =
    few n (K (.bool true)) (X7a K L n f t p x m k (wr .i64 (n - 1)) L) := by kernel_rfl
theorem it7a (L : Nat) (i : Int) (j : Nat) : X7a K L n f t p x m k i (Nat.succ j) =
    bif leI 0 i then (bif leI 0 i && !leI n i then X7b K L n f t p x m k (wr .i64 (i - 1)) 1 (joinG 0 (fun _ => .undef) 1 (oneG (f i.toNat))) (f i.toNat) j else none) else tail7 K n f t p x m k 0 (fun _ => .undef) := by kernel_rfl
theorem it7b (L : Nat) (i : Int) (c : Nat) (G : Nat → AV) (z : O) (j : Nat) : X7b K L n f t p x m k i (Nat.succ c) G z (Nat.succ j) =
    bif leI 0 i then (bif leI 0 i && !leI n i then (bif Nat.beq 35 35 && Nat.beq (Nat.succ c) (Nat.succ c) && Nat.blt 0 (Nat.succ c) && capOk (Nat.succ c) 1 56 then
      X7b K L n f t p x m k (wr .i64 (i - 1)) (Nat.succ c + 1) (joinG (Nat.succ c) G 1 (oneG (f i.toNat))) z j else none) else none) else tail7 K n f t p x m k (Nat.succ c) G := by kernel_rfl
end
end Go.Proofs.Ytkjegegjkeeemaa.Ev
