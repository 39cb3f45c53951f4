/- Stuck and Judge: what comes behind their rounds. -/
import Derived.Test.YtkjegegjkeeemaaXD
set_option linter.all false
namespace Go.Proofs.Ytkjegegjkeeemaa.Ev
open Go
noncomputable def k12 {R : Type} (L : Nat) (t : Int) (K : AV → Option R) : AV → List AO → Option R :=
  KR12q0 (envS s1 L 5) (pK K) [.ptr 1 0, .ptr 2 0] [] [AO.cells [.int .i64 t] 3, AO.cells [.bool false] 4, AO.cells [.int .i64 0] 26]
def H12 (t : Int) : List AO := [AO.cells [AV.int IntKind.i64 t] 3, AO.cells [AV.bool false] 4, AO.cells [AV.int IntKind.i64 0] 26, AO.dfr false, AO.loop LS.ready AJ.none 6 [[true, false], [true, true], [false, false, false]] [AV.ptr 0 0, AV.ptr 1 0, AV.ptr 2 0] [[true, true, false, true], [false, false, true, true]] m12qa0 m12qy0]
noncomputable def k17 {R : Type} (L : Nat) (t p x : Int) (K : AV → Option R) : AV → List AO → Option R :=
  KR17q0 (envS s1 L 5) (pK K) [.ptr 0 0] [] [AO.cells [.int .i64 0] 26, AO.cells [.int .i64 t, .int .i64 p, .int .i64 x] 56]
def H17 (t p x : Int) : List AO := [AO.cells [AV.int IntKind.i64 0] 26, AO.cells [AV.int IntKind.i64 t, AV.int IntKind.i64 p, AV.int IntKind.i64 x] 56, AO.dfr false, AO.loop LS.ready AJ.none 6 [[true, true, false], [false, false, true]] [AV.ptr 0 0, AV.ptr 1 0] [[false, false, true, false, false], [true, false, true, false, false]] m17qa0 m17qy0]
end Go.Proofs.Ytkjegegjkeeemaa.Ev
