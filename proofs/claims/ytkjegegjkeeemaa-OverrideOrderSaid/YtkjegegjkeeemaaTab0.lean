/- The table of this seat's texts; its overrides. -/
import Derived.Test.YtkjegegjkeeemaaEvM
set_option linter.all false
namespace Go.Proofs.Ytkjegegjkeeemaa.Ev
open Go
abbrev Sums := FuncId → Option Summ
noncomputable def tabS (s : Sums) : Tab := { fn := fun i => (fns[i]?).join, sum := s, ty := fun i => tys.getD i (false, 1) }
noncomputable def envS (s : Sums) (L k : Nat) : Env := envK (tabS s) L (fun {R} => callK (tabS s) L k (R := R))
structure O where
  kd : Int
  tel : Int
  prg : Int
  tile : Int
  fr : Int
  unt : Int
  kn : Int
def O.av (o : O) : AV := .agg [.int .i64 o.kd, .int .i64 o.tel, .int .i64 o.prg, .int .i64 o.tile, .int .i64 o.fr, .int .i64 o.unt, .int .i64 o.kn]
def rowO (f : Nat → O) (i : Nat) : AV := (f i).av
def rowI (f : Nat → Int) (i : Nat) : AV := .int .i64 (f i)
def no : Sums := fun _ => none
/-- A pure call's end. -/
noncomputable def pK {R : Type} (K : AV → Option R) : AV → List AO → Option R := fun v h' => match purify (tabS no).ty h' 20 v with
  | some v => K v
  | none => none
end Go.Proofs.Ytkjegegjkeeemaa.Ev
