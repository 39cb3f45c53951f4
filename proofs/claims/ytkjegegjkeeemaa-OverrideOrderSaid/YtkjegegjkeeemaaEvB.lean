/- Is a text of the abstract machine's the very code of a function of the model's? A look, run once for each function. -/
import Derived.Test.YtkjegegjkeeemaaEvA
set_option linter.all false
namespace Go.Proofs.Ytkjegegjkeeemaa.Ev
open Go

def eqB (a b : Bool) : Bool := match a, b with
  | true, true | false, false => true
  | _, _ => false
def repC : Value → AV → Bool
  | .bool b, .bool c => eqB b c
  | .int k n, .int j m => decide (k = j) && decide (n = m)
  | .string s, .str u => decide (s = u)
  | .pointer none, .nilPtr => true
  | .slice none 0 0, .nilSl none => true
  | .map none, .nilMap => true
  | .nilFunc, .nilFn => true
  | .nilIface, .nilIf => true
  | _, _ => false
def repL : List Value → List AV → Bool
  | [], [] => true
  | v :: vs, a :: as => repC v a && repL vs as
  | _, _ => false
def repV : Value → AV → Bool
  | .agg cs, .agg as => repL cs.toList as
  | v, a => repC v a

def okT (N i : Nat) (p : Pth) : Bool := Nat.beq (slot p) i && Nat.blt i N
def okOpd (N : Nat) : Operand → Opd → Bool
  | .tmp i, .t p => okT N i p
  | .const v, .c a => repV v a
  | .func f, .f g => Nat.beq f g
  | _, _ => false
def okOpds (N : Nat) : List Operand → List Opd → Bool
  | [], [] => true
  | x :: xs, y :: ys => okOpd N x y && okOpds N xs ys
  | _, _ => false
/-- The parts of a literal: place, size, operand. -/
def okParts (N : Nat) (place : Nat → Option (Nat × Nat)) : List (Nat × Operand) → List (Nat × Nat × Opd) → Bool
  | [], [] => true
  | (i, x) :: xs, (off, size, y) :: ys => (match place i with | some (o, s) => Nat.beq o off && Nat.beq s size | none => false) && okOpd N x y && okParts N place xs ys
  | _, _ => false

def isAggT (P : Program) (t : TypeId) : Bool :=
  match P.underlying t with
  | some (.struct _) | some (.array _ _) => true
  | _ => false
def sizeIs (P : Program) (t : TypeId) (s : Nat) : Bool :=
  match P.info? t with
  | some i => Nat.beq i.size s
  | none => false
def zeroIs (P : Program) (t : TypeId) (z : AV) : Bool :=
  match P.info? t with
  | some i => match i.zero with
    | some v => repV v z
    | none => false
  | none => false
def zeroCellsAre (P : Program) (t : TypeId) (z : List AV) : Bool :=
  match P.info? t with
  | some i => match i.zero with
    | some v => repL v.cells.toList z
    | none => false
  | none => false
/-- A key that is compared on the spot. -/
def plainKey (P : Program) (t : TypeId) (str : Bool) : Bool :=
  match P.underlying t with
  | some (.int _) => !str
  | some .string => str
  | _ => false
/-- A struct of whole numbers and truth values alone. -/
def flatFields (P : Program) : List Field → List Bool → Nat → Bool
  | [], [], _ => true
  | f :: fs, k :: ks, i => Nat.beq f.offset i && (f.name != "_") && (match P.underlying f.type with | some (.int _) => !k | some .bool => k | _ => false) && flatFields P fs ks (i + 1)
  | _, _, _ => false
def flatStruct (P : Program) (t : TypeId) (ks : List Bool) : Bool :=
  match P.underlying t with
  | some (.struct fs) => !(P.stoodInHeld t) && !(P.eqGuardType P.depth t) && flatFields P fs.toList ks 0
  | _ => false
def isInt (P : Program) (t : TypeId) : Bool :=
  match P.underlying t with
  | some (.int _) => true
  | _ => false
def isBool (P : Program) (t : TypeId) : Bool :=
  match P.underlying t with
  | some .bool => true
  | _ => false
def places (P : Program) (fs : Array Field) (i : Nat) : Option (Nat × Nat) :=
  match fs[i]? with
  | some f => some (f.offset, P.cellsOf f.type)
  | none => none
def hasInfo (P : Program) (t : TypeId) : Bool := (P.info? t).isSome

def okOp (P : Program) (N : Nat) (op : Op) (m : MO) : Bool :=
  match m with
  | .mv y => match op with
    | .move x | .assign x => okOpd N x y
    | _ => false
  | .pick c a b => match op with
    | .pick c' a' b' => okOpd N c' c && okOpd N a' a && okOpd N b' b
    | _ => false
  | .alloc t z => match op with
    | .alloc t' => Nat.beq t' t && zeroCellsAre P t z
    | _ => false
  | .box t x => match op with
    | .box t' x' => Nat.beq t' t && okOpd N x' x
    | _ => false
  | .build z ps => match op with
    | .build t qs => zeroCellsAre P t z && (match P.underlying t with
      | some (.struct fs) => fs.toList.all (fun f => hasInfo P f.type) && okParts N (places P fs) qs.toList ps
      | some (.array _ e) => hasInfo P e && okParts N (fun i => some (i * P.cellsOf e, P.cellsOf e)) qs.toList ps
      | _ => false)
    | _ => false
  | .bslice e len z ps => match op with
    | .buildSlice t len' qs => Nat.beq len' len && (match P.underlying t with
      | some (.slice e') => Nat.beq e' e && (match P.info? e with
        | some i => Nat.ble (len * i.size) 16777216 && (match i.zero with
          | some v => (match Nat.beq (len * i.size) 0 with | true => z.isEmpty | false => repL ((Array.range (len * i.size)).map (v.cells[· % v.cells.size]!)).toList z)
          | none => false)
        | none => false) && okParts N (fun i => some (i * P.cellsOf e, P.cellsOf e)) qs.toList ps
      | _ => false)
    | _ => false
  | .ld agg s a => match op with
    | .load t a' => eqB (isAggT P t) agg && (P.underlying t).isSome && sizeIs P t s && okOpd N a' a
    | _ => false
  | .st s a x => match op with
    | .store t a' x' => sizeIs P t s && okOpd N a' a && okOpd N x' x
    | _ => false
  | .bin o x y => match op with
    | .binOp o' _ x' y' _ => decide (o' = o) && okOpd N x' x && okOpd N y' y
    | _ => false
  | .eqb neg x y => match op with
    | .binOp o' t x' y' _ => decide (o' = (match neg with | true => BinOp.neq | false => BinOp.eql)) && okOpd N x' x && okOpd N y' y && isBool P t
    | _ => false
  | .eqs neg ks x y => match op with
    | .binOp o' t x' y' _ => decide (o' = (match neg with | true => BinOp.neq | false => BinOp.eql)) && okOpd N x' x && okOpd N y' y && flatStruct P t ks
    | _ => false
  | .not x => match op with
    | .unOp .not _ x' => okOpd N x' x
    | _ => false
  | .neg x => match op with
    | .unOp .neg _ x' => okOpd N x' x
    | _ => false
  | .mkmap => match op with
    | .makeMap _ none => true
    | _ => false
  | .ins str m k v => match op with
    | .insert t m' k' v' => (match P.underlying t with | some (.map kt _) => plainKey P kt str | _ => false) && okOpd N m' m && okOpd N k' k && okOpd N v' v
    | _ => false
  | .look str z ok m k => match op with
    | .lookup t m' k' ok' => (match P.underlying t with | some (.map kt e) => plainKey P kt str && zeroIs P e z | _ => false) && eqB ok' ok && okOpd N m' m && okOpd N k' k
    | _ => false
  | .ext i x => match op with
    | .extract x' i' => Nat.beq i' i && okOpd N x' x
    | _ => false
  | .fld off x => match op with
    | .fieldAddr t x' f => (match P.underlying t with
      | some (.struct fs) => match fs[f]? with
        | some f => Nat.beq f.offset off && hasInfo P f.type && Nat.blt 0 (P.cellsOf f.type)
        | none => false
      | _ => false) && okOpd N x' x
    | _ => false
  | .idx s x i => match op with
    | .indexAddr t x' i' => (match P.underlying t with
      | some (.slice e) => sizeIs P e s
      | _ => false) && okOpd N x' x && okOpd N i' i
    | _ => false
  | .mkfn f cs => match op with
    | .makeFunc (.func f') first cs' => Nat.beq f' f && first.toList.isEmpty && okOpds N cs'.toList cs
    | _ => false
  | .len x => match op with
    | .call { callee := .builtin .len, args, argTypes } => (match args.toList, argTypes.toList with
      | [x'], [t] => okOpd N x' x && (match P.underlying t with | some (.slice _) => true | _ => false)
      | _, _ => false)
    | _ => false
  | .slen x => match op with
    | .call { callee := .builtin .len, args, argTypes } => (match args.toList, argTypes.toList with
      | [x'], [t] => okOpd N x' x && (match P.underlying t with | some .string => true | _ => false)
      | _, _ => false)
    | _ => false
  | .max x y => match op with
    | .call { callee := .builtin .max, args, argTypes := _ } => (match args.toList with
      | [x', y'] => okOpd N x' x && okOpd N y' y
      | _ => false)
    | _ => false
  | .app e agg s bytes x y => match op with
    | .call { callee := .builtin .append, args, argTypes } => (match args.toList, argTypes.toList with
      | [x', y'], [t, t'] => Nat.beq t' t && okOpd N x' x && okOpd N y' y && (match P.underlying t, P.underlying t' with
        | some (.slice e'), some (.slice _) => Nat.beq e' e && eqB (isAggT P e) agg && (match P.info? e with
          | some i => Nat.beq i.size s && Nat.beq i.bytes bytes && i.zero.isSome && Nat.blt 0 s && Nat.blt 0 bytes && (match i.zero with | some z => Nat.beq z.cells.size s | none => false)
          | none => false)
        | _, _ => false)
      | _, _ => false)
    | _ => false
  | .call f args => match op with
    | .call { callee := .value f', args := args', argTypes := _ } => okOpd N f' f && okOpds N args'.toList args
    | _ => false

def okDst (N : Nat) : Option Tmp → Option Pth → Bool
  | none, none => true
  | some i, some p => okT N i p
  | _, _ => false
def okGuard (N : Nat) (ops : Array Oper) : Option (Nat × Bool) → Option (Pth × Bool) → Bool
  | none, none => true
  | some (j, w), some (p, w') => eqB w w' && (match ops[j]? with
    | some o => match o.dst with
      | some i => okT N i p
      | none => false
    | none => false)
  | _, _ => false
def okOper (P : Program) (N : Nat) (ops : Array Oper) (o : Oper) (m : MOp) : Bool :=
  okDst N o.dst m.dst && okOp P N o.op m.op && okGuard N ops o.guard m.guard
def okOps (P : Program) (N : Nat) (ops : Array Oper) : List Oper → List MOp → Bool
  | [], [] => true
  | o :: os, m :: ms => okOper P N ops o m && okOps P N ops os ms
  | _, _ => false

/-! ### A region whose order is open -/
def MO.reads : MO → List Opd
  | .mv x | .box _ x | .ld _ _ x | .not x | .neg x | .ext _ x | .fld _ x | .len x | .slen x => [x]
  | .pick a b c | .ins _ a b c => [a, b, c]
  | .alloc .. | .mkmap => []
  | .build _ ps | .bslice _ _ _ ps => ps.map (·.2.2)
  | .st _ a b | .bin _ a b | .eqb _ a b | .eqs _ _ a b | .look _ _ _ a b | .idx _ a b | .max a b | .app _ _ _ _ a b => [a, b]
  | .mkfn _ cs => cs
  | .call f as => f :: as
def opdIs (p : Pth) : Opd → Bool
  | .t q => decide (p = q)
  | _ => false
def MOp.sees (p : Pth) (o : MOp) : Bool := o.op.reads.any (opdIs p) || (match o.guard with | some (q, _) => decide (p = q) | none => false)
/-- What kinds of block an operation looks at, and writes: cells, maps, tokens. -/
def MO.looks : MO → Bool × Bool × Bool
  | .ld .. | .st .. => (true, false, false)
  | .look .. | .ins .. => (false, true, false)
  | .app .. => (true, false, true)
  | _ => (false, false, false)
def MO.writes : MO → Bool × Bool × Bool
  | .st .. => (true, false, false)
  | .ins .. => (false, true, false)
  | .app .. => (false, false, true)
  | _ => (false, false, false)
def meets (a b : Bool × Bool × Bool) : Bool := (a.1 && b.1) || (a.2.1 && b.2.1) || (a.2.2 && b.2.2)
def apartD (a b : Option Pth) : Bool :=
  match a, b with
  | some p, some q => !(decide (p = q))
  | _, _ => true
def seesD (d : Option Pth) (o : MOp) : Bool :=
  match d with
  | some p => o.sees p
  | none => false
/-- Two operations of which neither need come first. -/
def swap (a b : MOp) : Bool :=
  apartD a.dst b.dst && !(seesD a.dst b) && !(seesD b.dst a) && !(meets a.op.writes b.op.looks) && !(meets b.op.writes a.op.looks)
def okPre (ops : Array Oper) (pres : List (List Nat)) (o : Oper) (pre : List Nat) : Bool :=
  pre.all fun j => o.after.toList.any fun e => Region.binds .any e && (Nat.beq e.on j || memN j (pres.getD e.on []))
def okSwaps (os : List DOp) : Bool :=
  os.all fun b => os.all fun a => !(Nat.blt a.no b.no) || memN a.no b.pre || swap a.op b.op
def okDraw (P : Program) (N : Nat) (ops : Array Oper) (pres : List (List Nat)) : List Oper → List DOp → Nat → Bool
  | [], [], _ => true
  | o :: os, m :: ms, i => okOper P N ops o m.op && Nat.beq m.no i && okPre ops pres o m.pre && m.pre.all (fun j => Nat.blt j i) && o.after.toList.all (fun e => !(Region.binds .any e) || Nat.blt e.on i) && okDraw P N ops pres os ms (i + 1)
  | _, _, _ => false

def okCode (P : Program) (N : Nat) : MC → Code → Bool
  | .skip, c => match c with | .skip => true | _ => false
  | .region ms, c => match c with
    | .region _ ops false => okOps P N ops ops.toList ms
    | _ => false
  | .draw ds, c => match c with
    | .region _ ops true => okDraw P N ops (ds.map (·.pre)) ops.toList ds 0 && okSwaps ds
    | _ => false
  | .seq a b, c => match c with
    | .seq a' b' => okCode P N a a' && okCode P N b b'
    | _ => false
  | .cond x a b, c => match c with
    | .cond x' a' b' => okOpd N x' x && okCode P N a a' && okCode P N b b'
    | _ => false
  | .block i a, c => match c with
    | .block i' a' => Nat.beq i' i && okCode P N a a'
    | _ => false
  | .loop _ _ a, c => match c with
    | .loop a' => okCode P N a a'
    | _ => false
  | .rangeF f _ _ lv ps a b, c => match c with
    | .rangeFunc f' ps' a' b' => okOpd N f' f && okPs ps'.toList ps && okCode P N a a' && okCode P N b b' && lv.all (fun p => Nat.blt (slot p) N)
    | _ => false
  | .exit i, c => match c with
    | .exit i' => Nat.beq i' i
    | _ => false
  | .ret, c => match c with | .ret => true | _ => false
where okPs : List Tmp → List Pth → Bool
  | [], [] => true
  | i :: is, p :: ps => okT N i p && okPs is ps
  | _, _ => false

def okParams (N : Nat) : List Pth → Nat → Bool
  | [], _ => true
  | p :: ps, i => okT N i p && okParams N ps (i + 1)
def okResults (P : Program) (N : Nat) : List ResultVar → List (Pth × Option (Bool × Nat)) → Bool
  | [], [] => true
  | .tmp t :: rs, (p, none) :: qs => okT N t p && okResults P N rs qs
  | .cell a t :: rs, (p, some (agg, s)) :: qs => okT N a p && eqB (isAggT P t) agg && (P.underlying t).isSome && sizeIs P t s && okResults P N rs qs
  | _, _ => false
def okFn (P : Program) (f : FuncId) (m : MFn) : Bool :=
  match P.funcs[f]? with
  | some fn => match fn.body with
    | some c => okCode P fn.ntmps m.body c && okParams fn.ntmps m.params 0 && okResults P fn.ntmps fn.results.toList m.results && Nat.beq m.params.length (fn.params.size + fn.nfree) && fn.name != "runtime.NumGoroutine"
    | none => false
  | none => false
end Go.Proofs.Ytkjegegjkeeemaa.Ev
