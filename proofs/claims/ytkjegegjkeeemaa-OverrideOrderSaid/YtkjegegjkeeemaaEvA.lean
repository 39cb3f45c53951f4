/- An abstract machine for Go code: values without addresses where they lie still, named blocks where they are written; the definitions alone. -/
import Derived.Calls
import Derived.CallsIn
set_option linter.all false
namespace Go.Proofs.Ytkjegegjkeeemaa.Ev
open Go

/-! ### Values -/
inductive AV where
  | undef
  | bool (b : Bool)
  | int (k : IntKind) (n : Int)
  | str (s : ByteArray)
  | nilPtr
  | ptr (n o : Nat)
  | pptr (cs : List AV) (o : Nat)
  | nilSl (tok : Option Nat)
  | arr (s n : Nat) (get : Nat → AV) (tok : Option Nat)
  | slc (n o len cap : Nat)
  | nilMap
  | map (n : Nat)
  | pmap (ks vs : List AV)
  | nilFn
  | fn (f : FuncId) (caps : List AV)
  | yld (l : Nat)
  | nilIf
  | ifc (t : TypeId) (v : AV)
  | agg (cs : List AV)
  | tup (vs : List AV)
  deriving Inhabited

def AV.cells : AV → List AV
  | .agg cs => cs
  | v => [v]

/-! ### The temporaries: a tree -/
abbrev Pth := List Bool
inductive Tr where
  | nil
  | node (v : AV) (l r : Tr)
def Tr.root (t : Tr) : AV := t.casesOn .undef fun v _ _ => v
def Tr.left (t : Tr) : Tr := t.casesOn .nil fun _ l _ => l
def Tr.right (t : Tr) : Tr := t.casesOn .nil fun _ _ r => r
def Tr.kid (t : Tr) (b : Bool) : Tr := b.casesOn t.left t.right
def Tr.mkRoot (t : Tr) (x : AV) : Tr := t.casesOn .nil fun _ l r => .node x l r
def Tr.mkLeft (t : Tr) (x : Tr) : Tr := t.casesOn .nil fun v _ r => .node v x r
def Tr.mkRight (t : Tr) (x : Tr) : Tr := t.casesOn .nil fun v l _ => .node v l x
noncomputable def Tr.get (t : Tr) (p : Pth) : AV := List.rec (motive := fun _ => Tr → AV) Tr.root (fun b _ ih t => ih (t.kid b)) p t
noncomputable def Tr.set (t : Tr) (p : Pth) (x : AV) : Tr :=
  List.rec (motive := fun _ => Tr → Tr) (fun t => t.mkRoot x) (fun b _ ih t => b.casesOn (t.mkLeft (ih t.left)) (t.mkRight (ih t.right))) p t
def Tr.full (v : AV) : Nat → Tr
  | 0 => .nil
  | d + 1 => .node v (Tr.full v d) (Tr.full v d)
/-- The slot's number of a path. -/
def slot : Pth → Nat
  | [] => 0
  | false :: p => 2 * slot p + 1
  | true :: p => 2 * slot p + 2

/-! ### The code, its types looked up -/
inductive Opd where
  | t (p : Pth)
  | c (v : AV)
  | f (id : FuncId)

inductive MO where
  | mv (x : Opd)
  | pick (c a b : Opd)
  | alloc (t : TypeId) (z : List AV)
  | box (t : TypeId) (x : Opd)
  | build (z : List AV) (ps : List (Nat × Nat × Opd))
  | bslice (e : TypeId) (len : Nat) (z : List AV) (ps : List (Nat × Nat × Opd))
  | ld (agg : Bool) (s : Nat) (a : Opd)
  | st (s : Nat) (a x : Opd)
  | bin (op : BinOp) (x y : Opd)
  | eqb (neg : Bool) (x y : Opd)
  | eqs (neg : Bool) (ks : List Bool) (x y : Opd)
  | not (x : Opd)
  | neg (x : Opd)
  | mkmap
  | ins (str : Bool) (m k v : Opd)
  | look (str : Bool) (z : AV) (ok : Bool) (m k : Opd)
  | ext (i : Nat) (x : Opd)
  | fld (off : Nat) (x : Opd)
  | idx (s : Nat) (x i : Opd)
  | mkfn (f : FuncId) (caps : List Opd)
  | len (x : Opd)
  | slen (x : Opd)
  | max (x y : Opd)
  | app (e : TypeId) (agg : Bool) (s bytes : Nat) (x y : Opd)
  | call (f : Opd) (args : List Opd)

structure MOp where
  dst : Option Pth
  op : MO
  guard : Option (Pth × Bool)

structure DOp where
  no : Nat
  pre : List Nat
  op : MOp

inductive MC where
  | skip
  | region (ops : List MOp)
  | draw (ops : List DOp)
  | seq (a b : MC)
  | cond (c : Opd) (a b : MC)
  | block (id : Nat) (a : MC)
  | loop (depth : Nat) (lives : List Pth) (a : MC)
  | rangeF (f : Opd) (dp : Nat) (out : List Pth) (lv : List Pth) (ps : List Pth) (asg body : MC)
  | exit (id : Nat)
  | ret

structure MFn where
  depth : Nat
  params : List Pth
  results : List (Pth × Option (Bool × Nat))
  body : MC

/-! ### Memory -/
inductive AD where
  | coll (r : Nat)
inductive LS where | ready | busy | done | over
inductive AJ where | none | ret | exit (id : Nat)
inductive AO where
  | free
  | cells (cs : List AV) (t : TypeId)
  | tok (e : TypeId) (len : Nat)
  | map (ks vs : List AV)
  | loop (st : LS) (pend : AJ) (dp : Nat) (lv : List Pth) (vs : List AV) (ps : List Pth) (asg body : MC)
  | dfr (taken : Bool)
inductive AE where
  | norm | ret | exit (id : Nat)
structure St where
  t : Tr
  d : List AD
  h : List AO

/-! ### Plain functions -/
def leI : Int → Int → Bool
  | .ofNat m, .ofNat n => Nat.ble m n
  | .negSucc m, .negSucc n => Nat.ble n m
  | .negSucc _, .ofNat _ => true
  | .ofNat _, .negSucc _ => false
def eqI : Int → Int → Bool
  | .ofNat m, .ofNat n => Nat.beq m n
  | .negSucc m, .negSucc n => Nat.beq n m
  | _, _ => false
def maxI : Int := 9223372036854775807
def minI : Int := -9223372036854775808
def wr (k : IntKind) (n : Int) : Int :=
  match k with
  | .i64 => bif leI minI n && leI n maxI then n else IntKind.wrap .i64 n
  | k => k.wrap n

noncomputable def opnd (t : Tr) : Opd → AV
  | .t p => t.get p
  | .c v => v
  | .f id => .fn id []

def allB {α : Type} (f : α → Bool) : List α → Bool
  | [] => true
  | v :: vs => match f v with
    | true => allB f vs
    | false => false
def loadFrom (agg : Bool) (s : Nat) (cs : List AV) (o : Nat) : Option AV :=
  match agg with
  | true => match Nat.ble (o + s) cs.length with
    | true => some (.agg ((cs.drop o).take s))
    | false => none
  | false => cs[o]?

def splice : List AV → Nat → List AV → List AV
  | cs, _, [] => cs
  | cs, o, v :: vs => splice (cs.set o v) (o + 1) vs

def load (agg : Bool) (s : Nat) (h : List AO) : AV → Option AV
  | .ptr n o => match h[n]? with
    | some (.cells cs _) => loadFrom agg s cs o
    | _ => none
  | .pptr cs o => loadFrom agg s cs o
  | _ => none

def isScalar : AV → Bool
  | .undef | .agg _ | .tup _ => false
  | _ => true

def store (s : Nat) (h : List AO) (a v : AV) : Option (List AO) :=
  match a with
  | .ptr n o => match h[n]? with
    | some (.cells cs ty) => match Nat.beq v.cells.length s && Nat.ble (o + s) cs.length && v.cells.all isScalar with
      | true => some (h.set n (.cells (splice cs o v.cells) ty))
      | false => none
    | _ => none
  | _ => none

noncomputable def fillA (t : Tr) : List AV → List (Nat × Nat × Opd) → Option (List AV)
  | cs, [] => some cs
  | cs, (off, size, x) :: rest => match Nat.beq (opnd t x).cells.length size && Nat.ble (off + size) cs.length && (opnd t x).cells.all isScalar with
    | true => fillA t (splice cs off (opnd t x).cells) rest
    | false => none

def arith (op : BinOp) (k : IntKind) (a b : Int) : Option AV :=
  match op with
  | .add => some (.int k (wr k (a + b)))
  | .sub => some (.int k (wr k (a - b)))
  | .mul => some (.int k (wr k (a * b)))
  | .eql => some (.bool (eqI a b))
  | .neq => some (.bool (!(eqI a b)))
  | .lss => some (.bool (!(leI b a)))
  | .leq => some (.bool (leI a b))
  | .gtr => some (.bool (!(leI a b)))
  | .geq => some (.bool (leI b a))
  | _ => none

/-- '==' on cells of whole numbers and truth values; a kind for each: is it a truth value? -/
def eqCells : List Bool → List AV → List AV → Option Bool
  | [], [], [] => some true
  | false :: ks, .int j a :: xs, .int k b :: ys => match decide (j = k), eqCells ks xs ys with | true, some r => some (eqI a b && r) | _, _ => none
  | true :: ks, .bool a :: xs, .bool b :: ys => match eqCells ks xs ys with | some r => some ((a == b) && r) | none => none
  | _, _, _ => none

def binA (op : BinOp) (x y : AV) : Option AV :=
  match x, y with
  | .int k a, .int k' b => match decide (k = k') with
    | true => arith op k a b
    | false => none
  | _, _ => none

def chunks (agg : Bool) (s : Nat) (cs : List AV) : Nat → List AV
  | 0 => []
  | n + 1 => (match agg with | true => .agg (cs.take s) | false => cs.headD .undef) :: chunks agg s (cs.drop s) n

def elemAt (agg : Bool) (s : Nat) (cs : List AV) (i : Nat) : AV :=
  match agg with
  | true => .agg ((cs.drop (i * s)).take s)
  | false => cs.getD i .undef

def mapO {α β : Type} (f : α → Option β) : List α → Option (List β)
  | [] => some []
  | v :: vs => match f v, mapO f vs with
    | some v, some vs => some (v :: vs)
    | _, _ => none

def purSlc (agg : TypeId → Bool × Nat) (h : List AO) (ih : AV → Option AV) (m o n cap : Nat) : Option AV :=
  match h[m]? with
  | some (.cells cs t) => match mapO ih cs with
    | some cs => match Nat.ble (o + n * (agg t).2) cs.length && Nat.ble n cap && ((agg t).1 || Nat.beq (agg t).2 1) && allB isScalar cs with
      | true => some (.arr (agg t).2 n (elemAt (agg t).1 (agg t).2 (cs.drop o)) none)
      | false => none
    | none => none
  | _ => none
def purPtr (h : List AO) (ih : AV → Option AV) (m o : Nat) : Option AV :=
  match h[m]? with
  | some (.cells cs _) => match mapO ih cs with
    | some cs => some (.pptr cs o)
    | none => none
  | _ => none
def purMap (h : List AO) (ih : AV → Option AV) (m : Nat) : Option AV :=
  match h[m]? with
  | some (.map ks vs) => match mapO ih ks, mapO ih vs with
    | some ks, some vs => some (.pmap ks vs)
    | _, _ => none
  | _ => none
def purStep (agg : TypeId → Bool × Nat) (h : List AO) (ih : AV → Option AV) (v : AV) : Option AV :=
  match v with
  | .slc m o n cap => purSlc agg h ih m o n cap
  | .ptr m o => purPtr h ih m o
  | .map m => purMap h ih m
  | .arr s n g _ => some (.arr s n g none)
  | .nilSl _ => some (.nilSl none)
  | .fn f cs => match mapO ih cs with | some cs => some (.fn f cs) | none => none
  | .agg cs => match mapO ih cs with | some cs => some (.agg cs) | none => none
  | .tup cs => match mapO ih cs with | some cs => some (.tup cs) | none => none
  | .ifc t v => match ih v with | some v => some (.ifc t v) | none => none
  | .undef | .yld _ => none
  | v => some v
/-- A value as it lies still: what it names is read out, its tokens are struck. -/
noncomputable def purify (agg : TypeId → Bool × Nat) (h : List AO) (k : Nat) : AV → Option AV :=
  Nat.rec (motive := fun _ => AV → Option AV) (fun _ => none) (fun _ ih v => purStep agg h ih v) k
/-- A value that holds no name, its tokens struck. -/
noncomputable def strip (v : AV) : Option AV := purify (fun _ => (false, 1)) [] 8 v

def plainStep (ih : AV → Bool) (v : AV) : Bool :=
  match v with
  | .bool _ | .int .. | .str _ | .nilPtr | .nilSl none | .nilMap | .nilFn | .nilIf => true
  | .agg cs => allB ih cs
  | .tup cs => allB ih cs
  | .ifc _ v => ih v
  | _ => false
/-- A value that names no memory at all. -/
noncomputable def plainV (v : AV) : Bool := Nat.rec (motive := fun _ => AV → Bool) (fun _ => false) (fun _ ih v => plainStep ih v) 6 v

def lowStep (n : Nat) (ih : AV → Bool) (v : AV) : Bool :=
  match v with
  | .ptr m _ | .slc m .. | .map m | .yld m => Nat.blt m n
  | .nilSl (some m) => Nat.blt m n
  | .arr _ _ _ (some m) => Nat.blt m n
  | .fn _ cs => allB ih cs
  | .ifc _ v => ih v
  | .agg cs => allB ih cs
  | .tup cs => allB ih cs
  | _ => true
/-- No name from n on (an arr and what lies still hold none). -/
noncomputable def lowV (n : Nat) (v : AV) : Bool := Nat.rec (motive := fun _ => AV → Bool) (fun _ => false) (fun _ ih v => lowStep n ih v) 8 v
def isFree : AO → Bool
  | .free => true
  | _ => false
noncomputable def lowO (n : Nat) : AO → Bool
  | .cells cs _ => allB (lowV n) cs
  | .map ks vs => allB (lowV n) ks && allB (lowV n) vs
  | .loop _ _ _ _ vs _ _ _ => allB (lowV n) vs
  | _ => true

noncomputable def sets : Tr → List Pth → List AV → Tr
  | t, p :: ps, v :: vs => sets (t.set p v) ps vs
  | t, _, _ => t
def gets (get : Pth → AV) : List Pth → List AV
  | [] => []
  | p :: ps => get p :: gets get ps
/-- At a loop's head: what no round reads is forgotten; what a round has laid is let go, where nothing names it. -/
def lowD (n : Nat) : AD → Bool
  | .coll r => Nat.blt r n
noncomputable def cleanAt (d : Nat) (ps : List Pth) (b : Nat) (st : St) (next : St) : St :=
  match allB (lowV b) (gets st.t.get ps) && allB (lowD b) st.d && allB (lowO b) (st.h.take b) with
  | true => ⟨sets (Tr.full .undef d) ps (gets st.t.get ps), st.d, st.h.take b⟩
  | false => next
noncomputable def cleanFrom (d : Nat) (ps : List Pth) (st : St) (k : Nat) : Nat → St :=
  Nat.rec (motive := fun _ => Nat → St) (fun _ => ⟨sets (Tr.full .undef d) ps (gets st.t.get ps), st.d, st.h⟩) (fun _ ih b => cleanAt d ps b st (ih (b + 1))) k
noncomputable def clean (d : Nat) (ps : List Pth) (h0 : Nat) (st : St) : St := cleanFrom d ps st (st.h.length - h0) h0
noncomputable def putT (t : Tr) : Option Pth → AV → Tr
  | some p, v => t.set p v
  | none, _ => t

/-! ### The machine, in the style of continuations: a result is 'some', or nothing is said -/
structure Summ where
  run : {R : Type} → Nat → List AV → (AV → Option R) → Option R
structure Tab where
  fn : FuncId → Option MFn
  sum : FuncId → Option Summ
  /-- of a type: is it a struct or an array; its cells -/
  ty : TypeId → Bool × Nat
structure Env where
  T : Tab
  round : Option Nat
  fuel : Nat
  /-- a call; the first: it must be a pure one -/
  call : {R : Type} → Bool → AV → List AV → List AO → (AV → List AO → Option R) → Option R

section
variable {R : Type}

/-- The entry of a key: a fork for each entry. -/
def findKey (str : Bool) (key : AV) (K : Option AV → Option R) : List AV → List AV → Option R
  | k :: ks, v :: vs => match str, key, k with
    | false, .int j a, .int k b => match decide (j = k) with
      | true => bif eqI a b then K (some v) else findKey str key K ks vs
      | false => none
    | true, .str a, .str b => bif a == b then K (some v) else findKey str key K ks vs
    | _, _, _ => none
  | [], [] => match str, key with
    | false, .int .. => K none
    | true, .str _ => K none
    | _, _ => none
  | _, _ => none

def tokOf : AV → Option Nat
  | .nilSl t => t
  | .arr _ _ _ t => t
  | .slc m _ _ _ => some m
  | _ => none
def joinG (n : Nat) (g : Nat → AV) (k : Nat) (gy : Nat → AV) (i : Nat) : AV :=
  bif Nat.beq k 1 then (bif Nat.beq i n then gy 0 else g i) else (bif Nat.blt i n then g i else gy (i - n))
def capOk (n k bytes : Nat) : Bool := Nat.ble ((n + k) * bytes) 140737488355328
/-- 'append' of k > 0 elements. -/
noncomputable def appendK (e : TypeId) (agg : Bool) (s bytes : Nat) (h : List AO) (x : AV) (k : Nat) (gy : Nat → AV) (lay : AO → Nat × List AO) (K : AV → List AO → Option R) : Option R :=
  match x with
  | .nilSl none => bif capOk 0 k bytes then (match lay (.tok e k) with
    | (m, h') => K (.arr s k (joinG 0 (fun _ => .undef) k gy) (some m)) h') else none
  | .nilSl (some t) => match h[t]? with
    | some (.tok e' 0) => match Nat.beq e' e with
      | true => bif capOk 0 k bytes then K (.arr s k (joinG 0 (fun _ => .undef) k gy) (some t)) (h.set t (.tok e k)) else none
      | false => none
    | _ => none
  | .arr s' n get (some t) => match Nat.beq s' s with
    | true => match h[t]? with
      | some (.tok e' m) => bif Nat.beq e' e && Nat.beq m n && Nat.blt 0 n && capOk n k bytes then
          K (.arr s (n + k) (joinG n get k gy) (some t)) (h.set t (.tok e (n + k))) else none
      | _ => none
    | false => none
  | .slc m o n cap => match h[m]? with
    | some (.cells cs _) => match mapO strip (chunks agg s (cs.drop o) n) with
      | some vs => match Nat.ble (o + n * s) cs.length && Nat.beq cap n && allB (fun v => Nat.beq v.cells.length s && allB isScalar v.cells && (agg || isScalar v)) vs with
        | true => bif capOk n k bytes then (match lay (.tok e (n + k)) with
          | (m, h') => K (.arr s (n + k) (joinG n (fun i => vs.getD i .undef) k gy) (some m)) h') else none
        | false => none
      | none => none
    | _ => none
  | _ => none
/-- What 'append' appends: how many elements, and each. -/
noncomputable def appArg (agg : Bool) (s : Nat) (ok : Nat → Bool) (h : List AO) (y : AV) : Option (Nat × (Nat → AV)) :=
  match y with
  | .nilSl _ => some (0, fun _ => .undef)
  | .arr s' n get _ => match Nat.beq s' s with
    | true => some (n, get)
    | false => none
  | .slc m o n _ => match ok m with
    | true => match h[m]? with
      | some (.cells cs _) => match mapO strip (chunks agg s (cs.drop o) n) with
        | some vs => match Nat.ble (o + n * s) cs.length && allB (fun v => Nat.beq v.cells.length s && allB isScalar v.cells && (agg || isScalar v)) vs with
          | true => some (n, fun i => vs.getD i .undef)
          | false => none
        | none => none
      | _ => none
    | false => none
  | _ => none

noncomputable def ev_mv (t : Tr) (h : List AO) (K : AV → List AO → Option R) (x : Opd) : Option R := K (opnd t x) h
noncomputable def ev_pick (t : Tr) (h : List AO) (K : AV → List AO → Option R) (c a b : Opd) : Option R := match opnd t c with
    | .bool c => bif c then K (opnd t a) h else K (opnd t b) h
    | _ => none
noncomputable def ev_alloc (h : List AO) (lay : AO → Nat × List AO) (K : AV → List AO → Option R) (ty : TypeId) (z : List AV) : Option R := match lay (.cells z ty) with
    | (m, h) => K (.ptr m 0) h
noncomputable def ev_box (t : Tr) (h : List AO) (lay : AO → Nat × List AO) (K : AV → List AO → Option R) (ty : TypeId) (x : Opd) : Option R := match (opnd t x).cells.all isScalar with
    | true => match lay (.cells (opnd t x).cells ty) with
      | (m, h) => K (.ptr m 0) h
    | false => none
noncomputable def ev_build (t : Tr) (h : List AO) (K : AV → List AO → Option R) (z : List AV) (ps : List (Nat × Nat × Opd)) : Option R := match fillA t z ps with
    | some cs => K (.agg cs) h
    | none => none
noncomputable def ev_bslice (t : Tr) (h : List AO) (lay : AO → Nat × List AO) (K : AV → List AO → Option R) (e : TypeId) (len : Nat) (z : List AV) (ps : List (Nat × Nat × Opd)) : Option R := match fillA t z ps with
    | some cs => match lay (.cells cs e) with
      | (m, h) => K (.slc m 0 len len) h
    | none => none
noncomputable def ev_ld (ok : Nat → Bool) (t : Tr) (h : List AO) (K : AV → List AO → Option R) (agg : Bool) (s : Nat) (a : Opd) : Option R := match (match opnd t a with | .ptr n _ => ok n | _ => true) with
    | true => match load agg s h (opnd t a) with
      | some v => K v h
      | none => none
    | false => none
noncomputable def ev_st (ok : Nat → Bool) (t : Tr) (h : List AO) (K : AV → List AO → Option R) (s : Nat) (a v : Opd) : Option R := match (match opnd t a with | .ptr n _ => ok n | _ => true) with
    | true => match store s h (opnd t a) (opnd t v) with
      | some h => K (.tup []) h
      | none => none
    | false => none
noncomputable def ev_bin (t : Tr) (h : List AO) (K : AV → List AO → Option R) (op : BinOp) (x y : Opd) : Option R := match binA op (opnd t x) (opnd t y) with
    | some v => K v h
    | none => none
noncomputable def ev_eqb (t : Tr) (h : List AO) (K : AV → List AO → Option R) (neg : Bool) (x y : Opd) : Option R :=
  match opnd t x, opnd t y with
  | .bool a, .bool b => match neg with
    | false => K (.bool (a == b)) h
    | true => K (.bool (!(a == b))) h
  | _, _ => none
noncomputable def ev_eqs (t : Tr) (h : List AO) (K : AV → List AO → Option R) (neg : Bool) (ks : List Bool) (x y : Opd) : Option R :=
  match opnd t x, opnd t y with
  | .agg xs, .agg ys => match eqCells ks xs ys with
    | some b => match neg with
      | false => K (.bool b) h
      | true => K (.bool (!b)) h
    | none => none
  | _, _ => none
noncomputable def ev_not (t : Tr) (h : List AO) (K : AV → List AO → Option R) (x : Opd) : Option R := match opnd t x with
    | .bool b => K (.bool (!b)) h
    | _ => none
noncomputable def ev_neg (t : Tr) (h : List AO) (K : AV → List AO → Option R) (x : Opd) : Option R := match opnd t x with
    | .int k n => K (.int k (wr k (0 - n))) h
    | _ => none
noncomputable def ev_mkmap (h : List AO) (lay : AO → Nat × List AO) (K : AV → List AO → Option R)  : Option R := match lay (.map [] []) with
    | (m, h) => K (.map m) h
noncomputable def ev_ins (ok : Nat → Bool) (t : Tr) (h : List AO) (K : AV → List AO → Option R) (str : Bool) (m k v : Opd) : Option R := match opnd t m with
    | .map n => match ok n with
      | true => match h[n]? with
        | some (.map ks vs) => match isScalar (opnd t k) with
          | true => findKey str (opnd t k) (fun
            | none => K (.tup []) (h.set n (.map (ks ++ [opnd t k]) (vs ++ [opnd t v])))
            | some _ => none) ks vs
          | false => none
        | _ => none
      | false => none
    | _ => none
noncomputable def ev_look (ok : Nat → Bool) (t : Tr) (h : List AO) (K : AV → List AO → Option R) (str : Bool) (z : AV) (ok' : Bool) (m k : Opd) : Option R := match (match opnd t m with
      | .map n => match ok n with
        | true => match h[n]? with | some (.map ks vs) => some (ks, vs) | _ => none
        | false => none
      | .pmap ks vs => some (ks, vs)
      | .nilMap => some ([], [])
      | _ => none) with
    | some (ks, vs) => findKey str (opnd t k) (fun
        | some v => K (bif ok' then .tup [v, .bool true] else v) h
        | none => K (bif ok' then .tup [z, .bool false] else z) h) ks vs
    | none => none
noncomputable def ev_ext (t : Tr) (h : List AO) (K : AV → List AO → Option R) (i : Nat) (x : Opd) : Option R := match opnd t x with
    | .tup vs => match vs[i]? with
      | some v => K v h
      | none => none
    | _ => none
noncomputable def ev_fld (t : Tr) (h : List AO) (K : AV → List AO → Option R) (off : Nat) (x : Opd) : Option R := match opnd t x with
    | .ptr n o => K (.ptr n (o + off)) h
    | .pptr cs o => K (.pptr cs (o + off)) h
    | _ => none
noncomputable def ev_idx (t : Tr) (h : List AO) (K : AV → List AO → Option R) (s : Nat) (x i : Opd) : Option R := match opnd t i with
    | .int _ i => match opnd t x with
      | .arr s' n get _ => match Nat.beq s' s with
        | true => bif leI 0 i && !(leI (n : Int) i) then (match allB isScalar (get i.toNat).cells with
          | true => K (.pptr (get i.toNat).cells 0) h
          | false => none) else none
        | false => none
      | .slc m o n _ => bif leI 0 i && !(leI (n : Int) i) then K (.ptr m (o + i.toNat * s)) h else none
      | _ => none
    | _ => none
noncomputable def ev_mkfn (t : Tr) (h : List AO) (K : AV → List AO → Option R) (f : FuncId) (caps : List Opd) : Option R := K (.fn f (caps.map (opnd t))) h
noncomputable def ev_len (t : Tr) (h : List AO) (K : AV → List AO → Option R) (x : Opd) : Option R :=
  match opnd t x with
  | .arr _ n _ _ => K (.int .i64 (n : Int)) h
  | .slc _ _ n _ => K (.int .i64 (n : Int)) h
  | .nilSl _ => K (.int .i64 0) h
  | _ => none
noncomputable def ev_slen (t : Tr) (h : List AO) (K : AV → List AO → Option R) (x : Opd) : Option R :=
  match opnd t x with
  | .str s => K (.int .i64 (s.size : Int)) h
  | _ => none
noncomputable def ev_max (t : Tr) (h : List AO) (K : AV → List AO → Option R) (x y : Opd) : Option R := match opnd t x, opnd t y with
    | .int k a, .int _ b => K (.int k (bif leI b a then a else b)) h
    | _, _ => none
noncomputable def ev_app (ok : Nat → Bool) (t : Tr) (h : List AO) (lay : AO → Nat × List AO) (K : AV → List AO → Option R) (e : TypeId) (agg : Bool) (s bytes : Nat) (x y : Opd) : Option R :=
  match (match tokOf (opnd t x) with | some n => ok n | none => true) with
  | true => match appArg agg s ok h (opnd t y) with
    | some (k, gy) => bif Nat.beq k 0 then (match opnd t x with
      | .nilSl _ => K (opnd t x) h
      | .arr .. => K (opnd t x) h
      | .slc _ _ n cap => (match Nat.ble n cap with | true => K (opnd t x) h | false => none)
      | _ => none) else appendK e agg s bytes h (opnd t x) k gy lay K
    | none => none
  | false => none
noncomputable def ev_call (E : Env) (pure : Bool) (t : Tr) (h : List AO) (K : AV → List AO → Option R) (f : Opd) (args : List Opd) : Option R := E.call pure (opnd t f) (args.map (opnd t)) h K
/-- One operation. lay: how a new block is laid; ok: whether a block may be looked at. -/
noncomputable def evalMO (E : Env) (pure : Bool) (ok : Nat → Bool) (o : MO) (t : Tr) (h : List AO) (lay : AO → Nat × List AO) (K : AV → List AO → Option R) : Option R :=
  match o with
  | .mv x => ev_mv t h K x
  | .pick c a b => ev_pick t h K c a b
  | .alloc ty z => ev_alloc h lay K ty z
  | .box ty x => ev_box t h lay K ty x
  | .build z ps => ev_build t h K z ps
  | .bslice e len z ps => ev_bslice t h lay K e len z ps
  | .ld agg s a => ev_ld ok t h K agg s a
  | .st s a v => ev_st ok t h K s a v
  | .bin op x y => ev_bin t h K op x y
  | .eqb neg x y => ev_eqb t h K neg x y
  | .eqs neg n x y => ev_eqs t h K neg n x y
  | .not x => ev_not t h K x
  | .neg x => ev_neg t h K x
  | .mkmap  => ev_mkmap h lay K 
  | .ins sk m k v => ev_ins ok t h K sk m k v
  | .look sk z ok' m k => ev_look ok t h K sk z ok' m k
  | .ext i x => ev_ext t h K i x
  | .fld off x => ev_fld t h K off x
  | .idx s x i => ev_idx t h K s x i
  | .mkfn f caps => ev_mkfn t h K f caps
  | .len x => ev_len t h K x
  | .slen x => ev_slen t h K x
  | .max x y => ev_max t h K x y
  | .app e agg s bytes x y => ev_app ok t h lay K e agg s bytes x y
  | .call f args => ev_call E pure t h K f args

def layEnd (h : List AO) (o : AO) : Nat × List AO := (h.length, h ++ [o])

noncomputable def evalDo (E : Env) (pure : Bool) (ok : Nat → Bool) (lay : AO → Nat × List AO) (o : MOp) (K : St → Option R) (st : St) (t : Tr) : Option R :=
  evalMO E pure ok o.op t st.h lay fun v h => K ⟨putT t o.dst v, st.d, h⟩
noncomputable def skipOp (o : MOp) (K : St → Option R) (st : St) (t : Tr) : Option R := K ⟨putT t o.dst (.tup []), st.d, st.h⟩
/-- One operation with its guard: what it skips bears no value. -/
noncomputable def evalStep (E : Env) (pure : Bool) (ok : Nat → Bool) (lay : AO → Nat × List AO) (o : MOp) (K : St → Option R) (st : St) : Option R :=
  match o.guard with
  | none => evalDo E pure ok lay o K st st.t
  | some (g, want) => match st.t.get g with
    | .bool b => match want with
      | true => bif b then evalDo E pure ok lay o K st (st.t.set g (.bool true)) else skipOp o K st (st.t.set g (.bool false))
      | false => bif b then skipOp o K st (st.t.set g (.bool true)) else evalDo E pure ok lay o K st (st.t.set g (.bool false))
    | .tup [] => skipOp o K st st.t
    | _ => none

/-- The operations of a region, in the text's order. -/
noncomputable def evalOps (E : Env) (K : AE → St → Option R) (os : List MOp) : St → Option R :=
  List.rec (motive := fun _ => St → Option R) (fun st => K .norm st) (fun o _ ih st => evalStep E false (fun _ => true) (layEnd st.h) o ih st) os

def memN (n : Nat) : List Nat → Bool
  | [] => false
  | m :: ms => Nat.beq n m || memN n ms
/-- A region whose order is open: each operation has a name of its own for what it lays; it looks at no block of an operation that need not come ahead of it; its calls are pure. -/
noncomputable def evalDraw (E : Env) (base : Nat) (K : AE → St → Option R) (os : List DOp) : St → Option R :=
  List.rec (motive := fun _ => St → Option R) (fun st => K .norm st) (fun o _ ih st => evalStep E true (fun m => Nat.blt m base || memN (m - base) o.pre) (fun x => (base + o.no, st.h.set (base + o.no) x)) o.op ih st) os

noncomputable def kSeq (y : St → Option R) (K : AE → St → Option R) : AE → St → Option R
  | .norm, st => y st
  | e, st => K e st
noncomputable def kBlock (id : Nat) (K : AE → St → Option R) : AE → St → Option R
  | .exit i, st => match Nat.beq i id with
    | true => K .norm st
    | false => K (.exit i) st
  | e, st => K e st
noncomputable def kLoop (dp : Nat) (ks : List Pth) (h0 : Nat) (next : St → Option R) (K : AE → St → Option R) : AE → St → Option R
  | .norm, st => next (clean dp ks h0 st)
  | e, st => K e st

noncomputable def loopN (dp : Nat) (ks : List Pth) (h0 : Nat) (body : (AE → St → Option R) → St → Option R) (K : AE → St → Option R) (j : Nat) : St → Option R :=
  Nat.rec (motive := fun _ => St → Option R) (fun _ => none) (fun _ ih st => body (kLoop dp ks h0 ih K) st) j

def jumpOf : AE → AJ
  | .norm => .none
  | .ret => .ret
  | .exit id => .exit id
def exitOf : AJ → AE
  | .none => .norm
  | .ret => .ret
  | .exit id => .exit id

noncomputable def evCond (c : Opd) (x y : (AE → St → Option R) → St → Option R) (K : AE → St → Option R) (st : St) : Option R :=
  match c with
  | .t p => match st.t.get p with
    | .bool v => bif v then x K ⟨st.t.set p (.bool true), st.d, st.h⟩ else y K ⟨st.t.set p (.bool false), st.d, st.h⟩
    | _ => none
  | _ => none
def kRange (E0 : St) (K : AE → St → Option R) (h : List AO) : Option R :=
  match h[E0.h.length + 1]? with
  | some (.loop .busy ..) => none
  | some (.loop _ pend dp lv vs ps asg bd) => K (exitOf pend) ⟨E0.t, .coll E0.h.length :: E0.d, h.set (E0.h.length + 1) (.loop .over pend dp lv vs ps asg bd)⟩
  | _ => none
noncomputable def evRange (E : Env) (f : Opd) (dp : Nat) (out lv ps : List Pth) (asg body : MC) (K : AE → St → Option R) (st : St) : Option R :=
  match E.round with
  | some _ => none
  | none => match opnd st.t f with
    | .fn g cs => E.call false (.fn g cs) [.yld (st.h.length + 1)] (st.h ++ [.dfr false] ++ [.loop .ready .none dp lv (gets st.t.get lv) ps asg body]) fun _ h => kRange ⟨sets (Tr.full .undef dp) out (gets st.t.get out), st.d, st.h⟩ K h
    | _ => none
noncomputable def evalCode (E : Env) (c : MC) : (AE → St → Option R) → St → Option R :=
  MC.rec (motive := fun _ => (AE → St → Option R) → St → Option R)
    (fun K st => K .norm st)
    (fun ops K st => evalOps E K ops st)
    (fun ops K st => evalDraw E st.h.length K ops ⟨st.t, st.d, st.h ++ List.replicate ops.length .free⟩)
    (fun _ _ x y K st => x (kSeq (y K) K) st)
    (fun c _ _ x y K st => evCond c x y K st)
    (fun id _ x K st => x (kBlock id K) st)
    (fun dp ks _ x K st => loopN dp ks st.h.length x K E.fuel (clean dp ks st.h.length st))
    (fun f dp out lv ps asg body _ _ K st => evRange E f dp out lv ps asg body K st)
    (fun id K st => K (.exit id) st)
    (fun K st => K .ret st)
    c

noncomputable def results (st : St) : List (Pth × Option (Bool × Nat)) → Option (List AV)
  | [] => some []
  | (p, none) :: rs => match results st rs with
    | some vs => some (st.t.get p :: vs)
    | none => none
  | (p, some (agg, s)) :: rs => match load agg s st.h (st.t.get p), results st rs with
    | some v, some vs => some (v :: vs)
    | _, _ => none

noncomputable def kRes (K : AV → List AO → Option R) (h : List AO) : Option (List AV) → Option R
  | some [v] => K v h
  | some vs => K (.tup vs) h
  | none => none

noncomputable def kEnd (rs : List (Pth × Option (Bool × Nat))) (K : AV → List AO → Option R) (e : AE) (st : St) : Option R :=
  match e with
  | .exit _ => none
  | _ => match st.d with
    | [] => kRes K st.h (results st rs)
    | [.coll r] => match st.h[r]? with
      | some (.dfr false) => kRes K (st.h.set r (.dfr true)) (results ⟨st.t, [], st.h.set r (.dfr true)⟩ rs)
      | _ => none
    | _ => none

noncomputable def evalFn (E : Env) (f : FuncId) (args : List AV) (h : List AO) (K : AV → List AO → Option R) : Option R :=
  match E.T.fn f with
  | none => none
  | some m => match Nat.beq m.params.length args.length with
    | true => evalCode { E with round := none } m.body (kEnd m.results K) ⟨sets (Tr.full (.tup []) m.depth) m.params args, [], h⟩
    | false => none

noncomputable def callFn (E : Env) (pure : Bool) (g : FuncId) (args : List AV) (h : List AO) (K : AV → List AO → Option R) : Option R :=
  match mapO strip args with
  | some as => match E.T.sum g with
    | some s => s.run E.fuel as fun v => K v h
    | none => evalFn E g as [] fun v h' => match purify E.T.ty h' 20 v with
      | some v => K v h
      | none => none
  | none => match pure with
    | true => none
    | false => match E.T.sum g with
      | some s => match mapO (purify E.T.ty h 20) args with
        | some as => s.run E.fuel as fun v => match plainV v with | true => K v h | false => none
        | none => evalFn E g args h K
      | none => evalFn E g args h K
noncomputable def kRound (l : Nat) (K : AV → List AO → Option R) (e : AE) (st2 : St) : Option R :=
  match st2.d with
  | [] => match st2.h[l]? with
    | some (.loop _ _ dp lv vs ps asg bd) => match e with
      | .norm => K (.bool true) (st2.h.set l (.loop .ready .none dp lv vs ps asg bd))
      | e => K (.bool false) (st2.h.set l (.loop .done (jumpOf e) dp lv vs ps asg bd))
    | _ => none
  | _ => none
noncomputable def kAsg (E : Env) (l : Nat) (bd : MC) (K : AV → List AO → Option R) (e : AE) (st1 : St) : Option R :=
  match e with
  | .norm => match st1.h[l]? with
    | some (.loop .ready pend dp lv vs ps asg bd') => evalCode E bd (kRound l K) ⟨st1.t, st1.d, st1.h.set l (.loop .busy pend dp lv vs ps asg bd')⟩
    | _ => none
  | _ => none
noncomputable def callYld (E : Env) (l : Nat) (args : List AV) (h : List AO) (K : AV → List AO → Option R) : Option R :=
  match h[l]? with
  | some (.loop .ready _ dp lv vs ps asg bd) => match Nat.beq ps.length args.length with
    | true => evalCode { E with round := some l } asg (kAsg { E with round := some l } l bd K) ⟨sets (sets (Tr.full .undef dp) lv vs) ps args, [], h⟩
    | false => none
  | _ => none
noncomputable def callV (E : Env) (pure : Bool) (f : AV) (args : List AV) (h : List AO) (K : AV → List AO → Option R) : Option R :=
  match f with
  | .fn g caps => callFn E pure g (args ++ caps) h K
  | .yld l => match pure with
    | true => none
    | false => callYld E l args h K
  | _ => none
end
/-- What comes behind a part of a text. -/
noncomputable def kThen {R : Type} (E : Env) (c : MC) (K : AE → St → Option R) : AE → St → Option R := kSeq (evalCode E c K) K
/-- L: rounds of a loop; k: how deep the calls go. -/
noncomputable def envK (T : Tab) (L : Nat) (call : {R : Type} → Bool → AV → List AV → List AO → (AV → List AO → Option R) → Option R) : Env := { T, round := none, fuel := L, call := fun {R} => call (R := R) }
noncomputable def callK (T : Tab) (L k : Nat) : {R : Type} → Bool → AV → List AV → List AO → (AV → List AO → Option R) → Option R :=
  Nat.rec (motive := fun _ => {R : Type} → Bool → AV → List AV → List AO → (AV → List AO → Option R) → Option R) (fun _ _ _ _ _ => none)
    (fun _ ih {_} pure f args h K => callV (envK T L (fun {R} => ih (R := R))) pure f args h K) k

noncomputable def run (T : Tab) (L k : Nat) (f : FuncId) (args : List AV) : Option AV :=
  callK T L k true (.fn f []) args [] fun v _ => some v
end Go.Proofs.Ytkjegegjkeeemaa.Ev
