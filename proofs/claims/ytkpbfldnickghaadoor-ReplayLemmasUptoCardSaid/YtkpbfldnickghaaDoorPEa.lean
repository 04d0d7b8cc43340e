/- A pure evaluator over the program's code: abstract values (immutable slices by value, an abstract heap for what a call makes), operations, code, calls; and the limit over rounds, under which each function and each loop has its unfolding equation. -/
import GoSem.Dispatch
namespace Go.PE

/-- Abstract values. -/
inductive PV where
  | top
  | int (k : IntKind) (n : Int)
  | bool (b : Bool)
  | str (s : List UInt8)
  | nils
  | sl (st : Nat) (full : Bool) (rows : List (List PV))
  | own (id st n : Nat)
  | ptr (id off : Nat)
  | cref (cells : List PV)
  | nilp
  | fn (f : Nat) (caps : List PV)
  | nilf
  | mp (id : Nat)
  | nilm
  | iface (t : Nat) (v : PV)
  | nili
  | agg (cells : List PV)
  | tup (vs : List PV)
  deriving Inhabited

mutual
/-- No part of it names the abstract heap. -/
def PV.pure : PV → Bool
  | .top => false
  | .int _ _ | .bool _ | .str _ | .nils | .nilp | .nilf | .nilm | .nili => true
  | .sl _ _ rows => pureLL rows
  | .own _ _ _ | .ptr _ _ | .mp _ => false
  | .cref cells => pureL cells
  | .fn _ caps => pureL caps
  | .iface _ v => v.pure
  | .agg cells => pureL cells
  | .tup vs => pureL vs
def pureL : List PV → Bool
  | [] => true
  | v :: r => v.pure && pureL r
def pureLL : List (List PV) → Bool
  | [] => true
  | l :: r => pureL l && pureLL r
end

/-- The value of one cell. -/
def PV.scalar : PV → Bool
  | .top | .agg _ | .tup _ => false
  | _ => true

/-- The cells of a value. -/
def PV.cells? : PV → Option (List PV)
  | .agg cs => some cs
  | .top | .tup _ => none
  | v => some [v]

/-- Abstract objects. -/
inductive Obj where
  | box (cells : List PV)
  | log (ty st : Nat) (rows : List (List PV))
  | map (es : List (PV × PV))
  deriving Inhabited

abbrev Heap := List Obj
abbrev Env := List PV

def chunks (st : Nat) : Nat → List PV → List (List PV)
  | 0, _ => []
  | n + 1, cs => cs.take st :: chunks st n (cs.drop st)

/-- A slice of a log becomes a slice by value. -/
def coe1 (σ : Heap) : PV → PV
  | .own id st n => match σ[id]? with
    | some (.log _ st' rows) => if rows.length = n ∧ st' = st then .sl st false rows else .own id st n
    | _ => .own id st n
  | v => v
def coeV (σ : Heap) : PV → PV
  | .agg cs => .agg (cs.map (coe1 σ))
  | .tup cs => .tup (cs.map (coe1 σ))
  | v => coe1 σ v

/-- A slice as it is kept in rows and handed to calls: nil or not, its capacity forgotten. -/
def canon1 : Option Nat → PV → PV
  | some st, .nils => .sl st false []
  | some st, .sl st' full rows => if st' = st ∨ rows.isEmpty = true then .sl st false rows else .sl st' full rows
  | _, v => v
def canonL : List (Option Nat) → List PV → List PV
  | s :: ss, v :: vs => canon1 s v :: canonL ss vs
  | _, vs => vs
def canonV (sh : List (Option Nat)) : PV → PV
  | .agg cs => .agg (canonL sh cs)
  | v => match sh with
    | [s] => canon1 s v
    | _ => v

/-- What a call hands back when its own heap goes: rows that it made are frozen. -/
def fin1 (σ : Heap) : PV → PV
  | .own id st n => match σ[id]? with
    | some (.log _ st' rows) => if rows.length = n ∧ st' = st then .sl st false rows else .own id st n
    | some (.box cells) => if cells.length = n * st then .sl st true (chunks st n cells) else .own id st n
    | _ => .own id st n
  | v => v
def finV (σ : Heap) : PV → PV
  | .agg cs => .agg (cs.map (fin1 σ))
  | .tup cs => .tup (cs.map (fin1 σ))
  | v => fin1 σ v

/-- The classes of types that '==' tells apart. -/
inductive TyK where
  | int | bool | str | slice | ptr | func | map | iface | other
  deriving DecidableEq, Inhabited

inductive Opd where
  | tmp (t : Nat)
  | cst (v : PV)
  | fn (f : Nat)
  deriving Inhabited

inductive POp where
  | mov (x : Opd)
  | pick (c a b : Opd)
  | new (cells : List PV)
  | box (x : Opd)
  | build (zero : List PV) (parts : List (Nat × Nat × Opd))
  | bslice (st : Nat) (sh : List (Option Nat)) (zero : List PV) (len : Nat) (parts : List (Nat × Opd))
  | load (agg : Bool) (sz : Nat) (x : Opd)
  | store (sz : Nat) (x y : Opd)
  | nilchk (x : Opd)
  | bin (op : BinOp) (ty : TyK) (x y : Opd)
  | un (op : UnOp) (x : Opd)
  | toint (k : IntKind) (x : Opd)
  | tostr (x : Opd)
  | bytes (x : Opd)
  | ofbytes (x : Opd)
  | mkfn (f : Nat) (caps : List Opd)
  | mkmap
  | mkslice (ty st bytes : Nat) (zero : List PV) (len cap : Opd)
  | slice (str : Bool) (st : Nat) (x : Opd) (lo hi mx : Option Opd)
  | faddr (off : Nat) (x : Opd)
  | fld (agg : Bool) (off sz : Nat) (x : Opd)
  | iaddr (st : Nat) (x i : Opd)
  | idxs (x i : Opd)
  | lookup (kk : TyK) (zero : PV) (x k : Opd) (ok : Bool)
  | mapup (kk : TyK) (x k v : Opd)
  | ext (x : Opd) (i : Nat)
  | mkif (t : Nat) (x : Opd)
  | len (ty : TyK) (x : Opd)
  | append (ty st bytes : Nat) (s x : Opd)
  | copy (st bytes : Nat) (x : Opd)
  | mx (xs : List Opd)
  | mn (xs : List Opd)
  /-- the keys of the map in a box, collected in a slice that was nil, sorted -/
  | keys (tk : Nat) (p o z : Opd)
  | call (pc : Bool) (f : Opd) (args : List Opd)
  deriving Inhabited

structure PO where
  dst : Option Nat
  guard : Option (Nat × Bool)
  op : POp
  deriving Inhabited

inductive PC where
  | skip
  | ops (l : List PO)
  | seq (a b : PC)
  | cond (x : Opd) (a b : PC)
  | block (id : Nat) (a : PC)
  | loop (a : PC)
  | exit (id : Nat)
  | ret
  /-- Ahead of it all temporaries but these are forgotten. -/
  | keep (ts : List Nat) (a : PC)
  deriving Inhabited

/-- The code without the forgetting. -/
def PC.erase : PC → PC
  | .seq a b => .seq a.erase b.erase
  | .cond x a b => .cond x a.erase b.erase
  | .block id a => .block id a.erase
  | .loop a => .loop a.erase
  | .keep _ a => a.erase
  | c => c

inductive PRes where
  | tmp (t : Nat)
  | cell (t : Nat) (agg : Bool) (sz : Nat)
  deriving Inhabited

structure PFunc where
  ntmps : Nat
  results : List PRes
  body : PC
  /-- the parameters, and the results: is it handed over with the right to append? the widths of its slices' elements -/
  keep : List (Bool × List (Option Nat))
  keepr : List (Bool × List (Option Nat))
  deriving Inhabited

inductive Out where
  | norm
  | exit (id : Nat)
  | ret
  deriving Inhabited

def get (e : Env) (t : Nat) : PV := (e[t]?).getD .top
def Opd.ev (e : Env) : Opd → PV
  | .tmp t => get e t
  | .cst v => v
  | .fn f => .fn f []
def put (e : Env) (d : Option Nat) (v : PV) : Env :=
  match d with
  | some d => e.set d v
  | none => e

def intBin (op : BinOp) (k : IntKind) (a b : Int) : Option PV :=
  match op with
  | .add => some (.int k (k.wrap (a + b)))
  | .sub => some (.int k (k.wrap (a - b)))
  | .mul => some (.int k (k.wrap (a * b)))
  | .quo => if b = 0 then none else some (.int k (k.wrap (a.tdiv b)))
  | .rem => if b = 0 then none else some (.int k (a.tmod b))
  | .and => some (.int k (k.wrap (BitVec.ofInt k.bits a &&& BitVec.ofInt k.bits b).toNat))
  | .or => some (.int k (k.wrap (BitVec.ofInt k.bits a ||| BitVec.ofInt k.bits b).toNat))
  | .xor => some (.int k (k.wrap (BitVec.ofInt k.bits a ^^^ BitVec.ofInt k.bits b).toNat))
  | .andNot => some (.int k (k.wrap (BitVec.ofInt k.bits a &&& ~~~ (BitVec.ofInt k.bits b)).toNat))
  | .eql => some (.bool (a == b))
  | .neq => some (.bool (a != b))
  | .lss => some (.bool (a < b))
  | .leq => some (.bool (a ≤ b))
  | .gtr => some (.bool (a > b))
  | .geq => some (.bool (a ≥ b))
  | _ => none

def shBin (op : BinOp) (k : IntKind) (a b : Int) : Option PV :=
  if b < 0 then none else
    match op with
    | .shl => some (.int k (k.wrap (a * 2 ^ (min b.toNat k.bits))))
    | .shr => some (.int k (a.fdiv (2 ^ (min b.toNat k.bits))))
    | _ => none

def strBin (op : BinOp) (a b : List UInt8) : Option PV :=
  match op with
  | .add => if ((a.length + b.length : Nat) : Int) > 9223372036854775807 then none else some (.str (a ++ b))
  | .eql => some (.bool (a == b))
  | .neq => some (.bool (!(a == b)))
  | .lss => some (.bool (Op.bytesLess a b))
  | .leq => some (.bool (Op.bytesLess a b || a == b))
  | .gtr => some (.bool (!(Op.bytesLess a b || a == b)))
  | .geq => some (.bool (!Op.bytesLess a b))
  | _ => none

/-- Is it nil? (slices, pointers, functions, maps, interfaces) -/
def PV.isNil : PV → Option Bool
  | .nils | .nilp | .nilf | .nilm | .nili => some true
  | .own _ _ _ | .ptr _ _ | .cref _ | .fn _ _ | .mp _ | .iface _ _ => some false
  | .sl _ _ (_ :: _) => some false
  | _ => none

def evBin (op : BinOp) (ty : TyK) (x y : PV) : Option PV :=
  match x, y with
  | .int k a, .int k' b =>
    if op = .shl ∨ op = .shr then shBin op k a b else if k = k' then intBin op k a b else none
  | .str a, .str b => strBin op a b
  | .bool a, .bool b =>
    match ty, op with
    | .bool, .eql => some (.bool (a == b))
    | .bool, .neq => some (.bool (!(a == b)))
    | _, _ => none
  | _, _ => none

def evUn (op : UnOp) (x : PV) : Option PV :=
  match op, x with
  | .not, .bool b => some (.bool (!b))
  | .neg, .int k n => some (.int k (k.wrap (0 - n)))
  | .xor, .int k n => some (.int k (k.wrap (BitVec.ofInt k.bits (if k.signed then -1 else k.max) ^^^ BitVec.ofInt k.bits n).toNat))
  | _, _ => none

/-- Parts of a struct laid into its zero value. -/
def fillP (e : Env) : List PV → List (Nat × Nat × Opd) → Option (List PV)
  | cs, [] => some cs
  | cs, (off, sz, x) :: r =>
    match (x.ev e).cells? with
    | some ys => if ys.length = sz ∧ off + sz ≤ cs.length then fillP e (cs.take off ++ ys ++ cs.drop (off + sz)) r else none
    | none => none

def fillR (σ : Heap) (e : Env) (st : Nat) (sh : List (Option Nat)) : List (List PV) → List (Nat × Opd) → Option (List (List PV))
  | rs, [] => some rs
  | rs, (i, x) :: r =>
    match (canonV sh (coeV σ (x.ev e))).cells? with
    | some ys => if ys.length = st ∧ i < rs.length ∧ pureL ys = true then fillR σ e st sh (rs.set i ys) r else none
    | none => none

/-- The cells behind an address. -/
def cellsAt (σ : Heap) : PV → Option (List PV)
  | .cref cells => some cells
  | .ptr id off => match σ[id]? with
    | some (.box cells) => some (cells.drop off)
    | _ => none
  | _ => none

def loadP (agg : Bool) (sz : Nat) (cells : List PV) : Option PV :=
  if agg then (if sz ≤ cells.length then some (.agg (cells.take sz)) else none)
  else cells[0]?

/-- The rows of a slice that stays as it is. -/
def rowsP (σ : Heap) (st : Nat) : PV → Option (List (List PV))
  | .nils => some []
  | .sl st' _ rows => if st' = st then some rows else none
  | .own id st' n => match σ[id]? with
    | some (.log _ st'' rows) => if st' = st ∧ st'' = st ∧ rows.length = n then some rows else none
    | _ => none
  | _ => none
/-- The rows of a slice that is read. -/
def rowsOf (σ : Heap) (st : Nat) : PV → Option (List (List PV))
  | .own id st' n => match σ[id]? with
    | some (.box cells) => if st' = st ∧ cells.length = n * st then some (chunks st n cells) else none
    | _ => rowsP σ st (.own id st' n)
  | p => rowsP σ st p

def lenP (σ : Heap) : TyK → PV → Option Nat
  | .slice, .nils => some 0
  | .slice, .sl _ _ rows => some rows.length
  | .slice, .own _ _ n => some n
  | .str, .str s => some s.length
  | .map, .nilm => some 0
  | .map, .mp id => match σ[id]? with
    | some (.map es) => some es.length
    | _ => none
  | _, _ => none

def appendP (ty st bytes : Nat) (σ : Heap) (s x : PV) : Option (PV × Heap) :=
  match rowsOf σ st x with
  | none => none
  | some xs =>
    if pureLL xs = true ∧ xs.all (fun r => r.length == st && r.all PV.scalar) = true then
      match s with
      | .nils => if xs.length * bytes ≤ 140737488355328 then
          (if xs.isEmpty then some (.nils, σ) else some (.own σ.length st xs.length, σ ++ [.log ty st xs])) else none
      | .sl st' full rows =>
        if st' = st ∧ full = true ∧ pureLL rows = true ∧ rows.all (fun r => r.length == st && r.all PV.scalar) = true ∧ (rows.length + xs.length) * bytes ≤ 140737488355328 then
          (if xs.isEmpty then some (.sl st' full rows, σ) else some (.own σ.length st (rows.length + xs.length), σ ++ [.log ty st (rows ++ xs)])) else none
      | .own id st' n => match σ[id]? with
        | some (.log ty'' st'' rows) =>
          if ty'' = ty ∧ st' = st ∧ st'' = st ∧ rows.length = n ∧ (n + xs.length) * bytes ≤ 140737488355328 then
            some (.own id st (n + xs.length), σ.set id (.log ty st (rows ++ xs))) else none
        | _ => none
      | _ => none
    else none

def natOf : PV → Option Nat
  | .int _ n => if 0 ≤ n then some n.toNat else none
  | _ => none
def optNat (e : Env) (d : Nat) : Option Opd → Option Nat
  | none => some d
  | some x => natOf (x.ev e)

def sliceS (e : Env) (x : PV) (lo hi mx : Option Opd) : Option PV :=
  match x with
  | .str s =>
    match mx, optNat e 0 lo, optNat e s.length hi with
    | none, some l, some h => if l ≤ h ∧ h ≤ s.length then some (.str ((s.take h).drop l)) else none
    | _, _, _ => none
  | _ => none
def sliceL (st : Nat) (σ : Heap) (e : Env) (x : PV) (lo hi mx : Option Opd) : Option PV :=
  match rowsP σ st x with
  | none => none
  | some rows =>
    match optNat e 0 lo, optNat e rows.length hi with
    | some l, some h =>
      if l ≤ h ∧ h ≤ rows.length then
        match mx with
        | none => some (.sl st false ((rows.take h).drop l))
        | some m => if natOf (m.ev e) = some h ∧ hi.isSome = true then some (.sl st true ((rows.take h).drop l)) else none
      else none
    | _, _ => none
def sliceP (str : Bool) (st : Nat) (σ : Heap) (e : Env) (x : PV) (lo hi mx : Option Opd) : Option PV :=
  match str with
  | true => sliceS e x lo hi mx
  | false => sliceL st σ e x lo hi mx

def keyEq : PV → PV → Option Bool
  | .int k a, .int k' b => if k = k' then some (a == b) else none
  | .str a, .str b => some (a == b)
  | .bool a, .bool b => some (a == b)
  | _, _ => none
def keyOK : TyK → PV → Bool
  | .int, .int _ _ | .str, .str _ | .bool, .bool _ => true
  | _, _ => false
def findP (k : PV) : List (PV × PV) → Nat → Option (Option (Nat × PV))
  | [], _ => some none
  | (k', v) :: r, i => match keyEq k k' with
    | some true => some (some (i, v))
    | some false => findP k r (i + 1)
    | none => none

def intsOf : List PV → Option (IntKind × List Int)
  | [.int k n] => some (k, [n])
  | .int k n :: r => match intsOf r with
    | some (k', ns) => if k = k' then some (k, n :: ns) else none
    | none => none
  | _ => none
def maxL : Int → List Int → Int
  | a, [] => a
  | a, b :: r => maxL (if b > a then b else a) r
def minL : Int → List Int → Int
  | a, [] => a
  | a, b :: r => minL (if b < a then b else a) r

def mapOf (σ : Heap) : PV → Option (List (PV × PV))
  | .nilm => some []
  | .mp id => match σ[id]? with
    | some (.map es) => some es
    | _ => none
  | _ => none

/-- The keys of a map from texts. -/
def keyStrs : List (PV × PV) → Option (List (List UInt8))
  | [] => some []
  | (.str s, .bool _) :: r => (keyStrs r).map (s :: ·)
  | _ => none
def strRows (ks : List (List UInt8)) : List (List PV) := ks.map fun s => [.str s]
/-- They, sorted, in a slice of one's own; nil where there is none. -/
def keysV (σ : Heap) (tk : Nat) (ks : List (List UInt8)) : PV × Heap := if ks = [] then (.nils, σ) else (.own σ.length 1 ks.length, σ ++ [.log tk 1 (strRows (ks.mergeSort fun x y => decide (x ≤ y)))])
def keysP (σ : Heap) (tk : Nat) (p o z : PV) : Option (PV × Heap) :=
  match p, o, z with
  | .ptr ib 0, .nils, .tup [] => match σ[ib]? with
    | some (.box [.mp m]) => match σ[m]? with
      | some (.map es) => match keyStrs es with
        | some ks => if ks.Nodup ∧ 16 * ks.length ≤ 140737488355328 ∧ (∀ n ∈ ks, n.length ≤ 9223372036854775807) then some (keysV σ tk ks) else none
        | none => none
      | _ => none
    | _ => none
  | _, _, _ => none
/-- Operations that call nothing. -/
def evPrim (e : Env) (σ : Heap) : POp → Option (PV × Heap)
  | .mov x => some (x.ev e, σ)
  | .pick c a b => match c.ev e with
    | .bool true => some (a.ev e, σ)
    | .bool false => some (b.ev e, σ)
    | _ => none
  | .new cells => some (.ptr σ.length 0, σ ++ [.box cells])
  | .box x => match (x.ev e).cells? with
    | some cs => some (.ptr σ.length 0, σ ++ [.box cs])
    | none => none
  | .build zero parts => (fillP e zero parts).map fun cs => (.agg cs, σ)
  | .bslice st sh zero len parts => (fillR σ e st sh (List.replicate len (canonL sh zero)) parts).map fun rs => (.sl st true rs, σ)
  | .load agg sz x => (cellsAt σ (x.ev e)).bind fun cs => (loadP agg sz cs).map fun v => (v, σ)
  | .store sz x y => match x.ev e, (y.ev e).cells? with
    | .ptr id off, some ys => match σ[id]? with
      | some (.box cells) =>
        if ys.length = sz ∧ off + sz ≤ cells.length ∧ ys.all PV.scalar = true then
          some (.tup [], σ.set id (.box (cells.take off ++ ys ++ cells.drop (off + sz)))) else none
      | _ => none
    | _, _ => none
  | .nilchk x => match x.ev e with
    | .ptr id off => some (.ptr id off, σ)
    | .cref cs => some (.cref cs, σ)
    | .fn f caps => some (.fn f caps, σ)
    | _ => none
  | .bin op ty x y => (evBin op ty (x.ev e) (y.ev e)).map fun v => (v, σ)
  | .un op x => (evUn op (x.ev e)).map fun v => (v, σ)
  | .toint k x => match x.ev e with
    | .int _ n => some (.int k (k.wrap n), σ)
    | _ => none
  | .tostr x => match x.ev e with
    | .str s => some (.str s, σ)
    | _ => none
  | .bytes x => match x.ev e with
    | .str s => some (.sl 1 false (s.map fun b => [.int .u8 b.toNat]), σ)
    | _ => none
  | .ofbytes x => match rowsOf σ 1 (x.ev e) with
    | some rows => (rows.mapM fun (r : List PV) => match r with
        | [.int .u8 n] => some (UInt8.ofNat n.toNat)
        | _ => none).map fun s => (.str s, σ)
    | none => none
  | .mkfn f caps => some (.fn f (caps.map (·.ev e)), σ)
  | .mkmap => some (.mp σ.length, σ ++ [.map []])
  | .mkslice ty st bytes zero len cap => match len.ev e, cap.ev e with
    | .int .i64 n, .int .i64 m =>
      if 0 ≤ n ∧ n = m ∧ n * bytes ≤ 140737488355328 then
        some (.own σ.length st n.toNat, σ ++ [.box (List.replicate n.toNat zero).flatten])
      else if n = 0 ∧ 0 ≤ m ∧ m * bytes ≤ 140737488355328 then some (.own σ.length st 0, σ ++ [.log ty st []])
      else none
    | _, _ => none
  | .slice str st x lo hi mx => (sliceP str st σ e (x.ev e) lo hi mx).map fun v => (v, σ)
  | .faddr off x => match x.ev e with
    | .ptr id o => some (.ptr id (o + off), σ)
    | .cref cells => some (.cref (cells.drop off), σ)
    | _ => none
  | .fld agg off sz x => match x.ev e with
    | .agg cells => if agg then (if off + sz ≤ cells.length then some (.agg ((cells.drop off).take sz), σ) else none) else (cells[off]?).map fun v => (v, σ)
    | _ => none
  | .iaddr st x i => match x.ev e, i.ev e with
    | .sl st' _ rows, .int _ n => if st' = st ∧ 0 ≤ n then (rows[n.toNat]?).map fun r => (.cref r, σ) else none
    | .own id st' n, .int _ j => match σ[id]? with
      | some (.log _ st'' rows) => if st' = st ∧ st'' = st ∧ rows.length = n ∧ 0 ≤ j then (rows[j.toNat]?).map fun r => (.cref r, σ) else none
      | some (.box cells) => if st' = st ∧ cells.length = n * st ∧ 0 ≤ j ∧ j < n then some (.ptr id (j.toNat * st), σ) else none
      | _ => none
    | _, _ => none
  | .idxs x i => match x.ev e, i.ev e with
    | .str s, .int _ n => if 0 ≤ n then (s[n.toNat]?).map fun b => (.int .u8 b.toNat, σ) else none
    | _, _ => none
  | .lookup kk zero x k ok =>
    if keyOK kk (k.ev e) = true then
      (mapOf σ (x.ev e)).bind fun es => (findP (k.ev e) es 0).map fun r =>
        match r with
        | some q => (if ok then .tup [q.2, .bool true] else q.2, σ)
        | none => (if ok then .tup [zero, .bool false] else zero, σ)
    else none
  | .mapup kk x k v => match x.ev e with
    | .mp id => match σ[id]? with
      | some (.map es) =>
        (if keyOK kk (k.ev e) = true then findP (k.ev e) es 0 else none).map fun (r : Option (Nat × PV)) =>
          match r with
          | some p => (.tup [], σ.set id (.map (es.set p.1 (k.ev e, v.ev e))))
          | none => (.tup [], σ.set id (.map (es ++ [(k.ev e, v.ev e)])))
      | _ => none
    | _ => none
  | .ext x i => match x.ev e with
    | .tup vs => (vs[i]?).map fun v => (v, σ)
    | _ => none
  | .mkif t x => some (.iface t (x.ev e), σ)
  | .len ty x => (lenP σ ty (x.ev e)).map fun (n : Nat) => (.int .i64 (n : Int), σ)
  | .append ty st bytes s x => appendP ty st bytes σ (s.ev e) (x.ev e)
  | .copy st bytes x => match rowsOf σ st (x.ev e) with
    | some rows =>
      if pureLL rows = true ∧ rows.all (fun r => r.length == st) = true ∧ rows.length * bytes ≤ 140737488355328 then
        some (if rows.isEmpty then .nils else .sl st false rows, σ) else none
    | none => none
  | .mx xs => match intsOf (xs.map (·.ev e)) with
    | some (k, n :: ns) => some (.int k (maxL n ns), σ)
    | _ => none
  | .mn xs => match intsOf (xs.map (·.ev e)) with
    | some (k, n :: ns) => some (.int k (minL n ns), σ)
    | _ => none
  | .keys tk p o z => keysP σ tk (p.ev e) (o.ev e) (z.ev e)
  | .call _ _ _ => none

/-- What the functions and the loops come to. -/
structure Handler where
  pure : Nat → List PV → Option (List PV)
  imp : Nat → List PV → Heap → Option (List PV × Heap)
  loop : PC → Env → Heap → Option (Out × Env × Heap)

/-- The functions of the program that are evaluated. -/
abbrev Funcs := Nat → Option PFunc

def keepArgs (σ : Heap) : List (Bool × List (Option Nat)) → List PV → List PV
  | (true, _) :: ks, v :: vs => v :: keepArgs σ ks vs
  | (false, sh) :: ks, v :: vs => canonV sh (coeV σ v) :: keepArgs σ ks vs
  | [], vs => vs.map (coeV σ)
  | _, [] => []

/-- One result is itself, several are a tuple. -/
def packP : List PV → PV
  | [v] => v
  | vs => .tup vs

/-- Its results keep no right to append. -/
def asPure (C : Funcs) (f : Nat) (args : List PV) : Bool := pureL args && !((C f).map fun pf => pf.keepr.any (·.1)).getD false
theorem asPure_pure {C : Funcs} {f : Nat} {args : List PV} (h : asPure C f args = true) : pureL args = true := by
  unfold asPure at h
  rw [Bool.and_eq_true] at h
  exact h.1
def evCall (C : Funcs) (H : Handler) (σ : Heap) (pc : Bool) (f : Nat) (args : List PV) : Option (PV × Heap) :=
  let args' := keepArgs σ ((C f).map (·.keep) |>.getD []) args
  if asPure C f args' = true then (H.pure f args').map fun rs => (packP rs, σ)
  else if pc then none else (H.imp f args' σ).map fun r => (packP r.1, r.2)

def evOp (C : Funcs) (H : Handler) (e : Env) (σ : Heap) : POp → Option (PV × Heap)
  | .call pc f args => match f.ev e with
    | .fn f caps => evCall C H σ pc f (args.map (·.ev e) ++ caps)
    | _ => none
  | o => evPrim e σ o

/-- Is the operation wanted? -/
def wantP (e : Env) : Option (Nat × Bool) → Option Bool
  | none => some true
  | some (t, b) => match get e t with
    | .bool c => some (c == b)
    | .tup [] => some false
    | _ => none

def evOps (C : Funcs) (H : Handler) : List PO → Env → Heap → Option (Env × Heap)
  | [], e, σ => some (e, σ)
  | o :: r, e, σ => match wantP e o.guard with
    | some true => (evOp C H e σ o.op).bind fun p => evOps C H r (put e o.dst p.1) p.2
    | some false => evOps C H r (put e o.dst (.tup [])) σ
    | none => none

def keepL (ts : List Nat) (e : Env) : Env := (List.range e.length).map fun t => if ts.contains t = true then get e t else .top
/-- What a loop enters with. -/
def headE : PC → Env → Env
  | .keep ts _, e => keepL ts e
  | _, e => e

def evC (C : Funcs) (H : Handler) : PC → Env → Heap → Option (Out × Env × Heap)
  | .skip, e, σ => some (.norm, e, σ)
  | .ops l, e, σ => (evOps C H l e σ).map fun p => (.norm, p.1, p.2)
  | .seq a b, e, σ => (evC C H a e σ).bind fun r => match r with
    | (.norm, e', σ') => evC C H b e' σ'
    | r => some r
  | .cond x a b, e, σ => match x.ev e with
    | .bool true => evC C H a e σ
    | .bool false => evC C H b e σ
    | _ => none
  | .block id a, e, σ => (evC C H a e σ).map fun (r : Out × Env × Heap) => match r with
    | (.exit id', e', σ') => (if id' = id then .norm else .exit id', e', σ')
    | r => r
  | .loop a, e, σ => H.loop a (headE a e) σ
  | .exit id, e, σ => some (.exit id, e, σ)
  | .ret, e, σ => some (.ret, e, σ)
  | .keep ts a, e, σ => evC C H a (keepL ts e) σ

def resP (e : Env) (σ : Heap) : PRes → Option PV
  | .tmp t => some (get e t)
  | .cell t agg sz => (cellsAt σ (get e t)).bind fun cs => loadP agg sz cs
def resPs (e : Env) (σ : Heap) : List PRes → Option (List PV)
  | [] => some []
  | r :: rs => (resP e σ r).bind fun v => (resPs e σ rs).map fun vs => v :: vs

/-- A body, from its arguments to its results. -/
def runF (C : Funcs) (H : Handler) (pf : PFunc) (args : List PV) (σ : Heap) : Option (List PV × Heap) :=
  (evC C H pf.body (args ++ List.replicate (pf.ntmps - args.length) (.tup [])) σ).bind fun r => match r with
    | (.exit _, _, _) => none
    | (_, e, σ') => (resPs e σ' pf.results).map fun vs => (vs, σ')

def finArgs (σ : Heap) : List (Bool × List (Option Nat)) → List PV → List PV
  | (_, sh) :: ks, v :: vs => canonV sh (finV σ v) :: finArgs σ ks vs
  | [], vs => vs.map (finV σ)
  | _, [] => []
def runPure (C : Funcs) (H : Handler) (pf : PFunc) (args : List PV) : Option (List PV) :=
  (runF C H pf args []).bind fun r =>
    let vs := finArgs r.2 pf.keepr r.1
    if pureL vs = true then some vs else none

def runImp (C : Funcs) (H : Handler) (pf : PFunc) (args : List PV) (σ : Heap) : Option (List PV × Heap) :=
  (runF C H pf args σ).map fun r => (keepArgs r.2 pf.keepr r.1, r.2)

def loopStep (C : Funcs) (H : Handler) (a : PC) (e : Env) (σ : Heap) : Option (Out × Env × Heap) :=
  (evC C H a e σ).bind fun r => match r with
    | (.norm, e', σ') => H.loop a (headE a e') σ'
    | r => some r

/-- What is known of functions that are not evaluated. -/
structure Ext where
  pure : Nat → List PV → Option (List PV)
  imp : Nat → List PV → Heap → Option (List PV × Heap)

def Hk (C : Funcs) (X : Ext) : Nat → Handler
  | 0 => { pure := fun _ _ => none, imp := fun _ _ _ => none, loop := fun _ _ _ => none }
  | k + 1 =>
    { pure := fun f args => match C f with
        | some pf => runPure C (Hk C X k) pf args
        | none => X.pure f args
      imp := fun f args σ => match C f with
        | some pf => runImp C (Hk C X k) pf args σ
        | none => X.imp f args σ
      loop := fun a e σ => loopStep C (Hk C X k) a e σ }

/-! ### More rounds give the same answer; the limit -/
def Le {α : Type} (a b : Option α) : Prop := ∀ r, a = some r → b = some r
theorem Le.refl {α : Type} (a : Option α) : Le a a := fun _ h => h
structure HLe (H H' : Handler) : Prop where
  pure : ∀ f args, Le (H.pure f args) (H'.pure f args)
  imp : ∀ f args σ, Le (H.imp f args σ) (H'.imp f args σ)
  loop : ∀ a e σ, Le (H.loop a e σ) (H'.loop a e σ)
theorem Le.bind {α β : Type} {a b : Option α} {f g : α → Option β} (h : Le a b) (k : ∀ x, Le (f x) (g x)) : Le (a.bind f) (b.bind g) := by
  intro r hr
  obtain ⟨x, hx, hf⟩ := Option.bind_eq_some_iff.1 hr
  exact Option.bind_eq_some_iff.2 ⟨x, h x hx, k x r hf⟩
theorem Le.map {α β : Type} {a b : Option α} (f : α → β) (h : Le a b) : Le (a.map f) (b.map f) := by
  intro r hr
  obtain ⟨x, hx, hf⟩ := Option.map_eq_some_iff.1 hr
  exact Option.map_eq_some_iff.2 ⟨x, h x hx, hf⟩

section
variable {C : Funcs} {X : Ext} {H H' : Handler}
theorem evCall_mono (h : HLe H H') (σ : Heap) (pc : Bool) (f : Nat) (args : List PV) : Le (evCall C H σ pc f args) (evCall C H' σ pc f args) := by
  unfold evCall
  dsimp only
  split
  · exact Le.map _ (h.pure _ _)
  · split
    · exact Le.refl _
    · exact Le.map _ (h.imp _ _ _)
theorem evOp_mono (h : HLe H H') (e : Env) (σ : Heap) (o : POp) : Le (evOp C H e σ o) (evOp C H' e σ o) := by
  cases o with
  | call pc f args =>
    simp only [evOp]
    split
    · exact evCall_mono h _ _ _ _
    · exact Le.refl _
  | _ => exact Le.refl _
theorem evOps_mono (h : HLe H H') : ∀ (l : List PO) (e : Env) (σ : Heap), Le (evOps C H l e σ) (evOps C H' l e σ)
  | [], _, _ => Le.refl _
  | o :: r, e, σ => by
    simp only [evOps]
    split
    · exact Le.bind (evOp_mono h _ _ _) fun p => evOps_mono h r _ _
    · exact evOps_mono h r _ _
    · exact Le.refl _
theorem evC_mono (h : HLe H H') : ∀ (c : PC) (e : Env) (σ : Heap), Le (evC C H c e σ) (evC C H' c e σ)
  | .skip, _, _ => Le.refl _
  | .ops l, e, σ => Le.map _ (evOps_mono h l e σ)
  | .seq a b, e, σ => Le.bind (evC_mono h a e σ) fun r => by
    obtain ⟨o, e', σ'⟩ := r
    cases o with
    | norm => exact evC_mono h b e' σ'
    | exit _ => exact Le.refl _
    | ret => exact Le.refl _
  | .cond x a b, e, σ => by
    simp only [evC]
    split
    · exact evC_mono h a e σ
    · exact evC_mono h b e σ
    · exact Le.refl _
  | .block id a, e, σ => Le.map _ (evC_mono h a e σ)
  | .loop a, e, σ => h.loop a _ σ
  | .exit _, _, _ => Le.refl _
  | .ret, _, _ => Le.refl _
  | .keep ts a, e, σ => evC_mono h a _ σ
theorem runF_mono (h : HLe H H') (pf : PFunc) (args : List PV) (σ : Heap) : Le (runF C H pf args σ) (runF C H' pf args σ) :=
  Le.bind (evC_mono h _ _ _) fun r => by
    obtain ⟨o, e', σ'⟩ := r
    cases o <;> exact Le.refl _
theorem runPure_mono (h : HLe H H') (pf : PFunc) (args : List PV) : Le (runPure C H pf args) (runPure C H' pf args) :=
  Le.bind (runF_mono h _ _ _) fun _ => Le.refl _
theorem runImp_mono (h : HLe H H') (pf : PFunc) (args : List PV) (σ : Heap) : Le (runImp C H pf args σ) (runImp C H' pf args σ) :=
  Le.map _ (runF_mono h _ _ _)
theorem loopStep_mono (h : HLe H H') (a : PC) (e : Env) (σ : Heap) : Le (loopStep C H a e σ) (loopStep C H' a e σ) :=
  Le.bind (evC_mono h _ _ _) fun r => by
    obtain ⟨o, e', σ'⟩ := r
    cases o with
    | norm => exact h.loop _ _ _
    | exit _ => exact Le.refl _
    | ret => exact Le.refl _
end

theorem Hk_step (C : Funcs) (X : Ext) : ∀ k, HLe (Hk C X k) (Hk C X (k + 1))
  | 0 => { pure := fun _ _ _ h => (nomatch h), imp := fun _ _ _ _ h => (nomatch h), loop := fun _ _ _ _ h => (nomatch h) }
  | k + 1 => by
    have ih := Hk_step C X k
    refine ⟨fun f args => ?_, fun f args σ => ?_, fun a e σ => loopStep_mono ih a e σ⟩
    · simp only [Hk]
      cases C f with
      | some pf => exact runPure_mono ih pf args
      | none => exact Le.refl _
    · simp only [Hk]
      cases C f with
      | some pf => exact runImp_mono ih pf args σ
      | none => exact Le.refl _
theorem HLe.refl (H : Handler) : HLe H H := ⟨fun _ _ => Le.refl _, fun _ _ _ => Le.refl _, fun _ _ _ => Le.refl _⟩
theorem HLe.trans {A B D : Handler} (h : HLe A B) (k : HLe B D) : HLe A D :=
  ⟨fun f a r hr => k.pure f a r (h.pure f a r hr), fun f a σ r hr => k.imp f a σ r (h.imp f a σ r hr), fun a e σ r hr => k.loop a e σ r (h.loop a e σ r hr)⟩
theorem Hk_le (C : Funcs) (X : Ext) {k k' : Nat} (h : k ≤ k') : HLe (Hk C X k) (Hk C X k') := by
  induction h with
  | refl => exact HLe.refl _
  | step _ ih => exact ih.trans (Hk_step C X _)

open Classical in
noncomputable def lim {α : Type} (F : Nat → Option α) : Option α := if h : ∃ r, ∃ k, F k = some r then some h.choose else none
theorem lim_some {α : Type} {F : Nat → Option α} (hm : ∀ k k', k ≤ k' → Le (F k) (F k')) {r : α} : lim F = some r ↔ ∃ k, F k = some r := by
  unfold lim
  constructor
  · intro h
    split at h
    · rename_i h'
      obtain rfl : h'.choose = r := Option.some.inj h
      exact h'.choose_spec
    · cases h
  · rintro ⟨k, hk⟩
    have h' : ∃ r, ∃ k, F k = some r := ⟨r, k, hk⟩
    rw [dif_pos h']
    obtain ⟨k', hk'⟩ := h'.choose_spec
    have h1 := hm k (max k k') (Nat.le_max_left _ _) _ hk
    have h2 := hm k' (max k k') (Nat.le_max_right _ _) _ hk'
    rw [h1] at h2
    exact h2.symm

/-- The limit. -/
noncomputable def Hw (C : Funcs) (X : Ext) : Handler :=
  { pure := fun f args => lim fun k => (Hk C X k).pure f args
    imp := fun f args σ => lim fun k => (Hk C X k).imp f args σ
    loop := fun a e σ => lim fun k => (Hk C X k).loop a e σ }

section
variable {C : Funcs} {X : Ext}
theorem Hw_pure {f : Nat} {args : List PV} {r : List PV} : (Hw C X).pure f args = some r ↔ ∃ k, (Hk C X k).pure f args = some r :=
  lim_some fun _ _ h => (Hk_le C X h).pure f args
theorem Hw_imp {f : Nat} {args : List PV} {σ : Heap} {r : List PV × Heap} : (Hw C X).imp f args σ = some r ↔ ∃ k, (Hk C X k).imp f args σ = some r :=
  lim_some fun _ _ h => (Hk_le C X h).imp f args σ
theorem Hw_loop {a : PC} {e : Env} {σ : Heap} {r : Out × Env × Heap} : (Hw C X).loop a e σ = some r ↔ ∃ k, (Hk C X k).loop a e σ = some r :=
  lim_some fun _ _ h => (Hk_le C X h).loop a e σ
theorem Hk_le_Hw (k : Nat) : HLe (Hk C X k) (Hw C X) :=
  ⟨fun _ _ _ h => Hw_pure.2 ⟨k, h⟩, fun _ _ _ _ h => Hw_imp.2 ⟨k, h⟩, fun _ _ _ _ h => Hw_loop.2 ⟨k, h⟩⟩

/-- What is answered at the limit is answered at some number of rounds. -/
def Cont {α : Type} (C : Funcs) (X : Ext) (G : Handler → Option α) : Prop := ∀ r, G (Hw C X) = some r → ∃ k, ∀ k', k ≤ k' → G (Hk C X k') = some r
theorem Cont.const {α : Type} (a : Option α) : Cont C X fun _ => a := fun _ h => ⟨0, fun _ _ => h⟩
theorem Cont.bind {α β : Type} {G : Handler → Option α} {F : α → Handler → Option β} (h : Cont C X G) (k : ∀ x, Cont C X (F x)) : Cont C X fun H => (G H).bind fun x => F x H := by
  intro r hr
  obtain ⟨x, hx, hf⟩ := Option.bind_eq_some_iff.1 hr
  obtain ⟨k1, h1⟩ := h x hx
  obtain ⟨k2, h2⟩ := k x r hf
  exact ⟨max k1 k2, fun k' hk' => Option.bind_eq_some_iff.2 ⟨x, h1 k' (by omega), h2 k' (by omega)⟩⟩
theorem Cont.map {α β : Type} {G : Handler → Option α} (f : α → β) (h : Cont C X G) : Cont C X fun H => (G H).map f := by
  intro r hr
  obtain ⟨x, hx, hf⟩ := Option.map_eq_some_iff.1 hr
  obtain ⟨k1, h1⟩ := h x hx
  exact ⟨k1, fun k' hk' => Option.map_eq_some_iff.2 ⟨x, h1 k' hk', hf⟩⟩
theorem cont_pure (f : Nat) (args : List PV) : Cont C X fun H => H.pure f args := fun r h => by
  obtain ⟨k, hk⟩ := Hw_pure.1 h
  exact ⟨k, fun k' h' => (Hk_le C X h').pure f args r hk⟩
theorem cont_imp (f : Nat) (args : List PV) (σ : Heap) : Cont C X fun H => H.imp f args σ := fun r h => by
  obtain ⟨k, hk⟩ := Hw_imp.1 h
  exact ⟨k, fun k' h' => (Hk_le C X h').imp f args σ r hk⟩
theorem cont_loop (a : PC) (e : Env) (σ : Heap) : Cont C X fun H => H.loop a e σ := fun r h => by
  obtain ⟨k, hk⟩ := Hw_loop.1 h
  exact ⟨k, fun k' h' => (Hk_le C X h').loop a e σ r hk⟩
theorem cont_call (σ : Heap) (pc : Bool) (f : Nat) (args : List PV) : Cont C X fun H => evCall C H σ pc f args := by
  unfold evCall
  dsimp only
  split
  · exact Cont.map _ (cont_pure _ _)
  · split
    · exact Cont.const _
    · exact Cont.map _ (cont_imp _ _ _)
theorem cont_op (e : Env) (σ : Heap) (o : POp) : Cont C X fun H => evOp C H e σ o := by
  cases o with
  | call pc f args =>
    simp only [evOp]
    split
    · exact cont_call _ _ _ _
    · exact Cont.const _
  | _ => exact Cont.const _
theorem cont_ops : ∀ (l : List PO) (e : Env) (σ : Heap), Cont C X fun H => evOps C H l e σ
  | [], _, _ => Cont.const _
  | o :: r, e, σ => by
    simp only [evOps]
    split
    · exact Cont.bind (cont_op _ _ _) fun p => cont_ops r _ _
    · exact cont_ops r _ _
    · exact Cont.const _
theorem cont_C : ∀ (c : PC) (e : Env) (σ : Heap), Cont C X fun H => evC C H c e σ
  | .skip, _, _ => Cont.const _
  | .ops l, e, σ => Cont.map _ (cont_ops l e σ)
  | .seq a b, e, σ => Cont.bind (cont_C a e σ) fun r => by
    obtain ⟨o, e', σ'⟩ := r
    cases o with
    | norm => exact cont_C b e' σ'
    | exit _ => exact Cont.const _
    | ret => exact Cont.const _
  | .cond x a b, e, σ => by
    simp only [evC]
    split
    · exact cont_C a e σ
    · exact cont_C b e σ
    · exact Cont.const _
  | .block id a, e, σ => Cont.map _ (cont_C a e σ)
  | .loop a, e, σ => cont_loop a _ σ
  | .exit _, _, _ => Cont.const _
  | .ret, _, _ => Cont.const _
  | .keep ts a, e, σ => cont_C a _ σ
theorem cont_runF (pf : PFunc) (args : List PV) (σ : Heap) : Cont C X fun H => runF C H pf args σ :=
  Cont.bind (cont_C _ _ _) fun r => by
    obtain ⟨o, e', σ'⟩ := r
    cases o <;> exact Cont.const _
theorem cont_runPure (pf : PFunc) (args : List PV) : Cont C X fun H => runPure C H pf args :=
  Cont.bind (cont_runF _ _ _) fun _ => Cont.const _
theorem cont_runImp (pf : PFunc) (args : List PV) (σ : Heap) : Cont C X fun H => runImp C H pf args σ :=
  Cont.map _ (cont_runF _ _ _)
theorem cont_loopStep (a : PC) (e : Env) (σ : Heap) : Cont C X fun H => loopStep C H a e σ :=
  Cont.bind (cont_C _ _ _) fun r => by
    obtain ⟨o, e', σ'⟩ := r
    cases o with
    | norm => exact cont_loop _ _ _
    | exit _ => exact Cont.const _
    | ret => exact Cont.const _

theorem eq_of_some_iff {α : Type} {a b : Option α} (h : ∀ r, a = some r ↔ b = some r) : a = b := by
  cases a with
  | some x => exact ((h x).1 rfl).symm
  | none => cases b with
    | none => rfl
    | some x => exact (h x).2 rfl

/-- THE UNFOLDING EQUATIONS. -/
theorem pure_eq {f : Nat} {pf : PFunc} (hf : C f = some pf) (args : List PV) : (Hw C X).pure f args = runPure C (Hw C X) pf args := by
  refine eq_of_some_iff fun r => ⟨fun h => ?_, fun h => ?_⟩
  · obtain ⟨k, hk⟩ := Hw_pure.1 h
    cases k with
    | zero => cases hk
    | succ k =>
      simp only [Hk, hf] at hk
      exact runPure_mono (Hk_le_Hw k) pf args r hk
  · obtain ⟨k, hk⟩ := cont_runPure pf args r h
    refine Hw_pure.2 ⟨k + 1, ?_⟩
    simp only [Hk, hf]
    exact hk k (Nat.le_refl _)
theorem imp_eq {f : Nat} {pf : PFunc} (hf : C f = some pf) (args : List PV) (σ : Heap) : (Hw C X).imp f args σ = runImp C (Hw C X) pf args σ := by
  refine eq_of_some_iff fun r => ⟨fun h => ?_, fun h => ?_⟩
  · obtain ⟨k, hk⟩ := Hw_imp.1 h
    cases k with
    | zero => cases hk
    | succ k =>
      simp only [Hk, hf] at hk
      exact runImp_mono (Hk_le_Hw k) pf args σ r hk
  · obtain ⟨k, hk⟩ := cont_runImp pf args σ r h
    refine Hw_imp.2 ⟨k + 1, ?_⟩
    simp only [Hk, hf]
    exact hk k (Nat.le_refl _)
theorem loop_eq (a : PC) (e : Env) (σ : Heap) : (Hw C X).loop a e σ = loopStep C (Hw C X) a e σ := by
  refine eq_of_some_iff fun r => ⟨fun h => ?_, fun h => ?_⟩
  · obtain ⟨k, hk⟩ := Hw_loop.1 h
    cases k with
    | zero => cases hk
    | succ k => exact loopStep_mono (Hk_le_Hw k) a e σ r hk
  · obtain ⟨k, hk⟩ := cont_loopStep a e σ r h
    exact Hw_loop.2 ⟨k + 1, hk k (Nat.le_refl _)⟩
theorem pure_ext {f : Nat} (hf : C f = none) (args : List PV) : (Hw C X).pure f args = X.pure f args := by
  refine eq_of_some_iff fun r => ⟨fun h => ?_, fun h => Hw_pure.2 ⟨1, by simp only [Hk, hf]; exact h⟩⟩
  obtain ⟨k, hk⟩ := Hw_pure.1 h
  cases k with
  | zero => cases hk
  | succ k => simpa only [Hk, hf] using hk
theorem imp_ext {f : Nat} (hf : C f = none) (args : List PV) (σ : Heap) : (Hw C X).imp f args σ = X.imp f args σ := by
  refine eq_of_some_iff fun r => ⟨fun h => ?_, fun h => Hw_imp.2 ⟨1, by simp only [Hk, hf]; exact h⟩⟩
  obtain ⟨k, hk⟩ := Hw_imp.1 h
  cases k with
  | zero => cases hk
  | succ k => simpa only [Hk, hf] using hk
end
end Go.PE
