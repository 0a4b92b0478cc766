/- The engine, part 1: slim code, an abstract heap, and what the slim code does there. No statement of the seat is proved here. -/
import Derived.Calls
import Derived.Orders
import Derived.Eval
import Derived.KernelRfl
namespace Go.Proofs.Ytfbkolkkpkonfaa.Eng
open Go

/-! ### Values -/
/-- One cell of an abstract value: addresses are (block, row, place in the row); 'lst': a slice that nobody writes any more (nil too, if it is empty); 'zer': an empty slice without room; 'emp': an empty slice that is not nil; 'fp': a pointer into a row that nobody writes any more. -/
inductive Cell where
  | int (k : IntKind) (n : Int)
  | bool (b : Bool)
  | str (s : ByteArray)
  | nilI
  | nilF
  | nilS
  | nilP
  | ptr (b i f : Nat)
  | slc (b s n sz : Nat) (z : Bool)
  | fn (f : Nat) (caps : List Cell)
  | iface (t : Nat) (agg : Bool) (cs : List Cell)
  | lst (sz : Nat) (rows : List (List Cell))
  | zer (sz : Nat)
  | emp (sz : Nat)
  | fp (row : List Cell) (f : Nat)
  deriving Inhabited

inductive AVal where
  | c (x : Cell)
  | agg (xs : List Cell)
  | tup (xs : List AVal)
  deriving Inhabited

def AVal.cells : AVal → List Cell
  | .c x => [x]
  | .agg xs => xs
  | .tup _ => []

/-- A block of the abstract heap: rows of cells; 'own': made by this call, may be written and appended to; not 'live': given up by an append. -/
structure Blk where
  sz : Nat
  rows : List (List Cell)
  own : Bool := true
  live : Bool := true

abbrev Heap := List Blk
abbrev Env := Nat → AVal

def undefA : AVal := .tup []
def upd (e : Env) (d : Nat) (v : AVal) : Env := fun t => if t = d then v else e t
def updO (e : Env) (d : Option Nat) (v : AVal) : Env := match d with | some d => upd e d v | none => e

def Heap.row (H : Heap) (b i : Nat) : Option (List Cell) :=
  match H[b]? with
  | some k => if k.live then k.rows[i]? else none
  | none => none

/-- A row of an own, live block is written anew. -/
def Heap.put (H : Heap) (b i : Nat) (r : List Cell) : Heap :=
  match H[b]? with
  | some k => H.set b { k with rows := k.rows.set i r }
  | none => H

def Heap.kill (H : Heap) (b : Nat) : Heap :=
  match H[b]? with
  | some k => H.set b { k with live := false }
  | none => H

def Heap.mine (H : Heap) (b : Nat) : Bool :=
  match H[b]? with
  | some k => k.own && k.live
  | none => false

/-! ### Slim operations -/
inductive Opd where
  | t (n : Nat)
  | k (v : AVal)
  | f (id : Nat)

def Opd.ev (e : Env) : Opd → AVal
  | .t n => e n
  | .k v => v
  | .f id => .c (.fn id [])

inductive AOp where
  | mv (x : Opd)
  | pick (c x y : Opd)
  | new (cells : List Cell)
  | box (x : Opd)
  | build (zero : List Cell) (parts : List (Nat × Nat × Opd))
  | lit (sz : Nat) (zero : List Cell) (len : Nat) (parts : List (Nat × Opd))
  | load (agg : Bool) (n : Nat) (a : Opd)
  | store (n : Nat) (a v : Opd)
  | chk (x : Opd)
  | bin (op : BinOp) (x y : Opd)
  | binB (neg : Bool) (x y : Opd)
  | eqNil (sl neg : Bool) (x y : Opd)
  | eqS (neg : Bool) (ks : List Nat) (x y : Opd)
  | un (op : UnOp) (x : Opd)
  | conv (k : IntKind) (x : Opd)
  | strId (x : Opd)
  | b2s (x : Opd)
  | s2b (x : Opd)
  | mkF (f : Nat) (caps : List Opd)
  | mkI (t : Nat) (x : Opd)
  | make (sz bytes : Nat) (zero : List Cell) (l c : Opd)
  | sl (sz : Nat) (x : Opd) (lo hi mx : Option Opd)
  | slS (x : Opd) (lo hi : Option Opd)
  | fld (off : Nat) (x : Opd)
  | fldV (agg : Bool) (off n : Nat) (x : Opd)
  | loadF (agg : Bool) (n : Nat) (a : Opd)
  | ix (sz : Nat) (x i : Opd)
  | ixA (len sz : Nat) (x i : Opd)
  | ixS (x i : Opd)
  | ixV (agg : Bool) (len sz : Nat) (x i : Opd)
  | ext (x : Opd) (i : Nat)
  | len (x : Opd)
  | lenS (x : Opd)
  | cap (x : Opd)
  | app (sz bytes : Nat) (x y : Opd)
  | appZ (sz bytes : Nat) (x y : Opd)
  | appM (sz bytes : Nat) (zero : List Cell) (x n : Opd)
  | max (xs : List Opd)
  | min (xs : List Opd)
  | call (f : Opd) (args : List Opd)
  | bad

def AOp.isBad : AOp → Bool
  | .bad => true
  | _ => false

/-- 'fz': what the operation makes is never written: a mark of ours, not of the program's. -/
structure AInstr where
  dst : Option Nat
  op : AOp
  guard : Option (Nat × Bool) := none
  fz : Bool := false

def AInstr.erase (i : AInstr) : AInstr := { i with fz := false }

inductive ACode where
  | skip
  | region (l : List AInstr) (d : Bool)
  | seq (a b : ACode)
  | cond (c : Opd) (a b : ACode)
  | block (id : Nat) (a : ACode)
  | loop (a : ACode)
  | exit (id : Nat)
  | ret
  | bad
  /-- From here on nobody writes the block that place 't' names: a mark of ours. -/
  | fz (t : Nat) (a : ACode)

def ACode.erase : ACode → ACode
  | .region l d => .region (l.map AInstr.erase) d
  | .seq a b => .seq a.erase b.erase
  | .cond c a b => .cond c a.erase b.erase
  | .block id a => .block id a.erase
  | .loop a => .loop a.erase
  | .fz _ a => a.erase
  | c => c

inductive ARes where
  | tmp (t : Nat)
  | cell (a : Nat) (agg : Bool) (n : Nat)

structure AFun where
  res : List ARes
  body : ACode

def AFun.erase (f : AFun) : AFun := { f with body := f.body.erase }

/-! ### What an operation does -/
def evBin (op : BinOp) (x y : Cell) : Option Cell :=
  match x, y with
  | .int k a, .int k' b =>
    match op with
    | .shl => if 0 ≤ b then some (.int k (k.wrap (a * 2 ^ (Nat.min b.toNat k.bits)))) else none
    | .shr => if 0 ≤ b then some (.int k (a.fdiv (2 ^ (Nat.min b.toNat k.bits)))) else none
    | op => if k = k' then
      match op with
      | .add => some (.int k (k.wrap (a + b)))
      | .sub => some (.int k (k.wrap (a - b)))
      | .mul => some (.int k (k.wrap (a * b)))
      | .quo => if b = 0 then none else some (.int k (k.wrap (a.tdiv b)))
      | .rem => if b = 0 then none else some (.int k (a.tmod b))
      | .and => some (.int k (k.wrap (BitVec.ofInt k.bits a &&& BitVec.ofInt k.bits b).toNat))
      | .or => some (.int k (k.wrap (BitVec.ofInt k.bits a ||| BitVec.ofInt k.bits b).toNat))
      | .xor => some (.int k (k.wrap (BitVec.ofInt k.bits a ^^^ BitVec.ofInt k.bits b).toNat))
      | .andNot => some (.int k (k.wrap (BitVec.ofInt k.bits a &&& ~~~(BitVec.ofInt k.bits b)).toNat))
      | .eql => some (.bool (decide (a = b)))
      | .neq => some (.bool (!decide (a = b)))
      | .lss => some (.bool (decide (a < b)))
      | .leq => some (.bool (decide (a ≤ b)))
      | .gtr => some (.bool (decide (b < a)))
      | .geq => some (.bool (decide (b ≤ a)))
      | _ => none
      else none
  | .str a, .str b =>
    match op with
    | .add => if a.size + b.size ≤ 9223372036854775807 then some (.str (a ++ b)) else none
    | .eql => some (.bool (decide (a = b)))
    | .neq => some (.bool (!decide (a = b)))
    | .lss => some (.bool (Op.bytesLess a.toList b.toList))
    | .geq => some (.bool (!Op.bytesLess a.toList b.toList))
    | .gtr => some (.bool (!(Op.bytesLess a.toList b.toList || decide (a = b))))
    | .leq => some (.bool (Op.bytesLess a.toList b.toList || decide (a = b)))
    | _ => none
  | _, _ => none

/-- '==' against nil: of a slice ('sl'), of an interface value. -/
def evNil (sl : Bool) (x y : Cell) : Option Bool :=
  match sl, x, y with
  | true, .nilS, .nilS => some true
  | true, .slc _ _ _ _ _, .nilS => some false
  | true, .nilS, .slc _ _ _ _ _ => some false
  | true, .lst _ (_ :: _), .nilS => some false
  | true, .nilS, .lst _ (_ :: _) => some false
  | true, .emp _, .nilS => some false
  | true, .nilS, .emp _ => some false
  | false, .iface _ _ _, .nilI => some false
  | false, .nilI, .iface _ _ _ => some false
  | false, .nilI, .nilI => some true
  | _, _, _ => none

/-- Equality of two plain cells: 0: whole numbers, 1: texts, 2: bools. -/
def evEqCell (k : Nat) (x y : Cell) : Option Bool :=
  match k, x, y with
  | 0, .int k a, .int k' b => if k = k' then some (decide (a = b)) else none
  | 1, .str a, .str b => some (decide (a = b))
  | 2, .bool a, .bool b => some (a == b)
  | _, _, _ => none

def evEqCells : List Nat → List Cell → List Cell → Option Bool
  | [], [], [] => some true
  | k :: ks, x :: xs, y :: ys =>
    match evEqCell k x y with
    | some b => match evEqCells ks xs ys with
      | some r => some (b && r)
      | none => none
    | none => none
  | _, _, _ => none

def evUn (op : UnOp) (x : Cell) : Option Cell :=
  match op, x with
  | .neg, .int k n => some (.int k (k.wrap (0 - n)))
  | .xor, .int k n => some (.int k (k.wrap (BitVec.ofInt k.bits (if k.signed then -1 else k.max) ^^^ BitVec.ofInt k.bits n).toNat))
  | .not, .bool b => some (.bool !b)
  | _, _ => none

def bytesOf (s : ByteArray) : List Cell := s.data.toList.map fun b => .int .u8 (b.toNat : Int)

/-- The bytes of cells that are bytes. -/
def takeBytes : List (List Cell) → Option (List UInt8)
  | [] => some []
  | [.int .u8 n] :: r => match takeBytes r with | some l => some (UInt8.ofNat n.toNat :: l) | none => none
  | _ => none

/-- The rows of a slice. -/
def Heap.rowsOf (H : Heap) (x : Cell) : Option (List (List Cell)) :=
  match x with
  | .nilS => some []
  | .slc b s n _ _ =>
    if n = 0 then some [] else
    match H[b]? with
    | some k => if k.live ∧ s + n ≤ k.rows.length then some ((k.rows.drop s).take n) else none
    | none => none
  | .str s => some ((bytesOf s).map fun c => [c])
  | .lst _ rows => some rows
  | .zer _ => some []
  | .emp _ => some []
  | _ => none

def fitsSz (sz : Nat) : Cell → Bool
  | .nilS => true
  | .slc _ _ _ sz' _ => sz' == sz
  | .str _ => sz == 1
  | .lst sz' _ => sz' == sz
  | .zer sz' => sz' == sz
  | .emp sz' => sz' == sz
  | _ => false

def fillA (zero : List Cell) (e : Env) : List (Nat × Nat × Opd) → Option (List Cell)
  | [] => some zero
  | (off, n, x) :: r =>
    let cs := (x.ev e).cells
    if cs.length = n ∧ off + n ≤ zero.length then fillA (zero.take off ++ cs ++ zero.drop (off + n)) e r else none

def fillR (sz : Nat) (rows : List (List Cell)) (e : Env) : List (Nat × Opd) → Option (List (List Cell))
  | [] => some rows
  | (i, x) :: r =>
    let cs := (x.ev e).cells
    if cs.length = sz ∧ i < rows.length then fillR sz (rows.set i cs) e r else none

/-- A bound of a slice expression. -/
def bound (v : AVal) (y : Nat) : Option Nat :=
  match v with
  | .c (.int _ i) => if 0 ≤ i ∧ i ≤ y then some i.toNat else none
  | _ => none

def boundO (e : Env) (x : Option Opd) (y d : Nat) : Option Nat :=
  match x with
  | some x => bound (x.ev e) y
  | none => some d

/-- Slicing what has n elements (and room for no fewer). -/
def evSl (x : Cell) (e : Env) (lo hi mx : Option Opd) : Option Cell :=
  match x with
  | .nilS =>
    match boundO e mx 0 0, boundO e hi 0 0, boundO e lo 0 0 with
    | some _, some _, some _ => some .nilS
    | _, _, _ => none
  | .zer sz =>
    match boundO e mx 0 0, boundO e hi 0 0, boundO e lo 0 0 with
    | some _, some _, some _ => some (.zer sz)
    | _, _, _ => none
  | .lst sz rows =>
    match mx with
    | none =>
      match boundO e hi rows.length rows.length with
      | some h => match boundO e lo h 0 with
        | some l => some (.lst sz ((rows.drop l).take (h - l)))
        | none => none
      | none => none
    | some mx =>
      match bound (mx.ev e) rows.length with
      | some m => match boundO e hi m rows.length with
        | some h => match boundO e lo h 0 with
          | some l => if m = l then some (.zer sz) else some (.lst sz ((rows.drop l).take (h - l)))
          | none => none
        | none => none
      | none => none
  | .slc b s n sz z =>
    match mx with
    | none =>
      match boundO e hi n n with
      | some h => match boundO e lo h 0 with
        | some l => some (.slc b (s + l) (h - l) sz z)
        | none => none
      | none => none
    | some mx =>
      match bound (mx.ev e) n with
      | some m => match boundO e hi m n with
        | some h => match boundO e lo h 0 with
          | some l => if m = l then some (.slc b (s + l) 0 sz true) else none
          | none => none
        | none => none
      | none => none
  | _ => none

def evSlS (s : ByteArray) (e : Env) (lo hi : Option Opd) : Option ByteArray :=
  match boundO e hi s.size s.size with
  | some h => match boundO e lo h 0 with
    | some l => some (s.extract l h)
    | none => none
  | none => none

def maxC : Cell → Cell → Option Cell
  | .int k x, .int k' y => if k = k' then some (.int k (if y > x then y else x)) else none
  | _, _ => none
def minC : Cell → Cell → Option Cell
  | .int k x, .int k' y => if k = k' then some (.int k (if y < x then y else x)) else none
  | _, _ => none
def foldC (f : Cell → Cell → Option Cell) (e : Env) : Cell → List Opd → Option Cell
  | x, [] => some x
  | x, y :: r => match y.ev e with
    | .c y => match f x y with | some z => foldC f e z r | none => none
    | _ => none

def evCaps (e : Env) : List Opd → Option (List Cell)
  | [] => some []
  | x :: r => match x.ev e, evCaps e r with | .c c, some cs => some (c :: cs) | _, _ => none

def ofCells (agg : Bool) (cs : List Cell) : Option AVal :=
  if agg then some (.agg cs) else match cs with | [x] => some (.c x) | _ => none

def evApp (H : Heap) (sz bytes : Nat) (x y : Cell) : Option (AVal × Heap) :=
  match H.rowsOf y with
  | none => none
  | some new =>
    if fitsSz sz y then
      match x with
      | .zer sz' => if new.length = 0 then some (.c (.zer sz'), H) else
        if new.length * bytes ≤ 140737488355328 then some (.c (.slc H.length 0 new.length sz false), H ++ [{ sz, rows := new }]) else none
      | .lst sz' rows => if new.length = 0 then some (.c (.lst sz' rows), H) else none
      | .emp sz' => if new.length = 0 then some (.c (.emp sz'), H) else none
      | .nilS => if new.length = 0 then some (.c .nilS, H) else
        if new.length * bytes ≤ 140737488355328 then some (.c (.slc H.length 0 new.length sz false), H ++ [{ sz, rows := new }]) else none
      | .slc b s n sz' z =>
        if new.length = 0 then some (.c (.slc b s n sz' z), H) else
        if sz' = sz ∧ (n + new.length) * bytes ≤ 140737488355328 then
          if z then (if n = 0 then some (.c (.slc H.length 0 new.length sz false), H ++ [{ sz, rows := new }]) else none)
          else match H[b]? with
            | some k => if k.own ∧ k.live ∧ s = 0 ∧ n ≤ k.rows.length then
                some (.c (.slc H.length 0 (n + new.length) sz false), (H.set b { k with live := false }) ++ [{ sz, rows := k.rows.take n ++ new }])
              else none
            | none => none
        else none
      | _ => none
    else none

def ev (o : AOp) (e : Env) (H : Heap) : Option (AVal × Heap) :=
  match o with
  | .mv x => some (x.ev e, H)
  | .pick c x y => match c.ev e with
    | .c (.bool b) => some (if b then x.ev e else y.ev e, H)
    | _ => none
  | .new cs => some (.c (.ptr H.length 0 0), H ++ [{ sz := cs.length, rows := [cs] }])
  | .box x => match x.ev e with
    | .c c => some (.c (.ptr H.length 0 0), H ++ [{ sz := 1, rows := [[c]] }])
    | .agg cs => some (.c (.ptr H.length 0 0), H ++ [{ sz := cs.length, rows := [cs] }])
    | _ => none
  | .build z ps => match fillA z e ps with | some cs => some (.agg cs, H) | none => none
  | .lit sz z len ps => match fillR sz (List.replicate len z) e ps with
    | some rows => some (.c (.slc H.length 0 len sz (len == 0)), H ++ [{ sz, rows }])
    | none => none
  | .load agg n a => match a.ev e with
    | .c (.ptr b i f) => match H.row b i with
      | some r => if f + n ≤ r.length then match ofCells agg ((r.drop f).take n) with | some v => some (v, H) | none => none else none
      | none => none
    | .c (.fp r f) => if f + n ≤ r.length then match ofCells agg ((r.drop f).take n) with | some v => some (v, H) | none => none else none
    | _ => none
  | .loadF agg n a => match a.ev e with
    | .c (.fp r f) => if f + n ≤ r.length then match ofCells agg ((r.drop f).take n) with | some v => some (v, H) | none => none else none
    | _ => none
  | .store n a v => match a.ev e with
    | .c (.ptr b i f) => match H.row b i with
      | some r =>
        let cs := (v.ev e).cells
        if H.mine b ∧ cs.length = n ∧ 0 < n ∧ f + n ≤ r.length then some (undefA, H.put b i (r.take f ++ cs ++ r.drop (f + n))) else none
      | none => none
    | _ => none
  | .chk x => match x.ev e with
    | .c .nilP => none
    | .c .nilI => none
    | .c .nilF => none
    | v => some (v, H)
  | .bin op x y => match x.ev e, y.ev e with
    | .c x, .c y => match evBin op x y with | some c => some (.c c, H) | none => none
    | _, _ => none
  | .binB neg x y => match x.ev e, y.ev e with
    | .c (.bool x), .c (.bool y) => some (.c (.bool (neg != (x == y))), H)
    | _, _ => none
  | .eqNil sl neg x y => match x.ev e, y.ev e with
    | .c x, .c y => match evNil sl x y with | some b => some (.c (.bool (neg != b)), H) | none => none
    | _, _ => none
  | .eqS neg ks x y => match x.ev e, y.ev e with
    | .agg xs, .agg ys => match evEqCells ks xs ys with | some b => some (.c (.bool (neg != b)), H) | none => none
    | _, _ => none
  | .un op x => match x.ev e with
    | .c x => match evUn op x with | some c => some (.c c, H) | none => none
    | _ => none
  | .conv k x => match x.ev e with
    | .c (.int _ n) => some (.c (.int k (k.wrap n)), H)
    | _ => none
  | .strId x => match x.ev e with
    | .c (.str s) => some (.c (.str s), H)
    | _ => none
  | .b2s x => match x.ev e with
    | .c c => match c with
      | .str _ => none
      | c => if fitsSz 1 c then match H.rowsOf c with
        | some rs => match takeBytes rs with | some l => some (.c (.str ⟨l.toArray⟩), H) | none => none
        | none => none else none
    | _ => none
  | .s2b x => match x.ev e with
    | .c (.str s) => if s.size ≤ 140737488355328 then some (.c (.lst 1 ((bytesOf s).map fun c => [c])), H) else none
    | _ => none
  | .mkF f caps => match evCaps e caps with | some cs => some (.c (.fn f cs), H) | none => none
  | .mkI t x => match x.ev e with
    | .c c => some (.c (.iface t false [c]), H)
    | .agg cs => some (.c (.iface t true cs), H)
    | _ => none
  | .make sz bytes z l c => match l.ev e, c.ev e with
    | .c (.int _ l), .c (.int _ c) =>
      if 0 ≤ l ∧ l = c ∧ c * bytes ≤ 140737488355328 ∧ l ≤ 9223372036854775807 then some (.c (.slc H.length 0 l.toNat sz (l.toNat == 0)), H ++ [{ sz, rows := List.replicate l.toNat z }]) else none
    | _, _ => none
  | .sl sz x lo hi mx => match x.ev e with
    | .c c => if fitsSz sz c then match evSl c e lo hi mx with | some c => some (.c c, H) | none => none else none
    | _ => none
  | .slS x lo hi => match x.ev e with
    | .c (.str s) => match evSlS s e lo hi with | some s => some (.c (.str s), H) | none => none
    | _ => none
  | .fld off x => match x.ev e with
    | .c (.ptr b i f) => some (.c (.ptr b i (f + off)), H)
    | .c (.fp r f) => some (.c (.fp r (f + off)), H)
    | _ => none
  | .fldV agg off n x => match x.ev e with
    | .agg cs => if off + n ≤ cs.length then match ofCells agg ((cs.drop off).take n) with | some v => some (v, H) | none => none else none
    | _ => none
  | .ix sz x i => match x.ev e, i.ev e with
    | .c (.slc b s n sz' _), .c (.int _ i) => if sz' = sz ∧ 0 ≤ i ∧ i < n then some (.c (.ptr b (s + i.toNat) 0), H) else none
    | .c (.lst sz' rows), .c (.int _ i) => if sz' = sz ∧ 0 ≤ i then match rows[i.toNat]? with | some r => some (.c (.fp r 0), H) | none => none else none
    | _, _ => none
  | .ixA len sz x i => match x.ev e, i.ev e with
    | .c (.ptr b r f), .c (.int _ i) => if 0 ≤ i ∧ i < len then some (.c (.ptr b r (f + i.toNat * sz)), H) else none
    | .c (.fp r f), .c (.int _ i) => if 0 ≤ i ∧ i < len then some (.c (.fp r (f + i.toNat * sz)), H) else none
    | _, _ => none
  | .ixS x i => match x.ev e, i.ev e with
    | .c (.str s), .c (.int _ i) => if h : 0 ≤ i ∧ i.toNat < s.size then some (.c (.int .u8 ((s[i.toNat]'h.2).toNat : Int)), H) else none
    | _, _ => none
  | .ixV agg len sz x i => match x.ev e, i.ev e with
    | .agg cs, .c (.int _ i) => if 0 ≤ i ∧ i < len ∧ i.toNat * sz + sz ≤ cs.length then match ofCells agg ((cs.drop (i.toNat * sz)).take sz) with | some v => some (v, H) | none => none else none
    | _, _ => none
  | .ext x i => match x.ev e with
    | .tup vs => match vs[i]? with | some v => some (v, H) | none => none
    | _ => none
  | .len x => match x.ev e with
    | .c .nilS => some (.c (.int .i64 0), H)
    | .c (.slc _ _ n _ _) => some (.c (.int .i64 n), H)
    | .c (.lst _ rows) => some (.c (.int .i64 rows.length), H)
    | .c (.zer _) => some (.c (.int .i64 0), H)
    | .c (.emp _) => some (.c (.int .i64 0), H)
    | _ => none
  | .cap x => match x.ev e with
    | .c .nilS => some (.c (.int .i64 0), H)
    | .c (.zer _) => some (.c (.int .i64 0), H)
    | .c (.slc _ _ _ _ true) => some (.c (.int .i64 0), H)
    | _ => none
  | .lenS x => match x.ev e with
    | .c (.str s) => some (.c (.int .i64 s.size), H)
    | _ => none
  | .app sz bytes x y => match x.ev e, y.ev e with
    | .c x, .c y => evApp H sz bytes x y
    | _, _ => none
  | .appZ sz bytes x y => match x.ev e, y.ev e with
    | .c .nilS, .c y => evApp H sz bytes .nilS y
    | .c (.zer s), .c y => evApp H sz bytes (.zer s) y
    | .c (.slc b s n sz' true), .c y => evApp H sz bytes (.slc b s n sz' true) y
    | _, _ => none
  | .appM sz bytes z x n => match x.ev e, n.ev e with
    | .c .nilS, .c (.int _ l) =>
      if 0 < l ∧ l ≤ 9223372036854775807 ∧ l * bytes ≤ 140737488355328 then some (.c (.slc H.length 0 l.toNat sz false), H ++ [{ sz, rows := List.replicate l.toNat z }]) else none
    | _, _ => none
  | .max [] => none
  | .max (x :: r) => match x.ev e with
    | .c x => match foldC maxC e x r with | some c => some (.c c, H) | none => none
    | _ => none
  | .min [] => none
  | .min (x :: r) => match x.ev e with
    | .c x => match foldC minC e x r with | some c => some (.c c, H) | none => none
    | _ => none
  | .call _ _ => none
  | .bad => none

/-! ### What nobody writes any more -/
mutual
/-- Names no block. -/
def closedC : Cell → Bool
  | .ptr _ _ _ => false
  | .slc _ _ _ _ _ => false
  | .fn _ cs => closedCs cs
  | .iface _ _ cs => closedCs cs
  | .lst _ rows => closedR rows
  | .fp row _ => closedCs row
  | _ => true
def closedCs : List Cell → Bool
  | [] => true
  | x :: r => closedC x && closedCs r
def closedR : List (List Cell) → Bool
  | [] => true
  | x :: r => closedCs x && closedR r
end

mutual
def closedA : AVal → Bool
  | .c x => closedC x
  | .agg xs => closedCs xs
  | .tup xs => closedAs xs
def closedAs : List AVal → Bool
  | [] => true
  | x :: r => closedA x && closedAs r
end

mutual
/-- What a cell reads as once nobody writes block 'b', which is 'k'. -/
def Cell.frz (b : Nat) (k : Blk) : Cell → Cell
  | .slc b' s n sz z => if b' = b ∧ s + n ≤ k.rows.length then (if z then .zer sz else .lst sz ((k.rows.drop s).take n)) else .slc b' s n sz z
  | .ptr b' i f => if b' = b then match k.rows[i]? with | some r => .fp r f | none => .ptr b' i f else .ptr b' i f
  | .fn f cs => .fn f (frzs b k cs)
  | .iface t a cs => .iface t a (frzs b k cs)
  | c => c
def frzs (b : Nat) (k : Blk) : List Cell → List Cell
  | [] => []
  | x :: r => Cell.frz b k x :: frzs b k r
end

mutual
def AVal.frz (b : Nat) (k : Blk) : AVal → AVal
  | .c x => .c (x.frz b k)
  | .agg xs => .agg (frzs b k xs)
  | .tup xs => .tup (frzAs b k xs)
def frzAs (b : Nat) (k : Blk) : List AVal → List AVal
  | [] => []
  | x :: r => AVal.frz b k x :: frzAs b k r
end

def frzEnv (b : Nat) (k : Blk) (e : Env) : Env := fun t => (e t).frz b k

/-- An empty slice, as one that nobody writes. -/
def weakC : Cell → Option Cell
  | .zer sz => some (.lst sz [])
  | .emp sz => some (.lst sz [])
  | .slc _ _ 0 sz _ => some (.lst sz [])
  | _ => none

/-- The value of an operation that made the blocks 'E', once nobody writes them: 'n' is the first one's number. -/
def frzE (n : Nat) (E : List Blk) (v : AVal) : Option AVal :=
  match E with
  | [] => match v with | .c x => (weakC x).map .c | _ => none
  | [k] => if (k.own && k.live && closedA (v.frz n k)) = true then some (v.frz n k) else none
  | _ => none

/-- What a cell reads as in a heap that nobody writes. -/
def viewC (H : Heap) : Cell → Option Cell
  | .slc b s n sz _ => if n = 0 then some (.lst sz []) else match H[b]? with
    | some k => if k.live ∧ s + n ≤ k.rows.length ∧ closedR ((k.rows.drop s).take n) then some (.lst sz ((k.rows.drop s).take n)) else none
    | none => none
  | .ptr b i f => match H.row b i with
    | some r => if closedCs r then some (.fp r f) else none
    | none => none
  | c => if closedC c then some c else none

def viewCs (H : Heap) : List Cell → Option (List Cell)
  | [] => some []
  | x :: r => match viewC H x, viewCs H r with | some y, some s => some (y :: s) | _, _ => none

def viewFn (H : Heap) : Cell → Option Cell
  | .fn f cs => match viewCs H cs with | some ds => some (.fn f ds) | none => none
  | .iface t a cs => match viewCs H cs with | some ds => some (.iface t a ds) | none => none
  | c => viewC H c

def viewFs (H : Heap) : List Cell → Option (List Cell)
  | [] => some []
  | x :: r => match viewFn H x, viewFs H r with | some y, some s => some (y :: s) | _, _ => none

mutual
def viewA (H : Heap) : AVal → Option AVal
  | .c x => match viewFn H x with | some y => some (.c y) | none => none
  | .agg xs => match viewFs H xs with | some ys => some (.agg ys) | none => none
  | .tup xs => match viewAs H xs with | some ys => some (.tup ys) | none => none
def viewAs (H : Heap) : List AVal → Option (List AVal)
  | [] => some []
  | x :: r => match viewA H x, viewAs H r with | some y, some s => some (y :: s) | _, _ => none
end

/-! ### Runs -/
inductive AExit where
  | normal
  | exit (id : Nat)
  | ret

/-- The block that a value names. -/
def AVal.blk : AVal → Option Nat
  | .c (.slc b _ _ _ _) => some b
  | .c (.ptr b _ _) => some b
  | _ => none

/-- What an operation makes that nobody writes. -/
def mkF (H : Heap) (r : Option (AVal × Heap)) : Option AVal :=
  match r with
  | some (v, H1) => frzE H.length (H1.drop H.length) v
  | none => none

def evF (o : AOp) (e : Env) (H : Heap) : Option AVal :=
  match o with
  | .new _ | .box _ | .lit _ _ _ _ | .appZ _ _ _ _ | .make _ _ _ _ _ => mkF H (ev o e H)
  | .app n b x y => mkF H (ev (.appZ n b x y) e H)
  | _ => none

def goes (g : Option (Nat × Bool)) (e : Env) : Bool :=
  match g with
  | none => true
  | some (t, b) => match e t with | .c (.bool b') => b' == b | _ => false

/-- What is asked for: an operations' list, code, a call. 'd': in a region that draws its order a call changes nothing that was there. -/
inductive J where
  | ops (d : Bool) (l : List AInstr) (e : Env) (H : Heap) (e' : Env) (H' : Heap)
  | code (c : ACode) (e : Env) (H : Heap) (x : AExit) (e' : Env) (H' : Heap)
  | call (f : Nat) (args : List AVal) (H : Heap) (v : AVal) (H' : Heap)

def initEnv (args : List AVal) : Env := fun t => args.getD t undefA

def evRes1 (e : Env) (H : Heap) : ARes → Option AVal
  | .tmp t => some (e t)
  | .cell a agg n => match ev (.load agg n (.t a)) e H with | some (v, _) => some v | none => none

def evRes (e : Env) (H : Heap) (rs : List ARes) : Option AVal :=
  match rs with
  | [r] => evRes1 e H r
  | rs => match rs.mapM (evRes1 e H) with | some vs => some (.tup vs) | none => none

/-- The program: its slim functions, and what is known of others without their code. -/
structure Prog where
  fn : Nat → Option AFun
  prim : Nat → List AVal → Heap → AVal → Heap → Prop

inductive Ev (G : Prog) : J → Prop where
  | nil {d e H} : Ev G (.ops d [] e H e H)
  | op {d i l e H v H1 e' H'} : goes i.guard e = true → i.fz = false → ev i.op e H = some (v, H1) → Ev G (.ops d l (updO e i.dst v) H1 e' H') → Ev G (.ops d (i :: l) e H e' H')
  | opF {d i l e H v e' H'} : goes i.guard e = true → i.fz = true → evF i.op e H = some v → Ev G (.ops d l (updO e i.dst v) H e' H') → Ev G (.ops d (i :: l) e H e' H')
  | off {d i l e H e' H'} : i.op.isBad = false → goes i.guard e = false → Ev G (.ops d l (updO e i.dst undefA) H e' H') → Ev G (.ops d (i :: l) e H e' H')
  | opCall {d i l e H v H1 e' H' fo args f caps} : goes i.guard e = true → i.op = .call fo args → Opd.ev e fo = .c (.fn f caps) →
      Ev G (.call f (args.map (Opd.ev e) ++ caps.map .c) H v H1) → (d = true → H <+: H1) →
      Ev G (.ops d l (updO e i.dst v) H1 e' H') → Ev G (.ops d (i :: l) e H e' H')
  | fz {t c e H x e' H' b k} : (e t).blk = some b → H[b]? = some k → k.own = true → k.live = true → Ev G (.code c (frzEnv b k e) (H.kill b) x e' H') → Ev G (.code (.fz t c) e H x e' H')
  | fz0 {t c e H x e' H' y z} : e t = .c y → (y = z ∨ ∃ sz, z = .lst sz [] ∧ (y = .nilS ∨ y = .zer sz)) → Ev G (.code c (upd e t (.c z)) H x e' H') → Ev G (.code (.fz t c) e H x e' H')
  | skip {e H} : Ev G (.code .skip e H .normal e H)
  | region {l d e H e' H'} : Ev G (.ops d l e H e' H') → Ev G (.code (.region l d) e H .normal e' H')
  | seq {a b e H e1 H1 x e' H'} : Ev G (.code a e H .normal e1 H1) → Ev G (.code b e1 H1 x e' H') → Ev G (.code (.seq a b) e H x e' H')
  | seqOut {a b e H x e' H'} : x ≠ .normal → Ev G (.code a e H x e' H') → Ev G (.code (.seq a b) e H x e' H')
  | cond {c a b t e H x e' H'} : Opd.ev e c = .c (.bool t) → Ev G (.code (if t then a else b) e H x e' H') → Ev G (.code (.cond c a b) e H x e' H')
  | block {id a e H x e' H'} : Ev G (.code a e H x e' H') → x ≠ .exit id → Ev G (.code (.block id a) e H x e' H')
  | blockExit {id a e H e' H'} : Ev G (.code a e H (.exit id) e' H') → Ev G (.code (.block id a) e H .normal e' H')
  | loop {a e H e1 H1 x e' H'} : Ev G (.code a e H .normal e1 H1) → Ev G (.code (.loop a) e1 H1 x e' H') → Ev G (.code (.loop a) e H x e' H')
  | loopOut {a e H x e' H'} : x ≠ .normal → Ev G (.code a e H x e' H') → Ev G (.code (.loop a) e H x e' H')
  | exit {id e H} : Ev G (.code (.exit id) e H (.exit id) e H)
  | ret {e H} : Ev G (.code .ret e H .ret e H)
  | call {f fn args H x e' H' v} : G.fn f = some fn → Ev G (.code fn.body (initEnv args) H x e' H') → (x = .normal ∨ x = .ret) → evRes e' H' fn.res = some v →
      Ev G (.call f args H v H')
  | prim {f args H v H'} : G.prim f args H v H' → Ev G (.call f args H v H')

end Go.Proofs.Ytfbkolkkpkonfaa.Eng
