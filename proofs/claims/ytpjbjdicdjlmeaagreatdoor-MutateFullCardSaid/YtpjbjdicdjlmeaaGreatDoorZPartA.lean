/- Texts that this claim's proof needs, joined. No statement of the seat is proved here. -/
import Derived.Calls
import Derived.Orders
import Derived.Eval
import Derived.KernelRfl
import Derived.Laws.AppendOwn
import Derived.Laws.World
import Derived.Laws.Cells
import Derived.Below
import Derived.Laws.CopyRow
import Derived.Laws.Append
import Derived.Laws.Entries
import Derived.Laws.BytesString
import Derived.Laws.Slices
import Derived.Laws.StructEq
import Derived.Laws.Tables
import Derived.Laws.MakeOwn

/- The engine, part 1: slim code, an abstract heap, and what the slim code does there. No statement of the seat is proved here. -/
namespace Go.Proofs.YtpjbjdicdjlmeaaGreatDoor.Eng
open Go

/-! ### Values -/
/-- One cell of an abstract value: addresses are (block, row, place in the row); 'lst': a slice that nobody writes any more (nil too, if it is empty); 'zer': an empty slice without room; 'emp': an empty slice that is not nil; 'fp': a pointer into a row that nobody writes any more. -/
inductive Cell where
  | int (k : IntKind) (n : Int)
  | bool (b : Bool)
  | str (s : ByteArray)
  | nilI
  | nilF
  | nilS
  | nilP
  | ptr (b i f : Nat)
  | slc (b s n sz : Nat) (z : Bool)
  | fn (f : Nat) (caps : List Cell)
  | iface (t : Nat) (agg : Bool) (cs : List Cell)
  | lst (sz : Nat) (rows : List (List Cell))
  | zer (sz : Nat)
  | emp (sz : Nat)
  | fp (row : List Cell) (f : Nat)
  deriving Inhabited

inductive AVal where
  | c (x : Cell)
  | agg (xs : List Cell)
  | tup (xs : List AVal)
  deriving Inhabited

def AVal.cells : AVal → List Cell
  | .c x => [x]
  | .agg xs => xs
  | .tup _ => []

/-- A block of the abstract heap: rows of cells; 'own': made by this call, may be written and appended to; not 'live': given up by an append. -/
structure Blk where
  sz : Nat
  rows : List (List Cell)
  own : Bool := true
  live : Bool := true

abbrev Heap := List Blk
abbrev Env := Nat → AVal

def undefA : AVal := .tup []
def upd (e : Env) (d : Nat) (v : AVal) : Env := fun t => if t = d then v else e t
def updO (e : Env) (d : Option Nat) (v : AVal) : Env := match d with | some d => upd e d v | none => e

def Heap.row (H : Heap) (b i : Nat) : Option (List Cell) :=
  match H[b]? with
  | some k => if k.live then k.rows[i]? else none
  | none => none

/-- A row of an own, live block is written anew. -/
def Heap.put (H : Heap) (b i : Nat) (r : List Cell) : Heap :=
  match H[b]? with
  | some k => H.set b { k with rows := k.rows.set i r }
  | none => H

def Heap.kill (H : Heap) (b : Nat) : Heap :=
  match H[b]? with
  | some k => H.set b { k with live := false }
  | none => H

def Heap.mine (H : Heap) (b : Nat) : Bool :=
  match H[b]? with
  | some k => k.own && k.live
  | none => false

/-! ### Slim operations -/
inductive Opd where
  | t (n : Nat)
  | k (v : AVal)
  | f (id : Nat)

def Opd.ev (e : Env) : Opd → AVal
  | .t n => e n
  | .k v => v
  | .f id => .c (.fn id [])

inductive AOp where
  | mv (x : Opd)
  | pick (c x y : Opd)
  | new (cells : List Cell)
  | box (x : Opd)
  | build (zero : List Cell) (parts : List (Nat × Nat × Opd))
  | lit (sz : Nat) (zero : List Cell) (len : Nat) (parts : List (Nat × Opd))
  | load (agg : Bool) (n : Nat) (a : Opd)
  | store (n : Nat) (a v : Opd)
  | chk (x : Opd)
  | bin (op : BinOp) (x y : Opd)
  | binB (neg : Bool) (x y : Opd)
  | eqNil (sl neg : Bool) (x y : Opd)
  | eqS (neg : Bool) (ks : List Nat) (x y : Opd)
  | un (op : UnOp) (x : Opd)
  | conv (k : IntKind) (x : Opd)
  | strId (x : Opd)
  | b2s (x : Opd)
  | s2b (x : Opd)
  | mkF (f : Nat) (caps : List Opd)
  | mkI (t : Nat) (x : Opd)
  | make (sz bytes : Nat) (zero : List Cell) (l c : Opd)
  | sl (sz : Nat) (x : Opd) (lo hi mx : Option Opd)
  | slS (x : Opd) (lo hi : Option Opd)
  | fld (off : Nat) (x : Opd)
  | fldV (agg : Bool) (off n : Nat) (x : Opd)
  | loadF (agg : Bool) (n : Nat) (a : Opd)
  | ix (sz : Nat) (x i : Opd)
  | ixA (len sz : Nat) (x i : Opd)
  | ixS (x i : Opd)
  | ixV (agg : Bool) (len sz : Nat) (x i : Opd)
  | ext (x : Opd) (i : Nat)
  | len (x : Opd)
  | lenS (x : Opd)
  | cap (x : Opd)
  | cpy (sz : Nat) (x y : Opd)
  | clr (sz : Nat) (zero : List Cell) (x : Opd)
  | app (sz bytes : Nat) (x y : Opd)
  | appZ (sz bytes : Nat) (x y : Opd)
  | appM (sz bytes : Nat) (zero : List Cell) (x n : Opd)
  | max (xs : List Opd)
  | min (xs : List Opd)
  | call (f : Opd) (args : List Opd)
  | bad

def AOp.isBad : AOp → Bool
  | .bad => true
  | _ => false

/-- 'fz': what the operation makes is never written: a mark of ours, not of the program's. -/
structure AInstr where
  dst : Option Nat
  op : AOp
  guard : Option (Nat × Bool) := none
  fz : Bool := false

def AInstr.erase (i : AInstr) : AInstr := { i with fz := false }

inductive ACode where
  | skip
  | region (l : List AInstr) (d : Bool)
  | seq (a b : ACode)
  | cond (c : Opd) (a b : ACode)
  | block (id : Nat) (a : ACode)
  | loop (a : ACode)
  | exit (id : Nat)
  | ret
  | bad
  /-- From here on nobody writes the block that place 't' names: a mark of ours. -/
  | fz (t : Nat) (a : ACode)

def ACode.erase : ACode → ACode
  | .region l d => .region (l.map AInstr.erase) d
  | .seq a b => .seq a.erase b.erase
  | .cond c a b => .cond c a.erase b.erase
  | .block id a => .block id a.erase
  | .loop a => .loop a.erase
  | .fz _ a => a.erase
  | c => c

inductive ARes where
  | tmp (t : Nat)
  | cell (a : Nat) (agg : Bool) (n : Nat)

structure AFun where
  res : List ARes
  body : ACode

def AFun.erase (f : AFun) : AFun := { f with body := f.body.erase }

/-! ### What an operation does -/
def evBin (op : BinOp) (x y : Cell) : Option Cell :=
  match x, y with
  | .int k a, .int k' b =>
    match op with
    | .shl => if 0 ≤ b then some (.int k (k.wrap (a * 2 ^ (Nat.min b.toNat k.bits)))) else none
    | .shr => if 0 ≤ b then some (.int k (a.fdiv (2 ^ (Nat.min b.toNat k.bits)))) else none
    | op => if k = k' then
      match op with
      | .add => some (.int k (k.wrap (a + b)))
      | .sub => some (.int k (k.wrap (a - b)))
      | .mul => some (.int k (k.wrap (a * b)))
      | .quo => if b = 0 then none else some (.int k (k.wrap (a.tdiv b)))
      | .rem => if b = 0 then none else some (.int k (a.tmod b))
      | .and => some (.int k (k.wrap (BitVec.ofInt k.bits a &&& BitVec.ofInt k.bits b).toNat))
      | .or => some (.int k (k.wrap (BitVec.ofInt k.bits a ||| BitVec.ofInt k.bits b).toNat))
      | .xor => some (.int k (k.wrap (BitVec.ofInt k.bits a ^^^ BitVec.ofInt k.bits b).toNat))
      | .andNot => some (.int k (k.wrap (BitVec.ofInt k.bits a &&& ~~~(BitVec.ofInt k.bits b)).toNat))
      | .eql => some (.bool (decide (a = b)))
      | .neq => some (.bool (!decide (a = b)))
      | .lss => some (.bool (decide (a < b)))
      | .leq => some (.bool (decide (a ≤ b)))
      | .gtr => some (.bool (decide (b < a)))
      | .geq => some (.bool (decide (b ≤ a)))
      | _ => none
      else none
  | .str a, .str b =>
    match op with
    | .add => if a.size + b.size ≤ 9223372036854775807 then some (.str (a ++ b)) else none
    | .eql => some (.bool (decide (a = b)))
    | .neq => some (.bool (!decide (a = b)))
    | .lss => some (.bool (Op.bytesLess a.toList b.toList))
    | .geq => some (.bool (!Op.bytesLess a.toList b.toList))
    | .gtr => some (.bool (!(Op.bytesLess a.toList b.toList || decide (a = b))))
    | .leq => some (.bool (Op.bytesLess a.toList b.toList || decide (a = b)))
    | _ => none
  | _, _ => none

/-- '==' against nil: of a slice ('sl'), of an interface value. -/
def evNil (sl : Bool) (x y : Cell) : Option Bool :=
  match sl, x, y with
  | true, .nilS, .nilS => some true
  | true, .slc _ _ _ _ _, .nilS => some false
  | true, .nilS, .slc _ _ _ _ _ => some false
  | true, .lst _ (_ :: _), .nilS => some false
  | true, .nilS, .lst _ (_ :: _) => some false
  | true, .emp _, .nilS => some false
  | true, .nilS, .emp _ => some false
  | false, .iface _ _ _, .nilI => some false
  | false, .nilI, .iface _ _ _ => some false
  | false, .nilI, .nilI => some true
  | _, _, _ => none

/-- Equality of two plain cells: 0: whole numbers, 1: texts, 2: bools. -/
def evEqCell (k : Nat) (x y : Cell) : Option Bool :=
  match k, x, y with
  | 0, .int k a, .int k' b => if k = k' then some (decide (a = b)) else none
  | 1, .str a, .str b => some (decide (a = b))
  | 2, .bool a, .bool b => some (a == b)
  | _, _, _ => none

def evEqCells : List Nat → List Cell → List Cell → Option Bool
  | [], [], [] => some true
  | k :: ks, x :: xs, y :: ys =>
    match evEqCell k x y with
    | some b => match evEqCells ks xs ys with
      | some r => some (b && r)
      | none => none
    | none => none
  | _, _, _ => none

def evUn (op : UnOp) (x : Cell) : Option Cell :=
  match op, x with
  | .neg, .int k n => some (.int k (k.wrap (0 - n)))
  | .xor, .int k n => some (.int k (k.wrap (BitVec.ofInt k.bits (if k.signed then -1 else k.max) ^^^ BitVec.ofInt k.bits n).toNat))
  | .not, .bool b => some (.bool !b)
  | _, _ => none

def bytesOf (s : ByteArray) : List Cell := s.data.toList.map fun b => .int .u8 (b.toNat : Int)

/-- The bytes of cells that are bytes. -/
def takeBytes : List (List Cell) → Option (List UInt8)
  | [] => some []
  | [.int .u8 n] :: r => match takeBytes r with | some l => some (UInt8.ofNat n.toNat :: l) | none => none
  | _ => none

/-- The rows of a slice. -/
def Heap.rowsOf (H : Heap) (x : Cell) : Option (List (List Cell)) :=
  match x with
  | .nilS => some []
  | .slc b s n _ _ =>
    if n = 0 then some [] else
    match H[b]? with
    | some k => if k.live ∧ s + n ≤ k.rows.length then some ((k.rows.drop s).take n) else none
    | none => none
  | .str s => some ((bytesOf s).map fun c => [c])
  | .lst _ rows => some rows
  | .zer _ => some []
  | .emp _ => some []
  | _ => none

def fitsSz (sz : Nat) : Cell → Bool
  | .nilS => true
  | .slc _ _ _ sz' _ => sz' == sz
  | .str _ => sz == 1
  | .lst sz' _ => sz' == sz
  | .zer sz' => sz' == sz
  | .emp sz' => sz' == sz
  | _ => false

def fillA (zero : List Cell) (e : Env) : List (Nat × Nat × Opd) → Option (List Cell)
  | [] => some zero
  | (off, n, x) :: r =>
    let cs := (x.ev e).cells
    if cs.length = n ∧ off + n ≤ zero.length then fillA (zero.take off ++ cs ++ zero.drop (off + n)) e r else none

def fillR (sz : Nat) (rows : List (List Cell)) (e : Env) : List (Nat × Opd) → Option (List (List Cell))
  | [] => some rows
  | (i, x) :: r =>
    let cs := (x.ev e).cells
    if cs.length = sz ∧ i < rows.length then fillR sz (rows.set i cs) e r else none

/-- A bound of a slice expression. -/
def bound (v : AVal) (y : Nat) : Option Nat :=
  match v with
  | .c (.int _ i) => if 0 ≤ i ∧ i ≤ y then some i.toNat else none
  | _ => none

def boundO (e : Env) (x : Option Opd) (y d : Nat) : Option Nat :=
  match x with
  | some x => bound (x.ev e) y
  | none => some d

/-- Slicing what has n elements (and room for no fewer). -/
def evSl (x : Cell) (e : Env) (lo hi mx : Option Opd) : Option Cell :=
  match x with
  | .nilS =>
    match boundO e mx 0 0, boundO e hi 0 0, boundO e lo 0 0 with
    | some _, some _, some _ => some .nilS
    | _, _, _ => none
  | .zer sz =>
    match boundO e mx 0 0, boundO e hi 0 0, boundO e lo 0 0 with
    | some _, some _, some _ => some (.zer sz)
    | _, _, _ => none
  | .lst sz rows =>
    match mx with
    | none =>
      match boundO e hi rows.length rows.length with
      | some h => match boundO e lo h 0 with
        | some l => some (.lst sz ((rows.drop l).take (h - l)))
        | none => none
      | none => none
    | some mx =>
      match bound (mx.ev e) rows.length with
      | some m => match boundO e hi m rows.length with
        | some h => match boundO e lo h 0 with
          | some l => if m = l then some (.zer sz) else some (.lst sz ((rows.drop l).take (h - l)))
          | none => none
        | none => none
      | none => none
  | .slc b s n sz z =>
    match mx with
    | none =>
      match boundO e hi n n with
      | some h => match boundO e lo h 0 with
        | some l => some (.slc b (s + l) (h - l) sz z)
        | none => none
      | none => none
    | some mx =>
      match bound (mx.ev e) n with
      | some m => match boundO e hi m n with
        | some h => match boundO e lo h 0 with
          | some l => if m = l then some (.slc b (s + l) 0 sz true) else none
          | none => none
        | none => none
      | none => none
  | _ => none

def evSlS (s : ByteArray) (e : Env) (lo hi : Option Opd) : Option ByteArray :=
  match boundO e hi s.size s.size with
  | some h => match boundO e lo h 0 with
    | some l => some (s.extract l h)
    | none => none
  | none => none

def maxC : Cell → Cell → Option Cell
  | .int k x, .int k' y => if k = k' then some (.int k (if y > x then y else x)) else none
  | _, _ => none
def minC : Cell → Cell → Option Cell
  | .int k x, .int k' y => if k = k' then some (.int k (if y < x then y else x)) else none
  | _, _ => none
def foldC (f : Cell → Cell → Option Cell) (e : Env) : Cell → List Opd → Option Cell
  | x, [] => some x
  | x, y :: r => match y.ev e with
    | .c y => match f x y with | some z => foldC f e z r | none => none
    | _ => none

def evCaps (e : Env) : List Opd → Option (List Cell)
  | [] => some []
  | x :: r => match x.ev e, evCaps e r with | .c c, some cs => some (c :: cs) | _, _ => none

def ofCells (agg : Bool) (cs : List Cell) : Option AVal :=
  if agg then some (.agg cs) else match cs with | [x] => some (.c x) | _ => none

/-- A copy of all rows of one slice, or of a text, into a slice that has room. -/
def evCpy (H : Heap) (sz : Nat) (x y : Cell) : Option (AVal × Heap) :=
  match x with
  | .slc b o n sz' _ =>
    match H.rowsOf y with
    | none => none
    | some rs =>
      match H[b]? with
      | none => none
      | some k =>
        if sz' = sz ∧ fitsSz sz y = true ∧ k.own = true ∧ k.live = true ∧ 0 < n ∧ rs.length ≤ n ∧ o + n ≤ k.rows.length then
          some (.c (.int .i64 rs.length), H.set b { k with rows := k.rows.take o ++ rs ++ k.rows.drop (o + rs.length) })
        else none
  | _ => none

/-- All rows of a slice are made zero. -/
def evClr (H : Heap) (sz : Nat) (z : List Cell) (x : Cell) : Option (AVal × Heap) :=
  match x with
  | .nilS => some (.tup [], H)
  | .slc b o n sz' _ =>
    if n = 0 then some (.tup [], H) else
      match H[b]? with
      | none => none
      | some k =>
        if sz' = sz ∧ k.own = true ∧ k.live = true ∧ o + n ≤ k.rows.length then
          some (.tup [], H.set b { k with rows := k.rows.take o ++ List.replicate n z ++ k.rows.drop (o + n) })
        else none
  | _ => none

def evApp (H : Heap) (sz bytes : Nat) (x y : Cell) : Option (AVal × Heap) :=
  match H.rowsOf y with
  | none => none
  | some new =>
    if fitsSz sz y then
      match x with
      | .zer sz' => if new.length = 0 then some (.c (.zer sz'), H) else
        if new.length * bytes ≤ 140737488355328 then some (.c (.slc H.length 0 new.length sz false), H ++ [{ sz, rows := new }]) else none
      | .lst sz' rows => if new.length = 0 then some (.c (.lst sz' rows), H) else none
      | .emp sz' => if new.length = 0 then some (.c (.emp sz'), H) else none
      | .nilS => if new.length = 0 then some (.c .nilS, H) else
        if new.length * bytes ≤ 140737488355328 then some (.c (.slc H.length 0 new.length sz false), H ++ [{ sz, rows := new }]) else none
      | .slc b s n sz' z =>
        if new.length = 0 then some (.c (.slc b s n sz' z), H) else
        if sz' = sz ∧ (n + new.length) * bytes ≤ 140737488355328 then
          if z then (if n = 0 then some (.c (.slc H.length 0 new.length sz false), H ++ [{ sz, rows := new }]) else none)
          else match H[b]? with
            | some k => if k.own ∧ k.live ∧ s = 0 ∧ n ≤ k.rows.length then
                some (.c (.slc H.length 0 (n + new.length) sz false), (H.set b { k with live := false }) ++ [{ sz, rows := k.rows.take n ++ new }])
              else none
            | none => none
        else none
      | _ => none
    else none

def ev (o : AOp) (e : Env) (H : Heap) : Option (AVal × Heap) :=
  match o with
  | .mv x => some (x.ev e, H)
  | .pick c x y => match c.ev e with
    | .c (.bool b) => some (if b then x.ev e else y.ev e, H)
    | _ => none
  | .new cs => some (.c (.ptr H.length 0 0), H ++ [{ sz := cs.length, rows := [cs] }])
  | .box x => match x.ev e with
    | .c c => some (.c (.ptr H.length 0 0), H ++ [{ sz := 1, rows := [[c]] }])
    | .agg cs => some (.c (.ptr H.length 0 0), H ++ [{ sz := cs.length, rows := [cs] }])
    | _ => none
  | .build z ps => match fillA z e ps with | some cs => some (.agg cs, H) | none => none
  | .lit sz z len ps => match fillR sz (List.replicate len z) e ps with
    | some rows => some (.c (.slc H.length 0 len sz (len == 0)), H ++ [{ sz, rows }])
    | none => none
  | .load agg n a => match a.ev e with
    | .c (.ptr b i f) => match H.row b i with
      | some r => if f + n ≤ r.length then match ofCells agg ((r.drop f).take n) with | some v => some (v, H) | none => none else none
      | none => none
    | .c (.fp r f) => if f + n ≤ r.length then match ofCells agg ((r.drop f).take n) with | some v => some (v, H) | none => none else none
    | _ => none
  | .loadF agg n a => match a.ev e with
    | .c (.fp r f) => if f + n ≤ r.length then match ofCells agg ((r.drop f).take n) with | some v => some (v, H) | none => none else none
    | _ => none
  | .store n a v => match a.ev e with
    | .c (.ptr b i f) => match H.row b i with
      | some r =>
        let cs := (v.ev e).cells
        if H.mine b ∧ cs.length = n ∧ 0 < n ∧ f + n ≤ r.length then some (undefA, H.put b i (r.take f ++ cs ++ r.drop (f + n))) else none
      | none => none
    | _ => none
  | .chk x => match x.ev e with
    | .c .nilP => none
    | .c .nilI => none
    | .c .nilF => none
    | v => some (v, H)
  | .bin op x y => match x.ev e, y.ev e with
    | .c x, .c y => match evBin op x y with | some c => some (.c c, H) | none => none
    | _, _ => none
  | .binB neg x y => match x.ev e, y.ev e with
    | .c (.bool x), .c (.bool y) => some (.c (.bool (neg != (x == y))), H)
    | _, _ => none
  | .eqNil sl neg x y => match x.ev e, y.ev e with
    | .c x, .c y => match evNil sl x y with | some b => some (.c (.bool (neg != b)), H) | none => none
    | _, _ => none
  | .eqS neg ks x y => match x.ev e, y.ev e with
    | .agg xs, .agg ys => match evEqCells ks xs ys with | some b => some (.c (.bool (neg != b)), H) | none => none
    | _, _ => none
  | .un op x => match x.ev e with
    | .c x => match evUn op x with | some c => some (.c c, H) | none => none
    | _ => none
  | .conv k x => match x.ev e with
    | .c (.int _ n) => some (.c (.int k (k.wrap n)), H)
    | _ => none
  | .strId x => match x.ev e with
    | .c (.str s) => some (.c (.str s), H)
    | _ => none
  | .b2s x => match x.ev e with
    | .c c => match c with
      | .str _ => none
      | c => if fitsSz 1 c then match H.rowsOf c with
        | some rs => match takeBytes rs with | some l => some (.c (.str ⟨l.toArray⟩), H) | none => none
        | none => none else none
    | _ => none
  | .s2b x => match x.ev e with
    | .c (.str s) => if s.size ≤ 140737488355328 then some (.c (.lst 1 ((bytesOf s).map fun c => [c])), H) else none
    | _ => none
  | .mkF f caps => match evCaps e caps with | some cs => some (.c (.fn f cs), H) | none => none
  | .mkI t x => match x.ev e with
    | .c c => some (.c (.iface t false [c]), H)
    | .agg cs => some (.c (.iface t true cs), H)
    | _ => none
  | .make sz bytes z l c => match l.ev e, c.ev e with
    | .c (.int _ l), .c (.int _ c) =>
      if 0 ≤ l ∧ l = c ∧ c * bytes ≤ 140737488355328 ∧ l ≤ 9223372036854775807 then some (.c (.slc H.length 0 l.toNat sz (l.toNat == 0)), H ++ [{ sz, rows := List.replicate l.toNat z }]) else none
    | _, _ => none
  | .sl sz x lo hi mx => match x.ev e with
    | .c c => if fitsSz sz c then match evSl c e lo hi mx with | some c => some (.c c, H) | none => none else none
    | _ => none
  | .slS x lo hi => match x.ev e with
    | .c (.str s) => match evSlS s e lo hi with | some s => some (.c (.str s), H) | none => none
    | _ => none
  | .fld off x => match x.ev e with
    | .c (.ptr b i f) => some (.c (.ptr b i (f + off)), H)
    | .c (.fp r f) => some (.c (.fp r (f + off)), H)
    | _ => none
  | .fldV agg off n x => match x.ev e with
    | .agg cs => if off + n ≤ cs.length then match ofCells agg ((cs.drop off).take n) with | some v => some (v, H) | none => none else none
    | _ => none
  | .ix sz x i => match x.ev e, i.ev e with
    | .c (.slc b s n sz' _), .c (.int _ i) => if sz' = sz ∧ 0 ≤ i ∧ i < n then some (.c (.ptr b (s + i.toNat) 0), H) else none
    | .c (.lst sz' rows), .c (.int _ i) => if sz' = sz ∧ 0 ≤ i then match rows[i.toNat]? with | some r => some (.c (.fp r 0), H) | none => none else none
    | _, _ => none
  | .ixA len sz x i => match x.ev e, i.ev e with
    | .c (.ptr b r f), .c (.int _ i) => if 0 ≤ i ∧ i < len then some (.c (.ptr b r (f + i.toNat * sz)), H) else none
    | .c (.fp r f), .c (.int _ i) => if 0 ≤ i ∧ i < len then some (.c (.fp r (f + i.toNat * sz)), H) else none
    | _, _ => none
  | .ixS x i => match x.ev e, i.ev e with
    | .c (.str s), .c (.int _ i) => if h : 0 ≤ i ∧ i.toNat < s.size then some (.c (.int .u8 ((s[i.toNat]'h.2).toNat : Int)), H) else none
    | _, _ => none
  | .ixV agg len sz x i => match x.ev e, i.ev e with
    | .agg cs, .c (.int _ i) => if 0 ≤ i ∧ i < len ∧ i.toNat * sz + sz ≤ cs.length then match ofCells agg ((cs.drop (i.toNat * sz)).take sz) with | some v => some (v, H) | none => none else none
    | _, _ => none
  | .ext x i => match x.ev e with
    | .tup vs => match vs[i]? with | some v => some (v, H) | none => none
    | _ => none
  | .len x => match x.ev e with
    | .c .nilS => some (.c (.int .i64 0), H)
    | .c (.slc _ _ n _ _) => some (.c (.int .i64 n), H)
    | .c (.lst _ rows) => some (.c (.int .i64 rows.length), H)
    | .c (.zer _) => some (.c (.int .i64 0), H)
    | .c (.emp _) => some (.c (.int .i64 0), H)
    | _ => none
  | .cap x => match x.ev e with
    | .c .nilS => some (.c (.int .i64 0), H)
    | .c (.zer _) => some (.c (.int .i64 0), H)
    | .c (.slc _ _ _ _ true) => some (.c (.int .i64 0), H)
    | _ => none
  | .lenS x => match x.ev e with
    | .c (.str s) => some (.c (.int .i64 s.size), H)
    | _ => none
  | .cpy sz x y => match x.ev e, y.ev e with
    | .c x, .c y => evCpy H sz x y
    | _, _ => none
  | .clr sz z x => match x.ev e with
    | .c x => evClr H sz z x
    | _ => none
  | .app sz bytes x y => match x.ev e, y.ev e with
    | .c x, .c y => evApp H sz bytes x y
    | _, _ => none
  | .appZ sz bytes x y => match x.ev e, y.ev e with
    | .c .nilS, .c y => evApp H sz bytes .nilS y
    | .c (.zer s), .c y => evApp H sz bytes (.zer s) y
    | .c (.slc b s n sz' true), .c y => evApp H sz bytes (.slc b s n sz' true) y
    | _, _ => none
  | .appM sz bytes z x n => match x.ev e, n.ev e with
    | .c .nilS, .c (.int _ l) =>
      if 0 < l ∧ l ≤ 9223372036854775807 ∧ l * bytes ≤ 140737488355328 then some (.c (.slc H.length 0 l.toNat sz false), H ++ [{ sz, rows := List.replicate l.toNat z }]) else none
    | _, _ => none
  | .max [] => none
  | .max (x :: r) => match x.ev e with
    | .c x => match foldC maxC e x r with | some c => some (.c c, H) | none => none
    | _ => none
  | .min [] => none
  | .min (x :: r) => match x.ev e with
    | .c x => match foldC minC e x r with | some c => some (.c c, H) | none => none
    | _ => none
  | .call _ _ => none
  | .bad => none

/-! ### What nobody writes any more -/
mutual
/-- Names no block. -/
def closedC : Cell → Bool
  | .ptr _ _ _ => false
  | .slc _ _ _ _ _ => false
  | .fn _ cs => closedCs cs
  | .iface _ _ cs => closedCs cs
  | .lst _ rows => closedR rows
  | .fp row _ => closedCs row
  | _ => true
def closedCs : List Cell → Bool
  | [] => true
  | x :: r => closedC x && closedCs r
def closedR : List (List Cell) → Bool
  | [] => true
  | x :: r => closedCs x && closedR r
end

mutual
def closedA : AVal → Bool
  | .c x => closedC x
  | .agg xs => closedCs xs
  | .tup xs => closedAs xs
def closedAs : List AVal → Bool
  | [] => true
  | x :: r => closedA x && closedAs r
end

mutual
/-- What a cell reads as once nobody writes block 'b', which is 'k'. -/
def Cell.frz (b : Nat) (k : Blk) : Cell → Cell
  | .slc b' s n sz z => if b' = b ∧ s + n ≤ k.rows.length then (if z then .zer sz else .lst sz ((k.rows.drop s).take n)) else .slc b' s n sz z
  | .ptr b' i f => if b' = b then match k.rows[i]? with | some r => .fp r f | none => .ptr b' i f else .ptr b' i f
  | .fn f cs => .fn f (frzs b k cs)
  | .iface t a cs => .iface t a (frzs b k cs)
  | c => c
def frzs (b : Nat) (k : Blk) : List Cell → List Cell
  | [] => []
  | x :: r => Cell.frz b k x :: frzs b k r
end

mutual
def AVal.frz (b : Nat) (k : Blk) : AVal → AVal
  | .c x => .c (x.frz b k)
  | .agg xs => .agg (frzs b k xs)
  | .tup xs => .tup (frzAs b k xs)
def frzAs (b : Nat) (k : Blk) : List AVal → List AVal
  | [] => []
  | x :: r => AVal.frz b k x :: frzAs b k r
end

def frzEnv (b : Nat) (k : Blk) (e : Env) : Env := fun t => (e t).frz b k
/-- A heap whose block 'b' is given up, in the rows of the others too. -/
def Heap.frzH (H : Heap) (b : Nat) (k : Blk) : Heap := (H.set b { k with live := false }).map fun q => { q with rows := q.rows.map (frzs b k) }

/-- An empty slice, as one that nobody writes. -/
def weakC : Cell → Option Cell
  | .zer sz => some (.lst sz [])
  | .emp sz => some (.lst sz [])
  | .slc _ _ 0 sz _ => some (.lst sz [])
  | _ => none

/-- The value of an operation that made the blocks 'E', once nobody writes them: 'n' is the first one's number. -/
def frzE (n : Nat) (E : List Blk) (v : AVal) : Option AVal :=
  match E with
  | [] => match v with | .c x => (weakC x).map .c | _ => none
  | [k] => if (k.own && k.live && closedA (v.frz n k)) = true then some (v.frz n k) else none
  | _ => none

/-- What a cell reads as in a heap that nobody writes. -/
def viewC (H : Heap) : Cell → Option Cell
  | .slc b s n sz _ => if n = 0 then some (.lst sz []) else match H[b]? with
    | some k => if k.live ∧ s + n ≤ k.rows.length ∧ closedR ((k.rows.drop s).take n) then some (.lst sz ((k.rows.drop s).take n)) else none
    | none => none
  | .ptr b i f => match H.row b i with
    | some r => if closedCs r then some (.fp r f) else none
    | none => none
  | c => if closedC c then some c else none

def viewCs (H : Heap) : List Cell → Option (List Cell)
  | [] => some []
  | x :: r => match viewC H x, viewCs H r with | some y, some s => some (y :: s) | _, _ => none

def viewFn (H : Heap) : Cell → Option Cell
  | .fn f cs => match viewCs H cs with | some ds => some (.fn f ds) | none => none
  | .iface t a cs => match viewCs H cs with | some ds => some (.iface t a ds) | none => none
  | c => viewC H c

def viewFs (H : Heap) : List Cell → Option (List Cell)
  | [] => some []
  | x :: r => match viewFn H x, viewFs H r with | some y, some s => some (y :: s) | _, _ => none

mutual
def viewA (H : Heap) : AVal → Option AVal
  | .c x => match viewFn H x with | some y => some (.c y) | none => none
  | .agg xs => match viewFs H xs with | some ys => some (.agg ys) | none => none
  | .tup xs => match viewAs H xs with | some ys => some (.tup ys) | none => none
def viewAs (H : Heap) : List AVal → Option (List AVal)
  | [] => some []
  | x :: r => match viewA H x, viewAs H r with | some y, some s => some (y :: s) | _, _ => none
end

/-! ### Runs -/
inductive AExit where
  | normal
  | exit (id : Nat)
  | ret

/-- The block that a value names. -/
def AVal.blk : AVal → Option Nat
  | .c (.slc b _ _ _ _) => some b
  | .c (.ptr b _ _) => some b
  | _ => none

/-- What an operation makes that nobody writes. -/
def mkF (H : Heap) (r : Option (AVal × Heap)) : Option AVal :=
  match r with
  | some (v, H1) => frzE H.length (H1.drop H.length) v
  | none => none

def evF (o : AOp) (e : Env) (H : Heap) : Option AVal :=
  match o with
  | .new _ | .box _ | .lit _ _ _ _ | .appZ _ _ _ _ | .make _ _ _ _ _ => mkF H (ev o e H)
  | .app n b x y => mkF H (ev (.appZ n b x y) e H)
  | _ => none

def goes (g : Option (Nat × Bool)) (e : Env) : Bool :=
  match g with
  | none => true
  | some (t, b) => match e t with | .c (.bool b') => b' == b | _ => false

/-- What is asked for: an operations' list, code, a call. 'd': in a region that draws its order a call changes nothing that was there. -/
inductive J where
  | ops (d : Bool) (l : List AInstr) (e : Env) (H : Heap) (e' : Env) (H' : Heap)
  | code (c : ACode) (e : Env) (H : Heap) (x : AExit) (e' : Env) (H' : Heap)
  | call (f : Nat) (args : List AVal) (H : Heap) (v : AVal) (H' : Heap)

def initEnv (args : List AVal) : Env := fun t => args.getD t undefA

def evRes1 (e : Env) (H : Heap) : ARes → Option AVal
  | .tmp t => some (e t)
  | .cell a agg n => match ev (.load agg n (.t a)) e H with | some (v, _) => some v | none => none

def evRes (e : Env) (H : Heap) (rs : List ARes) : Option AVal :=
  match rs with
  | [r] => evRes1 e H r
  | rs => match rs.mapM (evRes1 e H) with | some vs => some (.tup vs) | none => none

/-- The program: its slim functions, and what is known of others without their code. -/
structure Prog where
  fn : Nat → Option AFun
  prim : Nat → List AVal → Heap → AVal → Heap → Prop

inductive Ev (G : Prog) : J → Prop where
  | nil {d e H} : Ev G (.ops d [] e H e H)
  | op {d i l e H v H1 e' H'} : goes i.guard e = true → i.fz = false → ev i.op e H = some (v, H1) → Ev G (.ops d l (updO e i.dst v) H1 e' H') → Ev G (.ops d (i :: l) e H e' H')
  | opF {d i l e H v e' H'} : goes i.guard e = true → i.fz = true → evF i.op e H = some v → Ev G (.ops d l (updO e i.dst v) H e' H') → Ev G (.ops d (i :: l) e H e' H')
  | off {d i l e H e' H'} : i.op.isBad = false → goes i.guard e = false → Ev G (.ops d l (updO e i.dst undefA) H e' H') → Ev G (.ops d (i :: l) e H e' H')
  | opCall {d i l e H v H1 e' H' fo args f caps} : goes i.guard e = true → i.op = .call fo args → Opd.ev e fo = .c (.fn f caps) →
      Ev G (.call f (args.map (Opd.ev e) ++ caps.map .c) H v H1) → (d = true → H <+: H1) →
      Ev G (.ops d l (updO e i.dst v) H1 e' H') → Ev G (.ops d (i :: l) e H e' H')
  | fz {t c e H x e' H' b k} : (e t).blk = some b → H[b]? = some k → k.own = true → k.live = true → Ev G (.code c (frzEnv b k e) (H.kill b) x e' H') → Ev G (.code (.fz t c) e H x e' H')
  | fzH {t c e H x e' H' b k} : (e t).blk = some b → H[b]? = some k → k.own = true → k.live = true → Ev G (.code c (frzEnv b k e) (H.frzH b k) x e' H') → Ev G (.code (.fz t c) e H x e' H')
  | fz0 {t c e H x e' H' y z} : e t = .c y → (y = z ∨ ∃ sz, z = .lst sz [] ∧ (y = .nilS ∨ y = .zer sz)) → Ev G (.code c (upd e t (.c z)) H x e' H') → Ev G (.code (.fz t c) e H x e' H')
  | skip {e H} : Ev G (.code .skip e H .normal e H)
  | region {l d e H e' H'} : Ev G (.ops d l e H e' H') → Ev G (.code (.region l d) e H .normal e' H')
  | seq {a b e H e1 H1 x e' H'} : Ev G (.code a e H .normal e1 H1) → Ev G (.code b e1 H1 x e' H') → Ev G (.code (.seq a b) e H x e' H')
  | seqOut {a b e H x e' H'} : x ≠ .normal → Ev G (.code a e H x e' H') → Ev G (.code (.seq a b) e H x e' H')
  | cond {c a b t e H x e' H'} : Opd.ev e c = .c (.bool t) → Ev G (.code (if t then a else b) e H x e' H') → Ev G (.code (.cond c a b) e H x e' H')
  | block {id a e H x e' H'} : Ev G (.code a e H x e' H') → x ≠ .exit id → Ev G (.code (.block id a) e H x e' H')
  | blockExit {id a e H e' H'} : Ev G (.code a e H (.exit id) e' H') → Ev G (.code (.block id a) e H .normal e' H')
  | loop {a e H e1 H1 x e' H'} : Ev G (.code a e H .normal e1 H1) → Ev G (.code (.loop a) e1 H1 x e' H') → Ev G (.code (.loop a) e H x e' H')
  | loopOut {a e H x e' H'} : x ≠ .normal → Ev G (.code a e H x e' H') → Ev G (.code (.loop a) e H x e' H')
  | exit {id e H} : Ev G (.code (.exit id) e H (.exit id) e H)
  | ret {e H} : Ev G (.code .ret e H .ret e H)
  | call {f fn args H x e' H' v} : G.fn f = some fn → Ev G (.code fn.body (initEnv args) H x e' H') → (x = .normal ∨ x = .ret) → evRes e' H' fn.res = some v →
      Ev G (.call f args H v H')
  | prim {f args H v H'} : G.prim f args H v H' → Ev G (.call f args H v H')

end Go.Proofs.YtpjbjdicdjlmeaaGreatDoor.Eng

/- The engine, part 2: from the program's code to slim code. No statement of the seat is proved here. -/
namespace Go.Proofs.YtpjbjdicdjlmeaaGreatDoor.Eng
open Go

def cellOf : Value → Option Cell
  | .int k n => some (.int k n)
  | .bool b => some (.bool b)
  | .string s => some (.str s)
  | .nilIface => some .nilI
  | .nilFunc => some .nilF
  | .slice none 0 0 => some .nilS
  | .pointer none => some .nilP
  | _ => none

def cellsOf : List Value → Option (List Cell)
  | [] => some []
  | v :: r => match cellOf v, cellsOf r with | some c, some cs => some (c :: cs) | _, _ => none

def avalOf : Value → Option AVal
  | .agg cs => match cellsOf cs.toList with | some l => some (.agg l) | none => none
  | v => match cellOf v with | some c => some (.c c) | none => none

def cmpOpd : Operand → Option Opd
  | .tmp t => some (.t t)
  | .const v => match avalOf v with | some a => some (.k a) | none => none
  | .func f => some (.f f)
  | .global _ => none

def cmpOpds : List Operand → Option (List Opd)
  | [] => some []
  | x :: r => match cmpOpd x, cmpOpds r with | some y, some ys => some (y :: ys) | _, _ => none

def cmpO : Option Operand → Option (Option Opd)
  | none => some none
  | some x => match cmpOpd x with | some y => some (some y) | none => none

def isAggT (P : Program) (t : TypeId) : Option Bool :=
  match P.underlying t with
  | some (.struct _) => some true
  | some (.array _ _) => some true
  | some _ => some false
  | none => none

def sizeT (P : Program) (t : TypeId) : Option Nat := (P.info? t).map (·.size)
def bytesT (P : Program) (t : TypeId) : Option Nat := (P.info? t).map (·.bytes)
def zeroT (P : Program) (t : TypeId) : Option (List Cell) :=
  match (P.info? t).bind (·.zero) with
  | some v => cellsOf v.cells.toList
  | none => none

/-- A struct type of plain leaves: of each leaf its kind (0: a whole number, 1: a text, 2: a bool). -/
def leaves (P : Program) : Nat → TypeId → Option (List Nat)
  | 0, _ => none
  | d + 1, t =>
    match P.underlying t with
    | some .bool => some [2]
    | some (.int _) => some [0]
    | some .string => some [1]
    | some (.struct fs) =>
      if P.stoodInHeld t then none else
      fs.toList.foldl (fun acc f => match acc with
        | some l => if f.name ≠ "_" ∧ f.offset = l.length then
            match leaves P d f.type with
            | some r => if sizeT P f.type = some r.length then some (l ++ r) else none
            | none => none
          else none
        | none => none) (some [])
    | _ => none

def partsB (P : Program) (fs : Array Field) : List (Nat × Operand) → Option (List (Nat × Nat × Opd))
  | [] => some []
  | (i, x) :: r =>
    match fs[i]?, cmpOpd x, partsB P fs r with
    | some f, some y, some ys => match sizeT P f.type with | some n => some ((f.offset, n, y) :: ys) | none => none
    | _, _, _ => none

def partsL : List (Nat × Operand) → Option (List (Nat × Opd))
  | [] => some []
  | (i, x) :: r => match cmpOpd x, partsL r with | some y, some ys => some ((i, y) :: ys) | _, _ => none

/-- What an append may take its elements from: a slice of the same elements, a text. -/
def srcOk (e : TypeId) : TypeDesc → Bool
  | .slice e' => e' == e
  | .string => true
  | _ => false

def cmpCall (P : Program) (c : Call) : Option AOp :=
  match c.callee with
  | .value f => match cmpOpd f, cmpOpds c.args.toList with | some f, some xs => some (.call f xs) | _, _ => none
  | .invoke _ _ => none
  | .builtin .len => match c.argTypes.toList, c.args.toList with
    | [t], [x] => match P.underlying t, cmpOpd x with
      | some .string, some y => some (.lenS y)
      | some (.slice _), some y => some (.len y)
      | _, _ => none
    | _, _ => none
  | .builtin .cap => match c.argTypes.toList, c.args.toList with
    | [t], [x] => match P.underlying t, cmpOpd x with
      | some (.slice _), some y => some (.cap y)
      | _, _ => none
    | _, _ => none
  | .builtin .append => match c.argTypes.toList, c.args.toList with
    | [t, u], [x, y] => match P.underlying t, P.underlying u, cmpOpd x, cmpOpd y with
      | some (.slice e), some d, some x, some y => match sizeT P e, bytesT P e, zeroT P e with
          | some n, some b, some z => if 0 < n ∧ 0 < b ∧ z.length = n then (if srcOk e d = true then some (.app n b x y) else match d with | .int _ => some (.appM n b z x y) | _ => none) else none
          | _, _, _ => none
      | _, _, _, _ => none
    | _, _ => none
  | .builtin .copy => match c.argTypes.toList, c.args.toList with
    | [t, _], [x, y] => match P.underlying t, cmpOpd x, cmpOpd y with
      | some (.slice e), some x, some y => match sizeT P e with
          | some n => if 0 < n then some (.cpy n x y) else none
          | none => none
      | _, _, _ => none
    | _, _ => none
  | .builtin .clear => match c.argTypes.toList, c.args.toList with
    | [t], [x] => match P.underlying t, cmpOpd x with
      | some (.slice e), some x => match sizeT P e, zeroT P e with
          | some n, some z => if 0 < n ∧ z.length = n then some (.clr n z x) else none
          | _, _ => none
      | _, _ => none
    | _, _ => none
  | .builtin .max => match cmpOpds c.args.toList with | some xs => some (.max xs) | none => none
  | .builtin .min => match cmpOpds c.args.toList with | some xs => some (.min xs) | none => none
  | _ => none

def nilConst : Operand → Bool
  | .const (.slice none 0 0) => true
  | .const .nilIface => true
  | .const (.pointer none) => true
  | .const .nilFunc => true
  | _ => false

def cmpBin (P : Program) (op : BinOp) (t : TypeId) (x y : Operand) : Option AOp :=
  match cmpOpd x, cmpOpd y with
  | some a, some b =>
    match P.underlying t with
    | some (.int _) => some (.bin op a b)
    | some .string => some (.bin op a b)
    | some .bool => match op with
      | .eql => some (.binB false a b)
      | .neq => some (.binB true a b)
      | _ => none
    | some (.struct _) => match op, leaves P 8 t with
      | .eql, some ks => if P.eqGuardType P.depth t then none else some (.eqS false ks a b)
      | .neq, some ks => if P.eqGuardType P.depth t then none else some (.eqS true ks a b)
      | _, _ => none
    | some (.slice _) => if nilConst x || nilConst y then match op with
        | .eql => some (.eqNil true false a b)
        | .neq => some (.eqNil true true a b)
        | _ => none
      else none
    | some (.interface _) => if nilConst x || nilConst y then match op with
        | .eql => some (.eqNil false false a b)
        | .neq => some (.eqNil false true a b)
        | _ => none
      else none
    | _ => none
  | _, _ => none

def cmpOp' (P : Program) (o : Oper) : Option AOp :=
  match o.op with
  | .move x => match cmpOpd x with | some y => some (.mv y) | none => none
  | .assign x => match cmpOpd x with | some y => some (.mv y) | none => none
  | .pick c x y => match cmpOpd c, cmpOpd x, cmpOpd y with | some c, some x, some y => some (.pick c x y) | _, _, _ => none
  | .alloc t => match zeroT P t with | some z => some (.new z) | none => none
  | .box _ x => match cmpOpd x with | some y => some (.box y) | none => none
  | .build t parts => match P.underlying t, zeroT P t with
    | some (.struct fs), some z => match partsB P fs parts.toList with
      | some ps => if fs.all (fun f => (sizeT P f.type).isSome) = true ∧ ps.all (fun p => decide (0 < p.2.1)) = true then some (.build z ps) else none
      | none => none
    | _, _ => none
  | .buildSlice t len parts => match P.underlying t with
    | some (.slice e) => match sizeT P e, zeroT P e, partsL parts.toList with
      | some n, some z, some ps => if len * n ≤ 16777216 ∧ z.length = n ∧ 0 < n then some (.lit n z len ps) else none
      | _, _, _ => none
    | _ => none
  | .load t a => match isAggT P t, sizeT P t, cmpOpd a with
    | some g, some n, some a => if g ∨ n = 1 then some (.load g n a) else none
    | _, _, _ => none
  | .store t a v => match sizeT P t, cmpOpd a, cmpOpd v with | some n, some a, some v => some (.store n a v) | _, _, _ => none
  | .nilCheck x => match cmpOpd x with | some y => some (.chk y) | none => none
  | .binOp op t x y _ => cmpBin P op t x y
  | .unOp op _ x => match cmpOpd x with | some y => some (.un op y) | none => none
  | .convert s d x => match P.underlying s, P.underlying d, cmpOpd x with
    | some (.int _), some (.int k), some y => some (.conv k y)
    | some .string, some .string, some y => some (.strId y)
    | some (.slice e), some .string, some y => match P.underlying e with
      | some (.int .u8) => if sizeT P e = some 1 then some (.b2s y) else none
      | _ => none
    | some .string, some (.slice e), some y => match P.underlying e with
      | some (.int .u8) => if sizeT P e = some 1 then some (.s2b y) else none
      | _ => none
    | _, _, _ => none
  | .makeInterface t x => match P.underlying t, cmpOpd x with
    | some (.interface _), _ => none
    | some _, some y => some (.mkI t y)
    | _, _ => none
  | .makeFunc (.func f) first caps => if first.size = 0 then match cmpOpds caps.toList with | some cs => some (.mkF f cs) | none => none else none
  | .makeSlice t l c => match P.underlying t with
    | some (.slice e) => match sizeT P e, bytesT P e, zeroT P e, cmpOpd l, cmpOpd c with
      | some n, some b, some z, some l, some c => if z.length = n ∧ 0 < n then some (.make n b z l c) else none
      | _, _, _, _, _ => none
    | _ => none
  | .slice t x lo hi mx => match P.underlying t, cmpOpd x, cmpO lo, cmpO hi, cmpO mx with
    | some .string, some x, some lo, some hi, some none => some (.slS x lo hi)
    | some (.slice e), some x, some lo, some hi, some mx => match sizeT P e with | some n => if 0 < n ∧ (mx.isSome → hi.isSome) then some (.sl n x lo hi mx) else none | none => none
    | _, _, _, _, _ => none
  | .fieldAddr s x i => match P.underlying s, cmpOpd x with
    | some (.struct fs), some x => match fs[i]? with
      | some f => match sizeT P f.type with | some n => if 0 < n then some (.fld f.offset x) else none | none => none
      | none => none
    | _, _ => none
  | .field s x i => match P.underlying s, cmpOpd x with
    | some (.struct fs), some x => match fs[i]? with
      | some f => match isAggT P f.type, sizeT P f.type with | some g, some n => if g ∨ n = 1 then some (.fldV g f.offset n x) else none | _, _ => none
      | none => none
    | _, _ => none
  | .indexAddr t x i => match P.underlying t, cmpOpd x, cmpOpd i with
    | some (.slice e), some x, some i => match sizeT P e with | some n => if 0 < n then some (.ix n x i) else none | none => none
    | some (.array len e), some x, some i => match sizeT P e with | some n => if 0 < n then some (.ixA len n x i) else none | none => none
    | _, _, _ => none
  | .index t x i => match P.underlying t, cmpOpd x, cmpOpd i with
    | some .string, some x, some i => some (.ixS x i)
    | some (.array len e), some x, some i => match isAggT P e, sizeT P e with | some g, some n => if g ∨ n = 1 then some (.ixV g len n x i) else none | _, _ => none
    | _, _, _ => none
  | .extract x i => match cmpOpd x with | some y => some (.ext y i) | none => none
  | .call c => cmpCall P c
  | _ => none

def cmpOp (P : Program) (o : Oper) : AOp := (cmpOp' P o).getD .bad

def cmpGuard (ops : Array Oper) (g : Option (Nat × Bool)) : Option (Option (Nat × Bool)) :=
  match g with
  | none => some none
  | some (j, b) => match (ops[j]?).bind (·.dst) with | some t => some (some (t, b)) | none => none

def dstOk (N : Nat) (d : Option Nat) : Bool := match d with | some d => decide (d < N) | none => true

/-- Of each operation those that stand ahead of it in every order, as bits of a number. -/
def ancOf (acc : List Nat) (o : Oper) : Nat :=
  o.after.toList.foldl (fun s e => if Region.binds .any e then s ||| (2 ^ e.on ||| acc.getD e.on 0) else s) 0
def ancs (ops : List Oper) : List Nat := ops.foldl (fun acc o => acc ++ [ancOf acc o]) []

/-- A region that ends in two stores into cells that it made: an assignment of two or more. -/
def newStore (ops : Array Oper) (o : Option Oper) : Bool := match o with
  | some q => (match q.op with
    | .store _ (.tmp t) _ => ops.any (fun r => r.dst == some t && (match r.op with | .alloc _ => true | _ => false))
    | _ => false)
  | none => false
def isStore (o : Option Oper) : Bool := match o with | some q => (match q.op with | .store _ _ _ => true | _ => false) | none => false
def isLoad (o : Option Oper) : Bool := match o with | some q => (match q.op with | .load _ _ => true | _ => false) | none => false
/-- A load that may come behind a store of the region. -/
def lateB (ops : Array Oper) : Bool :=
  let an := ancs ops.toList
  (List.range ops.size).any fun j => isStore ops[j]? && (List.range j).any fun i => isLoad ops[i]? && !(an.getD j 0).testBit i
def laxB (ops : Array Oper) : Bool := (newStore ops ops[ops.size - 1]? && newStore ops ops[ops.size - 2]?) || lateB ops

/-- An append onto what has no room: onto nil, or onto an empty literal of the same region. A load in a region of an assignment of two or more: of what nobody writes. -/
def upOp (ops : Array Oper) : AOp → AOp
  | .load g n a => if laxB ops then .loadF g n a else .load g n a
  | .app n b (.t t) y => if ops.any (fun q => q.dst == some t && (match q.op with | .buildSlice _ 0 _ => true | _ => false)) then .appZ n b (.t t) y else .app n b (.t t) y
  | .app n b (.k (.c .nilS)) y => .appZ n b (.k (.c .nilS)) y
  | o => o

/-- An operation whose guard names nothing, or whose place the frame lacks, is shut out. -/
def cmpInstr (P : Program) (N : Nat) (ops : Array Oper) (o : Oper) : AInstr :=
  match cmpGuard ops o.guard with
  | some g => if dstOk N o.dst then { dst := o.dst, op := upOp ops (cmpOp P o), guard := g } else { dst := o.dst, op := .bad, guard := none }
  | none => { dst := o.dst, op := .bad, guard := none }

/-! ### A region that draws its order: what hangs on what -/
inductive Cls where
  | quiet | reads | turns
  deriving DecidableEq

def AOp.cls : AOp → Cls
  | .new _ | .box _ | .lit _ _ _ _ | .appZ _ _ _ _ | .appM _ _ _ _ _ | .load _ _ _ | .b2s _ | .s2b _ | .make _ _ _ _ _ | .call _ _ => .reads
  | .store _ _ _ | .app _ _ _ _ | .cpy _ _ _ | .clr _ _ _ | .bad => .turns
  | _ => .quiet

def Opd.tmps : Opd → List Nat
  | .t n => [n]
  | _ => []

def optTmps : Option Opd → List Nat
  | some x => x.tmps
  | none => []

def AOp.reads : AOp → List Nat
  | .mv x | .box x | .load _ _ x | .loadF _ _ x | .chk x | .un _ x | .conv _ x | .strId x | .b2s x | .s2b x | .mkI _ x | .clr _ _ x | .fld _ x | .fldV _ _ _ x | .ext x _ | .len x | .lenS x | .cap x => x.tmps
  | .pick c x y => c.tmps ++ x.tmps ++ y.tmps
  | .new _ | .bad => []
  | .build _ ps => ps.flatMap fun p => p.2.2.tmps
  | .lit _ _ _ ps => ps.flatMap fun p => p.2.tmps
  | .store _ x y | .bin _ x y | .binB _ x y | .eqNil _ _ x y | .eqS _ _ x y | .make _ _ _ x y | .ix _ x y | .ixA _ _ x y | .ixS x y | .ixV _ _ _ x y | .cpy _ x y | .app _ _ x y | .appZ _ _ x y | .appM _ _ _ x y => x.tmps ++ y.tmps
  | .mkF _ xs | .max xs | .min xs => xs.flatMap Opd.tmps
  | .sl _ x a b c => x.tmps ++ optTmps a ++ optTmps b ++ optTmps c
  | .slS x a b => x.tmps ++ optTmps a ++ optTmps b
  | .call f xs => f.tmps ++ xs.flatMap Opd.tmps

theorem upOp_reads (ops : Array Oper) (o : AOp) : (upOp ops o).reads = o.reads := by
  unfold upOp
  split
  · split <;> rfl
  · split <;> rfl
  · rfl
  · rfl

theorem ev_up {ops : Array Oper} {o : AOp} {e : Env} {H : Heap} {r : AVal × Heap} (h : ev (upOp ops o) e H = some r) : ev o e H = some r := by
  unfold upOp at h
  split at h
  · split at h
    · simp only [ev] at h ⊢
      split at h <;> first
        | (cases h; done)
        | (rename_i h1; simp only [h1]; exact h)
    · exact h
  · split at h
    · simp only [ev] at h ⊢
      split at h <;> first
        | (cases h; done)
        | (rename_i h1 h2; simp only [h1, h2]; exact h)
    · exact h
  · simp only [ev] at h ⊢
    split at h <;> first
      | (cases h; done)
      | (rename_i h1 h2; simp only [h1, h2]; exact h)
  · exact h
theorem upOp_call {ops : Array Oper} {o : AOp} {f : Opd} {a : List Opd} (h : upOp ops o = .call f a) : o = .call f a := by
  unfold upOp at h
  split at h
  · split at h <;> cases h
  · split at h <;> cases h
  · cases h
  · exact h
theorem upOp_bad {ops : Array Oper} {o : AOp} (h : upOp ops o ≠ .bad) : o ≠ .bad := by
  intro e; subst e; exact h rfl

def AInstr.reads (i : AInstr) : List Nat := i.op.reads ++ (match i.guard with | some (t, _) => [t] | none => [])

def pairOk (x y : AInstr) : Bool :=
  (match x.dst with | some d => !(y.reads.contains d) && y.dst != some d | none => true) &&
  (match y.dst with | some d => !(x.reads.contains d) | none => true) &&
  (match x.op.cls, y.op.cls with
   | .turns, .reads | .turns, .turns | .reads, .turns => false
   | _, _ => true)

/-- Two operations that hang on one another are ordered; edges lead back; each place is written once. -/
def drawOk (ops : Array Oper) (l : List AInstr) : Bool :=
  let an := ancs ops.toList
  (List.range l.length).all (fun j =>
    (match ops[j]? with | some o => o.after.toList.all (fun e => !Region.binds .any e || e.on < j) | none => false) &&
    (List.range j).all (fun i =>
      (match l[i]?, l[j]? with
       | some x, some y => pairOk x y || ((an.getD j 0).testBit i && (match x.dst with | some d => y.dst != some d | none => true))
       | _, _ => false)))

def cmpRegion (P : Program) (N : Nat) (ops : Array Oper) (draw : Bool) : ACode :=
  let l := ops.toList.map (cmpInstr P N ops)
  if draw then (if drawOk ops l then .region l true else .bad) else .region l false

def cmpCode (P : Program) (N : Nat) : Code → ACode
  | .skip => .skip
  | .region _ ops draw => cmpRegion P N ops draw
  | .seq a b => .seq (cmpCode P N a) (cmpCode P N b)
  | .cond c a b => match cmpOpd c with | some c => .cond c (cmpCode P N a) (cmpCode P N b) | none => .bad
  | .block id a => .block id (cmpCode P N a)
  | .loop a => .loop (cmpCode P N a)
  | .exit id => .exit id
  | .ret => .ret
  | _ => .bad

def cmpRes (P : Program) : List ResultVar → Option (List ARes)
  | [] => some []
  | .tmp t :: r => match cmpRes P r with | some rs => some (.tmp t :: rs) | none => none
  | .cell a t :: r => match isAggT P t, sizeT P t, cmpRes P r with
    | some g, some n, some rs => if g ∨ n = 1 then some (.cell a g n :: rs) else none
    | _, _, _ => none

def cmpFun (P : Program) (f : Nat) : Option AFun :=
  match P.funcs[f]? with
  | some fn => match fn.body, cmpRes P fn.results.toList with
    | some c, some rs => if fn.name == "runtime.NumGoroutine" then none else some { res := rs, body := cmpCode P fn.ntmps c }
    | _, _ => none
  | none => none

end Go.Proofs.YtpjbjdicdjlmeaaGreatDoor.Eng

/- The engine, part 3: how an abstract heap stands to the machine's memory. No statement of the seat is proved here. -/
namespace Go.Proofs.YtpjbjdicdjlmeaaGreatDoor.Eng
open Go
set_option linter.unusedVariables false
set_option linter.unusedSimpArgs false

/-! ### Lists, element by element -/
inductive All2 {α β : Type} (R : α → β → Prop) : List α → List β → Prop where
  | nil : All2 R [] []
  | cons {a b l r} : R a b → All2 R l r → All2 R (a :: l) (b :: r)

namespace All2
variable {α β : Type} {R S : α → β → Prop}
theorem length {l : List α} {r : List β} (h : All2 R l r) : l.length = r.length := by
  induction h with
  | nil => rfl
  | cons _ _ ih => simp [ih]
theorem mono {l : List α} {r : List β} (h : All2 R l r) (f : ∀ a b, R a b → S a b) : All2 S l r := by
  induction h with
  | nil => exact .nil
  | cons h _ ih => exact .cons (f _ _ h) ih
theorem get {l : List α} {r : List β} (h : All2 R l r) : ∀ {i : Nat} {a : α}, l[i]? = some a → ∃ b, r[i]? = some b ∧ R a b := by
  induction h with
  | nil => intro i a h; simp at h
  | cons hd _ ih =>
    intro i a h
    cases i with
    | zero => simp at h; subst h; exact ⟨_, by simp, hd⟩
    | succ i => simp at h; obtain ⟨b, hb, hr⟩ := ih h; exact ⟨b, by simpa using hb, hr⟩
theorem of_get {l : List α} : ∀ {r : List β}, l.length = r.length → (∀ (i : Nat) a b, l[i]? = some a → r[i]? = some b → R a b) → All2 R l r := by
  induction l with
  | nil => intro r h _; cases r with
    | nil => exact .nil
    | cons => simp at h
  | cons a l ih =>
    intro r h hr
    cases r with
    | nil => simp at h
    | cons b r => exact .cons (hr 0 a b (by simp) (by simp)) (ih (by simpa using h) fun i x y hx hy => hr (i + 1) x y (by simpa using hx) (by simpa using hy))
theorem append {l l' : List α} {r r' : List β} (h : All2 R l r) (h' : All2 R l' r') : All2 R (l ++ l') (r ++ r') := by
  induction h with
  | nil => exact h'
  | cons hd _ ih => exact .cons hd ih
theorem take {l : List α} {r : List β} (h : All2 R l r) : ∀ n : Nat, All2 R (l.take n) (r.take n) := by
  induction h with
  | nil => intro n; simpa using All2.nil
  | cons hd _ ih => intro n; cases n with
    | zero => simpa using All2.nil
    | succ n => simpa using All2.cons hd (ih n)
theorem drop {l : List α} {r : List β} (h : All2 R l r) : ∀ n : Nat, All2 R (l.drop n) (r.drop n) := by
  induction h with
  | nil => intro n; simpa using All2.nil
  | cons hd tl ih => intro n; cases n with
    | zero => simpa using All2.cons hd tl
    | succ n => simpa using ih n
theorem single {a : α} {b : β} (h : R a b) : All2 R [a] [b] := .cons h .nil
theorem inv_single {a : α} {r : List β} (h : All2 R [a] r) : ∃ b, r = [b] ∧ R a b := by
  cases h with
  | cons h t => cases t; exact ⟨_, rfl, h⟩
theorem right_mem {l : List α} {r : List β} (h : All2 R l r) : ∀ b ∈ r, ∃ a ∈ l, R a b := by
  induction h with
  | nil => intro b h; cases h
  | cons hd _ ih => intro b hb; cases hb with
    | head => exact ⟨_, by simp, hd⟩
    | tail _ hb => obtain ⟨a, ha, hr⟩ := ih b hb; exact ⟨a, by simp [ha], hr⟩
end All2

/-! ### Where an abstract block lies -/
structure Loc where
  g : Nat
  o : Nat
  sz : Nat
  own : Bool

/-- Where abstract blocks lie; which blocks of memory nobody writes any more. -/
structure LMap where
  f : Nat → Option Loc
  z : Nat → Prop
instance : CoeFun LMap fun _ => Nat → Option Loc := ⟨LMap.f⟩

/-- How many cells a block of memory has, what the cells hold. -/
structure Mem where
  len : Nat → Nat
  cell : Addr → Option Value
instance : CoeFun Mem fun _ => Nat → Nat := ⟨Mem.len⟩

def sizeIn (w : World) (g : Nat) : Nat :=
  match w.heap[g]? with
  | some (.cells c _ _) => c.size
  | _ => 0

def cellsIn (w : World) : Mem := ⟨sizeIn w, w.cell?⟩
theorem cellsIn_at (w : World) (g : Nat) : (cellsIn w).len g = sizeIn w g := rfl
theorem cellsIn_cell (w : World) : (cellsIn w).cell = w.cell? := rfl

inductive VR (m : LMap) (σ : Mem) : Cell → Value → Prop where
  | int (k n) : VR m σ (.int k n) (.int k n)
  | bool (b) : VR m σ (.bool b) (.bool b)
  | str (s) : VR m σ (.str s) (.string s)
  | nilI : VR m σ .nilI .nilIface
  | nilF : VR m σ .nilF .nilFunc
  | nilS : VR m σ .nilS (.slice none 0 0)
  | nilP : VR m σ .nilP (.pointer none)
  | ptr {b i f L} : m b = some L → VR m σ (.ptr b i f) (.pointer (some ⟨L.g, L.o + i * L.sz + f, none⟩))
  | slc {b s n sz z A c} : n ≤ c → (z = true → c = 0) → c ≤ maxLen →
      (∃ L, m b = some L ∧ L.sz = sz ∧ (c ≠ 0 → A = ⟨L.g, L.o + s * sz, none⟩ ∧ (L.own = true → (s + c) * sz = σ L.g))) → VR m σ (.slc b s n sz z) (.slice (some A) n c)
  | fn {f cs} {vs : Array Value} : cs.length = vs.size → (∀ (i : Nat) c v, cs[i]? = some c → vs[i]? = some v → VR m σ c v) → VR m σ (.fn f cs) (.func (.func f) #[] vs)
  | ifaceC {t c v} : VR m σ c v → VR m σ (.iface t false [c]) (.iface t v)
  | ifaceA {t cs} {vs : Array Value} : cs.length = vs.size → (∀ (i : Nat) c v, cs[i]? = some c → vs[i]? = some v → VR m σ c v) → VR m σ (.iface t true cs) (.iface t (.agg vs))
  | zerN {sz} : VR m σ (.zer sz) (.slice none 0 0)
  | emp {sz A c} : c ≤ maxLen → VR m σ (.emp sz) (.slice (some A) 0 c)
  | zerS {sz A} : VR m σ (.zer sz) (.slice (some A) 0 0)
  | lstN {sz} : VR m σ (.lst sz []) (.slice none 0 0)
  | lst {sz A c g o} {rows : List (List Cell)} {vs : Nat → Nat → Value} : rows.length ≤ c → c ≤ maxLen → (rows ≠ [] → A = ⟨g, o, none⟩ ∧ m.z g) → (∀ (i : Nat) r, rows[i]? = some r → r.length = sz) →
      (∀ (i : Nat) r (f : Nat) x, rows[i]? = some r → r[f]? = some x → σ.cell ⟨g, o + i * sz + f, none⟩ = some (vs i f)) → (∀ (i : Nat) r (f : Nat) x, rows[i]? = some r → r[f]? = some x → VR m σ x (vs i f)) →
      VR m σ (.lst sz rows) (.slice (some A) rows.length c)
  | fp {f g o} {row : List Cell} {vs : Nat → Value} : m.z g → (∀ (j : Nat) x, row[j]? = some x → σ.cell ⟨g, o + j, none⟩ = some (vs j)) → (∀ (j : Nat) x, row[j]? = some x → VR m σ x (vs j)) → VR m σ (.fp row f) (.pointer (some ⟨g, o + f, none⟩))

inductive VRA (m : LMap) (σ : Mem) : AVal → Value → Prop where
  | c {x v} : VR m σ x v → VRA m σ (.c x) v
  | agg {cs} {vs : Array Value} : All2 (VR m σ) cs vs.toList → VRA m σ (.agg cs) (.agg vs)
  | tup {xs} {vs : Array Value} : xs.length = vs.size → (∀ (i : Nat) x v, xs[i]? = some x → vs[i]? = some v → VRA m σ x v) → VRA m σ (.tup xs) (.tuple vs)

/-- The map and the blocks' sizes may grow. -/
structure MLe (m : LMap) (σ : Mem) (m' : LMap) (σ' : Mem) : Prop where
  map : ∀ b L, m b = some L → m' b = some L
  size : ∀ b L, m b = some L → L.own = true → σ' L.g = σ L.g
  z : ∀ g, m.z g → m'.z g
  cell : ∀ g o, m.z g → σ'.cell ⟨g, o, none⟩ = σ.cell ⟨g, o, none⟩

/-- What lies in memory from the first, and nobody writes: (block, value); a seat's own. -/
def LibAt (g : Nat) (c : Value) : Prop := (g = 0 ∧ c = Value.iface 89 (.agg #[.pointer (some ⟨1, 46, none⟩)]))
def Lib (m : LMap) (w : World) : Prop := ∀ g c, LibAt g c → m.z g ∧ w.cell? ⟨g, 0, none⟩ = some c
def LibW (w : World) : Prop := ∀ g c, LibAt g c → w.cell? ⟨g, 0, none⟩ = some c
theorem Lib.up {m m' : LMap} {w w' : World} (h : Lib m w) (hm : MLe m (cellsIn w) m' (cellsIn w')) : Lib m' w' := fun g c k => ⟨hm.z g (h g c k).1, (hm.cell g 0 (h g c k).1).trans (h g c k).2⟩
theorem Lib.w {m : LMap} {w : World} (h : Lib m w) : LibW w := fun g c k => (h g c k).2
theorem LibW.lt {w : World} (h : LibW w) {g : Nat} {c : Value} (k : LibAt g c) : g < w.heap.size := by
  rcases Nat.lt_or_ge g w.heap.size with h' | h'
  · exact h'
  · have := h g c k; simp [World.cell?, Array.getElem?_eq_none h'] at this
theorem LibW.none (h : ∀ g c, ¬ LibAt g c) (w : World) : LibW w := fun g c k => (h g c k).elim

theorem MLe.refl (m σ) : MLe m σ m σ := ⟨fun _ _ h => h, fun _ _ _ _ => rfl, fun _ h => h, fun _ _ _ => rfl⟩
theorem MLe.trans {m σ m1 σ1 m2 σ2} (h : MLe m σ m1 σ1) (k : MLe m1 σ1 m2 σ2) : MLe m σ m2 σ2 :=
  ⟨fun b L e => k.map b L (h.map b L e), fun b L e o => (k.size b L (h.map b L e) o).trans (h.size b L e o), fun g h' => k.z g (h.z g h'), fun g o h' => (k.cell g o (h.z g h')).trans (h.cell g o h')⟩

/-- One map has all that the other has. -/
structure LMap.Le (m m' : LMap) : Prop where
  map : ∀ b L, m b = some L → m' b = some L
  z : ∀ g, m.z g → m'.z g
theorem LMap.Le.mle {m m' : LMap} (h : m.Le m') (σ : Mem) : MLe m σ m' σ := ⟨h.map, fun _ _ _ _ => rfl, h.z, fun _ _ _ => rfl⟩
theorem LMap.Le.refl (m : LMap) : m.Le m := ⟨fun _ _ h => h, fun _ h => h⟩
theorem LMap.Le.trans {m m1 m2 : LMap} (h : m.Le m1) (k : m1.Le m2) : m.Le m2 := ⟨fun b L e => k.map b L (h.map b L e), fun g e => k.z g (h.z g e)⟩

theorem VR.mono {m σ m' σ'} (h : MLe m σ m' σ') {c v} (r : VR m σ c v) : VR m' σ' c v := by
  induction r with
  | int => exact .int _ _
  | bool => exact .bool _
  | str => exact .str _
  | nilI => exact .nilI
  | nilF => exact .nilF
  | nilS => exact .nilS
  | nilP => exact .nilP
  | ptr e => exact .ptr (h.map _ _ e)
  | slc h1 h2 h3 h4 =>
    obtain ⟨L, e, ez, h5⟩ := h4
    refine .slc h1 h2 h3 ⟨L, h.map _ _ e, ez, fun hc => ?_⟩
    obtain ⟨ea, es⟩ := h5 hc
    exact ⟨ea, fun ho => (es ho).trans (h.size _ _ e ho).symm⟩
  | fn hl _ ih => exact .fn hl ih
  | ifaceC _ ih => exact .ifaceC ih
  | ifaceA hl _ ih => exact .ifaceA hl ih
  | zerN => exact .zerN
  | zerS => exact .zerS
  | emp h => exact .emp h
  | lstN => exact .lstN
  | lst h1 h2 h3 h4 h5 _ ih =>
    refine .lst h1 h2 (fun hr => ⟨(h3 hr).1, h.z _ (h3 hr).2⟩) h4 (fun i r f x e1 e2 => ?_) ih
    have hr := (h3 (by intro h0; rw [h0] at e1; simp at e1)).2
    rw [h.cell _ _ hr]
    exact h5 i r f x e1 e2
  | fp h1 h2 _ ih => exact .fp (h.z _ h1) (fun j x e => by rw [h.cell _ _ h1]; exact h2 j x e) ih

theorem VRA.mono {m σ m' σ'} (h : MLe m σ m' σ') {c v} (r : VRA m σ c v) : VRA m' σ' c v := by
  induction r with
  | c r => exact .c (r.mono h)
  | agg r => exact .agg (r.mono fun _ _ => VR.mono h)
  | tup hl _ ih => exact .tup hl ih

theorem VR.oneCell {m σ c v} (r : VR m σ c v) : v.oneCell' = true := by cases r <;> rfl
theorem VR.cells {m σ c v} (r : VR m σ c v) : v.cells = #[v] := by cases r <;> rfl
theorem VRA.undef {m σ} : VRA m σ undefA undef := .tup rfl (fun i x v h => by simp at h)

theorem VRA.cells {m σ v u} (r : VRA m σ v u) (h : v.cells ≠ [] ∨ ∃ cs, v = .agg cs) : All2 (VR m σ) v.cells u.cells.toList := by
  cases r with
  | c r => rw [r.cells]; exact .single r
  | agg r => exact r
  | tup => rcases h with h | ⟨_, h⟩
           · simp [AVal.cells] at h
           · cases h

/-! ### Heaps -/
structure HLe (H H' : Heap) : Prop where
  len : H.length ≤ H'.length
  blk : ∀ b k', b < H.length → H'[b]? = some k' → ∃ k, H[b]? = some k ∧ k'.sz = k.sz ∧ k'.own = k.own ∧ (k'.live = true → k.live = true)

theorem HLe.refl (H) : HLe H H := ⟨Nat.le_refl _, fun b k' _ h => ⟨k', h, rfl, rfl, id⟩⟩
theorem HLe.trans {H H1 H2 : Heap} (h : HLe H H1) (k : HLe H1 H2) : HLe H H2 :=
  ⟨Nat.le_trans h.len k.len, fun b k' hb e => by
    obtain ⟨k1, e1, a1, b1, c1⟩ := k.blk b k' (Nat.lt_of_lt_of_le hb h.len) e
    obtain ⟨k0, e0, a0, b0, c0⟩ := h.blk b k1 hb e1
    exact ⟨k0, e0, a1.trans a0, b1.trans b0, fun x => c0 (c1 x)⟩⟩
theorem HLe.append (H E : Heap) : HLe H (H ++ E) :=
  ⟨by simp, fun b k' hb e => ⟨k', by rw [List.getElem?_append_left hb] at e; exact e, rfl, rfl, id⟩⟩
theorem HLe.set {H : Heap} {b : Nat} {k k' : Blk} (h : H[b]? = some k) (hs : k'.sz = k.sz) (ho : k'.own = k.own) (hl : k'.live = true → k.live = true) : HLe H (H.set b k') :=
  ⟨by simp, fun b' q hb e => by
    by_cases hbb : b = b'
    · subst hbb
      simp [hb] at e
      subst e
      exact ⟨k, h, hs, ho, hl⟩
    · rw [List.getElem?_set_ne hbb] at e
      exact ⟨q, e, rfl, rfl, id⟩⟩
theorem HLe.of_prefix {H H' : Heap} (h : H <+: H') : HLe H H' := by
  obtain ⟨E, rfl⟩ := h; exact HLe.append H E

/-- A row of memory reads as cells. -/
def RowAt (m : LMap) (w : World) (L : Loc) (i : Nat) (r : List Cell) : Prop :=
  r.length = L.sz ∧ ∀ (f : Nat) c, r[f]? = some c → ∃ v, w.cell? ⟨L.g, L.o + i * L.sz + f, none⟩ = some v ∧ VR m (cellsIn w) c v

structure BlkAt (B : Nat) (m : LMap) (w : World) (L : Loc) (k : Blk) : Prop where
  sz : k.sz = L.sz
  own : k.own = L.own
  lt : (L.own = true ∨ k.live = true) → L.g < w.heap.size
  ours : L.own = true → B ≤ L.g ∧ L.o = 0
  foreign : L.own = false → k.live = true → L.g < B
  rows : k.live = true → ∀ (i : Nat) r, k.rows[i]? = some r → RowAt m w L i r
  row : L.own = true → k.live = true → ∃ cur t, w.heap[L.g]? = some (.cells cur t (0, 0))

structure Rel (B : Nat) (m : LMap) (H : Heap) (w : World) : Prop where
  base : B ≤ w.heap.size
  blk : ∀ b L, m b = some L → ∃ k, H[b]? = some k ∧ BlkAt B m w L k
  zlt : ∀ g, m.z g → g < w.heap.size
  zown : ∀ b L k, m b = some L → L.own = true → H[b]? = some k → k.live = true → ¬ m.z L.g
  inj : ∀ b b' L L' k k', m b = some L → m b' = some L' → L.own = true → L'.own = true → H[b]? = some k → H[b']? = some k' → k.live = true → k'.live = true → L.g = L'.g → b = b'
  lib : Lib m w

def ownImg (m : LMap) (H : Heap) (g : Nat) : Prop := ∃ b L k, m b = some L ∧ L.own = true ∧ L.g = g ∧ H[b]? = some k ∧ k.live = true

/-- Draws never fall back (where the seat says so). -/
def Dr (w w' : World) : Prop := false = true ∨ w.drawn ≤ w'.drawn
theorem Dr.refl (w : World) : Dr w w := .inr (Nat.le_refl _)
theorem Dr.trans {w w1 w2 : World} (h : Dr w w1) (h' : Dr w1 w2) : Dr w w2 := by
  rcases h with h | h
  · exact .inl h
  · rcases h' with h' | h'
    · exact .inl h'
    · exact .inr (Nat.le_trans h h')

structure St (B : Nat) (H : Heap) (m : LMap) (w : World) (H' : Heap) (m' : LMap) (w' : World) : Prop where
  ext : ∀ b L, m b = some L → m' b = some L
  dom : ∀ b L, m b = none → m' b = some L → H.length ≤ b
  rel : Rel B m' H' w'
  frame : ∀ g, g < w.heap.size → ¬ ownImg m H g → w'.heap[g]? = w.heap[g]?
  fresh : ∀ b L, m b = none → m' b = some L → w.heap.size ≤ L.g ∨ ownImg m H L.g
  size : w.heap.size ≤ w'.heap.size
  szs : ∀ g, g < w.heap.size → cellsIn w' g = cellsIn w g
  os : w'.os = w.os
  tape : w'.tape = w.tape
  output : w'.output = w.output
  hle : HLe H H'
  zext : ∀ g, m.z g → m'.z g
  zfresh : ∀ g, m'.z g → m.z g ∨ w.heap.size ≤ g ∨ ownImg m H g
  drawn : Dr w w'

theorem St.refl {B H m w} (r : Rel B m H w) : St B H m w H m w :=
  ⟨fun _ _ h => h, (fun _ _ h k => by rw [h] at k; cases k), r, fun _ _ _ => rfl, (fun _ _ h k => by rw [h] at k; cases k), Nat.le_refl _, fun _ _ => rfl, rfl, rfl, rfl, HLe.refl _, fun _ h => h, fun _ h => .inl h, Dr.refl _⟩

theorem Rel.zimg {B H m w} (r : Rel B m H w) {g : Nat} (h : m.z g) : ¬ ownImg m H g := by
  rintro ⟨b, L, k, e, ho, rfl, ek, hl⟩
  exact r.zown b L k e ho ek hl h

theorem St.mle {B H m w H' m' w'} (r : Rel B m H w) (s : St B H m w H' m' w') : MLe m (cellsIn w) m' (cellsIn w') :=
  ⟨s.ext, fun b L h o => by obtain ⟨k, _, hk⟩ := r.blk b L h; exact s.szs _ (hk.lt (.inl o)), s.zext, fun g o h => World.cell?_of_block (s.frame g (r.zlt g h) (r.zimg h))⟩
theorem St.le {B H m w H' m' w'} (s : St B H m w H' m' w') : m.Le m' := ⟨s.ext, s.zext⟩

theorem Rel.lt {B m H w} (r : Rel B m H w) {b L} (h : m b = some L) : b < H.length := by
  obtain ⟨k, e, _⟩ := r.blk b L h
  exact (List.getElem?_eq_some_iff.1 e).1

theorem St.img {B H m w H' m' w'} (r : Rel B m H w) (s : St B H m w H' m' w') {g : Nat} (hg : g < w.heap.size) (h : ownImg m' H' g) : ownImg m H g := by
  obtain ⟨b, L, k, e, ho, rfl, ek, hl⟩ := h
  cases hm : m b with
  | some L0 =>
    have := s.ext b L0 hm
    rw [e] at this; injection this with this; subst this
    obtain ⟨k0, e0, _, _, hl0⟩ := s.hle.blk b k (r.lt hm) ek
    exact ⟨b, L, k0, hm, ho, rfl, e0, hl0 hl⟩
  | none =>
    rcases s.fresh b L hm e with h | h
    · omega
    · exact h

theorem St.trans {B H m w H1 m1 w1 H2 m2 w2} (r : Rel B m H w) (s : St B H m w H1 m1 w1) (t : St B H1 m1 w1 H2 m2 w2) : St B H m w H2 m2 w2 where
  ext := fun b L h => t.ext b L (s.ext b L h)
  dom := fun b L h h2 => by
    cases h1 : m1 b with
    | some L1 => exact s.dom b L1 h h1
    | none => exact Nat.le_trans s.hle.len (t.dom b L h1 h2)
  rel := t.rel
  frame := fun g hg hn => (t.frame g (Nat.lt_of_lt_of_le hg s.size) (fun hi => hn (s.img r hg hi))).trans (s.frame g hg hn)
  fresh := fun b L h h2 => by
    cases h1 : m1 b with
    | some L1 =>
      have := t.ext b L1 h1
      rw [h2] at this; injection this with this; subst this
      exact s.fresh b L h h1
    | none =>
      rcases t.fresh b L h1 h2 with h3 | h3
      · exact .inl (Nat.le_trans s.size h3)
      · by_cases hg : L.g < w.heap.size
        · exact .inr (s.img r hg h3)
        · exact .inl (by omega)
  size := Nat.le_trans s.size t.size
  szs := fun g hg => (t.szs g (Nat.lt_of_lt_of_le hg s.size)).trans (s.szs g hg)
  os := t.os.trans s.os
  tape := t.tape.trans s.tape
  output := t.output.trans s.output
  hle := s.hle.trans t.hle
  zext := fun g h => t.zext g (s.zext g h)
  zfresh := fun g h => by
    rcases t.zfresh g h with h | h | h
    · exact s.zfresh g h
    · exact .inr (.inl (Nat.le_trans s.size h))
    · by_cases hg : g < w.heap.size
      · exact .inr (.inr (s.img r hg h))
      · exact .inr (.inl (by omega))
  drawn := s.drawn.trans t.drawn

theorem St.below {B H m w H' m' w'} (r : Rel B m H w) (s : St B H m w H' m' w') : RowKit.Below B w w' :=
  ⟨s.os, s.tape, s.output, s.size, fun k hk => s.frame k (Nat.lt_of_lt_of_le hk r.base) (by
    rintro ⟨b, L, q, e, ho, rfl, ek, hl⟩
    obtain ⟨_, _, hb⟩ := r.blk b L e
    have := (hb.ours ho).1
    omega)⟩

end Go.Proofs.YtpjbjdicdjlmeaaGreatDoor.Eng

/- The engine, part 4: what a new block, a store and an append do to the relation. No statement of the seat is proved here. -/
namespace Go.Proofs.YtpjbjdicdjlmeaaGreatDoor.Eng
open Go
set_option linter.unusedVariables false
set_option linter.unusedSimpArgs false

theorem cellsIn_row {w : World} {g : Nat} {cur : Array Value} {t : TypeId} {fz : Nat × Nat} (h : w.heap[g]? = some (.cells cur t fz)) : cellsIn w g = cur.size := by
  simp [cellsIn, sizeIn, h]
theorem cellsIn_same {w w' : World} {g : Nat} (h : w'.heap[g]? = w.heap[g]?) : cellsIn w' g = cellsIn w g := by simp [cellsIn, sizeIn, h]

/-- The world but for draws. -/
theorem St.drew {B H m w} (r : Rel B m H w) : St B H m w H m w.drew where
  ext := fun _ _ h => h
  dom := fun _ _ h k => by rw [h] at k; cases k
  rel := ⟨r.base, fun b L h => by
    obtain ⟨k, e, hk⟩ := r.blk b L h
    exact ⟨k, e, ⟨hk.sz, hk.own, hk.lt, hk.ours, hk.foreign, hk.rows, hk.row⟩⟩, r.zlt, r.zown, r.inj, r.lib⟩
  frame := fun _ _ _ => rfl
  fresh := fun _ _ h k => by rw [h] at k; cases k
  size := Nat.le_refl _
  szs := fun _ _ => rfl
  os := rfl
  tape := rfl
  output := rfl
  hle := HLe.refl _
  zext := fun _ h => h
  zfresh := fun _ h => .inl h
  drawn := Or.inr (Nat.le_succ _)

def addLoc (m : LMap) (b : Nat) (L : Loc) : LMap := ⟨fun x => if x = b then some L else m x, m.z⟩
theorem addLoc_z (m : LMap) (b : Nat) (L : Loc) : (addLoc m b L).z = m.z := rfl

theorem addLoc_same (m : LMap) (b : Nat) (L : Loc) : addLoc m b L b = some L := by simp [addLoc]
theorem addLoc_ne {m : LMap} {b x : Nat} {L : Loc} (h : x ≠ b) : addLoc m b L x = m x := by simp [addLoc, h]

/-- A block's content as rows of related cells. -/
def RowsIn (m : LMap) (σ : Mem) (sz : Nat) (rows : List (List Cell)) (vs : Array Value) : Prop :=
  ∀ (i : Nat) r, rows[i]? = some r → r.length = sz ∧ ∀ (f : Nat) c, r[f]? = some c → ∃ v, vs[i * sz + f]? = some v ∧ VR m σ c v

theorem RowsIn.mono {m σ m' σ' sz rows vs} (h : MLe m σ m' σ') (r : RowsIn m σ sz rows vs) : RowsIn m' σ' sz rows vs := fun i q e =>
  ⟨(r i q e).1, fun f c ef => by obtain ⟨v, e1, e2⟩ := (r i q e).2 f c ef; exact ⟨v, e1, e2.mono h⟩⟩

/-- Whoever is mapped, is not own and live at this row: unaffected by what happens to it. -/
theorem BlkAt.carry {B : Nat} {m m' : LMap} {w w' : World} {L : Loc} {k : Blk} (h : BlkAt B m w L k) (hm : MLe m (cellsIn w) m' (cellsIn w')) (hs : w.heap.size ≤ w'.heap.size)
    (hg : k.live = true → w'.heap[L.g]? = w.heap[L.g]?) : BlkAt B m' w' L k where
  sz := h.sz
  own := h.own
  lt := fun x => Nat.lt_of_lt_of_le (h.lt x) hs
  ours := h.ours
  foreign := h.foreign
  rows := fun hl i r e => by
    obtain ⟨h1, h2⟩ := h.rows hl i r e
    refine ⟨h1, fun f c ef => ?_⟩
    obtain ⟨v, e1, e2⟩ := h2 f c ef
    exact ⟨v, (World.cell?_of_block (hg hl)).trans e1, e2.mono hm⟩
  row := fun ho hl => by rw [hg hl]; exact h.row ho hl

theorem St.new {B H m w} (r : Rel B m H w) (t : TypeId) (k : Blk) (vs : Array Value) (ho : k.own = true) (hr : RowsIn m (cellsIn w) k.sz k.rows vs) :
    St B H m w (H ++ [k]) (addLoc m H.length ⟨w.heap.size, 0, k.sz, true⟩) (w.alloc (.cells vs t)) := by
  have hmn : m H.length = none := by
    cases h : m H.length with
    | none => rfl
    | some L => exact absurd (r.lt h) (Nat.lt_irrefl _)
  have hext : ∀ b L, m b = some L → addLoc m H.length ⟨w.heap.size, 0, k.sz, true⟩ b = some L := fun b L h => by
    rw [addLoc_ne (by intro e; subst e; rw [hmn] at h; cases h)]; exact h
  have hold : ∀ g, g < w.heap.size → (w.alloc (.cells vs t)).heap[g]? = w.heap[g]? := fun g hg => heap_alloc_old w _ g hg
  have hnew : (w.alloc (.cells vs t)).heap[w.heap.size]? = some (.cells vs t (0, 0)) := heap_alloc_new w _
  have hm : MLe m (cellsIn w) (addLoc m H.length ⟨w.heap.size, 0, k.sz, true⟩) (cellsIn (w.alloc (.cells vs t))) :=
    ⟨hext, fun b L h o => by obtain ⟨_, _, hk⟩ := r.blk b L h; exact cellsIn_same (hold _ (hk.lt (.inl o))), fun _ h => h, fun g o h => World.cell?_of_block (hold g (r.zlt g h))⟩
  refine ⟨hext, ?_, ⟨?_, ?_, fun g h => Nat.lt_of_lt_of_le (r.zlt g h) (by simp), ?_, ?_, r.lib.up hm⟩, fun g hg _ => hold g hg, ?_, by simp, fun g hg => cellsIn_same (hold g hg), rfl, rfl, rfl, HLe.append _ _, fun _ h => h, fun _ h => .inl h, Or.inr (Nat.le_refl _)⟩
  · intro b L h h'
    by_cases e : b = H.length
    · omega
    · rw [addLoc_ne e, h] at h'; cases h'
  · have := r.base; simp; omega
  · intro b L h
    by_cases e : b = H.length
    · subst e
      rw [addLoc_same] at h
      injection h with h
      subst h
      refine ⟨k, by simp, ⟨rfl, ho, fun _ => by simp, fun _ => ⟨r.base, rfl⟩, (fun h => by cases h), fun _ i q e => ?_, fun _ _ => ⟨vs, t, hnew⟩⟩⟩
      obtain ⟨h1, h2⟩ := hr i q e
      refine ⟨h1, fun f c ef => ?_⟩
      obtain ⟨v, e1, e2⟩ := h2 f c ef
      refine ⟨v, ?_, e2.mono hm⟩
      simp only [Nat.zero_add]
      rw [cell_of_row _ _ _ _ _ _ hnew]
      exact e1
    · rw [addLoc_ne e] at h
      obtain ⟨q, eq, hq⟩ := r.blk b L h
      exact ⟨q, by rw [List.getElem?_append_left (r.lt h)]; exact eq, hq.carry hm (by simp) fun hl => hold _ (hq.lt (.inr hl))⟩
  · intro b L q h ho1 e hl hz
    by_cases eb : b = H.length
    · subst eb
      rw [addLoc_same] at h
      injection h with h
      subst h
      exact Nat.lt_irrefl _ (r.zlt _ hz)
    · rw [addLoc_ne eb] at h
      rw [List.getElem?_append_left (r.lt h)] at e
      exact r.zown b L q h ho1 e hl hz
  · intro b b' L L' q q' h h' ho1 ho2 e e' hl hl' hg
    by_cases eb : b = H.length
    · by_cases eb' : b' = H.length
      · omega
      · exfalso
        subst eb
        rw [addLoc_same] at h
        rw [addLoc_ne eb'] at h'
        injection h with h
        subst h
        obtain ⟨_, _, hq⟩ := r.blk b' L' h'
        have := hq.lt (.inl (by assumption))
        simp only at hg
        omega
    · by_cases eb' : b' = H.length
      · exfalso
        subst eb'
        rw [addLoc_same] at h'
        rw [addLoc_ne eb] at h
        injection h' with h'
        subst h'
        obtain ⟨_, _, hq⟩ := r.blk b L h
        have := hq.lt (.inl (by assumption))
        simp only at hg
        omega
      · rw [addLoc_ne eb] at h
        rw [addLoc_ne eb'] at h'
        rw [List.getElem?_append_left (r.lt h)] at e
        rw [List.getElem?_append_left (r.lt h')] at e'
        exact r.inj b b' L L' q q' h h' ho1 ho2 e e' hl hl' hg
  · intro b L h h'
    by_cases e : b = H.length
    · subst e
      rw [addLoc_same] at h'
      injection h' with h'
      subst h'
      exact .inl (Nat.le_refl _)
    · rw [addLoc_ne e, h] at h'; cases h'

/-- An own, live row is written: the block has other rows, or is given up. -/
theorem St.turn {B H m w} (r : Rel B m H w) {b : Nat} {L : Loc} {k k' : Blk} (hb : m b = some L) (hk : H[b]? = some k) (ho : L.own = true) (hl : k.live = true)
    {cur : Array Value} {t : TypeId} (hg : w.heap[L.g]? = some (.cells cur t (0, 0))) (cs : Array Value) (hcs : cs.size = cur.size)
    (hsz : k'.sz = k.sz) (hown : k'.own = k.own) (hrows : k'.live = true → RowsIn m (cellsIn w) L.sz k'.rows cs) :
    St B H m w (H.set b k') m (w.setRow L.g cs) := by
  have hnew : (w.setRow L.g cs).heap[L.g]? = some (.cells cs t (0, 0)) := setRow_heap w L.g cur cs t (0, 0) hg
  have hother : ∀ g, g ≠ L.g → (w.setRow L.g cs).heap[g]? = w.heap[g]? := fun g hne => setRow_other w L.g g cs hne
  have hsize : (w.setRow L.g cs).heap.size = w.heap.size := by simp [World.setRow]
  have hcells : ∀ g, cellsIn (w.setRow L.g cs) g = cellsIn w g := fun g => by
    by_cases e : g = L.g
    · subst e; rw [cellsIn_row hnew, cellsIn_row hg, hcs]
    · exact cellsIn_same (hother g e)
  have hm : MLe m (cellsIn w) m (cellsIn (w.setRow L.g cs)) := ⟨fun _ _ h => h, fun _ _ _ _ => hcells _, fun _ h => h, fun g o h => World.cell?_of_block (hother g (by intro e; subst e; exact r.zown b L k hb ho hk hl h))⟩
  obtain ⟨k0, hk0, hat⟩ := r.blk b L hb
  rw [hk] at hk0; injection hk0 with hk0; subst hk0
  refine ⟨fun _ _ h => h, (fun _ _ h h' => by rw [h] at h'; cases h'), ⟨by rw [hsize]; exact r.base, ?_, fun g h => (by rw [hsize]; exact r.zlt g h), ?_, ?_, r.lib.up hm⟩, ?_, (fun _ _ h h' => by rw [h] at h'; cases h'), by rw [hsize]; exact Nat.le_refl _, fun g _ => hcells g, rfl, rfl, rfl,
    HLe.set hk hsz hown (fun _ => hl), fun _ h => h, fun _ h => .inl h, Or.inr (Nat.le_refl _)⟩
  · intro b' L' h'
    by_cases e : b' = b
    · subst e
      rw [hb] at h'; injection h' with h'; subst h'
      refine ⟨k', by simp [r.lt hb], ⟨hsz.trans hat.sz, hown.trans hat.own, fun _ => (by rw [hsize]; exact hat.lt (.inl ho)), hat.ours, (fun h => by rw [ho] at h; cases h), fun hl' i q e => ?_, fun _ _ => ⟨cs, t, hnew⟩⟩⟩
      obtain ⟨h1, h2⟩ := hrows hl' i q e
      refine ⟨h1, fun f c ef => ?_⟩
      obtain ⟨v, e1, e2⟩ := h2 f c ef
      refine ⟨v, ?_, e2.mono hm⟩
      rw [(hat.ours ho).2, Nat.zero_add, cell_of_row _ _ _ _ _ _ hnew]
      exact e1
    · obtain ⟨q, eq, hq⟩ := r.blk b' L' h'
      refine ⟨q, by rw [List.getElem?_set_ne (fun x => e x.symm)]; exact eq, hq.carry hm (by rw [hsize]; exact Nat.le_refl _) fun hlq => hother _ ?_⟩
      intro eg
      cases ho' : L'.own with
      | true => exact e (r.inj b' b L' L q k h' hb ho' ho eq hk hlq hl eg)
      | false =>
        have h1 := hq.foreign ho' hlq
        have h2 := (hat.ours ho).1
        omega
  · intro b1 L1 q1 h1 ho1 e1 hl1 hz
    by_cases eb : b = b1
    · subst eb
      exact r.zown b L1 k h1 ho1 hk hl hz
    · rw [List.getElem?_set_ne eb] at e1
      exact r.zown b1 L1 q1 h1 ho1 e1 hl1 hz
  · intro b1 b2 L1 L2 q1 q2 h1 h2 ho1 ho2 e1 e2 hl1 hl2 hgg
    have back : ∀ (b' : Nat) (q' : Blk), (H.set b k')[b']? = some q' → q'.live = true → ∃ q : Blk, H[b']? = some q ∧ q.live = true := fun b' q' e hl' => by
      by_cases eb : b = b'
      · subst eb; exact ⟨k, hk, hl⟩
      · rw [List.getElem?_set_ne eb] at e; exact ⟨q', e, hl'⟩
    obtain ⟨p1, f1, g1⟩ := back b1 q1 e1 hl1
    obtain ⟨p2, f2, g2⟩ := back b2 q2 e2 hl2
    exact r.inj b1 b2 L1 L2 p1 p2 h1 h2 ho1 ho2 f1 f2 g1 g2 hgg
  · intro g hg' hn
    refine hother g fun e => hn ?_
    subst e
    exact ⟨b, L, k, hb, ho, rfl, hk, hl⟩

/-- A row that was given up is taken over by a new block. -/
theorem St.adopt {B H m w} (r : Rel B m H w) {b : Nat} {L : Loc} {k0 k : Blk} (hb : m b = some L) (hk0 : H[b]? = some k0) (hdead : k0.live = false) (ho : L.own = true) (hko : k.own = true) (hksz : k.sz = L.sz)
    {cur : Array Value} {t : TypeId} (hg : w.heap[L.g]? = some (.cells cur t (0, 0))) (hrows : RowsIn m (cellsIn w) L.sz k.rows cur)
    (hfree : ∀ b' L' k', m b' = some L' → L'.own = true → H[b']? = some k' → k'.live = true → L'.g ≠ L.g) (hnz : ¬ m.z L.g) :
    Rel B (addLoc m H.length ⟨L.g, 0, L.sz, true⟩) (H ++ [k]) w ∧ (∀ b L', m b = some L' → addLoc m H.length ⟨L.g, 0, L.sz, true⟩ b = some L') := by
  have hmn : m H.length = none := by
    cases h : m H.length with
    | none => rfl
    | some L => exact absurd (r.lt h) (Nat.lt_irrefl _)
  have hext : ∀ b L', m b = some L' → addLoc m H.length ⟨L.g, 0, L.sz, true⟩ b = some L' := fun b L' h => by
    rw [addLoc_ne (by intro e; subst e; rw [hmn] at h; cases h)]; exact h
  have hm : MLe m (cellsIn w) (addLoc m H.length ⟨L.g, 0, L.sz, true⟩) (cellsIn w) := ⟨hext, fun _ _ _ _ => rfl, fun _ h => h, fun _ _ _ => rfl⟩
  obtain ⟨_, _, hat⟩ := r.blk b L hb
  refine ⟨⟨r.base, ?_, r.zlt, ?_, ?_, r.lib.up hm⟩, hext⟩
  · intro b' L' h
    by_cases e : b' = H.length
    · subst e
      rw [addLoc_same] at h
      injection h with h
      subst h
      refine ⟨k, by simp, ⟨hksz, hko, fun _ => hat.lt (.inl ho), fun _ => ⟨(hat.ours ho).1, rfl⟩, (fun h => by cases h), fun _ i q e => ?_, fun _ _ => ⟨cur, t, hg⟩⟩⟩
      obtain ⟨h1, h2⟩ := hrows i q e
      refine ⟨h1, fun f c ef => ?_⟩
      obtain ⟨v, e1, e2⟩ := h2 f c ef
      refine ⟨v, ?_, e2.mono hm⟩
      simp only [Nat.zero_add]
      rw [cell_of_row _ _ _ _ _ _ hg]
      exact e1
    · rw [addLoc_ne e] at h
      obtain ⟨q, eq, hq⟩ := r.blk b' L' h
      exact ⟨q, by rw [List.getElem?_append_left (r.lt h)]; exact eq, hq.carry hm (Nat.le_refl _) fun _ => rfl⟩
  · intro b1 L1 q h ho1 e hl hz
    by_cases eb : b1 = H.length
    · subst eb
      rw [addLoc_same] at h
      injection h with h
      subst h
      exact hnz hz
    · rw [addLoc_ne eb] at h
      rw [List.getElem?_append_left (r.lt h)] at e
      exact r.zown b1 L1 q h ho1 e hl hz
  · intro b1 b2 L1 L2 q q' h h' ho1 ho2 e e' hl hl' hgg
    by_cases eb : b1 = H.length
    · by_cases eb' : b2 = H.length
      · omega
      · exfalso
        subst eb
        rw [addLoc_same] at h
        rw [addLoc_ne eb'] at h'
        injection h with h
        subst h
        rw [List.getElem?_append_left (r.lt h')] at e'
        exact hfree b2 L2 q' h' ho2 e' hl' hgg.symm
    · by_cases eb' : b2 = H.length
      · exfalso
        subst eb'
        rw [addLoc_same] at h'
        rw [addLoc_ne eb] at h
        injection h' with h'
        subst h'
        rw [List.getElem?_append_left (r.lt h)] at e
        exact hfree b1 L1 q h ho1 e hl hgg
      · rw [addLoc_ne eb] at h
        rw [addLoc_ne eb'] at h'
        rw [List.getElem?_append_left (r.lt h)] at e
        rw [List.getElem?_append_left (r.lt h')] at e'
        exact r.inj b1 b2 L1 L2 q q' h h' ho1 ho2 e e' hl hl' hgg

/-- A block is given up; its row stays as it is. -/
theorem St.drop {B H m w} (r : Rel B m H w) {b : Nat} {k : Blk} (hk : H[b]? = some k) : St B H m w (H.set b { k with live := false }) m w := by
  refine ⟨fun _ _ h => h, (fun _ _ h h' => by rw [h] at h'; cases h'), ⟨r.base, ?_, r.zlt, ?_, ?_, r.lib⟩, fun _ _ _ => rfl, (fun _ _ h h' => by rw [h] at h'; cases h'), Nat.le_refl _, fun _ _ => rfl, rfl, rfl, rfl, HLe.set hk rfl rfl (fun h => by cases h), fun _ h => h, fun _ h => .inl h, Or.inr (Nat.le_refl _)⟩
  · intro b' L' h'
    obtain ⟨q, eq, hq⟩ := r.blk b' L' h'
    by_cases e : b = b'
    · subst e
      rw [hk] at eq; injection eq with eq; subst eq
      exact ⟨{ k with live := false }, by simp [r.lt h'], ⟨hq.sz, hq.own, (fun h => hq.lt (h.elim .inl (fun h => by cases h))), hq.ours, (fun _ h => by cases h), (fun h => by cases h), (fun _ h => by cases h)⟩⟩
    · exact ⟨q, by rw [List.getElem?_set_ne e]; exact eq, hq⟩
  · intro b1 L1 q h ho1 e hl hz
    by_cases eb : b = b1
    · subst eb
      have hlt : b < H.length := (List.getElem?_eq_some_iff.1 hk).1
      simp [hlt] at e
      subst e
      cases hl
    · rw [List.getElem?_set_ne eb] at e
      exact r.zown b1 L1 q h ho1 e hl hz
  · intro b1 b2 L1 L2 q1 q2 h1 h2 ho1 ho2 e1 e2 hl1 hl2 hgg
    have back : ∀ (b' : Nat) (q' : Blk), (H.set b { k with live := false })[b']? = some q' → q'.live = true → H[b']? = some q' := fun b' q' e hl' => by
      by_cases eb : b = b'
      · subst eb
        have hlt : b < H.length := (List.getElem?_eq_some_iff.1 hk).1
        simp [hlt] at e
        subst e
        cases hl'
      · rw [List.getElem?_set_ne eb] at e; exact e
    exact r.inj b1 b2 L1 L2 q1 q2 h1 h2 ho1 ho2 (back _ _ e1 hl1) (back _ _ e2 hl2) hl1 hl2 hgg

theorem St.ofBelow {B : Nat} {m : LMap} {H : Heap} {w w' : World} (r : Rel B m H w) (h : RowKit.Below w.heap.size w w') (hd : Dr w w') {z : Nat → Prop} (hz : ∀ g, m.z g → z g) (hz2 : ∀ g, z g → m.z g ∨ (w.heap.size ≤ g ∧ g < w'.heap.size)) : St B H m w H ⟨m.f, z⟩ w' := by
  have hs : w.heap.size ≤ w'.heap.size := h.size
  have hg : ∀ g, g < w.heap.size → w'.heap[g]? = w.heap[g]? := fun g hg => h.block g hg
  have hm : MLe m (cellsIn w) ⟨m.f, z⟩ (cellsIn w') := ⟨fun _ _ h => h, fun b L h o => by obtain ⟨_, _, hk⟩ := r.blk b L h; exact cellsIn_same (hg _ (hk.lt (.inl o))), hz, fun g o h => World.cell?_of_block (hg g (r.zlt g h))⟩
  refine ⟨fun _ _ h => h, (fun _ _ h k => by rw [show m _ = _ from k] at h; cases h), ⟨Nat.le_trans r.base hs, fun b L hb => ?_, fun g h => ?_, fun b L k hb ho e hl h => ?_, r.inj, r.lib.up hm⟩, fun g h1 _ => hg g h1, (fun _ _ h k => by rw [show m _ = _ from k] at h; cases h), hs, fun g h1 => cellsIn_same (hg g h1), h.os, h.tape, h.output, HLe.refl _, hz, fun g h => (hz2 g h).elim .inl fun h => .inr (.inl h.1), hd⟩
  · obtain ⟨k, e, hk⟩ := r.blk b L hb
    exact ⟨k, e, hk.carry hm hs fun hl => hg _ (hk.lt (.inr hl))⟩
  · rcases hz2 g h with h | h
    · exact Nat.lt_of_lt_of_le (r.zlt g h) hs
    · exact h.2
  · rcases hz2 _ h with h | h
    · exact r.zown b L k hb ho e hl h
    · obtain ⟨q, _, hq⟩ := r.blk b L hb
      have := hq.lt (.inl ho)
      omega

end Go.Proofs.YtpjbjdicdjlmeaaGreatDoor.Eng

/- The engine, part 5: operands, loads, stores, boxes, built values: slim and machine. No statement of the seat is proved here. -/
namespace Go.Proofs.YtpjbjdicdjlmeaaGreatDoor.Eng
open Go
set_option linter.unusedVariables false
set_option linter.unusedSimpArgs false

variable {P : Program} {B : Nat} {m : LMap} {H : Heap} {w : World} {σ : Mem}

/-! ### Constants and operands -/
theorem cellOf_sound {v : Value} {c : Cell} (h : cellOf v = some c) : VR m σ c v := by
  unfold cellOf at h
  split at h <;> first | (injection h with h; subst h; constructor) | cases h

theorem cellsOf_sound : ∀ {vs : List Value} {cs : List Cell}, cellsOf vs = some cs → All2 (VR m σ) cs vs
  | [], cs, h => by simp [cellsOf] at h; subst h; exact .nil
  | v :: r, cs, h => by
    unfold cellsOf at h
    cases h1 : cellOf v with
    | none => simp [h1] at h
    | some c =>
      cases h2 : cellsOf r with
      | none => simp [h1, h2] at h
      | some l => simp [h1, h2] at h; subst h; exact .cons (cellOf_sound h1) (cellsOf_sound h2)

theorem avalOf_sound {v : Value} {a : AVal} (h : avalOf v = some a) : VRA m σ a v := by
  unfold avalOf at h
  split at h
  · split at h
    · rename_i h1
      injection h with h; subst h; exact .agg (cellsOf_sound h1)
    · cases h
  · split at h
    · rename_i h1
      injection h with h; subst h; exact .c (cellOf_sound h1)
    · cases h

/-- The places of the frame that are asked for read as the environment has them. -/
def EnvOn (m : LMap) (σ : Mem) (ts : List Nat) (e : Env) (a : Act) : Prop := ∀ t ∈ ts, VRA m σ (e t) (a.tmps.getD t undef)

theorem EnvOn.mono {m' σ' ts e a} (h : EnvOn m σ ts e a) (hm : MLe m σ m' σ') : EnvOn m' σ' ts e a := fun t ht => (h t ht).mono hm
theorem EnvOn.left {ts us e a} (h : EnvOn m σ (ts ++ us) e a) : EnvOn m σ ts e a := fun t ht => h t (by simp [ht])
theorem EnvOn.right {ts us e a} (h : EnvOn m σ (ts ++ us) e a) : EnvOn m σ us e a := fun t ht => h t (by simp [ht])

theorem opd_sound {x : Operand} {y : Opd} {e : Env} {a : Act} (h : cmpOpd x = some y) (he : EnvOn m σ y.tmps e a) : VRA m σ (y.ev e) (a.eval x) := by
  unfold cmpOpd at h
  split at h
  · injection h with h; subst h; exact he _ (by simp [Opd.tmps])
  · rename_i v
    cases h1 : avalOf v with
    | none => simp [h1] at h
    | some av => simp [h1] at h; subst h; exact avalOf_sound h1
  · injection h with h; subst h
    exact .c (.fn rfl (fun i c v hc => by simp at hc))
  · cases h

theorem opds_sound {e : Env} {a : Act} : ∀ {xs : List Operand} {ys : List Opd}, cmpOpds xs = some ys → EnvOn m σ (ys.flatMap Opd.tmps) e a → All2 (fun y v => VRA m σ (y.ev e) v) ys (xs.map a.eval)
  | [], ys, h, _ => by simp [cmpOpds] at h; subst h; exact .nil
  | x :: r, ys, h, he => by
    unfold cmpOpds at h
    cases h1 : cmpOpd x with
    | none => simp [h1] at h
    | some y => cases h2 : cmpOpds r with
      | none => simp [h1, h2] at h
      | some l =>
        simp [h1, h2] at h
        subst h
        rw [List.flatMap_cons] at he
        exact .cons (opd_sound h1 he.left) (opds_sound h2 he.right)

/-! ### Types -/
theorem run_isAggT {t : TypeId} {g : Bool} (h : isAggT P t = some g) (w : World) : (isAgg t).run P w = .ok g w := by
  unfold isAggT at h
  cases hd : P.underlying t with
  | none => simp [hd] at h
  | some d => cases d <;> simp [hd] at h <;> subst h <;> simp [isAgg, run_underlying hd]

theorem sizeT_info {t : TypeId} {n : Nat} (h : sizeT P t = some n) : ∃ i, P.info? t = some i ∧ i.size = n := by
  unfold sizeT at h
  cases hi : P.info? t with
  | none => simp [hi] at h
  | some i => simp [hi] at h; exact ⟨i, rfl, h⟩

theorem run_sizeT {t : TypeId} {n : Nat} (h : sizeT P t = some n) (w : World) : (sizeOf t).run P w = .ok n w := by
  obtain ⟨i, hi, rfl⟩ := sizeT_info h
  simp [sizeOf, typeInfo, hi]

theorem run_zeroT {t : TypeId} {z : List Cell} (h : zeroT P t = some z) : ∃ v, (∀ w, (zeroValue t).run P w = .ok v w) ∧ ∀ m σ, All2 (VR m σ) z v.cells.toList := by
  unfold zeroT at h
  cases hi : P.info? t with
  | none => simp [hi] at h
  | some i =>
    cases hz : i.zero with
    | none => simp [hi, hz] at h
    | some v => simp [hi, hz] at h; exact ⟨v, fun w => by simp [zeroValue, typeInfo, hi, hz], fun m σ => cellsOf_sound h⟩

/-! ### Rows of memory as lists of values -/
theorem row_vals {L : Loc} {i : Nat} {r : List Cell} (h : RowAt m w L i r) : ∃ vs : List Value, All2 (VR m (cellsIn w)) r vs ∧ ∀ (f : Nat) v, vs[f]? = some v → w.cell? ⟨L.g, L.o + i * L.sz + f, none⟩ = some v := by
  obtain ⟨_, h2⟩ := h
  refine ⟨(List.range r.length).map fun f => (w.cell? ⟨L.g, L.o + i * L.sz + f, none⟩).getD undef, All2.of_get (by simp) ?_, ?_⟩
  · intro f c v hc hv
    obtain ⟨u, e1, e2⟩ := h2 f c hc
    have hf : f < r.length := (List.getElem?_eq_some_iff.1 hc).1
    simp [hf, e1] at hv
    subst hv
    exact e2
  · intro f v hv
    have hf : f < r.length := by
      have := (List.getElem?_eq_some_iff.1 hv).1
      simpa using this
    obtain ⟨u, e1, _⟩ := h2 f r[f] (List.getElem?_eq_getElem hf)
    simp [hf, e1] at hv
    subst hv
    exact e1

theorem Heap.row_some {b i : Nat} {r : List Cell} (h : H.row b i = some r) : ∃ k, H[b]? = some k ∧ k.live = true ∧ k.rows[i]? = some r := by
  unfold Heap.row at h
  cases hk : H[b]? with
  | none => simp [hk] at h
  | some k => cases hl : k.live with
    | false => simp [hk, hl] at h
    | true => simp [hk, hl] at h; exact ⟨k, rfl, hl, h⟩

theorem Rel.rowAt (r : Rel B m H w) {b i : Nat} {L : Loc} {q : List Cell} (hb : m b = some L) (h : H.row b i = some q) : RowAt m w L i q := by
  obtain ⟨k, hk, hl, hq⟩ := Heap.row_some h
  obtain ⟨k', hk', hat⟩ := r.blk b L hb
  rw [hk] at hk'; injection hk' with hk'; subst hk'
  exact hat.rows hl i q hq

theorem addr_add (g o n : Nat) : (⟨g, o, none⟩ : Addr).add n = ⟨g, o + n, none⟩ := by
  unfold Addr.add; split
  · subst_vars; rfl
  · rfl

theorem ofCells_sound {g : Bool} {cs : List Cell} {v : AVal} {vs : List Value} (h : ofCells g cs = some v) (hr : All2 (VR m σ) cs vs) :
    (g = true ∧ VRA m σ v (.agg vs.toArray)) ∨ (g = false ∧ ∃ u, vs = [u] ∧ VRA m σ v u) := by
  unfold ofCells at h
  cases g with
  | true => simp at h; subst h; exact .inl ⟨rfl, .agg (by simpa using hr)⟩
  | false =>
    simp at h
    split at h
    · rename_i x
      injection h with h; subst h
      obtain ⟨u, rfl, hu⟩ := hr.inv_single
      exact .inr ⟨rfl, u, rfl, .c hu⟩
    · cases h

/-! ### Load -/
theorem load_at {t : TypeId} {g : Bool} {n : Nat} (hg : isAggT P t = some g) (hn : sizeT P t = some n) (A : Addr) {cs : List Cell} {us : List Value} (h3 : All2 (VR m (cellsIn w)) cs us) (hlen : us.length = n)
    (hcell : ∀ (j : Nat) u, us[j]? = some u → w.cell? (A.add j) = some u) {v : AVal} (hv : ofCells g cs = some v) :
    ∃ v', (Instr.loadAt t (.pointer (some A))).run P w = .ok v' w ∧ VRA m (cellsIn w) v v' := by
  rcases ofCells_sound hv h3 with ⟨rfl, hr⟩ | ⟨rfl, u, hu, hr⟩
  · refine ⟨_, ?_, hr⟩
    have := run_loadCells_list (P := P) w A _ hcell
    rw [hlen] at this
    simp [Instr.loadAt, Instr.sureAddr, loadVar, run_isAggT hg, run_sizeT hn, this]
  · refine ⟨u, ?_, hr⟩
    have h0 := hcell 0 u (by rw [hu]; rfl)
    have ha : A.add 0 = A := by simp [Addr.add]
    rw [ha] at h0
    simp [Instr.loadAt, Instr.sureAddr, loadVar, run_isAggT hg, h0]

theorem loadF_sound {t : TypeId} {g : Bool} {n : Nat} (hg : isAggT P t = some g) (hn : sizeT P t = some n) {f : Nat} {q : List Cell} {v : AVal} {va : Value}
    (ha : VR m (cellsIn w) (.fp q f) va) (hfn : f + n ≤ q.length) (hv : ofCells g ((q.drop f).take n) = some v) :
    ∃ v', (Instr.loadAt t va).run P w = .ok v' w ∧ VRA m (cellsIn w) v v' := by
  cases ha with
  | @fp _ gg o _ vs h1 h2 h3 =>
    have hl : ((q.drop f).take n).length = n := by simp; omega
    have hget : ∀ (j : Nat) x, ((q.drop f).take n)[j]? = some x → q[f + j]? = some x := fun j x e => by
      rw [List.getElem?_take] at e
      split at e
      · rw [List.getElem?_drop] at e; exact e
      · cases e
    refine load_at hg hn ⟨gg, o + f, none⟩ (cs := (q.drop f).take n) (us := (List.range n).map fun j => vs (f + j)) (All2.of_get (by simp; omega) fun j x u e1 e2 => ?_) (by simp) (fun j u e => ?_) hv
    · have hj : j < n := by have := (List.getElem?_eq_some_iff.1 e1).1; omega
      simp [hj] at e2
      subst e2
      exact h3 _ x (hget j x e1)
    · have hj : j < n := by have := (List.getElem?_eq_some_iff.1 e).1; simpa using this
      simp [hj] at e
      subst e
      have := h2 (f + j) _ (hget j _ (List.getElem?_eq_getElem (by omega)))
      rw [addr_add, Nat.add_assoc]
      exact this

theorem load_sound (r : Rel B m H w) {t : TypeId} {g : Bool} {n : Nat} (hg : isAggT P t = some g) (hn : sizeT P t = some n) {b i f : Nat} {q : List Cell} {v : AVal} {va : Value}
    (ha : VRA m (cellsIn w) (.c (.ptr b i f)) va) (hq : H.row b i = some q) (hfn : f + n ≤ q.length) (hv : ofCells g ((q.drop f).take n) = some v) :
    ∃ v', (Instr.loadAt t va).run P w = .ok v' w ∧ VRA m (cellsIn w) v v' := by
  cases ha with
  | c ha =>
    cases ha with
    | ptr hb =>
      rename_i L
      obtain ⟨vs, h1, h2⟩ := row_vals (r.rowAt hb hq)
      have hl := h1.length
      have h3 : All2 (VR m (cellsIn w)) ((q.drop f).take n) ((vs.drop f).take n) := (h1.drop f).take n
      have hlen : ((vs.drop f).take n).length = n := by simp; omega
      have hcell : ∀ (j : Nat) u, ((vs.drop f).take n)[j]? = some u → w.cell? ((⟨L.g, L.o + i * L.sz + f, none⟩ : Addr).add j) = some u := by
        intro j u hj
        rw [addr_add, Nat.add_assoc]
        refine h2 (f + j) u ?_
        rw [List.getElem?_take] at hj
        split at hj
        · rw [List.getElem?_drop] at hj; exact hj
        · cases hj
      rcases ofCells_sound hv h3 with ⟨rfl, hr⟩ | ⟨rfl, u, hu, hr⟩
      · refine ⟨_, ?_, hr⟩
        have := run_loadCells_list (P := P) w ⟨L.g, L.o + i * L.sz + f, none⟩ _ hcell
        rw [hlen] at this
        simp [Instr.loadAt, Instr.sureAddr, loadVar, run_isAggT hg, run_sizeT hn, this]
      · refine ⟨u, ?_, hr⟩
        have h0 := hcell 0 u (by rw [hu]; rfl)
        rw [addr_add, Nat.add_zero] at h0
        simp [Instr.loadAt, Instr.sureAddr, loadVar, run_isAggT hg, h0]

/-! ### Store -/
theorem mul_row_lt {i j f sz : Nat} (h : i < j) (hf : f < sz) : i * sz + f < j * sz := by
  have : (i + 1) * sz ≤ j * sz := Nat.mul_le_mul_right sz h
  rw [Nat.add_mul, Nat.one_mul] at this
  omega

theorem rowsIn_of (r : Rel B m H w) {b : Nat} {L : Loc} {k : Blk} (hb : m b = some L) (hk : H[b]? = some k) (ho : L.own = true) (hl : k.live = true) {cur : Array Value} {t : TypeId} (hg : w.heap[L.g]? = some (.cells cur t (0, 0))) :
    RowsIn m (cellsIn w) L.sz k.rows cur := by
  obtain ⟨k', hk', hat⟩ := r.blk b L hb
  rw [hk] at hk'; injection hk' with hk'; subst hk'
  intro i q e
  obtain ⟨h1, h2⟩ := hat.rows hl i q e
  refine ⟨h1, fun f c ef => ?_⟩
  obtain ⟨v, e1, e2⟩ := h2 f c ef
  rw [(hat.ours ho).2, Nat.zero_add, cell_of_row _ _ _ _ _ _ hg] at e1
  exact ⟨v, e1, e2⟩

theorem getElem?_splice (cur : List Value) (o : Nat) (vs : List Value) (h : o + vs.length ≤ cur.length) (j : Nat) :
    (cur.take o ++ vs ++ cur.drop (o + vs.length))[j]? = if o ≤ j ∧ j < o + vs.length then vs[j - o]? else cur[j]? := by
  have hl : (cur.take o).length = o := by simp; omega
  by_cases h1 : j < o
  · rw [if_neg (by omega), List.append_assoc, List.getElem?_append_left (by omega), List.getElem?_take, if_pos h1]
  · by_cases h2 : j < o + vs.length
    · rw [if_pos (by omega), List.append_assoc, List.getElem?_append_right (by omega), hl, List.getElem?_append_left (by omega)]
    · rw [if_neg (by omega), List.getElem?_append_right (by simp; omega), List.getElem?_drop]
      congr 1
      simp
      omega

theorem store_sound (r : Rel B m H w) {t : TypeId} {n : Nat} (hn : sizeT P t = some n) {b i f : Nat} {q : List Cell} {v : AVal} {va vv : Value}
    (ha : VRA m (cellsIn w) (.c (.ptr b i f)) va) (hv : VRA m (cellsIn w) v vv) (hc : v.cells ≠ [] ∨ ∃ cs, v = .agg cs) (hq : H.row b i = some q) (hm : H.mine b = true) (hcl : v.cells.length = n) (hn0 : 0 < n) (hfn : f + n ≤ q.length) :
    ∃ w', (Instr.storeAt t va vv).run P w = .ok () w' ∧ St B H m w (H.put b i (q.take f ++ v.cells ++ q.drop (f + n))) m w' := by
  cases ha with
  | c ha =>
    cases ha with
    | ptr hb =>
      rename_i L
      obtain ⟨k, hk, hl, hkq⟩ := Heap.row_some hq
      have hown : k.own = true := by simp [Heap.mine, hk, hl] at hm; exact hm
      obtain ⟨k', hk', hat⟩ := r.blk b L hb
      rw [hk] at hk'; injection hk' with hk'; subst hk'
      have ho : L.own = true := by rw [← hat.own]; exact hown
      obtain ⟨cur, ct, hg⟩ := hat.row ho hl
      have hrows := rowsIn_of r hb hk ho hl hg
      have hvs := hv.cells hc
      have hvl := hvs.length
      obtain ⟨hq1, hq2⟩ := hrows i q hkq
      have hin : i * L.sz + f + vv.cells.toList.length ≤ cur.size := by
        rw [← hvl, hcl]
        obtain ⟨u, e1, _⟩ := hq2 (f + n - 1) (q[f + n - 1]'(by omega)) (List.getElem?_eq_getElem (by omega))
        have := (Array.getElem?_eq_some_iff.1 e1).1
        omega
      have hst := run_storeCells_at P L.g (i * L.sz + f) ct vv.cells.toList 0 cur w hg (by simpa using hin) (by
        intro u hu
        obtain ⟨c, _, hc⟩ := hvs.right_mem u hu
        exact hc.oneCell)
      simp only [Nat.add_zero] at hst
      have hrun : (Instr.storeAt t (.pointer (some ⟨L.g, L.o + i * L.sz + f, none⟩)) vv).run P w = .ok () (w.setRow L.g (List.take (i * L.sz + f) cur.toList ++ vv.cells.toList ++ List.drop (i * L.sz + f + vv.cells.toList.length) cur.toList).toArray) := by
        have h0 : L.o = 0 := (hat.ours ho).2
        have hsz : vv.cells.size = n := by rw [← hcl, hvl]; simp
        simp [Instr.storeAt, Instr.sureAddr, storeVar, run_sizeT hn, hsz, h0, hst]
      refine ⟨_, hrun, ?_⟩
      · have hput : H.put b i (q.take f ++ v.cells ++ q.drop (f + n)) = H.set b { k with rows := k.rows.set i (q.take f ++ v.cells ++ q.drop (f + n)) } := by simp [Heap.put, hk]
        rw [hput]
        refine St.turn r hb hk ho hl hg _ ?_ rfl rfl ?_
        · have hin' := hin
          simp only [Array.length_toList] at hin'
          simp only [List.size_toArray, List.length_append, List.length_take, List.length_drop, Array.length_toList]
          omega
        · intro _ i' q' e'
          simp only [List.getElem?_set] at e'
          split at e'
          · rename_i hii
            subst hii
            split at e'
            · injection e' with e'
              subst e'
              refine ⟨by simp [hcl]; omega, fun f' c' ef => ?_⟩
              rw [List.getElem?_toArray, getElem?_splice _ _ _ (by simpa using hin)]
              by_cases hff : f ≤ f' ∧ f' < f + n
              · have h1 : (q.take f ++ v.cells ++ q.drop (f + n))[f']? = v.cells[f' - f]? := by
                  rw [List.append_assoc, List.getElem?_append_right (by simp; omega)]
                  rw [List.getElem?_append_left (by simp; omega)]
                  congr 1
                  simp
                  omega
                rw [h1] at ef
                obtain ⟨u, e1, e2⟩ := hvs.get ef
                refine ⟨u, ?_, e2⟩
                rw [if_pos (by rw [← hvl, hcl]; omega)]
                rw [show i * L.sz + f' - (i * L.sz + f) = f' - f by omega]
                exact e1
              · have h1 : (q.take f ++ v.cells ++ q.drop (f + n))[f']? = q[f']? := by
                  by_cases hlt : f' < f
                  · rw [List.append_assoc, List.getElem?_append_left (by simp; omega), List.getElem?_take, if_pos hlt]
                  · rw [List.getElem?_append_right (by simp; omega), List.getElem?_drop]
                    congr 1
                    simp
                    omega
                rw [h1] at ef
                obtain ⟨u, e1, e2⟩ := hq2 f' c' ef
                refine ⟨u, ?_, e2⟩
                rw [if_neg (by rw [← hvl, hcl]; omega)]
                simpa using e1
            · cases e'
          · rename_i hii
            obtain ⟨g1, g2⟩ := hrows i' q' e'
            refine ⟨g1, fun f' c' ef => ?_⟩
            obtain ⟨u, e1, e2⟩ := g2 f' c' ef
            refine ⟨u, ?_, e2⟩
            have hf' : f' < L.sz := by rw [← g1]; exact (List.getElem?_eq_some_iff.1 ef).1
            rw [List.getElem?_toArray, getElem?_splice _ _ _ (by simpa using hin), if_neg]
            · simpa using e1
            · rw [← hvl, hcl]
              rcases Nat.lt_or_gt_of_ne hii with h | h
              · have := mul_row_lt (sz := L.sz) (f := f + n - 1) h (by omega)
                omega
              · have := mul_row_lt (sz := L.sz) h hf'
                omega

end Go.Proofs.YtpjbjdicdjlmeaaGreatDoor.Eng

/- The engine, part 6: operations that leave memory alone: slim and machine. No statement of the seat is proved here. -/
namespace Go.Proofs.YtpjbjdicdjlmeaaGreatDoor.Eng
open Go
set_option linter.unusedVariables false
set_option linter.unusedSimpArgs false

variable {P : Program} {m : LMap} {w : World} {σ : Mem}

theorem beq_dec (a b : ByteArray) : (a.toList == b.toList) = decide (a = b) := by
  rw [ByteArray.toList_eq, ByteArray.toList_eq]
  by_cases h : a = b
  · subst h; simp
  · have : ¬ (a.data.toList = b.data.toList) := fun e => h (by
      obtain ⟨⟨x⟩⟩ := a
      obtain ⟨⟨y⟩⟩ := b
      simp at e
      rw [e])
    simp only [h, decide_false, beq_eq_false_iff_ne, ne_eq, this, not_false_eq_true]

/-! ### Binary operators -/
theorem bin_int {op : BinOp} {k k' : IntKind} {a b : Int} {c : Cell} (h : evBin op (.int k a) (.int k' b) = some c) (t : TypeId) :
    ∃ v, (binOp op t (.int k a) (.int k' b)).run P w = .ok v w ∧ VR m σ c v := by
  cases op <;> simp only [evBin] at h <;> first
    | (split at h <;> first
        | (split at h <;> first
            | (cases h; done)
            | (injection h with h; subst h; rename_i hk hb; subst hk; exact ⟨_, by simp only [binOp, ne_eq, not_true, if_false, Op.intDiv, hb]; rfl, .int _ _⟩))
        | (injection h with h; subst h; rename_i hk; first
            | (subst hk; first
                | exact ⟨_, by simp only [binOp, ne_eq, not_true, if_false, Op.intArith]; rfl, .int _ _⟩
                | exact ⟨_, by simp only [binOp, ne_eq, not_true, if_false, Op.intBits]; rfl, .int _ _⟩
                | exact ⟨_, by simp only [binOp, ne_eq, not_true, if_false, Op.intCmp]; rfl, .bool _⟩)
            | exact ⟨_, by simp only [binOp, Op.shift, show ¬ (b < 0) by omega, if_false]; rfl, .int _ _⟩)
        | (cases h; done))
    | (cases h; done)

theorem bin_str {op : BinOp} {a b : ByteArray} {c : Cell} (h : evBin op (.str a) (.str b) = some c) (t : TypeId) :
    ∃ v, (binOp op t (.string a) (.string b)).run P w = .ok v w ∧ VR m σ c v := by
  have hadd : a.size + b.size ≤ 9223372036854775807 → ¬ (((a.size + b.size : Nat) : Int) > IntKind.i64.max) := by
    intro h
    have : IntKind.i64.max = 9223372036854775807 := by decide
    omega
  cases op <;> simp only [evBin] at h <;> first
    | (split at h
       · injection h with h; subst h
         rename_i hs
         exact ⟨_, by simp only [binOp, Op.stringOp, hadd hs, if_false]; rfl, .str _⟩
       · cases h)
    | (injection h with h; subst h; exact ⟨_, by simp only [binOp, Op.stringOp, beq_dec]; rfl, .bool _⟩)
    | (cases h; done)

theorem equal_bool {t : TypeId} (ht : P.underlying t = some .bool) (a b : Bool) : (Op.equal t (.bool a) (.bool b)).run P w = .ok (a == b) w := by
  exact run_equalIn_bool' w 9999 t a b ht

theorem bin_bool {neg : Bool} {op : BinOp} (hop : op = if neg then .neq else .eql) {a b : Bool} {t : TypeId} (ht : P.underlying t = some .bool) (o1 o2 : Operand) :
    (do eqGuard op t o1 o2 (.bool a) (.bool b); binOp op t (.bool a) (.bool b) : Sem Value).run P w = .ok (.bool (neg != (a == b))) w := by
  cases neg <;> subst hop
  · simp only [Bool.false_eq_true, if_false, eqGuard, binOp, Sem.run_bind, equal_bool ht, Result.andThen_ok]
    simp
  · simp only [if_true, eqGuard, binOp, Sem.run_bind, equal_bool ht, Result.andThen_ok]
    simp

theorem eqGuard_plain (op : BinOp) (t : TypeId) (x y : Operand) (a b : Value) (h1 : a ≠ .nilIface ∨ b ≠ .nilIface) (h2 : ∀ cs, a ≠ .agg cs) : (eqGuard op t x y a b).run P w = .ok () w := by
  unfold eqGuard
  cases op <;> simp only [] <;> first
    | rfl
    | (cases a <;> cases b <;> first
        | (exfalso; rcases h1 with h1 | h1 <;> exact h1 rfl)
        | (exfalso; exact h2 _ rfl)
        | rfl)

theorem VR.noAgg {c v} (h : VR m σ c v) : ∀ cs, v ≠ .agg cs := by intro cs; cases h <;> intro h <;> cases h

theorem bin_sound {op : BinOp} {x y : Cell} {c : Cell} (h : evBin op x y = some c) {t : TypeId} {vx vy : Value} (hx : VR m σ x vx) (hy : VR m σ y vy) (o1 o2 : Operand) :
    ∃ v, (do eqGuard op t o1 o2 vx vy; binOp op t vx vy : Sem Value).run P w = .ok v w ∧ VR m σ c v := by
  have key : (∃ v, (binOp op t vx vy).run P w = .ok v w ∧ VR m σ c v) ∧ (vx ≠ .nilIface ∨ vy ≠ .nilIface) := by
    cases hx <;> cases hy <;> first
      | (simp only [evBin] at h; cases h)
      | exact ⟨bin_int h t, .inl (by intro h; cases h)⟩
      | exact ⟨bin_str h t, .inl (by intro h; cases h)⟩
  obtain ⟨⟨v, h1, h2⟩, h3⟩ := key
  exact ⟨v, by rw [Sem.run_bind, eqGuard_plain op t o1 o2 vx vy h3 hx.noAgg]; exact h1, h2⟩

theorem equal_nn {t e : TypeId} (ht : P.underlying t = some (.slice e)) : (Op.equal t (.slice none 0 0) (.slice none 0 0)).run P w = .ok true w := by
  show (Op.equalIn (9999 + 1) t (.slice none 0 0) (.slice none 0 0)).run P w = _
  unfold Op.equalIn
  simp only [Sem.run_bind, run_underlying ht, Result.andThen_ok]
  rfl
theorem equal_ns {t e : TypeId} (ht : P.underlying t = some (.slice e)) (A : Addr) (n c : Nat) : (Op.equal t (.slice none 0 0) (.slice (some A) n c)).run P w = .ok false w := by
  show (Op.equalIn (9999 + 1) t (.slice none 0 0) (.slice (some A) n c)).run P w = _
  unfold Op.equalIn
  simp only [Sem.run_bind, run_underlying ht, Result.andThen_ok]
  rfl
theorem equal_sn {t e : TypeId} (ht : P.underlying t = some (.slice e)) (A : Addr) (n c : Nat) : (Op.equal t (.slice (some A) n c) (.slice none 0 0)).run P w = .ok false w := by
  show (Op.equalIn (9999 + 1) t (.slice (some A) n c) (.slice none 0 0)).run P w = _
  unfold Op.equalIn
  simp only [Sem.run_bind, run_underlying ht, Result.andThen_ok]
  rfl
theorem equal_ii {t : TypeId} {ms : Array (String × TypeId)} (ht : P.underlying t = some (.interface ms)) : (Op.equal t .nilIface .nilIface).run P w = .ok true w := by
  show (Op.equalIn (9999 + 1) t .nilIface .nilIface).run P w = _
  unfold Op.equalIn
  simp only [Sem.run_bind, run_underlying ht, Result.andThen_ok]
  rfl
theorem equal_iv {t : TypeId} {ms : Array (String × TypeId)} (ht : P.underlying t = some (.interface ms)) (u : TypeId) (x : Value) : (Op.equal t .nilIface (.iface u x)).run P w = .ok false w := by
  show (Op.equalIn (9999 + 1) t .nilIface (.iface u x)).run P w = _
  unfold Op.equalIn
  simp only [Sem.run_bind, run_underlying ht, Result.andThen_ok]
  rfl
theorem equal_vi {t : TypeId} {ms : Array (String × TypeId)} (ht : P.underlying t = some (.interface ms)) (u : TypeId) (x : Value) : (Op.equal t (.iface u x) .nilIface).run P w = .ok false w := by
  show (Op.equalIn (9999 + 1) t (.iface u x) .nilIface).run P w = _
  unfold Op.equalIn
  simp only [Sem.run_bind, run_underlying ht, Result.andThen_ok]
  rfl

theorem evNil_l {sz : Nat} {rows : List (List Cell)} {b : Bool} (h : evNil true (.lst sz rows) .nilS = some b) : b = false := by
  cases rows with
  | nil => simp [evNil] at h
  | cons => simp [evNil] at h; exact h
theorem evNil_r {sz : Nat} {rows : List (List Cell)} {b : Bool} (h : evNil true .nilS (.lst sz rows) = some b) : b = false := by
  cases rows with
  | nil => simp [evNil] at h
  | cons => simp [evNil] at h; exact h

theorem nil_sound {sl neg b : Bool} {x y : Cell} (h : evNil sl x y = some b) {t : TypeId} (ht : (if sl then ∃ e, P.underlying t = some (.slice e) else ∃ ms, P.underlying t = some (.interface ms))) {vx vy : Value} (hx : VR m σ x vx) (hy : VR m σ y vy)
    (o1 o2 : Operand) (ho : nilConst o1 || nilConst o2) (op : BinOp) (hop : op = if neg then .neq else .eql) :
    ∃ v, (do eqGuard op t o1 o2 vx vy; binOp op t vx vy : Sem Value).run P w = .ok v w ∧ VR m σ (.bool (neg != b)) v := by
  have hg : (eqGuard op t o1 o2 vx vy).run P w = .ok () w := by
    by_cases hn : vx = .nilIface ∧ vy = .nilIface
    · obtain ⟨rfl, rfl⟩ := hn
      cases neg <;> subst hop <;> cases o1 <;> cases o2 <;> first
        | (exfalso; simp [nilConst] at ho; done)
        | simp [eqGuard]
    · refine eqGuard_plain op t o1 o2 vx vy ?_ hx.noAgg
      by_cases h1 : vx = .nilIface
      · exact .inr fun h2 => hn ⟨h1, h2⟩
      · exact .inl h1
  have he : ∃ r, (Op.equal t vx vy).run P w = .ok r w ∧ r = b := by
    cases sl with
    | true =>
      obtain ⟨e, ht⟩ := ht
      cases hx <;> cases hy <;> simp only [evNil] at h <;> first
        | (cases h; done)
        | (injection h with h; subst h; first | exact ⟨_, equal_nn ht, rfl⟩ | exact ⟨_, equal_ns ht _ _ _, rfl⟩ | exact ⟨_, equal_sn ht _ _ _, rfl⟩ | exact ⟨_, equal_ii ht, rfl⟩ | exact ⟨_, equal_iv ht _ _, rfl⟩ | exact ⟨_, equal_vi ht _ _, rfl⟩)
        | (obtain rfl := evNil_l h; exact ⟨_, equal_sn ht _ _ _, rfl⟩)
        | (obtain rfl := evNil_r h; exact ⟨_, equal_ns ht _ _ _, rfl⟩)
    | false =>
      obtain ⟨ms, ht⟩ := ht
      cases hx <;> cases hy <;> simp only [evNil] at h <;> first
        | (cases h; done)
        | (injection h with h; subst h; first | exact ⟨_, equal_nn ht, rfl⟩ | exact ⟨_, equal_ns ht _ _ _, rfl⟩ | exact ⟨_, equal_sn ht _ _ _, rfl⟩ | exact ⟨_, equal_ii ht, rfl⟩ | exact ⟨_, equal_iv ht _ _, rfl⟩ | exact ⟨_, equal_vi ht _ _, rfl⟩)
  obtain ⟨r, he, rfl⟩ := he
  have hb : (binOp op t vx vy).run P w = .ok (.bool (neg != r)) w := by
    cases sl with
    | true =>
      cases hx <;> cases hy <;> simp only [evNil] at h <;> first
        | (cases h; done)
        | (cases neg <;> subst hop <;> simp [binOp, he])
        | (split at h <;> first | (cases h; done) | (cases neg <;> subst hop <;> simp [binOp, he]))
    | false =>
      cases hx <;> cases hy <;> simp only [evNil] at h <;> first
        | (cases h; done)
        | (cases neg <;> subst hop <;> simp [binOp, he])
  exact ⟨_, by rw [Sem.run_bind, hg]; exact hb, .bool _⟩

/-! ### Unary operators, conversions -/
theorem un_sound {op : UnOp} {x c : Cell} (h : evUn op x = some c) {vx : Value} (hx : VR m σ x vx) : ∃ v, (Op.unary op vx).run P w = .ok v w ∧ VR m σ c v := by
  cases op <;> cases hx <;> simp only [evUn] at h <;> first
    | (cases h; done)
    | (injection h with h; subst h; first | exact ⟨_, rfl, .int _ _⟩ | exact ⟨_, rfl, .bool _⟩)

theorem conv_sound {s d : TypeId} {k ks : IntKind} (hs : P.underlying s = some (.int ks)) (hd : P.underlying d = some (.int k)) (k' : IntKind) (n : Int) :
    (convert s d (.int k' n)).run P w = .ok (.int k (k.wrap n)) w := by
  simp [convert, run_underlying hs, run_underlying hd, Conv.intToInt]

theorem convStr_sound {s d : TypeId} (hs : P.underlying s = some .string) (hd : P.underlying d = some .string) (b : ByteArray) :
    (convert s d (.string b)).run P w = .ok (.string b) w := by
  simp [convert, run_underlying hs, run_underlying hd]

/-! ### Bounds and slicing -/
theorem bound_sound {v : AVal} {y n : Nat} (h : bound v y = some n) {u : Value} (hu : VRA m σ v u) : ∃ k i, u = .int k i ∧ 0 ≤ i ∧ i ≤ y ∧ i.toNat = n := by
  unfold bound at h
  split at h
  · split at h
    · rename_i hc
      injection h with h
      cases hu with
      | c hu => cases hu; exact ⟨_, _, rfl, hc.1, hc.2, h⟩
    · cases h
  · cases h

theorem boundO_sound {x : Option Operand} {y : Option Opd} (hc : cmpO x = some y) {e : Env} {a : Act} (he : EnvOn m σ (optTmps y) e a) {n d r : Nat} (h : boundO e y n d = some r) :
    (x = none ∧ r = d) ∨ ∃ o k i, x = some o ∧ a.eval o = .int k i ∧ 0 ≤ i ∧ i ≤ n ∧ i.toNat = r := by
  unfold cmpO at hc
  split at hc
  · injection hc with hc; subst hc; simp [boundO] at h; exact .inl ⟨rfl, h.symm⟩
  · split at hc
    · injection hc with hc; subst hc
      rename_i o _ z hz
      obtain ⟨k, i, h1, h2, h3, h4⟩ := bound_sound (by simpa [boundO] using h) (opd_sound hz he)
      exact .inr ⟨o, k, i, rfl, h1, h2, h3, h4⟩
    · cases hc

theorem sliceBounds_sound {lo hi mx : Option Value} {len cap l h M : Nat} (isSl : Bool) (hlc : len ≤ cap)
    (h1 : (mx = none ∧ M = cap) ∨ ∃ k i, mx = some (.int k i) ∧ 0 ≤ i ∧ i ≤ cap ∧ i.toNat = M)
    (h2 : (hi = none ∧ mx = none ∧ h = len) ∨ ∃ k i, hi = some (.int k i) ∧ 0 ≤ i ∧ i ≤ M ∧ i.toNat = h)
    (h3 : (lo = none ∧ l = 0) ∨ ∃ k i, lo = some (.int k i) ∧ 0 ≤ i ∧ i ≤ h ∧ i.toNat = l) :
    (Instr.sliceBounds isSl len cap lo hi mx).run P w = .ok (l, h, M) w := by
  have S : ∀ {k : IntKind} {i : Int} {y n : Nat} (code : BoundsCode), 0 ≤ i → i ≤ (y : Int) → i.toNat = n → (Instr.sliceBound (.int k i) y code).run P w = .ok n w := by
    intro k i y n code a b e
    rw [run_sliceBound w k i y code a b, e]
  unfold Instr.sliceBounds
  rcases h1 with ⟨rfl, rfl⟩ | ⟨k1, i1, rfl, a1, b1, e1⟩ <;>
  rcases h2 with ⟨rfl, hx, rfl⟩ | ⟨k2, i2, rfl, a2, b2, e2⟩ <;>
  rcases h3 with ⟨rfl, rfl⟩ | ⟨k3, i3, rfl, a3, b3, e3⟩ <;>
  first
    | (exfalso; cases hx; done)
    | rfl
    | (simp only [Sem.run_bind, Sem.run_pure, Result.andThen_ok, S _ a2 b2 e2]; done)
    | (simp only [Sem.run_bind, Sem.run_pure, Result.andThen_ok, S _ a3 b3 e3]; done)
    | (simp only [Sem.run_bind, Sem.run_pure, Result.andThen_ok, S _ a2 b2 e2, S _ a3 b3 e3]; done)
    | (simp only [Sem.run_bind, Sem.run_pure, Result.andThen_ok, S _ a1 b1 e1, S _ a2 b2 e2]; done)
    | (simp only [Sem.run_bind, Sem.run_pure, Result.andThen_ok, S _ a1 b1 e1, S _ a2 b2 e2, S _ a3 b3 e3]; done)

theorem slS_sound {s : ByteArray} {e : Env} {a : Act} {lo hi : Option Operand} {lo' hi' : Option Opd} (hl : cmpO lo = some lo') (hh : cmpO hi = some hi') (el : EnvOn m σ (optTmps lo') e a) (eh : EnvOn m σ (optTmps hi') e a)
    {r : ByteArray} (h : evSlS s e lo' hi' = some r) {t : TypeId} (ht : P.underlying t = some .string) :
    (Instr.sliceAt t (.string s) (lo.map a.eval) (hi.map a.eval) none).run P w = .ok (.string r) w := by
  unfold evSlS at h
  split at h
  · rename_i hv hhv
    split at h
    · rename_i lv hlv
      injection h with h; subst h
      have hb := sliceBounds_sound (P := P) (w := w) (lo := lo.map a.eval) (hi := hi.map a.eval) (mx := none) (len := s.size) (cap := s.size) (l := lv) (h := hv) (M := s.size) false (Nat.le_refl _) (.inl ⟨rfl, rfl⟩)
        (by rcases boundO_sound hh eh hhv with ⟨rfl, rfl⟩ | ⟨o, k, i, rfl, h1, h2, h3, h4⟩
            · exact .inl ⟨rfl, rfl, rfl⟩
            · exact .inr ⟨k, i, by simp [h1], h2, h3, h4⟩)
        (by rcases boundO_sound hl el hlv with ⟨rfl, rfl⟩ | ⟨o, k, i, rfl, h1, h2, h3, h4⟩
            · exact .inl ⟨rfl, rfl⟩
            · exact .inr ⟨k, i, by simp [h1], h2, h3, h4⟩)
      simp [Instr.sliceAt, run_underlying ht, Instr.slice, hb]
    · cases h
  · cases h

theorem VR.lst' {sz n c : Nat} {A : Addr} {g o : Nat} {rows : List (List Cell)} {vs : Nat → Nat → Value} (hn : n = rows.length) (h1 : n ≤ c) (h2 : c ≤ maxLen) (h3 : rows ≠ [] → A = ⟨g, o, none⟩ ∧ m.z g) (h4 : ∀ (i : Nat) r, rows[i]? = some r → r.length = sz)
    (h5 : ∀ (i : Nat) r (f : Nat) x, rows[i]? = some r → r[f]? = some x → σ.cell ⟨g, o + i * sz + f, none⟩ = some (vs i f)) (h6 : ∀ (i : Nat) r (f : Nat) x, rows[i]? = some r → r[f]? = some x → VR m σ x (vs i f)) :
    VR m σ (.lst sz rows) (.slice (some A) n c) := by
  subst hn; exact .lst h1 h2 h3 h4 h5 h6

/-- A part of a slice that nobody writes. -/
theorem VR.lst_part {sz cap l h : Nat} {A A' : Addr} {n cap' : Nat} {rows : List (List Cell)} (hx : VR m σ (.lst sz rows) (.slice (some A) n cap)) (hh : h ≤ n) (hl : l ≤ h) (hc : h - l ≤ cap') (hc2 : cap' ≤ cap) (ha : h ≠ l → A' = A.add (l * sz)) :
    VR m σ (.lst sz ((rows.drop l).take (h - l))) (.slice (some A') (h - l) cap') := by
  cases hx with
  | @lst _ _ _ g o _ vs h1 h2 h3 h4 h5 h6 =>
    have hget : ∀ (i : Nat) r, ((rows.drop l).take (h - l))[i]? = some r → rows[l + i]? = some r := fun i r e => by
      rw [List.getElem?_take] at e
      split at e
      · rw [List.getElem?_drop] at e; exact e
      · cases e
    refine VR.lst' (g := g) (o := o + l * sz) (vs := fun i f => vs (l + i) f) (by simp; omega) hc (by omega) (fun hr => ?_) (fun i r e => h4 _ r (hget i r e)) (fun i r f x e1 e2 => ?_) (fun i r f x e1 e2 => h6 _ r f x (hget i r e1) e2)
    · have hne : rows ≠ [] := by intro h0; subst h0; simp at hr
      obtain ⟨ea, hz⟩ := h3 hne
      have hhl : h ≠ l := by intro e; subst e; simp at hr
      rw [ha hhl, ea]
      refine ⟨?_, hz⟩
      rw [addr_add]
    · have := h5 _ r f x (hget i r e1) e2
      rw [← this]
      congr 2
      rw [Nat.add_mul]; omega

/-- Slicing a slice: the machine's capacity is no less than the length. -/
theorem sl_sound {x c : Cell} {e : Env} {a : Act} {lo hi mx : Option Operand} {lo' hi' mx' : Option Opd} (hl : cmpO lo = some lo') (hh : cmpO hi = some hi') (hm : cmpO mx = some mx')
    (el : EnvOn m σ (optTmps lo') e a) (eh : EnvOn m σ (optTmps hi') e a) (em : EnvOn m σ (optTmps mx') e a) (hmh : mx'.isSome → hi'.isSome)
    (h : evSl x e lo' hi' mx' = some c) {n : Nat} (hf : fitsSz n x = true) {t q : TypeId} (ht : P.underlying t = some (.slice q)) (hn : sizeT P q = some n) {vx : Value} (hx : VR m σ x vx) :
    ∃ v, (Instr.sliceAt t vx (lo.map a.eval) (hi.map a.eval) (mx.map a.eval)).run P w = .ok v w ∧ VR m σ c v := by
  have hsome : ∀ {o : Option Operand} {o' : Option Opd}, cmpO o = some o' → (o.isSome ↔ o'.isSome) := by
    intro o o' ho
    unfold cmpO at ho
    split at ho
    · injection ho with ho; subst ho; simp
    · split at ho
      · injection ho with ho; subst ho; simp
      · cases ho
  -- all bounds are nought
  have zero : ∀ {M hv lv : Nat}, boundO e mx' 0 0 = some M → boundO e hi' 0 0 = some hv → boundO e lo' 0 0 = some lv → (Instr.sliceBounds true 0 0 (lo.map a.eval) (hi.map a.eval) (mx.map a.eval)).run P w = .ok (0, 0, 0) w := by
    intro M hv lv e1 e2 e3
    have z1 : M = 0 := by rcases boundO_sound hm em e1 with ⟨_, r⟩ | ⟨o, k, i, _, _, _, _, _⟩ <;> omega
    have z2 : hv = 0 := by rcases boundO_sound hh eh e2 with ⟨_, r⟩ | ⟨o, k, i, _, _, _, _, _⟩ <;> omega
    have z3 : lv = 0 := by rcases boundO_sound hl el e3 with ⟨_, r⟩ | ⟨o, k, i, _, _, _, _, _⟩ <;> omega
    subst z1; subst z2; subst z3
    exact sliceBounds_sound (P := P) (w := w) (lo := lo.map a.eval) (hi := hi.map a.eval) (mx := mx.map a.eval) (len := 0) (cap := 0) (l := 0) (h := 0) (M := 0) true (Nat.le_refl _)
        (by rcases boundO_sound hm em e1 with ⟨rfl, r⟩ | ⟨o, k, i, rfl, h1, h2, h3, h4⟩
            · exact .inl ⟨rfl, rfl⟩
            · exact .inr ⟨k, i, by simp [h1], h2, h3, h4⟩)
        (by rcases boundO_sound hh eh e2 with ⟨rfl, r⟩ | ⟨o, k, i, rfl, h1, h2, h3, h4⟩
            · refine .inl ⟨rfl, ?_, rfl⟩
              cases mx with
              | none => rfl
              | some o =>
                have := hmh ((hsome hm).1 rfl)
                have := (hsome hh).2 this
                cases this
            · exact .inr ⟨k, i, by simp [h1], h2, h3, h4⟩)
        (by rcases boundO_sound hl el e3 with ⟨rfl, r⟩ | ⟨o, k, i, rfl, h1, h2, h3, h4⟩
            · exact .inl ⟨rfl, rfl⟩
            · exact .inr ⟨k, i, by simp [h1], h2, h3, h4⟩)
  -- no third bound
  have two : ∀ {len cap hv lv : Nat} (A : Addr), len ≤ cap → mx' = none → boundO e hi' len len = some hv → boundO e lo' hv 0 = some lv → hv ≤ len ∧ lv ≤ hv ∧
      (Instr.sliceAt t (.slice (some A) len cap) (lo.map a.eval) (hi.map a.eval) (mx.map a.eval)).run P w = .ok (.slice (some (if cap = lv then A else A.add (lv * n))) (hv - lv) (cap - lv)) w := by
    intro len cap hv lv A h1 hmx e2 e3
    have hmn : mx = none := by
      cases mx with
      | none => rfl
      | some o => have := (hsome hm).1 rfl; rw [hmx] at this; cases this
    subst hmn
    have hhv : hv ≤ len := by rcases boundO_sound hh eh e2 with ⟨_, r⟩ | ⟨o, k, i, _, _, _, _, _⟩ <;> omega
    have hlv : lv ≤ hv := by rcases boundO_sound hl el e3 with ⟨_, r⟩ | ⟨o, k, i, _, _, _, _, _⟩ <;> omega
    have hb := sliceBounds_sound (P := P) (w := w) (lo := lo.map a.eval) (hi := hi.map a.eval) (mx := none) (len := len) (cap := cap) (l := lv) (h := hv) (M := cap) true h1 (.inl ⟨rfl, rfl⟩)
      (by rcases boundO_sound hh eh e2 with ⟨rfl, rfl⟩ | ⟨o, k, i, rfl, g1, g2, g3, g4⟩
          · exact .inl ⟨rfl, rfl, rfl⟩
          · exact .inr ⟨k, i, by simp [g1], g2, by omega, g4⟩)
      (by rcases boundO_sound hl el e3 with ⟨rfl, rfl⟩ | ⟨o, k, i, rfl, g1, g2, g3, g4⟩
          · exact .inl ⟨rfl, rfl⟩
          · exact .inr ⟨k, i, by simp [g1], g2, g3, g4⟩)
    exact ⟨hhv, hlv, by simp [Instr.sliceAt, run_underlying ht, Instr.slice, hb, run_sizeT hn]; split <;> rfl⟩
  -- a third bound
  have three : ∀ {len cap M hv lv : Nat} (A : Addr) (mo : Opd), len ≤ cap → mx' = some mo → bound (mo.ev e) len = some M → (∀ d, boundO e hi' M d = some hv → hv ≤ M ∧ (boundO e lo' hv 0 = some lv → lv ≤ hv ∧
      (Instr.sliceAt t (.slice (some A) len cap) (lo.map a.eval) (hi.map a.eval) (mx.map a.eval)).run P w = .ok (.slice (some (if M = lv then A else A.add (lv * n))) (hv - lv) (M - lv)) w)) := by
    intro len cap M hv lv A mo h1 hmx e1 d e2
    subst hmx
    obtain ⟨mo', hmo⟩ : ∃ mo', mx = some mo' := by
      cases mx with
      | none => have := (hsome hm).2 rfl; cases this
      | some o => exact ⟨o, rfl⟩
    subst hmo
    have e1' : boundO e (some mo) len 0 = some M := e1
    have hM : M ≤ len := by rcases boundO_sound hm em e1' with ⟨_, r⟩ | ⟨o, k, i, _, _, _, _, _⟩ <;> omega
    have hhv : hv ≤ M := by
      rcases boundO_sound hh eh e2 with ⟨r0, r⟩ | ⟨o, k, i, _, _, _, _, _⟩
      · subst r0
        have := (hsome hh).2 (hmh rfl)
        cases this
      · omega
    refine ⟨hhv, fun e3 => ?_⟩
    have hlv : lv ≤ hv := by rcases boundO_sound hl el e3 with ⟨_, r⟩ | ⟨o, k, i, _, _, _, _, _⟩ <;> omega
    have hb := sliceBounds_sound (P := P) (w := w) (lo := lo.map a.eval) (hi := hi.map a.eval) (mx := some (a.eval mo')) (len := len) (cap := cap) (l := lv) (h := hv) (M := M) true h1
      (by rcases boundO_sound hm em e1' with ⟨r0, _⟩ | ⟨o, k, i, r0, g1, g2, g3, g4⟩
          · cases r0
          · injection r0 with r0; subst r0
            exact .inr ⟨k, i, by rw [g1], g2, by omega, g4⟩)
      (by rcases boundO_sound hh eh e2 with ⟨r0, r⟩ | ⟨o, k, i, rfl, g1, g2, g3, g4⟩
          · subst r0
            have := (hsome hh).2 (hmh rfl)
            cases this
          · exact .inr ⟨k, i, by simp [g1], g2, g3, g4⟩)
      (by rcases boundO_sound hl el e3 with ⟨rfl, r0⟩ | ⟨o, k, i, rfl, g1, g2, g3, g4⟩
          · exact .inl ⟨rfl, r0⟩
          · exact .inr ⟨k, i, by simp [g1], g2, g3, g4⟩)
    exact ⟨hlv, by simp [Instr.sliceAt, run_underlying ht, Instr.slice, hb, run_sizeT hn]; split <;> rfl⟩
  cases hx with
  | nilS =>
    simp only [evSl] at h
    split at h
    · rename_i M hv lv e1 e2 e3
      injection h with h; subst h
      exact ⟨_, by simp [Instr.sliceAt, run_underlying ht, Instr.slice, zero e1 e2 e3, run_sizeT hn], .nilS⟩
    · cases h
  | zerN =>
    simp only [evSl] at h
    split at h
    · rename_i M hv lv e1 e2 e3
      injection h with h; subst h
      exact ⟨_, by simp [Instr.sliceAt, run_underlying ht, Instr.slice, zero e1 e2 e3, run_sizeT hn], .zerN⟩
    · cases h
  | zerS =>
    simp only [evSl] at h
    split at h
    · rename_i M hv lv e1 e2 e3
      injection h with h; subst h
      exact ⟨_, by simp [Instr.sliceAt, run_underlying ht, Instr.slice, zero e1 e2 e3, run_sizeT hn]; rfl, .zerS⟩
    · cases h
  | lstN =>
    rename_i sz
    simp only [evSl, List.length_nil, List.drop_nil, List.take_nil] at h
    cases hmx : mx' with
    | none =>
      rw [hmx] at h
      simp only at h
      split at h <;> try (cases h; done)
      rename_i hv e2
      split at h <;> try (cases h; done)
      rename_i lv e3
      injection h with h; subst h
      have hhv : hv = 0 := by rcases boundO_sound hh eh e2 with ⟨_, r⟩ | ⟨o, k, i, _, _, _, _, _⟩ <;> omega
      subst hhv
      have e1 : boundO e mx' 0 0 = some 0 := by rw [hmx]; rfl
      exact ⟨_, by simp [Instr.sliceAt, run_underlying ht, Instr.slice, zero e1 e2 e3, run_sizeT hn], .lstN⟩
    | some mo =>
      rw [hmx] at h
      simp only at h
      split at h <;> try (cases h; done)
      rename_i M e1
      split at h <;> try (cases h; done)
      rename_i hv e2
      split at h <;> try (cases h; done)
      rename_i lv e3
      have e1' : boundO e mx' 0 0 = some M := by rw [hmx]; exact e1
      have hM : M = 0 := by rcases boundO_sound hm em e1' with ⟨_, r⟩ | ⟨o, k, i, _, _, _, _, _⟩ <;> omega
      subst hM
      have hhv : hv = 0 := by rcases boundO_sound hh eh e2 with ⟨_, r⟩ | ⟨o, k, i, _, _, _, _, _⟩ <;> omega
      subst hhv
      refine ⟨_, by simp [Instr.sliceAt, run_underlying ht, Instr.slice, zero e1' e2 e3, run_sizeT hn]; rfl, ?_⟩
      split at h
      · injection h with h; subst h; exact .zerN
      · injection h with h; subst h; exact .lstN
  | lst g1 g2 g3 g4 g5 g6 =>
    rename_i sz A cap g o rows vs
    have hsz : sz = n := by simpa [fitsSz] using hf
    subst hsz
    have hx0 : VR m σ (.lst sz rows) (.slice (some A) rows.length cap) := .lst g1 g2 g3 g4 g5 g6
    simp only [evSl] at h
    split at h
    · split at h <;> try (cases h; done)
      rename_i hv e2
      split at h <;> try (cases h; done)
      rename_i lv e3
      injection h with h; subst h
      obtain ⟨k1, k2, k3⟩ := two A g1 rfl e2 e3
      refine ⟨_, k3, hx0.lst_part k1 k2 (by omega) (by omega) (fun hne => by rw [if_neg (by omega)])⟩
    · rename_i mo
      split at h <;> try (cases h; done)
      rename_i M e1
      split at h <;> try (cases h; done)
      rename_i hv e2
      split at h <;> try (cases h; done)
      rename_i lv e3
      have hM : M ≤ rows.length := by
        have e1' : boundO e (some mo) rows.length 0 = some M := e1
        rcases boundO_sound hm em e1' with ⟨_, r⟩ | ⟨o, k, i, _, _, _, _, _⟩ <;> omega
      obtain ⟨k1, k2⟩ := three (hv := hv) (lv := lv) A mo g1 rfl e1 _ e2
      obtain ⟨k3, k4⟩ := k2 e3
      refine ⟨_, k4, ?_⟩
      split at h
      · rename_i hML
        injection h with h; subst h
        subst hML
        have z1 : hv - M = 0 := by omega
        rw [z1, Nat.sub_self]
        exact .zerS
      · injection h with h; subst h
        exact hx0.lst_part (by omega) k3 (by omega) (by omega) (fun hne => by rw [if_neg (by omega)])
  | slc h1 h2 h3 h4 =>
    rename_i b s len sz z A cap
    have hsz : sz = n := by simpa [fitsSz] using hf
    subst hsz
    simp only [evSl] at h
    split at h
    · split at h <;> try (cases h; done)
      rename_i hv e2
      split at h <;> try (cases h; done)
      rename_i lv e3
      injection h with h; subst h
      obtain ⟨hhv, hlv, k3⟩ := two A h1 rfl e2 e3
      refine ⟨_, k3, .slc (by omega) (fun hz => by have := h2 hz; omega) (by omega) ?_⟩
      obtain ⟨L, e1, ez, h5⟩ := h4
      refine ⟨L, e1, ez, fun hc => ?_⟩
      obtain ⟨ea, eo⟩ := h5 (by omega)
      refine ⟨?_, fun ho => ?_⟩
      · rw [if_neg (by omega), ea, addr_add, Nat.add_mul, Nat.add_assoc]
      · rw [← eo ho]; congr 1; omega
    · rename_i mo
      split at h <;> try (cases h; done)
      rename_i M e1
      split at h <;> try (cases h; done)
      rename_i hv e2
      split at h <;> try (cases h; done)
      rename_i lv e3
      split at h <;> try (cases h; done)
      rename_i hML
      subst hML
      injection h with h; subst h
      obtain ⟨k1, k2⟩ := three (hv := hv) (lv := M) A mo h1 rfl e1 _ e2
      obtain ⟨k3, k4⟩ := k2 e3
      refine ⟨_, k4, ?_⟩
      have z1 : hv - M = 0 := by omega
      rw [z1, Nat.sub_self]
      obtain ⟨L, e1, ez, _⟩ := h4
      exact .slc (Nat.le_refl _) (fun _ => rfl) (Nat.zero_le _) ⟨L, e1, ez, fun hc => absurd rfl hc⟩
  | _ => simp only [evSl] at h; cases h

end Go.Proofs.YtpjbjdicdjlmeaaGreatDoor.Eng

/- The engine, part 7: what makes blocks, parts of values, appends: slim and machine. No statement of the seat is proved here. -/
namespace Go.Proofs.YtpjbjdicdjlmeaaGreatDoor.Eng
open Go
set_option linter.unusedVariables false
set_option linter.unusedSimpArgs false

variable {P : Program} {B : Nat} {m : LMap} {H : Heap} {w : World} {σ : Mem}

/-! ### New blocks -/
theorem RowsIn.one {cs : List Cell} {vs : Array Value} (h : All2 (VR m σ) cs vs.toList) : RowsIn m σ cs.length [cs] vs := by
  intro i r e
  cases i with
  | succ i => simp at e
  | zero =>
    simp at e
    subst e
    refine ⟨rfl, fun f c ef => ?_⟩
    obtain ⟨v, e1, e2⟩ := h.get ef
    exact ⟨v, by simpa using e1, e2⟩

theorem ptr_new {k : Nat} {σ' : Mem} (g b sz : Nat) : VRA (addLoc m b ⟨g, 0, sz, true⟩) σ' (.c (.ptr b 0 0)) (.pointer (some ⟨g, 0, none⟩)) := by
  have := VR.ptr (σ := σ') (i := 0) (f := 0) (addLoc_same m b ⟨g, 0, sz, true⟩)
  simp only [Nat.zero_mul, Nat.add_zero] at this
  exact .c this

theorem newVar_sound (r : Rel B m H w) (t : TypeId) {cs : List Cell} {v : Value} (h : All2 (VR m (cellsIn w)) cs v.cells.toList) :
    ∃ w' m' u, (do pure (.pointer (some (← newVar t v))) : Sem Value).run P w = .ok u w' ∧ St B H m w (H ++ [{ sz := cs.length, rows := [cs] }]) m' w' ∧ VRA m' (cellsIn w') (.c (.ptr H.length 0 0)) u := by
  have hs := St.new r t { sz := cs.length, rows := [cs] } v.cells rfl (RowsIn.one h)
  exact ⟨_, _, _, by simp [newVar, newRow], hs, ptr_new (k := 0) _ _ _⟩

theorem new_sound (r : Rel B m H w) {t : TypeId} {z : List Cell} (hz : zeroT P t = some z) :
    ∃ w' m' u, (Instr.alloc t true (.tuple #[])).run P w = .ok u w' ∧ St B H m w (H ++ [{ sz := z.length, rows := [z] }]) m' w' ∧ VRA m' (cellsIn w') (.c (.ptr H.length 0 0)) u := by
  obtain ⟨v, h1, h2⟩ := run_zeroT hz
  obtain ⟨w', m', u, h3, h4, h5⟩ := newVar_sound (P := P) r t (h2 m (cellsIn w))
  exact ⟨w', m', u, by simp only [Instr.alloc, Sem.run_bind, h1, Result.andThen_ok]; simpa using h3, h4, h5⟩

theorem box_sound (r : Rel B m H w) {t : TypeId} {x : AVal} {v : Value} (hx : VRA m (cellsIn w) x v) (hc : x.cells ≠ [] ∨ ∃ cs, x = .agg cs) :
    ∃ w' m' u, (Instr.box t v).run P w = .ok u w' ∧ St B H m w (H ++ [{ sz := x.cells.length, rows := [x.cells] }]) m' w' ∧ VRA m' (cellsIn w') (.c (.ptr H.length 0 0)) u := by
  obtain ⟨w', m', u, h3, h4, h5⟩ := newVar_sound (P := P) r t (hx.cells hc)
  exact ⟨w', m', u, by simpa [Instr.box] using h3, h4, h5⟩

/-! ### Values out of parts -/
theorem fold_set (off : Nat) : ∀ (l : List Value) (j : Nat) (cells : Array Value), off + j + l.length ≤ cells.size →
    ((l.zipIdx j).foldl (fun cs (p : Value × Nat) => cs.setIfInBounds (off + p.2) p.1) cells).toList = cells.toList.take (off + j) ++ l ++ cells.toList.drop (off + j + l.length)
  | [], j, cells, h => by simp
  | v :: l, j, cells, h => by
    simp only [List.zipIdx_cons, List.foldl_cons, List.length_cons] at h ⊢
    rw [fold_set off l (j + 1) _ (by simp; omega)]
    simp only [Array.toList_setIfInBounds]
    have hlt : off + j < cells.toList.length := by simp; omega
    rw [show off + (j + 1) = off + j + 1 by omega, List.take_succ_eq_append_getElem (by simpa using hlt), List.take_set_of_le (Nat.le_refl _), List.getElem_set_self]
    rw [show off + j + 1 + l.length = off + j + (l.length + 1) by omega, List.drop_set_of_lt (by omega)]
    simp [List.append_assoc]

theorem fill_cons {place : Nat → Option (Nat × Nat)} {i off n : Nat} {v : Value} {rest : List (Nat × Value)} {cells : Array Value} (hp : place i = some (off, n)) (hv : v.cells.size = n) (hl : off + n ≤ cells.size) :
    Instr.fill place cells ((i, v) :: rest) = Instr.fill place (cells.toList.take off ++ v.cells.toList ++ cells.toList.drop (off + n)).toArray rest := by
  have hf : (v.cells.zipIdx.foldl (fun cs (p : Value × Nat) => cs.setIfInBounds (off + p.2) p.1) cells) = (cells.toList.take off ++ v.cells.toList ++ cells.toList.drop (off + n)).toArray := by
    apply Array.ext'
    rw [← Array.foldl_toList, Array.toList_zipIdx]
    rw [fold_set off v.cells.toList 0 cells (by simp only [Array.length_toList, hv]; omega)]
    simp [hv]
  have hcond : ¬ ((decide (v.cells.size ≠ n) || decide (off + v.cells.size > cells.size)) = true) := by rw [hv]; simp; omega
  simp only [Instr.fill, hp]
  rw [if_neg hcond]
  exact congrArg (fun c => Instr.fill place c rest) hf

theorem All2.splice {R : Cell → Value → Prop} {zs cs : List Cell} {vs us : List Value} (h : All2 R zs vs) (k : All2 R cs us) (o n : Nat) : All2 R (zs.take o ++ cs ++ zs.drop (o + n)) (vs.take o ++ us ++ vs.drop (o + n)) :=
  ((h.take o).append k).append (h.drop (o + n))

theorem fillA_sound {place : Nat → Option (Nat × Nat)} {e : Env} {a : Act} {fs : Array Field} (hp : ∀ (i : Nat) f n, fs[i]? = some f → sizeT P f.type = some n → place i = some (f.offset, n)) :
    ∀ (parts : List (Nat × Operand)) (ps : List (Nat × Nat × Opd)) (zs cs : List Cell) (cells : Array Value), partsB P fs parts = some ps → EnvOn m σ (ps.flatMap fun p => p.2.2.tmps) e a →
      (∀ p ∈ ps, 0 < p.2.1) → All2 (VR m σ) zs cells.toList → fillA zs e ps = some cs →
      ∃ out, Instr.fill place cells (parts.map fun p => (p.1, a.eval p.2)) = some out ∧ All2 (VR m σ) cs out.toList
  | [], ps, zs, cs, cells, h1, _, _, h3, h4 => by
    simp [partsB] at h1
    subst h1
    simp [fillA] at h4
    subst h4
    exact ⟨cells, rfl, h3⟩
  | (i, x) :: parts, ps, zs, cs, cells, h1, h2, hn0, h3, h4 => by
    simp only [partsB] at h1
    split at h1
    · rename_i f y ys e1 e2 e3
      split at h1
      · rename_i n e4
        injection h1 with h1
        subst h1
        simp only [List.flatMap_cons] at h2
        simp only [fillA] at h4
        split at h4
        · rename_i hc
          have hx := opd_sound e2 h2.left
          have hn : 0 < n := hn0 (f.offset, n, y) (by simp)
          have hxc := hx.cells (.inl (by intro h0; rw [h0] at hc; simp at hc; omega))
          have hsz : (a.eval x).cells.size = n := by have := hxc.length; simp at this; omega
          have hzl := h3.length
          simp only [Array.length_toList] at hzl
          obtain ⟨out, g1, g2⟩ := fillA_sound hp parts ys _ cs (cells.toList.take f.offset ++ (a.eval x).cells.toList ++ cells.toList.drop (f.offset + n)).toArray e3 h2.right (fun p hp' => hn0 p (by simp [hp'])) (by simpa using h3.splice hxc f.offset n) h4
          refine ⟨out, ?_, g2⟩
          simp only [List.map_cons]
          rw [fill_cons (hp i f n e1 e4) hsz (by omega)]
          exact g1
        · cases h4
      · cases h1
    · cases h1

theorem build_sound {t : TypeId} {fs : Array Field} {z : List Cell} (ht : P.underlying t = some (.struct fs)) (hz : zeroT P t = some z) (hall : fs.all (fun f => (sizeT P f.type).isSome) = true) {parts : Array (Nat × Operand)} {ps : List (Nat × Nat × Opd)}
    (hp : partsB P fs parts.toList = some ps) {e : Env} {a : Act} (he : EnvOn m σ (ps.flatMap fun p => p.2.2.tmps) e a) (hn0 : ∀ p ∈ ps, 0 < p.2.1) {cs : List Cell} (hf : fillA z e ps = some cs) :
    ∃ v, (Instr.build t (parts.map fun (i, x) => (i, a.eval x))).run P w = .ok v w ∧ VRA m σ (.agg cs) v := by
  unfold zeroT at hz
  cases hi : P.info? t with
  | none => simp [hi] at hz
  | some it =>
    cases hzv : it.zero with
    | none => simp [hi, hzv] at hz
    | some zv =>
      simp [hi, hzv] at hz
      have hpl : ∀ (l : List Field), (∀ f ∈ l, (sizeT P f.type).isSome) → ∃ places, l.mapM (fun f => (P.info? f.type).map fun i => (f.offset, i.size)) = some places ∧ ∀ (i : Nat) f n, l[i]? = some f → sizeT P f.type = some n → places[i]? = some (f.offset, n) := by
        intro l
        induction l with
        | nil => intro _; exact ⟨[], by simp, fun i f n h => by simp at h⟩
        | cons f l ih =>
          intro hl
          obtain ⟨pl, g1, g2⟩ := ih fun f' hf' => hl f' (by simp [hf'])
          obtain ⟨n, hn⟩ := Option.isSome_iff_exists.1 (hl f (by simp))
          obtain ⟨i, hi', rfl⟩ := sizeT_info hn
          refine ⟨(f.offset, i.size) :: pl, by simp [List.mapM_cons, hi', g1], fun j f' n' h1 h2 => ?_⟩
          cases j with
          | zero =>
            simp at h1
            subst h1
            rw [hn] at h2
            injection h2 with h2
            simp [h2]
          | succ j => simpa using g2 j f' n' (by simpa using h1) h2
      obtain ⟨pl, g1, g2⟩ := hpl fs.toList (fun f hf' => by
        have := Array.all_eq_true_iff_forall_mem.1 hall f (by simpa using hf')
        exact this)
      obtain ⟨out, k1, k2⟩ := fillA_sound (m := m) (σ := σ) (a := a) (place := (pl.toArray[·]?)) (fs := fs) (fun i f n h1 h2 => by simpa using g2 i f n (by simpa using h1) h2) parts.toList ps z cs zv.cells hp he hn0 (cellsOf_sound hz) hf
      refine ⟨.agg out, run_build w t _ out ?_, .agg k2⟩
      simp only [Program.built, hi, ht, hzv, g1]
      rw [← k1]
      simp

theorem RowsIn.set {sz : Nat} {rows : List (List Cell)} {cur : List Value} {i : Nat} {cs : List Cell} {vs : List Value} (h : RowsIn m σ sz rows cur.toArray) (hi : i < rows.length) (hl : rows.length * sz ≤ cur.length) (hc : All2 (VR m σ) cs vs) (hcs : cs.length = sz) :
    RowsIn m σ sz (rows.set i cs) (cur.take (i * sz) ++ vs ++ cur.drop (i * sz + sz)).toArray := by
  have hvl := hc.length
  have hin : i * sz + vs.length ≤ cur.length := by
    have : (i + 1) * sz ≤ rows.length * sz := Nat.mul_le_mul_right sz hi
    rw [Nat.add_mul, Nat.one_mul] at this
    omega
  have hsp : cur.take (i * sz) ++ vs ++ cur.drop (i * sz + sz) = cur.take (i * sz) ++ vs ++ cur.drop (i * sz + vs.length) := by rw [← hvl, hcs]
  rw [hsp]
  intro j r e
  by_cases hij : i = j
  · subst hij
    rw [List.getElem?_set_self hi] at e
    injection e with e
    subst e
    refine ⟨hcs, fun f c ef => ?_⟩
    obtain ⟨v, e1, e2⟩ := hc.get ef
    refine ⟨v, ?_, e2⟩
    have hf : f < vs.length := (List.getElem?_eq_some_iff.1 e1).1
    rw [List.getElem?_toArray, getElem?_splice _ _ _ hin, if_pos (by omega), show i * sz + f - i * sz = f by omega]
    exact e1
  · rw [List.getElem?_set_ne hij] at e
    obtain ⟨g1, g2⟩ := h j r e
    refine ⟨g1, fun f c ef => ?_⟩
    obtain ⟨v, e1, e2⟩ := g2 f c ef
    refine ⟨v, ?_, e2⟩
    have hf : f < sz := by rw [← g1]; exact (List.getElem?_eq_some_iff.1 ef).1
    rw [List.getElem?_toArray, getElem?_splice _ _ _ hin, if_neg]
    · simpa using e1
    · rcases Nat.lt_or_gt_of_ne hij with hlt | hgt
      · have h5 : (i + 1) * sz ≤ j * sz := Nat.mul_le_mul_right sz hlt
        rw [Nat.add_mul, Nat.one_mul] at h5
        omega
      · have := mul_row_lt (sz := sz) (f := f) hgt hf
        omega

theorem RowsIn.made {z : List Cell} {zv : Array Value} (h : All2 (VR m σ) z zv.toList) (n : Nat) (hz : 0 < z.length) : RowsIn m σ z.length (List.replicate n z) ((Array.range (n * z.length)).map (zv[· % zv.size]!)) := by
  intro i r e
  have hi : i < n := by have := (List.getElem?_eq_some_iff.1 e).1; simpa using this
  have hr : r = z := by simp [List.getElem?_replicate, hi] at e; exact e.symm
  subst hr
  refine ⟨rfl, fun f c ef => ?_⟩
  obtain ⟨v, e1, e2⟩ := h.get ef
  have hf : f < r.length := (List.getElem?_eq_some_iff.1 ef).1
  have hzl : zv.size = r.length := by have := h.length; simpa using this.symm
  refine ⟨v, ?_, e2⟩
  have hlt : i * r.length + f < n * r.length := mul_row_lt hi hf
  have hmod : (i * r.length + f) % zv.size = f := by rw [hzl, Nat.add_comm, Nat.add_mul_mod_self_right, Nat.mod_eq_of_lt hf]
  have hfv : f < zv.size := by omega
  have e1' : zv[f]? = some v := by simpa using e1
  rw [Array.getElem?_map, Array.getElem?_range, if_pos hlt, Option.map_some, hmod, getElem!_pos zv f hfv]
  rw [Array.getElem?_eq_getElem hfv] at e1'
  exact e1'

theorem slc_new {σ' : Mem} (g b n sz c : Nat) (z : Bool) (hn : n ≤ c) (hz : z = true → c = 0) (hm : c ≤ maxLen) (hs : c * sz = σ' g) : VRA (addLoc m b ⟨g, 0, sz, true⟩) σ' (.c (.slc b 0 n sz z)) (.slice (some ⟨g, 0, none⟩) n c) :=
  .c (.slc hn hz hm ⟨⟨g, 0, sz, true⟩, addLoc_same _ _ _, rfl, fun _ => ⟨by simp, fun _ => by simpa using hs⟩⟩)

theorem fillR_sound {sz : Nat} {e : Env} {a : Act} (hsz : 0 < sz) : ∀ (parts : List (Nat × Operand)) (ps : List (Nat × Opd)) (rows out : List (List Cell)) (cells : Array Value), partsL parts = some ps → EnvOn m σ (ps.flatMap fun p => p.2.tmps) e a →
      RowsIn m σ sz rows cells → cells.size = rows.length * sz → fillR sz rows e ps = some out →
      ∃ vs, Instr.fill (fun i => some (i * sz, sz)) cells (parts.map fun p => (p.1, a.eval p.2)) = some vs ∧ RowsIn m σ sz out vs ∧ out.length = rows.length ∧ vs.size = cells.size
  | [], ps, rows, out, cells, h1, _, h3, hl, h4 => by
    simp [partsL] at h1
    subst h1
    simp [fillR] at h4
    subst h4
    exact ⟨cells, rfl, h3, rfl, rfl⟩
  | (i, x) :: parts, ps, rows, out, cells, h1, h2, h3, hl, h4 => by
    simp only [partsL] at h1
    split at h1
    · rename_i y ys e2 e3
      injection h1 with h1
      subst h1
      simp only [List.flatMap_cons] at h2
      simp only [fillR] at h4
      split at h4
      · rename_i hc
        have hx := opd_sound e2 h2.left
        have hxc := hx.cells (.inl (by intro h0; rw [h0] at hc; simp at hc; omega))
        have hxs : (a.eval x).cells.size = sz := by have := hxc.length; simp at this; omega
        have hr := RowsIn.set (cur := cells.toList) (by simpa using h3) hc.2 (by simp; omega) hxc hc.1
        have hle : i * sz + sz ≤ cells.size := by
          have : (i + 1) * sz ≤ rows.length * sz := Nat.mul_le_mul_right sz hc.2
          rw [Nat.add_mul, Nat.one_mul] at this
          omega
        have hsize : (cells.toList.take (i * sz) ++ (a.eval x).cells.toList ++ cells.toList.drop (i * sz + sz)).toArray.size = cells.size := by
          simp; omega
        obtain ⟨vs, g1, g2, g3, g4⟩ := fillR_sound hsz parts ys _ out _ e3 h2.right hr (by rw [hsize]; simpa using hl) h4
        refine ⟨vs, ?_, g2, by simpa using g3, by rw [g4, hsize]⟩
        simp only [List.map_cons]
        rw [fill_cons (off := i * sz) (n := sz) rfl hxs hle]
        exact g1
      · cases h4
    · cases h1

theorem lit_sound (r : Rel B m H w) {t q : TypeId} {n len : Nat} {z : List Cell} (ht : P.underlying t = some (.slice q)) (hn : sizeT P q = some n) (hz : zeroT P q = some z) (hzl : z.length = n) (h0 : 0 < n) (hlim : len * n ≤ 16777216)
    {parts : Array (Nat × Operand)} {ps : List (Nat × Opd)} (hp : partsL parts.toList = some ps) {e : Env} {a : Act} (he : EnvOn m (cellsIn w) (ps.flatMap fun p => p.2.tmps) e a) {rows : List (List Cell)} (hf : fillR n (List.replicate len z) e ps = some rows) :
    ∃ w' m' u, (Instr.buildSlice t len (parts.map fun (i, x) => (i, a.eval x))).run P w = .ok u w' ∧ St B H m w (H ++ [{ sz := n, rows := rows }]) m' w' ∧ VRA m' (cellsIn w') (.c (.slc H.length 0 len n (len == 0))) u := by
  obtain ⟨zv, k1, k2⟩ := run_zeroT hz
  have hzs : zv.cells.size = n := by have := (k2 m (cellsIn w)).length; simp at this; omega
  have hmade : RowsIn m (cellsIn w) n (List.replicate len z) ((Array.range (len * n)).map (zv.cells[· % zv.cells.size]!)) := by
    have := RowsIn.made (k2 m (cellsIn w)) len (by omega)
    rw [hzl] at this
    exact this
  obtain ⟨vs, g1, g2, g3, g4⟩ := fillR_sound h0 parts.toList ps _ rows _ hp he hmade (by simp) hf
  have hs := St.new r q { sz := n, rows := rows } vs rfl g2
  have hmap : (parts.map fun (i, x) => (i, a.eval x)).toList = parts.toList.map fun p => (p.1, a.eval p.2) := by simp
  have hcells : cellsIn (w.alloc (.cells vs q)) w.heap.size = vs.size := cellsIn_row (heap_alloc_new w _)
  have hlen : rows.length = len := by simpa using g3
  have hvs : vs.size = len * n := by rw [g4]; simp
  refine ⟨_, _, .slice (some ⟨w.heap.size, 0, none⟩) len len, ?_, hs, slc_new _ _ _ _ _ _ (Nat.le_refl _) (fun hz => by simpa using hz) ?_ (by rw [hcells, hvs])⟩
  · simp only [Instr.buildSlice, Sem.run_bind, run_underlying ht, Result.andThen_ok, run_sizeT hn]
    rw [if_neg (by omega)]
    by_cases hl0 : len * n = 0
    · rw [if_pos hl0]
      have hr : (Array.range (len * n)).map ((#[] : Array Value)[· % (#[] : Array Value).size]!) = (Array.range (len * n)).map (zv.cells[· % zv.cells.size]!) := by simp [hl0]
      simp only [Sem.run_bind, Sem.run_pure, Result.andThen_ok, hmap, hr, g1]
      simp [newRow]
    · rw [if_neg hl0]
      simp only [Sem.run_bind, k1, Result.andThen_ok, Sem.run_pure, hmap, g1]
      simp [newRow]
  · have : len ≤ len * n := Nat.le_mul_of_pos_right len h0
    unfold maxLen
    omega

theorem make_sound (r : Rel B m H w) {t q : TypeId} {n by_ : Nat} {z : List Cell} (ht : P.underlying t = some (.slice q)) (hn : sizeT P q = some n) (hb : bytesT P q = some by_) (hz : zeroT P q = some z) (hzl : z.length = n) (h0 : 0 < n)
    {kl kc : IntKind} {l : Int} (hl0 : 0 ≤ l) (hbytes : l * by_ ≤ 140737488355328) (hmax : l ≤ 9223372036854775807) :
    ∃ w' m' u, (Instr.makeSlice t (.int kl l) (.int kc l)).run P w = .ok u w' ∧ St B H m w (H ++ [{ sz := n, rows := List.replicate l.toNat z }]) m' w' ∧ VRA m' (cellsIn w') (.c (.slc H.length 0 l.toNat n (l.toNat == 0))) u := by
  unfold zeroT at hz
  unfold bytesT at hb
  obtain ⟨i, hi, hin⟩ := sizeT_info hn
  cases hzv : i.zero with
  | none => simp [hi, hzv] at hz
  | some zv =>
    simp [hi, hzv] at hz
    simp [hi] at hb
    have hz2 : All2 (VR m (cellsIn w)) z zv.cells.toList := cellsOf_sound hz
    have hrun := run_make (P := P) w t q i zv ht hi hzv kl kc l l hl0 (Int.le_refl _) (by rw [hb, Int.mul_comm]; omega) hmax
    have hmade : RowsIn m (cellsIn w) n (List.replicate l.toNat z) (madeCells zv.cells (l.toNat * i.size)) := by
      have := RowsIn.made hz2 l.toNat (by omega)
      rw [hzl] at this
      rw [hin]
      exact this
    have hs := St.new r q { sz := n, rows := List.replicate l.toNat z } _ rfl hmade
    have hcells : cellsIn (w.alloc (.cells (madeCells zv.cells (l.toNat * i.size)) q)) w.heap.size = l.toNat * n := by
      rw [cellsIn_row (heap_alloc_new w _)]
      simp [madeCells, hin]
    exact ⟨_, _, _, hrun, hs, slc_new _ _ _ _ _ _ (Nat.le_refl _) (fun hz => by simpa using hz) (by unfold maxLen; omega) hcells.symm⟩

end Go.Proofs.YtpjbjdicdjlmeaaGreatDoor.Eng

/- The engine, part 8: append: slim and machine. No statement of the seat is proved here. -/
namespace Go.Proofs.YtpjbjdicdjlmeaaGreatDoor.Eng
open Go
set_option linter.unusedVariables false
set_option linter.unusedSimpArgs false

variable {P : Program} {B : Nat} {m : LMap} {H : Heap} {w : World}

theorem loadCells_zero (a : Addr) (w : World) : (loadCells a 0).run P w = .ok #[] w := by simp [loadCells, loadCellsFrom]

/-- What an append takes its elements from. -/
theorem source_sound (r : Rel B m H w) {y : Cell} {vy : Value} (hy : VR m (cellsIn w) y vy) {sz : Nat} (h0 : 0 < sz) (hf : fitsSz sz y = true) {new : List (List Cell)} (hn : H.rowsOf y = some new) :
    ∃ news : List Value, news.length = new.length * sz ∧ RowsIn m (cellsIn w) sz new news.toArray ∧ (∀ u ∈ news, u.oneCell' = true) ∧ (Builtin.lenOf vy).run P w = .ok new.length w ∧
      (∀ w', w'.heap = w.heap → (Builtin.firstCells sz new.length vy).run P w' = .ok news.toArray w') := by
  have none_ : new = [] → (∃ base, vy = .slice base 0 0) → ∃ news : List Value, news.length = new.length * sz ∧ RowsIn m (cellsIn w) sz new news.toArray ∧ (∀ u ∈ news, u.oneCell' = true) ∧ (Builtin.lenOf vy).run P w = .ok new.length w ∧
      (∀ w', w'.heap = w.heap → (Builtin.firstCells sz new.length vy).run P w' = .ok news.toArray w') := by
    rintro rfl ⟨base, rfl⟩
    refine ⟨[], by simp, (fun i r e => by simp at e), by simp, by simp [Builtin.lenOf], fun w' _ => ?_⟩
    cases base <;> simp [Builtin.firstCells, loadCells_zero]
  have mem : ∀ (A : Addr) (c n : Nat), new.length = n → (∀ (i : Nat) q, new[i]? = some q → q.length = sz ∧ ∀ (f : Nat) x, q[f]? = some x → ∃ v, w.cell? (A.add (i * sz + f)) = some v ∧ VR m (cellsIn w) x v) → vy = .slice (some A) n c →
      ∃ news : List Value, news.length = new.length * sz ∧ RowsIn m (cellsIn w) sz new news.toArray ∧ (∀ u ∈ news, u.oneCell' = true) ∧ (Builtin.lenOf vy).run P w = .ok new.length w ∧
      (∀ w', w'.heap = w.heap → (Builtin.firstCells sz new.length vy).run P w' = .ok news.toArray w') := by
    rintro A c n hlen hrow rfl
    have hcell : ∀ j, j < n * sz → ∃ v, w.cell? (A.add j) = some v ∧ v.oneCell' = true := by
      intro j hj
      have hi : j / sz < n := Nat.div_lt_of_lt_mul (by rw [Nat.mul_comm]; exact hj)
      obtain ⟨g1, g2⟩ := hrow (j / sz) _ (List.getElem?_eq_getElem (by omega))
      have hfm : j % sz < sz := Nat.mod_lt _ h0
      obtain ⟨v, k1, k2⟩ := g2 (j % sz) _ (List.getElem?_eq_getElem (by rw [g1]; exact hfm))
      refine ⟨v, ?_, k2.oneCell⟩
      rw [← k1]
      congr 2
      have := Nat.div_add_mod j sz
      rw [Nat.mul_comm] at this
      omega
    refine ⟨(List.range (n * sz)).map fun j => (w.cell? (A.add j)).getD undef, by rw [List.length_map, List.length_range, hlen], ?_, ?_, by simp only [Builtin.lenOf, Sem.run_pure, hlen], ?_⟩
    · intro i q e
      obtain ⟨g1, g2⟩ := hrow i q e
      have hi : i < n := by have := (List.getElem?_eq_some_iff.1 e).1; omega
      refine ⟨g1, fun f c' ef => ?_⟩
      obtain ⟨v, k1, k2⟩ := g2 f c' ef
      refine ⟨v, ?_, k2⟩
      have hfs : f < sz := by have := (List.getElem?_eq_some_iff.1 ef).1; omega
      have hlt := mul_row_lt hi hfs
      simp [hlt, k1]
    · intro u hu
      simp at hu
      obtain ⟨j, hj, rfl⟩ := hu
      obtain ⟨v, k1, k2⟩ := hcell j hj
      simp [k1, k2]
    · intro w' hw'
      rw [hlen]
      have hc' : ∀ a, w'.cell? a = w.cell? a := fun a => by simp [World.cell?, hw']
      refine run_firstCells_some (P := P) w' sz n A n c _ (by simp) (fun j v hj => ?_)
      have hj' : j < n * sz := by have := (List.getElem?_eq_some_iff.1 hj).1; simpa using this
      obtain ⟨v', k1, _⟩ := hcell j hj'
      rw [hc', k1]
      simp [hj', k1] at hj
      rw [hj]
  cases hy with
  | nilS =>
    simp [Heap.rowsOf] at hn
    exact none_ hn ⟨_, rfl⟩
  | zerN =>
    simp [Heap.rowsOf] at hn
    exact none_ hn ⟨_, rfl⟩
  | zerS =>
    simp [Heap.rowsOf] at hn
    exact none_ hn ⟨_, rfl⟩
  | emp hc =>
    rename_i sz' A c
    simp [Heap.rowsOf] at hn
    subst hn
    exact mem A c 0 rfl (fun i q e => by simp at e) rfl
  | lstN =>
    simp [Heap.rowsOf] at hn
    exact none_ hn ⟨_, rfl⟩
  | lst g1 g2 g3 g4 g5 g6 =>
    rename_i sz' A c g o rows vs
    have hsz : sz' = sz := by simpa [fitsSz] using hf
    subst hsz
    simp [Heap.rowsOf] at hn
    subst hn
    refine mem A c _ rfl (fun i q e => ⟨g4 i q e, fun f x ef => ?_⟩) rfl
    have ha := (g3 (by intro h; subst h; simp at e)).1
    refine ⟨vs i f, ?_, g6 i q f x e ef⟩
    rw [ha, addr_add, ← Nat.add_assoc]
    exact g5 i q f x e ef
  | str s =>
    simp [Heap.rowsOf] at hn
    subst hn
    have hs1 : sz = 1 := by simpa [fitsSz] using hf
    subst hs1
    refine ⟨s.data.toList.map fun b => .int .u8 (b.toNat : Int), by simp [bytesOf], ?_, ?_, by simp [Builtin.lenOf, bytesOf], ?_⟩
    · intro i r e
      simp only [bytesOf, List.map_map, List.getElem?_map] at e
      cases hb : s.data.toList[i]? with
      | none => rw [hb] at e; cases e
      | some b =>
        rw [hb] at e
        simp at e
        subst e
        refine ⟨rfl, fun f c ef => ?_⟩
        cases f with
        | succ f => simp at ef
        | zero =>
          simp at ef
          subst ef
          exact ⟨.int .u8 (b.toNat : Int), by simp only [Nat.mul_one, Nat.add_zero, List.getElem?_toArray, List.getElem?_map, hb, Option.map_some], .int _ _⟩
    · intro u hu
      simp at hu
      obtain ⟨b, _, rfl⟩ := hu
      rfl
    · intro w' _
      have hl : ((bytesOf s).map fun c => [c]).length = s.size := by simp [bytesOf]
      rw [hl]
      simp only [Builtin.firstCells, Sem.run_pure]
      congr 1
      have hx : (s.extract 0 s.size).data = s.data := by
        rw [ByteArray.data_extract]
        exact Array.extract_size
      rw [hx]
      apply Array.ext'
      simp
  | slc h1 h2 h3 h4 =>
    rename_i b s n sz' z A c
    have hsz : sz' = sz := by simpa [fitsSz] using hf
    subst hsz
    simp only [Heap.rowsOf] at hn
    by_cases hn0 : n = 0
    · rw [if_pos hn0] at hn
      injection hn with hn
      subst hn
      subst hn0
      exact ⟨[], by simp, (fun i r e => by simp at e), by simp, by simp [Builtin.lenOf], fun w' _ => by simp [Builtin.firstCells, loadCells_zero]⟩
    · rw [if_neg hn0] at hn
      obtain ⟨L, e1, ez, h5⟩ := h4
      obtain ⟨ea, eo⟩ := h5 (by omega)
      cases hk : H[b]? with
      | none => simp [hk] at hn
      | some k =>
        simp only [hk] at hn
        split at hn
        · rename_i hc
          obtain ⟨hl, hle⟩ := hc
          injection hn with hn
          subst hn
          obtain ⟨k', hk', hat⟩ := r.blk b L e1
          rw [hk] at hk'; injection hk' with hk'; subst hk'
          refine mem A c n (by simp; omega) (fun i q e => ?_) rfl
          rw [List.getElem?_take] at e
          split at e
          · rw [List.getElem?_drop] at e
            obtain ⟨g1, g2⟩ := hat.rows hl _ q e
            refine ⟨g1.trans ez, fun f x ef => ?_⟩
            obtain ⟨v, k1, k2⟩ := g2 f x ef
            refine ⟨v, ?_, k2⟩
            rw [ea, addr_add, ← k1]
            congr 2
            rw [ez, Nat.add_mul]
            omega
          · cases e
        · cases hn
  | _ => simp [Heap.rowsOf] at hn

theorem notInt {e : TypeId} {d : TypeDesc} (h : srcOk e d = true) : (match d with | .int _ => true | _ => false) = false := by
  cases d <;> simp [srcOk] at h ⊢

/-- There is room: the new elements are written behind the old ones. -/
theorem run_app_room (w : World) {t u ty e : TypeId} {i : TypeInfo} {d : TypeDesc} (ht : P.underlying t = some (.slice e)) (hu : P.underlying u = some d) (hd : srcOk e d = true) (hi : P.info? e = some i)
    (g sLen sCap n : Nat) (cur : Array Value) {ct : TypeId} (hg : w.heap[g]? = some (.cells cur ct (0, 0))) (vy : Value) (news : List Value) (hl : (Builtin.lenOf vy).run P w = .ok n w) (hf : (Builtin.firstCells i.size n vy).run P w = .ok news.toArray w) (h1 : ∀ u ∈ news, u.oneCell' = true)
    (hroom : sLen + n ≤ sCap) (hfit : sLen * i.size + news.length ≤ cur.size) :
    (Builtin.append_ #[t, u] ty #[.slice (some ⟨g, 0, none⟩) sLen sCap, vy]).run P w =
      .ok (.slice (some ⟨g, 0, none⟩) (sLen + n) sCap) (w.setRow g (cur.toList.take (sLen * i.size) ++ news ++ cur.toList.drop (sLen * i.size + news.length)).toArray) := by
  have hst := run_storeCells_at P g (sLen * i.size) ct news 0 cur w hg (by simpa using hfit) h1
  simp only [Nat.add_zero] at hst
  have hz := notInt hd
  cases d <;> simp [srcOk] at hd <;>
    simp [Builtin.append_, run_underlying ht, run_underlying hu, sizeOf, typeInfo, hi, hl, hroom, hf, addr_add, hst]

theorem run_app_grow (w : World) {t u ty e : TypeId} {i : TypeInfo} {d : TypeDesc} {z : Value} (ht : P.underlying t = some (.slice e)) (hu : P.underlying u = some d) (hd : srcOk e d = true) (hi : P.info? e = some i) (hz : i.zero = some z)
    (base : Option Addr) (sLen sCap n : Nat) (olds news : List Value) (vy : Value) (hfo : (Builtin.firstCells i.size sLen (.slice base sLen sCap)).run P w.drew = .ok olds.toArray w.drew)
    (hl : (Builtin.lenOf vy).run P w = .ok n w) (hf : (Builtin.firstCells i.size n vy).run P w.drew = .ok news.toArray w.drew)
    (hg : sCap < sLen + n) (h63 : ((sLen + n : Nat) : Int) ≤ 9223372036854775807) (hfit : Builtin.nextslicecap (sLen + n) sCap * i.bytes ≤ 281474976710656) :
    (Builtin.append_ #[t, u] ty #[.slice base sLen sCap, vy]).run P w =
      .ok (.slice (some ⟨w.heap.size, 0, none⟩) (sLen + n) (grownCap w (sLen + n) sCap e))
        (w.drew.alloc (.cells (olds.toArray ++ news.toArray ++ Builtin.zeroCells z.cells (grownCap w (sLen + n) sCap e - (sLen + n))) e)) := by
  have hn : ¬ (sLen + n ≤ sCap) := by omega
  have h63' : ¬ (9223372036854775807 < ((sLen : Int) + (n : Int))) := by omega
  have h48' : ¬ (281474976710656 < Builtin.nextslicecap (sLen + n) sCap * i.bytes) := by omega
  cases d <;> simp [srcOk] at hd <;>
    (simp [Builtin.append_, run_underlying ht, run_underlying hu, sizeOf, typeInfo, zeroValue, hi, hz, hl, hn, h63', h48', Question.forced, hf, hfo, newRow, grownCap]
     congr 2
     apply Array.ext'
     simp [List.append_assoc])

theorem run_app_none (w : World) {t u ty e : TypeId} {i : TypeInfo} {d : TypeDesc} (ht : P.underlying t = some (.slice e)) (hu : P.underlying u = some d) (hd : srcOk e d = true) (hi : P.info? e = some i)
    (base : Option Addr) (sLen sCap : Nat) (hle : sLen ≤ sCap) (vy : Value) (hl : (Builtin.lenOf vy).run P w = .ok 0 w) (hf : (Builtin.firstCells i.size 0 vy).run P w = .ok #[] w) :
    (Builtin.append_ #[t, u] ty #[.slice base sLen sCap, vy]).run P w = .ok (.slice base sLen sCap) w := by
  cases d <;> simp [srcOk] at hd <;> cases base <;>
    simp [Builtin.append_, run_underlying ht, run_underlying hu, sizeOf, typeInfo, hi, hl, hf, hle, storeCells]

theorem RowsIn.append {σ : Mem} {sz : Nat} {rows new : List (List Cell)} {olds news rest : List Value} (h : RowsIn m σ sz rows olds.toArray) (hl : olds.length = rows.length * sz) (k : RowsIn m σ sz new news.toArray) (hk : news.length = new.length * sz) :
    RowsIn m σ sz (rows ++ new) (olds ++ news ++ rest).toArray := by
  intro i r e
  by_cases hi : i < rows.length
  · rw [List.getElem?_append_left hi] at e
    obtain ⟨g1, g2⟩ := h i r e
    refine ⟨g1, fun f c ef => ?_⟩
    obtain ⟨v, e1, e2⟩ := g2 f c ef
    refine ⟨v, ?_, e2⟩
    have hf : f < sz := by rw [← g1]; exact (List.getElem?_eq_some_iff.1 ef).1
    have := mul_row_lt hi hf
    simp only [List.getElem?_toArray] at e1 ⊢
    rw [List.append_assoc, List.getElem?_append_left (by omega)]
    exact e1
  · rw [List.getElem?_append_right (by omega)] at e
    obtain ⟨g1, g2⟩ := k _ r e
    refine ⟨g1, fun f c ef => ?_⟩
    obtain ⟨v, e1, e2⟩ := g2 f c ef
    refine ⟨v, ?_, e2⟩
    have hf : f < sz := by rw [← g1]; exact (List.getElem?_eq_some_iff.1 ef).1
    have hj : i - rows.length < new.length := (List.getElem?_eq_some_iff.1 e).1
    have hlt := mul_row_lt hj hf
    simp only [List.getElem?_toArray] at e1 ⊢
    have hsub : i * sz + f - olds.length = (i - rows.length) * sz + f := by
      rw [hl, Nat.sub_mul]
      have : rows.length * sz ≤ i * sz := Nat.mul_le_mul_right sz (by omega)
      omega
    have hge : olds.length ≤ i * sz + f := by
      rw [hl]
      have : rows.length * sz ≤ i * sz := Nat.mul_le_mul_right sz (by omega)
      omega
    rw [List.append_assoc, List.getElem?_append_right hge, hsub, List.getElem?_append_left (by omega)]
    exact e1

theorem RowsIn.take {σ : Mem} {sz : Nat} {rows : List (List Cell)} {vs : List Value} (h : RowsIn m σ sz rows vs.toArray) (n : Nat) : RowsIn m σ sz (rows.take n) (vs.take (n * sz)).toArray := by
  intro i r e
  rw [List.getElem?_take] at e
  split at e
  · rename_i hi
    obtain ⟨g1, g2⟩ := h i r e
    refine ⟨g1, fun f c ef => ?_⟩
    obtain ⟨v, e1, e2⟩ := g2 f c ef
    refine ⟨v, ?_, e2⟩
    have hf : f < sz := by rw [← g1]; exact (List.getElem?_eq_some_iff.1 ef).1
    have := mul_row_lt hi hf
    simp only [List.getElem?_toArray] at e1 ⊢
    rw [List.getElem?_take, if_pos this]
    exact e1
  · cases e

theorem St.adopts {B H m w H1 w1} (s : St B H m w H1 m w1) {g sz : Nat} {k : Blk} (hr : Rel B (addLoc m H1.length ⟨g, 0, sz, true⟩) (H1 ++ [k]) w1) (hext : ∀ b L, m b = some L → addLoc m H1.length ⟨g, 0, sz, true⟩ b = some L) (hi : ownImg m H g) :
    St B H m w (H1 ++ [k]) (addLoc m H1.length ⟨g, 0, sz, true⟩) w1 where
  ext := hext
  dom := fun b L h h' => by
    by_cases e : b = H1.length
    · subst e; exact s.hle.len
    · rw [addLoc_ne e, h] at h'; cases h'
  rel := hr
  frame := s.frame
  fresh := fun b L h h' => by
    by_cases e : b = H1.length
    · subst e
      rw [addLoc_same] at h'
      injection h' with h'
      subst h'
      exact .inr hi
    · rw [addLoc_ne e, h] at h'; cases h'
  size := s.size
  szs := s.szs
  os := s.os
  tape := s.tape
  output := s.output
  hle := s.hle.trans (HLe.append _ _)
  zext := s.zext
  zfresh := s.zfresh
  drawn := s.drawn

theorem RowsIn.drop {σ : Mem} {sz : Nat} {rows : List (List Cell)} {vs : List Value} (h : RowsIn m σ sz rows vs.toArray) (n : Nat) : RowsIn m σ sz (rows.drop n) (vs.drop (n * sz)).toArray := by
  intro i r e
  rw [List.getElem?_drop] at e
  obtain ⟨g1, g2⟩ := h _ r e
  refine ⟨g1, fun f c ef => ?_⟩
  obtain ⟨v, e1, e2⟩ := g2 f c ef
  refine ⟨v, ?_, e2⟩
  simp only [List.getElem?_toArray] at e1 ⊢
  rw [List.getElem?_drop, ← e1]
  congr 1
  rw [Nat.add_mul]
  omega

theorem cpy_sound (r : Rel B m H w) {t u ty e : TypeId} {sz : Nat} (ht : P.underlying t = some (.slice e)) (hn : sizeT P e = some sz) (h0 : 0 < sz) {x y : Cell} {vx vy : Value} (hx : VR m (cellsIn w) x vx) (hy : VR m (cellsIn w) y vy)
    {v : AVal} {H' : Heap} (h : evCpy H sz x y = some (v, H')) :
    ∃ w' m' u', (Builtin.copy_ #[t, u] ty #[vx, vy]).run P w = .ok u' w' ∧ St B H m w H' m' w' ∧ VRA m' (cellsIn w') v u' := by
  unfold evCpy at h
  cases hx with
  | slc h1 h2 h3 h4 =>
    rename_i b o n sz' z A c
    simp only at h
    cases hrs : H.rowsOf y with
    | none => simp [hrs] at h
    | some rs =>
      cases hk : H[b]? with
      | none => simp [hrs, hk] at h
      | some k =>
        simp only [hrs, hk] at h
        split at h
        case isFalse => cases h
        case isTrue hc =>
          obtain ⟨rfl, hfit, hown, hl, hn0, hle, hlen⟩ := hc
          injection h with h
          injection h with hv hh
          subst hv; subst hh
          obtain ⟨news, n1, n2, n3, n4, n5⟩ := source_sound (P := P) r hy h0 hfit hrs
          obtain ⟨L, e1, ez, h5⟩ := h4
          obtain ⟨ea, eo⟩ := h5 (by omega)
          obtain ⟨k', hk', hat⟩ := r.blk b L e1
          rw [hk] at hk'; injection hk' with hk'; subst hk'
          have ho : L.own = true := by rw [← hat.own]; exact hown
          have hLo : L.o = 0 := (hat.ours ho).2
          obtain ⟨cur, ct, hg⟩ := hat.row ho hl
          have hrows := rowsIn_of r e1 hk ho hl hg
          rw [ez] at hrows
          have hcur : (o + c) * sz' = cur.size := by have := eo ho; rw [cellsIn_row hg] at this; exact this
          have hA : A = ⟨L.g, o * sz', none⟩ := by rw [ea, hLo]; simp
          subst hA
          have hmul : o * sz' + rs.length * sz' ≤ cur.size := by
            rw [← hcur, ← Nat.add_mul]
            exact Nat.mul_le_mul_right sz' (by omega)
          have hst := run_storeCells_at P L.g (o * sz') ct news 0 cur w hg (by simp; omega) n3
          simp only [Nat.add_zero] at hst
          obtain ⟨i, hi, hin⟩ := sizeT_info hn
          have hmin : Nat.min rs.length n = rs.length := Nat.min_eq_left hle
          have n5' := n5 w rfl
          have hrun : (Builtin.copy_ #[t, u] ty #[.slice (some ⟨L.g, o * sz', none⟩) n c, vy]).run P w = .ok (goInt rs.length) (w.setRow L.g (cur.toList.take (o * sz') ++ news ++ cur.toList.drop (o * sz' + news.length)).toArray) := by
            simp [Builtin.copy_, run_underlying ht, sizeOf, typeInfo, hi, hin, n4, hmin, n5', hst]
          have hin2 : k.rows.length * sz' ≤ cur.size := by
            have hp : k.rows.length - 1 < k.rows.length := by omega
            obtain ⟨g1, g2⟩ := hrows (k.rows.length - 1) _ (List.getElem?_eq_getElem hp)
            obtain ⟨v, k1, _⟩ := g2 (sz' - 1) _ (List.getElem?_eq_getElem (by omega))
            have := (Array.getElem?_eq_some_iff.1 k1).1
            have e2 : k.rows.length * sz' = (k.rows.length - 1) * sz' + sz' := by
              rw [← Nat.succ_mul]
              congr 1
              omega
            omega
          have hcl : cur.toList.toArray = cur := by simp
          have hr0 : RowsIn m (cellsIn w) sz' k.rows cur.toList.toArray := by rw [hcl]; exact hrows
          have p1 := hr0.take o
          have p3 := hr0.drop (o + rs.length)
          have l1 : (cur.toList.take (o * sz')).length = (k.rows.take o).length * sz' := by
            have hoo : (k.rows.take o).length = o := by rw [List.length_take]; omega
            rw [hoo, List.length_take, Array.length_toList]; omega
          have p2 := RowsIn.append (rest := []) p1 l1 n2 n1
          rw [List.append_nil] at p2
          have l2 : (cur.toList.take (o * sz') ++ news).length = (k.rows.take o ++ rs).length * sz' := by
            rw [List.length_append, List.length_append, Nat.add_mul, l1, n1]
          have e3 : (k.rows.drop (o + rs.length)).length * sz' = k.rows.length * sz' - (o + rs.length) * sz' := by rw [List.length_drop, Nat.sub_mul]
          have e4 : (o + rs.length) * sz' = o * sz' + rs.length * sz' := Nat.add_mul _ _ _
          have p4 := p3.take (k.rows.drop (o + rs.length)).length
          rw [List.take_length] at p4
          have l3 : ((cur.toList.drop ((o + rs.length) * sz')).take ((k.rows.drop (o + rs.length)).length * sz')).length = (k.rows.drop (o + rs.length)).length * sz' := by
            rw [List.length_take]
            refine Nat.min_eq_left ?_
            rw [e3]
            simp only [List.length_drop (l := cur.toList), Array.length_toList]
            exact Nat.sub_le_sub_right hin2 _
          have p5 := RowsIn.append (rest := (cur.toList.drop ((o + rs.length) * sz')).drop ((k.rows.drop (o + rs.length)).length * sz')) p2 l2 p4 l3
          rw [List.append_assoc (cur.toList.take (o * sz') ++ news), List.take_append_drop] at p5
          have hcs : (cur.toList.take (o * sz') ++ news ++ cur.toList.drop (o * sz' + news.length)).toArray.size = cur.size := by
            simp only [List.size_toArray, List.length_append, List.length_take, List.length_drop, Array.length_toList]
            omega
          have st := St.turn r e1 hk ho hl hg (cur.toList.take (o * sz') ++ news ++ cur.toList.drop (o * sz' + news.length)).toArray hcs (k' := { k with rows := k.rows.take o ++ rs ++ k.rows.drop (o + rs.length) }) rfl rfl (fun _ => by rw [ez, n1, ← e4]; exact p5)
          exact ⟨_, m, _, hrun, st, .c (.int _ _)⟩
  | _ => simp at h

theorem clr_sound (r : Rel B m H w) {t ty e : TypeId} {sz : Nat} {z : List Cell} (ht : P.underlying t = some (.slice e)) (hn : sizeT P e = some sz) (hz : zeroT P e = some z) (h0 : 0 < sz) (hzl : z.length = sz) {x : Cell} {vx : Value} (hx : VR m (cellsIn w) x vx)
    {v : AVal} {H' : Heap} (h : evClr H sz z x = some (v, H')) :
    ∃ w' m' u', (Builtin.clear_ #[t] ty #[vx]).run P w = .ok u' w' ∧ St B H m w H' m' w' ∧ VRA m' (cellsIn w') v u' := by
  unfold evClr at h
  cases hx with
  | nilS =>
    injection h with h
    injection h with hv hh
    subst hv; subst hh
    exact ⟨w, m, .tuple #[], by simp [Builtin.clear_, run_underlying ht], St.refl r, .tup rfl (fun i x v h => by simp at h)⟩
  | slc h1 h2 h3 h4 =>
    rename_i b o n sz' z' A c
    simp only at h
    by_cases hn0 : n = 0
    · rw [if_pos hn0] at h
      injection h with h
      injection h with hv hh
      subst hv; subst hh; subst hn0
      exact ⟨w, m, .tuple #[], by simp [Builtin.clear_, run_underlying ht], St.refl r, .tup rfl (fun i x v h => by simp at h)⟩
    · rw [if_neg hn0] at h
      cases hk : H[b]? with
      | none => simp [hk] at h
      | some k =>
        simp only [hk] at h
        split at h
        case isFalse => cases h
        case isTrue hc =>
          obtain ⟨rfl, hown, hl, hlen⟩ := hc
          injection h with h
          injection h with hv hh
          subst hv; subst hh
          obtain ⟨zv, hzr, hzv⟩ := run_zeroT hz
          have hzs : zv.cells.size = sz' := by have := (hzv m (cellsIn w)).length; simp at this; omega
          have hmade := RowsIn.made (hzv m (cellsIn w)) n (by omega)
          rw [hzl] at hmade
          have n1 : (Builtin.zeroCells zv.cells n).toList.length = (List.replicate n z).length * sz' := by simp [Builtin.zeroCells, hzs]
          have n2 : RowsIn m (cellsIn w) sz' (List.replicate n z) (Builtin.zeroCells zv.cells n).toList.toArray := by
            have e : Builtin.zeroCells zv.cells n = (Array.range (n * sz')).map (zv.cells[· % zv.cells.size]!) := by simp [Builtin.zeroCells, hzs]
            rw [e, Array.toArray_toList]; exact hmade
          have n3 : ∀ v ∈ (Builtin.zeroCells zv.cells n).toList, v.oneCell' = true := fun v hv => by
            simp only [Builtin.zeroCells, Array.toList_map, List.mem_map] at hv
            obtain ⟨i, _, rfl⟩ := hv
            have hi : i % zv.cells.size < zv.cells.size := Nat.mod_lt _ (by omega)
            rw [getElem!_pos zv.cells _ hi]
            obtain ⟨c, _, hr⟩ := (hzv m (cellsIn w)).right_mem _ (Array.getElem_mem_toList hi)
            exact hr.oneCell
          generalize hnews : (Builtin.zeroCells zv.cells n).toList = news at n1 n2 n3
          have hrl : (List.replicate n z).length = n := by simp
          generalize List.replicate n z = rs at n1 n2 hrl
          obtain ⟨L, e1, ez, h5⟩ := h4
          obtain ⟨ea, eo⟩ := h5 (by omega)
          obtain ⟨k', hk', hat⟩ := r.blk b L e1
          rw [hk] at hk'; injection hk' with hk'; subst hk'
          have ho : L.own = true := by rw [← hat.own]; exact hown
          have hLo : L.o = 0 := (hat.ours ho).2
          obtain ⟨cur, ct, hg⟩ := hat.row ho hl
          have hrows := rowsIn_of r e1 hk ho hl hg
          rw [ez] at hrows
          have hcur : (o + c) * sz' = cur.size := by have := eo ho; rw [cellsIn_row hg] at this; exact this
          have hA : A = ⟨L.g, o * sz', none⟩ := by rw [ea, hLo]; simp
          subst hA
          have hmul : o * sz' + rs.length * sz' ≤ cur.size := by
            rw [← hcur, ← Nat.add_mul]
            exact Nat.mul_le_mul_right sz' (by omega)
          have hst := run_storeCells_at P L.g (o * sz') ct news 0 cur w hg (by simp; omega) n3
          simp only [Nat.add_zero] at hst
          have hrun : (Builtin.clear_ #[t] ty #[.slice (some ⟨L.g, o * sz', none⟩) n c]).run P w = .ok (.tuple #[]) (w.setRow L.g (cur.toList.take (o * sz') ++ news ++ cur.toList.drop (o * sz' + news.length)).toArray) := by
            obtain ⟨n, rfl⟩ : ∃ q, n = q + 1 := ⟨n - 1, by omega⟩
            simp [Builtin.clear_, run_underlying ht, hzr, hnews, hst]
          have hin2 : k.rows.length * sz' ≤ cur.size := by
            have hp : k.rows.length - 1 < k.rows.length := by omega
            obtain ⟨g1, g2⟩ := hrows (k.rows.length - 1) _ (List.getElem?_eq_getElem hp)
            obtain ⟨v, k1, _⟩ := g2 (sz' - 1) _ (List.getElem?_eq_getElem (by omega))
            have := (Array.getElem?_eq_some_iff.1 k1).1
            have e2 : k.rows.length * sz' = (k.rows.length - 1) * sz' + sz' := by
              rw [← Nat.succ_mul]
              congr 1
              omega
            omega
          have hcl : cur.toList.toArray = cur := by simp
          have hr0 : RowsIn m (cellsIn w) sz' k.rows cur.toList.toArray := by rw [hcl]; exact hrows
          have p1 := hr0.take o
          have p3 := hr0.drop (o + rs.length)
          have l1 : (cur.toList.take (o * sz')).length = (k.rows.take o).length * sz' := by
            have hoo : (k.rows.take o).length = o := by rw [List.length_take]; omega
            rw [hoo, List.length_take, Array.length_toList]; omega
          have p2 := RowsIn.append (rest := []) p1 l1 n2 n1
          rw [List.append_nil] at p2
          have l2 : (cur.toList.take (o * sz') ++ news).length = (k.rows.take o ++ rs).length * sz' := by
            rw [List.length_append, List.length_append, Nat.add_mul, l1, n1]
          have e3 : (k.rows.drop (o + rs.length)).length * sz' = k.rows.length * sz' - (o + rs.length) * sz' := by rw [List.length_drop, Nat.sub_mul]
          have e4 : (o + rs.length) * sz' = o * sz' + rs.length * sz' := Nat.add_mul _ _ _
          have p4 := p3.take (k.rows.drop (o + rs.length)).length
          rw [List.take_length] at p4
          have l3 : ((cur.toList.drop ((o + rs.length) * sz')).take ((k.rows.drop (o + rs.length)).length * sz')).length = (k.rows.drop (o + rs.length)).length * sz' := by
            rw [List.length_take]
            refine Nat.min_eq_left ?_
            rw [e3]
            simp only [List.length_drop (l := cur.toList), Array.length_toList]
            exact Nat.sub_le_sub_right hin2 _
          have p5 := RowsIn.append (rest := (cur.toList.drop ((o + rs.length) * sz')).drop ((k.rows.drop (o + rs.length)).length * sz')) p2 l2 p4 l3
          rw [List.append_assoc (cur.toList.take (o * sz') ++ news), List.take_append_drop] at p5
          have hcs : (cur.toList.take (o * sz') ++ news ++ cur.toList.drop (o * sz' + news.length)).toArray.size = cur.size := by
            simp only [List.size_toArray, List.length_append, List.length_take, List.length_drop, Array.length_toList]
            omega
          have st := St.turn r e1 hk ho hl hg (cur.toList.take (o * sz') ++ news ++ cur.toList.drop (o * sz' + news.length)).toArray hcs (k' := { k with rows := k.rows.take o ++ rs ++ k.rows.drop (o + n) }) rfl rfl (fun _ => by rw [ez, n1, ← e4, ← hrl]; exact p5)
          exact ⟨_, m, _, hrun, st, .tup rfl (fun i x v h => by simp at h)⟩
  | _ => simp at h

theorem app_sound (r : Rel B m H w) {t u ty e : TypeId} {d : TypeDesc} {sz by_ : Nat} {z : List Cell} (ht : P.underlying t = some (.slice e)) (hu : P.underlying u = some d) (hd : srcOk e d = true) (hn : sizeT P e = some sz) (hb : bytesT P e = some by_) (hz : zeroT P e = some z)
    (h0 : 0 < sz) (hb0 : 0 < by_) (hzl : z.length = sz) {x y : Cell} {vx vy : Value} (hx : VR m (cellsIn w) x vx) (hy : VR m (cellsIn w) y vy) {v : AVal} {H' : Heap} (h : evApp H sz by_ x y = some (v, H')) :
    ∃ w' m' u', (Builtin.append_ #[t, u] ty #[vx, vy]).run P w = .ok u' w' ∧ St B H m w H' m' w' ∧ VRA m' (cellsIn w') v u' := by
  obtain ⟨i, hi, hin⟩ := sizeT_info hn
  unfold bytesT at hb
  simp [hi] at hb
  unfold zeroT at hz
  cases hzv : i.zero with
  | none => simp [hi, hzv] at hz
  | some zv =>
    simp [hi, hzv] at hz
    have hzs : zv.cells.size = sz := by have := (cellsOf_sound (m := m) (σ := cellsIn w) hz).length; simp at this; omega
    unfold evApp at h
    cases hnew : H.rowsOf y with
    | none => simp [hnew] at h
    | some new =>
      simp only [hnew] at h
      split at h
      case isFalse => cases h
      case isTrue hfit =>
        obtain ⟨news, n1, n2, n3, n4, n5⟩ := source_sound (P := P) r hy h0 hfit hnew
        -- the new row, whatever it continues
        have grown : ∀ (H1 : Heap) (r1 : Rel B m H1 w) (s1 : St B H m w H1 m w) (base : Option Addr) (n c : Nat) (rows : List (List Cell)) (olds : List Value), vx = .slice base n c → c < n + new.length → (n + new.length) * by_ ≤ 140737488355328 → rows.length = n →
            olds.length = n * sz → RowsIn m (cellsIn w) sz rows olds.toArray → (Builtin.firstCells sz n (.slice base n c)).run P w.drew = .ok olds.toArray w.drew →
            ∃ w' m' u', (Builtin.append_ #[t, u] ty #[vx, vy]).run P w = .ok u' w' ∧ St B H m w (H1 ++ [{ sz := sz, rows := rows ++ new }]) m' w' ∧ VRA m' (cellsIn w') (.c (.slc H1.length 0 (n + new.length) sz false)) u' := by
          intro H1 r1 s1 base n c rows olds hvx hlt hbytes hrl hol hor hfo
          subst hvx
          have hsmall : n + new.length ≤ 140737488355328 := Nat.le_trans (Nat.le_mul_of_pos_right _ hb0) hbytes
          have hrun := run_app_grow (P := P) w ht hu hd hi hzv (ty := ty) base n c new.length olds news vy (by rw [hin]; exact hfo) n4 (by rw [hin]; exact n5 w.drew rfl) hlt (by omega) (growslice_fits hlt (by rw [hb]; exact hbytes))
          have sd := St.drew r1
          have hrows : RowsIn m (cellsIn w.drew) sz (rows ++ new) (olds.toArray ++ news.toArray ++ Builtin.zeroCells zv.cells (grownCap w (n + new.length) c e - (n + new.length))) := by
            have := RowsIn.append (rest := (Builtin.zeroCells zv.cells (grownCap w (n + new.length) c e - (n + new.length))).toList) hor (by rw [hol, hrl]) n2 n1
            have heq : (olds ++ news ++ (Builtin.zeroCells zv.cells (grownCap w (n + new.length) c e - (n + new.length))).toList).toArray = olds.toArray ++ news.toArray ++ Builtin.zeroCells zv.cells (grownCap w (n + new.length) c e - (n + new.length)) := by
              apply Array.ext'; simp
            rw [heq] at this
            exact this
          have sn := St.new sd.rel e { sz := sz, rows := rows ++ new } _ rfl hrows
          have hge := grownCap_ge w (n + new.length) c e
          have hcells : cellsIn (w.drew.alloc (.cells (olds.toArray ++ news.toArray ++ Builtin.zeroCells zv.cells (grownCap w (n + new.length) c e - (n + new.length))) e)) w.heap.size = grownCap w (n + new.length) c e * sz := by
            show cellsIn _ w.drew.heap.size = _
            rw [cellsIn_row (heap_alloc_new w.drew _)]
            simp only [Array.size_append, List.size_toArray, size_zeroCells, hzs, hol, n1, ← Nat.add_mul]
            congr 1
            omega
          refine ⟨_, _, _, hrun, (s1.trans r (sd.trans r1 sn)), slc_new _ _ _ _ _ _ hge (fun h => by cases h) ?_ hcells.symm⟩
          exact grownCap_le_maxLen w _ c e (by unfold maxLen; omega)
        have hnil : (∀ n c base, vx = .slice base n c → n ≤ c → new.length = 0 → (Builtin.append_ #[t, u] ty #[vx, vy]).run P w = .ok vx w) := by
          intro n c base hvx hle hn0
          subst hvx
          have hnews : news = [] := List.eq_nil_of_length_eq_zero (by rw [n1, hn0]; simp)
          subst hnews
          rw [hn0] at n4 n5
          exact run_app_none w ht hu hd hi base n c hle vy n4 (by rw [hin]; exact n5 w rfl)
        have hnewpos : new.length ≠ 0 → 0 < new.length := fun h => by omega
        cases hx with
        | nilS =>
          simp only at h
          split at h
          · rename_i hn0
            injection h with h
            injection h with hv hh
            subst hv; subst hh
            exact ⟨w, m, _, hnil 0 0 none rfl (Nat.le_refl _) hn0, St.refl r, .c .nilS⟩
          · rename_i hn0
            split at h
            · rename_i hbytes
              injection h with h
              injection h with hv hh
              subst hv; subst hh
              have := grown H r (St.refl r) none 0 0 [] [] rfl (by omega) (by rw [Nat.zero_add]; exact hbytes) rfl (by simp) (fun i r e => by simp at e) (by simp [Builtin.firstCells])
              simpa using this
            · cases h
        | zerN =>
          simp only at h
          split at h
          · rename_i hn0
            injection h with h
            injection h with hv hh
            subst hv; subst hh
            exact ⟨w, m, _, hnil 0 0 _ rfl (Nat.le_refl _) hn0, St.refl r, .c .zerN⟩
          · rename_i hn0
            split at h
            · rename_i hbytes
              injection h with h
              injection h with hv hh
              subst hv; subst hh
              have := grown H r (St.refl r) _ 0 0 [] [] rfl (by omega) (by rw [Nat.zero_add]; exact hbytes) rfl (by simp) (fun i r e => by simp at e) (by simp [Builtin.firstCells, loadCells_zero])
              simpa using this
            · cases h
        | zerS =>
          simp only at h
          split at h
          · rename_i hn0
            injection h with h
            injection h with hv hh
            subst hv; subst hh
            exact ⟨w, m, _, hnil 0 0 _ rfl (Nat.le_refl _) hn0, St.refl r, .c .zerS⟩
          · rename_i hn0
            split at h
            · rename_i hbytes
              injection h with h
              injection h with hv hh
              subst hv; subst hh
              have := grown H r (St.refl r) _ 0 0 [] [] rfl (by omega) (by rw [Nat.zero_add]; exact hbytes) rfl (by simp) (fun i r e => by simp at e) (by simp [Builtin.firstCells, loadCells_zero])
              simpa using this
            · cases h
        | emp hcc =>
          simp only at h
          split at h <;> try (cases h; done)
          rename_i hn0
          injection h with h
          injection h with hv hh
          subst hv; subst hh
          exact ⟨w, m, _, hnil _ _ _ rfl (Nat.zero_le _) hn0, St.refl r, .c (.emp hcc)⟩
        | lstN =>
          simp only at h
          split at h <;> try (cases h; done)
          rename_i hn0
          injection h with h
          injection h with hv hh
          subst hv; subst hh
          exact ⟨w, m, _, hnil 0 0 _ rfl (Nat.le_refl _) hn0, St.refl r, .c .lstN⟩
        | lst g1 g2 g3 g4 g5 g6 =>
          simp only at h
          split at h <;> try (cases h; done)
          rename_i hn0
          injection h with h
          injection h with hv hh
          subst hv; subst hh
          exact ⟨w, m, _, hnil _ _ _ rfl g1 hn0, St.refl r, .c (.lst g1 g2 g3 g4 g5 g6)⟩
        | slc h1 h2 h3 h4 =>
          rename_i b s n sz' zz A c
          simp only at h
          split at h
          · rename_i hn0
            injection h with h
            injection h with hv hh
            subst hv; subst hh
            exact ⟨w, m, _, hnil n c (some A) rfl h1 hn0, St.refl r, .c (.slc h1 h2 h3 h4)⟩
          · rename_i hn0
            split at h
            case isFalse => cases h
            case isTrue hc =>
              obtain ⟨hszz, hbytes⟩ := hc
              subst hszz
              split at h
              · rename_i hzz
                split at h
                · rename_i hn00
                  subst hn00
                  injection h with h
                  injection h with hv hh
                  subst hv; subst hh
                  have hc0 := h2 hzz
                  subst hc0
                  have := grown H r (St.refl r) (some A) 0 0 [] [] rfl (by omega) hbytes rfl (by simp) (fun i r e => by simp at e) (by simp [Builtin.firstCells, loadCells_zero])
                  simpa using this
                · cases h
              · rename_i hzz
                cases hk : H[b]? with
                | none => simp [hk] at h
                | some k =>
                  simp only [hk] at h
                  split at h
                  case isFalse => cases h
                  case isTrue hcond =>
                    obtain ⟨hown, hlive, hs0, hnle⟩ := hcond
                    subst hs0
                    injection h with h
                    injection h with hv hh
                    subst hv; subst hh
                    have sdrop := St.drop r hk
                    have hlen1 : (H.set b { k with live := false }).length = H.length := by simp
                    by_cases hc0 : c = 0
                    · subst hc0
                      have hn00 : n = 0 := by omega
                      subst hn00
                      have := grown _ sdrop.rel sdrop (some A) 0 0 [] [] rfl (by omega) hbytes rfl (by simp) (fun i r e => by simp at e) (by simp [Builtin.firstCells, loadCells_zero])
                      simp only [hlen1] at this
                      simpa using this
                    · obtain ⟨L, e1, ez, h5⟩ := h4
                      obtain ⟨ea, eo⟩ := h5 hc0
                      obtain ⟨k', hk', hat⟩ := r.blk b L e1
                      rw [hk] at hk'; injection hk' with hk'; subst hk'
                      have ho : L.own = true := by rw [← hat.own]; exact hown
                      obtain ⟨cur, ct, hg⟩ := hat.row ho hlive
                      have hLo : L.o = 0 := (hat.ours ho).2
                      have hrows := rowsIn_of r e1 hk ho hlive hg
                      rw [ez] at hrows
                      have hA : A = ⟨L.g, 0, none⟩ := by rw [ea, hLo]; simp
                      subst hA
                      have hcap : c * sz' = cur.size := by have := eo ho; rw [cellsIn_row hg] at this; simpa using this
                      have hnc : n * sz' ≤ cur.size := by rw [← hcap]; exact Nat.mul_le_mul_right _ h1
                      have hol : (cur.toList.take (n * sz')).length = n * sz' := by simp; omega
                      have hor : RowsIn m (cellsIn w) sz' (k.rows.take n) (cur.toList.take (n * sz')).toArray := RowsIn.take (by simpa using hrows) n
                      by_cases hroom : n + new.length ≤ c
                      · have hfit2 : n * i.size + news.length ≤ cur.size := by
                          rw [hin, n1, ← Nat.add_mul, ← hcap]
                          exact Nat.mul_le_mul_right _ hroom
                        have hrun := run_app_room (P := P) w (ty := ty) ht hu hd hi L.g n c new.length cur hg vy news n4 (by rw [hin]; exact n5 w rfl) n3 hroom hfit2
                        rw [hin] at hrun hfit2
                        have hsize : (cur.toList.take (n * sz') ++ news ++ cur.toList.drop (n * sz' + news.length)).toArray.size = cur.size := by
                          simp only [List.size_toArray, List.length_append, List.length_take, List.length_drop, Array.length_toList]
                          omega
                        have st := St.turn r e1 hk ho hlive hg _ hsize (k' := { k with live := false }) rfl rfl (fun h => by cases h)
                        have hg1 := setRow_heap w L.g cur (cur.toList.take (n * sz') ++ news ++ cur.toList.drop (n * sz' + news.length)).toArray ct (0, 0) hg
                        have hb1 : (H.set b { k with live := false })[b]? = some { k with live := false } := by simp [r.lt e1]
                        have hrows1 : RowsIn m (cellsIn (w.setRow L.g (cur.toList.take (n * sz') ++ news ++ cur.toList.drop (n * sz' + news.length)).toArray)) L.sz (k.rows.take n ++ new) (cur.toList.take (n * sz') ++ news ++ cur.toList.drop (n * sz' + news.length)).toArray := by
                          rw [ez]
                          exact (RowsIn.append hor (by rw [hol, List.length_take, Nat.min_eq_left hnle]) n2 n1).mono (st.mle r)
                        have had := St.adopt st.rel (k := { sz := sz', rows := k.rows.take n ++ new }) e1 hb1 rfl ho rfl ez.symm hg1 hrows1 (by
                          intro b' L' q' hm' ho' hq' hl' hgg
                          by_cases hbb : b = b'
                          · subst hbb
                            rw [hb1] at hq'; injection hq' with hq'; subst hq'
                            cases hl'
                          · rw [List.getElem?_set_ne hbb] at hq'
                            exact hbb (r.inj b b' L L' k q' e1 hm' ho ho' hk hq' hlive hl' hgg.symm)) (r.zown b L k e1 ho hk hlive)
                        have sad := st.adopts had.1 had.2 ⟨b, L, k, e1, ho, rfl, hk, hlive⟩
                        refine ⟨_, _, _, hrun, sad, ?_⟩
                        have := slc_new (m := m) (σ' := cellsIn (w.setRow L.g (cur.toList.take (n * sz') ++ news ++ cur.toList.drop (n * sz' + news.length)).toArray)) L.g (H.set b { k with live := false }).length (n + new.length) L.sz c false hroom (fun h => by cases h) h3 (by rw [cellsIn_row hg1, hsize, ez, hcap])
                        rw [hlen1, ez] at this
                        rw [hlen1, ez]
                        exact this
                      · have := grown _ sdrop.rel sdrop (some ⟨L.g, 0, none⟩) n c (k.rows.take n) (cur.toList.take (n * sz')) rfl (by omega) hbytes (by simp; omega) hol hor (by
                          refine run_firstCells_some (P := P) w.drew sz' n ⟨L.g, 0, none⟩ n c _ hol (fun j v hj => ?_)
                          rw [addr_add, Nat.zero_add, World.cell?_drew, cell_of_row _ _ _ _ _ _ hg]
                          rw [List.getElem?_take] at hj
                          split at hj
                          · simpa using hj
                          · cases hj)
                        simp only [hlen1] at this
                        simpa using this
        | _ => simp only at h; cases h

/-- Noughts behind nil. -/
theorem appM_sound (r : Rel B m H w) {t u ty e : TypeId} {k : IntKind} {sz by_ : Nat} {z : List Cell} (ht : P.underlying t = some (.slice e)) (hu : P.underlying u = some (.int k)) (hn : sizeT P e = some sz) (hb : bytesT P e = some by_) (hz : zeroT P e = some z)
    (h0 : 0 < sz) (hb0 : 0 < by_) (hzl : z.length = sz) {k' : IntKind} {l : Int} (hl0 : 0 < l) (hl1 : l ≤ 9223372036854775807) (hl2 : l * by_ ≤ 140737488355328) :
    ∃ w' m' u', (Builtin.append_ #[t, u] ty #[.slice none 0 0, .int k' l]).run P w = .ok u' w' ∧ St B H m w (H ++ [{ sz := sz, rows := List.replicate l.toNat z }]) m' w' ∧ VRA m' (cellsIn w') (.c (.slc H.length 0 l.toNat sz false)) u' := by
  obtain ⟨i, hi, hin⟩ := sizeT_info hn
  unfold bytesT at hb
  simp [hi] at hb
  unfold zeroT at hz
  cases hzv : i.zero with
  | none => simp [hi, hzv] at hz
  | some zv =>
    simp [hi, hzv] at hz
    have hzs : All2 (VR m (cellsIn w)) z zv.cells.toList := cellsOf_sound hz
    have hzsz : zv.cells.size = sz := by have := hzs.length; simp at this; omega
    have hw : IntKind.i64.wrap l = l := by
      unfold IntKind.wrap
      simp [IntKind.bits, IntKind.signed, IntKind.min, IntKind.max]
      omega
    have hbytes : l.toNat * by_ ≤ 140737488355328 := by
      have h1 : ((l.toNat * by_ : Nat) : Int) = l * by_ := by rw [Int.natCast_mul, Int.toNat_of_nonneg (by omega)]
      omega
    have hsmall : l.toNat ≤ 140737488355328 := Nat.le_trans (Nat.le_mul_of_pos_right _ hb0) hbytes
    have hge := grownCap_ge w l.toNat 0 e
    have hfit := growslice_fits (old := 0) (bytes := i.bytes) (show 0 < l.toNat by omega) (by rw [hb]; exact hbytes)
    have h48 : ¬ (281474976710656 < Builtin.nextslicecap l.toNat 0 * i.bytes) := by omega
    have h48' : ¬ (281474976710656 < l * (i.bytes : Int)) := by rw [hb]; omega
    have h63 : ¬ (9223372036854775807 < l) := by omega
    have hpos : ¬ (l < 0) := by omega
    have hne : ¬ (l.toNat = 0) := by omega
    have hle : ¬ (l ≤ 0) := by omega
    have hmax : ¬ (9223372036854775807 < max l 0) := by omega
    have hsz : ¬ (l.toNat * i.size = 0) := by rw [hin]; exact Nat.mul_ne_zero hne (by omega)
    have hrun : (Builtin.append_ #[t, u] ty #[.slice none 0 0, .int k' l]).run P w =
        .ok (.slice (some ⟨w.heap.size, 0, none⟩) l.toNat (grownCap w l.toNat 0 e)) (w.drew.alloc (.cells (Builtin.zeroCells zv.cells l.toNat ++ Builtin.zeroCells zv.cells (grownCap w l.toNat 0 e - l.toNat)) e)) := by
      simp [Builtin.append_, run_underlying ht, run_underlying hu, sizeOf, typeInfo, zeroValue, asInt, asIntOf, hi, hzv, hw, hpos, hle, hmax, h48, h48', h63, hne, hsz, Builtin.firstCells, Question.forced, newRow, grownCap]
    have sd := St.drew r
    have hmade := RowsIn.made hzs l.toNat (by omega)
    rw [hzl] at hmade
    have hrows : RowsIn m (cellsIn w.drew) sz (List.replicate l.toNat z) (Builtin.zeroCells zv.cells l.toNat ++ Builtin.zeroCells zv.cells (grownCap w l.toNat 0 e - l.toNat)) := by
      intro q row eq
      obtain ⟨g1, g2⟩ := hmade q row eq
      refine ⟨g1, fun f c ec => ?_⟩
      obtain ⟨v, e1, e2⟩ := g2 f c ec
      refine ⟨v, ?_, e2⟩
      have hlt : q * sz + f < (Builtin.zeroCells zv.cells l.toNat).size := by
        have hq : q < l.toNat := by have := (List.getElem?_eq_some_iff.1 eq).1; simpa using this
        have hf : f < sz := by rw [← g1]; exact (List.getElem?_eq_some_iff.1 ec).1
        rw [size_zeroCells, hzsz]
        exact mul_row_lt hq hf
      rw [Array.getElem?_append_left hlt]
      unfold Builtin.zeroCells
      rw [hzsz]
      rw [hzsz] at e1
      exact e1
    have sn := St.new sd.rel e { sz := sz, rows := List.replicate l.toNat z } _ rfl hrows
    have hcells : cellsIn (w.drew.alloc (.cells (Builtin.zeroCells zv.cells l.toNat ++ Builtin.zeroCells zv.cells (grownCap w l.toNat 0 e - l.toNat)) e)) w.heap.size = grownCap w l.toNat 0 e * sz := by
      show cellsIn _ w.drew.heap.size = _
      rw [cellsIn_row (heap_alloc_new w.drew _)]
      simp only [Array.size_append, size_zeroCells, hzsz, ← Nat.add_mul]
      congr 1
      omega
    exact ⟨_, _, _, hrun, sd.trans r sn, slc_new _ _ _ _ _ _ hge (fun h => by cases h) (grownCap_le_maxLen w _ 0 e (by unfold maxLen; omega)) hcells.symm⟩

end Go.Proofs.YtpjbjdicdjlmeaaGreatDoor.Eng
