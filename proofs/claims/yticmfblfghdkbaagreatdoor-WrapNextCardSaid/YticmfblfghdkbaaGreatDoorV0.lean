/- Parts of this claim's proof, joined. No statement of the seat is proved here. -/
import Derived.Calls
import Derived.Orders
import Derived.Eval
import Derived.KernelRfl
set_option linter.unusedVariables false
set_option linter.unusedSimpArgs false
namespace Go.Proofs.YticmfblfghdkbaaGreatDoor.Eng
open Go
inductive Cell where
 | int (k : IntKind) (n : Int)
 | bool (b : Bool)
 | str (s : ByteArray)
 | nilI
 | nilF
 | nilS
 | nilP
 | ptr (b i f : Nat)
 | slc (b s n sz : Nat) (z : Bool)
 | fn (f : Nat) (caps : List Cell)
 | iface (t : Nat) (agg : Bool) (cs : List Cell)
 | lst (sz : Nat) (rows : List (List Cell))
 | zer (sz : Nat)
 | emp (sz : Nat)
 | fp (row : List Cell) (f : Nat)
 deriving Inhabited
inductive AVal where
 | c (x : Cell)
 | agg (xs : List Cell)
 | tup (xs : List AVal)
 deriving Inhabited
def AVal.cells : AVal → List Cell
 | .c x => [x]
 | .agg xs => xs
 | .tup _ => []
structure Blk where
 sz : Nat
 rows : List (List Cell)
 own : Bool := true
 live : Bool := true
abbrev Heap := List Blk
abbrev Env := Nat → AVal
def Zft : AVal := .tup []
def upd (e : Env) (d : Nat) (v : AVal) : Env := fun t => if t = d then v else e t
def updO (e : Env) (d : Option Nat) (v : AVal) : Env := match d with | some d => upd e d v | none => e
def Heap.row (H : Heap) (b i : Nat) : Option (List Cell) :=
 match H[b]? with
 | some k => if k.live then k.rows[i]? else none
 | none => none
def Heap.put (H : Heap) (b i : Nat) (r : List Cell) : Heap :=
 match H[b]? with
 | some k => H.set b { k with rows := k.rows.set i r }
 | none => H
def Heap.kill (H : Heap) (b : Nat) : Heap :=
 match H[b]? with
 | some k => H.set b { k with live := false }
 | none => H
def Heap.mine (H : Heap) (b : Nat) : Bool :=
 match H[b]? with
 | some k => k.own && k.live
 | none => false
inductive Opd where
 | t (n : Nat)
 | k (v : AVal)
 | f (id : Nat)
def Opd.ev (e : Env) : Opd → AVal
 | .t n => e n
 | .k v => v
 | .f id => .c (.fn id [])
inductive AOp where
 | mv (x : Opd)
 | pick (c x y : Opd)
 | new (cells : List Cell)
 | box (x : Opd)
 | build (zero : List Cell) (parts : List (Nat × Nat × Opd))
 | lit (sz : Nat) (zero : List Cell) (len : Nat) (parts : List (Nat × Opd))
 | load (agg : Bool) (n : Nat) (a : Opd)
 | store (n : Nat) (a v : Opd)
 | chk (x : Opd)
 | bin (op : BinOp) (x y : Opd)
 | binB (neg : Bool) (x y : Opd)
 | eqNil (sl neg : Bool) (x y : Opd)
 | eqS (neg : Bool) (ks : List Nat) (x y : Opd)
 | un (op : UnOp) (x : Opd)
 | conv (k : IntKind) (x : Opd)
 | strId (x : Opd)
 | b2s (x : Opd)
 | s2b (x : Opd)
 | mkF (f : Nat) (caps : List Opd)
 | mkI (t : Nat) (x : Opd)
 | make (sz bytes : Nat) (zero : List Cell) (l c : Opd)
 | sl (sz : Nat) (x : Opd) (lo hi mx : Option Opd)
 | slS (x : Opd) (lo hi : Option Opd)
 | slA (len sz : Nat) (x : Opd)
 | fld (off : Nat) (x : Opd)
 | fldV (agg : Bool) (off n : Nat) (x : Opd)
 | loadF (agg : Bool) (n : Nat) (a : Opd)
 | ix (sz : Nat) (x i : Opd)
 | ixA (len sz : Nat) (x i : Opd)
 | ixS (x i : Opd)
 | ixV (agg : Bool) (len sz : Nat) (x i : Opd)
 | ext (x : Opd) (i : Nat)
 | len (x : Opd)
 | lenS (x : Opd)
 | cap (x : Opd)
 | cpy (sz : Nat) (x y : Opd)
 | clr (sz : Nat) (zero : List Cell) (x : Opd)
 | app (sz bytes : Nat) (x y : Opd)
 | appZ (sz bytes : Nat) (x y : Opd)
 | appM (sz bytes : Nat) (zero : List Cell) (x n : Opd)
 | max (xs : List Opd)
 | min (xs : List Opd)
 | call (f : Opd) (args : List Opd)
 | bad
def AOp.isT : AOp → Bool
 | .call (.k _) _ => true
 | _ => false
def AOp.isBad : AOp → Bool
 | .bad => true
 | _ => false
structure AInstr where
 dst : Option Nat
 op : AOp
 guard : Option (Nat × Bool) := none
 fz : Bool := false
def AInstr.erase (i : AInstr) : AInstr := { i with fz := false }
inductive ACode where
 | skip
 | region (l : List AInstr) (d : Bool)
 | seq (a b : ACode)
 | cond (c : Opd) (a b : ACode)
 | block (id : Nat) (a : ACode)
 | loop (a : ACode)
 | exit (id : Nat)
 | ret
 | bad
 | fz (t : Nat) (a : ACode)
def ACode.erase : ACode → ACode
 | .region l d => .region (l.map AInstr.erase) d
 | .seq a b => .seq a.erase b.erase
 | .cond c a b => .cond c a.erase b.erase
 | .block id a => .block id a.erase
 | .loop a => .loop a.erase
 | .fz _ a => a.erase
 | c => c
inductive ARes where
 | tmp (t : Nat)
 | cell (a : Nat) (agg : Bool) (n : Nat)
structure AFun where
 res : List ARes
 body : ACode
def AFun.erase (f : AFun) : AFun := { f with body := f.body.erase }
def Zch (op : BinOp) (x y : Cell) : Option Cell :=
 match x,y with
 | .int k a,.int k' b =>
  match op with
  | .shl => if 0 ≤ b then some (.int k (k.wrap (a * 2 ^ (Nat.min b.toNat k.bits)))) else none
  | .shr => if 0 ≤ b then some (.int k (a.fdiv (2 ^ (Nat.min b.toNat k.bits)))) else none
  | op => if k = k' then
   match op with
   | .add => some (.int k (k.wrap (a + b)))
   | .sub => some (.int k (k.wrap (a - b)))
   | .mul => some (.int k (k.wrap (a * b)))
   | .quo => if b = 0 then none else some (.int k (k.wrap (a.tdiv b)))
   | .rem => if b = 0 then none else some (.int k (a.tmod b))
   | .and => some (.int k (k.wrap (BitVec.ofInt k.bits a &&& BitVec.ofInt k.bits b).toNat))
   | .or => some (.int k (k.wrap (BitVec.ofInt k.bits a ||| BitVec.ofInt k.bits b).toNat))
   | .xor => some (.int k (k.wrap (BitVec.ofInt k.bits a ^^^ BitVec.ofInt k.bits b).toNat))
   | .andNot => some (.int k (k.wrap (BitVec.ofInt k.bits a &&& ~~~(BitVec.ofInt k.bits b)).toNat))
   | .eql => some (.bool (decide (a = b)))
   | .neq => some (.bool (!decide (a = b)))
   | .lss => some (.bool (decide (a < b)))
   | .leq => some (.bool (decide (a ≤ b)))
   | .gtr => some (.bool (decide (b < a)))
   | .geq => some (.bool (decide (b ≤ a)))
   | _ => none
   else none
 | .str a,.str b =>
  match op with
  | .add => if a.size + b.size ≤ 9223372036854775807 then some (.str (a ++ b)) else none
  | .eql => some (.bool (decide (a = b)))
  | .neq => some (.bool (!decide (a = b)))
  | .lss => some (.bool (Op.bytesLess a.toList b.toList))
  | .geq => some (.bool (!Op.bytesLess a.toList b.toList))
  | .gtr => some (.bool (!(Op.bytesLess a.toList b.toList || decide (a = b))))
  | .leq => some (.bool (Op.bytesLess a.toList b.toList || decide (a = b)))
  | _ => none
 | _,_ => none
def Zfl (sl : Bool) (x y : Cell) : Option Bool :=
 match sl,x,y with
 | true,.nilS,.nilS => some true
 | true,.slc _ _ _ _ _,.nilS => some false
 | true,.nilS,.slc _ _ _ _ _ => some false
 | true,.lst _ (_ :: _),.nilS => some false
 | true,.nilS,.lst _ (_ :: _) => some false
 | true,.emp _,.nilS => some false
 | true,.nilS,.emp _ => some false
 | false,.iface _ _ _,.nilI => some false
 | false,.nilI,.iface _ _ _ => some false
 | false,.nilI,.nilI => some true
 | _,_,_ => none
def Zw8 (k : Nat) (x y : Cell) : Option Bool :=
 match k,x,y with
 | 0,.int k a,.int k' b => if k = k' then some (decide (a = b)) else none
 | 1,.str a,.str b => some (decide (a = b))
 | 2,.bool a,.bool b => some (a == b)
 | _,_,_ => none
def Zbw : List Nat → List Cell → List Cell → Option Bool
 | [],[],[] => some true
 | k :: ks,x :: xs,y :: ys =>
  match Zw8 k x y with
  | some b => match Zbw ks xs ys with
   | some r => some (b && r)
   | none => none
  | none => none
 | _,_,_ => none
def evUn (op : UnOp) (x : Cell) : Option Cell :=
 match op,x with
 | .neg,.int k n => some (.int k (k.wrap (0 - n)))
 | .xor,.int k n => some (.int k (k.wrap (BitVec.ofInt k.bits (if k.signed then -1 else k.max) ^^^ BitVec.ofInt k.bits n).toNat))
 | .not,.bool b => some (.bool !b)
 | _,_ => none
def Zcu (s : ByteArray) : List Cell := s.data.toList.map fun b => .int .u8 (b.toNat : Int)
def Zdi : List (List Cell) → Option (List UInt8)
 | [] => some []
 | [.int .u8 n] :: r => match Zdi r with | some l => some (UInt8.ofNat n.toNat :: l) | none => none
 | _ => none
def Heap.rowsOf (H : Heap) (x : Cell) : Option (List (List Cell)) :=
 match x with
 | .nilS => some []
 | .slc b s n _ _ =>
  if n = 0 then some [] else
  match H[b]? with
  | some k => if k.live ∧ s + n ≤ k.rows.length then some ((k.rows.drop s).take n) else none
  | none => none
 | .str s => some ((Zcu s).map fun c => [c])
 | .lst _ rows => some rows
 | .zer _ => some []
 | .emp _ => some []
 | _ => none
def Zbh (sz : Nat) : Cell → Bool
 | .nilS => true
 | .slc _ _ _ sz' _ => sz' == sz
 | .str _ => sz == 1
 | .lst sz' _ => sz' == sz
 | .zer sz' => sz' == sz
 | .emp sz' => sz' == sz
 | _ => false
def Ziy (zero : List Cell) (e : Env) : List (Nat × Nat × Opd) → Option (List Cell)
 | [] => some zero
 | (off,n,x) :: r =>
  let cs := (x.ev e).cells
  if cs.length = n ∧ off + n ≤ zero.length then Ziy (zero.take off ++ cs ++ zero.drop (off + n)) e r else none
def Zmz (sz : Nat) (rows : List (List Cell)) (e : Env) : List (Nat × Opd) → Option (List (List Cell))
 | [] => some rows
 | (i,x) :: r =>
  let cs := (x.ev e).cells
  if cs.length = sz ∧ i < rows.length then Zmz sz (rows.set i cs) e r else none
def Zg0 (n sz : Nat) (row : List Cell) (f : Nat) : List (List Cell) := (List.range n).map fun i => (row.drop (f + i * sz)).take sz
def Zi6 (v : AVal) (y : Nat) : Option Nat :=
 match v with
 | .c (.int _ i) => if 0 ≤ i ∧ i ≤ y then some i.toNat else none
 | _ => none
def Zby (e : Env) (x : Option Opd) (y d : Nat) : Option Nat :=
 match x with
 | some x => Zi6 (x.ev e) y
 | none => some d
def evSl (x : Cell) (e : Env) (lo hi mx : Option Opd) : Option Cell :=
 match x with
 | .nilS =>
  match Zby e mx 0 0,Zby e hi 0 0,Zby e lo 0 0 with
  | some _,some _,some _ => some .nilS
  | _,_,_ => none
 | .zer sz =>
  match Zby e mx 0 0,Zby e hi 0 0,Zby e lo 0 0 with
  | some _,some _,some _ => some (.zer sz)
  | _,_,_ => none
 | .lst sz rows =>
  match mx with
  | none =>
   match Zby e hi rows.length rows.length with
   | some h => match Zby e lo h 0 with
    | some l => some (.lst sz ((rows.drop l).take (h - l)))
    | none => none
   | none => none
  | some mx =>
   match Zi6 (mx.ev e) rows.length with
   | some m => match Zby e hi m rows.length with
    | some h => match Zby e lo h 0 with
     | some l => if m = l then some (.zer sz) else some (.lst sz ((rows.drop l).take (h - l)))
     | none => none
    | none => none
   | none => none
 | .slc b s n sz z =>
  match mx with
  | none =>
   match Zby e hi n n with
   | some h => match Zby e lo h 0 with
    | some l => some (.slc b (s + l) (h - l) sz z)
    | none => none
   | none => none
  | some mx =>
   match Zi6 (mx.ev e) n with
   | some m => match Zby e hi m n with
    | some h => match Zby e lo h 0 with
     | some l => if m = l then some (.slc b (s + l) 0 sz true) else none
     | none => none
    | none => none
   | none => none
 | _ => none
def Zuq (s : ByteArray) (e : Env) (lo hi : Option Opd) : Option ByteArray :=
 match Zby e hi s.size s.size with
 | some h => match Zby e lo h 0 with
  | some l => some (s.extract l h)
  | none => none
 | none => none
def maxC : Cell → Cell → Option Cell
 | .int k x,.int k' y => if k = k' then some (.int k (if y > x then y else x)) else none
 | _,_ => none
def minC : Cell → Cell → Option Cell
 | .int k x,.int k' y => if k = k' then some (.int k (if y < x then y else x)) else none
 | _,_ => none
def Zom (f : Cell → Cell → Option Cell) (e : Env) : Cell → List Opd → Option Cell
 | x,[] => some x
 | x,y :: r => match y.ev e with
  | .c y => match f x y with | some z => Zom f e z r | none => none
  | _ => none
def Zj8 (e : Env) : List Opd → Option (List Cell)
 | [] => some []
 | x :: r => match x.ev e,Zj8 e r with | .c c,some cs => some (c :: cs) | _,_ => none
def Zcl (agg : Bool) (cs : List Cell) : Option AVal :=
 if agg then some (.agg cs) else match cs with | [x] => some (.c x) | _ => none
def Zx0 (H : Heap) (sz : Nat) (x y : Cell) : Option (AVal × Heap) :=
 match x with
 | .slc b o n sz' _ =>
  match H.rowsOf y with
  | none => none
  | some rs =>
   match H[b]? with
   | none => none
   | some k =>
    if sz' = sz ∧ Zbh sz y = true ∧ k.own = true ∧ k.live = true ∧ 0 < n ∧ rs.length ≤ n ∧ o + n ≤ k.rows.length then
     some (.c (.int .i64 rs.length),H.set b { k with rows := k.rows.take o ++ rs ++ k.rows.drop (o + rs.length) })
    else none
 | _ => none
def Zye (H : Heap) (sz : Nat) (z : List Cell) (x : Cell) : Option (AVal × Heap) :=
 match x with
 | .nilS => some (.tup [],H)
 | .slc b o n sz' _ =>
  if n = 0 then some (.tup [],H) else
   match H[b]? with
   | none => none
   | some k =>
    if sz' = sz ∧ k.own = true ∧ k.live = true ∧ o + n ≤ k.rows.length then
     some (.tup [],H.set b { k with rows := k.rows.take o ++ List.replicate n z ++ k.rows.drop (o + n) })
    else none
 | _ => none
def Zze (H : Heap) (sz bytes b n : Nat) (new : List (List Cell)) : Option (AVal × Heap) :=
 if (n + new.length) * bytes ≤ 140737488355328 then match H[b]? with
  | some k => if k.own ∧ k.live ∧ n ≤ k.rows.length then
    some (.c (.slc H.length 0 (n + new.length) sz false),(H.set b { k with live := false }) ++ [{ sz,rows := k.rows.take n ++ new }])
   else none
  | none => none
 else none
def Zc3 (H : Heap) (sz bytes : Nat) (x y : Cell) : Option (AVal × Heap) :=
 match H.rowsOf y with
 | none => none
 | some new =>
  if Zbh sz y then
   match x with
   | .zer sz' => if new.length = 0 then some (.c (.zer sz'),H) else
    if new.length * bytes ≤ 140737488355328 then some (.c (.slc H.length 0 new.length sz false),H ++ [{ sz,rows := new }]) else none
   | .lst sz' rows => if new.length = 0 then some (.c (.lst sz' rows),H) else none
   | .emp sz' => if new.length = 0 then some (.c (.emp sz'),H) else none
   | .nilS => if new.length = 0 then some (.c .nilS,H) else
    if new.length * bytes ≤ 140737488355328 then some (.c (.slc H.length 0 new.length sz false),H ++ [{ sz,rows := new }]) else none
   | .slc b s n sz' z =>
    if new.length = 0 then some (.c (.slc b s n sz' z),H) else
    if sz' = sz ∧ (n + new.length) * bytes ≤ 140737488355328 then
     if z then (if n = 0 then some (.c (.slc H.length 0 new.length sz false),H ++ [{ sz,rows := new }]) else none)
     else match H[b]? with
      | some k => if k.own ∧ k.live ∧ s = 0 ∧ n ≤ k.rows.length then
        some (.c (.slc H.length 0 (n + new.length) sz false),(H.set b { k with live := false }) ++ [{ sz,rows := k.rows.take n ++ new }])
       else none
      | none => none
    else none
   | _ => none
  else none
def ev (o : AOp) (e : Env) (H : Heap) : Option (AVal × Heap) :=
 match o with
 | .mv x => some (x.ev e,H)
 | .pick c x y => match c.ev e with
  | .c (.bool b) => some (if b then x.ev e else y.ev e,H)
  | _ => none
 | .new cs => some (.c (.ptr H.length 0 0),H ++ [{ sz := cs.length,rows := [cs] }])
 | .box x => match x.ev e with
  | .c c => some (.c (.ptr H.length 0 0),H ++ [{ sz := 1,rows := [[c]] }])
  | .agg cs => some (.c (.ptr H.length 0 0),H ++ [{ sz := cs.length,rows := [cs] }])
  | _ => none
 | .build z ps => match Ziy z e ps with | some cs => some (.agg cs,H) | none => none
 | .lit sz z len ps => match Zmz sz (List.replicate len z) e ps with
  | some rows => some (.c (.slc H.length 0 len sz (len == 0)),H ++ [{ sz,rows }])
  | none => none
 | .load agg n a => match a.ev e with
  | .c (.ptr b i f) => match H.row b i with
   | some r => if f + n ≤ r.length then match Zcl agg ((r.drop f).take n) with | some v => some (v,H) | none => none else none
   | none => none
  | .c (.fp r f) => if f + n ≤ r.length then match Zcl agg ((r.drop f).take n) with | some v => some (v,H) | none => none else none
  | _ => none
 | .loadF agg n a => match a.ev e with
  | .c (.fp r f) => if f + n ≤ r.length then match Zcl agg ((r.drop f).take n) with | some v => some (v,H) | none => none else none
  | _ => none
 | .store n a v => match a.ev e with
  | .c (.ptr b i f) => match H.row b i with
   | some r =>
    let cs := (v.ev e).cells
    if H.mine b ∧ cs.length = n ∧ 0 < n ∧ f + n ≤ r.length then some (Zft,H.put b i (r.take f ++ cs ++ r.drop (f + n))) else none
   | none => none
  | _ => none
 | .chk x => match x.ev e with
  | .c .nilP => none
  | .c .nilI => none
  | .c .nilF => none
  | v => some (v,H)
 | .bin op x y => match x.ev e,y.ev e with
  | .c x,.c y => match Zch op x y with | some c => some (.c c,H) | none => none
  | _,_ => none
 | .binB neg x y => match x.ev e,y.ev e with
  | .c (.bool x),.c (.bool y) => some (.c (.bool (neg != (x == y))),H)
  | _,_ => none
 | .eqNil sl neg x y => match x.ev e,y.ev e with
  | .c x,.c y => match Zfl sl x y with | some b => some (.c (.bool (neg != b)),H) | none => none
  | _,_ => none
 | .eqS neg ks x y => match x.ev e,y.ev e with
  | .agg xs,.agg ys => match Zbw ks xs ys with | some b => some (.c (.bool (neg != b)),H) | none => none
  | _,_ => none
 | .un op x => match x.ev e with
  | .c x => match evUn op x with | some c => some (.c c,H) | none => none
  | _ => none
 | .conv k x => match x.ev e with
  | .c (.int _ n) => some (.c (.int k (k.wrap n)),H)
  | _ => none
 | .strId x => match x.ev e with
  | .c (.str s) => some (.c (.str s),H)
  | _ => none
 | .b2s x => match x.ev e with
  | .c c => match c with
   | .str _ => none
   | c => if Zbh 1 c then match H.rowsOf c with
    | some rs => match Zdi rs with | some l => some (.c (.str ⟨l.toArray⟩),H) | none => none
    | none => none else none
  | _ => none
 | .s2b x => match x.ev e with
  | .c (.str s) => if s.size ≤ 140737488355328 then some (.c (.slc H.length 0 s.size 1 false),H ++ [{ sz := 1,rows := (Zcu s).map fun c => [c] }]) else none
  | _ => none
 | .mkF f caps => match Zj8 e caps with | some cs => some (.c (.fn f cs),H) | none => none
 | .mkI t x => match x.ev e with
  | .c c => some (.c (.iface t false [c]),H)
  | .agg cs => some (.c (.iface t true cs),H)
  | _ => none
 | .make sz bytes z l c => match l.ev e,c.ev e with
  | .c (.int _ l),.c (.int _ c) =>
   if 0 ≤ l ∧ l = c ∧ c * bytes ≤ 140737488355328 ∧ l ≤ 9223372036854775807 then some (.c (.slc H.length 0 l.toNat sz (l.toNat == 0)),H ++ [{ sz,rows := List.replicate l.toNat z }]) else none
  | _,_ => none
 | .sl sz x lo hi mx => match x.ev e with
  | .c c => if Zbh sz c then match evSl c e lo hi mx with | some c => some (.c c,H) | none => none else none
  | _ => none
 | .slS x lo hi => match x.ev e with
  | .c (.str s) => match Zuq s e lo hi with | some s => some (.c (.str s),H) | none => none
  | _ => none
 | .slA n sz x => match x.ev e with
  | .c (.fp row f) => if f + n * sz ≤ row.length ∧ n ≤ 1000000 then some (.c (.lst sz (Zg0 n sz row f)),H) else none
  | _ => none
 | .fld off x => match x.ev e with
  | .c (.ptr b i f) => some (.c (.ptr b i (f + off)),H)
  | .c (.fp r f) => some (.c (.fp r (f + off)),H)
  | _ => none
 | .fldV agg off n x => match x.ev e with
  | .agg cs => if off + n ≤ cs.length then match Zcl agg ((cs.drop off).take n) with | some v => some (v,H) | none => none else none
  | _ => none
 | .ix sz x i => match x.ev e,i.ev e with
  | .c (.slc b s n sz' _),.c (.int _ i) => if sz' = sz ∧ 0 ≤ i ∧ i < n then some (.c (.ptr b (s + i.toNat) 0),H) else none
  | .c (.lst sz' rows),.c (.int _ i) => if sz' = sz ∧ 0 ≤ i then match rows[i.toNat]? with | some r => some (.c (.fp r 0),H) | none => none else none
  | _,_ => none
 | .ixA len sz x i => match x.ev e,i.ev e with
  | .c (.ptr b r f),.c (.int _ i) => if 0 ≤ i ∧ i < len then some (.c (.ptr b r (f + i.toNat * sz)),H) else none
  | .c (.fp r f),.c (.int _ i) => if 0 ≤ i ∧ i < len then some (.c (.fp r (f + i.toNat * sz)),H) else none
  | _,_ => none
 | .ixS x i => match x.ev e,i.ev e with
  | .c (.str s),.c (.int _ i) => if h : 0 ≤ i ∧ i.toNat < s.size then some (.c (.int .u8 ((s[i.toNat]'h.2).toNat : Int)),H) else none
  | _,_ => none
 | .ixV agg len sz x i => match x.ev e,i.ev e with
  | .agg cs,.c (.int _ i) => if 0 ≤ i ∧ i < len ∧ i.toNat * sz + sz ≤ cs.length then match Zcl agg ((cs.drop (i.toNat * sz)).take sz) with | some v => some (v,H) | none => none else none
  | _,_ => none
 | .ext x i => match x.ev e with
  | .tup vs => match vs[i]? with | some v => some (v,H) | none => none
  | _ => none
 | .len x => match x.ev e with
  | .c .nilS => some (.c (.int .i64 0),H)
  | .c (.slc _ _ n _ _) => some (.c (.int .i64 n),H)
  | .c (.lst _ rows) => some (.c (.int .i64 rows.length),H)
  | .c (.zer _) => some (.c (.int .i64 0),H)
  | .c (.emp _) => some (.c (.int .i64 0),H)
  | _ => none
 | .cap x => match x.ev e with
  | .c .nilS => some (.c (.int .i64 0),H)
  | .c (.zer _) => some (.c (.int .i64 0),H)
  | .c (.slc _ _ _ _ true) => some (.c (.int .i64 0),H)
  | _ => none
 | .lenS x => match x.ev e with
  | .c (.str s) => some (.c (.int .i64 s.size),H)
  | _ => none
 | .cpy sz x y => match x.ev e,y.ev e with
  | .c x,.c y => Zx0 H sz x y
  | _,_ => none
 | .clr sz z x => match x.ev e with
  | .c x => Zye H sz z x
  | _ => none
 | .app sz bytes x y => match x.ev e,y.ev e with
  | .c x,.c y => Zc3 H sz bytes x y
  | _,_ => none
 | .appZ sz bytes x y => match x.ev e,y.ev e with
  | .c .nilS,.c y => Zc3 H sz bytes .nilS y
  | .c (.zer s),.c y => Zc3 H sz bytes (.zer s) y
  | .c (.slc b s n sz' true),.c y => Zc3 H sz bytes (.slc b s n sz' true) y
  | _,_ => none
 | .appM sz bytes z x n => match x.ev e,n.ev e with
  | .c .nilS,.c (.int _ l) =>
   if 0 < l ∧ l ≤ 9223372036854775807 ∧ l * bytes ≤ 140737488355328 then some (.c (.slc H.length 0 l.toNat sz false),H ++ [{ sz,rows := List.replicate l.toNat z }]) else none
  | .c (.slc b s m sz' zz),.c (.int _ l) =>
   if (0 < l ∧ l ≤ 9223372036854775807 ∧ l * bytes ≤ 140737488355328) ∧ s = 0 ∧ zz = false ∧ sz' = sz then Zze H sz bytes b m (List.replicate l.toNat z) else none
  | _,_ => none
 | .max [] => none
 | .max (x :: r) => match x.ev e with
  | .c x => match Zom maxC e x r with | some c => some (.c c,H) | none => none
  | _ => none
 | .min [] => none
 | .min (x :: r) => match x.ev e with
  | .c x => match Zom minC e x r with | some c => some (.c c,H) | none => none
  | _ => none
 | .call _ _ => none
 | .bad => none
mutual
def Zc : Cell → Bool
 | .ptr _ _ _ => false
 | .slc _ _ _ _ _ => false
 | .fn _ cs => Zb cs
 | .iface _ _ cs => Zb cs
 | .lst _ rows => closedR rows
 | .fp row _ => Zb row
 | _ => true
def Zb : List Cell → Bool
 | [] => true
 | x :: r => Zc x && Zb r
def closedR : List (List Cell) → Bool
 | [] => true
 | x :: r => Zb x && closedR r
end
mutual
def Zp : AVal → Bool
 | .c x => Zc x
 | .agg xs => Zb xs
 | .tup xs => Zq xs
def Zq : List AVal → Bool
 | [] => true
 | x :: r => Zp x && Zq r
end
mutual
def Cell.frz (b : Nat) (k : Blk) : Cell → Cell
 | .slc b' s n sz z => if b' = b ∧ s + n ≤ k.rows.length then (if z then .zer sz else .lst sz ((k.rows.drop s).take n)) else .slc b' s n sz z
 | .ptr b' i f => if b' = b then match k.rows[i]? with | some r => .fp r f | none => .ptr b' i f else .ptr b' i f
 | .fn f cs => .fn f (frzs b k cs)
 | .iface t a cs => .iface t a (frzs b k cs)
 | c => c
def frzs (b : Nat) (k : Blk) : List Cell → List Cell
 | [] => []
 | x :: r => Cell.frz b k x :: frzs b k r
end
mutual
def AVal.frz (b : Nat) (k : Blk) : AVal → AVal
 | .c x => .c (x.frz b k)
 | .agg xs => .agg (frzs b k xs)
 | .tup xs => .tup (Zks b k xs)
def Zks (b : Nat) (k : Blk) : List AVal → List AVal
 | [] => []
 | x :: r => AVal.frz b k x :: Zks b k r
end
def Zyx (b : Nat) (k : Blk) (e : Env) : Env := fun t => (e t).frz b k
def Heap.frzH (H : Heap) (b : Nat) (k : Blk) : Heap := (H.set b { k with live := false }).map fun q => { q with rows := q.rows.map (frzs b k) }
def Z2w : Cell → Option Cell
 | .zer sz => some (.lst sz [])
 | .emp sz => some (.lst sz [])
 | .slc _ _ 0 sz _ => some (.lst sz [])
 | _ => none
def frzE (n : Nat) (E : List Blk) (v : AVal) : Option AVal :=
 match E with
 | [] => match v with | .c x => (Z2w x).map .c | _ => none
 | [k] => if (k.own && k.live && Zp (v.frz n k)) = true then some (v.frz n k) else none
 | _ => none
def Zk (H : Heap) : Cell → Option Cell
 | .slc b s n sz _ => if n = 0 then some (.lst sz []) else match H[b]? with
  | some k => if k.live ∧ s + n ≤ k.rows.length ∧ closedR ((k.rows.drop s).take n) then some (.lst sz ((k.rows.drop s).take n)) else none
  | none => none
 | .ptr b i f => match H.row b i with
  | some r => if Zb r then some (.fp r f) else none
  | none => none
 | c => if Zc c then some c else none
def Zh (H : Heap) : List Cell → Option (List Cell)
 | [] => some []
 | x :: r => match Zk H x,Zh H r with | some y,some s => some (y :: s) | _,_ => none
def Ze (H : Heap) : Cell → Option Cell
 | .fn f cs => match Zh H cs with | some ds => some (.fn f ds) | none => none
 | .iface t a cs => match Zh H cs with | some ds => some (.iface t a ds) | none => none
 | c => Zk H c
def Zg (H : Heap) : List Cell → Option (List Cell)
 | [] => some []
 | x :: r => match Ze H x,Zg H r with | some y,some s => some (y :: s) | _,_ => none
mutual
def Zf (H : Heap) : AVal → Option AVal
 | .c x => match Ze H x with | some y => some (.c y) | none => none
 | .agg xs => match Zg H xs with | some ys => some (.agg ys) | none => none
 | .tup xs => match Zd H xs with | some ys => some (.tup ys) | none => none
def Zd (H : Heap) : List AVal → Option (List AVal)
 | [] => some []
 | x :: r => match Zf H x,Zd H r with | some y,some s => some (y :: s) | _,_ => none
end
inductive AExit where
 | normal
 | exit (id : Nat)
 | ret
def AVal.blk : AVal → Option Nat
 | .c (.slc b _ _ _ _) => some b
 | .c (.ptr b _ _) => some b
 | _ => none
def mkF (H : Heap) (r : Option (AVal × Heap)) : Option AVal :=
 match r with
 | some (v,H1) => frzE H.length (H1.drop H.length) v
 | none => none
def evF (o : AOp) (e : Env) (H : Heap) : Option AVal :=
 match o with
 | .new _ | .box _ | .lit _ _ _ _ | .appZ _ _ _ _ | .make _ _ _ _ _ | .s2b _ => mkF H (ev o e H)
 | .app n b x y => mkF H (ev (.appZ n b x y) e H)
 | _ => none
def goes (g : Option (Nat × Bool)) (e : Env) : Bool :=
 match g with
 | none => true
 | some (t,b) => match e t with | .c (.bool b') => b' == b | _ => false
inductive J where
 | ops (d : Bool) (l : List AInstr) (e : Env) (H : Heap) (e' : Env) (H' : Heap)
 | code (c : ACode) (e : Env) (H : Heap) (x : AExit) (e' : Env) (H' : Heap)
 | call (f : Nat) (args : List AVal) (H : Heap) (v : AVal) (H' : Heap)
def Zc5 (args : List AVal) : Env := fun t => args.getD t Zft
def Zeo (e : Env) (H : Heap) : ARes → Option AVal
 | .tmp t => some (e t)
 | .cell a agg n => match ev (.load agg n (.t a)) e H with | some (v,_) => some v | none => none
def Zg4 (e : Env) (H : Heap) (rs : List ARes) : Option AVal :=
 match rs with
 | [r] => Zeo e H r
 | rs => match rs.mapM (Zeo e H) with | some vs => some (.tup vs) | none => none
structure Prog where
 fn : Nat → Option AFun
 prim : Nat → List AVal → Heap → AVal → Heap → Prop
inductive Ev (G : Prog) : J → Prop where
 | nil {d e H} : Ev G (.ops d [] e H e H)
 | op {d i l e H v H1 e' H'} : goes i.guard e = true → i.fz = false → ev i.op e H = some (v,H1) → Ev G (.ops d l (updO e i.dst v) H1 e' H') → Ev G (.ops d (i :: l) e H e' H')
 | opF {d i l e H v e' H'} : goes i.guard e = true → i.fz = true → evF i.op e H = some v → Ev G (.ops d l (updO e i.dst v) H e' H') → Ev G (.ops d (i :: l) e H e' H')
 | off {d i l e H e' H'} : i.op.isBad = false → goes i.guard e = false → Ev G (.ops d l (updO e i.dst Zft) H e' H') → Ev G (.ops d (i :: l) e H e' H')
 | opCall {d i l e H v H1 e' H' fo args f caps} : goes i.guard e = true → i.op = .call fo args → Opd.ev e fo = .c (.fn f caps) →
   Ev G (.call f (args.map (Opd.ev e) ++ caps.map .c) H v H1) → (d = true → i.op.isT = false → H <+: H1) →
   Ev G (.ops d l (updO e i.dst v) H1 e' H') → Ev G (.ops d (i :: l) e H e' H')
 | fz {t c e H x e' H' b k} : (e t).blk = some b → H[b]? = some k → k.own = true → k.live = true → Ev G (.code c (Zyx b k e) (H.kill b) x e' H') → Ev G (.code (.fz t c) e H x e' H')
 | fzH {t c e H x e' H' b k} : (e t).blk = some b → H[b]? = some k → k.own = true → k.live = true → Ev G (.code c (Zyx b k e) (H.frzH b k) x e' H') → Ev G (.code (.fz t c) e H x e' H')
 | fz0 {t c e H x e' H' y z} : e t = .c y → (y = z ∨ ∃ sz,z = .lst sz [] ∧ (y = .nilS ∨ y = .zer sz)) → Ev G (.code c (upd e t (.c z)) H x e' H') → Ev G (.code (.fz t c) e H x e' H')
 | skip {e H} : Ev G (.code .skip e H .normal e H)
 | region {l d e H e' H'} : Ev G (.ops d l e H e' H') → Ev G (.code (.region l d) e H .normal e' H')
 | seq {a b e H e1 H1 x e' H'} : Ev G (.code a e H .normal e1 H1) → Ev G (.code b e1 H1 x e' H') → Ev G (.code (.seq a b) e H x e' H')
 | seqOut {a b e H x e' H'} : x ≠ .normal → Ev G (.code a e H x e' H') → Ev G (.code (.seq a b) e H x e' H')
 | cond {c a b t e H x e' H'} : Opd.ev e c = .c (.bool t) → Ev G (.code (if t then a else b) e H x e' H') → Ev G (.code (.cond c a b) e H x e' H')
 | block {id a e H x e' H'} : Ev G (.code a e H x e' H') → x ≠ .exit id → Ev G (.code (.block id a) e H x e' H')
 | blockExit {id a e H e' H'} : Ev G (.code a e H (.exit id) e' H') → Ev G (.code (.block id a) e H .normal e' H')
 | loop {a e H e1 H1 x e' H'} : Ev G (.code a e H .normal e1 H1) → Ev G (.code (.loop a) e1 H1 x e' H') → Ev G (.code (.loop a) e H x e' H')
 | loopOut {a e H x e' H'} : x ≠ .normal → Ev G (.code a e H x e' H') → Ev G (.code (.loop a) e H x e' H')
 | exit {id e H} : Ev G (.code (.exit id) e H (.exit id) e H)
 | ret {e H} : Ev G (.code .ret e H .ret e H)
 | call {f fn args H x e' H' v} : G.fn f = some fn → Ev G (.code fn.body (Zc5 args) H x e' H') → (x = .normal ∨ x = .ret) → Zg4 e' H' fn.res = some v →
   Ev G (.call f args H v H')
 | prim {f args H v H'} : G.prim f args H v H' → Ev G (.call f args H v H')
def Zp9 : Value → Option Cell
  | .int k n => some (.int k n)
  | .bool b => some (.bool b)
  | .string s => some (.str s)
  | .nilIface => some .nilI
  | .nilFunc => some .nilF
  | .slice none 0 0 => some .nilS
  | .pointer none => some .nilP
  | _ => none
def cellsOf : List Value → Option (List Cell)
  | [] => some []
  | v :: r => match Zp9 v,cellsOf r with | some c,some cs => some (c :: cs) | _,_ => none
def Zsf : Value → Option AVal
  | .agg cs => match cellsOf cs.toList with | some l => some (.agg l) | none => none
  | v => match Zp9 v with | some c => some (.c c) | none => none
def Zx : Operand → Option Opd
  | .tmp t => some (.t t)
  | .const v => match Zsf v with | some a => some (.k a) | none => none
  | .func f => some (.f f)
  | .global _ => none
def Ze1 : List Operand → Option (List Opd)
  | [] => some []
  | x :: r => match Zx x,Ze1 r with | some y,some ys => some (y :: ys) | _,_ => none
def cmpO : Option Operand → Option (Option Opd)
  | none => some none
  | some x => match Zx x with | some y => some (some y) | none => none
def Zdk (P : Program) (t : TypeId) : Option Bool :=
  match P.underlying t with
  | some (.struct _) => some true
  | some (.array _ _) => some true
  | some _ => some false
  | none => none
def Zbk (P : Program) (t : TypeId) : Option Nat := (P.info? t).map (·.size)
def Zim (P : Program) (t : TypeId) : Option Nat := (P.info? t).map (·.bytes)
def Zdv (P : Program) (t : TypeId) : Option (List Cell) :=
  match (P.info? t).bind (·.zero) with
  | some v => cellsOf v.cells.toList
  | none => none
def Zgs (P : Program) : Nat → TypeId → Option (List Nat)
  | 0,_ => none
  | d + 1,t =>
    match P.underlying t with
    | some .bool => some [2]
    | some (.int _) => some [0]
    | some .string => some [1]
    | some (.struct fs) =>
      if P.stoodInHeld t then none else
      fs.toList.foldl (fun acc f => match acc with
        | some l => if f.name ≠ "_" ∧ f.offset = l.length then
            match Zgs P d f.type with
            | some r => if Zbk P f.type = some r.length then some (l ++ r) else none
            | none => none
          else none
        | none => none) (some [])
    | _ => none
def Zp0 (P : Program) (fs : Array Field) : List (Nat × Operand) → Option (List (Nat × Nat × Opd))
  | [] => some []
  | (i,x) :: r =>
    match fs[i]?,Zx x,Zp0 P fs r with
    | some f,some y,some ys => match Zbk P f.type with | some n => some ((f.offset,n,y) :: ys) | none => none
    | _,_,_ => none
def Zqo (n : Nat) : List (Nat × Operand) → Option (List (Nat × Nat × Opd))
  | [] => some []
  | (i,x) :: r =>
    match Zx x,Zqo n r with
    | some y,some ys => some ((i * n,n,y) :: ys)
    | _,_ => none
def Zql : List (Nat × Operand) → Option (List (Nat × Opd))
  | [] => some []
  | (i,x) :: r => match Zx x,Zql r with | some y,some ys => some ((i,y) :: ys) | _,_ => none
def Zku (e : TypeId) : TypeDesc → Bool
  | .slice e' => e' == e
  | .string => true
  | _ => false
def Zus (P : Program) (c : Call) : Option AOp :=
  match c.callee with
  | .value f => match Zx f,Ze1 c.args.toList with | some f,some xs => some (.call f xs) | _,_ => none
  | .invoke _ _ => none
  | .builtin .len => match c.argTypes.toList,c.args.toList with
    | [t],[x] => match P.underlying t,Zx x with
      | some .string,some y => some (.lenS y)
      | some (.slice _),some y => some (.len y)
      | _,_ => none
    | _,_ => none
  | .builtin .cap => match c.argTypes.toList,c.args.toList with
    | [t],[x] => match P.underlying t,Zx x with
      | some (.slice _),some y => some (.cap y)
      | _,_ => none
    | _,_ => none
  | .builtin .append => match c.argTypes.toList,c.args.toList with
    | [t,u],[x,y] => match P.underlying t,P.underlying u,Zx x,Zx y with
      | some (.slice e),some d,some x,some y => match Zbk P e,Zim P e,Zdv P e with
          | some n,some b,some z => if 0 < n ∧ 0 < b ∧ z.length = n then (if Zku e d = true then some (.app n b x y) else match d with | .int _ => some (.appM n b z x y) | _ => none) else none
          | _,_,_ => none
      | _,_,_,_ => none
    | _,_ => none
  | .builtin .copy => match c.argTypes.toList,c.args.toList with
    | [t,_],[x,y] => match P.underlying t,Zx x,Zx y with
      | some (.slice e),some x,some y => match Zbk P e with
          | some n => if 0 < n then some (.cpy n x y) else none
          | none => none
      | _,_,_ => none
    | _,_ => none
  | .builtin .clear => match c.argTypes.toList,c.args.toList with
    | [t],[x] => match P.underlying t,Zx x with
      | some (.slice e),some x => match Zbk P e,Zdv P e with
          | some n,some z => if 0 < n ∧ z.length = n then some (.clr n z x) else none
          | _,_ => none
      | _,_ => none
    | _,_ => none
  | .builtin .max => match Ze1 c.args.toList with | some xs => some (.max xs) | none => none
  | .builtin .min => match Ze1 c.args.toList with | some xs => some (.min xs) | none => none
  | _ => none
def Zgn : Operand → Bool
  | .const (.slice none 0 0) => true
  | .const .nilIface => true
  | .const (.pointer none) => true
  | .const .nilFunc => true
  | _ => false
def Zyg (P : Program) (op : BinOp) (t : TypeId) (x y : Operand) : Option AOp :=
  match Zx x,Zx y with
  | some a,some b =>
    match P.underlying t with
    | some (.int _) => some (.bin op a b)
    | some .string => some (.bin op a b)
    | some .bool => match op with
      | .eql => some (.binB false a b)
      | .neq => some (.binB true a b)
      | _ => none
    | some (.struct _) => match op,Zgs P 8 t with
      | .eql,some ks => if P.eqGuardType P.depth t then none else some (.eqS false ks a b)
      | .neq,some ks => if P.eqGuardType P.depth t then none else some (.eqS true ks a b)
      | _,_ => none
    | some (.slice _) => if Zgn x || Zgn y then match op with
        | .eql => some (.eqNil true false a b)
        | .neq => some (.eqNil true true a b)
        | _ => none
      else none
    | some (.interface _) => if Zgn x || Zgn y then match op with
        | .eql => some (.eqNil false false a b)
        | .neq => some (.eqNil false true a b)
        | _ => none
      else none
    | _ => none
  | _,_ => none
def Zb6 (P : Program) (o : Oper) : Option AOp :=
  match o.op with
  | .move x => match Zx x with | some y => some (.mv y) | none => none
  | .assign x => match Zx x with | some y => some (.mv y) | none => none
  | .pick c x y => match Zx c,Zx x,Zx y with | some c,some x,some y => some (.pick c x y) | _,_,_ => none
  | .alloc t => match Zdv P t with | some z => some (.new z) | none => none
  | .box _ x => match Zx x with | some y => some (.box y) | none => none
  | .build t parts => match P.underlying t,Zdv P t with
    | some (.struct fs),some z => match Zp0 P fs parts.toList with
      | some ps => if fs.all (fun f => (Zbk P f.type).isSome) = true ∧ ps.all (fun p => decide (0 < p.2.1)) = true then some (.build z ps) else none
      | none => none
    | some (.array _ q),some z => match Zbk P q with
      | some n => match Zqo n parts.toList with
        | some ps => if 0 < n then some (.build z ps) else none
        | none => none
      | none => none
    | _,_ => none
  | .buildSlice t len parts => match P.underlying t with
    | some (.slice e) => match Zbk P e,Zdv P e,Zql parts.toList with
      | some n,some z,some ps => if len * n ≤ 16777216 ∧ z.length = n ∧ 0 < n then some (.lit n z len ps) else none
      | _,_,_ => none
    | _ => none
  | .load t a => match Zdk P t,Zbk P t,Zx a with
    | some g,some n,some a => if g ∨ n = 1 then some (.load g n a) else none
    | _,_,_ => none
  | .store t a v => match Zbk P t,Zx a,Zx v with | some n,some a,some v => some (.store n a v) | _,_,_ => none
  | .nilCheck x => match Zx x with | some y => some (.chk y) | none => none
  | .binOp op t x y _ => Zyg P op t x y
  | .unOp op _ x => match Zx x with | some y => some (.un op y) | none => none
  | .convert s d x => match P.underlying s,P.underlying d,Zx x with
    | some (.int _),some (.int k),some y => some (.conv k y)
    | some .string,some .string,some y => some (.strId y)
    | some (.slice e),some .string,some y => match P.underlying e with
      | some (.int .u8) => if Zbk P e = some 1 then some (.b2s y) else none
      | _ => none
    | some .string,some (.slice e),some y => match P.underlying e with
      | some (.int .u8) => if Zbk P e = some 1 then some (.s2b y) else none
      | _ => none
    | _,_,_ => none
  | .makeInterface t x => match P.underlying t,Zx x with
    | some (.interface _),_ => none
    | some _,some y => some (.mkI t y)
    | _,_ => none
  | .makeFunc (.func f) first caps => if first.size = 0 then match Ze1 caps.toList with | some cs => some (.mkF f cs) | none => none else none
  | .makeSlice t l c => match P.underlying t with
    | some (.slice e) => match Zbk P e,Zim P e,Zdv P e,Zx l,Zx c with
      | some n,some b,some z,some l,some c => if z.length = n ∧ 0 < n then some (.make n b z l c) else none
      | _,_,_,_,_ => none
    | _ => none
  | .slice t x lo hi mx => match P.underlying t,Zx x,cmpO lo,cmpO hi,cmpO mx with
    | some .string,some x,some lo,some hi,some none => some (.slS x lo hi)
    | some (.array len q),some x,some none,some none,some none => match Zbk P q with | some n => if 0 < n then some (.slA len n x) else none | none => none
    | some (.slice e),some x,some lo,some hi,some mx => match Zbk P e with | some n => if 0 < n ∧ (mx.isSome → hi.isSome) then some (.sl n x lo hi mx) else none | none => none
    | _,_,_,_,_ => none
  | .fieldAddr s x i => match P.underlying s,Zx x with
    | some (.struct fs),some x => match fs[i]? with
      | some f => match Zbk P f.type with | some n => if 0 < n then some (.fld f.offset x) else none | none => none
      | none => none
    | _,_ => none
  | .field s x i => match P.underlying s,Zx x with
    | some (.struct fs),some x => match fs[i]? with
      | some f => match Zdk P f.type,Zbk P f.type with | some g,some n => if g ∨ n = 1 then some (.fldV g f.offset n x) else none | _,_ => none
      | none => none
    | _,_ => none
  | .indexAddr t x i => match P.underlying t,Zx x,Zx i with
    | some (.slice e),some x,some i => match Zbk P e with | some n => if 0 < n then some (.ix n x i) else none | none => none
    | some (.array len e),some x,some i => match Zbk P e with | some n => if 0 < n then some (.ixA len n x i) else none | none => none
    | _,_,_ => none
  | .index t x i => match P.underlying t,Zx x,Zx i with
    | some .string,some x,some i => some (.ixS x i)
    | some (.array len e),some x,some i => match Zdk P e,Zbk P e with | some g,some n => if g ∨ n = 1 then some (.ixV g len n x i) else none | _,_ => none
    | _,_,_ => none
  | .extract x i => match Zx x with | some y => some (.ext y i) | none => none
  | .call c => Zus P c
  | _ => none
def Zfy (P : Program) (o : Oper) : AOp := (Zb6 P o).getD .bad
def Znu (ops : Array Oper) (g : Option (Nat × Bool)) : Option (Option (Nat × Bool)) :=
  match g with
  | none => some none
  | some (j,b) => match (ops[j]?).bind (·.dst) with | some t => some (some (t,b)) | none => none
def Zmb (N : Nat) (d : Option Nat) : Bool := match d with | some d => decide (d < N) | none => true
def Zup (acc : List Nat) (o : Oper) : Nat :=
  o.after.toList.foldl (fun s e => if Region.binds .any e then s ||| (2 ^ e.on ||| acc.getD e.on 0) else s) 0
def ancs (ops : List Oper) : List Nat := ops.foldl (fun acc o => acc ++ [Zup acc o]) []
def Z3y (ops : Array Oper) (o : Option Oper) : Bool := match o with
  | some q => (match q.op with
    | .store _ (.tmp t) _ => ops.any (fun r => r.dst == some t && (match r.op with | .alloc _ => true | _ => false))
    | _ => false)
  | none => false
def Zbhf (o : Option Oper) : Bool := match o with | some q => (match q.op with | .store _ _ _ => true | _ => false) | none => false
def Zbai (o : Option Oper) : Bool := match o with | some q => (match q.op with | .load _ _ => true | _ => false) | none => false
def Zbk8 (ops : Array Oper) : Bool :=
  let an := ancs ops.toList
  (List.range ops.size).any fun j => Zbhf ops[j]? && (List.range j).any fun i => Zbai ops[i]? && !(an.getD j 0).testBit i
def laxB (ops : Array Oper) : Bool := (Z3y ops ops[ops.size - 1]? && Z3y ops ops[ops.size - 2]?) || Zbk8 ops
def Zbh9 (q : Oper) : Bool := match q.op with | .call c => (match c.callee with | .value _ => true | _ => false) | _ => false
def Zbkf (ops : Array Oper) (t : Nat) : Bool := ops.any fun q => q.dst == some t && (match q.op with | .buildSlice _ _ _ => true | _ => false)
def Zbck (ops : Array Oper) (d : Option Nat) : Bool := match d with
  | some t => ops.any fun q => match q.op with
    | .call c => (match c.callee,c.args.toList with
      | .builtin .append,[.tmp t',.tmp u] => t' == t && !Zbkf ops u
      | _,_ => false)
    | _ => false
  | none => false
def Zbkz (ops : Array Oper) (j : Nat) : Bool :=
  let an := ancs ops.toList
  (List.range ops.size).any fun i => i != j && Zbai ops[i]? && !(an.getD j 0).testBit i && !(an.getD i 0).testBit j
def anyT (ops : Array Oper) : Bool := (List.range ops.size).any fun j => match ops[j]? with | some q => Zbh9 q && Zbck ops q.dst && Zbkz ops j | none => false
def upOp (ops : Array Oper) (d : Option Nat) : AOp → AOp
  | .load g n a => if laxB ops || anyT ops then .loadF g n a else .load g n a
  | .call (.f n) xs => if anyT ops && Zbck ops d then .call (.k (.c (.fn n []))) xs else .call (.f n) xs
  | .app n b (.t t) y => if ops.any (fun q => q.dst == some t && (match q.op with | .buildSlice _ 0 _ => true | _ => false)) then .appZ n b (.t t) y else .app n b (.t t) y
  | .app n b (.k (.c .nilS)) y => .appZ n b (.k (.c .nilS)) y
  | o => o
def Z6 (P : Program) (N : Nat) (ops : Array Oper) (o : Oper) : AInstr :=
  match Znu ops o.guard with
  | some g => if Zmb N o.dst then { dst := o.dst,op := upOp ops o.dst (Zfy P o),guard := g } else { dst := o.dst,op := .bad,guard := none }
  | none => { dst := o.dst,op := .bad,guard := none }
inductive Cls where
  | quiet | reads | turns
  deriving DecidableEq
def AOp.cls : AOp → Cls
  | .call (.k _) _ => .turns
  | .new _ | .box _ | .lit _ _ _ _ | .appZ _ _ _ _ | .appM _ _ _ (.k (.c .nilS)) _ | .load _ _ _ | .b2s _ | .s2b _ | .make _ _ _ _ _ | .call _ _ => .reads
  | .store _ _ _ | .app _ _ _ _ | .appM _ _ _ _ _ | .cpy _ _ _ | .clr _ _ _ | .bad => .turns
  | _ => .quiet
def Opd.tmps : Opd → List Nat
  | .t n => [n]
  | _ => []
def Zf5 : Option Opd → List Nat
  | some x => x.tmps
  | none => []
def AOp.reads : AOp → List Nat
  | .mv x | .box x | .load _ _ x | .loadF _ _ x | .chk x | .un _ x | .conv _ x | .strId x | .b2s x | .s2b x | .mkI _ x | .clr _ _ x | .fld _ x | .fldV _ _ _ x | .ext x _ | .len x | .lenS x | .cap x => x.tmps
  | .pick c x y => c.tmps ++ x.tmps ++ y.tmps
  | .new _ | .bad => []
  | .build _ ps => ps.flatMap fun p => p.2.2.tmps
  | .lit _ _ _ ps => ps.flatMap fun p => p.2.tmps
  | .store _ x y | .bin _ x y | .binB _ x y | .eqNil _ _ x y | .eqS _ _ x y | .make _ _ _ x y | .ix _ x y | .ixA _ _ x y | .ixS x y | .ixV _ _ _ x y | .cpy _ x y | .app _ _ x y | .appZ _ _ x y | .appM _ _ _ x y => x.tmps ++ y.tmps
  | .mkF _ xs | .max xs | .min xs => xs.flatMap Opd.tmps
  | .sl _ x a b c => x.tmps ++ Zf5 a ++ Zf5 b ++ Zf5 c
  | .slS x a b => x.tmps ++ Zf5 a ++ Zf5 b
  | .slA _ _ x => x.tmps
  | .call f xs => f.tmps ++ xs.flatMap Opd.tmps
theorem Z7t (ops : Array Oper) (d : Option Nat) (o : AOp) : (upOp ops d o).reads = o.reads := by
  unfold upOp
  split
  · split <;> rfl
  · split <;> rfl
  · split <;> rfl
  · rfl
  · rfl
theorem Zbgr {ops : Array Oper} {d : Option Nat} {o : AOp} {e : Env} {H : Heap} {r : AVal × Heap} (h : ev (upOp ops d o) e H = some r) : ev o e H = some r := by
  unfold upOp at h
  split at h
  · split at h
    · simp only [ev] at h ⊢
      split at h <;> first
        | (cases h; done)
        | (rename_i h1; simp only [h1]; exact h)
    · exact h
  · split at h <;> (simp only [ev] at h; cases h)
  · split at h
    · simp only [ev] at h ⊢
      split at h <;> first
        | (cases h; done)
        | (rename_i h1 h2; simp only [h1,h2]; exact h)
    · exact h
  · simp only [ev] at h ⊢
    split at h <;> first
      | (cases h; done)
      | (rename_i h1 h2; simp only [h1,h2]; exact h)
  · exact h
theorem Zbcz {ops : Array Oper} {d : Option Nat} {o : AOp} {f : Opd} {a : List Opd} (h : upOp ops d o = .call f a) : ∃ f',o = .call f' a ∧ (∀ e,Opd.ev e f' = Opd.ev e f) := by
  unfold upOp at h
  split at h
  · split at h <;> cases h
  · split at h
    · cases h
      exact ⟨_,rfl,fun _ => rfl⟩
    · cases h
      exact ⟨_,rfl,fun _ => rfl⟩
  · split at h <;> cases h
  · cases h
  · exact ⟨f,h,fun _ => rfl⟩
def AOp.isApp : AOp → Bool
  | .app _ _ _ _ => true
  | _ => false
def AOp.isLd : AOp → Bool
  | .load _ _ _ => true
  | _ => false
def AInstr.reads (i : AInstr) : List Nat := i.op.reads ++ (match i.guard with | some (t,_) => [t] | none => [])
def Zju (x y : AInstr) : Bool :=
  (match x.dst with | some d => !(y.reads.contains d) && y.dst != some d | none => true) &&
  (match y.dst with | some d => !(x.reads.contains d) | none => true) &&
  (match x.op.cls,y.op.cls with
   | .turns,.reads => x.op.isApp && y.op.isLd
   | .turns,.turns | .reads,.turns => false
   | _,_ => true)
def Ztd (ops : Array Oper) (l : List AInstr) : Bool :=
  let an := ancs ops.toList
  (List.range l.length).all (fun j =>
    (match ops[j]? with | some o => o.after.toList.all (fun e => !Region.binds .any e || e.on < j) | none => false) &&
    (List.range j).all (fun i =>
      (match l[i]?,l[j]? with
       | some x,some y => Zju x y || ((an.getD j 0).testBit i && (match x.dst with | some d => y.dst != some d | none => true))
       | _,_ => false)))
def Zfm (P : Program) (N : Nat) (ops : Array Oper) (draw : Bool) : ACode :=
  let l := ops.toList.map (Z6 P N ops)
  if draw then (if Ztd ops l then .region l true else .bad) else .region l false
def Zbz (P : Program) (N : Nat) : Code → ACode
  | .skip => .skip
  | .region _ ops draw => Zfm P N ops draw
  | .seq a b => .seq (Zbz P N a) (Zbz P N b)
  | .cond c a b => match Zx c with | some c => .cond c (Zbz P N a) (Zbz P N b) | none => .bad
  | .block id a => .block id (Zbz P N a)
  | .loop a => .loop (Zbz P N a)
  | .exit id => .exit id
  | .ret => .ret
  | _ => .bad
def Zip (P : Program) : List ResultVar → Option (List ARes)
  | [] => some []
  | .tmp t :: r => match Zip P r with | some rs => some (.tmp t :: rs) | none => none
  | .cell a t :: r => match Zdk P t,Zbk P t,Zip P r with
    | some g,some n,some rs => if g ∨ n = 1 then some (.cell a g n :: rs) else none
    | _,_,_ => none
def Zm (P : Program) (f : Nat) : Option AFun :=
  match P.funcs[f]? with
  | some fn => match fn.body,Zip P fn.results.toList with
    | some c,some rs => if fn.name == "runtime.NumGoroutine" then none else some { res := rs,body := Zbz P fn.ntmps c }
    | _,_ => none
  | none => none
end Go.Proofs.YticmfblfghdkbaaGreatDoor.Eng
