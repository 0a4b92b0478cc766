/- The engine, part 2: from the program's code to slim code. No statement of the seat is proved here. -/
import Derived.Test.YtfbkolkkpkonfaaEng1
namespace Go.Proofs.Ytfbkolkkpkonfaa.Eng
open Go

def cellOf : Value → Option Cell
  | .int k n => some (.int k n)
  | .bool b => some (.bool b)
  | .string s => some (.str s)
  | .nilIface => some .nilI
  | .nilFunc => some .nilF
  | .slice none 0 0 => some .nilS
  | .pointer none => some .nilP
  | _ => none

def cellsOf : List Value → Option (List Cell)
  | [] => some []
  | v :: r => match cellOf v, cellsOf r with | some c, some cs => some (c :: cs) | _, _ => none

def avalOf : Value → Option AVal
  | .agg cs => match cellsOf cs.toList with | some l => some (.agg l) | none => none
  | v => match cellOf v with | some c => some (.c c) | none => none

def cmpOpd : Operand → Option Opd
  | .tmp t => some (.t t)
  | .const v => match avalOf v with | some a => some (.k a) | none => none
  | .func f => some (.f f)
  | .global _ => none

def cmpOpds : List Operand → Option (List Opd)
  | [] => some []
  | x :: r => match cmpOpd x, cmpOpds r with | some y, some ys => some (y :: ys) | _, _ => none

def cmpO : Option Operand → Option (Option Opd)
  | none => some none
  | some x => match cmpOpd x with | some y => some (some y) | none => none

def isAggT (P : Program) (t : TypeId) : Option Bool :=
  match P.underlying t with
  | some (.struct _) => some true
  | some (.array _ _) => some true
  | some _ => some false
  | none => none

def sizeT (P : Program) (t : TypeId) : Option Nat := (P.info? t).map (·.size)
def bytesT (P : Program) (t : TypeId) : Option Nat := (P.info? t).map (·.bytes)
def zeroT (P : Program) (t : TypeId) : Option (List Cell) :=
  match (P.info? t).bind (·.zero) with
  | some v => cellsOf v.cells.toList
  | none => none

/-- A struct type of plain leaves: of each leaf its kind (0: a whole number, 1: a text, 2: a bool). -/
def leaves (P : Program) : Nat → TypeId → Option (List Nat)
  | 0, _ => none
  | d + 1, t =>
    match P.underlying t with
    | some .bool => some [2]
    | some (.int _) => some [0]
    | some .string => some [1]
    | some (.struct fs) =>
      if P.stoodInHeld t then none else
      fs.toList.foldl (fun acc f => match acc with
        | some l => if f.name ≠ "_" ∧ f.offset = l.length then
            match leaves P d f.type with
            | some r => if sizeT P f.type = some r.length then some (l ++ r) else none
            | none => none
          else none
        | none => none) (some [])
    | _ => none

def partsB (P : Program) (fs : Array Field) : List (Nat × Operand) → Option (List (Nat × Nat × Opd))
  | [] => some []
  | (i, x) :: r =>
    match fs[i]?, cmpOpd x, partsB P fs r with
    | some f, some y, some ys => match sizeT P f.type with | some n => some ((f.offset, n, y) :: ys) | none => none
    | _, _, _ => none

def partsL : List (Nat × Operand) → Option (List (Nat × Opd))
  | [] => some []
  | (i, x) :: r => match cmpOpd x, partsL r with | some y, some ys => some ((i, y) :: ys) | _, _ => none

/-- What an append may take its elements from: a slice of the same elements, a text. -/
def srcOk (e : TypeId) : TypeDesc → Bool
  | .slice e' => e' == e
  | .string => true
  | _ => false

def cmpCall (P : Program) (c : Call) : Option AOp :=
  match c.callee with
  | .value f => match cmpOpd f, cmpOpds c.args.toList with | some f, some xs => some (.call f xs) | _, _ => none
  | .invoke _ _ => none
  | .builtin .len => match c.argTypes.toList, c.args.toList with
    | [t], [x] => match P.underlying t, cmpOpd x with
      | some .string, some y => some (.lenS y)
      | some (.slice _), some y => some (.len y)
      | _, _ => none
    | _, _ => none
  | .builtin .cap => match c.argTypes.toList, c.args.toList with
    | [t], [x] => match P.underlying t, cmpOpd x with
      | some (.slice _), some y => some (.cap y)
      | _, _ => none
    | _, _ => none
  | .builtin .append => match c.argTypes.toList, c.args.toList with
    | [t, u], [x, y] => match P.underlying t, P.underlying u, cmpOpd x, cmpOpd y with
      | some (.slice e), some d, some x, some y => match sizeT P e, bytesT P e, zeroT P e with
          | some n, some b, some z => if 0 < n ∧ 0 < b ∧ z.length = n then (if srcOk e d = true then some (.app n b x y) else match d with | .int _ => some (.appM n b z x y) | _ => none) else none
          | _, _, _ => none
      | _, _, _, _ => none
    | _, _ => none
  | .builtin .max => match cmpOpds c.args.toList with | some xs => some (.max xs) | none => none
  | .builtin .min => match cmpOpds c.args.toList with | some xs => some (.min xs) | none => none
  | _ => none

def nilConst : Operand → Bool
  | .const (.slice none 0 0) => true
  | .const .nilIface => true
  | .const (.pointer none) => true
  | .const .nilFunc => true
  | _ => false

def cmpBin (P : Program) (op : BinOp) (t : TypeId) (x y : Operand) : Option AOp :=
  match cmpOpd x, cmpOpd y with
  | some a, some b =>
    match P.underlying t with
    | some (.int _) => some (.bin op a b)
    | some .string => some (.bin op a b)
    | some .bool => match op with
      | .eql => some (.binB false a b)
      | .neq => some (.binB true a b)
      | _ => none
    | some (.struct _) => match op, leaves P 8 t with
      | .eql, some ks => if P.eqGuardType P.depth t then none else some (.eqS false ks a b)
      | .neq, some ks => if P.eqGuardType P.depth t then none else some (.eqS true ks a b)
      | _, _ => none
    | some (.slice _) => if nilConst x || nilConst y then match op with
        | .eql => some (.eqNil true false a b)
        | .neq => some (.eqNil true true a b)
        | _ => none
      else none
    | some (.interface _) => if nilConst x || nilConst y then match op with
        | .eql => some (.eqNil false false a b)
        | .neq => some (.eqNil false true a b)
        | _ => none
      else none
    | _ => none
  | _, _ => none

def cmpOp' (P : Program) (o : Oper) : Option AOp :=
  match o.op with
  | .move x => match cmpOpd x with | some y => some (.mv y) | none => none
  | .assign x => match cmpOpd x with | some y => some (.mv y) | none => none
  | .pick c x y => match cmpOpd c, cmpOpd x, cmpOpd y with | some c, some x, some y => some (.pick c x y) | _, _, _ => none
  | .alloc t => match zeroT P t with | some z => some (.new z) | none => none
  | .box _ x => match cmpOpd x with | some y => some (.box y) | none => none
  | .build t parts => match P.underlying t, zeroT P t with
    | some (.struct fs), some z => match partsB P fs parts.toList with
      | some ps => if fs.all (fun f => (sizeT P f.type).isSome) = true ∧ ps.all (fun p => decide (0 < p.2.1)) = true then some (.build z ps) else none
      | none => none
    | _, _ => none
  | .buildSlice t len parts => match P.underlying t with
    | some (.slice e) => match sizeT P e, zeroT P e, partsL parts.toList with
      | some n, some z, some ps => if len * n ≤ 16777216 ∧ z.length = n ∧ 0 < n then some (.lit n z len ps) else none
      | _, _, _ => none
    | _ => none
  | .load t a => match isAggT P t, sizeT P t, cmpOpd a with
    | some g, some n, some a => if g ∨ n = 1 then some (.load g n a) else none
    | _, _, _ => none
  | .store t a v => match sizeT P t, cmpOpd a, cmpOpd v with | some n, some a, some v => some (.store n a v) | _, _, _ => none
  | .nilCheck x => match cmpOpd x with | some y => some (.chk y) | none => none
  | .binOp op t x y _ => cmpBin P op t x y
  | .unOp op _ x => match cmpOpd x with | some y => some (.un op y) | none => none
  | .convert s d x => match P.underlying s, P.underlying d, cmpOpd x with
    | some (.int _), some (.int k), some y => some (.conv k y)
    | some .string, some .string, some y => some (.strId y)
    | some (.slice e), some .string, some y => match P.underlying e with
      | some (.int .u8) => if sizeT P e = some 1 then some (.b2s y) else none
      | _ => none
    | some .string, some (.slice e), some y => match P.underlying e with
      | some (.int .u8) => if sizeT P e = some 1 then some (.s2b y) else none
      | _ => none
    | _, _, _ => none
  | .makeInterface t x => match P.underlying t, cmpOpd x with
    | some (.interface _), _ => none
    | some _, some y => some (.mkI t y)
    | _, _ => none
  | .makeFunc (.func f) first caps => if first.size = 0 then match cmpOpds caps.toList with | some cs => some (.mkF f cs) | none => none else none
  | .makeSlice t l c => match P.underlying t with
    | some (.slice e) => match sizeT P e, bytesT P e, zeroT P e, cmpOpd l, cmpOpd c with
      | some n, some b, some z, some l, some c => if z.length = n ∧ 0 < n then some (.make n b z l c) else none
      | _, _, _, _, _ => none
    | _ => none
  | .slice t x lo hi mx => match P.underlying t, cmpOpd x, cmpO lo, cmpO hi, cmpO mx with
    | some .string, some x, some lo, some hi, some none => some (.slS x lo hi)
    | some (.slice e), some x, some lo, some hi, some mx => match sizeT P e with | some n => if 0 < n ∧ (mx.isSome → hi.isSome) then some (.sl n x lo hi mx) else none | none => none
    | _, _, _, _, _ => none
  | .fieldAddr s x i => match P.underlying s, cmpOpd x with
    | some (.struct fs), some x => match fs[i]? with
      | some f => match sizeT P f.type with | some n => if 0 < n then some (.fld f.offset x) else none | none => none
      | none => none
    | _, _ => none
  | .field s x i => match P.underlying s, cmpOpd x with
    | some (.struct fs), some x => match fs[i]? with
      | some f => match isAggT P f.type, sizeT P f.type with | some g, some n => if g ∨ n = 1 then some (.fldV g f.offset n x) else none | _, _ => none
      | none => none
    | _, _ => none
  | .indexAddr t x i => match P.underlying t, cmpOpd x, cmpOpd i with
    | some (.slice e), some x, some i => match sizeT P e with | some n => if 0 < n then some (.ix n x i) else none | none => none
    | some (.array len e), some x, some i => match sizeT P e with | some n => if 0 < n then some (.ixA len n x i) else none | none => none
    | _, _, _ => none
  | .index t x i => match P.underlying t, cmpOpd x, cmpOpd i with
    | some .string, some x, some i => some (.ixS x i)
    | some (.array len e), some x, some i => match isAggT P e, sizeT P e with | some g, some n => if g ∨ n = 1 then some (.ixV g len n x i) else none | _, _ => none
    | _, _, _ => none
  | .extract x i => match cmpOpd x with | some y => some (.ext y i) | none => none
  | .call c => cmpCall P c
  | _ => none

def cmpOp (P : Program) (o : Oper) : AOp := (cmpOp' P o).getD .bad

def cmpGuard (ops : Array Oper) (g : Option (Nat × Bool)) : Option (Option (Nat × Bool)) :=
  match g with
  | none => some none
  | some (j, b) => match (ops[j]?).bind (·.dst) with | some t => some (some (t, b)) | none => none

def dstOk (N : Nat) (d : Option Nat) : Bool := match d with | some d => decide (d < N) | none => true

/-- A region that ends in two stores into cells that it made: an assignment of two or more. -/
def newStore (ops : Array Oper) (o : Option Oper) : Bool := match o with
  | some q => (match q.op with
    | .store _ (.tmp t) _ => ops.any (fun r => r.dst == some t && (match r.op with | .alloc _ => true | _ => false))
    | _ => false)
  | none => false
def laxB (ops : Array Oper) : Bool := newStore ops ops[ops.size - 1]? && newStore ops ops[ops.size - 2]?

/-- An append onto what has no room: onto nil, or onto an empty literal of the same region. A load in a region of an assignment of two or more: of what nobody writes. -/
def upOp (ops : Array Oper) : AOp → AOp
  | .load g n a => if laxB ops then .loadF g n a else .load g n a
  | .app n b (.t t) y => if ops.any (fun q => q.dst == some t && (match q.op with | .buildSlice _ 0 _ => true | _ => false)) then .appZ n b (.t t) y else .app n b (.t t) y
  | .app n b (.k (.c .nilS)) y => .appZ n b (.k (.c .nilS)) y
  | o => o

/-- An operation whose guard names nothing, or whose place the frame lacks, is shut out. -/
def cmpInstr (P : Program) (N : Nat) (ops : Array Oper) (o : Oper) : AInstr :=
  match cmpGuard ops o.guard with
  | some g => if dstOk N o.dst then { dst := o.dst, op := upOp ops (cmpOp P o), guard := g } else { dst := o.dst, op := .bad, guard := none }
  | none => { dst := o.dst, op := .bad, guard := none }

/-! ### A region that draws its order: what hangs on what -/
inductive Cls where
  | quiet | reads | turns
  deriving DecidableEq

def AOp.cls : AOp → Cls
  | .new _ | .box _ | .lit _ _ _ _ | .appZ _ _ _ _ | .appM _ _ _ _ _ | .load _ _ _ | .b2s _ | .s2b _ | .make _ _ _ _ _ | .call _ _ => .reads
  | .store _ _ _ | .app _ _ _ _ | .bad => .turns
  | _ => .quiet

def Opd.tmps : Opd → List Nat
  | .t n => [n]
  | _ => []

def optTmps : Option Opd → List Nat
  | some x => x.tmps
  | none => []

def AOp.reads : AOp → List Nat
  | .mv x | .box x | .load _ _ x | .loadF _ _ x | .chk x | .un _ x | .conv _ x | .strId x | .b2s x | .s2b x | .mkI _ x | .fld _ x | .fldV _ _ _ x | .ext x _ | .len x | .lenS x | .cap x => x.tmps
  | .pick c x y => c.tmps ++ x.tmps ++ y.tmps
  | .new _ | .bad => []
  | .build _ ps => ps.flatMap fun p => p.2.2.tmps
  | .lit _ _ _ ps => ps.flatMap fun p => p.2.tmps
  | .store _ x y | .bin _ x y | .binB _ x y | .eqNil _ _ x y | .eqS _ _ x y | .make _ _ _ x y | .ix _ x y | .ixA _ _ x y | .ixS x y | .ixV _ _ _ x y | .app _ _ x y | .appZ _ _ x y | .appM _ _ _ x y => x.tmps ++ y.tmps
  | .mkF _ xs | .max xs | .min xs => xs.flatMap Opd.tmps
  | .sl _ x a b c => x.tmps ++ optTmps a ++ optTmps b ++ optTmps c
  | .slS x a b => x.tmps ++ optTmps a ++ optTmps b
  | .call f xs => f.tmps ++ xs.flatMap Opd.tmps

theorem upOp_reads (ops : Array Oper) (o : AOp) : (upOp ops o).reads = o.reads := by
  unfold upOp
  split
  · split <;> rfl
  · split <;> rfl
  · rfl
  · rfl

theorem ev_up {ops : Array Oper} {o : AOp} {e : Env} {H : Heap} {r : AVal × Heap} (h : ev (upOp ops o) e H = some r) : ev o e H = some r := by
  unfold upOp at h
  split at h
  · split at h
    · simp only [ev] at h ⊢
      split at h <;> first
        | (cases h; done)
        | (rename_i h1; simp only [h1]; exact h)
    · exact h
  · split at h
    · simp only [ev] at h ⊢
      split at h <;> first
        | (cases h; done)
        | (rename_i h1 h2; simp only [h1, h2]; exact h)
    · exact h
  · simp only [ev] at h ⊢
    split at h <;> first
      | (cases h; done)
      | (rename_i h1 h2; simp only [h1, h2]; exact h)
  · exact h
theorem upOp_call {ops : Array Oper} {o : AOp} {f : Opd} {a : List Opd} (h : upOp ops o = .call f a) : o = .call f a := by
  unfold upOp at h
  split at h
  · split at h <;> cases h
  · split at h <;> cases h
  · cases h
  · exact h
theorem upOp_bad {ops : Array Oper} {o : AOp} (h : upOp ops o ≠ .bad) : o ≠ .bad := by
  intro e; subst e; exact h rfl

def AInstr.reads (i : AInstr) : List Nat := i.op.reads ++ (match i.guard with | some (t, _) => [t] | none => [])

/-- Of each operation those that stand ahead of it in every order, as bits of a number. -/
def ancOf (acc : List Nat) (o : Oper) : Nat :=
  o.after.toList.foldl (fun s e => if Region.binds .any e then s ||| (2 ^ e.on ||| acc.getD e.on 0) else s) 0
def ancs (ops : List Oper) : List Nat := ops.foldl (fun acc o => acc ++ [ancOf acc o]) []

def pairOk (x y : AInstr) : Bool :=
  (match x.dst with | some d => !(y.reads.contains d) && y.dst != some d | none => true) &&
  (match y.dst with | some d => !(x.reads.contains d) | none => true) &&
  (match x.op.cls, y.op.cls with
   | .turns, .reads | .turns, .turns | .reads, .turns => false
   | _, _ => true)

/-- Two operations that hang on one another are ordered; edges lead back; each place is written once. -/
def drawOk (ops : Array Oper) (l : List AInstr) : Bool :=
  let an := ancs ops.toList
  (List.range l.length).all (fun j =>
    (match ops[j]? with | some o => o.after.toList.all (fun e => !Region.binds .any e || e.on < j) | none => false) &&
    (List.range j).all (fun i =>
      (match l[i]?, l[j]? with
       | some x, some y => pairOk x y || ((an.getD j 0).testBit i && (match x.dst with | some d => y.dst != some d | none => true))
       | _, _ => false)))

def cmpRegion (P : Program) (N : Nat) (ops : Array Oper) (draw : Bool) : ACode :=
  let l := ops.toList.map (cmpInstr P N ops)
  if draw then (if drawOk ops l then .region l true else .bad) else .region l false

def cmpCode (P : Program) (N : Nat) : Code → ACode
  | .skip => .skip
  | .region _ ops draw => cmpRegion P N ops draw
  | .seq a b => .seq (cmpCode P N a) (cmpCode P N b)
  | .cond c a b => match cmpOpd c with | some c => .cond c (cmpCode P N a) (cmpCode P N b) | none => .bad
  | .block id a => .block id (cmpCode P N a)
  | .loop a => .loop (cmpCode P N a)
  | .exit id => .exit id
  | .ret => .ret
  | _ => .bad

def cmpRes (P : Program) : List ResultVar → Option (List ARes)
  | [] => some []
  | .tmp t :: r => match cmpRes P r with | some rs => some (.tmp t :: rs) | none => none
  | .cell a t :: r => match isAggT P t, sizeT P t, cmpRes P r with
    | some g, some n, some rs => if g ∨ n = 1 then some (.cell a g n :: rs) else none
    | _, _, _ => none

def cmpFun (P : Program) (f : Nat) : Option AFun :=
  match P.funcs[f]? with
  | some fn => match fn.body, cmpRes P fn.results.toList with
    | some c, some rs => if fn.name == "runtime.NumGoroutine" then none else some { res := rs, body := cmpCode P fn.ntmps c }
    | _, _ => none
  | none => none

end Go.Proofs.Ytfbkolkkpkonfaa.Eng
