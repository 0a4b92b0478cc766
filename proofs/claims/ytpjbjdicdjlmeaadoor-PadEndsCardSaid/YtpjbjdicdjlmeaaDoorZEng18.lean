/- The engine, part 18: what the operations make of values. No statement of the seat is proved here. -/
import Derived.Test.YtpjbjdicdjlmeaaDoorZEng17
namespace Go.Proofs.YtpjbjdicdjlmeaaDoor.Eng
open Go
set_option linter.unusedVariables false
set_option linter.unusedSimpArgs false

theorem upd_at (e : Env) (d : Nat) (v : AVal) (t : Nat) : upd e d v t = if t = d then v else e t := rfl
theorem updO_some (e : Env) (d : Nat) (v : AVal) : updO e (some d) v = upd e d v := rfl
theorem updO_none (e : Env) (v : AVal) : updO e none v = e := rfl
theorem opd_t (e : Env) (n : Nat) : Opd.ev e (.t n) = e n := rfl
theorem opd_k (e : Env) (v : AVal) : Opd.ev e (.k v) = v := rfl
theorem opd_f (e : Env) (f : Nat) : Opd.ev e (.f f) = .c (.fn f []) := rfl

def gBool (v : AVal) (b : Bool) : Bool := match v with | .c (.bool b') => b' == b | _ => false
theorem goes_at (e : Env) (t : Nat) (b : Bool) : goes (some (t, b)) e = gBool (e t) b := rfl
theorem gBool_true (b : Bool) : gBool (.c (.bool b)) true = b := by cases b <;> rfl
theorem gBool_false (b : Bool) : gBool (.c (.bool b)) false = !b := by cases b <;> rfl

theorem gBool_undef (b : Bool) : gBool undefA b = false := rfl

theorem tt_beq : (true == true) = true := rfl
theorem tf_beq : (true == false) = false := rfl
theorem ft_beq : (false == true) = false := rfl
theorem ff_beq : (false == false) = true := rfl

abbrev VR0 := Option (AVal × Heap)
def vPure (H : Heap) (x : Option Cell) : VR0 := match x with | some c => some (.c c, H) | none => none
theorem vPure_some (H : Heap) (c : Cell) : vPure H (some c) = some (.c c, H) := rfl

/-! ### Arithmetic -/
def vBin (op : BinOp) (x y : AVal) (H : Heap) : VR0 := match x, y with | .c x, .c y => vPure H (evBin op x y) | _, _ => none
section
variable {G : Prog} {p : Post} {k : List Itm} {d : Bool} {e : Env} {H : Heap} {l : List AInstr} {dst : Option Nat} {x y z : Opd}
theorem step_bin {op : BinOp} : stepW G p k d false (.bin op x y) dst l e H = thenW G p k d (vBin op (x.ev e) (y.ev e) H) dst l e := rfl
end
section
variable {i : IntKind} {a b : Int} {H : Heap}
theorem vBin_add : vBin .add (.c (.int i a)) (.c (.int i b)) H = some (.c (.int i (i.wrap (a + b))), H) := by simp [vBin, evBin, vPure]
theorem vBin_sub : vBin .sub (.c (.int i a)) (.c (.int i b)) H = some (.c (.int i (i.wrap (a - b))), H) := by simp [vBin, evBin, vPure]
theorem vBin_mul : vBin .mul (.c (.int i a)) (.c (.int i b)) H = some (.c (.int i (i.wrap (a * b))), H) := by simp [vBin, evBin, vPure]
theorem vBin_quo : vBin .quo (.c (.int i a)) (.c (.int i b)) H = if b = 0 then none else some (.c (.int i (i.wrap (a.tdiv b))), H) := by
  simp only [vBin, evBin, if_true]; split <;> rfl
theorem vBin_rem : vBin .rem (.c (.int i a)) (.c (.int i b)) H = if b = 0 then none else some (.c (.int i (a.tmod b)), H) := by
  simp only [vBin, evBin, if_true]; split <;> rfl
theorem vBin_eql : vBin .eql (.c (.int i a)) (.c (.int i b)) H = some (.c (.bool (decide (a = b))), H) := by simp [vBin, evBin, vPure]
theorem vBin_neq : vBin .neq (.c (.int i a)) (.c (.int i b)) H = some (.c (.bool (!decide (a = b))), H) := by simp [vBin, evBin, vPure]
theorem vBin_lss : vBin .lss (.c (.int i a)) (.c (.int i b)) H = some (.c (.bool (decide (a < b))), H) := by simp [vBin, evBin, vPure]
theorem vBin_leq : vBin .leq (.c (.int i a)) (.c (.int i b)) H = some (.c (.bool (decide (a ≤ b))), H) := by simp [vBin, evBin, vPure]
theorem vBin_gtr : vBin .gtr (.c (.int i a)) (.c (.int i b)) H = some (.c (.bool (decide (b < a))), H) := by simp [vBin, evBin, vPure]
theorem vBin_geq : vBin .geq (.c (.int i a)) (.c (.int i b)) H = some (.c (.bool (decide (b ≤ a))), H) := by simp [vBin, evBin, vPure]
theorem vBin_cat {s t : ByteArray} (h : s.size + t.size ≤ 9223372036854775807) : vBin .add (.c (.str s)) (.c (.str t)) H = some (.c (.str (s ++ t)), H) := by simp [vBin, evBin, vPure, h]
theorem vBin_seql {s t : ByteArray} : vBin .eql (.c (.str s)) (.c (.str t)) H = some (.c (.bool (decide (s = t))), H) := by simp [vBin, evBin, vPure]
theorem vBin_sneq {s t : ByteArray} : vBin .neq (.c (.str s)) (.c (.str t)) H = some (.c (.bool (!decide (s = t))), H) := by simp [vBin, evBin, vPure]
theorem vBin_slss {s t : ByteArray} : vBin .lss (.c (.str s)) (.c (.str t)) H = some (.c (.bool (Op.bytesLess s.toList t.toList)), H) := by simp [vBin, evBin, vPure]
theorem vBin_sgtr {s t : ByteArray} : vBin .gtr (.c (.str s)) (.c (.str t)) H = some (.c (.bool (!(Op.bytesLess s.toList t.toList || decide (s = t)))), H) := by simp [vBin, evBin, vPure]
end

def vBinB (neg : Bool) (x y : AVal) (H : Heap) : VR0 := match x, y with | .c (.bool x), .c (.bool y) => some (.c (.bool (neg != (x == y))), H) | _, _ => none
def vUn (op : UnOp) (x : AVal) (H : Heap) : VR0 := match x with | .c x => vPure H (evUn op x) | _ => none
def vConv (i : IntKind) (x : AVal) (H : Heap) : VR0 := match x with | .c (.int _ n) => some (.c (.int i (i.wrap n)), H) | _ => none
def vStrId (x : AVal) (H : Heap) : VR0 := match x with | .c (.str s) => some (.c (.str s), H) | _ => none
def vMkI (t : Nat) (x : AVal) (H : Heap) : VR0 := match x with | .c c => some (.c (.iface t false [c]), H) | .agg cs => some (.c (.iface t true cs), H) | _ => none
def vExt (x : AVal) (i : Nat) (H : Heap) : VR0 := match x with | .tup vs => (match vs[i]? with | some v => some (v, H) | none => none) | _ => none
def vCap (x : AVal) (H : Heap) : VR0 := match x with | .c .nilS => some (.c (.int .i64 0), H) | .c (.zer _) => some (.c (.int .i64 0), H) | .c (.slc _ _ _ _ true) => some (.c (.int .i64 0), H) | _ => none
def vS2b (x : AVal) (H : Heap) : VR0 := match x with | .c (.str s) => if s.size ≤ 140737488355328 then some (.c (.slc H.length 0 s.size 1 false), H ++ [{ sz := 1, rows := (bytesOf s).map fun c => [c] }]) else none | _ => none
def vLenS (x : AVal) (H : Heap) : VR0 := match x with | .c (.str s) => some (.c (.int .i64 s.size), H) | _ => none
def vLen (x : AVal) (H : Heap) : VR0 := match x with | .c .nilS => some (.c (.int .i64 0), H) | .c (.slc _ _ n _ _) => some (.c (.int .i64 n), H) | .c (.lst _ rows) => some (.c (.int .i64 rows.length), H) | .c (.zer _) => some (.c (.int .i64 0), H) | .c (.emp _) => some (.c (.int .i64 0), H) | _ => none
def vFld (off : Nat) (x : AVal) (H : Heap) : VR0 := match x with | .c (.ptr b i f) => some (.c (.ptr b i (f + off)), H) | .c (.fp r f) => some (.c (.fp r (f + off)), H) | _ => none
def vChk (x : AVal) (H : Heap) : VR0 := match x with | .c .nilP => none | .c .nilI => none | .c .nilF => none | v => some (v, H)
def vPick2 (c x y : AVal) (H : Heap) : VR0 := match c with | .c (.bool b) => some (if b then x else y, H) | _ => none
def vFldV (agg : Bool) (off n : Nat) (x : AVal) (H : Heap) : VR0 := match x with
  | .agg cs => if off + n ≤ cs.length then match ofCells agg ((cs.drop off).take n) with | some v => some (v, H) | none => none else none
  | _ => none
def vBuild (r : Option (List Cell)) (H : Heap) : VR0 := match r with | some cs => some (.agg cs, H) | none => none
def vEqS (neg : Bool) (ks : List Nat) (x y : AVal) (H : Heap) : VR0 := match x, y with
  | .agg xs, .agg ys => (match evEqCells ks xs ys with | some b => some (.c (.bool (neg != b)), H) | none => none)
  | _, _ => none
def vNil (sl neg : Bool) (x y : AVal) (H : Heap) : VR0 := match x, y with
  | .c x, .c y => (match evNil sl x y with | some b => some (.c (.bool (neg != b)), H) | none => none)
  | _, _ => none
def vMkF (f : Nat) (r : Option (List Cell)) (H : Heap) : VR0 := match r with | some cs => some (.c (.fn f cs), H) | none => none
def vMM (f : Cell → Cell → Option Cell) (e : Env) (x : AVal) (r : List Opd) (H : Heap) : VR0 := match x with | .c x => vPure H (foldC f e x r) | _ => none
def vLoadR (agg : Bool) (n f : Nat) (r : Option (List Cell)) (H : Heap) : VR0 := match r with
  | some r => if f + n ≤ r.length then (match ofCells agg ((r.drop f).take n) with | some v => some (v, H) | none => none) else none
  | none => none
def vLoad (agg : Bool) (n : Nat) (a : AVal) (H : Heap) : VR0 := match a with | .c (.ptr b i f) => vLoadR agg n f (H.row b i) H | .c (.fp r f) => vLoadR agg n f (some r) H | _ => none
def vStoreR (n b i f : Nat) (cs : List Cell) (mine : Bool) (r : Option (List Cell)) (H : Heap) : VR0 := match r with
  | some r => if mine = true ∧ cs.length = n ∧ 0 < n ∧ f + n ≤ r.length then some (undefA, H.put b i (r.take f ++ cs ++ r.drop (f + n))) else none
  | none => none
def vStore (n : Nat) (a v : AVal) (H : Heap) : VR0 := match a with | .c (.ptr b i f) => vStoreR n b i f v.cells (H.mine b) (H.row b i) H | _ => none
def vBox (x : AVal) (H : Heap) : VR0 := match x with
  | .c c => some (.c (.ptr H.length 0 0), H ++ [{ sz := 1, rows := [[c]] }])
  | .agg cs => some (.c (.ptr H.length 0 0), H ++ [{ sz := cs.length, rows := [cs] }])
  | _ => none
def vIx (sz : Nat) (x i : AVal) (H : Heap) : VR0 := match x, i with
  | .c (.slc b s n sz' _), .c (.int _ i) => if sz' = sz ∧ 0 ≤ i ∧ i < n then some (.c (.ptr b (s + i.toNat) 0), H) else none
  | .c (.lst sz' rows), .c (.int _ i) => if sz' = sz ∧ 0 ≤ i then match rows[i.toNat]? with | some r => some (.c (.fp r 0), H) | none => none else none
  | _, _ => none
def vApp (sz bytes : Nat) (x y : AVal) (H : Heap) : VR0 := match x, y with | .c x, .c y => evApp H sz bytes x y | _, _ => none
def vAppZ (sz bytes : Nat) (x y : AVal) (H : Heap) : VR0 := match x, y with
  | .c .nilS, .c y => evApp H sz bytes .nilS y
  | .c (.zer s), .c y => evApp H sz bytes (.zer s) y
  | .c (.slc b s n sz' true), .c y => evApp H sz bytes (.slc b s n sz' true) y
  | _, _ => none
def vIxA (len sz : Nat) (x i : AVal) (H : Heap) : VR0 := match x, i with
  | .c (.ptr b r f), .c (.int _ i) => if 0 ≤ i ∧ i < len then some (.c (.ptr b r (f + i.toNat * sz)), H) else none
  | .c (.fp r f), .c (.int _ i) => if 0 ≤ i ∧ i < len then some (.c (.fp r (f + i.toNat * sz)), H) else none
  | _, _ => none
def vIxV (agg : Bool) (len sz : Nat) (x i : AVal) (H : Heap) : VR0 := match x, i with
  | .agg cs, .c (.int _ i) => if 0 ≤ i ∧ i < len ∧ i.toNat * sz + sz ≤ cs.length then match ofCells agg ((cs.drop (i.toNat * sz)).take sz) with | some v => some (v, H) | none => none else none
  | _, _ => none
def vMake (sz bytes : Nat) (z : List Cell) (l c : AVal) (H : Heap) : VR0 := match l, c with
  | .c (.int _ l), .c (.int _ c) =>
    if 0 ≤ l ∧ l = c ∧ c * bytes ≤ 140737488355328 ∧ l ≤ 9223372036854775807 then some (.c (.slc H.length 0 l.toNat sz (l.toNat == 0)), H ++ [{ sz, rows := List.replicate l.toNat z }]) else none
  | _, _ => none
def vLit (sz len : Nat) (r : Option (List (List Cell))) (H : Heap) : VR0 := match r with
  | some rows => some (.c (.slc H.length 0 len sz (len == 0)), H ++ [{ sz, rows }])
  | none => none
def vSl (sz : Nat) (x : AVal) (e : Env) (lo hi mx : Option Opd) (H : Heap) : VR0 := match x with
  | .c c => if fitsSz sz c then vPure H (evSl c e lo hi mx) else none
  | _ => none
def vSlS (x : AVal) (e : Env) (lo hi : Option Opd) (H : Heap) : VR0 := match x with
  | .c (.str s) => (match evSlS s e lo hi with | some s => some (.c (.str s), H) | none => none)
  | _ => none
def vSlA (n sz : Nat) (x : AVal) (H : Heap) : VR0 := match x with
  | .c (.fp row f) => if f + n * sz ≤ row.length ∧ n ≤ 1000000 then some (.c (.lst sz (chunksA n sz row f)), H) else none
  | _ => none
def vIxS (x i : AVal) (H : Heap) : VR0 := match x, i with
  | .c (.str s), .c (.int _ i) => if h : 0 ≤ i ∧ i.toNat < s.size then some (.c (.int .u8 ((s[i.toNat]'h.2).toNat : Int)), H) else none
  | _, _ => none
def vClr (sz : Nat) (z : List Cell) (x : AVal) (H : Heap) : VR0 := match x with
  | .c x => evClr H sz z x
  | _ => none
def vCpy (sz : Nat) (x y : AVal) (H : Heap) : VR0 := match x, y with
  | .c x, .c y => evCpy H sz x y
  | _, _ => none
def vB2s (x : AVal) (H : Heap) : VR0 := match x with
  | .c c => match c with
    | .str _ => none
    | c => if fitsSz 1 c then match H.rowsOf c with
      | some rs => match takeBytes rs with | some l => some (.c (.str ⟨l.toArray⟩), H) | none => none
      | none => none else none
  | _ => none

section
variable {G : Prog} {p : Post} {k : List Itm} {d : Bool} {e : Env} {H : Heap} {l : List AInstr} {dst : Option Nat} {x y z : Opd} {lo hi mx : Option Opd} {agg neg sl : Bool} {n off sz bytes : Nat}
theorem step_of {o : AOp} (h : ∀ f a, o ≠ .call f a) {r : VR0} (hr : ev o e H = r) : stepW G p k d false o dst l e H = thenW G p k d r dst l e := by rw [step_ev h, hr]
theorem step_binB : stepW G p k d false (.binB neg x y) dst l e H = thenW G p k d (vBinB neg (x.ev e) (y.ev e) H) dst l e := rfl
theorem step_un {op : UnOp} : stepW G p k d false (.un op x) dst l e H = thenW G p k d (vUn op (x.ev e) H) dst l e := rfl
theorem step_conv {i : IntKind} : stepW G p k d false (.conv i x) dst l e H = thenW G p k d (vConv i (x.ev e) H) dst l e := rfl
theorem step_strId : stepW G p k d false (.strId x) dst l e H = thenW G p k d (vStrId (x.ev e) H) dst l e := rfl
theorem step_mkI : stepW G p k d false (.mkI n x) dst l e H = thenW G p k d (vMkI n (x.ev e) H) dst l e := rfl
theorem step_ext : stepW G p k d false (.ext x n) dst l e H = thenW G p k d (vExt (x.ev e) n H) dst l e := rfl
theorem step_lenS : stepW G p k d false (.lenS x) dst l e H = thenW G p k d (vLenS (x.ev e) H) dst l e := rfl
theorem step_len : stepW G p k d false (.len x) dst l e H = thenW G p k d (vLen (x.ev e) H) dst l e := rfl
theorem step_cap : stepW G p k d false (.cap x) dst l e H = thenW G p k d (vCap (x.ev e) H) dst l e := rfl
theorem step_s2b : stepW G p k d false (.s2b x) dst l e H = thenW G p k d (vS2b (x.ev e) H) dst l e := rfl
theorem step_fld : stepW G p k d false (.fld off x) dst l e H = thenW G p k d (vFld off (x.ev e) H) dst l e := rfl
theorem step_chk : stepW G p k d false (.chk x) dst l e H = thenW G p k d (vChk (x.ev e) H) dst l e := rfl
theorem step_pick2 : stepW G p k d false (.pick x y z) dst l e H = thenW G p k d (vPick2 (x.ev e) (y.ev e) (z.ev e) H) dst l e := rfl
theorem step_fldV : stepW G p k d false (.fldV agg off n x) dst l e H = thenW G p k d (vFldV agg off n (x.ev e) H) dst l e := rfl
theorem step_build {zs : List Cell} {ps : List (Nat × Nat × Opd)} : stepW G p k d false (.build zs ps) dst l e H = thenW G p k d (vBuild (fillA zs e ps) H) dst l e := rfl
theorem step_eqS {ks : List Nat} : stepW G p k d false (.eqS neg ks x y) dst l e H = thenW G p k d (vEqS neg ks (x.ev e) (y.ev e) H) dst l e := rfl
theorem step_eqNil : stepW G p k d false (.eqNil sl neg x y) dst l e H = thenW G p k d (vNil sl neg (x.ev e) (y.ev e) H) dst l e := rfl
theorem step_mkF {xs : List Opd} : stepW G p k d false (.mkF n xs) dst l e H = thenW G p k d (vMkF n (evCaps e xs) H) dst l e := rfl
theorem step_max {xs : List Opd} : stepW G p k d false (.max (x :: xs)) dst l e H = thenW G p k d (vMM maxC e (x.ev e) xs H) dst l e := rfl
theorem step_min {xs : List Opd} : stepW G p k d false (.min (x :: xs)) dst l e H = thenW G p k d (vMM minC e (x.ev e) xs H) dst l e := rfl
theorem step_load : stepW G p k d false (.load agg n x) dst l e H = thenW G p k d (vLoad agg n (x.ev e) H) dst l e := rfl
def vLoadF (agg : Bool) (n : Nat) (a : AVal) (H : Heap) : VR0 := match a with | .c (.fp r f) => vLoadR agg n f (some r) H | _ => none
theorem step_loadF : stepW G p k d false (.loadF agg n x) dst l e H = thenW G p k d (vLoadF agg n (x.ev e) H) dst l e := rfl
theorem vLoadF_fp {agg : Bool} {r : List Cell} {f : Nat} : vLoadF agg n (.c (.fp r f)) H = vLoadR agg n f (some r) H := rfl
theorem step_store : stepW G p k d false (.store n x y) dst l e H = thenW G p k d (vStore n (x.ev e) (y.ev e) H) dst l e := rfl
theorem step_box : stepW G p k d false (.box x) dst l e H = thenW G p k d (vBox (x.ev e) H) dst l e := rfl
theorem step_ix : stepW G p k d false (.ix sz x y) dst l e H = thenW G p k d (vIx sz (x.ev e) (y.ev e) H) dst l e := rfl
theorem step_clr {z : List Cell} : stepW G p k d false (.clr sz z x) dst l e H = thenW G p k d (vClr sz z (x.ev e) H) dst l e := rfl
theorem step_cpy : stepW G p k d false (.cpy sz x y) dst l e H = thenW G p k d (vCpy sz (x.ev e) (y.ev e) H) dst l e := rfl
theorem step_app : stepW G p k d false (.app sz bytes x y) dst l e H = thenW G p k d (vApp sz bytes (x.ev e) (y.ev e) H) dst l e := rfl
theorem step_appZ : stepW G p k d false (.appZ sz bytes x y) dst l e H = thenW G p k d (vAppZ sz bytes (x.ev e) (y.ev e) H) dst l e := rfl
def vAppM (sz bytes : Nat) (z : List Cell) (x n : AVal) (H : Heap) : VR0 := match x, n with
  | .c .nilS, .c (.int _ l) =>
    if 0 < l ∧ l ≤ 9223372036854775807 ∧ l * bytes ≤ 140737488355328 then some (.c (.slc H.length 0 l.toNat sz false), H ++ [{ sz, rows := List.replicate l.toNat z }]) else none
  | .c (.slc b s m sz' zz), .c (.int _ l) =>
    if (0 < l ∧ l ≤ 9223372036854775807 ∧ l * bytes ≤ 140737488355328) ∧ s = 0 ∧ zz = false ∧ sz' = sz then evAppR H sz bytes b m (List.replicate l.toNat z) else none
  | _, _ => none
theorem step_appM {zs : List Cell} : stepW G p k d false (.appM sz bytes zs x y) dst l e H = thenW G p k d (vAppM sz bytes zs (x.ev e) (y.ev e) H) dst l e := rfl
theorem step_ixA : stepW G p k d false (.ixA n sz x y) dst l e H = thenW G p k d (vIxA n sz (x.ev e) (y.ev e) H) dst l e := rfl
theorem step_ixV : stepW G p k d false (.ixV agg n sz x y) dst l e H = thenW G p k d (vIxV agg n sz (x.ev e) (y.ev e) H) dst l e := rfl
theorem stepF_new {cs : List Cell} : stepW G p k d true (.new cs) dst l e H = thenF G p k d (mkF H (some (.c (.ptr H.length 0 0), H ++ [{ sz := cs.length, rows := [cs] }]))) dst l e H := rfl
theorem stepF_box : stepW G p k d true (.box x) dst l e H = thenF G p k d (mkF H (vBox (x.ev e) H)) dst l e H := rfl
theorem stepF_lit {zs : List Cell} {ps : List (Nat × Opd)} : stepW G p k d true (.lit sz zs n ps) dst l e H = thenF G p k d (mkF H (vLit sz n (fillR sz (List.replicate n zs) e ps) H)) dst l e H := rfl
theorem stepF_appZ : stepW G p k d true (.appZ sz bytes x y) dst l e H = thenF G p k d (mkF H (vAppZ sz bytes (x.ev e) (y.ev e) H)) dst l e H := rfl
theorem stepF_app : stepW G p k d true (.app sz bytes x y) dst l e H = thenF G p k d (mkF H (vAppZ sz bytes (x.ev e) (y.ev e) H)) dst l e H := rfl
theorem stepF_s2b : stepW G p k d true (.s2b x) dst l e H = thenF G p k d (mkF H (vS2b (x.ev e) H)) dst l e H := rfl
theorem stepF_make {zs : List Cell} : stepW G p k d true (.make sz bytes zs x y) dst l e H = thenF G p k d (mkF H (vMake sz bytes zs (x.ev e) (y.ev e) H)) dst l e H := rfl
theorem step_make {zs : List Cell} : stepW G p k d false (.make sz bytes zs x y) dst l e H = thenW G p k d (vMake sz bytes zs (x.ev e) (y.ev e) H) dst l e := rfl
theorem step_lit {zs : List Cell} {ps : List (Nat × Opd)} : stepW G p k d false (.lit sz zs n ps) dst l e H = thenW G p k d (vLit sz n (fillR sz (List.replicate n zs) e ps) H) dst l e := rfl
theorem step_sl : stepW G p k d false (.sl sz x lo hi mx) dst l e H = thenW G p k d (vSl sz (x.ev e) e lo hi mx H) dst l e := rfl
theorem step_slS : stepW G p k d false (.slS x lo hi) dst l e H = thenW G p k d (vSlS (x.ev e) e lo hi H) dst l e := rfl
theorem step_slA : stepW G p k d false (.slA n sz x) dst l e H = thenW G p k d (vSlA n sz (x.ev e) H) dst l e := rfl
theorem step_ixS : stepW G p k d false (.ixS x y) dst l e H = thenW G p k d (vIxS (x.ev e) (y.ev e) H) dst l e := rfl
theorem step_b2s : stepW G p k d false (.b2s x) dst l e H = thenW G p k d (vB2s (x.ev e) H) dst l e := rfl
end

section
variable {H : Heap} {a b : Int} {i j : IntKind} {s t : ByteArray} {n m : Nat} {c : Cell} {cs ds : List Cell}
theorem vBinB_eq {x y : Bool} : vBinB false (.c (.bool x)) (.c (.bool y)) H = some (.c (.bool (x == y)), H) := by simp [vBinB]
theorem vBinB_ne {x y : Bool} : vBinB true (.c (.bool x)) (.c (.bool y)) H = some (.c (.bool (!(x == y))), H) := by simp [vBinB]
theorem vUn_not {x : Bool} : vUn .not (.c (.bool x)) H = some (.c (.bool !x), H) := rfl
theorem vUn_neg : vUn .neg (.c (.int i a)) H = some (.c (.int i (i.wrap (0 - a))), H) := rfl
theorem pick_c {q : Bool} {x y : Cell} : (if q = true then AVal.c x else AVal.c y) = AVal.c (if q = true then x else y) := by cases q <;> rfl
theorem evCaps_nil {e : Env} : evCaps e [] = some [] := rfl
def capsC (x : AVal) (r : Option (List Cell)) : Option (List Cell) := match x, r with | .c c, some cs => some (c :: cs) | _, _ => none
theorem evCaps_cons' {e : Env} {x : Opd} {r : List Opd} : evCaps e (x :: r) = capsC (x.ev e) (evCaps e r) := rfl
theorem capsC_some : capsC (.c c) (some cs) = some (c :: cs) := rfl
theorem ext_0 {x : AVal} {vs : List AVal} : vExt (.tup (x :: vs)) 0 H = some (x, H) := rfl
theorem ext_1 {x y : AVal} {vs : List AVal} : vExt (.tup (x :: y :: vs)) 1 H = some (y, H) := rfl
theorem vConv_int : vConv i (.c (.int j a)) H = some (.c (.int i (i.wrap a)), H) := rfl
theorem vStrId_str : vStrId (.c (.str s)) H = some (.c (.str s), H) := rfl
theorem vExt_tup {vs : List AVal} : vExt (.tup vs) n H = (match vs[n]? with | some v => some (v, H) | none => none) := rfl
theorem vLenS_str : vLenS (.c (.str s)) H = some (.c (.int .i64 s.size), H) := rfl
theorem vLen_nil : vLen (.c .nilS) H = some (.c (.int .i64 0), H) := rfl
theorem vLen_slc {q r sz : Nat} {z : Bool} : vLen (.c (.slc q r n sz z)) H = some (.c (.int .i64 n), H) := rfl
theorem vFld_ptr {q r f off : Nat} : vFld off (.c (.ptr q r f)) H = some (.c (.ptr q r (f + off)), H) := rfl
theorem vChk_ptr {q r f : Nat} : vChk (.c (.ptr q r f)) H = some (.c (.ptr q r f), H) := rfl
theorem vChk_fn {f : Nat} : vChk (.c (.fn f cs)) H = some (.c (.fn f cs), H) := rfl
theorem vPick2_bool {q : Bool} {x y : AVal} : vPick2 (.c (.bool q)) x y H = some (if q = true then x else y, H) := rfl
theorem vFldV_one : vFldV false n 1 (.agg cs) H = (match cs[n]? with | some c => some (.c c, H) | none => none) := by
  simp only [vFldV]
  by_cases h : n + 1 ≤ cs.length
  · have h1 : (cs.drop n).take 1 = [cs[n]] := by rw [List.drop_eq_getElem_cons (by omega)]; rfl
    rw [if_pos h, h1, List.getElem?_eq_getElem (show n < cs.length by omega)]; rfl
  · rw [if_neg h, List.getElem?_eq_none (by omega)]
theorem vFldV_agg {off : Nat} : vFldV true off n (.agg cs) H = if off + n ≤ cs.length then some (.agg ((cs.drop off).take n), H) else none := by
  simp only [vFldV, ofCells, if_true]
theorem vBuild_some : vBuild (some cs) H = some (.agg cs, H) := rfl
theorem vMkF_some {f : Nat} : vMkF f (some cs) H = some (.c (.fn f cs), H) := rfl
theorem vBox_c : vBox (.c c) H = some (.c (.ptr H.length 0 0), H ++ [{ sz := 1, rows := [[c]] }]) := rfl
theorem vBox_agg : vBox (.agg cs) H = some (.c (.ptr H.length 0 0), H ++ [{ sz := cs.length, rows := [cs] }]) := rfl
theorem vLoad_ptr {agg : Bool} {q r f : Nat} : vLoad agg n (.c (.ptr q r f)) H = vLoadR agg n f (H.row q r) H := rfl
theorem vLoadR_one {f : Nat} : vLoadR false 1 f (some cs) H = (match cs[f]? with | some c => some (.c c, H) | none => none) := by
  simp only [vLoadR]
  by_cases h : f + 1 ≤ cs.length
  · have h1 : (cs.drop f).take 1 = [cs[f]] := by rw [List.drop_eq_getElem_cons (by omega)]; rfl
    rw [if_pos h, h1, List.getElem?_eq_getElem (show f < cs.length by omega)]; rfl
  · rw [if_neg h, List.getElem?_eq_none (by omega)]
theorem vLoadR_all : vLoadR true n 0 (some cs) H = if n ≤ cs.length then some (.agg (cs.take n), H) else none := by
  simp only [vLoadR, Nat.zero_add, List.drop_zero, ofCells]; split <;> rfl
theorem vLoadR_aggs {f : Nat} : vLoadR true n f (some cs) H = if f + n ≤ cs.length then some (.agg ((cs.drop f).take n), H) else none := by
  simp only [vLoadR, ofCells, if_true]
theorem vStore_ptr {q r f : Nat} {v : AVal} : vStore n (.c (.ptr q r f)) v H = vStoreR n q r f v.cells (H.mine q) (H.row q r) H := rfl
def vMM2 (f : Cell → Cell → Option Cell) (x y : AVal) (H : Heap) : VR0 := match x, y with | .c x, .c y => vPure H (f x y) | _, _ => none
theorem vMM_two {f : Cell → Cell → Option Cell} {e : Env} {x : AVal} {y : Opd} : vMM f e x [y] H = vMM2 f x (y.ev e) H := by
  cases x with
  | c x =>
    simp only [vMM, foldC, vMM2]
    cases y.ev e with
    | c y => simp only; cases f x y <;> rfl
    | _ => rfl
  | _ => rfl
theorem vMM2_max : vMM2 maxC (.c (.int i a)) (.c (.int i b)) H = some (.c (.int i (if a < b then b else a)), H) := by simp [vMM2, maxC, vPure]
theorem vMM2_min : vMM2 minC (.c (.int i a)) (.c (.int i b)) H = some (.c (.int i (if b < a then b else a)), H) := by simp [vMM2, minC, vPure]
end

theorem initEnv_0 {a : AVal} {l : List AVal} : initEnv (a :: l) 0 = a := rfl
theorem initEnv_1 {a b : AVal} {l : List AVal} : initEnv (a :: b :: l) 1 = b := rfl
theorem initEnv_2 {a b c : AVal} {l : List AVal} : initEnv (a :: b :: c :: l) 2 = c := rfl
theorem initEnv_3 {a b c d : AVal} {l : List AVal} : initEnv (a :: b :: c :: d :: l) 3 = d := rfl
theorem initEnv_4 {a b c d e : AVal} {l : List AVal} : initEnv (a :: b :: c :: d :: e :: l) 4 = e := rfl
theorem initEnv_5 {a b c d e f : AVal} {l : List AVal} : initEnv (a :: b :: c :: d :: e :: f :: l) 5 = f := rfl
theorem initEnv_6 {a b c d e f g : AVal} {l : List AVal} : initEnv (a :: b :: c :: d :: e :: f :: g :: l) 6 = g := rfl
theorem initEnv_7 {a b c d e f g h : AVal} {l : List AVal} : initEnv (a :: b :: c :: d :: e :: f :: g :: h :: l) 7 = h := rfl

/-! ### Rows of a heap -/
theorem row_snoc (H : Heap) (B : Blk) (b i : Nat) : Heap.row (H ++ [B]) b i = if b = H.length then (if B.live then B.rows[i]? else none) else H.row b i := by
  unfold Heap.row
  by_cases h : b = H.length
  · subst h; simp
  · rw [if_neg h]
    by_cases h2 : b < H.length
    · rw [List.getElem?_append_left h2]
    · rw [List.getElem?_eq_none (by simp; omega), List.getElem?_eq_none (by omega)]

end Go.Proofs.YtpjbjdicdjlmeaaDoor.Eng
