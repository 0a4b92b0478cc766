/- Parts of this claim's proof, joined. No statement of the seat is proved here. -/
import Derived.Test.YticmfblfghdkbaaGreatDoorV9
import Derived.WideShapes
import Derived.Test.YticmfblfghdkbaaGreatDoorProg
import Derived.Test.YticmfblfghdkbaaGreatDoorChecked
set_option linter.unusedVariables false
set_option linter.unusedSimpArgs false
namespace Go.Proofs.YticmfblfghdkbaaGreatDoor.Eng
open Go
variable {H : Heap} {b i : Nat} {k : Blk} {r : List Cell}
theorem Z3t : (H.length < (H ++ [k]).length) = True := by simp
theorem Z9e (h : b < H.length) : (b < (H ++ [k]).length) = True := by simp; omega
theorem Zkl : (H ++ [k])[H.length]? = some k := by simp
theorem Zcs (h : b < H.length) : (H ++ [k])[b]? = H[b]? := List.getElem?_append_left h
theorem Zbff {sz : Nat} {rows : List (List Cell)} {o : Bool} : Heap.row (H ++ [{ sz := sz,rows := rows,own := o,live := true }]) H.length i = rows[i]? := by simp [Heap.row]
theorem Zbef (h : b < H.length) : Heap.row (H ++ [k]) b i = Heap.row H b i := by simp only [Heap.row,Zcs h]
theorem Zbde {sz : Nat} {rows : List (List Cell)} : Heap.mine (H ++ [{ sz := sz,rows := rows,own := true,live := true }]) H.length = true := by simp [Heap.mine]
theorem Zbc3 (h : b < H.length) : Heap.mine (H ++ [k]) b = Heap.mine H b := by simp only [Heap.mine,Zcs h]
theorem Zbe3 {sz : Nat} {rows : List (List Cell)} {o l : Bool} : Heap.put (H ++ [{ sz := sz,rows := rows,own := o,live := l }]) H.length i r = H ++ [{ sz := sz,rows := rows.set i r,own := o,live := l }] := by
 simp [Heap.put]
theorem Zbd5 (h : b < H.length) : Heap.put (H ++ [k]) b i r = Heap.put H b i r ++ [k] := by
 unfold Heap.put
 rw [Zcs h]
 cases hk : H[b]? with
 | none => rfl
 | some q => simp [List.set_append,h]
theorem Zbh4 {a b : List Cell} : [a].set 0 b = [b] := rfl
theorem Zbgz {a : List Cell} : [a][0]? = some a := rfl
def Acc (sz : Nat) (rows : List (List Cell)) (v : AVal) (H : Heap) : Prop :=
 (rows = [] ∧ (v = .c .nilS ∨ v = .c (.zer sz))) ∨ ∃ b ext,v = .c (.slc b 0 rows.length sz false) ∧ H[b]? = some { sz := sz,rows := rows ++ ext,own := true,live := true }
variable {sz : Nat} {rows new : List (List Cell)} {v : AVal}
theorem Acc.nil : Acc sz [] (.c .nilS) H := .inl ⟨rfl,.inl rfl⟩
theorem Acc.zer : Acc sz [] (.c (.zer sz)) H := .inl ⟨rfl,.inr rfl⟩
theorem Acc.last : Acc sz rows (.c (.slc H.length 0 rows.length sz false)) (H ++ [{ sz := sz,rows := rows }]) := .inr ⟨H.length,[],rfl,by simp⟩
theorem Acc.snoc (h : Acc sz rows v H) : Acc sz rows v (H ++ [k]) := by
 rcases h with h | ⟨b,ext,h1,h2⟩
 ·exact .inl h
 ·exact .inr ⟨b,ext,h1,by rw [Zcs (List.getElem?_eq_some_iff.1 h2).1]; exact h2⟩
theorem Acc.len (h : Acc sz rows v H) {H' : Heap} : vLen v H' = some (.c (.int .i64 rows.length),H') := by
 rcases h with ⟨rfl,rfl | rfl⟩ | ⟨b,ext,rfl,h2⟩ <;> rfl
theorem Acc.told (h : Acc sz rows v H) (hc : closedR rows = true) : Zkb H v (.c (.lst sz rows)) := by
 rcases h with ⟨rfl,rfl | rfl⟩ | ⟨b,ext,rfl,h2⟩
 ·exact ⟨_,rfl,.c (.nilS _)⟩
 ·exact ⟨_,rfl,.c (.zer _)⟩
 ·refine ⟨.c (.lst sz rows),?_,.same _⟩
  simp only [Zf,Ze,Zk]
  by_cases h0 : rows.length = 0
  ·have : rows = [] := List.eq_nil_of_length_eq_zero h0
   subst this; rfl
  ·simp [h0,h2,hc]
theorem Acc.app (h : Acc sz rows v H) {bytes : Nat} {y : Cell} (hr : H.rowsOf y = some new) (hf : Zbh sz y = true) (hb : (rows.length + new.length) * bytes ≤ 140737488355328) :
  ∃ v' H',vApp sz bytes v (.c y) H = some (v',H') ∧ Acc sz (rows ++ new) v' H' ∧ H.length ≤ H'.length ∧
   (∀ b,(∀ n s z q,v ≠ .c (.slc b s n q z)) → b < H.length → H'[b]? = H[b]?) := by
 rcases h with ⟨rfl,hv⟩ | ⟨b,ext,rfl,h2⟩
 ·by_cases h0 : new.length = 0
  ·have : new = [] := List.eq_nil_of_length_eq_zero h0
   subst this
   refine ⟨v,H,?_,.inl ⟨rfl,hv⟩,Nat.le_refl _,fun _ _ _ => rfl⟩
   rcases hv with rfl | rfl <;> simp only [vApp,Zc3,hr,hf,if_true,List.length_nil]
  ·refine ⟨.c (.slc H.length 0 new.length sz false),H ++ [{ sz := sz,rows := new }],?_,.last,by simp,fun b _ hb => Zcs hb⟩
   rcases hv with rfl | rfl <;> (simp only [vApp,Zc3,hr,hf,if_true]; rw [if_neg h0,if_pos (by simpa using hb)])
 ·simp only [vApp,Zc3,hr,hf,if_true]
  by_cases h0 : new.length = 0
  ·have : new = [] := List.eq_nil_of_length_eq_zero h0
   subst this
   exact ⟨_,H,by simp; rfl,by rw [List.append_nil]; exact .inr ⟨b,ext,rfl,h2⟩,Nat.le_refl _,fun _ _ _ => rfl⟩
  ·rw [if_neg h0,if_pos ⟨trivial,hb⟩]
   simp only [h2,Bool.false_eq_true,if_false]
   rw [if_pos ⟨trivial,trivial,trivial,by simp⟩]
   refine ⟨_,_,rfl,.inr ⟨H.length,[],by rw [List.length_append],by simp⟩,by simp,fun b' hne hb' => ?_⟩
   rw [Zcs (by simpa using hb'),List.getElem?_set_ne]
   intro e; subst e; exact hne _ _ _ _ rfl
theorem Acc.appL (h : Acc sz rows v H) {bytes : Nat} (hb : (rows.length + new.length) * bytes ≤ 140737488355328) :
  ∃ v' H',vApp sz bytes v (.c (.lst sz new)) H = some (v',H') ∧ Acc sz (rows ++ new) v' H' := by
 obtain ⟨v',H',h1,h2,_⟩ := h.app (y := .lst sz new) rfl (by simp [Zbh]) hb
 exact ⟨v',H',h1,h2⟩
theorem Acc.rowsOf (h : Acc sz rows v H) : ∃ c,v = .c c ∧ H.rowsOf c = some rows := by
 rcases h with ⟨rfl,rfl | rfl⟩ | ⟨b,ext,rfl,h2⟩
 ·exact ⟨_,rfl,rfl⟩
 ·exact ⟨_,rfl,rfl⟩
 ·refine ⟨_,rfl,?_⟩
  simp only [Heap.rowsOf,h2]
  by_cases h0 : rows.length = 0
  ·have : rows = [] := List.eq_nil_of_length_eq_zero h0
   subst this; rfl
  ·simp [h0]
theorem Zcf {α : Type} {f : α → List Cell} (hf : ∀ x,Zb (f x) = true) : ∀ (l : List α),closedR (l.map f) = true
 | [] => rfl
 | x :: l => by simp [closedR,hf,Zcf hf l]
abbrev W (n : Int) : Int := IntKind.wrap .i64 n
section
variable {H : Heap} {sz : Nat} {a b c d : List Cell}
theorem Zgk (ha : Zb a = true) : mkF H (vLit sz 1 (some [a]) H) = some (.c (.lst sz [a])) := Zm5 rfl (by simp [closedR,ha]) (by omega)
theorem Z5l (ha : Zb a = true) (hb : Zb b = true) : mkF H (vLit sz 2 (some [a,b]) H) = some (.c (.lst sz [a,b])) := Zm5 rfl (by simp [closedR,ha,hb]) (by omega)
theorem Zbe5 (ha : Zb a = true) (hb : Zb b = true) (hc : Zb c = true) : mkF H (vLit sz 3 (some [a,b,c]) H) = some (.c (.lst sz [a,b,c])) := Zm5 rfl (by simp [closedR,ha,hb,hc]) (by omega)
theorem Zbey (ha : Zb a = true) (hb : Zb b = true) (hc : Zb c = true) (hd : Zb d = true) : mkF H (vLit sz 4 (some [a,b,c,d]) H) = some (.c (.lst sz [a,b,c,d])) := Zm5 rfl (by simp [closedR,ha,hb,hc,hd]) (by omega)
end
theorem Zzl {H : Heap} {sz q : Nat} {rows : List (List Cell)} {ik : IntKind} : vIx sz (.c (.lst sz rows)) (.c (.int ik (q : Int))) H = match rows[q]? with | some r => some (.c (.fp r 0),H) | none => none := Zbhw rfl
theorem Zbkk {α : Type} {f : α → List Cell} {pre rest : List α} {x : α} : ((pre ++ x :: rest).map f)[pre.length]? = some (f x) := by simp
theorem Zeh {α : Type} {f : α → List Cell} {l pre rest : List α} {x : α} (h : l = pre ++ x :: rest) : (l.map f)[pre.length]? = some (f x) := by rw [h]; exact Zbkk
theorem Zh0 {α : Type} {f : α → List Cell} {l pre rest : List α} {x : α} (h : l = pre ++ x :: rest) : ((pre.length : Int) < ((l.map f).length : Int)) := by rw [h]; simp; omega
theorem Zdm {α : Type} {f : α → List Cell} {l pre : List α} (h : l = pre ++ []) : ¬ ((pre.length : Int) < ((l.map f).length : Int)) := by rw [h]; simp
theorem Zcy {α : Type} {l pre rest : List α} {x : α} (h : l = pre ++ x :: rest) (hl : l.length ≤ maxLen) : IntKind.wrap .i64 ((pre.length : Int) + 1) = ((pre ++ [x]).length : Int) := by
 have : pre.length + 1 ≤ maxLen := by rw [h] at hl; simp at hl; omega
 rw [Zn (by unfold maxLen at this; omega)]
 simp
section
variable {G : Prog} {p : Post} {k : List Itm} {d : Bool} {e : Env} {H : Heap} {l : List AInstr} {dst : Option Nat}
end
theorem Acc.app_step {G : Prog} {p : Post} {k : List Itm} {d : Bool} {e : Env} {H : Heap} {l : List AInstr} {dst : Option Nat} {sz bytes : Nat} {rows new : List (List Cell)} {v : AVal}
  (h : Acc sz rows v H) (hb : (rows.length + new.length) * bytes ≤ 140737488355328) (hw : ∀ v' H',Acc sz (rows ++ new) v' H' → WL G p k d l (updO e dst v') H') : Zbg G p k d (vApp sz bytes v (.c (.lst sz new)) H) dst l e := by
 obtain ⟨v',H',h1,h2⟩ := h.appL (new := new) hb
 exact Znz h1 (hw v' H' h2)
theorem Acc.slc {sz : Nat} {rows : List (List Cell)} {v : AVal} {H : Heap} (h : Acc sz rows v H) (h0 : rows ≠ []) : ∃ b ext,v = .c (.slc b 0 rows.length sz false) ∧ b < H.length ∧ H[b]? = some { sz := sz,rows := rows ++ ext,own := true,live := true } := by
 rcases h with ⟨rfl,_⟩ | ⟨b,ext,rfl,h2⟩
 ·exact absurd rfl h0
 ·exact ⟨b,ext,rfl,(List.getElem?_eq_some_iff.1 h2).1,h2⟩
theorem Zhv {H : Heap} {b i : Nat} {k : Blk} (h : H[b]? = some k) (hl : k.live = true) : Heap.row H b i = k.rows[i]? := by simp [Heap.row,h,hl]
theorem Zb7 {H : Heap} {b : Nat} {k : Blk} (h : H[b]? = some k) (ho : k.own = true) (hl : k.live = true) : Heap.mine H b = true := by simp [Heap.mine,h,ho,hl]
theorem Zkd {H : Heap} {b i : Nat} {k : Blk} {r : List Cell} (h : H[b]? = some k) : Heap.put H b i r = H.set b { k with rows := k.rows.set i r } := by simp [Heap.put,h]
theorem Zek {H : Heap} {b n sz q : Nat} {z : Bool} {ik : IntKind} (h : q < n) : vIx sz (.c (.slc b 0 n sz z)) (.c (.int ik (q : Int))) H = some (.c (.ptr b q 0),H) := by
 simp [vIx,h]
theorem Acc.put {sz : Nat} {rows : List (List Cell)} {H : Heap} {b i : Nat} {ext : List (List Cell)} {r : List Cell} (h : H[b]? = some { sz := sz,rows := rows ++ ext,own := true,live := true }) (hi : i < rows.length) :
  Acc sz (rows.set i r) (.c (.slc b 0 rows.length sz false)) (Heap.put H b i r) := by
 refine .inr ⟨b,ext,by simp,?_⟩
 have hb := (List.getElem?_eq_some_iff.1 h).1
 rw [Zkd h]
 simp [hb,List.set_append,hi]
mutual
theorem Zwl {b : Nat} {k : Blk} : ∀ {c : Cell},Zc c = true → c.frz b k = c := by
 intro c h
 cases c with
 | slc => simp [Zc] at h
 | ptr => simp [Zc] at h
 | fn f cs => simp only [Zc] at h; simp only [Cell.frz,Zkc h]
 | iface t a cs => simp only [Zc] at h; simp only [Cell.frz,Zkc h]
 | _ => simp [Cell.frz]
theorem Zkc {b : Nat} {k : Blk} : ∀ {cs : List Cell},Zb cs = true → frzs b k cs = cs
 | [],_ => rfl
 | x :: r,h => by
  simp only [Zb,Bool.and_eq_true] at h
  simp only [frzs,Zwl h.1,Zkc h.2]
end
mutual
theorem Zfv {b : Nat} {k : Blk} : ∀ {v : AVal},Zp v = true → v.frz b k = v
 | .c x,h => by simp only [Zp] at h; simp only [AVal.frz,Zwl h]
 | .agg xs,h => by simp only [Zp] at h; simp only [AVal.frz,Zkc h]
 | .tup xs,h => by simp only [Zp] at h; simp only [AVal.frz,Zt1 h]
theorem Zt1 {b : Nat} {k : Blk} : ∀ {vs : List AVal},Zq vs = true → Zks b k vs = vs
 | [],_ => rfl
 | x :: r,h => by
  simp only [Zq,Bool.and_eq_true] at h
  simp only [Zks,Zfv h.1,Zt1 h.2]
end
theorem Acc.fz {G : Prog} {p : Post} {k : List Itm} {e : Env} {H : Heap} {sz t : Nat} {rows : List (List Cell)} {c : ACode} (h : Acc sz rows (e t) H)
  (hw : ∀ e' H',e' t = .c (.lst sz rows) → (∀ s v,e s = v → Zp v = true → s ≠ t → e' s = v) → Run G p (.code c :: k) e' H') : Run G p (.code (.fz t c) :: k) e H := by
 rcases h with ⟨rfl,hv⟩ | ⟨b,ext,h1,h2⟩
 ·have hs : ∀ y,e t = .c y → (y = .nilS ∨ y = .zer sz) → Run G p (.code (.fz t c) :: k) e H := fun y hy hz =>
   Z7d hy hz (hw _ _ (by simp [upd]) fun s v hv _ hst => by simp [upd,hst,hv])
  rcases hv with hv | hv
  ·exact hs _ hv (.inl rfl)
  ·exact hs _ hv (.inr rfl)
 ·refine Zxh ⟨b,_,by rw [h1]; rfl,h2,rfl,rfl,hw _ _ ?_ fun s v hv hc _ => ?_⟩
  ·rw [Zef,h1,Zgv,Zuj (by simp)]
   simp
  ·rw [Zef,hv,Zfv hc]
section
variable {sz : Nat} {e : Env} {hi lo : Opd} {H : Heap} {ik : IntKind} {q n s b : Nat} {z : Bool} {rows : List (List Cell)}
end
theorem Zbf2 {H : Heap} {sz : Nat} : vLen (.c (.emp sz)) H = some (.c (.int .i64 0),H) := rfl
theorem Z0e (s : ByteArray) : closedR ((Zcu s).map fun c => [c]) = true := by
 unfold Zcu
 rw [List.map_map]
 exact Zcf (fun _ => rfl) _
theorem Zbh2 {s : ByteArray} {H : Heap} (h : s.size ≤ 140737488355328) : mkF H (vS2b (.c (.str s)) H) = some (.c (.lst 1 ((Zcu s).map fun c => [c]))) := by
 simp only [vS2b,h,if_true]
 have hl : ((Zcu s).map fun c => [c]).length = s.size := by simp [Zcu]
 rw [Zm6 rfl rfl,Zgv,Zuj (by simp [hl])]
 simp only [List.drop_zero,← hl,List.take_length,Zp,Zc,Z0e,if_true]
theorem Zbg9 {n sz f : Nat} {row : List Cell} {H : Heap} : vSlA n sz (.c (.fp row f)) H = if f + n * sz ≤ row.length ∧ n ≤ 1000000 then some (.c (.lst sz (Zg0 n sz row f)),H) else none := rfl
theorem Z78 (row : List Cell) : Zg0 row.length 1 row 0 = row.map fun c => [c] := by
 apply List.ext_getElem?
 intro i
 unfold Zg0
 rw [List.getElem?_map,List.getElem?_map]
 by_cases h : i < row.length
 ·rw [List.getElem?_eq_getElem (by simpa using h),List.getElem?_eq_getElem h]
  simp only [List.getElem_range,Option.map_some,Nat.zero_add,Nat.mul_one]
  rw [List.drop_eq_getElem_cons h]; rfl
 ·rw [List.getElem?_eq_none (by simpa using h),List.getElem?_eq_none (by omega)]; rfl
attribute [go_sem] Z9t Z9w Zbc7 Z4k Z9f Zbaz Zbf2 vNil Zfl vCap Zbd4 Zuy Z71 Zbf6 Zbb6 Zbiq Zbio Zbgl Zbil Z9l Z6n Z26 Z7z Z8o Zbbg Zbkc Zbfv Zbbl Zbah Z7x Z5y Zbif Zbi4 Zbdk Zbic Z9m Z6j Z5z Z5a Zrf Z8n Zbcq Zbax Zbjm Zbk4 Zbk2 Zbk0 AOp.isBad Zbhl Zbgh Zbfl Zbbh Zbht Zbdp Z82 Zbfa Zbgi Zbdj Zbf7 Zbfo Zbek Zbfn Z9x Zbaq Z9y Zbgn Z87 Zbfc Zbdz Zbe2 Zbdq Z89 Zbf5 Zbh8 Zbgf Zbge Zbel Zbej Zbgg Zbc5 Zbaf Zbdf Zbfk Zbie Zbfs Z4k Zbf8 Zbex Zbei Zbcx Zbb3 Zba0 Z9q Zbca Zbbn Z73 Zbhv Zbe0 Zbe4 List.map_cons List.map_nil Zbd6 Zbgd Zbdv Zq2 Zdh Zbdy Zbfq Zbdu Zbfb Zbfp Zbf3 Zba8 Zbce Zbak Zbci Zbfd Zbf1 Zbij Zbih Zbch Z7u Zbbs Zbew Zbf4 Z33 Zbeb Zzl Zbf9 Zbg3 Zbe6 Zbhg Zbhu Z6h Zbam Zbdm Z6g Zbc4 Zbbx Zbfy Z8d Z74 Z6l Z9r Zqx Zc8 Zbit Zbga Zgk Z5l Zbe5 Zbey Z45 Z72 Z9d Zbi9 Zbk7 Zbkv Int.natCast_zero Int.lt_irrefl Zbjk Zbjo Zbkt Zbkj Bool.false_eq_true eq_self ite_true ite_false decide_eq_true_eq Bool.not_eq_true' decide_eq_false_iff_not true_and and_true Bool.not_true Bool.not_false decide_true decide_false Zbag Zbbb Zba2 Zbdo Zbc6 Zbbr Zbat Zbcm Zp Zq Zc Zb closedR Bool.and_self Bool.and_true Bool.true_and List.getElem?_cons_zero List.getElem?_cons_succ List.length_cons List.length_nil Nat.zero_add List.take_succ_cons List.take_zero List.drop_succ_cons List.drop_zero Nat.le_refl AVal.cells Zbff Zbef Zbde Zbc3 Zbe3 Zbd5 Z3t Z9e Zbh4 Zbgz Zz6 List.nil_append List.append_nil List.cons_append Ziy Zmz List.replicate List.set_cons_zero List.set_cons_succ
end Go.Proofs.YticmfblfghdkbaaGreatDoor.Eng
namespace Go.Proofs.YticmfblfghdkbaaGreatDoor.Eng
open Go
variable {P : Program} {w : World} {X : Type} {enc : TypeId × Value → X} {t : TypeId} {v : Value} {x : DataW X} {ps : List MemPlace} {s : D}
theorem Zbhq (hd : Zli P 30 t = some s) (h : DataW.Trod enc P w 0 (fun _ => true) true t v x ps) (hv : v.cells = #[v]) : ∃ c,VRA (Zog w) (Zj w) (.c c) v ∧ TyD s [c] := by
 obtain ⟨fuel,hf⟩ := h
 rw [hv] at hf
 obtain ⟨cs,h1,h2⟩ := Zbk3 fuel 30 t s hd [v] _ hf
 cases h1 with
 | cons a b => cases b; exact ⟨_,.c a,h2⟩
theorem Zbbc {e : TypeId} (ht : P.underlying t = some (.slice e)) (hd : Zli P 30 t = some s) {r : Reach} {b : Nat} (hw : Value.okWide P w r b t v) (h : DataW.Trod enc P w 0 (fun _ => true) true t v x ps) : ∃ c,VRA (Zog w) (Zj w) (.c c) v ∧ TyD s [c] := by
 obtain ⟨a,len,cap,rfl⟩ := Go.WideShapes.okWide_slice ht hw
 exact Zbhq hd h rfl
theorem TyD.ints {k : IntKind} {c : Cell} (h : TyD (.int k) [c]) : ∃ n,c = .int k n ∧ k.min ≤ n ∧ n ≤ k.max := by
 cases h; exact ⟨_,rfl,by assumption,by assumption⟩
theorem TyD.bools {c : Cell} (h : TyD .bool [c]) : ∃ b,c = .bool b := by cases h; exact ⟨_,rfl⟩
theorem TyD.one {d : D} {cs : List Cell} (hd : d.size = 1) (h : TyD d cs) : ∃ c,cs = [c] ∧ TyD d [c] := by
 have := h.length
 rw [hd] at this
 obtain ⟨c,rfl⟩ := List.length_eq_one_iff.1 this
 exact ⟨c,rfl,h⟩
theorem TyD.nilF {cs : List Cell} (h : TyD (.st []) cs) : cs = [] := by cases h; rfl
theorem TyD.listQ {α : Type} {e : D} {f : α → List Cell} {Q : α → Prop} (hf : ∀ cs,TyD e cs → ∃ x,cs = f x ∧ Q x) {cs : List Cell} (h : TyD (.slc e) cs) : ∃ l : List α,cs = [.lst e.size (l.map f)] ∧ l.length ≤ maxLen ∧ ∀ x ∈ l,Q x := by
 cases h with
 | slc hl h =>
  rename_i rows
  have : ∀ (rows : List (List Cell)),(∀ (i : Nat) r,rows[i]? = some r → TyD e r) → ∃ l : List α,rows = l.map f ∧ ∀ x ∈ l,Q x := by
   intro rows
   induction rows with
   | nil => intro _; exact ⟨[],rfl,by simp⟩
   | cons r rows ih =>
    intro h
    obtain ⟨x,hx,hq⟩ := hf r (h 0 r rfl)
    obtain ⟨l,hl,hqs⟩ := ih fun i q e => h (i + 1) q (by simpa using e)
    exact ⟨x :: l,by simp [hx,hl],by simpa using ⟨hq,hqs⟩⟩
  obtain ⟨l,rfl,hq⟩ := this rows h
  exact ⟨l,rfl,by simpa using hl,hq⟩
end Go.Proofs.YticmfblfghdkbaaGreatDoor.Eng
namespace Go.Proofs.YticmfblfghdkbaaGreatDoor.Eng
open Go
section
variable {H : Heap} {k k0 k1 k2 k3 k4 k5 k6 k7 : Blk} {sz : Nat} {r q : List Cell} {ow lv : Bool} {rows : List (List Cell)} {i : Nat}
theorem Zbkr : Heap.row ({ sz := sz,rows := [r],own := ow,live := true } :: H) 0 0 = some r := rfl
theorem Zbiw : Heap.mine ({ sz := sz,rows := rows,own := true,live := true } :: H) 0 = true := rfl
theorem Zbiz : Heap.put ({ sz := sz,rows := [r],own := ow,live := lv } :: H) 0 0 q = { sz := sz,rows := [q],own := ow,live := lv } :: H := rfl
theorem Zbkn : Heap.row (k0 :: { sz := sz,rows := [r],own := ow,live := true } :: H) 1 0 = some r := rfl
theorem Zbhp : Heap.mine (k0 :: { sz := sz,rows := rows,own := true,live := true } :: H) 1 = true := rfl
theorem Zbjz : Heap.put (k0 :: { sz := sz,rows := [r],own := ow,live := lv } :: H) 1 0 q = k0 :: { sz := sz,rows := [q],own := ow,live := lv } :: H := rfl
theorem Zbke : Heap.row (k0 :: k1 :: { sz := sz,rows := [r],own := ow,live := true } :: H) 2 0 = some r := rfl
theorem Zbhm : Heap.mine (k0 :: k1 :: { sz := sz,rows := rows,own := true,live := true } :: H) 2 = true := rfl
theorem Zbi1 : Heap.put (k0 :: k1 :: { sz := sz,rows := [r],own := ow,live := lv } :: H) 2 0 q = k0 :: k1 :: { sz := sz,rows := [q],own := ow,live := lv } :: H := rfl
theorem Zbks : Heap.row (k0 :: k1 :: k2 :: { sz := sz,rows := [r],own := ow,live := true } :: H) 3 0 = some r := rfl
theorem Zbg6 : Heap.mine (k0 :: k1 :: k2 :: { sz := sz,rows := rows,own := true,live := true } :: H) 3 = true := rfl
theorem Zbkm : Heap.put (k0 :: k1 :: k2 :: { sz := sz,rows := [r],own := ow,live := lv } :: H) 3 0 q = k0 :: k1 :: k2 :: { sz := sz,rows := [q],own := ow,live := lv } :: H := rfl
theorem Zbjr : Heap.row (k0 :: k1 :: k2 :: k3 :: { sz := sz,rows := [r],own := ow,live := true } :: H) 4 0 = some r := rfl
theorem Zbis : Heap.mine (k0 :: k1 :: k2 :: k3 :: { sz := sz,rows := rows,own := true,live := true } :: H) 4 = true := rfl
theorem Zbjf : Heap.put (k0 :: k1 :: k2 :: k3 :: { sz := sz,rows := [r],own := ow,live := lv } :: H) 4 0 q = k0 :: k1 :: k2 :: k3 :: { sz := sz,rows := [q],own := ow,live := lv } :: H := rfl
theorem Zbkd : Heap.row (k0 :: k1 :: k2 :: k3 :: k4 :: { sz := sz,rows := [r],own := ow,live := true } :: H) 5 0 = some r := rfl
theorem Zbhj : Heap.mine (k0 :: k1 :: k2 :: k3 :: k4 :: { sz := sz,rows := rows,own := true,live := true } :: H) 5 = true := rfl
theorem Zbj4 : Heap.put (k0 :: k1 :: k2 :: k3 :: k4 :: { sz := sz,rows := [r],own := ow,live := lv } :: H) 5 0 q = k0 :: k1 :: k2 :: k3 :: k4 :: { sz := sz,rows := [q],own := ow,live := lv } :: H := rfl
theorem Zbjj : Heap.row (k0 :: k1 :: k2 :: k3 :: k4 :: k5 :: { sz := sz,rows := [r],own := ow,live := true } :: H) 6 0 = some r := rfl
theorem Zbhb : Heap.mine (k0 :: k1 :: k2 :: k3 :: k4 :: k5 :: { sz := sz,rows := rows,own := true,live := true } :: H) 6 = true := rfl
theorem Zbj6 : Heap.put (k0 :: k1 :: k2 :: k3 :: k4 :: k5 :: { sz := sz,rows := [r],own := ow,live := lv } :: H) 6 0 q = k0 :: k1 :: k2 :: k3 :: k4 :: k5 :: { sz := sz,rows := [q],own := ow,live := lv } :: H := rfl
theorem Zbjl : Heap.row (k0 :: k1 :: k2 :: k3 :: k4 :: k5 :: k6 :: { sz := sz,rows := [r],own := ow,live := true } :: H) 7 0 = some r := rfl
theorem Zbhy : Heap.mine (k0 :: k1 :: k2 :: k3 :: k4 :: k5 :: k6 :: { sz := sz,rows := rows,own := true,live := true } :: H) 7 = true := rfl
theorem Zbju : Heap.put (k0 :: k1 :: k2 :: k3 :: k4 :: k5 :: k6 :: { sz := sz,rows := [r],own := ow,live := lv } :: H) 7 0 q = k0 :: k1 :: k2 :: k3 :: k4 :: k5 :: k6 :: { sz := sz,rows := [q],own := ow,live := lv } :: H := rfl
theorem Zbkg : Heap.row (k0 :: (H ++ [{ sz := sz,rows := rows,own := ow,live := true }])) (H.length + 1) i = rows[i]? := by simp [Heap.row]
theorem Zbik : Heap.mine (k0 :: (H ++ [{ sz := sz,rows := rows,own := true,live := true }])) (H.length + 1) = true := by simp [Heap.mine]
theorem Zbi3 : Heap.put (k0 :: (H ++ [{ sz := sz,rows := rows,own := ow,live := lv }])) (H.length + 1) i r = k0 :: (H ++ [{ sz := sz,rows := rows.set i r,own := ow,live := lv }]) := by simp [Heap.put]
theorem Zbiy : Heap.row (k0 :: k1 :: (H ++ [{ sz := sz,rows := rows,own := ow,live := true }])) (H.length + 1 + 1) i = rows[i]? := by simp [Heap.row]
theorem Zbhd : Heap.mine (k0 :: k1 :: (H ++ [{ sz := sz,rows := rows,own := true,live := true }])) (H.length + 1 + 1) = true := by simp [Heap.mine]
theorem Zbki : Heap.put (k0 :: k1 :: (H ++ [{ sz := sz,rows := rows,own := ow,live := lv }])) (H.length + 1 + 1) i r = k0 :: k1 :: (H ++ [{ sz := sz,rows := rows.set i r,own := ow,live := lv }]) := by simp [Heap.put]
theorem Zbkq : Heap.row (k0 :: k1 :: k2 :: (H ++ [{ sz := sz,rows := rows,own := ow,live := true }])) (H.length + 1 + 1 + 1) i = rows[i]? := by simp [Heap.row]
theorem Zbg2 : Heap.mine (k0 :: k1 :: k2 :: (H ++ [{ sz := sz,rows := rows,own := true,live := true }])) (H.length + 1 + 1 + 1) = true := by simp [Heap.mine]
theorem Zbi0 : Heap.put (k0 :: k1 :: k2 :: (H ++ [{ sz := sz,rows := rows,own := ow,live := lv }])) (H.length + 1 + 1 + 1) i r = k0 :: k1 :: k2 :: (H ++ [{ sz := sz,rows := rows.set i r,own := ow,live := lv }]) := by simp [Heap.put]
theorem Zbje : Heap.row (k0 :: k1 :: k2 :: k3 :: (H ++ [{ sz := sz,rows := rows,own := ow,live := true }])) (H.length + 1 + 1 + 1 + 1) i = rows[i]? := by simp [Heap.row]
theorem Zbiu : Heap.mine (k0 :: k1 :: k2 :: k3 :: (H ++ [{ sz := sz,rows := rows,own := true,live := true }])) (H.length + 1 + 1 + 1 + 1) = true := by simp [Heap.mine]
theorem Zbjg : Heap.put (k0 :: k1 :: k2 :: k3 :: (H ++ [{ sz := sz,rows := rows,own := ow,live := lv }])) (H.length + 1 + 1 + 1 + 1) i r = k0 :: k1 :: k2 :: k3 :: (H ++ [{ sz := sz,rows := rows.set i r,own := ow,live := lv }]) := by simp [Heap.put]
theorem Zbjp : Heap.row (k0 :: k1 :: k2 :: k3 :: k4 :: (H ++ [{ sz := sz,rows := rows,own := ow,live := true }])) (H.length + 1 + 1 + 1 + 1 + 1) i = rows[i]? := by simp [Heap.row]
theorem Zbg5 : Heap.mine (k0 :: k1 :: k2 :: k3 :: k4 :: (H ++ [{ sz := sz,rows := rows,own := true,live := true }])) (H.length + 1 + 1 + 1 + 1 + 1) = true := by simp [Heap.mine]
theorem Zbj2 : Heap.put (k0 :: k1 :: k2 :: k3 :: k4 :: (H ++ [{ sz := sz,rows := rows,own := ow,live := lv }])) (H.length + 1 + 1 + 1 + 1 + 1) i r = k0 :: k1 :: k2 :: k3 :: k4 :: (H ++ [{ sz := sz,rows := rows.set i r,own := ow,live := lv }]) := by simp [Heap.put]
theorem Zbkp : Heap.row (k0 :: k1 :: k2 :: k3 :: k4 :: k5 :: (H ++ [{ sz := sz,rows := rows,own := ow,live := true }])) (H.length + 1 + 1 + 1 + 1 + 1 + 1) i = rows[i]? := by simp [Heap.row]
theorem Zbir : Heap.mine (k0 :: k1 :: k2 :: k3 :: k4 :: k5 :: (H ++ [{ sz := sz,rows := rows,own := true,live := true }])) (H.length + 1 + 1 + 1 + 1 + 1 + 1) = true := by simp [Heap.mine]
theorem Zbjv : Heap.put (k0 :: k1 :: k2 :: k3 :: k4 :: k5 :: (H ++ [{ sz := sz,rows := rows,own := ow,live := lv }])) (H.length + 1 + 1 + 1 + 1 + 1 + 1) i r = k0 :: k1 :: k2 :: k3 :: k4 :: k5 :: (H ++ [{ sz := sz,rows := rows.set i r,own := ow,live := lv }]) := by simp [Heap.put]
theorem Zbj9 : Heap.row (k0 :: k1 :: k2 :: k3 :: k4 :: k5 :: k6 :: (H ++ [{ sz := sz,rows := rows,own := ow,live := true }])) (H.length + 1 + 1 + 1 + 1 + 1 + 1 + 1) i = rows[i]? := by simp [Heap.row]
theorem Zbhx : Heap.mine (k0 :: k1 :: k2 :: k3 :: k4 :: k5 :: k6 :: (H ++ [{ sz := sz,rows := rows,own := true,live := true }])) (H.length + 1 + 1 + 1 + 1 + 1 + 1 + 1) = true := by simp [Heap.mine]
theorem Zbi2 : Heap.put (k0 :: k1 :: k2 :: k3 :: k4 :: k5 :: k6 :: (H ++ [{ sz := sz,rows := rows,own := ow,live := lv }])) (H.length + 1 + 1 + 1 + 1 + 1 + 1 + 1) i r = k0 :: k1 :: k2 :: k3 :: k4 :: k5 :: k6 :: (H ++ [{ sz := sz,rows := rows.set i r,own := ow,live := lv }]) := by simp [Heap.put]
end
attribute [go_sem] Zbkr Zbiw Zbiz Zbkn Zbhp Zbjz Zbke Zbhm Zbi1 Zbks Zbg6 Zbkm Zbjr Zbis Zbjf Zbkd Zbhj Zbj4 Zbjj Zbhb Zbj6 Zbjl Zbhy Zbju Zbkg Zbik Zbi3 Zbiy Zbhd Zbki Zbkq Zbg2 Zbi0 Zbje Zbiu Zbjg Zbjp Zbg5 Zbj2 Zbkp Zbir Zbjv Zbj9 Zbhx Zbi2
section
variable {G : Prog} {p : Post} {k : List Itm} {d : Bool} {e : Env} {H : Heap} {l : List AInstr} {dst : Option Nat} {sz bytes : Nat} {rows new : List (List Cell)} {v : AVal} {k0 k1 k2 k3 : Blk}
theorem Acc.noblk {b : Nat} {B : Blk} (h : Acc sz rows v H) (hb : H[b]? = some B) (hs : B.sz ≠ sz) : ∀ n s z q,v ≠ .c (.slc b s n q z) := by
 rintro n s z q rfl
 rcases h with ⟨_,h | h⟩ | ⟨b',ext,h,h2⟩
 ·cases h
 ·cases h
 ·injection h with h
  injection h with h1
  subst h1
  rw [hb] at h2
  injection h2 with h2
  subst h2
  exact hs rfl
end
structure Rn where
 dev : Int
 frm : Int
 to : Int
 deriving DecidableEq,Inhabited
structure Dot where
 dev : Int
 n : Int
 deriving DecidableEq,Inhabited
structure Fact where
 dev : Int
 n : Int
 key : ByteArray
 kind : Int
 item : ByteArray
 num : Int
 deriving DecidableEq,Inhabited
def Rn.cells (r : Rn) : List Cell := [.int .i64 r.dev,.int .i64 r.frm,.int .i64 r.to]
def Dot.cells (d : Dot) : List Cell := [.int .i64 d.dev,.int .i64 d.n]
def Fact.cells (f : Fact) : List Cell := [.int .i64 f.dev,.int .i64 f.n,.str f.key,.int .i64 f.kind,.str f.item,.int .i64 f.num]
theorem Rn.closed (r : Rn) : Zb r.cells = true := rfl
theorem Dot.closed (r : Dot) : Zb r.cells = true := rfl
theorem Fact.closed (r : Fact) : Zb r.cells = true := rfl
def Z8l (l : List Rn) : Cell := .lst 3 (l.map Rn.cells)
def Zbk6 (l : List Dot) : Cell := .lst 2 (l.map Dot.cells)
def Z3h (l : List Fact) : Cell := .lst 6 (l.map Fact.cells)
theorem Zwp (l : List Rn) : closedR (l.map Rn.cells) = true := Zcf Rn.closed l
theorem Z5w (l : List Dot) : closedR (l.map Dot.cells) = true := Zcf Dot.closed l
theorem Zs3 (l : List Fact) : closedR (l.map Fact.cells) = true := Zcf Fact.closed l
theorem Z3f (l : List Rn) : Zc (Z8l l) = true := Zwp l
theorem Z14 (l : List Fact) : Zc (Z3h l) = true := Zs3 l
structure State where
 seen : List Rn
 facts : List Fact
 deriving DecidableEq,Inhabited
def State.cells (s : State) : List Cell := [Z8l s.seen,Z3h s.facts]
theorem State.closed (s : State) : Zb s.cells = true := by simp [State.cells,Zb,Z3f,Z14]
def Zbh6 (l : List State) : Cell := .lst 2 (l.map State.cells)
abbrev iC (n : Int) : AVal := .c (.int .i64 n)
abbrev bC (b : Bool) : AVal := .c (.bool b)
abbrev sC (s : ByteArray) : AVal := .c (.str s)
def in64 (n : Int) : Prop := IntKind.min .i64 ≤ n ∧ n ≤ IntKind.max .i64
theorem in64.of {n : Int} (h : in64 n) : -9223372036854775808 ≤ n ∧ n ≤ 9223372036854775807 := h
def Rn.ok (r : Rn) : Prop := in64 r.dev ∧ in64 r.frm ∧ in64 r.to
def Dot.ok (r : Dot) : Prop := in64 r.dev ∧ in64 r.n
def Fact.ok (f : Fact) : Prop := in64 f.dev ∧ in64 f.n ∧ f.key.size ≤ maxLen ∧ in64 f.kind ∧ f.item.size ≤ maxLen ∧ in64 f.num
def State.ok (s : State) : Prop := (∀ r ∈ s.seen,r.ok) ∧ (∀ f ∈ s.facts,f.ok)
def Zqz (n : Nat) : List Cell := [.int .u8 (n : Int)]
def Zty (l : List Nat) : Cell := .lst 1 (l.map Zqz)
theorem Z5p (l : List Nat) : closedR (l.map Zqz) = true := Zcf (f := Zqz) (fun _ => rfl) l
theorem Zbfw (cs : List Cell) (h : TyD (.int .u8) cs) : ∃ n : Nat,cs = Zqz n ∧ n < 256 := by
 obtain ⟨c,rfl,h⟩ := h.one rfl
 obtain ⟨n,rfl,h1,h2⟩ := h.ints
 have h1 : 0 ≤ n := h1
 have h2 : n ≤ 255 := h2
 exact ⟨n.toNat,by simp [Zqz]; omega,by omega⟩
theorem Zbay (cs : List Cell) (h : TyD (.slc (.int .u8)) cs) : ∃ l : List Nat,cs = [Zty l] ∧ l.length ≤ maxLen ∧ ∀ r ∈ l,r < 256 := h.listQ Zbfw
attribute [go_sem] Rn.cells Dot.cells Fact.cells State.cells Z8l Zbk6 Z3h Zbh6 Zwp Z5w Zs3 Z5p Zty Zqz
theorem Z6u {b b' i f : Nat} {k : Blk} (h : b' ≠ b) : (AVal.c (.ptr b' i f)).frz b k = .c (.ptr b' i f) := by
 rw [Zgv]; simp [Cell.frz,h]
theorem Z5g {H : Heap} {b b' : Nat} {B : Blk} (h : H[b']? = some B) (hne : b' ≠ b) : (H.kill b)[b']? = some B := by
 unfold Heap.kill
 split
 ·rw [List.getElem?_set_ne (Ne.symm hne)]; exact h
 ·exact h
theorem Zbf0 {H : Heap} {b : Nat} : (H.kill b).length = H.length := by
 unfold Heap.kill; split <;> simp
def NB (v : AVal) (b : Nat) : Prop := ∀ n s q z,v ≠ .c (.slc b s n q z)
theorem Acc.nb_sz {sz b : Nat} {rows : List (List Cell)} {v : AVal} {H : Heap} {B : Blk} (h : Acc sz rows v H) (hb : H[b]? = some B) (hs : B.sz ≠ sz) : NB v b := fun n s q z e => h.noblk hb hs n s z q e
theorem Acc.nb_ge {sz b : Nat} {rows : List (List Cell)} {v : AVal} {H : Heap} (h : Acc sz rows v H) (hb : H.length ≤ b) : NB v b := by
 rintro n s q z rfl
 rcases h with ⟨_,h | h⟩ | ⟨b',ext,h,h2⟩
 ·cases h
 ·cases h
 ·injection h with h
  injection h with h1
  subst h1
  have := (List.getElem?_eq_some_iff.1 h2).1
  omega
theorem Acc.app_all {sz : Nat} {rows new : List (List Cell)} {v : AVal} {H : Heap} (h : Acc sz rows v H) {bytes : Nat} (hb : (rows.length + new.length) * bytes ≤ 140737488355328) :
  ∃ v' H',vApp sz bytes v (.c (.lst sz new)) H = some (v',H') ∧ Acc sz (rows ++ new) v' H' ∧ ∀ b B,NB v b → H[b]? = some B → H'[b]? = some B ∧ NB v' b := by
 obtain ⟨v',H',h1,h2,h3,h4⟩ := h.app (y := .lst sz new) rfl (by simp [Zbh]) hb
 refine ⟨v',H',h1,h2,fun b B hn hB => ?_⟩
 have hlt := (List.getElem?_eq_some_iff.1 hB).1
 have hB' : H'[b]? = some B := by rw [h4 b (fun n s z q => hn n s q z) hlt]; exact hB
 refine ⟨hB',fun n s q z e => ?_⟩
 subst e
 rcases h with ⟨rfl,hv⟩ | ⟨b0,ext,rfl,h5⟩
 ·have h1' := h1
  rcases hv with rfl | rfl <;>
  ·simp only [vApp,Zc3,Heap.rowsOf,Zbh] at h1'
   by_cases h0 : new.length = 0
   ·simp [h0] at h1'
   ·simp [h0] at h1'
    omega
 ·have h1' := h1
  simp only [vApp,Zc3,Heap.rowsOf,Zbh] at h1'
  by_cases h0 : new.length = 0
  ·simp [h0] at h1'
   obtain ⟨⟨rfl,rfl,rfl,rfl,rfl⟩,rfl⟩ := h1'
   exact hn _ _ _ _ rfl
  ·simp [h0,h5] at h1'
   omega
theorem Acc.app_keep {G : Prog} {p : Post} {k : List Itm} {d : Bool} {e : Env} {H : Heap} {l : List AInstr} {dst : Option Nat} {sz bytes : Nat} {rows new : List (List Cell)} {v : AVal}
  (h : Acc sz rows v H) (hb : (rows.length + new.length) * bytes ≤ 140737488355328) (hw : ∀ v' H',Acc sz (rows ++ new) v' H' → (∀ b B,NB v b → H[b]? = some B → H'[b]? = some B ∧ NB v' b) → WL G p k d l (updO e dst v') H') : Zbg G p k d (vApp sz bytes v (.c (.lst sz new)) H) dst l e := by
 obtain ⟨v',H',h1,h2,h3⟩ := h.app_all (new := new) hb
 exact Znz h1 (hw v' H' h2 h3)
theorem Acc.fz_keep {G : Prog} {p : Post} {k : List Itm} {e : Env} {H : Heap} {sz t : Nat} {rows : List (List Cell)} {c : ACode} (h : Acc sz rows (e t) H)
  (hw : ∀ e' H',e' t = .c (.lst sz rows) → (∀ s v,e s = v → Zp v = true → s ≠ t → e' s = v) → (∀ s b i f,e s = .c (.ptr b i f) → NB (e t) b → e' s = .c (.ptr b i f)) → (∀ b B,H[b]? = some B → NB (e t) b → H'[b]? = some B) → H'.length = H.length → Run G p (.code c :: k) e' H') : Run G p (.code (.fz t c) :: k) e H := by
 rcases h with ⟨rfl,hv⟩ | ⟨b,ext,h1,h2⟩
 ·have hs : ∀ y,e t = .c y → (y = .nilS ∨ y = .zer sz) → Run G p (.code (.fz t c) :: k) e H := fun y hy hz =>
   Z7d hy hz (hw _ _ (by simp [upd]) (fun s v hv _ hst => by simp [upd,hst,hv]) (fun s b i f hp _ => by
    have : s ≠ t := by intro e; subst e; rw [hy] at hp; rcases hz with rfl | rfl <;> cases hp
    simp [upd,this,hp]) (fun _ _ h _ => h) rfl)
  rcases hv with hv | hv
  ·exact hs _ hv (.inl rfl)
  ·exact hs _ hv (.inr rfl)
 ·have hne : ∀ b',NB (e t) b' → b' ≠ b := fun b' hb' e => by subst e; exact hb' _ _ _ _ h1
  refine Zxh ⟨b,_,by rw [h1]; rfl,h2,rfl,rfl,hw _ _ ?_ (fun s v hv hc _ => ?_) (fun s b' i f hp hs => ?_) (fun b' B hB hs => Z5g hB (hne b' hs)) Zbf0⟩
  ·rw [Zef,h1,Zgv,Zuj (by simp)]
   simp
  ·rw [Zef,hv,Zfv hc]
  ·rw [Zef,hp,Z6u (hne b' hs)]
theorem Zu {H : Heap} {b sz : Nat} {r : List Cell} (h : H[b]? = some { sz := sz,rows := [r],own := true,live := true }) : Heap.row H b 0 = some r := by rw [Zhv h rfl]; rfl
theorem Zdq {H : Heap} {b sz : Nat} {rows : List (List Cell)} (h : H[b]? = some { sz := sz,rows := rows,own := true,live := true }) : Heap.mine H b = true := Zb7 h rfl rfl
theorem Ze0 {H : Heap} {b sz : Nat} {r q : List Cell} (h : H[b]? = some { sz := sz,rows := [r],own := true,live := true }) : Heap.put H b 0 q = H.set b { sz := sz,rows := [q],own := true,live := true } := by rw [Zkd h]; rfl
theorem Zw {H : Heap} {b : Nat} {B B' : Blk} (h : H[b]? = some B) : (H.set b B')[b]? = some B' := by
 have := (List.getElem?_eq_some_iff.1 h).1
 simp [this]
theorem Zo {H : Heap} {b b' : Nat} {B B' : Blk} (h : H[b']? = some B) (hne : b' ≠ b) : (H.set b B')[b']? = some B := by
 rw [List.getElem?_set_ne (Ne.symm hne)]; exact h
theorem Acc.set_nb {sz b : Nat} {rows : List (List Cell)} {v : AVal} {H : Heap} {B : Blk} (h : Acc sz rows v H) (hn : NB v b) : Acc sz rows v (H.set b B) := by
 rcases h with h | ⟨b',ext,h1,h2⟩
 ·exact .inl h
 ·refine .inr ⟨b',ext,h1,Zo h2 fun e => ?_⟩
  subst e
  exact hn _ _ _ _ h1
theorem mixed : Tryz.prog.follows .mixedOrders = true := Checked.mixed Tryz.checked
abbrev Pr (f : Nat) (args : List AVal) (v : AVal) : Prop := Pure Tryz.prog f args v
def iRow (n : Int) : List Cell := [.int .i64 n]
def Zd3 (l : List Int) : Cell := .lst 1 (l.map iRow)
theorem Zey (l : List Int) : closedR (l.map iRow) = true := Zcf (fun _ => rfl) l
theorem Z3n (l : List Int) : Zc (Zd3 l) = true := Zey l
def Rn.right (r : Rn) : Bool := decide (0 ≤ r.dev) && decide (r.dev < 8) && decide (1 ≤ r.frm) && decide (r.frm ≤ r.to) && decide (r.to ≤ 4503599627370496)
def Rn.has (r : Rn) (d : Dot) : Bool := decide (r.dev = d.dev) && decide (r.frm ≤ d.n) && decide (d.n ≤ r.to)
def Zd4 (l : List Rn) (d : Dot) : Bool := l.any fun r => r.has d
structure Rn.Right (r : Rn) : Prop where
 d0 : 0 ≤ r.dev
 d8 : r.dev < 8
 f1 : 1 ≤ r.frm
 ft : r.frm ≤ r.to
 tm : r.to ≤ 4503599627370496
def Sep (q r : Rn) : Prop := q.dev < r.dev ∨ (q.dev = r.dev ∧ q.to + 1 < r.frm)
theorem Sep.trans {a b c : Rn} (hb : b.Right) (h : Sep a b) (k : Sep b c) : Sep a c := by
 have := hb.ft
 unfold Sep at *; omega
structure Norm (l : List Rn) : Prop where
 right : ∀ r ∈ l,r.Right
 sep : l.Pairwise Sep
theorem Norm.nil : Norm [] := ⟨by simp,.nil⟩
theorem Norm.tail {r : Rn} {l : List Rn} (h : Norm (r :: l)) : Norm l := ⟨fun x hx => h.right x (by simp [hx]),(List.pairwise_cons.1 h.sep).2⟩
theorem Norm.head {r : Rn} {l : List Rn} (h : Norm (r :: l)) : r.Right := h.right r (by simp)
theorem Rn.has_iff {r : Rn} {d : Dot} : r.has d = true ↔ r.dev = d.dev ∧ r.frm ≤ d.n ∧ d.n ≤ r.to := by
 simp [Rn.has,and_assoc]
theorem Zj7 {l : List Rn} {d : Dot} : Zd4 l d = true ↔ ∃ r ∈ l,r.dev = d.dev ∧ r.frm ≤ d.n ∧ d.n ≤ r.to := by
 simp [Zd4,Rn.has_iff]
theorem Zyy {d : Dot} : Zd4 [] d = false := rfl
theorem Zk5 {r : Rn} {l : List Rn} {d : Dot} : Zd4 (r :: l) d = (r.has d || Zd4 l d) := by simp [Zd4]
theorem Norm.ext : ∀ {a b : List Rn},Norm a → Norm b → (∀ d,Zd4 a d = Zd4 b d) → a = b
 | [],[],_,_,_ => rfl
 | [],r :: b,_,hb,h => by
  have := h ⟨r.dev,r.frm⟩
  rw [Zyy,Zk5] at this
  have hr : r.has ⟨r.dev,r.frm⟩ = true := Rn.has_iff.2 ⟨rfl,Int.le_refl _,hb.head.ft⟩
  rw [hr] at this; cases this
 | r :: a,[],ha,_,h => by
  have := h ⟨r.dev,r.frm⟩
  rw [Zyy,Zk5] at this
  have hr : r.has ⟨r.dev,r.frm⟩ = true := Rn.has_iff.2 ⟨rfl,Int.le_refl _,ha.head.ft⟩
  rw [hr] at this; cases this
 | r :: a,q :: b,ha,hb,h => by
  have har := ha.head
  have hbq := hb.head
  have sa := (List.pairwise_cons.1 ha.sep).1
  have sb := (List.pairwise_cons.1 hb.sep).1
  have first : ∀ {r q : Rn} {a b : List Rn},r.Right → (∀ x ∈ b,Sep q x) → (∀ d,Zd4 (r :: a) d = Zd4 (q :: b) d) → (∀ x ∈ b,x.Right) → q.Right → q.dev < r.dev ∨ (q.dev = r.dev ∧ q.frm ≤ r.frm) := by
   intro r q a b hr hs h hR hq
   have h1 : Zd4 (r :: a) ⟨r.dev,r.frm⟩ = true := Zj7.2 ⟨r,by simp,rfl,Int.le_refl _,hr.ft⟩
   rw [h] at h1
   obtain ⟨x,hx,e1,e2,e3⟩ := Zj7.1 h1
   simp only at e1 e2 e3
   rcases List.mem_cons.1 hx with rfl | hx
   ·omega
   ·have := hs x hx
    have := hq.ft
    unfold Sep at *
    omega
  have f1 := first (r := r) (q := q) (a := a) (b := b) har sb h hb.tail.right hbq
  have f2 := first (r := q) (q := r) (a := b) (b := a) hbq sa (fun d => (h d).symm) ha.tail.right har
  have hdev : r.dev = q.dev := by omega
  have hfrm : r.frm = q.frm := by omega
  have last : ∀ {r q : Rn} {a b : List Rn},r.Right → (∀ x ∈ a,Sep r x) → (∀ d,Zd4 (r :: a) d = Zd4 (q :: b) d) → r.dev = q.dev → r.frm = q.frm → q.Right → q.to ≤ r.to := by
   intro r q a b hr hs h hd hf hq
   apply Decidable.byContradiction
   intro hlt
   have h1 : Zd4 (q :: b) ⟨r.dev,r.to + 1⟩ = true := Zj7.2 ⟨q,by simp,hd.symm,by have := hr.ft; simp only; omega,by simp only; omega⟩
   rw [← h] at h1
   obtain ⟨x,hx,e1,e2,e3⟩ := Zj7.1 h1
   simp only at e1 e2 e3
   rcases List.mem_cons.1 hx with rfl | hx
   ·omega
   ·have := hs x hx
    unfold Sep at *
    omega
  have l1 := last (r := r) (q := q) (a := a) (b := b) har sa h hdev hfrm hbq
  have l2 := last (r := q) (q := r) (a := b) (b := a) hbq sb (fun d => (h d).symm) hdev.symm hfrm.symm har
  have hrq : r = q := by
   obtain ⟨x,y,z⟩ := r
   obtain ⟨x',y',z'⟩ := q
   simp only at hdev hfrm l1 l2
   have : z = z' := by omega
   subst hdev; subst hfrm; subst this; rfl
  subst hrq
  have ht : ∀ d,Zd4 a d = Zd4 b d := by
   intro d
   have hd := h d
   rw [Zk5,Zk5] at hd
   have apart : ∀ {a : List Rn},(∀ x ∈ a,Sep r x) → r.has d = true → Zd4 a d = false := by
    intro a sa hr
    cases hx : Zd4 a d with
    | false => rfl
    | true =>
     exfalso
     obtain ⟨x,hx,e1,e2,e3⟩ := Zj7.1 hx
     have := sa x hx
     have := Rn.has_iff.1 hr
     unfold Sep at *
     omega
   cases hr : r.has d with
   | false => simpa [hr] using hd
   | true => rw [apart sa hr,apart sb hr]
  rw [Norm.ext ha.tail hb.tail ht]
structure OpR where
 kind : Int
 key : ByteArray
 item : ByteArray
 n : Int
 deriving DecidableEq,Inhabited
def OpR.cells (o : OpR) : List Cell := [.int .i64 o.kind,.str o.key,.str o.item,.int .i64 o.n]
attribute [go_sem] OpR.cells
abbrev Zz : ByteArray := ⟨#[]⟩
def Fact.right (f : Fact) : Bool :=
 decide ((f.key.size : Int) ≤ 40) && (if f.kind = 1 ∨ f.kind = 2 then decide ((f.item.size : Int) ≤ 200) && decide (f.num = 0)
 else if f.kind = 3 then decide (f.item = Zz) && decide (-1099511627776 ≤ f.num) && decide (f.num ≤ 1099511627776)
 else false)
end Go.Proofs.YticmfblfghdkbaaGreatDoor.Eng
