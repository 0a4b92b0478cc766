/- Parts of this claim's proof, joined. No statement of the seat is proved here. -/
import Derived.Test.YticmfblfghdkbaaGreatDoorW4
import Derived.Laws.IdiomStrings
set_option linter.unusedVariables false
set_option linter.unusedSimpArgs false
namespace Go.Proofs.YticmfblfghdkbaaGreatDoor.Eng
open Go
variable {P : Program} {B : Nat} {m : LMap} {H : Heap} {w : World}
def OpTo (P : Program) (B : Nat) (m : LMap) (H : Heap) (w : World) (s : Sem Next) (v : AVal) (H' : Heap) : Prop :=
 ∃ n v' w' m',s.run P w = .ok n w' ∧ (n = .value v' ∨ (n = .skip ∧ v' = undef)) ∧ St B H m w H' m' w' ∧ VRA m' (Zj w') v v'
theorem OpTo.same (r : Rel B m H w) {s : Sem Value} {v : AVal} {u : Value} (h : s.run P w = .ok u w) (k : VRA m (Zj w) v u) : OpTo P B m H w (do pure (.value (← s))) v H :=
 ⟨.value u,u,w,m,by simp [h],.inl rfl,St.refl r,k⟩
theorem OpTo.made {s : Sem Value} {v : AVal} {H' : Heap} (h : ∃ w' m' u,s.run P w = .ok u w' ∧ St B H m w H' m' w' ∧ VRA m' (Zj w') v u) : OpTo P B m H w (do pure (.value (← s))) v H' := by
 obtain ⟨w',m',u,h1,h2,h3⟩ := h
 exact ⟨.value u,u,w',m',by simp [h1],.inl rfl,h2,h3⟩
theorem VRA.inv_c {σ : Mem} {x : Cell} {v : Value} (h : VRA m σ (.c x) v) : VR m σ x v := by cases h; assumption
theorem VRA.inv_agg {σ : Mem} {xs : List Cell} {v : Value} (h : VRA m σ (.agg xs) v) : ∃ vs,v = .agg vs ∧ All2 (VR m σ) xs vs.toList := by cases h; exact ⟨_,rfl,by assumption⟩
theorem VR.inv_bool {σ : Mem} {b : Bool} {v : Value} (h : VR m σ (.bool b) v) : v = .bool b := by cases h; rfl
theorem VR.inv_int {σ : Mem} {k : IntKind} {n : Int} {v : Value} (h : VR m σ (.int k n) v) : v = .int k n := by cases h; rfl
theorem VR.inv_str {σ : Mem} {s : ByteArray} {v : Value} (h : VR m σ (.str s) v) : v = .string s := by cases h; rfl
theorem Zbf {x : Operand} {y : Opd} {e : Env} {a : Act} {σ : Mem} (h : Zx x = some y) (he : EnvOn m σ y.tmps e a) {c : Cell} (hc : y.ev e = .c c) : VR m σ c (a.eval x) := by
 have := Zcp h he
 rw [hc] at this
 exact this.inv_c
theorem Z8l {o : Oper} {e : Env} {H' : Heap} {v : AVal} (h : ev (Zf1 P o) e H = some (v,H')) : ∃ s,Zb6 P o = some s ∧ Zf1 P o = s := by
 cases hs : Zb6 P o with
 | none => simp [Zf1,hs,ev] at h
 | some s => exact ⟨s,rfl,by simp [Zf1,hs]⟩
theorem Zy {α : Type} {x y : α} (h : some x = some y) : x = y := by injection h
theorem Ztf {σ : Mem} {x : Operand} {y : Opd} {e : Env} {a : Act} (h : Zx x = some y) (he : EnvOn m σ y.tmps e a) {cs : List Cell} (hc : y.ev e = .agg cs) : ∃ vs,a.eval x = .agg vs ∧ All2 (VR m σ) cs vs.toList := by
 have := Zcp h he
 rw [hc] at this
 exact this.inv_agg
theorem Zpz : ∀ {rs : List (List Cell)} {l : List UInt8},Zdg rs = some l → ∃ ns : List Int,rs = ns.map (fun n => [Cell.int .u8 n]) ∧ l = ns.map fun n => UInt8.ofNat n.toNat
 | [],l,h => by simp [Zdg] at h; exact ⟨[],rfl,by simp [h]⟩
 | q :: rs,l,h => by
  unfold Zdg at h
  split at h
  ·rename_i hq; cases hq
  ·rename_i n r' hq
   injection hq with hq1 hq2
   subst hq1; subst hq2
   split at h
   ·rename_i l' hl'
    injection h with h
    obtain ⟨ns,h1,h2⟩ := Zpz hl'
    exact ⟨n :: ns,by simp [h1],by simp [← h,h2]⟩
   ·cases h
  ·cases h
theorem Z1i : ∀ (ns : List Int) (s : ByteArray),ns.foldl (fun r n => r.push (UInt8.ofNat n.toNat)) s = ⟨(s.data.toList ++ ns.map fun n => UInt8.ofNat n.toNat).toArray⟩
 | [],s => by simp
 | n :: ns,s => by
  simp only [List.foldl_cons]
  rw [Z1i ns]
  congr 1
  simp [ByteArray.push]
theorem Zbbg (r : Rel B m H w) {s d q : TypeId} (hs : P.underlying s = some (.slice q)) (hq : P.underlying q = some (.int .u8)) (hn : Zbm P q = some 1) (hd : P.underlying d = some .string) {c : Cell} (hc : ∀ t,c ≠ .str t) {rs : List (List Cell)} (hr : H.rowsOf c = some rs) (hfit : Zbi 1 c = true) {l : List UInt8} (hl : Zdg rs = some l) {v : Value} (hv : VR m (Zj w) c v) :
  (convert s d v).run P w = .ok (.string ⟨l.toArray⟩) w := by
 obtain ⟨news,n1,n2,n3,n4,n5⟩ := Zne (P := P) r hv (by omega) hfit hr
 obtain ⟨ns,e1,e2⟩ := Zpz hl
 have hnews : news = ns.map (Value.int .u8) := by
  apply List.ext_getElem?
  intro i
  rw [List.getElem?_map]
  cases hi : ns[i]? with
  | none =>
   have : ns.length ≤ i := by simpa using hi
   simp
   rw [n1,e1]
   simpa using this
  | some n =>
   obtain ⟨_,g2⟩ := n2 i [.int .u8 n] (by rw [e1,List.getElem?_map,hi]; rfl)
   obtain ⟨u,k1,k2⟩ := g2 0 (.int .u8 n) rfl
   rw [k2.inv_int] at k1
   simpa using k1
 have bytes_at : ∀ (A : Addr) (n cc : Nat),v = .slice (some A) n cc → (convert s d v).run P w = .ok (.string ⟨l.toArray⟩) w := by
  rintro A n cc rfl
  have hlen : rs.length = n := by
   have := n4
   simp [Builtin.lenOf] at this
   exact this.symm
  have hload : (loadCells A n).run P w = .ok (ns.map (Value.int .u8)).toArray w := by
   have := n5 w rfl
   rw [hlen] at this
   simpa [Builtin.firstCells,hnews] using this
  have := run_bytesToString (P := P) w A n cc ns hload
  rw [Z1i] at this
  simp [convert,run_underlying hs,run_underlying hq,run_underlying hd,this]
  rw [e2]
 cases hv with
 | nilS =>
  simp [Heap.rowsOf] at hr
  subst hr
  simp [Zdg] at hl
  subst hl
  simp [convert,run_underlying hs,run_underlying hq,run_underlying hd,Conv.bytesToString]
  rfl
 | str t => exact absurd rfl (hc t)
 | slc h1 h2 h3 h4 =>
  exact bytes_at _ _ _ rfl
 | zerN =>
  simp [Heap.rowsOf] at hr
  subst hr
  simp [Zdg] at hl
  subst hl
  simp [convert,run_underlying hs,run_underlying hq,run_underlying hd,Conv.bytesToString]
  rfl
 | zerS => exact bytes_at _ _ _ rfl
 | emp => exact bytes_at _ _ _ rfl
 | lstN =>
  simp [Heap.rowsOf] at hr
  subst hr
  simp [Zdg] at hl
  subst hl
  simp [convert,run_underlying hs,run_underlying hq,run_underlying hd,Conv.bytesToString]
  rfl
 | lst => exact bytes_at _ _ _ rfl
 | _ => simp [Zbi] at hfit
theorem Zbcq (r : Rel B m H w) {s d q : TypeId} (hs : P.underlying s = some .string) (hd : P.underlying d = some (.slice q)) (hq : P.underlying q = some (.int .u8)) (hn : Zbm P q = some 1) (t : ByteArray) (ht : t.size ≤ 140737488355328) :
  ∃ w' m' u,(convert s d (.string t)).run P w = .ok u w' ∧ St B H m w (H ++ [{ sz := 1,rows := (Zcu t).map fun c => [c] }]) m' w' ∧ VRA m' (Zj w') (.c (.slc H.length 0 t.size 1 false)) u := by
 have hrun := run_bytes_of_string (P := P) w s d q t hs hd hq
 have hge := grownCap_ge w t.size 0 q
 have hle := grownCap_le_maxLen w t.size 0 q (by unfold maxLen; omega)
 generalize grownCap w t.size 0 q = cap at hrun hge hle
 have hsz : (bytesRow t cap).size = cap := by
  have : t.data.size = t.size := rfl
  simp [bytesRow]; omega
 have hget : ∀ (i : Nat) q,((Zcu t).map fun c => [c])[i]? = some q → ∃ b,t.data.toList[i]? = some b ∧ q = [.int .u8 (b.toNat : Int)] := by
  intro i q e
  simp only [Zcu,List.map_map,List.getElem?_map] at e
  cases hb : t.data.toList[i]? with
  | none => rw [hb] at e; cases e
  | some b => rw [hb] at e; simp at e; exact ⟨b,rfl,e.symm⟩
 have hrows : RowsIn m (Zj w.drew) 1 ((Zcu t).map fun c => [c]) (bytesRow t cap) := by
  intro i q e
  obtain ⟨b,hb,rfl⟩ := hget i q e
  refine ⟨rfl,fun f x ef => ?_⟩
  have hf : f = 0 := by
   cases f with
   | zero => rfl
   | succ f => simp at ef
  subst hf
  simp at ef
  subst ef
  refine ⟨.int .u8 (b.toNat : Int),?_,.int _ _⟩
  have hi : i < t.data.size := by have := (List.getElem?_eq_some_iff.1 hb).1; simpa using this
  have hb' : t.data[i] = b := by
   have := hb
   rw [List.getElem?_eq_getElem (by simpa using hi)] at this
   injection this
  have hi2 : i < t.size := hi
  have hq2 : t.data[i]? = some b := by rw [Array.getElem?_eq_getElem hi,hb']
  simp [bytesRow,Array.getElem?_append,hi2,hq2,hb']
 have sd := St.drew r
 have sn := St.new sd.rel q { sz := 1,rows := (Zcu t).map fun c => [c],own := true,live := true } (bytesRow t cap) rfl hrows ((bytesRow t cap).size,(bytesRow t cap).size + 1) (.inl (Nat.le_refl _))
 have hnew : (w.drew.alloc (.cells (bytesRow t cap) q ((bytesRow t cap).size,(bytesRow t cap).size + 1))).heap[w.heap.size]? = some (.cells (bytesRow t cap) q ((bytesRow t cap).size,(bytesRow t cap).size + 1)) := heap_alloc_new w.drew _
 refine ⟨_,_,_,hrun,sd.trans r sn,?_⟩
 exact Zjh (m := m) (σ' := Zj (w.drew.alloc (.cells (bytesRow t cap) q ((bytesRow t cap).size,(bytesRow t cap).size + 1)))) w.heap.size H.length t.size 1 cap false hge (fun h => by cases h) hle (by rw [Zco hnew,hsz,Nat.mul_one])
theorem Zxt {e : Env} {a : Act} {σ : Mem} : ∀ {xs : List Operand} {ys : List Opd} {cs : List Cell},Ze0 xs = some ys → EnvOn m σ (ys.flatMap Opd.tmps) e a → Zjo e ys = some cs → All2 (VR m σ) cs (xs.map a.eval)
 | [],ys,cs,h,_,hc => by
  simp [Ze0] at h
  subst h
  simp [Zjo] at hc
  subst hc
  exact .nil
 | x :: xs,ys,cs,h,he,hc => by
  unfold Ze0 at h
  split at h <;> try (cases h; done)
  rename_i y ys' hy hys
  obtain rfl := Zy h
  simp only [List.flatMap_cons] at he
  unfold Zjo at hc
  split at hc <;> try (cases hc; done)
  rename_i c cs' hcy hcs
  obtain rfl := Zy hc
  exact .cons (Zbf hy he.left hcy) (Zxt hys he.right hcs)
theorem All2.pointwise {R : Cell → Value → Prop} {cs : List Cell} {vs : Array Value} (h : All2 R cs vs.toList) : cs.length = vs.size ∧ ∀ (i : Nat) c v,cs[i]? = some c → vs[i]? = some v → R c v := by
 refine ⟨by simpa using h.length,fun i c v h1 h2 => ?_⟩
 obtain ⟨u,k1,k2⟩ := h.get h1
 rw [Array.getElem?_toList] at k1
 rw [h2] at k1
 injection k1 with k1
 subst k1
 exact k2
theorem Zbdf {t q : TypeId} (ht : P.underlying t = some (.slice q)) {n : Nat} (hn : Zbm P q = some n) (A : Addr) (len cap : Nat) (k : IntKind) (i : Int) (h0 : 0 ≤ i) (h1 : i < len) :
  (Instr.indexAt t (.slice (some A) len cap) (.int k i)).run P w = .ok (.pointer (some (A.add (i.toNat * n)))) w := by
 simp [Instr.indexAt,asIntOf,run_underlying ht,h0,h1,Zck hn]
theorem Z7f {t q : TypeId} {len : Nat} (ht : P.underlying t = some (.array len q)) {n : Nat} (hn : Zbm P q = some n) (A : Addr) (k : IntKind) (i : Int) (h0 : 0 ≤ i) (h1 : i < len) :
  (Instr.indexAt t (.pointer (some A)) (.int k i)).run P w = .ok (.pointer (some (A.add (i.toNat * n)))) w := by
 simp [Instr.indexAt,Instr.sureAddr,asIntOf,run_underlying ht,h0,h1,Zck hn]
theorem Z4u (r : Rel B m H w) {o : Oper} {a : Act} {e : Env} {v : AVal} {H' : Heap} (hev : ev (Zf1 P o) e H = some (v,H')) (he : EnvOn m (Zj w) (Zf1 P o).reads e a) : OpTo P B m H w (execOp a.eval o) v H' := by
 obtain ⟨s,hs,hcs⟩ := Z8l hev
 rw [hcs] at hev he
 clear hcs
 unfold execOp
 cases ho : o.op with
 | move x =>
  simp only [Zb6,ho] at hs
  split at hs <;> try (cases hs; done)
  rename_i _ y hx
  obtain rfl := Zy hs
  simp only [ev] at hev
  injection hev with hev; injection hev with h1 h2; subst h1; subst h2
  exact ⟨_,_,w,m,rfl,.inl rfl,St.refl r,Zcp hx he⟩
 | assign x =>
  simp only [Zb6,ho] at hs
  split at hs <;> try (cases hs; done)
  rename_i _ y hx
  obtain rfl := Zy hs
  simp only [ev] at hev
  injection hev with hev; injection hev with h1 h2; subst h1; subst h2
  exact ⟨_,_,w,m,rfl,.inl rfl,St.refl r,Zcp hx he⟩
 | pick c x y =>
  simp only [Zb6,ho] at hs
  split at hs <;> try (cases hs; done)
  rename_i _ _ _ c' x' y' hc hx hy
  obtain rfl := Zy hs
  simp only [AOp.reads] at he
  simp only [ev] at hev
  split at hev <;> try (cases hev; done)
  rename_i _ b hb
  injection hev with hev; injection hev with h1 h2; subst h1; subst h2
  have h3 := (Zbf hc he.left.left hb).inv_bool
  cases b with
  | true => exact ⟨_,_,w,m,by simp [h3,asBool]; rfl,.inl rfl,St.refl r,by simpa using Zcp hx he.left.right⟩
  | false => exact ⟨_,_,w,m,by simp [h3,asBool]; rfl,.inl rfl,St.refl r,by simpa using Zcp hy he.right⟩
 | alloc t =>
  simp only [Zb6,ho] at hs
  split at hs <;> try (cases hs; done)
  rename_i _ z hz
  obtain rfl := Zy hs
  simp only [ev] at hev
  injection hev with hev; injection hev with h1 h2; subst h1; subst h2
  exact OpTo.made (Zbbf r hz)
 | box t x =>
  simp only [Zb6,ho] at hs
  split at hs <;> try (cases hs; done)
  rename_i _ y hx
  obtain rfl := Zy hs
  simp only [AOp.reads] at he
  simp only [ev] at hev
  have hxs := Zcp hx he
  split at hev
  ·rename_i _ c hc
   injection hev with hev; injection hev with h1 h2; subst h1; subst h2
   rw [hc] at hxs
   exact OpTo.made (Z0p r hxs (.inl (by simp [AVal.cells])))
  ·rename_i _ cs hc
   injection hev with hev; injection hev with h1 h2; subst h1; subst h2
   rw [hc] at hxs
   exact OpTo.made (Z0p r hxs (.inr ⟨_,rfl⟩))
  ·cases hev
 | build t parts =>
  simp only [Zb6,ho] at hs
  split at hs <;> try (cases hs; done)
  ·rename_i _ _ fs z ht hz
   split at hs <;> try (cases hs; done)
   rename_i _ ps hp
   split at hs <;> try (cases hs; done)
   rename_i hall
   obtain rfl := Zy hs
   simp only [AOp.reads] at he
   simp only [ev] at hev
   split at hev <;> try (cases hev; done)
   rename_i _ cs hf
   injection hev with hev; injection hev with h1 h2; subst h1; subst h2
   obtain ⟨u,h3,h4⟩ := Z56 (w := w) ht hz hall.1 hp he (by
    intro p hp
    have := List.all_eq_true.1 hall.2 p hp
    simpa using this) hf
   exact OpTo.same r h3 h4
  ·rename_i _ _ _ q z ht hz
   split at hs <;> try (cases hs; done)
   rename_i _ n hn
   split at hs <;> try (cases hs; done)
   rename_i _ ps hp
   split at hs <;> try (cases hs; done)
   rename_i hpos
   obtain rfl := Zy hs
   simp only [AOp.reads] at he
   simp only [ev] at hev
   split at hev <;> try (cases hev; done)
   rename_i _ cs hf
   injection hev with hev; injection hev with h1 h2; subst h1; subst h2
   obtain ⟨u,h3,h4⟩ := Z3l (w := w) ht hz hn hpos hp he hf
   exact OpTo.same r h3 h4
 | buildSlice t len parts =>
  simp only [Zb6,ho] at hs
  split at hs <;> try (cases hs; done)
  rename_i _ q ht
  split at hs <;> try (cases hs; done)
  rename_i _ _ _ n z ps hn hz hp
  split at hs <;> try (cases hs; done)
  rename_i hc
  obtain rfl := Zy hs
  simp only [AOp.reads] at he
  simp only [ev] at hev
  split at hev <;> try (cases hev; done)
  rename_i _ rows hf
  injection hev with hev; injection hev with h1 h2; subst h1; subst h2
  exact OpTo.made (Zbc8 r ht hn hz hc.2.1 hc.2.2 hc.1 hp he hf)
 | load t x =>
  simp only [Zb6,ho] at hs
  split at hs <;> try (cases hs; done)
  rename_i _ _ _ g n y hg hn hx
  split at hs <;> try (cases hs; done)
  obtain rfl := Zy hs
  simp only [AOp.reads] at he
  simp only [ev] at hev
  split at hev <;> try (cases hev; done)
  ·rename_i _ b i f hb
   split at hev <;> try (cases hev; done)
   rename_i _ q hq
   split at hev <;> try (cases hev; done)
   rename_i hfn
   split at hev <;> try (cases hev; done)
   rename_i _ v' hv
   injection hev with hev; injection hev with h1 h2; subst h1; subst h2
   have ha := Zcp hx he
   rw [hb] at ha
   obtain ⟨u,h3,h4⟩ := Zx5 r hg hn ha hq hfn hv
   exact OpTo.same r h3 h4
  ·rename_i _ q f hb
   split at hev <;> try (cases hev; done)
   rename_i hfn
   split at hev <;> try (cases hev; done)
   rename_i _ v' hv
   injection hev with hev; injection hev with h1 h2; subst h1; subst h2
   obtain ⟨u,h3,h4⟩ := Zvw (P := P) hg hn (Zbf hx he hb) hfn hv
   exact OpTo.same r h3 h4
 | store t x y =>
  simp only [Zb6,ho] at hs
  split at hs <;> try (cases hs; done)
  rename_i _ _ _ n x' y' hn hx hy
  obtain rfl := Zy hs
  simp only [AOp.reads] at he
  simp only [ev] at hev
  split at hev <;> try (cases hev; done)
  rename_i _ b i f hb
  split at hev <;> try (cases hev; done)
  rename_i _ q hq
  split at hev <;> try (cases hev; done)
  rename_i hc
  injection hev with hev; injection hev with h1 h2; subst h1; subst h2
  have ha := Zcp hx he.left
  rw [hb] at ha
  have hv := Zcp hy he.right
  obtain ⟨w',h3,h4⟩ := Z6r r hn ha hv (.inl (by intro h0; rw [h0] at hc; simp at hc; omega)) hq hc.1 hc.2.1 hc.2.2.1 hc.2.2.2
  exact ⟨.skip,undef,w',m,by simp [h3],.inr ⟨rfl,rfl⟩,h4,VRA.undef⟩
 | nilCheck x =>
  simp only [Zb6,ho] at hs
  split at hs <;> try (cases hs; done)
  rename_i _ y hx
  obtain rfl := Zy hs
  simp only [AOp.reads] at he
  simp only [ev] at hev
  have hxs := Zcp hx he
  split at hev <;> try (cases hev; done)
  rename_i h1 h2 h3
  injection hev with hev; injection hev with h4 h5; subst h4; subst h5
  refine ⟨.value (a.eval x),a.eval x,w,m,?_,.inl rfl,St.refl r,hxs⟩
  dsimp only
  generalize a.eval x = va at hxs
  generalize y.ev e = ya at *
  cases hxs with
  | c hxs =>
   cases hxs <;> first
    | (exfalso; exact h1 rfl)
    | (exfalso; exact h2 rfl)
    | (exfalso; exact h3 rfl)
    | rfl
  | agg k => rfl
  | tup k1 k2 => rfl
 | binOp op t x y yt =>
  simp only [Zb6,ho,Zx4] at hs
  split at hs <;> try (cases hs; done)
  rename_i _ _ x' y' hx hy
  have plain : AOp.bin op x' y' = s → OpTo P B m H w (do pure (.value (← (do eqGuard op t x y (a.eval x) (a.eval y); binOp op t (a.eval x) (a.eval y) : Sem Value)))) v H' := by
   intro hs'
   subst hs'
   simp only [AOp.reads] at he
   simp only [ev] at hev
   split at hev <;> try (cases hev; done)
   rename_i _ _ cx cy hcx hcy
   split at hev <;> try (cases hev; done)
   rename_i _ c hc
   injection hev with hev; injection hev with h1 h2; subst h1; subst h2
   obtain ⟨u,h3,h4⟩ := Zbcd (P := P) (w := w) hc (t := t) (Zbf hx he.left hcx) (Zbf hy he.right hcy) x y
   exact OpTo.same r h3 (.c h4)
  have bools : ∀ neg : Bool,op = (if neg then BinOp.neq else BinOp.eql) → P.underlying t = some .bool → AOp.binB neg x' y' = s → OpTo P B m H w (do pure (.value (← (do eqGuard op t x y (a.eval x) (a.eval y); binOp op t (a.eval x) (a.eval y) : Sem Value)))) v H' := by
   intro neg hop ht hs'
   subst hs'
   simp only [AOp.reads] at he
   simp only [ev] at hev
   split at hev <;> try (cases hev; done)
   rename_i _ _ cx cy hcx hcy
   injection hev with hev; injection hev with h1 h2; subst h1; subst h2
   have e1 := (Zbf hx he.left hcx).inv_bool
   have e2 := (Zbf hy he.right hcy).inv_bool
   rw [e1,e2]
   exact OpTo.same r (Zbew hop ht x y) (.c (.bool _))
  have nils : ∀ (sl neg : Bool),op = (if neg then BinOp.neq else BinOp.eql) → (if sl then ∃ q,P.underlying t = some (.slice q) else ∃ ms,P.underlying t = some (.interface ms)) → (Zgg x || Zgg y) = true → AOp.eqNil sl neg x' y' = s →
    OpTo P B m H w (do pure (.value (← (do eqGuard op t x y (a.eval x) (a.eval y); binOp op t (a.eval x) (a.eval y) : Sem Value)))) v H' := by
   intro sl neg hop ht hnc hs'
   subst hs'
   simp only [AOp.reads] at he
   simp only [ev] at hev
   split at hev <;> try (cases hev; done)
   rename_i _ _ cx cy hcx hcy
   split at hev <;> try (cases hev; done)
   rename_i _ b hb
   injection hev with hev; injection hev with h1 h2; subst h1; subst h2
   obtain ⟨u,h3,h4⟩ := Zbcv (P := P) (w := w) hb ht (Zbf hx he.left hcx) (Zbf hy he.right hcy) x y hnc op hop
   exact OpTo.same r h3 (.c h4)
  have structs : ∀ (neg : Bool) (ks : List Nat) (fs : Array Field),op = (if neg then BinOp.neq else BinOp.eql) → P.underlying t = some (.struct fs) → Zgu P 8 t = some ks → P.eqGuardType P.depth t = false → AOp.eqS neg ks x' y' = s →
    OpTo P B m H w (do pure (.value (← (do eqGuard op t x y (a.eval x) (a.eval y); binOp op t (a.eval x) (a.eval y) : Sem Value)))) v H' := by
   intro neg ks fs hop ht hks hgd hs'
   subst hs'
   simp only [AOp.reads] at he
   simp only [ev] at hev
   split at hev <;> try (cases hev; done)
   rename_i _ _ cx cy hcx hcy
   split at hev <;> try (cases hev; done)
   rename_i _ b hb
   injection hev with hev; injection hev with h1 h2; subst h1; subst h2
   obtain ⟨us,e1,k1⟩ := Ztf hx he.left hcx
   obtain ⟨vs,e2,k2⟩ := Ztf hy he.right hcy
   rw [e1,e2]
   exact OpTo.same r (Zbdb hb ht hks hgd k1 k2 x y op hop) (.c (.bool _))
  split at hs <;> try (cases hs; done)
  ·exact plain (Zy hs)
  ·exact plain (Zy hs)
  ·rename_i _ ht
   split at hs <;> try (cases hs; done)
   ·exact bools false rfl ht (Zy hs)
   ·exact bools true rfl ht (Zy hs)
  ·rename_i _ fs ht
   split at hs <;> try (cases hs; done)
   ·rename_i _ _ ks hks
    split at hs <;> try (cases hs; done)
    rename_i hgd
    exact structs false ks fs rfl ht hks (by simpa using hgd) (Zy hs)
   ·rename_i _ _ ks hks
    split at hs <;> try (cases hs; done)
    rename_i hgd
    exact structs true ks fs rfl ht hks (by simpa using hgd) (Zy hs)
  ·rename_i _ q ht
   split at hs <;> try (cases hs; done)
   rename_i hnc
   split at hs <;> try (cases hs; done)
   ·exact nils true false rfl (by simpa using ⟨q,ht⟩) hnc (Zy hs)
   ·exact nils true true rfl (by simpa using ⟨q,ht⟩) hnc (Zy hs)
  ·rename_i _ q ht
   split at hs <;> try (cases hs; done)
   rename_i hnc
   split at hs <;> try (cases hs; done)
   ·exact nils false false rfl (by simpa using ⟨q,ht⟩) hnc (Zy hs)
   ·exact nils false true rfl (by simpa using ⟨q,ht⟩) hnc (Zy hs)
 | unOp op t x =>
  simp only [Zb6,ho] at hs
  split at hs <;> try (cases hs; done)
  rename_i _ y hx
  obtain rfl := Zy hs
  simp only [AOp.reads] at he
  simp only [ev] at hev
  split at hev <;> try (cases hev; done)
  rename_i _ c hc
  split at hev <;> try (cases hev; done)
  rename_i _ c' hc'
  injection hev with hev; injection hev with h1 h2; subst h1; subst h2
  obtain ⟨u,h3,h4⟩ := Zbei (P := P) (w := w) hc' (Zbf hx he hc)
  exact OpTo.same r h3 (.c h4)
 | convert s d x =>
  simp only [Zb6,ho] at hs
  dsimp only
  split at hs <;> try (cases hs; done)
  ·rename_i _ _ _ ks k y h1 h2 hx
   obtain rfl := Zy hs
   simp only [AOp.reads] at he
   simp only [ev] at hev
   split at hev <;> try (cases hev; done)
   rename_i _ k' n hc
   injection hev with hev; injection hev with e1 e2; subst e1; subst e2
   have := (Zbf hx he hc).inv_int
   rw [this]
   exact OpTo.same r (Z76 h1 h2 k' n) (.c (.int _ _))
  ·rename_i _ _ _ y h1 h2 hx
   obtain rfl := Zy hs
   simp only [AOp.reads] at he
   simp only [ev] at hev
   split at hev <;> try (cases hev; done)
   rename_i _ t hc
   injection hev with hev; injection hev with e1 e2; subst e1; subst e2
   have := (Zbf hx he hc).inv_str
   rw [this]
   exact OpTo.same r (Z1p h1 h2 t) (.c (.str _))
  ·rename_i _ _ _ q y h1 h2 hx
   split at hs <;> try (cases hs; done)
   rename_i _ hq
   split at hs <;> try (cases hs; done)
   rename_i hn
   obtain rfl := Zy hs
   simp only [AOp.reads] at he
   simp only [ev] at hev
   split at hev <;> try (cases hev; done)
   rename_i _ c hc
   split at hev <;> try (cases hev; done)
   rename_i _ hstr
   split at hev <;> try (cases hev; done)
   rename_i hfit
   split at hev <;> try (cases hev; done)
   rename_i _ rs hrs
   split at hev <;> try (cases hev; done)
   rename_i _ l hl
   injection hev with hev; injection hev with e1 e2; subst e1; subst e2
   exact OpTo.same r (Zbbg r h1 hq hn h2 (fun t ht => hstr t ht) hrs hfit hl (Zbf hx he hc)) (.c (.str _))
  ·rename_i _ _ _ q y h1 h2 hx
   split at hs <;> try (cases hs; done)
   rename_i _ hq
   split at hs <;> try (cases hs; done)
   rename_i hn
   obtain rfl := Zy hs
   simp only [AOp.reads] at he
   simp only [ev] at hev
   split at hev <;> try (cases hev; done)
   rename_i _ t hc
   split at hev <;> try (cases hev; done)
   rename_i hsz
   injection hev with hev; injection hev with e1 e2; subst e1; subst e2
   rw [(Zbf hx he hc).inv_str]
   exact OpTo.made (Zbcq r h1 h2 hq hn t hsz)
 | makeInterface t x =>
  simp only [Zb6,ho] at hs
  dsimp only
  split at hs <;> try (cases hs; done)
  rename_i _ _ dd y hni ht hx
  obtain rfl := Zy hs
  simp only [AOp.reads] at he
  simp only [ev] at hev
  have hrun : ∀ v,(Instr.makeInterface t v).run P w = .ok (.iface t v) w := by
   intro v
   cases dd <;> first
    | (exfalso; exact hni _ rfl)
    | simp [Instr.makeInterface,run_underlying ht]
  split at hev <;> try (cases hev; done)
  ·rename_i _ c hc
   injection hev with hev; injection hev with e1 e2; subst e1; subst e2
   exact OpTo.same r (hrun _) (.c (.ifaceC (Zbf hx he hc)))
  ·rename_i _ cs hc
   injection hev with hev; injection hev with e1 e2; subst e1; subst e2
   obtain ⟨vs,e1,k⟩ := Ztf hx he hc
   rw [e1]
   exact OpTo.same r (hrun _) (.c (.ifaceA k.pointwise.1 k.pointwise.2))
 | makeFunc fn first caps =>
  cases fn <;> simp only [Zb6,ho] at hs <;> try (cases hs; done)
  split at hs <;> try (cases hs; done)
  rename_i f hf0
  split at hs <;> try (cases hs; done)
  rename_i _ cs hcs
  obtain rfl := Zy hs
  simp only [AOp.reads] at he
  simp only [ev] at hev
  split at hev <;> try (cases hev; done)
  rename_i _ l hl
  injection hev with hev; injection hev with e1 e2; subst e1; subst e2
  have hfirst : first = #[] := Array.eq_empty_of_size_eq_zero hf0
  subst hfirst
  have hc := Zxt hcs he hl
  have hc' : All2 (VR m (Zj w)) l (caps.map a.eval).toList := by simpa using hc
  exact OpTo.same r (u := .func (.func f) #[] (caps.map a.eval)) (by simp [Instr.makeFunc]) (.c (.fn hc'.pointwise.1 hc'.pointwise.2))
 | makeSlice t l c =>
  simp only [Zb6,ho] at hs
  dsimp only
  split at hs <;> try (cases hs; done)
  rename_i _ q ht
  split at hs <;> try (cases hs; done)
  rename_i _ _ _ _ _ n b z l' c' hn hb hz hl hc
  split at hs <;> try (cases hs; done)
  rename_i hzn
  obtain rfl := Zy hs
  simp only [AOp.reads] at he
  simp only [ev] at hev
  split at hev <;> try (cases hev; done)
  rename_i _ _ kl lv kc cv hlv hcv
  split at hev <;> try (cases hev; done)
  rename_i hcond
  injection hev with hev; injection hev with e1 e2; subst e1; subst e2
  obtain ⟨g0,g1,g2,g3⟩ := hcond
  subst g1
  rw [(Zbf hl he.left hlv).inv_int,(Zbf hc he.right hcv).inv_int]
  exact OpTo.made (Z8s r ht hn hb hz hzn.1 hzn.2 g0 g2 g3)
 | slice t x lo hi mx =>
  simp only [Zb6,ho] at hs
  dsimp only
  split at hs <;> try (cases hs; done)
  ·rename_i _ _ _ _ _ y lo' hi' ht hx hlo hhi hmx
   obtain rfl := Zy hs
   simp only [AOp.reads] at he
   simp only [ev] at hev
   split at hev <;> try (cases hev; done)
   rename_i _ s' hc
   split at hev <;> try (cases hev; done)
   rename_i _ q hq
   injection hev with hev; injection hev with e1 e2; subst e1; subst e2
   rw [(Zbf hx he.left.left hc).inv_str]
   have hmn : mx = none := by
    cases mx with
    | none => rfl
    | some o => simp only [cmpO] at hmx; split at hmx <;> cases hmx
   subst hmn
   exact OpTo.same r (Zbax hlo hhi he.left.right he.right hq ht) (.c (.str _))
  ·rename_i _ _ _ _ _ n q y ht hx hlo hhi hmx
   split at hs <;> try (cases hs; done)
   rename_i _ sz hn
   split at hs <;> try (cases hs; done)
   obtain rfl := Zy hs
   simp only [AOp.reads] at he
   simp only [ev] at hev
   split at hev <;> try (cases hev; done)
   rename_i _ row f hb
   split at hev <;> try (cases hev; done)
   rename_i hfn
   injection hev with hev; injection hev with e1 e2; subst e1; subst e2
   have none_of : ∀ {o : Option Operand},cmpO o = some none → o = none := by
    intro o ho
    cases o with
    | none => rfl
    | some o => simp only [cmpO] at ho; split at ho <;> cases ho
   obtain rfl := none_of hlo
   obtain rfl := none_of hhi
   obtain rfl := none_of hmx
   obtain ⟨u,h3,h4⟩ := Zba3 (P := P) (w := w) hfn.1 hfn.2 ht hn (Zbf hx he hb)
   exact OpTo.same r h3 (.c h4)
  ·rename_i _ _ _ _ _ q y lo' hi' mx' ht hx hlo hhi hmx
   split at hs <;> try (cases hs; done)
   rename_i _ n hn
   split at hs <;> try (cases hs; done)
   rename_i hcond
   obtain rfl := Zy hs
   simp only [AOp.reads] at he
   simp only [ev] at hev
   split at hev <;> try (cases hev; done)
   rename_i _ c hc
   split at hev <;> try (cases hev; done)
   rename_i hfit
   split at hev <;> try (cases hev; done)
   rename_i _ c' hc'
   injection hev with hev; injection hev with e1 e2; subst e1; subst e2
   obtain ⟨u,h3,h4⟩ := Zbfz (P := P) (w := w) hlo hhi hmx he.left.left.right he.left.right he.right hcond.2 hc' hfit ht hn (Zbf hx he.left.left.left hc)
   exact OpTo.same r h3 (.c h4)
 | fieldAddr t x i =>
  simp only [Zb6,ho] at hs
  dsimp only
  split at hs <;> try (cases hs; done)
  rename_i _ _ fs y ht hx
  split at hs <;> try (cases hs; done)
  rename_i _ f hf
  split at hs <;> try (cases hs; done)
  rename_i _ n hn
  split at hs <;> try (cases hs; done)
  rename_i hn0
  obtain rfl := Zy hs
  simp only [AOp.reads] at he
  simp only [ev] at hev
  split at hev <;> try (cases hev; done)
  ·rename_i _ b i' f' hc
   injection hev with hev; injection hev with e1 e2; subst e1; subst e2
   have hp := Zbf hx he hc
   generalize a.eval x = va at hp
   cases hp with
   | ptr hb =>
    rename_i L
    refine OpTo.same r (u := .pointer (some ⟨L.g,L.o + i' * L.sz + (f' + f.offset),none⟩)) ?_ (.c (.ptr hb))
    simp [Instr.fieldAt,run_underlying ht,hf,Instr.sureAddr,fieldPlace,Zck hn,show ¬ n = 0 by omega,Zcf,Nat.add_assoc]
  ·rename_i _ row f' hc
   injection hev with hev; injection hev with e1 e2; subst e1; subst e2
   have hp := Zbf hx he hc
   generalize a.eval x = va at hp
   cases hp with
   | @fp _ g o _ vs h1 h2 h3 =>
    refine OpTo.same r (u := .pointer (some ⟨g,o + (f' + f.offset),none⟩)) ?_ (.c (.fp h1 h2 h3))
    simp [Instr.fieldAt,run_underlying ht,hf,Instr.sureAddr,fieldPlace,Zck hn,show ¬ n = 0 by omega,Zcf,Nat.add_assoc]
 | field t x i =>
  simp only [Zb6,ho] at hs
  dsimp only
  split at hs <;> try (cases hs; done)
  rename_i _ _ fs y ht hx
  split at hs <;> try (cases hs; done)
  rename_i _ f hf
  split at hs <;> try (cases hs; done)
  rename_i _ _ g n hg hn
  split at hs <;> try (cases hs; done)
  rename_i hgn
  obtain rfl := Zy hs
  simp only [AOp.reads] at he
  simp only [ev] at hev
  split at hev <;> try (cases hev; done)
  rename_i _ cs hc
  split at hev <;> try (cases hev; done)
  rename_i hle
  split at hev <;> try (cases hev; done)
  rename_i _ v' hv
  injection hev with hev; injection hev with e1 e2; subst e1; subst e2
  obtain ⟨vs,e1,k⟩ := Ztf hx he hc
  rw [e1]
  obtain ⟨u,h3,h4⟩ := Zme (P := P) (w := w) hg hn hgn k hle hv
  exact OpTo.same r (by simp [Instr.field,run_underlying ht,hf,asAgg,h3]) h4
 | indexAddr t x i =>
  simp only [Zb6,ho] at hs
  dsimp only
  split at hs <;> try (cases hs; done)
  ·rename_i _ _ _ q y j ht hx hi
   split at hs <;> try (cases hs; done)
   rename_i _ n hn
   split at hs <;> try (cases hs; done)
   obtain rfl := Zy hs
   simp only [AOp.reads] at he
   simp only [ev] at hev
   split at hev <;> try (cases hev; done)
   ·rename_i _ _ b s' n' sz z k iv hc hiv
    split at hev <;> try (cases hev; done)
    rename_i hcond
    injection hev with hev; injection hev with e1 e2; subst e1; subst e2
    have hp := Zbf hx he.left hc
    rw [(Zbf hi he.right hiv).inv_int]
    generalize a.eval x = va at hp
    cases hp with
    | slc h1 h2 h3 h4 =>
     rename_i A c
     obtain ⟨L,e1,ez,h5⟩ := h4
     obtain ⟨ea,_⟩ := h5 (by omega)
     refine OpTo.same r (Zbdf ht hn A n' c k iv hcond.2.1 hcond.2.2) (.c ?_)
     have := VR.ptr (σ := Zj w) (i := s' + iv.toNat) (f := 0) e1
     rw [ea,Zcf]
     rw [ez,Nat.add_zero,Nat.add_mul,← Nat.add_assoc] at this
     rw [hcond.1] at this ⊢
     exact this
   ·rename_i _ _ sz rows k iv hc hiv
    split at hev <;> try (cases hev; done)
    rename_i hcond
    split at hev <;> try (cases hev; done)
    rename_i _ row hrow
    injection hev with hev; injection hev with e1 e2; subst e1; subst e2
    obtain ⟨hsz,hi0⟩ := hcond
    subst hsz
    have hil : iv.toNat < rows.length := (List.getElem?_eq_some_iff.1 hrow).1
    have hp := Zbf hx he.left hc
    rw [(Zbf hi he.right hiv).inv_int]
    generalize a.eval x = va at hp
    cases hp with
    | lstN => simp at hrow
    | @lst _ A c g o _ vs h1 h2 h3 h4 h5 h6 =>
     obtain ⟨ea,hz⟩ := h3 (by intro h0; subst h0; simp at hrow)
     refine OpTo.same r (Zbdf ht hn A rows.length c k iv hi0 (by omega)) (.c ?_)
     have := VR.fp (m := m) (σ := Zj w) (row := row) (f := 0) (g := g) (o := o + iv.toNat * sz) (vs := vs iv.toNat) hz (fun j x ej => h5 _ row j x hrow ej) (fun j x ej => h6 _ row j x hrow ej)
     rw [ea,Zcf]
     exact this
  ·rename_i _ _ _ len q y j ht hx hi
   split at hs <;> try (cases hs; done)
   rename_i _ n hn
   split at hs <;> try (cases hs; done)
   obtain rfl := Zy hs
   simp only [AOp.reads] at he
   simp only [ev] at hev
   split at hev <;> try (cases hev; done)
   rotate_left
   ·rename_i _ _ row f k iv hc hiv
    split at hev <;> try (cases hev; done)
    rename_i hcond
    injection hev with hev; injection hev with e1 e2; subst e1; subst e2
    have hp := Zbf hx he.left hc
    rw [(Zbf hi he.right hiv).inv_int]
    generalize a.eval x = va at hp
    cases hp with
    | @fp _ g o _ vs h1 h2 h3 =>
     refine OpTo.same r (Z7f ht hn _ k iv hcond.1 hcond.2) (.c ?_)
     have := VR.fp (f := f + iv.toNat * n) h1 h2 h3
     rw [Zcf,Nat.add_assoc]
     exact this
   rename_i _ _ b rr f k iv hc hiv
   split at hev <;> try (cases hev; done)
   rename_i hcond
   injection hev with hev; injection hev with e1 e2; subst e1; subst e2
   have hp := Zbf hx he.left hc
   rw [(Zbf hi he.right hiv).inv_int]
   generalize a.eval x = va at hp
   cases hp with
   | ptr hb =>
    rename_i L
    refine OpTo.same r (Z7f ht hn _ k iv hcond.1 hcond.2) (.c ?_)
    have := VR.ptr (σ := Zj w) (i := rr) (f := f + iv.toNat * n) hb
    rw [Zcf,Nat.add_assoc]
    exact this
 | index t x i =>
  simp only [Zb6,ho] at hs
  dsimp only
  split at hs <;> try (cases hs; done)
  ·rename_i _ _ _ y j ht hx hi
   obtain rfl := Zy hs
   simp only [AOp.reads] at he
   simp only [ev] at hev
   split at hev <;> try (cases hev; done)
   rename_i _ _ s' k iv hc hiv
   split at hev <;> try (cases hev; done)
   rename_i hcond
   injection hev with hev; injection hev with e1 e2; subst e1; subst e2
   rw [(Zbf hx he.left hc).inv_str,(Zbf hi he.right hiv).inv_int]
   exact OpTo.same r (Zbh1 s' ht k iv hcond) (.c (.int _ _))
  ·rename_i _ _ _ len q y j ht hx hi
   split at hs <;> try (cases hs; done)
   rename_i _ _ g n hg hn
   split at hs <;> try (cases hs; done)
   rename_i hgn
   obtain rfl := Zy hs
   simp only [AOp.reads] at he
   simp only [ev] at hev
   split at hev <;> try (cases hev; done)
   rename_i _ _ cs k iv hc hiv
   split at hev <;> try (cases hev; done)
   rename_i hcond
   split at hev <;> try (cases hev; done)
   rename_i _ v' hv
   injection hev with hev; injection hev with e1 e2; subst e1; subst e2
   obtain ⟨vs,e1,k1⟩ := Ztf hx he.left hc
   rw [e1,(Zbf hi he.right hiv).inv_int]
   obtain ⟨u,h3,h4⟩ := Zme (P := P) (w := w) hg hn hgn k1 hcond.2.2 hv
   exact OpTo.same r (by simp [Instr.index,asIntOf,run_underlying ht,hcond.1,hcond.2.1,Zck hn,h3]) h4
 | extract x i =>
  simp only [Zb6,ho] at hs
  dsimp only
  split at hs <;> try (cases hs; done)
  rename_i _ y hx
  obtain rfl := Zy hs
  simp only [AOp.reads] at he
  simp only [ev] at hev
  split at hev <;> try (cases hev; done)
  rename_i _ vs hc
  split at hev <;> try (cases hev; done)
  rename_i _ v' hv
  injection hev with hev; injection hev with e1 e2; subst e1; subst e2
  have hp := Zcp hx he
  rw [hc] at hp
  generalize a.eval x = va at hp
  cases hp with
  | tup hl hk =>
   rename_i us
   have hlt : i < us.size := by rw [← hl]; exact (List.getElem?_eq_some_iff.1 hv).1
   have hu : us[i]? = some us[i] := Array.getElem?_eq_getElem hlt
   exact OpTo.same r (by simp [Instr.extract,hu]) (hk i _ _ hv hu)
 | call c =>
  simp only [Zb6,ho,Zuf] at hs
  dsimp only
  obtain ⟨callee,args,argTypes⟩ := c
  simp only at hs
  have key : ∀ {t : TypeId} {x : Operand} (n : Nat),(Builtin.len_ #[t] o.type #[a.eval x]).run P w = .ok (.int .i64 n) w → v = .c (.int .i64 n) → H' = H →
    OpTo P B m H w (do let d ← resolve a.eval { callee := .builtin .len,args := #[x],argTypes := #[t] } o.type; invoke d.target d.args) v H' := by
   intro t x n h1 h2 h3
   subst h2; subst h3
   have h4 := OpTo.same (s := Builtin.len_ #[t] o.type #[a.eval x]) r h1 (.c (.int _ _))
   simpa [resolve,invoke,builtin] using h4
  split at hs <;> try (cases hs; done)
  ·
   split at hs <;> try (cases hs; done)
   obtain rfl := Zy hs
   simp only [ev] at hev
   cases hev
  ·
   split at hs <;> try (cases hs; done)
   rename_i _ _ t x h1 h2
   obtain rfl : argTypes = #[t] := Array.ext' (by simpa using h1)
   obtain rfl : args = #[x] := Array.ext' (by simpa using h2)
   split at hs <;> try (cases hs; done)
   ·rename_i _ _ y ht hx
    obtain rfl := Zy hs
    simp only [AOp.reads] at he
    simp only [ev] at hev
    split at hev <;> try (cases hev; done)
    rename_i _ q hc
    injection hev with hev; injection hev with e1 e2
    have hv := (Zbf hx he hc).inv_str
    exact key q.size (by rw [hv]; simp [Builtin.len_,run_underlying ht,goInt]) e1.symm e2.symm
   ·rename_i _ _ q y ht hx
    obtain rfl := Zy hs
    simp only [AOp.reads] at he
    simp only [ev] at hev
    split at hev <;> try (cases hev; done)
    ·rename_i _ hc
     injection hev with hev; injection hev with e1 e2
     have hv := Zbf hx he hc
     refine key 0 ?_ e1.symm e2.symm
     generalize a.eval x = va at hv
     cases hv
     simp [Builtin.len_,run_underlying ht,goInt]
    ·rename_i _ b s n sz z hc
     injection hev with hev; injection hev with e1 e2
     have hv := Zbf hx he hc
     refine key n ?_ e1.symm e2.symm
     generalize a.eval x = va at hv
     cases hv
     simp [Builtin.len_,run_underlying ht,goInt]
    ·rename_i _ sz rows hc
     injection hev with hev; injection hev with e1 e2
     have hv := Zbf hx he hc
     refine key rows.length ?_ e1.symm e2.symm
     generalize a.eval x = va at hv
     cases hv <;> simp [Builtin.len_,run_underlying ht,goInt]
    ·rename_i _ sz hc
     injection hev with hev; injection hev with e1 e2
     have hv := Zbf hx he hc
     refine key 0 ?_ e1.symm e2.symm
     generalize a.eval x = va at hv
     cases hv <;> simp [Builtin.len_,run_underlying ht,goInt]
    ·rename_i _ sz hc
     injection hev with hev; injection hev with e1 e2
     have hv := Zbf hx he hc
     refine key 0 ?_ e1.symm e2.symm
     generalize a.eval x = va at hv
     cases hv <;> simp [Builtin.len_,run_underlying ht,goInt]
  ·
   split at hs <;> try (cases hs; done)
   rename_i _ _ t x h1 h2
   obtain rfl : argTypes = #[t] := Array.ext' (by simpa using h1)
   obtain rfl : args = #[x] := Array.ext' (by simpa using h2)
   split at hs <;> try (cases hs; done)
   rename_i _ _ q y ht hx
   obtain rfl := Zy hs
   simp only [AOp.reads] at he
   simp only [ev] at hev
   have none_ : ∀ base n,a.eval x = .slice base n 0 → v = .c (.int .i64 0) → H' = H → OpTo P B m H w (do let d ← resolve a.eval { callee := .builtin .cap,args := #[x],argTypes := #[t] } o.type; invoke d.target d.args) v H' := by
    intro base n h1 h2 h3
    subst h2; subst h3
    have hrun : (Builtin.cap_ #[t] o.type #[a.eval x]).run P w = .ok (.int .i64 0) w := by
     rw [h1]
     simp [Builtin.cap_,run_underlying ht,goInt]
    have h4 := OpTo.same (s := Builtin.cap_ #[t] o.type #[a.eval x]) r hrun (.c (.int _ _))
    simpa [resolve,invoke,builtin] using h4
   split at hev <;> try (cases hev; done)
   ·rename_i _ hc
    injection hev with hev; injection hev with e1 e2
    have hv := Zbf hx he hc
    generalize hva : a.eval x = va at hv none_
    cases hv
    exact none_ _ _ rfl e1.symm e2.symm
   ·rename_i _ _ hc
    injection hev with hev; injection hev with e1 e2
    have hv := Zbf hx he hc
    generalize hva : a.eval x = va at hv none_
    cases hv <;> exact none_ _ _ rfl e1.symm e2.symm
   ·rename_i _ _ _ _ _ hc
    injection hev with hev; injection hev with e1 e2
    have hv := Zbf hx he hc
    generalize hva : a.eval x = va at hv none_
    cases hv with
    | slc h1 h2 h3 h4 =>
     have := h2 rfl
     subst this
     exact none_ _ _ rfl e1.symm e2.symm
  ·
   split at hs <;> try (cases hs; done)
   rename_i _ _ t u x y h1 h2
   obtain rfl : argTypes = #[t,u] := Array.ext' (by simpa using h1)
   obtain rfl : args = #[x,y] := Array.ext' (by simpa using h2)
   split at hs <;> try (cases hs; done)
   rename_i _ _ _ _ q d x' y' ht hu hx hy
   split at hs <;> try (cases hs; done)
   rename_i _ _ _ n b z hn hb hz
   split at hs <;> try (cases hs; done)
   rename_i hcond
   split at hs
   rotate_left
   ·split at hs <;> try (cases hs; done)
    rename_i _ ik
    obtain rfl := Zy hs
    simp only [AOp.reads] at he
    simp only [ev] at hev
    split at hev <;> try (cases hev; done)
    ·rename_i _ _ k' l hcx hcy
     split at hev <;> try (cases hev; done)
     rename_i hl
     injection hev with hev; injection hev with e1 e2; subst e1; subst e2
     have h1 := Zbf hx he.left hcx
     have h2 := (Zbf hy he.right hcy).inv_int
     have := Z8e (P := P) (ty := o.type) (k' := k') r ht hu hn hb hz hcond.1 hcond.2.1 hcond.2.2 hl.1 hl.2.1 hl.2.2
     rw [← h2] at this
     generalize hva : a.eval x = va at h1
     cases h1
     rw [← hva] at this
     have h4 := OpTo.made this
     simpa [resolve,invoke,builtin] using h4
    ·rename_i _ _ b1 s1 m1 sz1 zz1 k' l hcx hcy
     split at hev <;> try (cases hev; done)
     rename_i hl
     obtain ⟨hl,hs0,hz0,hszz⟩ := hl
     subst hs0; subst hz0; subst hszz
     have h1 := Zbf hx he.left hcx
     have h2 := (Zbf hy he.right hcy).inv_int
     have := Zben (P := P) (ty := o.type) (k' := k') r ht hu hn hb hz hcond.1 hcond.2.1 hcond.2.2 hl.1 hl.2.1 hl.2.2 h1 hev
     rw [← h2] at this
     have h4 := OpTo.made this
     simpa [resolve,invoke,builtin] using h4
   rename_i hsrc
   obtain rfl := Zy hs
   simp only [AOp.reads] at he
   simp only [ev] at hev
   split at hev <;> try (cases hev; done)
   rename_i _ _ cx cy hcx hcy
   have := Zba1 (ty := o.type) r ht hu hsrc hn hb hz hcond.1 hcond.2.1 hcond.2.2 (Zbf hx he.left hcx) (Zbf hy he.right hcy) hev
   have h4 := OpTo.made this
   simpa [resolve,invoke,builtin] using h4
  ·
   split at hs <;> try (cases hs; done)
   rename_i _ _ t u x y h1 h2
   obtain rfl : argTypes = #[t,u] := Array.ext' (by simpa using h1)
   obtain rfl : args = #[x,y] := Array.ext' (by simpa using h2)
   split at hs <;> try (cases hs; done)
   rename_i _ _ _ q x' y' ht hx hy
   split at hs <;> try (cases hs; done)
   rename_i _ n hn
   split at hs <;> try (cases hs; done)
   rename_i hcond
   obtain rfl := Zy hs
   simp only [AOp.reads] at he
   simp only [ev] at hev
   split at hev <;> try (cases hev; done)
   rename_i _ _ cx cy hcx hcy
   have := Z9z (u := u) (ty := o.type) r ht hn hcond (Zbf hx he.left hcx) (Zbf hy he.right hcy) hev
   have h4 := OpTo.made this
   simpa [resolve,invoke,builtin] using h4
  ·
   split at hs <;> try (cases hs; done)
   rename_i _ _ t x h1 h2
   obtain rfl : argTypes = #[t] := Array.ext' (by simpa using h1)
   obtain rfl : args = #[x] := Array.ext' (by simpa using h2)
   split at hs <;> try (cases hs; done)
   rename_i _ _ q x' ht hx
   split at hs <;> try (cases hs; done)
   rename_i _ _ n z hn hz
   split at hs <;> try (cases hs; done)
   rename_i hcond
   obtain rfl := Zy hs
   simp only [AOp.reads] at he
   simp only [ev] at hev
   split at hev <;> try (cases hev; done)
   rename_i _ cx hcx
   have := Zbay (ty := o.type) r ht hn hz hcond.1 hcond.2 (Zbf hx he hcx) hev
   have h4 := OpTo.made this
   simpa [resolve,invoke,builtin] using h4
  ·
   split at hs <;> try (cases hs; done)
   rename_i _ ys hys
   obtain rfl := Zy hs
   simp only [AOp.reads] at he
   have hall := Zmz hys he
   cases ys with
   | nil => simp only [ev] at hev; cases hev
   | cons y ys =>
    simp only [ev] at hev
    split at hev <;> try (cases hev; done)
    rename_i _ cx hcx
    split at hev <;> try (cases hev; done)
    rename_i _ c hc
    injection hev with hev; injection hev with e1 e2; subst e1; subst e2
    cases hl : args.toList with
    | nil => rw [hl] at hall; cases hall
    | cons z zs =>
     rw [hl] at hall
     cases hall with
     | cons hd htl =>
      rw [hcx] at hd
      obtain ⟨u,h3,h4⟩ := Zq6 (P := P) (w := w) (F := Builtin.max2) (fun h => Z9w h) htl hd.inv_c hc
      have hm : (args.map a.eval).toList = a.eval z :: zs.map a.eval := by simp [hl]
      refine (?_ : OpTo P B m H w _ _ _)
      have h5 := OpTo.same (s := Builtin.max_ argTypes o.type (args.map a.eval)) r (by simp only [Builtin.max_,hm]; exact h3) (.c h4)
      simpa [resolve,invoke,builtin] using h5
  ·
   split at hs <;> try (cases hs; done)
   rename_i _ ys hys
   obtain rfl := Zy hs
   simp only [AOp.reads] at he
   have hall := Zmz hys he
   cases ys with
   | nil => simp only [ev] at hev; cases hev
   | cons y ys =>
    simp only [ev] at hev
    split at hev <;> try (cases hev; done)
    rename_i _ cx hcx
    split at hev <;> try (cases hev; done)
    rename_i _ c hc
    injection hev with hev; injection hev with e1 e2; subst e1; subst e2
    cases hl : args.toList with
    | nil => rw [hl] at hall; cases hall
    | cons z zs =>
     rw [hl] at hall
     cases hall with
     | cons hd htl =>
      rw [hcx] at hd
      obtain ⟨u,h3,h4⟩ := Zq6 (P := P) (w := w) (F := Builtin.min2) (fun h => Z8h h) htl hd.inv_c hc
      have hm : (args.map a.eval).toList = a.eval z :: zs.map a.eval := by simp [hl]
      have h5 := OpTo.same (s := Builtin.min_ argTypes o.type (args.map a.eval)) r (by simp only [Builtin.min_,hm]; exact h3) (.c h4)
      simpa [resolve,invoke,builtin] using h5
 | _ => simp only [Zb6,ho] at hs; cases hs
end Go.Proofs.YticmfblfghdkbaaGreatDoor.Eng
