/- Parts of this claim's proof, joined. No statement of the seat is proved here. -/
import Derived.Test.YticmfblfghdkbaaGreatDoorW6
set_option linter.unusedVariables false
set_option linter.unusedSimpArgs false
namespace Go.Proofs.YticmfblfghdkbaaGreatDoor.Eng
open Go
variable {P : Program}
theorem Zbci (l : List Oper) (o : Oper) : ancs (l ++ [o]) = ancs l ++ [Zuk (ancs l) o] := by simp [ancs,List.foldl_append]
theorem Zt5 {acc : List Nat} {i : Nat} : ∀ (es : List Edge) (s : Nat),
  (es.foldl (fun s e => if Region.binds .any e then s ||| (2 ^ e.on ||| acc.getD e.on 0) else s) s).testBit i = true →
  s.testBit i = true ∨ ∃ e ∈ es,Region.binds .any e = true ∧ (e.on = i ∨ (acc.getD e.on 0).testBit i = true)
 | [],s,h => .inl h
 | e :: es,s,h => by
  simp only [List.foldl_cons] at h
  rcases Zt5 es _ h with h | ⟨e',he',h⟩
  ·split at h
   ·rename_i hb
    simp only [Nat.testBit_or,Bool.or_eq_true,Nat.testBit_two_pow,decide_eq_true_eq] at h
    rcases h with h | h | h
    ·exact .inl h
    ·exact .inr ⟨e,by simp,hb,.inl h⟩
    ·exact .inr ⟨e,by simp,hb,.inr h⟩
   ·exact .inl h
  ·exact .inr ⟨e',by simp [he'],h⟩
theorem Zl5 {acc : List Nat} {x i y : Nat} (h : (acc.getD x 0).testBit i = true) : ((acc ++ [y]).getD x 0).testBit i = true := by
 by_cases hx : x < acc.length
 ·simpa [List.getD_eq_getElem?_getD,List.getElem?_append_left hx] using h
 ·simp [List.getD_eq_getElem?_getD,List.getElem?_eq_none (Nat.le_of_not_lt hx)] at h
theorem Zp4 (l : List Oper) : ∀ (k : Nat),k ≤ l.length → (ancs (l.take k)).length = k ∧ ∀ j i,((ancs (l.take k)).getD j 0).testBit i = true →
  ∃ o,l[j]? = some o ∧ ∃ e ∈ o.after.toList,Region.binds .any e = true ∧ (e.on = i ∨ ((ancs (l.take k)).getD e.on 0).testBit i = true)
 | 0,_ => by refine ⟨by simp [ancs],fun j i h => by simp [ancs] at h⟩
 | k + 1,hk => by
  obtain ⟨hlen,ih⟩ := Zp4 l k (by omega)
  have ht : l.take (k + 1) = l.take k ++ [l[k]] := by simp
  rw [ht,Zbci]
  refine ⟨by simp [hlen],fun j i h => ?_⟩
  by_cases hj : j < k
  ·have : (ancs (List.take k l) ++ [Zuk (ancs (List.take k l)) l[k]]).getD j 0 = (ancs (List.take k l)).getD j 0 := by
    simp [List.getD_eq_getElem?_getD,List.getElem?_append_left (show j < (ancs (List.take k l)).length by omega)]
   rw [this] at h
   obtain ⟨o,ho,e,he,hb,h⟩ := ih j i h
   exact ⟨o,ho,e,he,hb,h.imp id Zl5⟩
  ·by_cases hjk : j = k
   ·subst hjk
    have : (ancs (List.take j l) ++ [Zuk (ancs (List.take j l)) l[j]]).getD j 0 = Zuk (ancs (List.take j l)) l[j] := by
     simp [List.getD_eq_getElem?_getD,List.getElem?_append_right (show (ancs (List.take j l)).length ≤ j by omega),hlen]
    rw [this] at h
    rcases Zt5 _ _ h with h | ⟨e,he,hb,h⟩
    ·simp at h
    ·exact ⟨l[j],by simp,e,he,hb,h.imp id Zl5⟩
   ·simp [List.getD_eq_getElem?_getD,List.getElem?_eq_none (show (ancs (List.take k l) ++ [Zuk (ancs (List.take k l)) l[k]]).length ≤ j by simp [hlen]; omega)] at h
theorem Zbaa (l : List Oper) {j i : Nat} (h : ((ancs l).getD j 0).testBit i = true) :
  ∃ o,l[j]? = some o ∧ ∃ e ∈ o.after.toList,Region.binds .any e = true ∧ (e.on = i ∨ ((ancs l).getD e.on 0).testBit i = true) := by
 have := (Zp4 l l.length (Nat.le_refl _)).2 j i
 simp only [List.take_length] at this
 exact this h
def Fit (ops : Array Oper) (L : Array Bool) (j : Nat) : Prop := ∀ o,ops[j]? = some o → ∀ e ∈ o.after,Region.binds .any e = true → L.getD e.on false = true
structure Ordered (ops : Array Oper) (l : List AInstr) : Prop where
 back : ∀ j o,ops[j]? = some o → ∀ e ∈ o.after,Region.binds .any e = true → e.on < j
 pair : ∀ i j x y,i < j → l[i]? = some x → l[j]? = some y → Zj9 x y = true ∨ (((ancs ops.toList).getD j 0).testBit i = true ∧ ∀ d,x.dst = some d → y.dst ≠ some d)
theorem Ordered.of {ops : Array Oper} {l : List AInstr} (hl : l.length = ops.size) (h : Ztt ops l = true) : Ordered ops l := by
 unfold Ztt at h
 simp only [List.all_eq_true,List.mem_range,Bool.and_eq_true] at h
 refine ⟨fun j o ho e he hb => ?_,fun i j x y hij hx hy => ?_⟩
 ·have hj : j < l.length := by rw [hl]; exact (Array.getElem?_eq_some_iff.1 ho).1
  have := (h j hj).1
  rw [ho] at this
  simp only [List.all_eq_true] at this
  have := this e (by simpa using he)
  simpa [hb] using this
 ·have hj : j < l.length := (List.getElem?_eq_some_iff.1 hy).1
  have := (h j hj).2 i hij
  rw [hx,hy] at this
  simp only [Bool.or_eq_true,Bool.and_eq_true] at this
  rcases this with h1 | ⟨h1,h2⟩
  ·exact .inl h1
  ·refine .inr ⟨h1,fun d hd => ?_⟩
   rw [hd] at h2
   simpa using h2
theorem Z9e {ops : Array Oper} {l : List AInstr} (ho : Ordered ops l) {L : Array Bool} (hc : ∀ j,L.getD j false = true → Fit ops L j) {i : Nat} :
  ∀ (j : Nat),Fit ops L j → ((ancs ops.toList).getD j 0).testBit i = true → L.getD i false = true := by
 intro j
 induction j using Nat.strongRecOn with
 | _ j ih =>
  intro hf h
  obtain ⟨o,hj,e,he,hb,h⟩ := Zbaa _ h
  have hj' : ops[j]? = some o := by simpa using hj
  have he' : e ∈ o.after := by simpa using he
  have hl := hf o hj' e he' hb
  rcases h with h | h
  ·rw [← h]; exact hl
  ·exact ih e.on (ho.back j o hj' e he' hb) (hc _ hl) h
theorem Ordered.apart {ops : Array Oper} {l : List AInstr} (ho : Ordered ops l) {L : Array Bool} (hc : ∀ j,L.getD j false = true → Fit ops L j) {i j : Nat} {x y : AInstr} (hij : i < j) (hx : l[i]? = some x) (hy : l[j]? = some y)
  (hf : Fit ops L j) (hi : L.getD i false = false) : Zj9 x y = true := by
 rcases ho.pair i j x y hij hx hy with h | ⟨h,_⟩
 ·exact h
 ·rw [Z9e ho hc j hf h] at hi; cases hi
theorem Ordered.uniq {ops : Array Oper} {l : List AInstr} (ho : Ordered ops l) {i j : Nat} {x y : AInstr} (hij : i ≠ j) (hx : l[i]? = some x) (hy : l[j]? = some y) {d : Nat} (hd : x.dst = some d) : y.dst ≠ some d := by
 rcases Nat.lt_or_gt_of_ne hij with h | h
 ·rcases ho.pair i j x y h hx hy with h | ⟨_,h⟩
  ·intro hyd
   simp [Zj9,hd,hyd] at h
  ·exact h d hd
 ·intro hyd
  rcases ho.pair j i y x h hy hx with h | ⟨_,h⟩
  ·simp [Zj9,hd,hyd] at h
  ·exact h d hyd hd
theorem Zti {x y : AInstr} (h : Zj9 x y = true) : (∀ d,x.dst = some d → d ∉ y.reads) ∧ (∀ d,y.dst = some d → d ∉ x.reads) := by
 unfold Zj9 at h
 simp only [Bool.and_eq_true] at h
 obtain ⟨⟨h1,h2⟩,_⟩ := h
 refine ⟨fun d hd => ?_,fun d hd => ?_⟩
 ·rw [hd] at h1; simp at h1; exact h1.1
 ·rw [hd] at h2; simpa using h2
theorem Zmj {x y : AInstr} (h : Zj9 x y = true) : (x.op.cls = .turns ∧ y.op.cls = .reads → x.op.isApp = true ∧ y.op.isLd = true) ∧ ¬ (x.op.cls = .turns ∧ y.op.cls = .turns) ∧ ¬ (x.op.cls = .reads ∧ y.op.cls = .turns) := by
 unfold Zj9 at h
 simp only [Bool.and_eq_true] at h
 obtain ⟨_,h⟩ := h
 refine ⟨fun ⟨a,b⟩ => ?_,fun ⟨a,b⟩ => ?_,fun ⟨a,b⟩ => ?_⟩
 ·rw [a,b] at h; simpa using h
 ·rw [a,b] at h; simp at h
 ·rw [a,b] at h; simp at h
inductive Zxd (P : Program) (x : AInstr) (e : Env) (H : Heap) (v : AVal) (H1 : Heap) : Prop where
 | go : goes x.guard e = true → SOp P true x e H v H1 → Zxd P x e H v H1
 | off : x.op ≠ .bad → goes x.guard e = false → v = Zfo → H1 = H → Zxd P x e H v H1
structure Seqs (P : Program) (l : List AInstr) (es : Nat → Env) (Hs : Nat → Heap) (vs : Nat → AVal) : Prop where
 env : ∀ i x,l[i]? = some x → es (i + 1) = updO (es i) x.dst (vs i)
 step : ∀ i x,l[i]? = some x → Zxd P x (es i) (Hs i) (vs i) (Hs (i + 1))
theorem Z9u {l : List AInstr} {e e' : Env} {H H' : Heap} (h : Zmp P true l e H e' H') :
  ∃ es Hs vs,es 0 = e ∧ Hs 0 = H ∧ es l.length = e' ∧ Hs l.length = H' ∧ Seqs P l es Hs vs := by
 induction h with
 | @nil e H => exact ⟨fun _ => e,fun _ => H,fun _ => Zfo,rfl,rfl,rfl,rfl,fun _ _ h => by simp at h,fun _ _ h => by simp at h⟩
 | @go x l e H v H1 e' H' hg hs _ ih =>
  obtain ⟨es,Hs,vs,h1,h2,h3,h4,h5⟩ := ih
  refine ⟨fun i => match i with | 0 => e | i + 1 => es i,fun i => match i with | 0 => H | i + 1 => Hs i,fun i => match i with | 0 => v | i + 1 => vs i,rfl,rfl,h3,h4,fun i y hy => ?_,fun i y hy => ?_⟩
  ·cases i with
   | zero => simp at hy; subst hy; exact h1
   | succ i => exact h5.env i y (by simpa using hy)
  ·cases i with
   | zero => simp at hy; subst hy; simp only [h2]; exact .go hg hs
   | succ i => exact h5.step i y (by simpa using hy)
 | @off x l e H e' H' hb hg _ ih =>
  obtain ⟨es,Hs,vs,h1,h2,h3,h4,h5⟩ := ih
  refine ⟨fun i => match i with | 0 => e | i + 1 => es i,fun i => match i with | 0 => H | i + 1 => Hs i,fun i => match i with | 0 => Zfo | i + 1 => vs i,rfl,rfl,h3,h4,fun i y hy => ?_,fun i y hy => ?_⟩
  ·cases i with
   | zero => simp at hy; subst hy; exact h1
   | succ i => exact h5.env i y (by simpa using hy)
  ·cases i with
   | zero => simp at hy; subst hy; simp only [h2]; exact .off hb hg rfl rfl
   | succ i => exact h5.step i y (by simpa using hy)
theorem Zbfw {o : Oper} {a : Act} {w : World} {F : Prop} (h : o.wp P a w (fun _ _ => F) (fun _ _ _ => F)) : F := by
 unfold Oper.wp at h
 generalize (execOp a.eval o).run P w = r at h
 cases r with
 | ok n w' =>
  cases n <;> simp only [Oper.upon] at h
  case enter f args =>
   obtain ⟨e,w2,fr,he,_⟩ := h []
   cases e with
   | returned => exact he
   | panicked => exact he
   | outgrown => obtain ⟨_,_,h⟩ := he; exact h
  case row r args =>
   obtain ⟨_,_,h,_⟩ := h default []
   exact h
  all_goals exact h
 | halt x w' => cases x <;> simp only [Oper.upon] at h; exact h
section
variable {B : Nat} {N : Nat} {ops : Array Oper} {l : List AInstr} {es : Nat → Env} {Hs : Nat → Heap} {vs : Nat → AVal}
def Seen (B N : Nat) (e : Env) (H : Heap) : Prop := ∃ m w a,Rel B m H w ∧ EnvAll m (Zj w) e a ∧ N ≤ a.tmps.size
theorem Seen.next {o : Oper} {e : Env} {H H1 : Heap} {v : AVal} (h : Seen B N e H) (hs : Zxd P (Z6 P N ops o) e H v H1) : Seen B N (updO e (Z6 P N ops o).dst v) H1 ∧ HLe H H1 := by
 obtain ⟨m,w,a,r,he,hN⟩ := h
 cases hs with
 | go hg hs =>
  have hdst := (Zeu rfl hs.notBad).1
  refine Zbfw (Zm4 (Q := fun _ _ _ => _) r hs (he.on _) hg fun m' w' u hst hv => ⟨⟨m',w',a.put o.dst u,hst.rel,?_,?_⟩,hst.hle⟩).2
  ·rw [Zhb]
   exact (he.mono (hst.mle r)).put hN hdst hv
  ·rw [(Zkh a o.dst u).2]; exact hN
 | off hb hg hv hH =>
  subst hv; subst hH
  have hdst := (Zeu (P := P) (N := N) (ops := ops) (o := o) rfl hb).1
  refine ⟨⟨m,w,a.put o.dst undef,r,?_,?_⟩,HLe.refl _⟩
  ·rw [Zhb]
   exact he.put hN hdst VRA.undef
  ·rw [(Zkh a o.dst undef).2]; exact hN
theorem Seqs.seen (hl : l = ops.toList.map (Z6 P N ops)) (hs : Seqs P l es Hs vs) (h0 : Seen B N (es 0) (Hs 0)) : ∀ i,i ≤ l.length → Seen B N (es i) (Hs i) ∧ (i < l.length → HLe (Hs i) (Hs (i + 1))) := by
 have key : ∀ i,i < l.length → Seen B N (es i) (Hs i) → Seen B N (es (i + 1)) (Hs (i + 1)) ∧ HLe (Hs i) (Hs (i + 1)) := fun i hi h => by
  have hi' : i < ops.size := by rw [hl] at hi; simpa using hi
  have hx : l[i]? = some (Z6 P N ops ops[i]) := by rw [hl]; simp [hi']
  have := h.next (P := P) (ops := ops) (o := ops[i]) (hs.step i _ hx)
  rw [← hs.env i _ hx] at this
  exact this
 intro i
 induction i with
 | zero => intro _; exact ⟨h0,fun hi => (key 0 hi h0).2⟩
 | succ i ih =>
  intro hi
  have h := (key i (by omega) (ih (by omega)).1).1
  exact ⟨h,fun hi' => (key (i + 1) hi' h).2⟩
theorem Seqs.prefix1 (hs : Seqs P l es Hs vs) {i : Nat} {x : AInstr} (hx : l[i]? = some x) (hc : x.op.cls ≠ .turns) : Hs i <+: Hs (i + 1) := by
 cases hs.step i x hx with
 | off _ _ _ h => rw [h]; exact List.prefix_refl _
 | go _ h =>
  cases h with
  | ev h =>
   cases hcl : x.op.cls with
   | quiet => rw [(Zwy hcl h).1]; exact List.prefix_refl _
   | reads => exact Z4n hcl h
   | turns => exact absurd hcl hc
  | evF _ _ h => rw [h]; exact List.prefix_refl _
  | call hop _ _ h =>
   refine h rfl ?_
   cases hT : x.op.isT with
   | false => rfl
   | true =>
    exfalso
    apply hc
    generalize x.op = o at hT
    unfold AOp.isT at hT
    split at hT
    ·rfl
    ·cases hT
theorem Seqs.prefixes (hs : Seqs P l es Hs vs) {i : Nat} : ∀ (j : Nat),i ≤ j → j ≤ l.length → (∀ k x,i ≤ k → k < j → l[k]? = some x → x.op.cls ≠ .turns) → Hs i <+: Hs j := by
 intro j
 induction j with
 | zero => intro h _ _; rw [show i = 0 by omega]; exact List.prefix_refl _
 | succ j ih =>
  intro h hj hk
  by_cases hij : i = j + 1
  ·rw [hij]; exact List.prefix_refl _
  ·have hx : l[j]? = some l[j] := by simp
   exact (ih (by omega) (by omega) fun k x h1 h2 => hk k x h1 (by omega)).trans (hs.prefix1 hx (hk j _ (by omega) (by omega) hx))
theorem Seqs.hle (hl : l = ops.toList.map (Z6 P N ops)) (hs : Seqs P l es Hs vs) (h0 : Seen B N (es 0) (Hs 0)) {i : Nat} : ∀ (j : Nat),i ≤ j → j ≤ l.length → HLe (Hs i) (Hs j) := by
 intro j
 induction j with
 | zero => intro h _; rw [show i = 0 by omega]; exact HLe.refl _
 | succ j ih =>
  intro h hj
  by_cases hij : i = j + 1
  ·rw [hij]; exact HLe.refl _
  ·exact (ih (by omega) (by omega)).trans ((hs.seen hl h0 j (by omega)).2 (by omega))
theorem Seqs.keep (hs : Seqs P l es Hs vs) {i t : Nat} : ∀ (j : Nat),i ≤ j → j ≤ l.length → (∀ k x,i ≤ k → k < j → l[k]? = some x → x.dst ≠ some t) → es j t = es i t := by
 intro j
 induction j with
 | zero => intro h _ _; rw [show i = 0 by omega]
 | succ j ih =>
  intro h hj hk
  by_cases hij : i = j + 1
  ·rw [hij]
  ·have hx : l[j]? = some l[j] := by simp
   rw [hs.env j _ hx]
   have hd := hk j _ (by omega) (by omega) hx
   have : updO (es j) l[j].dst (vs j) t = es j t := by
    cases hdd : l[j].dst with
    | none => rfl
    | some d =>
     have : t ≠ d := fun h => hd (by rw [hdd,h])
     simp [updO,upd,this]
   rw [this]
   exact ih (by omega) (by omega) fun k x h1 h2 => hk k x h1 (by omega)
theorem Seqs.last (hs : Seqs P l es Hs vs) (ho : Ordered ops l) {i t : Nat} {x : AInstr} (hx : l[i]? = some x) (hd : x.dst = some t) : es l.length t = vs i := by
 have hi : i < l.length := (List.getElem?_eq_some_iff.1 hx).1
 rw [hs.keep (i := i + 1) l.length (by omega) (Nat.le_refl _) fun k y h1 _ hy => ho.uniq (by omega) hx hy hd,hs.env i x hx,hd]
 simp [updO,upd]
theorem Z7t {H H1 : Heap} {sz bytes : Nat} {x y : Cell} {v : AVal} (h : Zc2 H sz bytes x y = some (v,H1)) {b i : Nat} {row : List Cell} (hb : b < H.length) (hr : Heap.row H1 b i = some row) : Heap.row H b i = some row := by
 have app : ∀ k : Blk,Heap.row (H ++ [k]) b i = some row → Heap.row H b i = some row := fun k h => by
  simpa only [Heap.row,List.getElem?_append_left hb] using h
 have kill : ∀ (b' : Nat) (q k : Blk),q.live = false → Heap.row (H.set b' q ++ [k]) b i = some row → Heap.row H b i = some row := fun b' q k hq h => by
  simp only [Heap.row] at h ⊢
  rw [List.getElem?_append_left (by simpa using hb),List.getElem?_set] at h
  by_cases hbb : b' = b
  ·subst hbb
   simp [hb,hq] at h
  ·rwa [if_neg hbb] at h
 unfold Zc2 at h
 repeat' (first
  | (cases h; done)
  | (injection h with h; injection h with h1 h2; subst h2; first | exact hr | exact app _ hr | exact kill _ _ _ rfl hr)
  | split at h)
theorem Seqs.back (hs : Seqs P l es Hs vs) {i : Nat} {x : AInstr} (hx : l[i]? = some x) (hc : x.op.cls ≠ .turns ∨ x.op.isApp = true) {b r : Nat} {row : List Cell} (hb : b < (Hs i).length) (h : Heap.row (Hs (i + 1)) b r = some row) : Heap.row (Hs i) b r = some row := by
 rcases hc with hc | hc
 ·obtain ⟨E,hE⟩ := hs.prefix1 hx hc
  rw [← hE] at h
  simpa only [Heap.row,List.getElem?_append_left hb] using h
 ·cases hs.step i x hx with
  | off _ _ _ hH => rw [hH] at h; exact h
  | go _ hgo =>
   cases hgo with
   | evF _ _ hH => rw [hH] at h; exact h
   | call hop _ _ _ => rw [hop] at hc; cases hc
   | ev hev =>
    generalize x.op = o at hc hev
    unfold AOp.isApp at hc
    split at hc
    ·simp only [ev] at hev
     split at hev
     ·exact Z7t hev hb h
     ·cases hev
    ·cases hc
theorem Seqs.backs (hs : Seqs P l es Hs vs) {q b r : Nat} {row : List Cell} (hb : b < (Hs q).length) : ∀ (i : Nat),q ≤ i → i ≤ l.length → (∀ k,q ≤ k → k ≤ i → (Hs q).length ≤ (Hs k).length) → (∀ k x,q ≤ k → k < i → l[k]? = some x → x.op.cls ≠ .turns ∨ x.op.isApp = true) → Heap.row (Hs i) b r = some row → Heap.row (Hs q) b r = some row := by
 intro i
 induction i with
 | zero => intro h _ _ _ hr; rw [show q = 0 by omega]; exact hr
 | succ i ih =>
  intro h hi hl hc hr
  by_cases hqi : q = i + 1
  ·rw [hqi]; exact hr
  ·have hx : l[i]? = some l[i] := by simp
   refine ih (by omega) (by omega) (fun k h1 h2 => hl k h1 (by omega)) (fun k x h1 h2 => hc k x h1 (by omega)) ?_
   exact hs.back hx (hc i _ (by omega) (by omega) hx) (Nat.lt_of_lt_of_le hb (hl i (by omega) (by omega))) hr
theorem Z68 {g : Bool} {n : Nat} {a : Opd} {e : Env} {H H1 H2 : Heap} {v : AVal} (h : ev (.load g n a) e H = some (v,H1)) (hr : ∀ b i f row,a.ev e = .c (.ptr b i f) → Heap.row H b i = some row → Heap.row H2 b i = some row) : H1 = H ∧ ev (.load g n a) e H2 = some (v,H2) := by
 simp only [ev] at h ⊢
 split at h
 ·rename_i b i f ha
  split at h <;> try (cases h; done)
  rename_i row hrow
  rw [hr b i f row ha hrow]
  simp only
  split at h <;> try (cases h; done)
  rename_i hf
  rw [if_pos hf]
  split at h <;> try (cases h; done)
  rename_i v' hv
  injection h with h; injection h with h1 h2
  subst h1
  exact ⟨h2.symm,rfl⟩
 ·split at h <;> try (cases h; done)
  rename_i hf
  rw [if_pos hf]
  split at h <;> try (cases h; done)
  rename_i v' hv
  injection h with h; injection h with h1 h2
  subst h1
  exact ⟨h2.symm,rfl⟩
 ·cases h
theorem Z90 {ops : Array Oper} {dd : Option Nat} {o : AOp} {g : Bool} {n : Nat} {a : Opd} (h : upOp ops dd o = .load g n a) : o = .load g n a := by
 unfold upOp at h
 split at h
 ·split at h
  ·cases h
  ·exact h
 ·split at h <;> cases h
 ·split at h <;> cases h
 ·cases h
 ·exact h
theorem Zbey {o : Oper} {g : Bool} {n : Nat} {y : Opd} (h : Zf1 P o = .load g n y) : ∃ X,Zx X = some y := by
 obtain ⟨s,hs,rfl⟩ : ∃ s,Zb6 P o = some s ∧ s = .load g n y := by
  cases hq : Zb6 P o with
  | none => simp [Zf1,hq] at h
  | some s => exact ⟨s,rfl,by simpa [Zf1,hq] using h⟩
 cases ho : o.op <;> simp only [Zb6,ho] at hs <;> try (cases hs; done)
 case load t x =>
  split at hs <;> try (cases hs; done)
  rename_i hx
  split at hs <;> try (cases hs; done)
  injection hs with hs; injection hs with _ _ h3
  subst h3
  exact ⟨_,hx⟩
 case call c =>
  unfold Zuf at hs
  exfalso
  repeat' (first
   | contradiction
   | (cases hs; done)
   | (injection hs with hs; cases hs; done)
   | split at hs)
 case binOp op t x y yt =>
  exfalso
  unfold Zx4 at hs
  repeat' (first
   | contradiction
   | (cases hs; done)
   | (injection hs with hs; cases hs; done)
   | split at hs)
 all_goals
  exfalso
  repeat' (first
   | contradiction
   | (cases hs; done)
   | (injection hs with hs; cases hs; done)
   | split at hs)
theorem Z7p {X : Operand} {y : Opd} {e : Env} {b i f : Nat} (h : Zx X = some y) (he : Opd.ev e y = .c (.ptr b i f)) : ∃ t,y = .t t ∧ e t = .c (.ptr b i f) := by
 cases X with
 | tmp t => simp only [Zx] at h; injection h with h; subst h; exact ⟨t,rfl,he⟩
 | func f' => simp only [Zx] at h; injection h with h; subst h; cases he
 | global _ => cases h
 | const v =>
  exfalso
  simp only [Zx] at h
  split at h
  ·rename_i a ha
   injection h with h; subst h
   have he' : a = .c (.ptr b i f) := he
   subst he'
   unfold Ztc at ha
   split at ha
   ·split at ha <;> cases ha
   ·split at ha
    ·rename_i c hc
     injection ha with ha; injection ha with ha; subst ha
     unfold Zqd at hc
     split at hc <;> cases hc
    ·cases ha
  ·cases h
theorem Zt0 (l : List AInstr) : ∀ (n q : Nat),l.length - q = n → q ≤ l.length → ∃ q',q ≤ q' ∧ q' ≤ l.length ∧ (∀ k x,q ≤ k → k < q' → l[k]? = some x → x.op.cls ≠ .turns) ∧ (q' < l.length → ∃ x,l[q']? = some x ∧ x.op.cls = .turns)
 | 0,q,hn,hq => ⟨q,Nat.le_refl _,hq,fun k x h1 h2 => by omega,fun h => by omega⟩
 | n + 1,q,hn,hq => by
  have hx : l[q]? = some (l[q]'(by omega)) := by simp [show q < l.length by omega]
  by_cases hc : (l[q]'(by omega)).op.cls = .turns
  ·exact ⟨q,Nat.le_refl _,hq,fun k x h1 h2 => by omega,fun _ => ⟨_,hx,hc⟩⟩
  ·obtain ⟨q',h1,h2,h3,h4⟩ := Zt0 l n (q + 1) (by omega) (by omega)
   refine ⟨q',by omega,h2,fun k x k1 k2 k3 => ?_,h4⟩
   by_cases hk : k = q
   ·subst hk; rw [hx] at k3; injection k3 with k3; subst k3; exact hc
   ·exact h3 k x (by omega) k2 k3
end
end Go.Proofs.YticmfblfghdkbaaGreatDoor.Eng
namespace Go.Proofs.YticmfblfghdkbaaGreatDoor.Eng
open Go
variable {P : Program}
structure Given (P : Program) (B N : Nat) (ops : Array Oper) (l : List AInstr) (es : Nat → Env) (Hs : Nat → Heap) (vs : Nat → AVal) (m0 : LMap) (w0 : World) : Prop where
  hl : l = ops.toList.map (Z6 P N ops)
  ord : Ordered ops l
  seqs : Seqs P l es Hs vs
  seen : Seen B N (es 0) (Hs 0)
  rel : Rel B m0 (Hs 0) w0
section
variable {B : Nat} {N : Nat} {ops : Array Oper} {l : List AInstr} {es : Nat → Env} {Hs : Nat → Heap} {vs : Nat → AVal} {m0 : LMap} {w0 : World}
theorem Given.len (g : Given P B N ops l es Hs vs m0 w0) : l.length = ops.size := by rw [g.hl]; simp
theorem Given.at (g : Given P B N ops l es Hs vs m0 w0) {i : Nat} {o : Oper} (h : ops[i]? = some o) : l[i]? = some (Z6 P N ops o) := by
  rw [g.hl]; simp [h]
structure EnvL (l : List AInstr) (es : Nat → Env) (L : Array Bool) (m : LMap) (σ : Mem) (a : Act) : Prop where
  on : ∀ k x t,l[k]? = some x → x.dst = some t → L.getD k false = true → VRA m σ (es l.length t) (a.tmps.getD t undef)
  off : ∀ t,(∀ k x,l[k]? = some x → x.dst = some t → L.getD k false = false) → VRA m σ (es 0 t) (a.tmps.getD t undef)
theorem EnvL.mono {L : Array Bool} {m m' : LMap} {σ σ' : Mem} {a : Act} (h : EnvL l es L m σ a) (hm : MLe m σ m' σ') : EnvL l es L m' σ' a :=
  ⟨fun k x t h1 h2 h3 => (h.on k x t h1 h2 h3).mono hm,fun t ht => (h.off t ht).mono hm⟩
structure Mid (B : Nat) (l : List AInstr) (es : Nat → Env) (Hs : Nat → Heap) (m0 : LMap) (w0 : World) (L : Array Bool) (a : Act) (w : World) (q : Nat) (m : LMap) : Prop where
  le : q ≤ l.length
  low : ∀ k x,k < q → l[k]? = some x → x.op.cls = .turns → L.getD k false = true
  first : q < l.length → L.getD q false = false ∧ ∃ x,l[q]? = some x ∧ x.op.cls = .turns
  st : St B (Hs 0) m0 w0 (Hs q) m w
  there : ∀ b L',m b = some L' → (Hs 0).length ≤ b → ∃ j,j < l.length ∧ L.getD j false = true ∧ (Hs j).length ≤ b ∧ b < (Hs (j + 1)).length
  env : EnvL l es L m (Zj w) a
structure Inv (B N : Nat) (ops : Array Oper) (l : List AInstr) (es : Nat → Env) (Hs : Nat → Heap) (m0 : LMap) (w0 : World) (a0 : Act) (L : Array Bool) (a : Act) (w : World) : Prop where
  size : L.size = ops.size
  closed : ∀ j,L.getD j false = true → Fit ops L j
  mid : ∃ q m,Mid B l es Hs m0 w0 L a w q m
  defers : a.defers = a0.defers
  tsize : a.tmps.size = a0.tmps.size
theorem Z5j {L : Array Bool} {i j : Nat} (h : (L.setIfInBounds i true).getD j false = true) : L.getD j false = true ∨ j = i := by
  by_cases hij : i = j
  · exact .inr hij.symm
  · rw [getD_set_ne false hij] at h; exact .inl h
theorem Zz2 {L : Array Bool} {i j : Nat} (h : (L.setIfInBounds i true).getD j false = false) : L.getD j false = false := by
  cases hL : L.getD j false with
  | false => rfl
  | true => rw [getD_set_true hL] at h; exact h
theorem Zbaz (g : Given P B N ops l es Hs vs m0 w0) {L : Array Bool} (hc : ∀ j,L.getD j false = true → Fit ops L j) {m : LMap} {σ : Mem} {a : Act} (he : EnvL l es L m σ a)
    {i : Nat} {x : AInstr} (hx : l[i]? = some x) (hf : Fit ops L i) (hi : L.getD i false = false) : EnvOn m σ x.reads (es i) a := by
  intro t ht
  have hil : i < l.length := (List.getElem?_eq_some_iff.1 hx).1
  by_cases hw : ∃ (k : Nat) (y : AInstr),l[k]? = some y ∧ y.dst = some t
  · obtain ⟨k,y,hk,hd⟩ := hw
    have hkl : k < l.length := (List.getElem?_eq_some_iff.1 hk).1
    rcases Nat.lt_or_ge k i with hki | hki
    ·
      have hLk : L.getD k false = true := by
        cases hLk : L.getD k false with
        | true => rfl
        | false => exact absurd ht ((Zti (g.ord.apart hc hki hk hx hf hLk)).1 t hd)
      have : es i t = es l.length t := by
        rw [g.seqs.last g.ord hk hd,g.seqs.keep (i := k + 1) i (by omega) (by omega) fun k' y' h1 _ hy' => g.ord.uniq (by omega) hk hy' hd,g.seqs.env k y hk,hd]
        simp [updO,upd]
      rw [this]
      exact he.on k y t hk hd hLk
    · have h0 : es i t = es 0 t := g.seqs.keep i (Nat.zero_le _) (by omega) fun k' y' _ h2 hy' => g.ord.uniq (by omega) hk hy' hd
      rw [h0]
      refine he.off t fun k' y' hk' hd' => ?_
      have hkk : k' = k := by
        by_cases hkk : k' = k
        · exact hkk
        · exact absurd hd' (g.ord.uniq (fun h => hkk h.symm) hk hk' hd)
      subst hkk
      by_cases hki' : k' = i
      · rw [hki']; exact hi
      · cases hLk : L.getD k' false with
        | false => rfl
        | true => exact absurd ht ((Zti (g.ord.apart hc (by omega) hx hk (hc _ hLk) hi)).2 t hd)
  · have h0 : es i t = es 0 t := g.seqs.keep i (Nat.zero_le _) (by omega) fun k' y' _ _ hy' hd' => hw ⟨k',y',hy',hd'⟩
    rw [h0]
    exact he.off t fun k' y' hk' hd' => absurd ⟨k',y',hk',hd'⟩ hw
theorem Zpy (g : Given P B N ops l es Hs vs m0 w0) {L : Array Bool} {m : LMap} {σ : Mem} {a : Act} (hN : N ≤ a.tmps.size) (hLs : L.size = ops.size) (he : EnvL l es L m σ a)
    {i : Nat} {x : AInstr} (hx : l[i]? = some x) (hd : Zl8 N x.dst = true) {u : Value} (hv : VRA m σ (vs i) u) : EnvL l es (L.setIfInBounds i true) m σ (a.put x.dst u) := by
  have hil : i < l.length := (List.getElem?_eq_some_iff.1 hx).1
  refine ⟨fun k y t hk hkd hL => ?_,fun t ht => ?_⟩
  · rw [Zwq hN hd]
    by_cases hki : k = i
    · subst hki
      rw [hx] at hk; injection hk with hk; subst hk
      rw [if_pos hkd,g.seqs.last g.ord hx hkd]
      exact hv
    · rw [if_neg (g.ord.uniq hki hk hx hkd)]
      rcases Z5j hL with h | h
      · exact he.on k y t hk hkd h
      · exact absurd h hki
  · rw [Zwq hN hd,if_neg ?_]
    · exact he.off t fun k y hk hkd => Zz2 (ht k y hk hkd)
    · intro hxd
      have h1 := ht i x hx hxd
      have hi : i < L.size := by rw [hLs,← g.len]; exact hil
      simp [hi] at h1
theorem Zpp (g : Given P B N ops l es Hs vs m0 w0) {L : Array Bool} (hc : ∀ j,L.getD j false = true → Fit ops L j) {a : Act} {w : World} {q : Nat} {m : LMap} (M : Mid B l es Hs m0 w0 L a w q m)
    {k : Nat} {x : AInstr} (hk : l[k]? = some x) (hx : x.op.cls = .turns) (hf : Fit ops L k) (hqk : q < k) : False := by
  have hkl : k < l.length := (List.getElem?_eq_some_iff.1 hk).1
  obtain ⟨h1,y,hy,hyc⟩ := M.first (by omega)
  exact (Zmj (g.ord.apart hc hqk hy hk hf h1)).2.1 ⟨hyc,hx⟩
theorem Zh2 {L : Array Bool} {m : LMap} {i : Nat} (h : ∀ b L',m b = some L' → (Hs 0).length ≤ b → ∃ j,j < l.length ∧ L.getD j false = true ∧ (Hs j).length ≤ b ∧ b < (Hs (j + 1)).length) :
    ∀ b L',m b = some L' → (Hs 0).length ≤ b → ∃ j,j < l.length ∧ (L.setIfInBounds i true).getD j false = true ∧ (Hs j).length ≤ b ∧ b < (Hs (j + 1)).length := fun b L' h1 h2 => by
  obtain ⟨j,h3,h4,h5⟩ := h b L' h1 h2
  exact ⟨j,h3,getD_set_true h4,h5⟩
theorem Mid.stay {L : Array Bool} {a a' : Act} {w w' : World} {q : Nat} {m m' : LMap} (M : Mid B l es Hs m0 w0 L a w q m) {i : Nat} {x : AInstr} (hx : l[i]? = some x) (hxc : x.op.cls ≠ .turns)
    (hst : St B (Hs 0) m0 w0 (Hs q) m' w') (hth : ∀ b L',m' b = some L' → (Hs 0).length ≤ b → ∃ j,j < l.length ∧ (L.setIfInBounds i true).getD j false = true ∧ (Hs j).length ≤ b ∧ b < (Hs (j + 1)).length)
    (he : EnvL l es (L.setIfInBounds i true) m' (Zj w') a') : Mid B l es Hs m0 w0 (L.setIfInBounds i true) a' w' q m' where
  le := M.le
  low := fun k y h1 h2 h3 => getD_set_true (M.low k y h1 h2 h3)
  first := fun hq => by
    obtain ⟨h1,y,h2,h3⟩ := M.first hq
    have hiq : i ≠ q := fun h => by subst h; rw [hx] at h2; injection h2 with h2; subst h2; exact hxc h3
    exact ⟨by rw [getD_set_ne false hiq]; exact h1,y,h2,h3⟩
  st := hst
  there := hth
  env := he
theorem Mid.turn (g : Given P B N ops l es Hs vs m0 w0) {L : Array Bool} (hc : ∀ j,L.getD j false = true → Fit ops L j) {a a' : Act} {w w' : World} {q : Nat} {m m' : LMap} (M : Mid B l es Hs m0 w0 L a w q m) {x : AInstr} (hx : l[q]? = some x) (hxc : x.op.cls = .turns)
    (hst : St B (Hs 0) m0 w0 (Hs (q + 1)) m' w') (hth : ∀ b L',m' b = some L' → (Hs 0).length ≤ b → ∃ j,j < l.length ∧ (L.setIfInBounds q true).getD j false = true ∧ (Hs j).length ≤ b ∧ b < (Hs (j + 1)).length)
    (he : EnvL l es (L.setIfInBounds q true) m' (Zj w') a') (hLs : L.size = ops.size) : ∃ q',Mid B l es Hs m0 w0 (L.setIfInBounds q true) a' w' q' m' := by
  have hql : q < l.length := (List.getElem?_eq_some_iff.1 hx).1
  obtain ⟨q',h1,h2,h3,h4⟩ := Zt0 l _ (q + 1) rfl (by omega)
  refine ⟨q',h2,fun k y k1 k2 k3 => ?_,fun hq' => ?_,hst.more (g.seqs.prefixes q' h1 h2 h3),hth,he⟩
  · rcases Nat.lt_trichotomy k q with hk | hk | hk
    · exact getD_set_true (M.low k y hk k2 k3)
    · subst hk
      have : k < L.size := by rw [hLs,← g.len]; exact hql
      simp [this]
    · exact absurd k3 (h3 k y (by omega) k1 k2)
  · obtain ⟨y,hy,hyc⟩ := h4 hq'
    refine ⟨?_,y,hy,hyc⟩
    rw [getD_set_ne false (by omega)]
    cases hL : L.getD q' false with
    | false => rfl
    | true => exact (Zpp g hc M hy hyc (hc _ hL) (by omega)).elim
theorem Inv.step (g : Given P B N ops l es Hs vs m0 w0) {a0 : Act} (hN : N ≤ a0.tmps.size) {L : Array Bool} {a : Act} {w : World} (I : Inv B N ops l es Hs m0 w0 a0 L a w) {i : Nat} (hi : i ∈ Region.ready .any ops L)
    {K : Act → World → Prop} {Q : Exit → Act → World → Prop} (hK : ∀ a' w',Inv B N ops l es Hs m0 w0 a0 (L.setIfInBounds i true) a' w' → K a' w') : wpOp P ops Q i K a w := by
  obtain ⟨hLi,o,ho,hfit⟩ := mem_ready.1 hi
  have hx := g.at ho
  have hios : i < ops.size := (Array.getElem?_eq_some_iff.1 ho).1
  have hil : i < l.length := by rw [g.len]; exact hios
  have hLi : L.getD i false = false := by
    have : i < L.size := by rw [I.size]; exact hios
    simpa [this] using hLi
  have hf : Fit ops L i := fun o' ho' => by rw [ho] at ho'; injection ho' with ho'; subst ho'; exact hfit
  have hc' : ∀ j,(L.setIfInBounds i true).getD j false = true → Fit ops (L.setIfInBounds i true) j := fun j hj o' ho' e he hb => by
    rcases Z5j hj with h | h
    · exact getD_set_true (I.closed j h o' ho' e he hb)
    · subst h; exact getD_set_true (hf o' ho' e he hb)
  have hNa : N ≤ a.tmps.size := by rw [I.tsize]; exact hN
  have hLi' : (L.setIfInBounds i true).getD i false = true := by
    have : i < L.size := by rw [I.size]; exact hios
    simp [this]
  obtain ⟨q,m,M⟩ := I.mid
  have hreads := Zbaz g I.closed M.env hx hf hLi
  have fin : ∀ (u : Value) (w' : World),Zl8 N o.dst = true → (∃ q' m',Mid B l es Hs m0 w0 (L.setIfInBounds i true) (a.put o.dst u) w' q' m') → K (a.put o.dst u) w' := fun u w' hd hm =>
    hK _ _ ⟨by rw [Array.size_setIfInBounds]; exact I.size,hc',hm,by rw [(Zkh a o.dst u).1]; exact I.defers,by rw [(Zkh a o.dst u).2]; exact I.tsize⟩
  have hdd : (Z6 P N ops o).dst = o.dst := Zhb
  have hiq : (Z6 P N ops o).op.cls = .turns → i = q := fun hcl => by
    rcases Nat.lt_trichotomy i q with h | h | h
    · rw [M.low i _ h hx hcl] at hLi; cases hLi
    · exact h
    · exact (Zpp g I.closed M hx hcl hf h).elim
  unfold wpOp
  rw [ho]
  simp only []
  cases hstep : g.seqs.step i _ hx with
  | off hb hg hv hH =>
    obtain ⟨hd,_,_,hgd⟩ := Zeu (P := P) (N := N) (ops := ops) (o := o) rfl hb
    have hguard := Zpl (m := m) (σ := Zj w) hgd (e := es i) (a := a) (fun t b ht => hreads t (by simp [AInstr.reads,ht]))
    rw [hguard,hg]
    simp only [Bool.false_eq_true,if_false]
    have hv' : VRA m (Zj w) (vs i) undef := by rw [hv]; exact VRA.undef
    have henv := Zpy g hNa I.size M.env hx (by rw [hdd]; exact hd) hv'
    rw [hdd] at henv
    refine fin _ _ hd ?_
    by_cases hcl : (Z6 P N ops o).op.cls = .turns
    · have := hiq hcl; subst this
      obtain ⟨q',hq'⟩ := Mid.turn g I.closed M hx hcl (by rw [hH]; exact M.st) (Zh2 M.there) henv I.size
      exact ⟨q',m,hq'⟩
    · exact ⟨q,m,M.stay hx hcl M.st (Zh2 M.there) henv⟩
  | go hg hs =>
    have hd : Zl8 N o.dst = true := (Zeu rfl hs.notBad).1
    have main : Region.wanted o (yielded ops a.tmps) = true ∧ o.wp P a w K Q := by
      cases hcl : (Z6 P N ops o).op.cls with
      | turns =>
        have := hiq hcl; subst this
        refine Zm4 M.st.rel hs hreads hg fun m' w' u hst hv => fin u w' hd ?_
        have hm := hst.mle M.st.rel
        have henv := Zpy g hNa I.size (M.env.mono hm) hx (by rw [hdd]; exact hd) hv
        rw [hdd] at henv
        obtain ⟨q',hq'⟩ := Mid.turn g I.closed M hx hcl (M.st.trans g.rel hst) (fun b L' hb h0 => by
          cases hmb : m b with
          | some L2 => exact Zh2 M.there b L2 hmb h0
          | none => exact ⟨i,hil,hLi',hst.dom b L' hmb hb,hst.rel.lt hb⟩) henv I.size
        exact ⟨q',m',hq'⟩
      | quiet =>
        have hs' : SOp P true (Z6 P N ops o) (es i) (Hs q) (vs i) (Hs q) := by
          cases hs with
          | ev h => exact .ev ((Zwy hcl h).2 _)
          | @evF v0 E h hf hH =>
            obtain ⟨h1,h2⟩ := Zwy hcl h
            have hE : E = [] := by
              have := congrArg List.length h1
              simp at this
              exact this
            subst hE
            exact .evF (E := []) (by rw [List.append_nil]; exact h2 _) hf rfl
          | @call fo args f caps h h2 h3 h4 =>
            rw [h] at hcl
            cases fo <;> cases hcl
        refine Zm4 M.st.rel hs' hreads hg fun m' w' u hst hv => fin u w' hd ?_
        have hm := hst.mle M.st.rel
        have henv := Zpy g hNa I.size (M.env.mono hm) hx (by rw [hdd]; exact hd) hv
        rw [hdd] at henv
        refine ⟨q,m',M.stay hx (by rw [hcl]; intro h; cases h) (M.st.trans g.rel hst) (fun b L' hb h0 => ?_) henv⟩
        cases hmb : m b with
        | some L2 => exact Zh2 M.there b L2 hmb h0
        | none =>
          have h1 := hst.dom b L' hmb hb
          have h2 := hst.rel.lt hb
          omega
      | reads =>
       rcases Nat.lt_or_ge q i with hqi | hqi
       ·
        have hlen : ∀ j k,j ≤ k → k ≤ l.length → (Hs j).length ≤ (Hs k).length := fun j k h1 h2 => (g.seqs.hle g.hl g.seen k h1 h2).len
        obtain ⟨h1q,y,hy,hyc⟩ := M.first (by omega)
        have hld : (Z6 P N ops o).op.isLd = true := ((Zmj (g.ord.apart I.closed hqi hy hx hf h1q)).1 ⟨hyc,hcl⟩).2
        have happ : ∀ k z,q ≤ k → k < i → l[k]? = some z → z.op.cls ≠ .turns ∨ z.op.isApp = true := fun k z k1 k2 hz => by
          by_cases hzc : z.op.cls = .turns
          · right
            have hLk : L.getD k false = false := by
              cases hL : L.getD k false with
              | false => rfl
              | true =>
                by_cases hkq : k = q
                · subst hkq; rw [h1q] at hL; cases hL
                · exact (Zpp g I.closed M hz hzc (I.closed _ hL) (by omega)).elim
            exact ((Zmj (g.ord.apart I.closed k2 hz hx hf hLk)).1 ⟨hzc,hcl⟩).1
          · exact .inl hzc
        obtain ⟨ag,n,ad,hop⟩ : ∃ ag n ad,(Z6 P N ops o).op = .load ag n ad := by
          generalize (Z6 P N ops o).op = oo at hld
          unfold AOp.isLd at hld
          split at hld
          · exact ⟨_,_,_,rfl⟩
          · cases hld
        have hopd : ∃ X,Zx X = some ad := by
          have h2 := (Zeu (P := P) (N := N) (ops := ops) (o := o) rfl hs.notBad).2.2.1
          rw [hop] at h2
          exact Zbey (Z90 h2.symm)
        have hback : ∀ b r f row,ad.ev (es i) = .c (.ptr b r f) → Heap.row (Hs i) b r = some row → Heap.row (Hs q) b r = some row := fun b r f row had hrow => by
          obtain ⟨X,hX⟩ := hopd
          obtain ⟨t,rfl,het⟩ := Z7p hX had
          have hv := hreads t (by simp [AInstr.reads,hop,AOp.reads,Opd.tmps])
          rw [het] at hv
          have hbq : b < (Hs q).length := by
            generalize a.tmps.getD t undef = uu at hv
            cases hv with
            | c hv => cases hv with
              | ptr hm => exact M.st.rel.lt hm
          exact g.seqs.backs hbq i (by omega) (by omega) (fun k k1 k2 => hlen q k k1 (by omega)) happ hrow
        have hs' : SOp P true (Z6 P N ops o) (es i) (Hs q) (vs i) (Hs q) := by
          cases hs with
          | ev h =>
            rw [hop] at h
            exact .ev (by rw [hop]; exact (Z68 h hback).2)
          | @evF v0 E h hf hH =>
            rw [hop] at h
            obtain ⟨h1,h2⟩ := Z68 h hback
            have hE : E = [] := by
              have := congrArg List.length h1
              simp at this
              exact this
            subst hE
            exact .evF (E := []) (by rw [List.append_nil,hop]; exact h2) hf rfl
          | call h => rw [hop] at h; cases h
        refine Zm4 M.st.rel hs' hreads hg fun m' w' u hst hv => fin u w' hd ?_
        have hm := hst.mle M.st.rel
        have henv := Zpy g hNa I.size (M.env.mono hm) hx (by rw [hdd]; exact hd) hv
        rw [hdd] at henv
        refine ⟨q,m',M.stay hx (by rw [hcl]; intro h; cases h) (M.st.trans g.rel hst) (fun b L' hb h0 => ?_) henv⟩
        cases hmb : m b with
        | some L2 => exact Zh2 M.there b L2 hmb h0
        | none =>
          have h1 := hst.dom b L' hmb hb
          have h2 := hst.rel.lt hb
          omega
       · have hiq' : i < q := by
           rcases Nat.lt_trichotomy i q with h | h | h
           · exact h
           · subst h
             obtain ⟨_,y,hy,hyc⟩ := M.first hil
             rw [hx] at hy; injection hy with hy; subst hy
             rw [hcl] at hyc; cases hyc
           · omega
         have hno : ∀ k y,i ≤ k → k < q → l[k]? = some y → y.op.cls ≠ .turns := fun k y h1 h2 hy hyc => by
           by_cases hik : k = i
           · subst hik; rw [hx] at hy; injection hy with hy; subst hy; rw [hcl] at hyc; cases hyc
           · exact (Zmj (g.ord.apart I.closed (by omega) hx hy (I.closed _ (M.low k y h2 hy hyc)) hLi)).2.2 ⟨hcl,hyc⟩
         have hp1 : Hs i <+: Hs (i + 1) := g.seqs.prefix1 hx (by rw [hcl]; intro h; cases h)
         have hp2 : Hs (i + 1) <+: Hs q := g.seqs.prefixes q (by omega) M.le fun k y h1 h2 => hno k y (by omega) h2
         obtain ⟨mi,wi,ai,ri,hei,_⟩ := (g.seqs.seen g.hl g.seen i (by omega)).1
         have rc := M.st.rel.cut ri (hp1.trans hp2)
         have hreads' : EnvOn (m.cut mi) (Zj w) (Z6 P N ops o).reads (es i) a := fun t ht => (hreads t ht).inter (hei t)
         refine Zm4 rc hs hreads' hg fun m' w' u hst hv => fin u w' hd ?_
         have hlen : ∀ j k,j ≤ k → k ≤ l.length → (Hs j).length ≤ (Hs k).length := fun j k h1 h2 => (g.seqs.hle g.hl g.seen k h1 h2).len
         obtain ⟨hst',hup,hm⟩ := St.merge g.rel M.st (hlen 0 i (Nat.zero_le _) (by omega)) (fun b L' h => (LMap.cut_some.1 h).1) (fun _ h => h) (fun _ h => h) rc hst hp1 hp2 (fun b L' hb h1 h2 => by
           obtain ⟨j,j1,j2,j3,j4⟩ := M.there b L' hb (Nat.le_trans (hlen 0 i (Nat.zero_le _) (by omega)) h1)
           rcases Nat.lt_trichotomy j i with h | h | h
           · have := hlen (j + 1) i (by omega) (by omega); omega
           · subst h; rw [hLi] at j2; cases j2
           · have := hlen (i + 1) j (by omega) (by omega); omega)
         have henv := Zpy g hNa I.size (M.env.mono hm) hx (by rw [hdd]; exact hd) (hv.up hup)
         rw [hdd] at henv
         refine ⟨q,_,M.stay hx (by rw [hcl]; intro h; cases h) hst' (fun b L' hb h0 => ?_) henv⟩
         cases hmb : m b with
         | some L2 => exact Zh2 M.there b L2 hmb h0
         | none =>
           rw [LMap.join_none hmb] at hb
           refine ⟨i,hil,hLi',hst.dom b L' ?_ hb,hst.rel.lt hb⟩
           cases hcb : m.cut mi b with
           | none => rfl
           | some L3 => rw [(LMap.cut_some.1 hcb).1] at hmb; cases hmb
    rw [if_pos main.1]
    exact .inl main.2
def unl (L : Array Bool) : Nat → Nat
  | 0 => 0
  | n + 1 => unl L n + if L.getD n false then 0 else 1
theorem Z5d {L : Array Bool} : ∀ {n : Nat},unl L n = 0 → ∀ i,i < n → L.getD i false = true
  | n + 1,h,i,hi => by
    simp only [unl] at h
    by_cases hn : i = n
    · subst hn
      cases hL : L.getD i false with
      | true => rfl
      | false => rw [hL] at h; simp at h
    · exact Z5d (n := n) (by omega) i (by omega)
theorem Z7b {L : Array Bool} {i : Nat} (hL : L.getD i false = false) (hi : i < L.size) : ∀ {n : Nat},(n ≤ i → unl (L.setIfInBounds i true) n = unl L n) ∧ (i < n → unl (L.setIfInBounds i true) n + 1 = unl L n)
  | 0 => ⟨fun _ => rfl,fun h => by omega⟩
  | n + 1 => by
    have ih := Z7b hL hi (n := n)
    refine ⟨fun h => ?_,fun h => ?_⟩
    · simp only [unl]
      rw [ih.1 (by omega),getD_set_ne false (by omega)]
    · simp only [unl]
      by_cases hn : n = i
      · subst hn
        rw [ih.1 (Nat.le_refl _),hL]
        simp [hi]
      · have := ih.2 (by omega)
        rw [getD_set_ne false (by omega)]
        omega
theorem Zbhl (n k : Nat) (h : k ≤ n) : unl (Array.replicate n false) k = k := by
  induction k with
  | zero => rfl
  | succ k ih => simp only [unl]; rw [ih (by omega)]; simp [show k < n by omega]
theorem Z1e {L : Array Bool} (hs : L.size = ops.size) {i : Nat} (hi : i ∈ Region.ready .any ops L) : unl (L.setIfInBounds i true) ops.size + 1 = unl L ops.size := by
  obtain ⟨h1,o,ho,_⟩ := mem_ready.1 hi
  have hios : i < ops.size := (Array.getElem?_eq_some_iff.1 ho).1
  have : L.getD i false = false := by
    have : i < L.size := by rw [hs]; exact hios
    simpa [this] using h1
  exact (Z7b this (by rw [hs]; exact hios)).2 hios
theorem Zba8 (ho : Ordered ops l) {L : Array Bool} (hs : L.size = ops.size) (h : Region.ready .any ops L = []) : ∀ i,i < ops.size → L.getD i false = true := by
  intro i
  induction i using Nat.strongRecOn with
  | _ i ih =>
    intro hi
    cases hL : L.getD i false with
    | true => rfl
    | false =>
      exfalso
      have : i ∈ Region.ready .any ops L := by
        refine mem_ready.2 ⟨?_,ops[i],by simp [hi],fun e he hb => ?_⟩
        · have : i < L.size := by rw [hs]; exact hi
          simpa [this] using hL
        · have hlt := ho.back i ops[i] (by simp [hi]) e he hb
          exact ih e.on hlt (by omega)
      rw [h] at this
      cases this
theorem Inv.all (g : Given P B N ops l es Hs vs m0 w0) {a0 : Act} (hN : N ≤ a0.tmps.size) {Q : Exit → Act → World → Prop}
    (hQ : ∀ m' w' a',St B (Hs 0) m0 w0 (Hs l.length) m' w' → EnvAll m' (Zj w') (es l.length) a' → a'.defers = a0.defers → a'.tmps.size = a0.tmps.size → Q .normal a' w') :
    ∀ (fuel : Nat) (L : Array Bool) (a : Act) (w : World),unl L ops.size ≤ fuel → Inv B N ops l es Hs m0 w0 a0 L a w → wpAny P .any ops Q fuel L a w := by
  have done : ∀ (L : Array Bool) (a : Act) (w : World),(∀ i,i < ops.size → L.getD i false = true) → Inv B N ops l es Hs m0 w0 a0 L a w → Q .normal a w := by
    intro L a w hall I
    obtain ⟨q,m,M⟩ := I.mid
    have hq : q = l.length := by
      by_cases h : q < l.length
      · have := (M.first h).1
        rw [hall q (by rw [← g.len]; exact h)] at this
        cases this
      · have := M.le; omega
    subst hq
    refine hQ m w a M.st (fun t => ?_) I.defers I.tsize
    by_cases hw : ∃ (k : Nat) (y : AInstr),l[k]? = some y ∧ y.dst = some t
    · obtain ⟨k,y,hk,hd⟩ := hw
      exact M.env.on k y t hk hd (hall k (by rw [← g.len]; exact (List.getElem?_eq_some_iff.1 hk).1))
    · rw [g.seqs.keep (i := 0) l.length (Nat.zero_le _) (Nat.le_refl _) fun k' y' _ _ hy' hd' => hw ⟨k',y',hy',hd'⟩]
      exact M.env.off t fun k' y' hk' hd' => absurd ⟨k',y',hk',hd'⟩ hw
  intro fuel
  induction fuel with
  | zero =>
    intro L a w hu I
    have hall := Z5d (Nat.le_zero.1 hu)
    refine ⟨?_,done L a w hall I⟩
    cases hr : Region.ready .any ops L with
    | nil => rfl
    | cons i r =>
      have := Z1e I.size (i := i) (by rw [hr]; simp)
      omega
  | succ fuel ih =>
    intro L a w hu I
    refine ⟨fun hr => done L a w (Zba8 g.ord I.size hr) I,fun i hi => ?_⟩
    refine I.step g hN hi fun a' w' I' => ih _ a' w' ?_ I'
    have := Z1e I.size hi
    omega
end
theorem Z8v {N : Nat} {ops : Array Oper} {l : List AInstr} {e e' : Env} {H H' : Heap} (ht : Zmp P true l e H e' H') (hl : l = ops.toList.map (Z6 P N ops)) (hd : Ztt ops l = true)
    {B : Nat} {m0 : LMap} {w0 : World} {a0 : Act} {Q : Exit → Act → World → Prop} (r : Rel B m0 H w0) (he : EnvAll m0 (Zj w0) e a0) (hN : N ≤ a0.tmps.size)
    (hQ : ∀ m' w' a',St B H m0 w0 H' m' w' → EnvAll m' (Zj w') e' a' → a'.defers = a0.defers → a'.tmps.size = a0.tmps.size → Q .normal a' w') :
    wpAny P .any ops Q ops.size (Array.replicate ops.size false) a0 w0 := by
  obtain ⟨es,Hs,vs,h1,h2,h3,h4,hs⟩ := Z9u ht
  subst h1; subst h2; subst h3; subst h4
  have ho : Ordered ops l := Ordered.of (by rw [hl]; simp) hd
  have g : Given P B N ops l es Hs vs m0 w0 := ⟨hl,ho,hs,⟨m0,w0,a0,r,he,hN⟩,r⟩
  have hnone : ∀ k,(Array.replicate ops.size false).getD k false = false := fun k => by
    by_cases hk : k < ops.size <;> simp [hk]
  refine Inv.all g hN hQ _ _ _ _ (Nat.le_of_eq (Zbhl _ _ (Nat.le_refl _))) ⟨by simp,fun j hj => (by rw [hnone] at hj; cases hj),?_,rfl,rfl⟩
  obtain ⟨q,q1,q2,q3,q4⟩ := Zt0 l _ 0 rfl (Nat.zero_le _)
  exact ⟨q,m0,q2,fun k x k1 k2 k3 => absurd k3 (q3 k x (Nat.zero_le _) k1 k2),fun h => ⟨hnone _,q4 h⟩,(St.refl r).more (hs.prefixes q q1 q2 q3),fun b L hb h0 => absurd (r.lt hb) (by omega),
    ⟨fun k x t _ _ hL => (by rw [hnone] at hL; cases hL),fun t _ => he t⟩⟩
end Go.Proofs.YticmfblfghdkbaaGreatDoor.Eng
