/- Parts of this claim's proof, joined. No statement of the seat is proved here. -/
import Derived.Test.YticmfblfghdkbaaGreatDoorV13
set_option linter.unusedVariables false
set_option linter.unusedSimpArgs false
namespace Go.Proofs.YticmfblfghdkbaaGreatDoor.Eng
open Go
theorem Z08 : ∀ (n : Nat) (ws : List Int) (i : Nat),ws.length ≤ i → i < ws.length + n → (Zm4 n ws)[i]? = some (Ziu ((Zm4 n ws).take i))
 | 0,ws,i,h1,h2 => by omega
 | n + 1,ws,i,h1,h2 => by
  have hp := Znf n (ws ++ [Ziu ws])
  rw [Zm4]
  by_cases h : i = ws.length
  ·subst h
   obtain ⟨t,ht⟩ := hp
   rw [← ht]
   simp
  ·exact Z08 n (ws ++ [Ziu ws]) i (by simp; omega) (by simp; omega)
theorem Z9u {m : ByteArray} {a i : Nat} (h : i < 16) : (Zd7 m a)[i]? = some (Zqp m (a + 4 * i)) := by
 obtain ⟨t,ht⟩ := Znf 48 (Zel m a 16)
 unfold Zd7
 rw [← ht,List.getElem?_append_left (by rw [Zji]; exact h)]
 simp [Zel,h]
theorem Z5r {m : ByteArray} {a i : Nat} (h : 16 ≤ i) (h2 : i < 64) : (Zd7 m a)[i]? = some (Ziu ((Zd7 m a).take i)) :=
 Z08 48 (Zel m a 16) i (by rw [Zji]; exact h) (by rw [Zji]; omega)
abbrev wBlk (l : List Int) : Blk := { sz := 1,rows := l.map wR,own := true,live := true }
theorem Zr {H : Heap} {b i : Nat} {l : List Int} {x : Int} (h : H[b]? = some (wBlk l)) (hx : l[i]? = some x) : Heap.row H b i = some [.int .u32 x] := by
 rw [Zhv h rfl]; simp [hx,wR]
theorem Zct {H : Heap} {b i : Nat} {l : List Int} {x : Int} (h : H[b]? = some (wBlk l)) : Heap.put H b i [.int .u32 x] = H.set b (wBlk (l.set i x)) := by
 rw [Zkd h]
 congr 2
 rw [List.map_set]; rfl
theorem Zbgx {H : Heap} {b8 : Nat} {l : List Int} {x : Int} (h8 : H[b8]? = some (wBlk l)) (hl : l.length = 8) :
  ∃ G : Heap,vApp 1 4 (.c (.slc H.length 0 1 1 false)) (.c (.slc b8 0 7 1 false)) (H ++ [{ sz := 1,rows := [[.int .u32 x]] }]) = some (.c (.slc (H.length + 1) 0 8 1 false),G) ∧ G[H.length + 1]? = some (wBlk (x :: l.take 7)) ∧ (∀ b,b < H.length → G[b]? = H[b]?) := by
 have hb8 : b8 < H.length := (List.getElem?_eq_some_iff.1 h8).1
 have hr : Heap.rowsOf (H ++ [({ sz := 1,rows := [[.int .u32 x]] } : Blk)]) (.slc b8 0 7 1 false) = some ((l.take 7).map wR) := by
  simp only [Heap.rowsOf,Zcs hb8,h8]
  rw [if_neg (by omega),if_pos (by simp; omega)]
  simp [List.map_take]
 have hk : (H ++ [({ sz := 1,rows := [[.int .u32 x]] } : Blk)])[H.length]? = some { sz := 1,rows := [[.int .u32 x]] } := by simp
 have hl7 : ((l.take 7).map wR).length = 7 := by simp; omega
 refine ⟨((H ++ [({ sz := 1,rows := [[.int .u32 x]] } : Blk)]).set H.length { sz := 1,rows := [[.int .u32 x]],live := false }) ++ [wBlk (x :: l.take 7)],?_,by simp,fun b hb => ?_⟩
 ·simp only [vApp,Zc3,hr,Zbh,beq_self_eq_true,if_true,hl7,hk]
  simp [wR]
 ·rw [Zcs (by simp; omega),List.getElem?_set_ne (by omega),Zcs hb]
set_option maxRecDepth 100000 in
set_option maxHeartbeats 16000000 in
theorem Zo4 (s : ByteArray) (hs : s.size ≤ 1000000000) : Pr 70 [sC s] (sC (sumD s)) := by
 refine Zl mixed Zbb2 rfl fun hl' T => ?_
 have hfin : sumD s = baL (Zqb (Zf7 (padM s) ((s.size + 72) / 64) 0 Zlf)) := rfl
 have hMs := Ztx s
 have hpadM : (padM s).data.toList = s.data.toList ++ [128] ++ List.replicate (padN s.size) 0 ++ Zcx ((s.size * 8 : Nat) : Int) := by
  have hz : ∀ c,Lib.repeatL [(0 : UInt8)] c = List.replicate c 0 := fun c => by
   induction c with
   | zero => rfl
   | succ c ih => simp [Lib.repeatL,ih,List.replicate_succ]
  unfold padM repS
  simp only [ByteArray.data_append,Array.toList_append,Zgg]
  rw [hz]
 obtain ⟨M,hM⟩ : ∃ M,M = padM s := ⟨_,rfl⟩
 rw [← hM] at hfin hMs hpadM
 have hcu := Zxg
 have hcl : Zfu.length = 64 := rfl
 obtain ⟨cw,hcw⟩ : ∃ cw,cw = Zfu := ⟨_,rfl⟩
 rw [← hcw] at hcl hcu
 have loopF : ∀ (rest pre : List Int) (acc : List UInt8) (e : Env) (H : Heap) (b4 : Nat),pre.length + rest.length = 8 → e 4 = .c (.slc b4 0 8 1 false) → H[b4]? = some (wBlk (pre ++ rest)) → NB (e 16) b4 → e 17 = iC pre.length → Acc 1 (acc.map Zs) (e 16) H → acc.length ≤ 4 * pre.length →
   acc ++ rest.flatMap Zqy = (sumD s).data.toList → Run (Zt Tryz.prog T) ⟨[.tmp 2],fun u E => Zf E u = some (sC (sumD s))⟩ [.loop Zoe,.blk 8,.code Ztl] e H := by
  intro rest
  induction rest with
  | nil =>
   intro pre acc e H b4 hp h4 hb4 nb h17 hacc hal hv
   have hc : ¬ ((pre.length : Int) < 8) := by simp at hp; omega
   refine Zi ?_
   conv => enter [3,1]; unfold Zoe
   simp only [go_sem,simprocAttr,-Nat.reduceSubDiff,h17,hc]
   unfold Ztl
   have hb := hacc.b2sL
   simp only [go_sem,simprocAttr,-Nat.reduceSubDiff,hb]
   have : acc = (sumD s).data.toList := by simpa using hv
   rw [this,Zjg]
   simp [Zf,Ze,Zk,Zg,Zh,Zd,Zc,Zb]
  | cons y rest ih =>
   intro pre acc e H b4 hp h4 hb4 nb h17 hacc hal hv
   have hp8 : pre.length < 8 := by simp at hp; omega
   have hc : ((pre.length : Int) < 8) := by omega
   have hx : ∀ H : Heap,vIx 1 (.c (.slc b4 0 8 1 false)) (iC pre.length) H = some (.c (.ptr b4 pre.length 0),H) := fun H => Zek hp8
   have hrow := Zr hb4 (i := pre.length) (x := y) (by simp)
   have s24 : ∀ (ik : IntKind) (H : Heap),vBin .shr (.c (.int .u32 y)) (.c (.int ik 24)) H = some (.c (.int .u32 (shrW y 24)),H) := fun ik H => Zci (by decide)
   have s16 : ∀ (ik : IntKind) (H : Heap),vBin .shr (.c (.int .u32 y)) (.c (.int ik 16)) H = some (.c (.int .u32 (shrW y 16)),H) := fun ik H => Zci (by decide)
   have s8 : ∀ (ik : IntKind) (H : Heap),vBin .shr (.c (.int .u32 y)) (.c (.int ik 8)) H = some (.c (.int .u32 (shrW y 8)),H) := fun ik H => Zci (by decide)
   have hn : IntKind.wrap .i64 ((pre.length : Int) + 1) = ((pre ++ [y]).length : Int) := by rw [Zn (by omega)]; simp
   have bnd : ((acc.map Zs).length + 4) * 1 ≤ 140737488355328 := by simp; omega
   have hacc1 : ∀ v' : List UInt8,acc.length ≤ 32 → True := fun _ _ => trivial
   refine Zi ?_
   conv => enter [3,1]; unfold Zoe
   simp only [go_sem,simprocAttr,-Nat.reduceSubDiff,h4,h17,hc,hx,hrow,s24,s16,s8,Zeg]
   refine Acc.app_keep hacc bnd fun v' H' ha' keep => ?_
   obtain ⟨hb',nb'⟩ := keep b4 _ nb hb4
   simp only [go_sem,simprocAttr,-Nat.reduceSubDiff,h17,hn]
   refine ih (pre ++ [y]) (acc ++ Zqy y) _ _ b4 (by simp at hp ⊢; omega) ?_ ?_ ?_ ?_ ?_ ?_ ?_
   ·simp only [go_sem,simprocAttr,-Nat.reduceSubDiff,h4]
   ·rw [List.append_assoc]; exact hb'
   ·simp only [go_sem,simprocAttr,-Nat.reduceSubDiff]; exact nb'
   ·simp only [go_sem,simprocAttr,-Nat.reduceSubDiff,hn]
   ·simp only [go_sem,simprocAttr,-Nat.reduceSubDiff]; rw [List.map_append]; exact ha'
   ·simp [Zqy]; omega
   ·rw [← hv]; simp
 have cx : ∀ (b : Nat) (k : Nat) (H : Heap),k < 8 → vIx 1 (.c (.slc b 0 8 1 false)) (iC (k : Int)) H = some (.c (.ptr b k 0),H) := fun b k H hk => Zek hk
 have c0 : ∀ (b : Nat) (H : Heap),vIx 1 (.c (.slc b 0 8 1 false)) (iC 0) H = some (.c (.ptr b 0 0),H) := fun b H => cx b 0 H (by omega)
 have c1 : ∀ (b : Nat) (H : Heap),vIx 1 (.c (.slc b 0 8 1 false)) (iC 1) H = some (.c (.ptr b 1 0),H) := fun b H => cx b 1 H (by omega)
 have c2 : ∀ (b : Nat) (H : Heap),vIx 1 (.c (.slc b 0 8 1 false)) (iC 2) H = some (.c (.ptr b 2 0),H) := fun b H => cx b 2 H (by omega)
 have c3 : ∀ (b : Nat) (H : Heap),vIx 1 (.c (.slc b 0 8 1 false)) (iC 3) H = some (.c (.ptr b 3 0),H) := fun b H => cx b 3 H (by omega)
 have c4 : ∀ (b : Nat) (H : Heap),vIx 1 (.c (.slc b 0 8 1 false)) (iC 4) H = some (.c (.ptr b 4 0),H) := fun b H => cx b 4 H (by omega)
 have c5 : ∀ (b : Nat) (H : Heap),vIx 1 (.c (.slc b 0 8 1 false)) (iC 5) H = some (.c (.ptr b 5 0),H) := fun b H => cx b 5 H (by omega)
 have c6 : ∀ (b : Nat) (H : Heap),vIx 1 (.c (.slc b 0 8 1 false)) (iC 6) H = some (.c (.ptr b 6 0),H) := fun b H => cx b 6 H (by omega)
 have c7 : ∀ (b : Nat) (H : Heap),vIx 1 (.c (.slc b 0 8 1 false)) (iC 7) H = some (.c (.ptr b 7 0),H) := fun b H => cx b 7 H (by omega)
 have hs7 : ∀ (b : Nat) (e : Env) (H : Heap),vSl 1 (.c (.slc b 0 8 1 false)) e none (some (.k (.c (.int .i64 7)))) none H = some (.c (.slc b 0 7 1 false),H) := fun b e H => rfl
 have loopM : ∀ (n at_ : Nat) (h : V8) (ws : List Int) (e : Env) (H : Heap) (b4 b6 : Nat),at_ + 64 * n = M.size → ws.length = 64 → e 3 = .c (.lst 1 (M.data.toList.map Zs)) → e 4 = .c (.slc b4 0 8 1 false) → e 5 = .c (.lst 1 (cw.map wR)) → e 6 = .c (.slc b6 0 64 1 false) → e 7 = iC at_ →
   H[b4]? = some (wBlk h.list) → H[b6]? = some (wBlk ws) → b4 ≠ b6 → baL (Zqb (Zf7 M n at_ h)) = sumD s →
   Run (Zt Tryz.prog T) ⟨[.tmp 2],fun u E => Zf E u = some (sC (sumD s))⟩ [.loop Zlq,.blk 2,.code Zoo] e H := by
  intro n
  induction n with
  | zero =>
   intro at_ h ws e H b4 b6 hat hws h3 h4 h5 h6 h7 hb4 hb6 hne hv
   have hml : (M.data.toList.map Zs).length = M.size := by rw [List.length_map,Zew]
   have hc : ¬ ((at_ : Int) < (M.size : Int)) := by omega
   refine Zi ?_
   conv => enter [3,1]; unfold Zlq
   simp only [go_sem,simprocAttr,-Nat.reduceSubDiff,h3,h7,hml,hc]
   unfold Zoo
   simp only [go_sem,simprocAttr,-Nat.reduceSubDiff]
   refine loopF h.list [] [] _ _ b4 rfl ?_ hb4 ?_ ?_ ?_ (by simp) ?_
   ·simp only [go_sem,simprocAttr,-Nat.reduceSubDiff,h4]
   ·simp only [go_sem,simprocAttr,-Nat.reduceSubDiff]; intro n s q z e; cases e
   ·first | (simp only [go_sem,simprocAttr,-Nat.reduceSubDiff]; done) | (simp only [go_sem,simprocAttr,-Nat.reduceSubDiff]; rfl)
   ·simp only [go_sem,simprocAttr,-Nat.reduceSubDiff]; exact .nil
   ·rw [← hv]; rfl
  | succ n ih =>
   intro at_ h ws e H b4 b6 hat hws h3 h4 h5 h6 h7 hb4 hb6 hne hv
   have hml : (M.data.toList.map Zs).length = M.size := by rw [List.length_map,Zew]
   have hc : ((at_ : Int) < (M.size : Int)) := by omega
   obtain ⟨S,hS⟩ : ∃ S,S = Zd7 M at_ := ⟨_,rfl⟩
   have hSl : S.length = 64 := by rw [hS]; exact Zv9 _ _
   have hv : baL (Zqb (Zf7 M n (at_ + 64) ((Zfh h (cw.zip S)).add h))) = sumD s := by rw [hS,hcw]; exact hv
   have hw1 : IntKind.wrap .i64 ((at_ : Int) + 64) = ((at_ + 64 : Nat) : Int) := by rw [Zn (by omega)]; omega
   have loopR : ∀ (m i : Nat) (v : V8) (R : List Int) (e : Env) (H : Heap) (b8 : Nat),i + m = 64 → R.length = m → Zfh v ((cw.zip S).drop i) = Zfh h (cw.zip S) → e 3 = .c (.lst 1 (M.data.toList.map Zs)) → e 4 = .c (.slc b4 0 8 1 false) → e 5 = .c (.lst 1 (cw.map wR)) → e 6 = .c (.slc b6 0 64 1 false) → e 7 = iC at_ →
     e 8 = .c (.slc b8 0 8 1 false) → e 9 = iC i → H[b4]? = some (wBlk h.list) → H[b6]? = some (wBlk (S.take i ++ R)) → H[b8]? = some (wBlk v.list) → b8 ≠ b4 → b8 ≠ b6 →
     Run (Zt Tryz.prog T) ⟨[.tmp 2],fun u E => Zf E u = some (sC (sumD s))⟩ [.loop Zla,.blk 4,.code Zsd,.blk 3,.code Ztr,.loop Zlq,.blk 2,.code Zoo] e H := by
    intro m
    induction m with
    | zero =>
     intro i v R e H b8 hi hR hv' h3 h4 h5 h6 h7 h8 h9 hb4 hb6 hb8 hn4 hn6
     have hc' : ¬ ((i : Int) < 64) := by omega
     have hd : (cw.zip S).drop i = [] := List.drop_eq_nil_of_le (by rw [List.length_zip,hcl,hSl]; omega)
     rw [hd] at hv'
     have hv' : v = Zfh h (cw.zip S) := hv'
     rw [← hv'] at hv
     refine Zi ?_
     conv => enter [3,1]; unfold Zla
     simp only [go_sem,simprocAttr,-Nat.reduceSubDiff,h9,hc']
     unfold Zsd
     simp only [go_sem,simprocAttr,-Nat.reduceSubDiff]
     clear hv' hd
     obtain ⟨va,vb,vc,vd,ve,vf,vg,vh⟩ := v
     obtain ⟨ha,hb,hc_,hd_,he,hf,hg,hh⟩ := h
     have w5 : IntKind.wrap .i64 5 = 5 := by decide
     have w6 : IntKind.wrap .i64 6 = 6 := by decide
     have w7 : IntKind.wrap .i64 7 = 7 := by decide
     have w8 : IntKind.wrap .i64 8 = 8 := by decide
     have hb4 : H[b4]? = some (wBlk [ha,hb,hc_,hd_,he,hf,hg,hh]) := hb4
     have hb8 : H[b8]? = some (wBlk [va,vb,vc,vd,ve,vf,vg,vh]) := hb8
     have q0 := Zr hb8 (i := 0) (x := va) rfl
     have q1 := Zr hb8 (i := 1) (x := vb) rfl
     have q2 := Zr hb8 (i := 2) (x := vc) rfl
     have q3 := Zr hb8 (i := 3) (x := vd) rfl
     have q4 := Zr hb8 (i := 4) (x := ve) rfl
     have q5 := Zr hb8 (i := 5) (x := vf) rfl
     have q6 := Zr hb8 (i := 6) (x := vg) rfl
     have q7 := Zr hb8 (i := 7) (x := vh) rfl
     have z0 := hb4
     have y0 := hb6
     have p0 := Zr z0 (i := 0) (x := ha) rfl
     have m0 : Heap.mine H b4 = true := Zb7 z0 rfl rfl
     have u0 : Heap.put H b4 0 [.int .u32 (addW ha va)] = H.set b4 (wBlk [(addW ha va),hb,hc_,hd_,he,hf,hg,hh]) := Zct z0
     refine Zi ?_
     conv => enter [3,1]; unfold Zex
     simp only [go_sem,simprocAttr,-Nat.reduceSubDiff,h4,h8,c0,p0,q0,m0,u0,Z8t]
     have z1 : (H.set b4 (wBlk [(addW ha va),hb,hc_,hd_,he,hf,hg,hh]))[b4]? = some (wBlk [(addW ha va),hb,hc_,hd_,he,hf,hg,hh]) := Zw z0
     have y1 : (H.set b4 (wBlk [(addW ha va),hb,hc_,hd_,he,hf,hg,hh]))[b6]? = some (wBlk (S.take i ++ R)) := Zo y0 (Ne.symm hne)
     have q1 := Zr (Zo (B' := wBlk [(addW ha va),hb,hc_,hd_,he,hf,hg,hh]) (hb8) hn4) (i := 1) (x := vb) rfl
     have q2 := Zr (Zo (B' := wBlk [(addW ha va),hb,hc_,hd_,he,hf,hg,hh]) (hb8) hn4) (i := 2) (x := vc) rfl
     have q3 := Zr (Zo (B' := wBlk [(addW ha va),hb,hc_,hd_,he,hf,hg,hh]) (hb8) hn4) (i := 3) (x := vd) rfl
     have q4 := Zr (Zo (B' := wBlk [(addW ha va),hb,hc_,hd_,he,hf,hg,hh]) (hb8) hn4) (i := 4) (x := ve) rfl
     have q5 := Zr (Zo (B' := wBlk [(addW ha va),hb,hc_,hd_,he,hf,hg,hh]) (hb8) hn4) (i := 5) (x := vf) rfl
     have q6 := Zr (Zo (B' := wBlk [(addW ha va),hb,hc_,hd_,he,hf,hg,hh]) (hb8) hn4) (i := 6) (x := vg) rfl
     have q7 := Zr (Zo (B' := wBlk [(addW ha va),hb,hc_,hd_,he,hf,hg,hh]) (hb8) hn4) (i := 7) (x := vh) rfl
     have g1 := Zo (B' := wBlk [(addW ha va),hb,hc_,hd_,he,hf,hg,hh]) (hb8) hn4
     generalize H.set b4 (wBlk [(addW ha va),hb,hc_,hd_,he,hf,hg,hh]) = H1 at z1 y1 g1 q1 q2 q3 q4 q5 q6 q7 ⊢
     have p1 := Zr z1 (i := 1) (x := hb) rfl
     have m1 : Heap.mine H1 b4 = true := Zb7 z1 rfl rfl
     have u1 : Heap.put H1 b4 1 [.int .u32 (addW hb vb)] = H1.set b4 (wBlk [(addW ha va),(addW hb vb),hc_,hd_,he,hf,hg,hh]) := Zct z1
     refine Zi ?_
     conv => enter [3,1]; unfold Zex
     simp only [go_sem,simprocAttr,-Nat.reduceSubDiff,h4,h8,c1,p1,q1,m1,u1,Zza]
     have z2 : (H1.set b4 (wBlk [(addW ha va),(addW hb vb),hc_,hd_,he,hf,hg,hh]))[b4]? = some (wBlk [(addW ha va),(addW hb vb),hc_,hd_,he,hf,hg,hh]) := Zw z1
     have y2 : (H1.set b4 (wBlk [(addW ha va),(addW hb vb),hc_,hd_,he,hf,hg,hh]))[b6]? = some (wBlk (S.take i ++ R)) := Zo y1 (Ne.symm hne)
     have q2 := Zr (Zo (B' := wBlk [(addW ha va),(addW hb vb),hc_,hd_,he,hf,hg,hh]) (g1) hn4) (i := 2) (x := vc) rfl
     have q3 := Zr (Zo (B' := wBlk [(addW ha va),(addW hb vb),hc_,hd_,he,hf,hg,hh]) (g1) hn4) (i := 3) (x := vd) rfl
     have q4 := Zr (Zo (B' := wBlk [(addW ha va),(addW hb vb),hc_,hd_,he,hf,hg,hh]) (g1) hn4) (i := 4) (x := ve) rfl
     have q5 := Zr (Zo (B' := wBlk [(addW ha va),(addW hb vb),hc_,hd_,he,hf,hg,hh]) (g1) hn4) (i := 5) (x := vf) rfl
     have q6 := Zr (Zo (B' := wBlk [(addW ha va),(addW hb vb),hc_,hd_,he,hf,hg,hh]) (g1) hn4) (i := 6) (x := vg) rfl
     have q7 := Zr (Zo (B' := wBlk [(addW ha va),(addW hb vb),hc_,hd_,he,hf,hg,hh]) (g1) hn4) (i := 7) (x := vh) rfl
     have g2 := Zo (B' := wBlk [(addW ha va),(addW hb vb),hc_,hd_,he,hf,hg,hh]) (g1) hn4
     generalize H1.set b4 (wBlk [(addW ha va),(addW hb vb),hc_,hd_,he,hf,hg,hh]) = H2 at z2 y2 g2 q2 q3 q4 q5 q6 q7 ⊢
     have p2 := Zr z2 (i := 2) (x := hc_) rfl
     have m2 : Heap.mine H2 b4 = true := Zb7 z2 rfl rfl
     have u2 : Heap.put H2 b4 2 [.int .u32 (addW hc_ vc)] = H2.set b4 (wBlk [(addW ha va),(addW hb vb),(addW hc_ vc),hd_,he,hf,hg,hh]) := Zct z2
     refine Zi ?_
     conv => enter [3,1]; unfold Zex
     simp only [go_sem,simprocAttr,-Nat.reduceSubDiff,h4,h8,c2,p2,q2,m2,u2,Z2t]
     have z3 : (H2.set b4 (wBlk [(addW ha va),(addW hb vb),(addW hc_ vc),hd_,he,hf,hg,hh]))[b4]? = some (wBlk [(addW ha va),(addW hb vb),(addW hc_ vc),hd_,he,hf,hg,hh]) := Zw z2
     have y3 : (H2.set b4 (wBlk [(addW ha va),(addW hb vb),(addW hc_ vc),hd_,he,hf,hg,hh]))[b6]? = some (wBlk (S.take i ++ R)) := Zo y2 (Ne.symm hne)
     have q3 := Zr (Zo (B' := wBlk [(addW ha va),(addW hb vb),(addW hc_ vc),hd_,he,hf,hg,hh]) (g2) hn4) (i := 3) (x := vd) rfl
     have q4 := Zr (Zo (B' := wBlk [(addW ha va),(addW hb vb),(addW hc_ vc),hd_,he,hf,hg,hh]) (g2) hn4) (i := 4) (x := ve) rfl
     have q5 := Zr (Zo (B' := wBlk [(addW ha va),(addW hb vb),(addW hc_ vc),hd_,he,hf,hg,hh]) (g2) hn4) (i := 5) (x := vf) rfl
     have q6 := Zr (Zo (B' := wBlk [(addW ha va),(addW hb vb),(addW hc_ vc),hd_,he,hf,hg,hh]) (g2) hn4) (i := 6) (x := vg) rfl
     have q7 := Zr (Zo (B' := wBlk [(addW ha va),(addW hb vb),(addW hc_ vc),hd_,he,hf,hg,hh]) (g2) hn4) (i := 7) (x := vh) rfl
     have g3 := Zo (B' := wBlk [(addW ha va),(addW hb vb),(addW hc_ vc),hd_,he,hf,hg,hh]) (g2) hn4
     generalize H2.set b4 (wBlk [(addW ha va),(addW hb vb),(addW hc_ vc),hd_,he,hf,hg,hh]) = H3 at z3 y3 g3 q3 q4 q5 q6 q7 ⊢
     have p3 := Zr z3 (i := 3) (x := hd_) rfl
     have m3 : Heap.mine H3 b4 = true := Zb7 z3 rfl rfl
     have u3 : Heap.put H3 b4 3 [.int .u32 (addW hd_ vd)] = H3.set b4 (wBlk [(addW ha va),(addW hb vb),(addW hc_ vc),(addW hd_ vd),he,hf,hg,hh]) := Zct z3
     refine Zi ?_
     conv => enter [3,1]; unfold Zex
     simp only [go_sem,simprocAttr,-Nat.reduceSubDiff,h4,h8,c3,p3,q3,m3,u3,Z75]
     have z4 : (H3.set b4 (wBlk [(addW ha va),(addW hb vb),(addW hc_ vc),(addW hd_ vd),he,hf,hg,hh]))[b4]? = some (wBlk [(addW ha va),(addW hb vb),(addW hc_ vc),(addW hd_ vd),he,hf,hg,hh]) := Zw z3
     have y4 : (H3.set b4 (wBlk [(addW ha va),(addW hb vb),(addW hc_ vc),(addW hd_ vd),he,hf,hg,hh]))[b6]? = some (wBlk (S.take i ++ R)) := Zo y3 (Ne.symm hne)
     have q4 := Zr (Zo (B' := wBlk [(addW ha va),(addW hb vb),(addW hc_ vc),(addW hd_ vd),he,hf,hg,hh]) (g3) hn4) (i := 4) (x := ve) rfl
     have q5 := Zr (Zo (B' := wBlk [(addW ha va),(addW hb vb),(addW hc_ vc),(addW hd_ vd),he,hf,hg,hh]) (g3) hn4) (i := 5) (x := vf) rfl
     have q6 := Zr (Zo (B' := wBlk [(addW ha va),(addW hb vb),(addW hc_ vc),(addW hd_ vd),he,hf,hg,hh]) (g3) hn4) (i := 6) (x := vg) rfl
     have q7 := Zr (Zo (B' := wBlk [(addW ha va),(addW hb vb),(addW hc_ vc),(addW hd_ vd),he,hf,hg,hh]) (g3) hn4) (i := 7) (x := vh) rfl
     have g4 := Zo (B' := wBlk [(addW ha va),(addW hb vb),(addW hc_ vc),(addW hd_ vd),he,hf,hg,hh]) (g3) hn4
     generalize H3.set b4 (wBlk [(addW ha va),(addW hb vb),(addW hc_ vc),(addW hd_ vd),he,hf,hg,hh]) = H4 at z4 y4 g4 q4 q5 q6 q7 ⊢
     have p4 := Zr z4 (i := 4) (x := he) rfl
     have m4 : Heap.mine H4 b4 = true := Zb7 z4 rfl rfl
     have u4 : Heap.put H4 b4 4 [.int .u32 (addW he ve)] = H4.set b4 (wBlk [(addW ha va),(addW hb vb),(addW hc_ vc),(addW hd_ vd),(addW he ve),hf,hg,hh]) := Zct z4
     refine Zi ?_
     conv => enter [3,1]; unfold Zex
     simp only [go_sem,simprocAttr,-Nat.reduceSubDiff,h4,h8,c4,p4,q4,m4,u4,w5]
     have z5 : (H4.set b4 (wBlk [(addW ha va),(addW hb vb),(addW hc_ vc),(addW hd_ vd),(addW he ve),hf,hg,hh]))[b4]? = some (wBlk [(addW ha va),(addW hb vb),(addW hc_ vc),(addW hd_ vd),(addW he ve),hf,hg,hh]) := Zw z4
     have y5 : (H4.set b4 (wBlk [(addW ha va),(addW hb vb),(addW hc_ vc),(addW hd_ vd),(addW he ve),hf,hg,hh]))[b6]? = some (wBlk (S.take i ++ R)) := Zo y4 (Ne.symm hne)
     have q5 := Zr (Zo (B' := wBlk [(addW ha va),(addW hb vb),(addW hc_ vc),(addW hd_ vd),(addW he ve),hf,hg,hh]) (g4) hn4) (i := 5) (x := vf) rfl
     have q6 := Zr (Zo (B' := wBlk [(addW ha va),(addW hb vb),(addW hc_ vc),(addW hd_ vd),(addW he ve),hf,hg,hh]) (g4) hn4) (i := 6) (x := vg) rfl
     have q7 := Zr (Zo (B' := wBlk [(addW ha va),(addW hb vb),(addW hc_ vc),(addW hd_ vd),(addW he ve),hf,hg,hh]) (g4) hn4) (i := 7) (x := vh) rfl
     have g5 := Zo (B' := wBlk [(addW ha va),(addW hb vb),(addW hc_ vc),(addW hd_ vd),(addW he ve),hf,hg,hh]) (g4) hn4
     generalize H4.set b4 (wBlk [(addW ha va),(addW hb vb),(addW hc_ vc),(addW hd_ vd),(addW he ve),hf,hg,hh]) = H5 at z5 y5 g5 q5 q6 q7 ⊢
     have p5 := Zr z5 (i := 5) (x := hf) rfl
     have m5 : Heap.mine H5 b4 = true := Zb7 z5 rfl rfl
     have u5 : Heap.put H5 b4 5 [.int .u32 (addW hf vf)] = H5.set b4 (wBlk [(addW ha va),(addW hb vb),(addW hc_ vc),(addW hd_ vd),(addW he ve),(addW hf vf),hg,hh]) := Zct z5
     refine Zi ?_
     conv => enter [3,1]; unfold Zex
     simp only [go_sem,simprocAttr,-Nat.reduceSubDiff,h4,h8,c5,p5,q5,m5,u5,w6]
     have z6 : (H5.set b4 (wBlk [(addW ha va),(addW hb vb),(addW hc_ vc),(addW hd_ vd),(addW he ve),(addW hf vf),hg,hh]))[b4]? = some (wBlk [(addW ha va),(addW hb vb),(addW hc_ vc),(addW hd_ vd),(addW he ve),(addW hf vf),hg,hh]) := Zw z5
     have y6 : (H5.set b4 (wBlk [(addW ha va),(addW hb vb),(addW hc_ vc),(addW hd_ vd),(addW he ve),(addW hf vf),hg,hh]))[b6]? = some (wBlk (S.take i ++ R)) := Zo y5 (Ne.symm hne)
     have q6 := Zr (Zo (B' := wBlk [(addW ha va),(addW hb vb),(addW hc_ vc),(addW hd_ vd),(addW he ve),(addW hf vf),hg,hh]) (g5) hn4) (i := 6) (x := vg) rfl
     have q7 := Zr (Zo (B' := wBlk [(addW ha va),(addW hb vb),(addW hc_ vc),(addW hd_ vd),(addW he ve),(addW hf vf),hg,hh]) (g5) hn4) (i := 7) (x := vh) rfl
     have g6 := Zo (B' := wBlk [(addW ha va),(addW hb vb),(addW hc_ vc),(addW hd_ vd),(addW he ve),(addW hf vf),hg,hh]) (g5) hn4
     generalize H5.set b4 (wBlk [(addW ha va),(addW hb vb),(addW hc_ vc),(addW hd_ vd),(addW he ve),(addW hf vf),hg,hh]) = H6 at z6 y6 g6 q6 q7 ⊢
     have p6 := Zr z6 (i := 6) (x := hg) rfl
     have m6 : Heap.mine H6 b4 = true := Zb7 z6 rfl rfl
     have u6 : Heap.put H6 b4 6 [.int .u32 (addW hg vg)] = H6.set b4 (wBlk [(addW ha va),(addW hb vb),(addW hc_ vc),(addW hd_ vd),(addW he ve),(addW hf vf),(addW hg vg),hh]) := Zct z6
     refine Zi ?_
     conv => enter [3,1]; unfold Zex
     simp only [go_sem,simprocAttr,-Nat.reduceSubDiff,h4,h8,c6,p6,q6,m6,u6,w7]
     have z7 : (H6.set b4 (wBlk [(addW ha va),(addW hb vb),(addW hc_ vc),(addW hd_ vd),(addW he ve),(addW hf vf),(addW hg vg),hh]))[b4]? = some (wBlk [(addW ha va),(addW hb vb),(addW hc_ vc),(addW hd_ vd),(addW he ve),(addW hf vf),(addW hg vg),hh]) := Zw z6
     have y7 : (H6.set b4 (wBlk [(addW ha va),(addW hb vb),(addW hc_ vc),(addW hd_ vd),(addW he ve),(addW hf vf),(addW hg vg),hh]))[b6]? = some (wBlk (S.take i ++ R)) := Zo y6 (Ne.symm hne)
     have q7 := Zr (Zo (B' := wBlk [(addW ha va),(addW hb vb),(addW hc_ vc),(addW hd_ vd),(addW he ve),(addW hf vf),(addW hg vg),hh]) (g6) hn4) (i := 7) (x := vh) rfl
     have g7 := Zo (B' := wBlk [(addW ha va),(addW hb vb),(addW hc_ vc),(addW hd_ vd),(addW he ve),(addW hf vf),(addW hg vg),hh]) (g6) hn4
     generalize H6.set b4 (wBlk [(addW ha va),(addW hb vb),(addW hc_ vc),(addW hd_ vd),(addW he ve),(addW hf vf),(addW hg vg),hh]) = H7 at z7 y7 g7 q7 ⊢
     have p7 := Zr z7 (i := 7) (x := hh) rfl
     have m7 : Heap.mine H7 b4 = true := Zb7 z7 rfl rfl
     have u7 : Heap.put H7 b4 7 [.int .u32 (addW hh vh)] = H7.set b4 (wBlk [(addW ha va),(addW hb vb),(addW hc_ vc),(addW hd_ vd),(addW he ve),(addW hf vf),(addW hg vg),(addW hh vh)]) := Zct z7
     refine Zi ?_
     conv => enter [3,1]; unfold Zex
     simp only [go_sem,simprocAttr,-Nat.reduceSubDiff,h4,h8,c7,p7,q7,m7,u7,w8]
     have z8 : (H7.set b4 (wBlk [(addW ha va),(addW hb vb),(addW hc_ vc),(addW hd_ vd),(addW he ve),(addW hf vf),(addW hg vg),(addW hh vh)]))[b4]? = some (wBlk [(addW ha va),(addW hb vb),(addW hc_ vc),(addW hd_ vd),(addW he ve),(addW hf vf),(addW hg vg),(addW hh vh)]) := Zw z7
     have y8 : (H7.set b4 (wBlk [(addW ha va),(addW hb vb),(addW hc_ vc),(addW hd_ vd),(addW he ve),(addW hf vf),(addW hg vg),(addW hh vh)]))[b6]? = some (wBlk (S.take i ++ R)) := Zo y7 (Ne.symm hne)
     have g8 := Zo (B' := wBlk [(addW ha va),(addW hb vb),(addW hc_ vc),(addW hd_ vd),(addW he ve),(addW hf vf),(addW hg vg),(addW hh vh)]) (g7) hn4
     generalize H7.set b4 (wBlk [(addW ha va),(addW hb vb),(addW hc_ vc),(addW hd_ vd),(addW he ve),(addW hf vf),(addW hg vg),(addW hh vh)]) = H8 at z8 y8 g8  ⊢
     refine Zi ?_
     conv => enter [3,1]; unfold Zex
     simp only [go_sem,simprocAttr,-Nat.reduceSubDiff]
     unfold Ztr
     simp only [go_sem,simprocAttr,-Nat.reduceSubDiff,h7,hw1]
     refine ih (at_ + 64) (V8.add ⟨va,vb,vc,vd,ve,vf,vg,vh⟩ ⟨ha,hb,hc_,hd_,he,hf,hg,hh⟩) (S.take i ++ R) _ _ b4 b6 (by omega) (by rw [List.length_append,List.length_take]; omega) ?_ ?_ ?_ ?_ ?_ ?_ ?_ hne hv
     ·simp only [go_sem,simprocAttr,-Nat.reduceSubDiff,h3]
     ·simp only [go_sem,simprocAttr,-Nat.reduceSubDiff,h4]
     ·simp only [go_sem,simprocAttr,-Nat.reduceSubDiff,h5]
     ·simp only [go_sem,simprocAttr,-Nat.reduceSubDiff,h6]
     ·simp only [go_sem,simprocAttr,-Nat.reduceSubDiff]
     ·rw [show (V8.add ⟨va,vb,vc,vd,ve,vf,vg,vh⟩ ⟨ha,hb,hc_,hd_,he,hf,hg,hh⟩).list = [addW va ha,addW vb hb,addW vc hc_,addW vd hd_,addW ve he,addW vf hf,addW vg hg,addW vh hh] from rfl]
      simp only [Zfo _ ha,Zfo _ hb,Zfo _ hc_,Zfo _ hd_,Zfo _ he,Zfo _ hf,Zfo _ hg,Zfo _ hh]
      exact z8
     ·exact y8
    | succ m ihr =>
     intro i v R0 e H b8 hi hR0 hv' h3 h4 h5 h6 h7 h8 h9 hb4 hb6 hb8 hn4 hn6
     have hc' : ((i : Int) < 64) := by omega
     obtain ⟨x,hx⟩ : ∃ x,S[i]? = some x := ⟨S[i]'(by omega),List.getElem?_eq_getElem _⟩
     obtain ⟨k,hkk⟩ : ∃ k,cw[i]? = some k := ⟨cw[i]'(by omega),List.getElem?_eq_getElem _⟩
     obtain ⟨r0,R,rfl⟩ : ∃ r0 R,R0 = r0 :: R := by
      cases R0 with
      | nil => simp at hR0
      | cons a l => exact ⟨a,l,rfl⟩
     have hRl : R.length = m := by simpa using hR0
     have hdr : (cw.zip S).drop i = (k,x) :: (cw.zip S).drop (i + 1) := by
      rw [List.drop_eq_getElem_cons (by rw [List.length_zip,hcl,hSl]; omega)]
      congr 1
      rw [List.getElem_zip]
      obtain ⟨_,e1⟩ := List.getElem?_eq_some_iff.1 hx
      obtain ⟨_,e2⟩ := List.getElem?_eq_some_iff.1 hkk
      rw [e1,e2]
     rw [hdr] at hv'
     have hv' : Zfh (v.step k x) ((cw.zip S).drop (i + 1)) = Zfh h (cw.zip S) := hv'
     have hkx : ∀ H : Heap,vIx 1 (.c (.lst 1 (cw.map wR))) (iC (i : Int)) H = some (.c (.fp [.int .u32 k] 0),H) := fun H => by
      rw [Zzl,show (cw.map wR)[i]? = some [.int .u32 k] by rw [List.getElem?_map,hkk]; rfl]
     have xi : ∀ H : Heap,vIx 1 (.c (.slc b6 0 64 1 false)) (iC (i : Int)) H = some (.c (.ptr b6 i 0),H) := fun H => Zek (by omega)
     have hn : IntKind.wrap .i64 ((i : Int) + 1) = ((i + 1 : Nat) : Int) := by rw [Zn (by omega)]; omega
     have hm6 : Heap.mine H b6 = true := Zb7 hb6 rfl rfl
     have hstk : S.take (i + 1) = S.take i ++ [x] := by
      rw [List.take_add_one,hx]; rfl
     have hp6 : Heap.put H b6 i [.int .u32 x] = H.set b6 (wBlk (S.take (i + 1) ++ R)) := by
      rw [Zct hb6,hstk]
      congr 2
      have hl : (S.take i).length = i := by rw [List.length_take]; omega
      rw [List.set_append_right (h := by omega),hl,Nat.sub_self,List.append_assoc]
      rfl
     have hr6 := Zr hb6 (i := i) (x := r0) (by
      have hl : (S.take i).length = i := by rw [List.length_take]; omega
      rw [List.getElem?_append_right (by omega),hl,Nat.sub_self]; rfl)
     obtain ⟨H1,hH1⟩ : ∃ H1,H1 = H.set b6 (wBlk (S.take (i + 1) ++ R)) := ⟨_,rfl⟩
     rw [← hH1] at hp6
     obtain ⟨va,vb,vc,vd,ve,vf,vg,vh⟩ := v
     have hb8 : H[b8]? = some (wBlk [va,vb,vc,vd,ve,vf,vg,vh]) := hb8
     clear hstk hdr
     by_cases h16 : (i : Int) < 16
     ·
      have hi16 : i < 16 := by omega
      have hx2 : x = Zqp M (at_ + 4 * i) := by
       have := Z9u (m := M) (a := at_) hi16
       rw [← hS,hx] at this
       injection this
      have w4 : IntKind.wrap .i64 (4 * (i : Int)) = ((4 * i : Nat) : Int) := by rw [Zn (by omega)]; omega
      have wa : IntKind.wrap .i64 ((at_ : Int) + ((4 * i : Nat) : Int)) = ((at_ + 4 * i : Nat) : Int) := by rw [Zn (by omega)]; omega
      have hsl : ∀ (e : Env) (H : Heap),e 58 = iC ((at_ + 4 * i : Nat) : Int) → vSl 1 (.c (.lst 1 (M.data.toList.map Zs))) e (some (.t 58)) none none H = some (.c (.lst 1 ((M.data.toList.map Zs).drop (at_ + 4 * i))),H) := fun e H he => by
       have hle : ((at_ + 4 * i : Nat) : Int) ≤ ((M.data.toList.map Zs).length : Int) := by rw [hml]; omega
       simp only [vSl,Zbh,beq_self_eq_true,if_true,evSl,Zby,Zi6,Opd.ev,he,Zca]
       rw [if_pos ⟨by omega,hle⟩]
       simp only [Int.toNat_natCast]
       rw [List.take_of_length_le (by simp)]
      have hbyte : ∀ j,j < 4 → ((M.data.toList.map Zs).drop (at_ + 4 * i))[j]? = some [.int .u8 (Zb2 M (at_ + 4 * i + j) : Int)] := fun j hj => by
       have hlt : at_ + 4 * i + j < M.size := by omega
       rw [List.getElem?_drop,List.getElem?_map]
       have : M.data.toList[at_ + 4 * i + j]? = some (M[at_ + 4 * i + j]'hlt) := by
        rw [List.getElem?_eq_getElem (by rw [Zew]; exact hlt)]
        rfl
       rw [this,Zqw hlt]
       rfl
      obtain ⟨Q,hQ⟩ : ∃ Q,Q = (M.data.toList.map Zs).drop (at_ + 4 * i) := ⟨_,rfl⟩
      rw [← hQ] at hsl hbyte
      have ix : ∀ (j : Nat) (H : Heap),j < 4 → vIx 1 (.c (.lst 1 Q)) (iC (j : Int)) H = some (.c (.fp [.int .u8 (Zb2 M (at_ + 4 * i + j) : Int)] 0),H) := fun j H hj => by rw [Zzl,hbyte j hj]
      have i0 : ∀ H : Heap,vIx 1 (.c (.lst 1 Q)) (iC 0) H = some (.c (.fp [.int .u8 (Zb2 M (at_ + 4 * i) : Int)] 0),H) := fun H => ix 0 H (by omega)
      have i1 : ∀ H : Heap,vIx 1 (.c (.lst 1 Q)) (iC 1) H = some (.c (.fp [.int .u8 (Zb2 M (at_ + 4 * i + 1) : Int)] 0),H) := fun H => ix 1 H (by omega)
      have i2 : ∀ H : Heap,vIx 1 (.c (.lst 1 Q)) (iC 2) H = some (.c (.fp [.int .u8 (Zb2 M (at_ + 4 * i + 2) : Int)] 0),H) := fun H => ix 2 H (by omega)
      have i3 : ∀ H : Heap,vIx 1 (.c (.lst 1 Q)) (iC 3) H = some (.c (.fp [.int .u8 (Zb2 M (at_ + 4 * i + 3) : Int)] 0),H) := fun H => ix 3 H (by omega)
      have hby : ∀ j,IntKind.wrap .u32 (Zb2 M j : Int) = Zb2 M j := fun j => Zk6 (Zd0 M j)
      have s24 : ∀ (a : Int) (ik : IntKind) (H : Heap),vBin .shl (.c (.int .u32 a)) (.c (.int ik 24)) H = some (.c (.int .u32 (shlW a 24)),H) := fun a ik H => Zdy (by decide)
      have s16 : ∀ (a : Int) (ik : IntKind) (H : Heap),vBin .shl (.c (.int .u32 a)) (.c (.int ik 16)) H = some (.c (.int .u32 (shlW a 16)),H) := fun a ik H => Zdy (by decide)
      have s8 : ∀ (a : Int) (ik : IntKind) (H : Heap),vBin .shl (.c (.int .u32 a)) (.c (.int ik 8)) H = some (.c (.int .u32 (shlW a 8)),H) := fun a ik H => Zdy (by decide)
      have hbe : orW (orW (orW (shlW (Zb2 M (at_ + 4 * i)) 24) (shlW (Zb2 M (at_ + 4 * i + 1)) 16)) (shlW (Zb2 M (at_ + 4 * i + 2)) 8)) (Zb2 M (at_ + 4 * i + 3)) = x := by
       rw [Z6b (Zd0 _ _) (Zd0 _ _) (Zd0 _ _) (Zd0 _ _),hx2]; rfl
      clear hx2 hQ
      refine Zi ?_
      conv => enter [3,1]; unfold Zla
      simp only [go_sem,simprocAttr,-Nat.reduceSubDiff,h3,h6,h7,h9,hc',h16,w4,wa,hsl,i0,i1,i2,i3,hby,s24,s16,s8,xi,hr6,hbe,hm6,hp6]
      have hb8' : H1[b8]? = some (wBlk [va,vb,vc,vd,ve,vf,vg,vh]) := by rw [hH1]; exact Zo hb8 hn6
      have hb4' : H1[b4]? = some (wBlk h.list) := by rw [hH1]; exact Zo hb4 hne
      have hb6' : H1[b6]? = some (wBlk (S.take (i + 1) ++ R)) := by rw [hH1]; exact Zw hb6
      have hL8 : b8 < H1.length := (List.getElem?_eq_some_iff.1 hb8').1
      have hL4 : b4 < H1.length := (List.getElem?_eq_some_iff.1 hb4').1
      have hL6 : b6 < H1.length := (List.getElem?_eq_some_iff.1 hb6').1
      have hrw := Zr hb6' (i := i) (x := x) (by rw [List.getElem?_append_left (by rw [List.length_take]; omega),List.getElem?_take,if_pos (by omega)]; exact hx)
      have q0 := Zr hb8' (i := 0) (x := va) rfl
      have q1 := Zr hb8' (i := 1) (x := vb) rfl
      have q2 := Zr hb8' (i := 2) (x := vc) rfl
      have q4 := Zr hb8' (i := 4) (x := ve) rfl
      have q5 := Zr hb8' (i := 5) (x := vf) rfl
      have q6 := Zr hb8' (i := 6) (x := vg) rfl
      have q7 := Zr hb8' (i := 7) (x := vh) rfl
      obtain ⟨G,hap,hgv,hgo⟩ := Zbgx (x := addW (V8.t ⟨va,vb,vc,vd,ve,vf,vg,vh⟩ k x) (V8.u ⟨va,vb,vc,vd,ve,vf,vg,vh⟩)) hb8' rfl
      have hgv : G[H1.length + 1]? = some (wBlk [addW (V8.t ⟨va,vb,vc,vd,ve,vf,vg,vh⟩ k x) (V8.u ⟨va,vb,vc,vd,ve,vf,vg,vh⟩),va,vb,vc,vd,ve,vf,vg]) := hgv
      have hg4 : G[b4]? = some (wBlk h.list) := by rw [hgo b4 hL4]; exact hb4'
      have hg6 : G[b6]? = some (wBlk (S.take (i + 1) ++ R)) := by rw [hgo b6 hL6]; exact hb6'
      have hgr := Zr hgv (i := 4) (x := vd) rfl
      have hgm : Heap.mine G (H1.length + 1) = true := Zb7 hgv rfl rfl
      have hgp := Zct hgv (i := 4) (x := addW vd (V8.t ⟨va,vb,vc,vd,ve,vf,vg,vh⟩ k x))
      have hgp : Heap.put G (H1.length + 1) 4 [.int .u32 (addW vd (V8.t ⟨va,vb,vc,vd,ve,vf,vg,vh⟩ k x))] = G.set (H1.length + 1) (wBlk (V8.step ⟨va,vb,vc,vd,ve,vf,vg,vh⟩ k x).list) := hgp
      have hlit : ∀ (y : Int) (H : Heap),vLit 1 1 (some [[.int .u32 y]]) H = some (.c (.slc H.length 0 1 1 false),H ++ [{ sz := 1,rows := [[.int .u32 y]] }]) := fun _ _ => rfl
      have htx : addW (addW (addW (addW vh (bigS ve)) (xorW (andW ve vf) (andW (notW ve) vg))) k) x = V8.t ⟨va,vb,vc,vd,ve,vf,vg,vh⟩ k x := rfl
      have hux : addW (bigT va) (xorW (xorW (andW va vb) (andW va vc)) (andW vb vc)) = V8.u ⟨va,vb,vc,vd,ve,vf,vg,vh⟩ := rfl
      have hsn4 : H1.length + 1 ≠ b4 := by omega
      have hsn6 : H1.length + 1 ≠ b6 := by omega
      have fin4 := Zo (B' := wBlk (V8.step ⟨va,vb,vc,vd,ve,vf,vg,vh⟩ k x).list) hg4 (b := H1.length + 1) (Ne.symm hsn4)
      have fin6 := Zo (B' := wBlk (V8.step ⟨va,vb,vc,vd,ve,vf,vg,vh⟩ k x).list) hg6 (b := H1.length + 1) (Ne.symm hsn6)
      have fin8 := Zw (B' := wBlk (V8.step ⟨va,vb,vc,vd,ve,vf,vg,vh⟩ k x).list) hgv
      clear hH1
      simp only [go_sem,simprocAttr,-Nat.reduceSubDiff,h8,c0,c1,c2,c4,c5,c6,c7,q0,q1,q2,q4,q5,q6,q7]
      refine Za (Z7h ve) ?_
      simp only [go_sem,simprocAttr,-Nat.reduceSubDiff,h5,h6,h8,h9,hkx,xi,hrw,c0,c4,c5,c6,q0,q4,q5,q6]
      refine Za (Z7i va) ?_
      simp only [go_sem,simprocAttr,-Nat.reduceSubDiff,h8,c0,c1,c2,q0,q1,q2,htx,hux,hlit,hs7,hap,c4,hgr,hgm,hgp,h9,hn]
      refine ihr (i + 1) (V8.step ⟨va,vb,vc,vd,ve,vf,vg,vh⟩ k x) R _ _ (H1.length + 1) (by omega) (by omega) hv' ?_ ?_ ?_ ?_ ?_ ?_ ?_ fin4 fin6 fin8 hsn4 hsn6
      ·simp only [go_sem,simprocAttr,-Nat.reduceSubDiff,h3]
      ·simp only [go_sem,simprocAttr,-Nat.reduceSubDiff,h4]
      ·simp only [go_sem,simprocAttr,-Nat.reduceSubDiff,h5]
      ·simp only [go_sem,simprocAttr,-Nat.reduceSubDiff,h6]
      ·simp only [go_sem,simprocAttr,-Nat.reduceSubDiff,h7]
      ·simp only [go_sem,simprocAttr,-Nat.reduceSubDiff]
      ·simp only [go_sem,simprocAttr,-Nat.reduceSubDiff,hn]
     ·
      obtain ⟨j,hj⟩ : ∃ j,i = j + 16 := ⟨i - 16,by omega⟩
      have hx2 : x = Ziu (S.take i) := by
       have := Z5r (m := M) (a := at_) (i := i) (by omega) (by omega)
       rw [← hS,hx] at this
       injection this
      have hl : (S.take i).length = j + 16 := by rw [List.length_take]; omega
      have g : ∀ d : Nat,d ≤ 16 → IntKind.wrap .i64 (((j + 16 : Nat) : Int) - (d : Int)) = ((j + 16 - d : Nat) : Int) := fun d hd => by rw [Zn (by omega)]; omega
      have g15 : IntKind.wrap .i64 (((j + 16 : Nat) : Int) - 15) = ((j + 16 - 15 : Nat) : Int) := g 15 (by omega)
      have g2 : IntKind.wrap .i64 (((j + 16 : Nat) : Int) - 2) = ((j + 16 - 2 : Nat) : Int) := g 2 (by omega)
      have g16 : IntKind.wrap .i64 (((j + 16 : Nat) : Int) - 16) = ((j + 16 - 16 : Nat) : Int) := g 16 (by omega)
      have g7 : IntKind.wrap .i64 (((j + 16 : Nat) : Int) - 7) = ((j + 16 - 7 : Nat) : Int) := g 7 (by omega)
      have hrow : ∀ d,d < j + 16 → Heap.row H b6 d = some [.int .u32 ((S.take i).getD d 0)] := fun d hd => by
       refine Zr hb6 ?_
       rw [List.getElem?_append_left (by omega),List.getD_eq_getElem?_getD,List.getElem?_eq_getElem (by omega)]
       rfl
      have xd : ∀ (d : Nat) (H : Heap),d < j + 16 → vIx 1 (.c (.slc b6 0 64 1 false)) (iC (d : Int)) H = some (.c (.ptr b6 d 0),H) := fun d H hd => Zek (by omega)
      have x15 := fun H => xd (j + 16 - 15) H (by omega)
      have x2 := fun H => xd (j + 16 - 2) H (by omega)
      have x16 := fun H => xd (j + 16 - 16) H (by omega)
      have x7 := fun H => xd (j + 16 - 7) H (by omega)
      have a15 := hrow (j + 16 - 15) (by omega)
      have a2 := hrow (j + 16 - 2) (by omega)
      have a16 := hrow (j + 16 - 16) (by omega)
      have a7 := hrow (j + 16 - 7) (by omega)
      have hnx : addW (addW (addW ((S.take i).getD (j + 16 - 16) 0) ((S.take i).getD (j + 16 - 7) 0)) (xorW (xorW (rotW ((S.take i).getD (j + 16 - 15) 0) 25) (rotW ((S.take i).getD (j + 16 - 15) 0) 14)) (shrW ((S.take i).getD (j + 16 - 15) 0) 3))) (xorW (xorW (rotW ((S.take i).getD (j + 16 - 2) 0) 15) (rotW ((S.take i).getD (j + 16 - 2) 0) 13)) (shrW ((S.take i).getD (j + 16 - 2) 0) 10)) = x := by
       rw [hx2]
       unfold Ziu lowS lowT
       rw [hl]
      have s3 : ∀ (a : Int) (ik : IntKind) (H : Heap),vBin .shr (.c (.int .u32 a)) (.c (.int ik 3)) H = some (.c (.int .u32 (shrW a 3)),H) := fun a ik H => Zci (by decide)
      have s10 : ∀ (a : Int) (ik : IntKind) (H : Heap),vBin .shr (.c (.int .u32 a)) (.c (.int ik 10)) H = some (.c (.int .u32 (shrW a 10)),H) := fun a ik H => Zci (by decide)
      have h9' : e 9 = iC ((j + 16 : Nat) : Int) := by rw [h9,hj]
      have h16' : ¬ (((j + 16 : Nat) : Int) < 16) := by omega
      have hc'' : (((j + 16 : Nat) : Int) < 64) := by omega
      generalize (S.take i).getD (j + 16 - 15) 0 = A15 at a15 hnx
      generalize (S.take i).getD (j + 16 - 2) 0 = A2 at a2 hnx
      generalize (S.take i).getD (j + 16 - 16) 0 = A16 at a16 hnx
      generalize (S.take i).getD (j + 16 - 7) 0 = A7 at a7 hnx
      clear hx2 hrow
      have xi' : ∀ H : Heap,vIx 1 (.c (.slc b6 0 64 1 false)) (iC ((j + 16 : Nat) : Int)) H = some (.c (.ptr b6 i 0),H) := fun H => by rw [← hj]; exact xi H
      have hkx' : ∀ H : Heap,vIx 1 (.c (.lst 1 (cw.map wR))) (iC ((j + 16 : Nat) : Int)) H = some (.c (.fp [.int .u32 k] 0),H) := fun H => by rw [← hj]; exact hkx H
      have hn' : IntKind.wrap .i64 (((j + 16 : Nat) : Int) + 1) = ((i + 1 : Nat) : Int) := by rw [← hj]; exact hn
      refine Zi ?_
      conv => enter [3,1]; unfold Zla
      simp only [go_sem,simprocAttr,-Nat.reduceSubDiff,h6,h9',hc'',h16',g15,g2,x15,x2,a15,a2,g16,g7,x16,x7,a16,a7]
      refine Za (Zdr A15 25 (by decide) (by decide)) ?_
      simp only [go_sem,simprocAttr,-Nat.reduceSubDiff]
      refine Za (Zdr A15 14 (by decide) (by decide)) ?_
      simp only [go_sem,simprocAttr,-Nat.reduceSubDiff,s3]
      refine Za (Zdr A2 15 (by decide) (by decide)) ?_
      simp only [go_sem,simprocAttr,-Nat.reduceSubDiff]
      refine Za (Zdr A2 13 (by decide) (by decide)) ?_
      simp only [go_sem,simprocAttr,-Nat.reduceSubDiff,s10,h6,h9',xi',hr6,hnx,hm6,hp6]
      have hb8' : H1[b8]? = some (wBlk [va,vb,vc,vd,ve,vf,vg,vh]) := by rw [hH1]; exact Zo hb8 hn6
      have hb4' : H1[b4]? = some (wBlk h.list) := by rw [hH1]; exact Zo hb4 hne
      have hb6' : H1[b6]? = some (wBlk (S.take (i + 1) ++ R)) := by rw [hH1]; exact Zw hb6
      have hL8 : b8 < H1.length := (List.getElem?_eq_some_iff.1 hb8').1
      have hL4 : b4 < H1.length := (List.getElem?_eq_some_iff.1 hb4').1
      have hL6 : b6 < H1.length := (List.getElem?_eq_some_iff.1 hb6').1
      have hrw := Zr hb6' (i := i) (x := x) (by rw [List.getElem?_append_left (by rw [List.length_take]; omega),List.getElem?_take,if_pos (by omega)]; exact hx)
      have q0 := Zr hb8' (i := 0) (x := va) rfl
      have q1 := Zr hb8' (i := 1) (x := vb) rfl
      have q2 := Zr hb8' (i := 2) (x := vc) rfl
      have q4 := Zr hb8' (i := 4) (x := ve) rfl
      have q5 := Zr hb8' (i := 5) (x := vf) rfl
      have q6 := Zr hb8' (i := 6) (x := vg) rfl
      have q7 := Zr hb8' (i := 7) (x := vh) rfl
      obtain ⟨G,hap,hgv,hgo⟩ := Zbgx (x := addW (V8.t ⟨va,vb,vc,vd,ve,vf,vg,vh⟩ k x) (V8.u ⟨va,vb,vc,vd,ve,vf,vg,vh⟩)) hb8' rfl
      have hgv : G[H1.length + 1]? = some (wBlk [addW (V8.t ⟨va,vb,vc,vd,ve,vf,vg,vh⟩ k x) (V8.u ⟨va,vb,vc,vd,ve,vf,vg,vh⟩),va,vb,vc,vd,ve,vf,vg]) := hgv
      have hg4 : G[b4]? = some (wBlk h.list) := by rw [hgo b4 hL4]; exact hb4'
      have hg6 : G[b6]? = some (wBlk (S.take (i + 1) ++ R)) := by rw [hgo b6 hL6]; exact hb6'
      have hgr := Zr hgv (i := 4) (x := vd) rfl
      have hgm : Heap.mine G (H1.length + 1) = true := Zb7 hgv rfl rfl
      have hgp := Zct hgv (i := 4) (x := addW vd (V8.t ⟨va,vb,vc,vd,ve,vf,vg,vh⟩ k x))
      have hgp : Heap.put G (H1.length + 1) 4 [.int .u32 (addW vd (V8.t ⟨va,vb,vc,vd,ve,vf,vg,vh⟩ k x))] = G.set (H1.length + 1) (wBlk (V8.step ⟨va,vb,vc,vd,ve,vf,vg,vh⟩ k x).list) := hgp
      have hlit : ∀ (y : Int) (H : Heap),vLit 1 1 (some [[.int .u32 y]]) H = some (.c (.slc H.length 0 1 1 false),H ++ [{ sz := 1,rows := [[.int .u32 y]] }]) := fun _ _ => rfl
      have htx : addW (addW (addW (addW vh (bigS ve)) (xorW (andW ve vf) (andW (notW ve) vg))) k) x = V8.t ⟨va,vb,vc,vd,ve,vf,vg,vh⟩ k x := rfl
      have hux : addW (bigT va) (xorW (xorW (andW va vb) (andW va vc)) (andW vb vc)) = V8.u ⟨va,vb,vc,vd,ve,vf,vg,vh⟩ := rfl
      have hsn4 : H1.length + 1 ≠ b4 := by omega
      have hsn6 : H1.length + 1 ≠ b6 := by omega
      have fin4 := Zo (B' := wBlk (V8.step ⟨va,vb,vc,vd,ve,vf,vg,vh⟩ k x).list) hg4 (b := H1.length + 1) (Ne.symm hsn4)
      have fin6 := Zo (B' := wBlk (V8.step ⟨va,vb,vc,vd,ve,vf,vg,vh⟩ k x).list) hg6 (b := H1.length + 1) (Ne.symm hsn6)
      have fin8 := Zw (B' := wBlk (V8.step ⟨va,vb,vc,vd,ve,vf,vg,vh⟩ k x).list) hgv
      clear hH1
      simp only [go_sem,simprocAttr,-Nat.reduceSubDiff,h8,c0,c1,c2,c4,c5,c6,c7,q0,q1,q2,q4,q5,q6,q7]
      refine Za (Z7h ve) ?_
      simp only [go_sem,simprocAttr,-Nat.reduceSubDiff,h5,h6,h8,h9',hkx',xi',hrw,c0,c4,c5,c6,q0,q4,q5,q6]
      refine Za (Z7i va) ?_
      simp only [go_sem,simprocAttr,-Nat.reduceSubDiff,h8,c0,c1,c2,q0,q1,q2,htx,hux,hlit,hs7,hap,c4,hgr,hgm,hgp,h9',hn']
      refine ihr (i + 1) (V8.step ⟨va,vb,vc,vd,ve,vf,vg,vh⟩ k x) R _ _ (H1.length + 1) (by omega) (by omega) hv' ?_ ?_ ?_ ?_ ?_ ?_ ?_ fin4 fin6 fin8 hsn4 hsn6
      ·simp only [go_sem,simprocAttr,-Nat.reduceSubDiff,h3]
      ·simp only [go_sem,simprocAttr,-Nat.reduceSubDiff,h4]
      ·simp only [go_sem,simprocAttr,-Nat.reduceSubDiff,h5]
      ·simp only [go_sem,simprocAttr,-Nat.reduceSubDiff,h6]
      ·simp only [go_sem,simprocAttr,-Nat.reduceSubDiff,h7]
      ·simp only [go_sem,simprocAttr,-Nat.reduceSubDiff]
      ·simp only [go_sem,simprocAttr,-Nat.reduceSubDiff,hn']
   have happ : Zem 1 4 (.c (.zer 1)) (.c (.slc b4 0 8 1 false)) H = some (.c (.slc H.length 0 8 1 false),H ++ [wBlk h.list]) := by
    have hr : Heap.rowsOf H (.slc b4 0 8 1 false) = some (h.list.map wR) := by
     simp only [Heap.rowsOf,hb4]
     rfl
    simp only [Zem,Zc3,hr,Zbh,beq_self_eq_true,if_true]
    rfl
   have hL4 : b4 < H.length := (List.getElem?_eq_some_iff.1 hb4).1
   have hL6 : b6 < H.length := (List.getElem?_eq_some_iff.1 hb6).1
   refine Zi ?_
   conv => enter [3,1]; unfold Zlq
   simp only [go_sem,simprocAttr,-Nat.reduceSubDiff,h3,h4,h7,hml,hc,happ]
   refine loopR 64 0 h ws _ _ H.length rfl hws (by rw [List.drop_zero]) ?_ ?_ ?_ ?_ ?_ ?_ ?_ ?_ ?_ ?_ (by omega) (by omega)
   ·simp only [go_sem,simprocAttr,-Nat.reduceSubDiff,h3]
   ·simp only [go_sem,simprocAttr,-Nat.reduceSubDiff,h4]
   ·simp only [go_sem,simprocAttr,-Nat.reduceSubDiff,h5]
   ·simp only [go_sem,simprocAttr,-Nat.reduceSubDiff,h6]
   ·simp only [go_sem,simprocAttr,-Nat.reduceSubDiff,h7]
   ·simp only [go_sem,simprocAttr,-Nat.reduceSubDiff]
   ·first | (simp only [go_sem,simprocAttr,-Nat.reduceSubDiff]; done) | (simp only [go_sem,simprocAttr,-Nat.reduceSubDiff]; rfl)
   ·rw [Zcs hL4]; exact hb4
   ·rw [Zcs hL6]; exact hb6
   ·simp
 have loop0 : ∀ (z : Nat) (acc : List UInt8) (e : Env) (H : Heap),(acc.length + z) % 64 = 56 → z < 64 → acc.length + z ≤ 1000000200 → e 0 = sC s → Acc 1 (acc.map Zs) (e 3) H → acc ++ List.replicate z 0 ++ Zcx ((s.size * 8 : Nat) : Int) = M.data.toList →
   Run (Zt Tryz.prog T) ⟨[.tmp 2],fun u E => Zf E u = some (sC (sumD s))⟩ [.loop Zoj,.blk 0,.code Zua] e H := by
  intro z
  induction z with
  | zero =>
   intro acc e H hz h64 hbd h0 hacc hv
   have hln := fun H' => hacc.len (H' := H')
   have hml : (acc.map Zs).length = acc.length := by simp
   have r1 : Int.tmod (acc.length : Int) 64 = 56 := by rw [Int.tmod_eq_emod_of_nonneg (by omega)]; omega
   refine Zi ?_
   conv => enter [3,1]; unfold Zoj
   simp only [go_sem,simprocAttr,-Nat.reduceSubDiff,hln,hml,Zdh,r1]
   unfold Zua
   have w8 : IntKind.wrap .i64 (8 * (s.size : Int)) = ((s.size * 8 : Nat) : Int) := by rw [Zn (by omega)]; omega
   have hE := Zil ((s.size * 8 : Nat) : Int)
   rw [Zum (by omega)] at hE
   have hEl : (Zcx ((s.size * 8 : Nat) : Int)).length = 8 := Zc9 _ 8
   have hv : acc ++ Zcx ((s.size * 8 : Nat) : Int) = M.data.toList := by simpa using hv
   generalize Zcx ((s.size * 8 : Nat) : Int) = E at hE hEl hv
   simp only [go_sem,simprocAttr,-Nat.reduceSubDiff,h0,w8]
   refine Za hE ?_
   simp only [go_sem,simprocAttr,-Nat.reduceSubDiff]
   obtain ⟨v',H',a1,a2,_⟩ := hacc.app (y := .str (baL E)) (bytes := 1) rfl rfl (by simp [Zja,Zgg]; omega)
   refine Znz a1 ?_
   rw [Zja,Zgg,← List.map_append,hv] at a2
   simp only [go_sem,simprocAttr,-Nat.reduceSubDiff]
   refine Acc.fz_keep (sz := 1) (rows := M.data.toList.map Zs) (by simp only [go_sem,simprocAttr,-Nat.reduceSubDiff]; exact a2) fun e2 H2 k3 kc kp kb kl => ?_
   clear kc kp kb kl
   have hlit8 : ∀ H : Heap,vLit 1 8 (some [[.int .u32 1779033703],[.int .u32 3144134277],[.int .u32 1013904242],[.int .u32 2773480762],[.int .u32 1359893119],[.int .u32 2600822924],[.int .u32 528734635],[.int .u32 1541459225]]) H = some (.c (.slc H.length 0 8 1 false),H ++ [wBlk Zlf.list]) := fun _ => rfl
   have hmk : ∀ H : Heap,Zuu 1 4 [.int .u32 0] (iC 64) (iC 64) H = some (.c (.slc H.length 0 64 1 false),H ++ [wBlk (List.replicate 64 0)]) := fun H => by
    unfold wBlk
    rw [List.map_replicate]; rfl
   have hZ : (List.replicate 64 (0 : Int)).length = 64 := List.length_replicate
   generalize List.replicate 64 (0 : Int) = Z at hmk hZ
   generalize Zlf = rv at hlit8 hfin
   simp only [go_sem,simprocAttr,-Nat.reduceSubDiff,hlit8]
   refine Za hcu ?_
   simp only [go_sem,simprocAttr,-Nat.reduceSubDiff,hmk]
   have hla : (H2 ++ [wBlk rv.list] : Heap).length = H2.length + 1 := by simp
   refine loopM ((s.size + 72) / 64) 0 rv Z _ _ H2.length (H2 ++ [wBlk rv.list] : Heap).length (by rw [hMs]; omega) hZ ?_ ?_ ?_ ?_ ?_ ?_ ?_ (by omega) hfin.symm
   ·simp only [go_sem,simprocAttr,-Nat.reduceSubDiff,k3]
   ·simp only [go_sem,simprocAttr,-Nat.reduceSubDiff]
   ·simp only [go_sem,simprocAttr,-Nat.reduceSubDiff]
   ·simp only [go_sem,simprocAttr,-Nat.reduceSubDiff]
   ·first | (simp only [go_sem,simprocAttr,-Nat.reduceSubDiff]; done) | (simp only [go_sem,simprocAttr,-Nat.reduceSubDiff]; rfl)
   ·rw [Zcs (by simp)]; simp
   ·simp
  | succ z ih =>
   intro acc e H hz h64 hbd h0 hacc hv
   have hln := fun H' => hacc.len (H' := H')
   have hml : (acc.map Zs).length = acc.length := by simp
   have r1 : ¬ Int.tmod (acc.length : Int) 64 = 56 := by rw [Int.tmod_eq_emod_of_nonneg (by omega)]; omega
   have bnd : ((acc.map Zs).length + 1) * 1 ≤ 140737488355328 := by rw [hml]; omega
   refine Zi ?_
   conv => enter [3,1]; unfold Zoj
   simp only [go_sem,simprocAttr,-Nat.reduceSubDiff,hln,hml,Zdh,r1]
   refine Acc.app_step hacc bnd fun v' H' ha' => ?_
   simp only [go_sem,simprocAttr,-Nat.reduceSubDiff]
   refine ih (acc ++ [0]) _ _ (by rw [List.length_append,List.length_singleton]; omega) (by omega) (by rw [List.length_append,List.length_singleton]; omega) ?_ ?_ (by rw [← hv,List.replicate_succ]; simp)
   ·simp only [go_sem,simprocAttr,-Nat.reduceSubDiff,h0]
   ·simp only [go_sem,simprocAttr,-Nat.reduceSubDiff]; rw [List.map_append]; exact ha'
 unfold Z5e
 have hs2 : ∀ H : Heap,vS2b (sC s) H = some (.c (.slc H.length 0 s.size 1 false),H ++ [{ sz := 1,rows := s.data.toList.map Zs }]) := fun H => by
  simp only [vS2b]
  rw [if_pos (by omega),Zja]
 have hsz : (s.data.toList.map Zs).length = s.size := by rw [List.length_map,Zew]
 have hacc0 : Acc 1 (s.data.toList.map Zs) (.c (.slc 0 0 s.size 1 false)) [{ sz := 1,rows := s.data.toList.map Zs }] := by
  have := Acc.last (sz := 1) (rows := s.data.toList.map Zs) (H := [])
  rw [hsz] at this
  exact this
 simp only [go_sem,simprocAttr,-Nat.reduceSubDiff,hs2]
 refine Acc.app_step hacc0 (by rw [hsz]; simp; omega) fun v' H' ha' => ?_
 simp only [go_sem,simprocAttr,-Nat.reduceSubDiff]
 refine loop0 (padN s.size) (s.data.toList ++ [128]) _ _ ?_ ?_ ?_ ?_ ?_ hpadM.symm
 ·rw [List.length_append,List.length_singleton,Zew]; unfold padN; omega
 ·unfold padN; omega
 ·rw [List.length_append,List.length_singleton,Zew]; unfold padN; omega
 ·simp only [go_sem,simprocAttr,-Nat.reduceSubDiff]
 ·simp only [go_sem,simprocAttr,-Nat.reduceSubDiff]; rw [List.map_append]; exact ha'
end Go.Proofs.YticmfblfghdkbaaGreatDoor.Eng
