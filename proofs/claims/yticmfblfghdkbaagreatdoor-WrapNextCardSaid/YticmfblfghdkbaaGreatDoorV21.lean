/- Parts of this claim's proof, joined. No statement of the seat is proved here. -/
import Derived.Test.YticmfblfghdkbaaGreatDoorV20
set_option linter.unusedVariables false
set_option linter.unusedSimpArgs false
namespace Go.Proofs.YticmfblfghdkbaaGreatDoor.Eng
open Go
theorem Zra (l : List Int) (n : Int) : ∃ v : Int,(0 ≤ v ↔ n ∈ l) ∧ Pr 164 [.c (Zd3 l),iC n] (iC v) := by
 have main : ∀ v : Int,(∃ k,k < l.length ∧ l[k]? = some n ∧ (∀ j,j < k → l[j]? ≠ some n) ∧ v = k) ∨ (n ∉ l ∧ v = -1) → Pr 164 [.c (Zd3 l),iC n] (iC v) := by
  intro v hv
  refine Zl mixed Zq4 (by simp [Zq,Zp,Zc,Zd3,Zey]) fun hl T => ?_
  have hlen : l.length ≤ maxLen := by simp [Zgh,lenA,lenC,Zd3] at hl; exact hl
  unfold Zkh
  dsimp only [Zd3]
  simp only [go_sem,simprocAttr]
  have loop : ∀ (rest pre : List Int) (e : Env) (H : Heap),l = pre ++ rest → n ∉ pre → e 0 = .c (.lst 1 (l.map iRow)) → e 1 = iC n → e 7 = iC (l.map iRow).length → e 8 = iC pre.length →
    Run (Zt Tryz.prog T) ⟨[.tmp 4],fun u E => Zf E u = some (iC v)⟩ [.loop Zes,.blk 0,.code Zge] e H := by
   intro rest
   induction rest with
   | nil =>
    intro pre e H hp hno h0 h1 h7 h8
    have hc := Zdm (f := iRow) hp
    refine Zi ?_
    conv => enter [3,1]; unfold Zes
    simp only [go_sem,simprocAttr,h7,h8,hc]
    unfold Zge
    rw [List.append_nil] at hp
    have hv1 : v = -1 := by
     rcases hv with ⟨k,hk,hn,_,_⟩ | ⟨_,h⟩
     ·exact absurd (List.mem_of_getElem? hn) (by rw [hp]; exact hno)
     ·exact h
    simp only [go_sem,simprocAttr]
    simp [Zf,Ze,Zk,Zg,Zh,Zd,Zc,Zb,hv1]
   | cons r rest ih =>
    intro pre e H hp hno h0 h1 h7 h8
    have hc := Zh0 (f := iRow) hp
    have hr := Zeh (f := iRow) hp
    have hn := Zcy hp hlen
    refine Zi ?_
    conv => enter [3,1]; unfold Zes
    by_cases hq : n = r
    ·have hk : v = pre.length := by
      rcases hv with ⟨k,hk,hn,hmin,hvk⟩ | ⟨h,_⟩
      ·rw [hvk]
       have h1 : l[pre.length]? = some n := by rw [hp,hq]; simp
       rcases Nat.lt_trichotomy k pre.length with h | h | h
       ·exfalso
        rw [hp,List.getElem?_append_left h] at hn
        exact hno (List.mem_of_getElem? hn)
       ·rw [h]
       ·exact absurd h1 (hmin _ h)
      ·exact absurd (by rw [hp,hq]; simp) h
     simp only [go_sem,simprocAttr,h0,h1,h7,h8,hc,hr,iRow,hq]
     simp [Zf,Ze,Zk,Zg,Zh,Zd,Zc,Zb,hk]
    ·simp only [go_sem,simprocAttr,h0,h1,h7,h8,hc,hr,iRow,hq,hn]
     refine ih (pre ++ [r]) _ _ (by rw [hp]; simp) ?_ ?_ ?_ ?_ ?_
     ·simp [hno,hq]
     ·simp only [go_sem,simprocAttr,h0]
     ·simp only [go_sem,simprocAttr,h1]
     ·simp only [go_sem,simprocAttr,h7]
     ·simp only [go_sem,simprocAttr,hn]
  refine loop l [] _ _ rfl (by simp) ?_ ?_ ?_ ?_
  all_goals simp only [go_sem,simprocAttr,List.length_nil,Int.natCast_zero]
 by_cases hm : n ∈ l
 ·have : ∃ k,k < l.length ∧ l[k]? = some n ∧ ∀ j,j < k → l[j]? ≠ some n := by
   clear main
   induction l with
   | nil => simp at hm
   | cons a l ih =>
    by_cases h : a = n
    ·exact ⟨0,by simp,by simp [h],fun j hj => by omega⟩
    ·have : n ∈ l := by simpa [Ne.symm h] using hm
     obtain ⟨k,h1,h2,h3⟩ := ih this
     refine ⟨k + 1,by simp; omega,by simpa using h2,fun j hj => ?_⟩
     cases j with
     | zero => simpa using h
     | succ j => simpa using h3 j (by omega)
  obtain ⟨k,h1,h2,h3⟩ := this
  exact ⟨k,⟨fun _ => hm,fun _ => by omega⟩,main k (.inl ⟨k,h1,h2,h3,rfl⟩)⟩
 ·exact ⟨-1,⟨fun h => by omega,fun h => absurd h hm⟩,main (-1) (.inr ⟨hm,rfl⟩)⟩
theorem Zie (l : List Int) (n : Int) : Pr 129 [.c (Zd3 l),iC n] (bC (decide (n ∈ l))) := by
 obtain ⟨v,hv,hi⟩ := Zra l n
 refine Zl mixed Zob (by simp [Zq,Zp,Zc,Zd3,Zey]) fun hl T => ?_
 unfold Ziq
 simp only [go_sem,simprocAttr]
 refine Za hi ?_
 by_cases h : 0 ≤ v
 ·simp only [go_sem,simprocAttr,h]
  simp [Zf,Ze,Zk,Zg,Zh,Zd,Zc,Zb,hv.1 h]
 ·simp only [go_sem,simprocAttr,h]
  have hm : ¬ n ∈ l := fun hm => h (hv.2 hm)
  simp [Zf,Ze,Zk,Zg,Zh,Zd,Zc,Zb,hm]
def row8 (log : List Rec) (epoch : Int) : List Cell := Zda.map fun d => .bool (memB log epoch d)
theorem Zgb (log : List Rec) (epoch : Int) : (row8 log epoch).length = 8 := rfl
theorem Z0b : ∀ i : Nat,i < 8 → Zda[i]? = some (i : Int) := by decide
theorem Zzu (log : List Rec) (epoch : Int) {i : Nat} (hi : i < 8) : (row8 log epoch)[i]? = some (.bool (memB log epoch i)) := by
 unfold row8
 rw [List.getElem?_map,Z0b i hi]; rfl
theorem Z98 {log : List Rec} {r : Rec} {epoch : Int} (h : ∀ d,0 ≤ d → d < 8 → memF epoch d (memB log epoch d) r = memB log epoch d) : row8 (log ++ [r]) epoch = row8 log epoch := by
 unfold row8
 refine List.map_congr_left fun d hd => ?_
 have := Zwz.1 hd
 rw [Zjm,h d this.1 this.2]
theorem Zbfj {log : List Rec} {r : Rec} {epoch : Int} (h1 : r.seq ≤ epoch) (h2 : r.kind = 1 ∨ r.kind = 2) {i : Nat} (hi : i < 8) (hd : r.dev = i) : row8 (log ++ [r]) epoch = (row8 log epoch).set i (.bool (decide (r.kind = 1))) := by
 refine List.ext_getElem? fun j => ?_
 by_cases hj : j < 8
 ·rw [Zzu _ _ hj,Zjm,List.getElem?_set]
  unfold memF
  by_cases e : i = j
  ·subst e
   rw [if_pos ⟨h1,hd,h2⟩,if_pos rfl,if_pos (by rw [Zgb]; exact hi)]
  ·rw [if_neg (fun h => e (by omega)),if_neg e,Zzu _ _ hj]
 ·rw [List.getElem?_eq_none (by rw [Zgb]; omega),List.getElem?_eq_none (by rw [List.length_set,Zgb]; omega)]
set_option maxHeartbeats 1000000 in
theorem Zs8 (log : List Rec) (epoch : Int) (hlen : log.length ≤ maxLen) (T : Nat → Option AFun) : Run (Zt Tryz.prog T) ⟨Zga.res,fun u E => Acc 1 ((Zb3 log epoch).map iRow) u E⟩ [.code Zga.body] (Zc5 [.c (Z2 log),iC epoch]) [] := by
 unfold Zga
 dsimp only [Z2]
 have loop1 : ∀ (rest pre : List Int) (e : Env) (H : Heap),Zda = pre ++ rest → e 43 = .agg (row8 log epoch) → e 44 = iC pre.length → Acc 1 ((pre.filter (memL log epoch)).map iRow) (e 9) H →
   Run (Zt Tryz.prog T) ⟨[.tmp 4],fun u E => Acc 1 ((Zb3 log epoch).map iRow) u E⟩ [.loop Zfz,.blk 5,.code Zij] e H := by
  intro rest
  induction rest with
  | nil =>
   intro pre e H hp h43 h44 ha
   have hpl : pre.length = 8 := by have := congrArg List.length hp; simpa [Zda] using this.symm
   have hc : ¬ ((pre.length : Int) < 8) := by omega
   rw [List.append_nil] at hp
   refine Zi ?_
   conv => enter [3,1]; unfold Zfz
   simp only [go_sem,simprocAttr,h44,hc]
   unfold Zij
   simp only [go_sem,simprocAttr]
   rw [← hp] at ha
   exact ha
  | cons d rest ih =>
   intro pre e H hp h43 h44 ha
   have hpl : pre.length < 8 := by have := congrArg List.length hp; simp [Zda] at this; omega
   have hc : ((pre.length : Int) < 8) := by omega
   have hd : d = (pre.length : Int) := by
    have h1 : Zda[pre.length]? = some d := by rw [hp]; simp
    rw [Z0b _ hpl] at h1
    injection h1 with h1
    exact h1.symm
   have hn : IntKind.wrap .i64 ((pre.length : Int) + 1) = ((pre.length + 1 : Nat) : Int) := by rw [Zn (by omega)]; omega
   have hf := List.filter_append (p := memL log epoch) pre [d]
   have hmb : memL log epoch d = memB log epoch d := by
    unfold memL
    rw [decide_eq_true (by omega),Bool.and_true]
   have hix : ∀ H : Heap,vIxV false 8 1 (.agg (row8 log epoch)) (iC pre.length) H = some (bC (memL log epoch d),H) := fun H => by
    simp only [vIxV]
    rw [if_pos (by rw [Zgb]; omega)]
    have : ((row8 log epoch).drop ((pre.length : Int).toNat * 1)).take 1 = [.bool (memL log epoch d)] := by
     have e : (pre.length : Int).toNat * 1 = pre.length := by simp
     rw [e,hmb]
     have h := Zzu log epoch hpl
     rw [← hd] at h
     obtain ⟨q1,q2⟩ := List.getElem?_eq_some_iff.1 h
     rw [List.drop_eq_getElem_cons q1,q2]; rfl
    rw [this]; rfl
   refine Zi ?_
   conv => enter [3,1]; unfold Zfz
   cases hm : memL log epoch d with
   | true =>
    rw [hm] at hix
    simp only [go_sem,simprocAttr,h43,h44,hc,hix]
    refine Acc.app_step ha (by have := List.length_filter_le (memL log epoch) pre; simp; omega) fun v' H' ha' => ?_
    simp only [go_sem,simprocAttr,h44,hn]
    refine ih (pre ++ [d]) _ _ (by rw [hp]; simp) ?_ ?_ ?_
    ·simp only [go_sem,simprocAttr,h43]
    ·simp only [go_sem,simprocAttr,hn]; simp
    ·simp only [go_sem,simprocAttr]
     rw [hf,List.map_append]
     have : [d].filter (memL log epoch) = [d] := by simp [hm]
     rw [this,hd]
     exact ha'
   | false =>
    rw [hm] at hix
    simp only [go_sem,simprocAttr,h43,h44,hc,hix,hn]
    refine ih (pre ++ [d]) _ _ (by rw [hp]; simp) ?_ ?_ ?_
    ·simp only [go_sem,simprocAttr,h43]
    ·simp only [go_sem,simprocAttr,hn]; simp
    ·simp only [go_sem,simprocAttr]
     rw [hf]
     have : [d].filter (memL log epoch) = [] := by simp [hm]
     rw [this,List.append_nil]
     exact ha
 have loop : ∀ (rest pre : List Rec) (e : Env) (H : Heap),log = pre ++ rest → e 1 = iC epoch → e 5 = .c (.ptr 0 0 0) → e 12 = .c (.lst 6 (log.map Rec.cells)) → e 13 = iC (log.map Rec.cells).length → e 14 = iC pre.length → H[0]? = some { sz := 8,rows := [row8 pre epoch],own := true,live := true } →
   Run (Zt Tryz.prog T) ⟨[.tmp 4],fun u E => Acc 1 ((Zb3 log epoch).map iRow) u E⟩ [.loop Zer,.blk 0,.code Zf0] e H := by
  intro rest
  induction rest with
  | nil =>
   intro pre e H hp h1 h5 h12 h13 h14 b0
   have hc := Zdm (f := Rec.cells) hp
   rw [List.append_nil] at hp
   rw [← hp] at b0
   have htk : (row8 log epoch).take 8 = row8 log epoch := List.take_of_length_le (by rw [Zgb]; omega)
   refine Zi ?_
   conv => enter [3,1]; unfold Zer
   simp only [go_sem,simprocAttr,h13,h14,hc]
   unfold Zf0
   simp only [go_sem,simprocAttr,h5,Zu b0,Zgb,htk]
   refine loop1 Zda [] _ _ rfl ?_ ?_ ?_
   ·simp only [go_sem,simprocAttr]
   ·simp only [go_sem,simprocAttr,List.length_nil,Int.natCast_zero]
   ·simp only [go_sem,simprocAttr]; exact .nil
  | cons r rest ih =>
   intro pre e H hp h1 h5 h12 h13 h14 b0
   have hc := Zh0 (f := Rec.cells) hp
   have hr := Zeh (f := Rec.cells) hp
   have hn : IntKind.wrap .i64 ((pre.length : Int) + 1) = ((pre.length + 1 : Nat) : Int) := by rw [Zcy hp hlen]; simp
   have hl0 : 0 < H.length := (List.getElem?_eq_some_iff.1 b0).1
   have go : ∀ (e' : Env) (G : Heap),e' 1 = iC epoch → e' 5 = .c (.ptr 0 0 0) → e' 12 = .c (.lst 6 (log.map Rec.cells)) → e' 13 = iC (log.map Rec.cells).length → e' 14 = iC ((pre.length + 1 : Nat) : Int) → G[0]? = some { sz := 8,rows := [row8 (pre ++ [r]) epoch],own := true,live := true } →
     Run (Zt Tryz.prog T) ⟨[.tmp 4],fun u E => Acc 1 ((Zb3 log epoch).map iRow) u E⟩ [.loop Zer,.blk 0,.code Zf0] e' G := fun e' G g1 g5 g12 g13 g14 gb =>
    ih (pre ++ [r]) e' G (by rw [hp]; simp) g1 g5 g12 g13 (by rw [g14]; simp) gb
   have hkeep := Z98 (log := pre) (r := r) (epoch := epoch)
   have hset := Zbfj (log := pre) (r := r) (epoch := epoch)
   obtain ⟨row,hrow⟩ : ∃ row,row = row8 (pre ++ [r]) epoch := ⟨_,rfl⟩
   rw [← hrow] at go hkeep hset
   unfold memF at hkeep
   obtain ⟨seq,prev,kind,dv,wraps,tag⟩ := r
   simp only [Rec.cells] at hr
   simp only at hkeep hset
   generalize Zv wraps = W at hr
   refine Zi ?_
   conv => enter [3,1]; unfold Zer
   obtain ⟨G,hG⟩ : ∃ G : Heap,G = H ++ [{ sz := 6,rows := [[.int .i64 seq,.str prev,.int .i64 kind,.int .i64 dv,W,.str tag]],own := true,live := true }] := ⟨_,rfl⟩
   have g0 := (show G[0]? = H[0]? by rw [hG,Zcs (by omega)]).trans b0
   have gl : G[H.length]? = some { sz := 6,rows := [[.int .i64 seq,.str prev,.int .i64 kind,.int .i64 dv,W,.str tag]],own := true,live := true } := by rw [hG]; exact Zkl
   simp only [go_sem,simprocAttr,h12,h13,h14,hc,hr]
   rw [← hG]
   by_cases c1 : seq ≤ epoch
   ·have c1' : ¬ (epoch < seq) := by omega
    by_cases c2 : dv < 0
    ·rw [hkeep (fun d h0 h8 => by rw [if_neg (fun h => by omega)])] at go
     simp only [go_sem,simprocAttr,h1,h14,Zu gl,c1',c2,hn]
     refine go _ _ ?_ ?_ ?_ ?_ ?_ g0
     all_goals simp only [go_sem,simprocAttr,h1,h5,h12,h13,hn]
    ·by_cases c3 : 8 ≤ dv
     ·rw [hkeep (fun d h0 h8 => by rw [if_neg (fun h => by omega)])] at go
      simp only [go_sem,simprocAttr,h1,h14,Zu gl,c1',c2,c3,hn]
      refine go _ _ ?_ ?_ ?_ ?_ ?_ g0
      all_goals simp only [go_sem,simprocAttr,h1,h5,h12,h13,hn]
     ·obtain ⟨i,rfl⟩ : ∃ i : Nat,dv = (i : Int) := ⟨dv.toNat,by omega⟩
      have hi : i < 8 := by omega
      have hxa : ∀ H : Heap,vIxA 8 1 (.c (.ptr 0 0 0)) (iC (i : Int)) H = some (.c (.ptr 0 0 (0 + i)),H) := fun H => Zcb hi
      have hsp : ∀ x : Cell,(row8 pre epoch).take i ++ [x] ++ (row8 pre epoch).drop (i + 1) = (row8 pre epoch).set i x := fun x => Zmn (by rw [Zgb]; exact hi)
      have hle : i ≤ 7 := by omega
      by_cases c4 : kind = 1
      ·have := hset c1 (.inl c4) hi rfl
       rw [decide_eq_true c4] at this
       rw [this] at go
       simp only [go_sem,simprocAttr,h1,h5,h14,Zu gl,Zu g0,Zdq g0,Ze0 g0,c1',c2,c3,c4,hxa,hsp,Zgb,hle,hn]
       refine go _ _ ?_ ?_ ?_ ?_ ?_ (Zw g0)
       all_goals simp only [go_sem,simprocAttr,h1,h5,h12,h13,hn]
      ·by_cases c5 : kind = 2
       ·have := hset c1 (.inr c5) hi rfl
        rw [decide_eq_false c4] at this
        rw [this] at go
        simp only [go_sem,simprocAttr,h1,h5,h14,Zu gl,Zu g0,Zdq g0,Ze0 g0,c1',c2,c3,c4,c5,hxa,hsp,Zgb,hle,hn]
        refine go _ _ ?_ ?_ ?_ ?_ ?_ (Zw g0)
        all_goals simp only [go_sem,simprocAttr,h1,h5,h12,h13,hn]
       ·rw [hkeep (fun d h0 h8 => by rw [if_neg (fun h => h.2.2.elim c4 c5)])] at go
        simp only [go_sem,simprocAttr,h1,h5,h14,Zu gl,c1',c2,c3,c4,c5,hn]
        refine go _ _ ?_ ?_ ?_ ?_ ?_ g0
        all_goals simp only [go_sem,simprocAttr,h1,h5,h12,h13,hn]
   ·have c1' : (epoch < seq) := by omega
    rw [hkeep (fun d h0 h8 => by rw [if_neg (fun h => c1 h.1)])] at go
    simp only [go_sem,simprocAttr,h1,h14,Zu gl,c1',hn]
    refine go _ _ ?_ ?_ ?_ ?_ ?_ g0
    all_goals simp only [go_sem,simprocAttr,h1,h5,h12,h13,hn]
 simp only [go_sem,simprocAttr]
 refine loop log [] _ _ rfl ?_ ?_ ?_ ?_ ?_ rfl
 all_goals simp only [go_sem,simprocAttr,List.length_nil,Int.natCast_zero]
theorem Zlh (log : List Rec) (epoch : Int) (hlen : log.length ≤ maxLen) : ∃ v E,CallSound Tryz.prog 54 [.c (Z2 log),iC epoch] [] v E ∧ Acc 1 ((Zb3 log epoch).map iRow) v E :=
 Zkn mixed Zl8 (Zs8 log epoch hlen)
theorem Zu1 (log : List Rec) (epoch : Int) : Pr 54 [.c (Z2 log),iC epoch] (.c (Zd3 (Zb3 log epoch))) := by
 intro H
 refine CallSound.of_lens (Zw7 Zl8) fun hl => ?_
 have hlen : log.length ≤ maxLen := by simp [Zgh,lenA,lenC,Z2] at hl; exact hl
 obtain ⟨v,E,h1,h2⟩ := Zlh log epoch hlen
 obtain ⟨x,hx,hw⟩ := h2.told (Zey _)
 exact (h1.pure (by simp [Zq,Zp,Zc,Z2,Zb5]) hx H).wkr hw
theorem Z5h (log : List Rec) (epoch dev : Int) : Pr 80 [.c (Z2 log),iC epoch,iC dev] (bC (memL log epoch dev)) := by
 have h1 := Zu1 log epoch
 have h2 := Zie (Zb3 log epoch) dev
 have e : decide (dev ∈ Zb3 log epoch) = memL log epoch dev := by
  rw [Bool.eq_iff_iff,decide_eq_true_eq]; exact Zpi
 rw [e] at h2
 refine Zl mixed Z4d (by simp [Zq,Zp,Zc,Z2,Zb5]) fun hl T => ?_
 unfold Zve
 simp only [go_sem,simprocAttr]
 refine Za h1 ?_
 simp only [go_sem,simprocAttr]
 refine Za h2 ?_
 simp only [go_sem,simprocAttr]
 simp [Zf,Ze,Zk,Zg,Zh,Zd,Zc,Zb]
def Zng : AFun := ⟨[.tmp 6],.seq (.region [ii 6 (.mv (.k (.c .nilI)))] false) (.seq (.region [im 10 0,im 11 1,ixx 12 6 10 11,ii 13 (.load true 6 (.t 12)),ii 7 (.new [.int .i64 0,.str ⟨#[]⟩,.int .i64 0,.int .i64 0,.nilS,.str ⟨#[]⟩]),ie (.store 6 (.t 7) (.t 13))] false) (.seq (.region [ii 8 (.mv (.k (.c (.str ⟨#[]⟩))))] false) (.seq (.seq (.region [im 14 1,ii 15 (.bin .gtr (.t 14) (ki 0))] false) (.cond (.t 15) (.region [im 16 0,im 17 1,ii 18 (.bin .sub (.t 17) (ki 1)),ixx 19 6 16 18,ii 20 (.load true 6 (.t 19)),icl 21 98 [.t 20],im 8 21] false) .skip)) (.seq (.region [im 22 2,ifl 23 3 7,il 24 23,icl 25 129 [.t 22,.t 24],im 9 25] false) (.seq (.block 0 (.seq (.region [ii 27 (.load true 6 (.t 7)),icl 28 67 [.t 27],ii 29 (.un .not (.t 28)),im 26 29] false) (.cond (.t 26) (.seq (.region [im 30 1,ii 31 (.mkI 190 (.k (.c (.str ⟨#[110,111,32,114,101,99,111,114,100]⟩)))),ii 32 (.build [.int .i64 0,.nilI] [(0,1,.t 30),(1,1,.t 31)]),ii 33 (.mkI 246 (.t 32)),im 6 33] false) .ret) (.seq (.region [ifl 35 0 7,il 36 35,im 37 1,ii 38 (.bin .add (.t 37) (ki 1)),ibt 39 .neq 36 38,im 40 39,ig 41 (.fld 1 (.t 7)) 40 false,ig 42 (.load false 1 (.t 41)) 40 false,ig 43 (.mv (.t 8)) 40 false,ig 44 (.bin .neq (.t 42) (.t 43)) 40 false,ii 45 (.pick (.t 40) (.k (.c (.bool true))) (.t 44)),im 34 45] false) (.cond (.t 34) (.seq (.region [im 46 1,ii 47 (.mkI 190 (.k (.c (.str ⟨#[97,110,111,116,104,101,114,32,114,101,99,111,114,100,32,97,104,101,97,100]⟩)))),ii 48 (.build [.int .i64 0,.nilI] [(0,1,.t 46),(1,1,.t 47)]),ii 49 (.mkI 246 (.t 48)),im 6 49] false) .ret) (.seq (.region [im 51 1,ii 52 (.bin .eql (.t 51) (ki 0)),im 53 52,ig 54 (.fld 2 (.t 7)) 53 true,ig 55 (.load false 1 (.t 54)) 53 true,ig 56 (.bin .neq (.t 55) (ki 1)) 53 true,ig 57 (.mv (.t 56)) 53 true,ig 58 (.fld 3 (.t 7)) 57 false,ig 59 (.load false 1 (.t 58)) 57 false,ig 60 (.bin .neq (.t 59) (ki 0)) 57 false,ig 61 (.pick (.t 57) (.k (.c (.bool true))) (.t 60)) 53 true,ii 62 (.pick (.t 53) (.t 61) (.k (.c (.bool false)))),im 63 62,ig 64 (.fld 2 (.t 7)) 63 false,ig 65 (.load false 1 (.t 64)) 63 false,ig 66 (.bin .eql (.t 65) (ki 2)) 63 false,ig 67 (.mv (.t 66)) 63 false,ig 68 (.fld 3 (.t 7)) 67 true,ig 69 (.load false 1 (.t 68)) 67 true,ig 70 (.bin .eql (.t 69) (ki 0)) 67 true,ig 71 (.pick (.t 67) (.t 70) (.k (.c (.bool false)))) 63 false,ii 72 (.pick (.t 63) (.k (.c (.bool true))) (.t 71)),im 73 72,ig 74 (.mv (.t 9)) 73 false,ig 75 (.fld 2 (.t 7)) 73 false,ig 76 (.load false 1 (.t 75)) 73 false,ig 77 (.bin .eql (.t 76) (ki 2)) 73 false,ig 78 (.binB true (.t 74) (.t 77)) 73 false,ii 79 (.pick (.t 73) (.k (.c (.bool true))) (.t 78)),im 50 79] false) (.cond (.t 50) (.seq (.region [im 80 1,ii 81 (.mkI 190 (.k (.c (.str ⟨#[97,32,109,101,109,98,101,114,32,116,104,97,116,32,105,115,32,110,111,110,101,44,32,111,114,32,110,111,110,101,32,116,104,97,116,32,105,115,32,111,110,101]⟩)))),ii 82 (.build [.int .i64 0,.nilI] [(0,1,.t 80),(1,1,.t 81)]),ii 83 (.mkI 246 (.t 82)),im 6 83] false) .ret) .skip))))))) (.seq (.region [ii 6 (.mv (.k (.c .nilI)))] false) .ret))))))⟩
theorem Zu3 : Zm Tryz.prog 141 = some Zng.erase := by kernel_rfl
def Zn1 : AFun := ⟨[.tmp 3],.seq (.region [ii 3 (.mv (.k (.c (.bool false))))] false) (.seq (.region [im 4 0,ifl 5 3 1,il 6 5,ibt 7 .eql 4 6,im 3 7] false) .ret)⟩
theorem Zu4 : Zm Tryz.prog 143 = some Zn1.erase := by kernel_rfl
def Zhc : ACode := .seq (.region [ibt 13 .lss 12 11] false) (.seq (.cond (.t 13) .skip (.exit 0)) (.seq (.block 1 (.seq (.region [im 14 12,ixx 15 6 10 12,ii 16 (.load true 6 (.t 15)),ii 5 (.new [.int .i64 0,.str ⟨#[]⟩,.int .i64 0,.int .i64 0,.nilS,.str ⟨#[]⟩]),im 4 14,ie (.store 6 (.t 5) (.t 16))] false) (.seq (.region [im 17 0,im 18 4,im 19 3,icl 20 141 [.t 17,.t 18,.t 19],im 6 20] false) (.seq (.seq (.region [im 21 6,ii 22 (.mkI 190 (.k (.c (.str ⟨#[110,111,32,114,101,99,111,114,100]⟩)))),icl 23 94 [.t 21,.t 22],im 24 23,ig 25 (.mv (.t 6)) 24 false,ig 26 (.mkI 190 (.k (.c (.str ⟨#[97,110,111,116,104,101,114,32,114,101,99,111,114,100,32,97,104,101,97,100]⟩)))) 24 false,ig 27 (.call (.f 94) [.t 25,.t 26]) 24 false,ii 28 (.pick (.t 24) (.k (.c (.bool true))) (.t 27)),im 29 28,ig 30 (.mv (.t 6)) 29 false,ig 31 (.mkI 190 (.k (.c (.str ⟨#[97,32,109,101,109,98,101,114,32,116,104,97,116,32,105,115,32,110,111,110,101,44,32,111,114,32,110,111,110,101,32,116,104,97,116,32,105,115,32,111,110,101]⟩)))) 29 false,ig 32 (.call (.f 94) [.t 30,.t 31]) 29 false,ii 33 (.pick (.t 29) (.k (.c (.bool true))) (.t 32))] false) (.cond (.t 33) (.seq (.region [ii 2 (.mv (.k (.c (.bool false))))] false) .ret) .skip)) (.seq (.region [ifl 34 2 5,il 35 34,ii 36 (.bin .eql (.t 35) (ki 1))] false) (.cond (.t 36) (.region [im 37 3,ifl 38 3 5,il 39 38,iz 40 (.lit 1 [.int .i64 0] 1 [(0,.t 39)]),ii 41 (.app 1 8 (.t 37) (.t 40)),im 3 41] false) (.fz 5 (.region [im 42 3,ii 43 (.mkF 143 [.t 5]),icl 44 142 [.t 42,.t 43],im 3 44] false)))))))) (.region [ii 45 (.bin .add (.t 12) (ki 1)),im 12 45] false)))
def Zj9 : ACode := .seq (.region [ii 2 (.mv (.k (.c (.bool true))))] false) .ret
def Zp4 : AFun := ⟨[.tmp 2],.seq (.region [ii 2 (.mv (.k (.c (.bool false))))] false) (.seq (.seq (.region [im 7 0,ii 8 (.len (.t 7)),ii 9 (.bin .gtr (.t 8) (ki 40))] false) (.cond (.t 9) (.seq (.region [ii 2 (.mv (.k (.c (.bool false))))] false) .ret) .skip)) (.seq (.region [ii 3 (.mv (.k (.c .nilS)))] false) (.seq (.seq (.region [im 10 0,ii 11 (.len (.t 10)),ii 12 (.mv (ki 0))] false) (.block 0 (.loop Zhc))) Zj9)))⟩
theorem Zzj : Zm Tryz.prog 96 = some Zp4.erase := by kernel_rfl
def Zdo : ACode := .seq (.region [ibt 9 .lss 8 7] false) (.seq (.cond (.t 9) .skip (.exit 0)) (.seq (.block 1 (.seq (.region [im 10 8,im 5 10] false) (.seq (.region [im 11 1,im 12 0,im 13 5,ixx 14 1 12 13,il 15 14,ii 16 (.call (.t 11) [.t 15])] false) (.cond (.t 16) (.seq (.region [im 17 5,im 4 17] false) .ret) .skip)))) (.region [ii 18 (.bin .add (.t 8) (ki 1)),im 8 18] false)))
def Ze3 : ACode := .seq (.region [ii 4 (.mv (ki (-1)))] false) .ret
def Zii : AFun := ⟨[.tmp 4],.seq (.region [ii 4 (.mv (ki 0))] false) (.seq (.seq (.region [im 6 0,ii 7 (.len (.t 6)),ii 8 (.mv (ki 0))] false) (.block 0 (.loop Zdo))) Ze3)⟩
theorem Zns : Zm Tryz.prog 176 = some Zii.erase := by kernel_rfl
def Zdn : ACode := .seq (.seq (.region [im 16 6,im 17 0,ii 18 (.len (.t 17)),ibt 19 .lss 16 18] false) (.cond (.t 19) .skip (.exit 0))) (.seq (.block 1 (.seq (.region [im 22 0,im 23 6,ixx 24 1 22 23,il 25 24,im 7 25] false) (.seq (.region [im 26 1,im 27 7,ii 28 (.call (.t 26) [.t 27]),ii 29 (.un .not (.t 28))] false) (.cond (.t 29) (.seq (.region [im 30 0,im 31 5,im 32 7,ixx 33 1 30 31,ie (.store 1 (.t 33) (.t 32))] false) (.region [im 34 5,ii 35 (.bin .add (.t 34) (ki 1)),im 5 35] false)) .skip)))) (.region [im 20 6,ii 21 (.bin .add (.t 20) (ki 1)),im 6 21] false))
def Zeu : ACode := .seq (.region [im 36 0,im 37 5,ii 38 (.sl 1 (.t 36) (some (.t 37)) none none),ie (.clr 1 [.int .i64 0] (.t 38))] false) (.seq (.region [im 39 0,im 40 5,ii 41 (.sl 1 (.t 39) none (some (.t 40)) none),im 4 41] false) .ret)
def Zdp : AFun := ⟨[.tmp 4],.seq (.region [ii 4 (.mv (.k (.c .nilS)))] false) (.seq (.region [im 8 0,im 9 1,icl 10 176 [.t 8,.t 9],im 5 10] false) (.seq (.seq (.region [im 11 5,ii 12 (.bin .eql (.t 11) (ki (-1)))] false) (.cond (.t 12) (.seq (.region [im 13 0,im 4 13] false) .ret) .skip)) (.seq (.seq (.region [im 14 5,ii 15 (.bin .add (.t 14) (ki 1)),im 6 15] false) (.block 0 (.loop Zdn))) Zeu)))⟩
theorem Zm3 : Zm Tryz.prog 142 = some Zdp.erase := by kernel_rfl
def Zhh : ACode := .seq (.seq (.region [im 10 4,im 11 0,ii 12 (.len (.t 11)),ibt 13 .lss 10 12] false) (.cond (.t 13) .skip (.exit 0))) (.seq (.block 1 (.seq (.region [im 16 0,im 17 4,ixx 18 6 16 17,ii 19 (.load true 6 (.t 18)),ii 5 (.new [.int .i64 0,.str ⟨#[]⟩,.int .i64 0,.int .i64 0,.nilS,.str ⟨#[]⟩]),ie (.store 6 (.t 5) (.t 19))] false) (.seq (.seq (.region [ii 20 (.load true 6 (.t 5)),icl 21 61 [.t 20],ii 22 (.un .not (.t 21)),im 23 22,ig 24 (.fld 0 (.t 5)) 23 false,ig 25 (.load false 1 (.t 24)) 23 false,ig 26 (.mv (.t 4)) 23 false,ig 27 (.bin .add (.t 26) (ki 1)) 23 false,ig 28 (.bin .neq (.t 25) (.t 27)) 23 false,ii 29 (.pick (.t 23) (.k (.c (.bool true))) (.t 28)),im 30 29,ig 31 (.fld 1 (.t 5)) 30 false,ig 32 (.load false 1 (.t 31)) 30 false,ig 33 (.mv (.t 3)) 30 false,ig 34 (.bin .neq (.t 32) (.t 33)) 30 false,ii 35 (.pick (.t 30) (.k (.c (.bool true))) (.t 34)),im 36 35,ig 37 (.mv (.t 4)) 36 false,ig 38 (.bin .eql (.t 37) (ki 0)) 36 false,ig 39 (.mv (.t 38)) 36 false,ig 40 (.fld 2 (.t 5)) 39 true,ig 41 (.load false 1 (.t 40)) 39 true,ig 42 (.bin .neq (.t 41) (ki 1)) 39 true,ig 43 (.mv (.t 42)) 39 true,ig 44 (.fld 3 (.t 5)) 43 false,ig 45 (.load false 1 (.t 44)) 43 false,ig 46 (.bin .neq (.t 45) (ki 0)) 43 false,ig 47 (.pick (.t 43) (.k (.c (.bool true))) (.t 46)) 39 true,ig 48 (.pick (.t 39) (.t 47) (.k (.c (.bool false)))) 36 false,ii 49 (.pick (.t 36) (.k (.c (.bool true))) (.t 48))] false) (.cond (.t 49) (.seq (.region [ii 2 (.mv (.k (.c (.bool false))))] false) .ret) .skip)) (.seq (.region [im 50 0,im 51 4,ii 52 (.sl 6 (.t 50) none (some (.t 51)) none),im 53 4,ifl 54 3 5,il 55 54,icl 56 18 [.t 52,.t 53,.t 55],im 6 56] true) (.seq (.seq (.region [ifl 57 2 5,il 58 57,ii 59 (.bin .eql (.t 58) (ki 1)),im 60 59,ig 61 (.mv (.t 6)) 60 true,ii 62 (.pick (.t 60) (.t 61) (.k (.c (.bool false)))),im 63 62,ig 64 (.fld 2 (.t 5)) 63 false,ig 65 (.load false 1 (.t 64)) 63 false,ig 66 (.bin .eql (.t 65) (ki 2)) 63 false,ig 67 (.mv (.t 66)) 63 false,ig 68 (.mv (.t 6)) 67 true,ig 69 (.un .not (.t 68)) 67 true,ig 70 (.mv (.t 69)) 67 true,ig 71 (.fld 3 (.t 5)) 70 false,ig 72 (.load false 1 (.t 71)) 70 false,ig 73 (.bin .eql (.t 72) (ki 0)) 70 false,ig 74 (.pick (.t 70) (.k (.c (.bool true))) (.t 73)) 67 true,ig 75 (.pick (.t 67) (.t 74) (.k (.c (.bool false)))) 63 false,ii 76 (.pick (.t 63) (.k (.c (.bool true))) (.t 75))] false) (.cond (.t 76) (.seq (.region [ii 2 (.mv (.k (.c (.bool false))))] false) .ret) .skip)) (.region [ii 77 (.load true 6 (.t 5)),icl 78 27 [.t 77],im 3 78] false)))))) (.region [im 14 4,ii 15 (.bin .add (.t 14) (ki 1)),im 4 15] false))
def Zjw : ACode := .seq (.region [ii 2 (.mv (.k (.c (.bool true))))] false) .ret
def Zws : AFun := ⟨[.tmp 2],.seq (.region [ii 2 (.mv (.k (.c (.bool false))))] false) (.seq (.seq (.region [im 7 0,ii 8 (.len (.t 7)),ii 9 (.bin .gtr (.t 8) (ki 40))] false) (.cond (.t 9) (.seq (.region [ii 2 (.mv (.k (.c (.bool false))))] false) .ret) .skip)) (.seq (.region [ii 3 (.mv (.k (.c (.str ⟨#[]⟩))))] false) (.seq (.seq (.region [ii 4 (.mv (ki 0))] false) (.block 0 (.loop Zhh))) Zjw)))⟩
theorem Z3w : Zm Tryz.prog 20 = some Zws.erase := by kernel_rfl
def Zgt (q : Int → Bool) (n : Nat) : List Int → Option Nat
 | [] => none
 | f :: r => if q f then some n else Zgt q (n + 1) r
def idxN : Option Nat → Int
 | none => -1
 | some n => n
theorem Zwn {q : Int → Bool} : ∀ {l : List Int} {n : Nat},Zgt q n l = none → l.filter (fun f => !q f) = l
 | [],n,_ => rfl
 | f :: r,n,h => by
  unfold Zgt at h
  cases hq : q f with
  | true => rw [if_pos hq] at h; cases h
  | false =>
   rw [if_neg (by simp [hq])] at h
   rw [List.filter_cons_of_pos (by simp [hq]),Zwn h]
theorem Zvt {q : Int → Bool} : ∀ {l : List Int} {n k : Nat},Zgt q n l = some k → n ≤ k ∧ k - n < l.length ∧ (l.take (k - n + 1)).filter (fun f => !q f) = l.take (k - n)
 | [],n,k,h => by cases h
 | f :: r,n,k,h => by
  unfold Zgt at h
  cases hq : q f with
  | true =>
   rw [if_pos hq] at h
   injection h with h
   subst h
   simp [hq]
  | false =>
   rw [if_neg (by simp [hq])] at h
   obtain ⟨h1,h2,h3⟩ := Zvt h
   obtain ⟨d,rfl⟩ : ∃ d,k = n + 1 + d := ⟨k - (n + 1),by omega⟩
   have e1 : n + 1 + d - n = d + 1 := by omega
   have e2 : n + 1 + d - (n + 1) = d := by omega
   rw [e2] at h2 h3
   rw [e1]
   refine ⟨by omega,by simp; omega,?_⟩
   rw [List.take_succ_cons,List.take_succ_cons,List.filter_cons_of_pos (by simp [hq]),h3]
theorem Znw (l : List Int) (g : Nat) (caps : List Cell) (q : Int → Bool) (hcc : Zb caps = true)
  (hg : ∀ f : Int,Pr g (iC f :: caps.map .c) (bC (q f))) : Pr 176 [.c (Zd3 l),.c (.fn g caps)] (iC (idxN (Zgt q 0 l))) := by
 refine Zl mixed Zns (by simp [Zq,Zp,Zc,Z3n,hcc]) fun hl T => ?_
 have hlen : l.length ≤ maxLen := by simp [Zgh,lenA,lenC,Zd3] at hl; exact hl
 unfold Zii
 generalize hv : Zgt q 0 l = v
 dsimp only [Zd3]
 simp only [go_sem,simprocAttr]
 have loop : ∀ (rest pre : List Int) (e : Env) (H : Heap),l = pre ++ rest → e 0 = .c (.lst 1 (l.map iRow)) → e 1 = .c (.fn g caps) → e 7 = iC (l.map iRow).length → e 8 = iC pre.length →
   Zgt q pre.length rest = v → Run (Zt Tryz.prog T) ⟨[.tmp 4],fun u E => Zf E u = some (iC (idxN v))⟩ [.loop Zdo,.blk 0,.code Ze3] e H := by
  intro rest
  induction rest with
  | nil =>
   intro pre e H hp h0 h1 h7 h8 hm
   have hc := Zdm (f := iRow) hp
   refine Zi ?_
   conv => enter [3,1]; unfold Zdo
   simp only [go_sem,simprocAttr,h0,h1,h7,h8,hc]
   unfold Ze3
   simp only [go_sem,simprocAttr]
   simp [Zf,Ze,Zk,Zg,Zh,Zd,Zc,Zb,← hm,Zgt,idxN]
  | cons r rest ih =>
   intro pre e H hp h0 h1 h7 h8 hm
   have hc := Zh0 (f := iRow) hp
   have hr := Zeh (f := iRow) hp
   have hn := Zcy hp hlen
   refine Zi ?_
   conv => enter [3,1]; unfold Zdo
   simp only [go_sem,simprocAttr,h0,h1,h7,h8,hc,hr,iRow]
   refine Za (hg r) ?_
   simp only [go_sem,simprocAttr]
   cases hpr : q r with
   | true =>
    simp only [go_sem,simprocAttr]
    simp [Zf,Ze,Zk,Zg,Zh,Zd,Zc,Zb,← hm,Zgt,hpr,idxN]
   | false =>
    simp only [go_sem,simprocAttr,h8,hn]
    refine ih (pre ++ [r]) _ _ (by simp [hp]) ?_ ?_ ?_ ?_ ?_
    all_goals first | (simp only [go_sem,simprocAttr,h0,h1,h7]; done) | (simp [← hm,Zgt,hpr]; done)
 refine loop l [] _ _ rfl ?_ ?_ ?_ ?_ hv
 all_goals simp only [go_sem,simprocAttr,List.length_nil,Int.natCast_zero]
theorem Zl2 (l : List Int) (ext : List (List Cell)) (b g : Nat) (caps : List Cell) (q : Int → Bool) (hcc : Zb caps = true) (hs : l.length ≤ 1000000)
  (hg : ∀ f : Int,Pr g (iC f :: caps.map .c) (bC (q f))) {H : Heap} (hb : H[b]? = some { sz := 1,rows := l.map iRow ++ ext,own := true,live := true }) (T : Nat → Option AFun) (p : AVal → Heap → Prop)
  (hp : ∀ v G,Acc 1 ((l.filter fun f => !q f).map iRow) v G → p v G) :
  Run (Zt Tryz.prog T) ⟨Zdp.res,p⟩ [.code Zdp.body] (Zc5 [.c (.slc b 0 l.length 1 false),.c (.fn g caps)]) H := by
 have hidx := Znw l g caps q hcc hg
 have hview : Zd H ([.c (.slc b 0 l.length 1 false),.c (.fn g caps)] ++ List.map AVal.c []) = some [.c (Zd3 l),.c (.fn g caps)] := by
  have hcl : ∀ cs : List Cell,Zb cs = true → Zh H cs = some cs := by
   intro cs
   induction cs with
   | nil => intro _; rfl
   | cons c cs ih =>
    intro h
    simp only [Zb,Bool.and_eq_true] at h
    have hc : Zk H c = some c := by
     cases c with
     | slc => simp [Zc] at h
     | ptr => simp [Zc] at h
     | _ => simp [Zk,h.1]
    simp [Zh,hc,ih h.2]
  have ht : (l.map iRow ++ ext).take l.length = l.map iRow := by
   rw [List.take_append_of_le_length (by simp)]
   exact List.take_of_length_le (by simp)
  have hf : Zk H (.slc b 0 l.length 1 false) = some (Zd3 l) := by
   by_cases h0 : l = []
   ·subst h0; simp [Zk,Zd3]
   ·have hl0 : l.length ≠ 0 := fun e => h0 (List.eq_nil_of_length_eq_zero e)
    simp [Zk,hl0,hb,ht,Zey,Zd3]
  simp [Zd,Zf,Ze,hf,hcl caps hcc]
 unfold Zdp
 simp only [go_sem,simprocAttr]
 refine Zfp hidx hview rfl ?_
 cases hf : Zgt q 0 l with
 | none =>
  simp only [go_sem,simprocAttr,idxN]
  refine hp _ _ ?_
  rw [Zwn hf]
  exact .inr ⟨b,ext,by simp,hb⟩
 | some k =>
  obtain ⟨_,h2,h3⟩ := Zvt hf
  rw [Nat.sub_zero] at h2 h3
  have hk1 : ¬ ((k : Int) = -1) := by omega
  have hw1 : IntKind.wrap .i64 ((k : Int) + 1) = ((k + 1 : Nat) : Int) := by rw [Zn (by omega)]; omega
  simp only [go_sem,simprocAttr,idxN,hk1,hw1]
  have loop : ∀ (d j i : Nat) (R : List (List Cell)) (e : Env) (G : Heap),j + d = l.length → i < j → R.length = (l.map iRow ++ ext).length → R.take i = ((l.take j).filter fun f => !q f).map iRow → R.drop j = (l.map iRow ++ ext).drop j → (∀ i r,i < l.length → R[i]? = some r → r.length = 1) → G[b]? = some { sz := 1,rows := R,own := true,live := true } →
    e 0 = .c (.slc b 0 l.length 1 false) → e 1 = .c (.fn g caps) → e 5 = iC i → e 6 = iC j → Run (Zt Tryz.prog T) ⟨[.tmp 4],p⟩ [.loop Zdn,.blk 0,.code Zeu] e G := by
   intro d
   induction d with
   | zero =>
    intro j i R e G hj hij hR hA hC h6l hG h0 h1 h5 h6
    have hc : ¬ ((j : Int) < (l.length : Int)) := by omega
    have hil : i ≤ l.length := by omega
    refine Zi ?_
    conv => enter [3,1]; unfold Zdn
    simp only [go_sem,simprocAttr,h0,h1,h5,h6,hc]
    unfold Zeu
    have hRl : R.length = l.length + ext.length := by rw [hR]; simp
    have hsl1 : ∀ (e : Env) (G : Heap),e 37 = iC i → vSl 1 (.c (.slc b 0 l.length 1 false)) e (some (.t 37)) none none G = some (.c (.slc b i (l.length - i) 1 false),G) := fun e G h => by
     simp [vSl,Zbh,evSl,Zby,Zi6,Opd.ev,h,Zca,hil]
    have hsl2 : ∀ (e : Env) (G : Heap),e 40 = iC i → vSl 1 (.c (.slc b 0 l.length 1 false)) e none (some (.t 40)) none G = some (.c (.slc b 0 i 1 false),G) := fun e G h => by
     simp [vSl,Zbh,evSl,Zby,Zi6,Opd.ev,h,Zca,hil]
    have hclr : vClr 1 [.int .i64 0] (.c (.slc b i (l.length - i) 1 false)) G = some (.tup [],G.set b { sz := 1,rows := R.take i ++ List.replicate (l.length - i) [.int .i64 0] ++ R.drop (i + (l.length - i)),own := true,live := true }) := by
     have hn0 : ¬ (l.length - i = 0) := by omega
     simp only [vClr,Zye,hn0,if_false,hG]
     rw [if_pos ⟨trivial,trivial,trivial,by omega⟩]
    simp only [go_sem,simprocAttr,h0,h5,hsl1,hclr,hsl2]
    refine hp _ _ ?_
    have hjl : j = l.length := by omega
    subst hjl
    rw [List.take_length] at hA
    refine .inr ⟨b,List.replicate (l.length - i) [.int .i64 0] ++ R.drop (i + (l.length - i)),?_,?_⟩
    ·rw [← hA]
     have : (R.take i).length = i := by rw [List.length_take]; omega
     rw [this]
    ·rw [← hA,← List.append_assoc]
     exact Zw hG
   | succ d ih =>
    intro j i R e G hj hij hR hA hC h6l hG h0 h1 h5 h6
    have hjl : j < l.length := by omega
    have hc : ((j : Int) < (l.length : Int)) := by omega
    have hbl : b < G.length := (List.getElem?_eq_some_iff.1 hG).1
    have hRl : R.length = l.length + ext.length := by rw [hR]; simp
    obtain ⟨x,hx⟩ : ∃ x,l[j]? = some x := ⟨l[j],by simp [hjl]⟩
    have hRj : R[j]? = some (iRow x) := by
     have : (R.drop j)[0]? = some (iRow x) := by
      rw [hC,List.getElem?_drop,Nat.add_zero,List.getElem?_append_left (by simp; omega)]
      simp [hx]
     rw [List.getElem?_drop,Nat.add_zero] at this
     exact this
    have hxj : ∀ G : Heap,vIx 1 (.c (.slc b 0 l.length 1 false)) (iC j) G = some (.c (.ptr b j 0),G) := fun G => Zek hjl
    have hxi : ∀ G : Heap,vIx 1 (.c (.slc b 0 l.length 1 false)) (iC i) G = some (.c (.ptr b i 0),G) := fun G => Zek (by omega)
    have hrow : Heap.row G b j = some (iRow x) := by rw [Zhv hG rfl]; exact hRj
    have hmine : Heap.mine G b = true := Zb7 hG rfl rfl
    obtain ⟨y,hy⟩ : ∃ y,R[i]? = some y := ⟨R[i]'(by omega),by simp⟩
    have hrowi : Heap.row G b i = some y := by rw [Zhv hG rfl]; exact hy
    have hput : ∀ r,Heap.put G b i r = G.set b { sz := 1,rows := R.set i r,own := true,live := true } := fun r => by rw [Zkd hG]
    have hwj : IntKind.wrap .i64 ((j : Int) + 1) = ((j + 1 : Nat) : Int) := by rw [Zn (by omega)]; omega
    have hwi : IntKind.wrap .i64 ((i : Int) + 1) = ((i + 1 : Nat) : Int) := by rw [Zn (by omega)]; omega
    have htk : l.take (j + 1) = l.take j ++ [x] := by
     rw [List.take_add_one,hx]; rfl
    refine Zi ?_
    conv => enter [3,1]; unfold Zdn
    simp only [go_sem,simprocAttr,h0,h1,h5,h6,hc,hxj,hrow,iRow]
    refine Za (hg x) ?_
    cases hq : q x with
    | true =>
     simp only [go_sem,simprocAttr,h0,h1,h5,h6,hwj]
     refine ih (j + 1) i R _ _ (by omega) (by omega) hR ?_ ?_ h6l ?_ ?_ ?_ ?_ ?_
     ·rw [hA,htk,List.filter_append,List.filter_cons_of_neg (by simp [hq])]; simp
     ·rw [← List.drop_drop (i := 1),hC,List.drop_drop,Nat.add_comm]
     ·exact hG
     all_goals simp only [go_sem,simprocAttr,h0,h1,h5]
    | false =>
     have hy6 : y.length = 1 := h6l i y (by omega) hy
     have hy6' : (1 ≤ y.length) = True := by simp [hy6]
     have hyd : y.drop 1 = [] := List.drop_eq_nil_of_le (by omega)
     simp only [go_sem,simprocAttr,h0,h1,h5,h6,hxi,hbl,hmine,hrowi,hput,hwi,hwj,hy6',hyd]
     refine ih (j + 1) (i + 1) (R.set i (iRow x)) _ _ (by omega) (by omega) (by rw [List.length_set]; exact hR) ?_ ?_ ?_ ?_ ?_ ?_ ?_ ?_
     ·rw [htk,List.filter_append,List.filter_cons_of_pos (by simp [hq]),List.map_append,← hA,List.take_add_one,List.getElem?_set_self (by omega),List.take_set_of_le (Nat.le_refl _)]
      rfl
     ·rw [List.drop_set_of_lt (by omega),← List.drop_drop (i := 1),hC,List.drop_drop,Nat.add_comm]
     ·intro i' r hi' hr
      rw [List.getElem?_set] at hr
      split at hr
      ·split at hr
       ·injection hr with hr; subst hr; rfl
       ·cases hr
      ·exact h6l i' r hi' hr
     ·exact Zw hG
     all_goals simp only [go_sem,simprocAttr,h0,h1]
  refine loop (l.length - (k + 1)) (k + 1) k (l.map iRow ++ ext) _ _ (by omega) (by omega) rfl ?_ rfl ?_ hb ?_ ?_ ?_ ?_
  ·rw [h3,List.take_append_of_le_length (by simp; omega),List.map_take]
  ·intro i r hi hr
   rw [List.getElem?_append_left (by simpa using hi)] at hr
   obtain ⟨f,_,rfl⟩ := List.mem_map.1 (List.mem_of_getElem? hr)
   rfl
  all_goals simp only [go_sem,simprocAttr]
end Go.Proofs.YticmfblfghdkbaaGreatDoor.Eng
