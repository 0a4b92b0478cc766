/- Parts of this claim's proof, joined. No statement of the seat is proved here. -/
import Derived.Test.YticmfblfghdkbaaGreatDoorY26
set_option linter.unusedVariables false
set_option linter.unusedSimpArgs false
namespace Go.Proofs.YticmfblfghdkbaaGreatDoor.Eng
open Go
def lstZ (sz : Nat) (rows : List (List Cell)) : Cell := if rows = [] then .zer sz else .lst sz rows
theorem Zbar (sz : Nat) (rows : List (List Cell)) : WkA (.c (lstZ sz rows)) (.c (.lst sz rows)) := by
 unfold lstZ
 split
 ·rename_i h; rw [h]; exact .c (.zer _)
 ·exact .same _
theorem Zbak {sz : Nat} {rows : List (List Cell)} (h : rows ≠ []) : lstZ sz rows = .lst sz rows := if_neg h
theorem Z1u {sz : Nat} {rows : List (List Cell)} {H G : Heap} (hk : ∀ (b : Nat) (B : Blk),(Z8 sz rows H)[b]? = some B → G[b]? = some B) (hc : closedR rows = true) : Zf G (Zy sz rows H) = some (.c (lstZ sz rows)) := by
 unfold Zy lstZ
 unfold Z8 at hk
 by_cases h0 : rows = []
 ·rw [if_pos h0,if_pos h0]; rfl
 ·rw [if_neg h0] at hk
  rw [if_neg h0,if_neg h0]
  have hb := hk H.length { sz := sz,rows := rows,own := true,live := true } (by simp)
  have hl : rows.length ≠ 0 := fun e => h0 (List.eq_nil_of_length_eq_zero e)
  simp [Zf,Ze,Zi,hb,hc,hl]
theorem Acc.carry {sz : Nat} {rows : List (List Cell)} {v : AVal} {H H' : Heap} (h : Acc sz rows v H) (hk : ∀ (b : Nat) (B : Blk),H[b]? = some B → ¬ NB v b → H'[b]? = some B) : Acc sz rows v H' := by
 rcases h with h | ⟨b,ext,h1,h2⟩
 ·exact .inl h
 ·exact .inr ⟨b,ext,h1,hk b _ h2 (fun hn => hn _ _ _ _ h1)⟩
theorem Acc.pre {sz : Nat} {rows : List (List Cell)} {v : AVal} {H H' : Heap} (h : Acc sz rows v H) (hp : H <+: H') : Acc sz rows v H' := h.carry fun _ _ hb _ => Zdi hp hb
theorem Zqg {v : AVal} {log : List Rec} {H : Heap} (h : Src 6 (log.map Rec.cells) v H) (hs : log.length ≤ 1000000) (hw : ∀ r ∈ log,r.wraps.length ≤ 1000000) :
  CallSound Tryz.prog 77 [v] H (Zy 6 (log.map Rec.cells) H) (Z8 6 (log.map Rec.cells) H) := by
 have hcl : CallSound Tryz.prog 55 ([v] ++ List.map AVal.c []) H (Zy 6 (log.map Rec.cells) H) (Z8 6 (log.map Rec.cells) H) := Zeh h hs
 have hmax : log.length ≤ maxLen := by unfold maxLen; omega
 refine Zek mixed Z2d fun T => ?_
 unfold Zt5
 by_cases h0 : log = []
 ·subst h0
  have e1 : Zy 6 (([] : List Rec).map Rec.cells) H = .c (.zer 6) := rfl
  have e2 : Z8 6 (([] : List Rec).map Rec.cells) H = H := rfl
  rw [e1,e2] at hcl ⊢
  simp only [go_sem,simprocAttr]
  refine Z0 hcl (fun h => by cases h) ?_
  simp only [go_sem,simprocAttr]
  refine Zj ?_
  conv => enter [3,1]; unfold Zg0
  simp only [go_sem,simprocAttr]
  unfold Ziv
  simp only [go_sem,simprocAttr]
 ·have hne : log.map Rec.cells ≠ [] := by simpa using h0
  have hlen : (log.map Rec.cells).length = log.length := by simp
  have e1 : Zy 6 (log.map Rec.cells) H = .c (.slc H.length 0 log.length 6 false) := by unfold Zy; rw [if_neg hne,hlen]
  have e2 : Z8 6 (log.map Rec.cells) H = H ++ [{ sz := 6,rows := log.map Rec.cells,own := true,live := true }] := by unfold Z8; rw [if_neg hne]
  rw [e1,e2] at hcl ⊢
  have hG : (H ++ [{ sz := 6,rows := log.map Rec.cells,own := true,live := true }] : Heap)[H.length]? = some { sz := 6,rows := log.map Rec.cells,own := true,live := true } := by simp
  generalize (H ++ [{ sz := 6,rows := log.map Rec.cells,own := true,live := true }] : Heap) = G at hG hcl ⊢
  have loop : ∀ (rest pre : List Rec) (e : Env),log = pre ++ rest → e 0 = .c (.slc H.length 0 log.length 6 false) → e 7 = iC log.length → e 8 = iC pre.length →
    Run (Zu Tryz.prog T) ⟨[.tmp 2],fun u E => u = .c (.slc H.length 0 log.length 6 false) ∧ E = G⟩ [.loop Zg0,.blk 0,.code Ziv] e G := by
   intro rest
   induction rest with
   | nil =>
    intro pre e hp h0 h7 h8
    have hc : ¬ ((pre.length : Int) < (log.length : Int)) := by rw [hp]; simp
    refine Zj ?_
    conv => enter [3,1]; unfold Zg0
    simp only [go_sem,simprocAttr,h7,h8,hc]
    unfold Ziv
    simp only [go_sem,simprocAttr,h0]
   | cons r rest ih =>
    intro pre e hp h0 h7 h8
    have hpl : pre.length < log.length := by rw [hp]; simp
    have hc : ((pre.length : Int) < (log.length : Int)) := by omega
    have hx : ∀ G : Heap,vIx 6 (.c (.slc H.length 0 log.length 6 false)) (iC pre.length) G = some (.c (.ptr H.length pre.length 0),G) := fun G => Zem hpl
    have hbl : H.length < G.length := (List.getElem?_eq_some_iff.1 hG).1
    have hat : (log.map Rec.cells)[pre.length]? = some r.cells := by rw [hp]; simp
    have hrow : Heap.row G H.length pre.length = some r.cells := by rw [Zhr hG rfl]; exact hat
    have hmine : Heap.mine G H.length = true := Zcb hG rfl rfl
    have hset : (log.map Rec.cells).set pre.length r.cells = log.map Rec.cells := by
     obtain ⟨h1,h2⟩ := List.getElem?_eq_some_iff.1 hat
     rw [← h2]; exact List.set_getElem_self h1
    have hput : Heap.put G H.length pre.length r.cells = G := by
     rw [Zjo hG]
     simp only [hset]
     obtain ⟨h1,h2⟩ := List.getElem?_eq_some_iff.1 hG
     rw [← h2]; exact List.set_getElem_self h1
    have hcw := Zs2 r.wraps (hw r (by rw [hp]; simp))
    have hn' := Zbt hp hmax
    obtain ⟨seq,prev,kind,dv,wraps,tag⟩ := r
    simp only [Rec.cells] at hrow hput
    simp only at hcw
    refine Zj ?_
    conv => enter [3,1]; unfold Zg0
    simp only [go_sem,simprocAttr,h0,h7,h8,hc,hx,hrow]
    refine Za hcw ?_
    simp only [go_sem,simprocAttr,h0,h8,hx,hrow,hbl,hmine,hput,hn']
    refine ih (pre ++ [⟨seq,prev,kind,dv,wraps,tag⟩]) _ (by rw [hp]; simp) ?_ ?_ ?_
    all_goals simp only [go_sem,simprocAttr,h0,h7,hn']
  simp only [go_sem,simprocAttr]
  refine Z0 hcl (fun h => by cases h) ?_
  simp only [go_sem,simprocAttr]
  refine loop log [] _ rfl ?_ ?_ ?_
  all_goals simp only [go_sem,simprocAttr,List.length_nil,Int.natCast_zero]
def Zhn (log : List Rec) (keys : List EKey) (r : Rec) : Int :=
 if Zcx log = false ∨ Zde keys = false then 1
 else match log.find? fun x => decide (x.seq = r.seq) with
 | some x => if x = r then 10 else 11
 | none =>
  if (log.length : Int) + 1 < r.seq then 6
  else if Zcx (log ++ [r]) = false then 11
  else if Zjr (Zh3 keys (r.seq - 1)) r = true then 9
  else 0
theorem Zzp {log : List Rec} {r : Rec} (h : Zcx (log ++ [r]) = true) : r.seq = (log.length : Int) + 1 ∧ Z9 r = true := Z4b h (i := log.length) (by simp)
theorem Z87 (log : List Rec) (keys : List EKey) (own : ByteArray) (id : Int) (r : Rec) : Zld log keys own id r = if Zhn log keys r = 0 then (if memL (log ++ [r]) ((log.length : Int) + 1) id = true ∧ Zfz own r id = none then 9 else 0) else Zhn log keys r := by
 unfold Zld Zhn
 by_cases h1 : Zcx log = false ∨ Zde keys = false
 ·rw [if_pos h1,if_pos h1,if_neg (by omega)]
 rw [if_neg h1,if_neg h1]
 cases hf : log.find? fun x => decide (x.seq = r.seq) with
 | some x =>
  simp only
  by_cases h2 : x = r
  ·rw [if_pos h2,if_neg (by omega)]
  ·rw [if_neg h2,if_neg (by omega)]
 | none =>
  simp only
  by_cases h2 : (log.length : Int) + 1 < r.seq
  ·rw [if_pos h2,if_pos h2,if_neg (by omega)]
  rw [if_neg h2,if_neg h2]
  by_cases h3 : Zcx (log ++ [r]) = false
  ·rw [if_pos h3,if_pos h3,if_neg (by omega)]
  rw [if_neg h3,if_neg h3]
  have h4 := (Zzp (by simpa using h3)).1
  have h5 : r.seq - 1 = (log.length : Int) := by omega
  rw [h5]
  by_cases h6 : Zjr (Zh3 keys log.length) r = true
  ·rw [if_pos h6,if_pos h6,if_neg (by omega)]
  rw [if_neg h6,if_neg h6,if_pos rfl]
theorem Z9j {log : List Rec} {keys : List EKey} {r : Rec} (h : Zhn log keys r = 0) : Zcx (log ++ [r]) = true := by
 unfold Zhn at h
 split at h
 ·omega
 split at h
 ·split at h <;> omega
 ·split at h
  ·omega
  split at h
  ·omega
  rename_i h3
  simpa using h3
theorem Zz8 (x r : Rec) : Pr 125 [.agg x.cells,.c (.fp r.cells 0)] (bC (decide (x.seq = r.seq))) := by
 have hcl := Rec.closed x
 have hcr := Rec.closed r
 refine Zl mixed Z0d (by simp [Zo,Zn,Zc,hcl,hcr]) fun hl T => ?_
 unfold Zsp
 have hbx : ∀ H : Heap,mkF H (vBox (.agg x.cells) H) = some (.c (.fp x.cells 0)) := fun H => Zbs hcl
 obtain ⟨s1,p1,k1,d1,w1,t1⟩ := x
 obtain ⟨s2,p2,k2,d2,w2,t2⟩ := r
 simp only [Rec.cells] at hbx ⊢
 simp only [go_sem,simprocAttr,hbx]
 simp [Zf,Ze,Zi,Zg,Zh,Zd,Zc,Zb]
set_option maxHeartbeats 1000000 in
theorem Z4p (log : List Rec) (keys : List EKey) (r : Rec) (hk : ∀ k ∈ keys,k.key.size ≤ 1000000) (h9 : log.length ≤ 1000000) : Pr 79 [.c (Zw log),.c (Zbj keys),.agg r.cells] (Zz Z1q (Zhn log keys r)) := by
 have hck := Zln log
 have hrk := Z23 keys
 have hidx := Zno log 125 [.fp r.cells 0] (fun x => decide (x.seq = r.seq)) (by simp [Zb,Zc,Rec.closed r]) (fun f => Zz8 f r)
 have hf := Zmj (q := fun x : Rec => decide (x.seq = r.seq)) log 0
 have hkn := Z40 keys (IntKind.wrap .i64 (r.seq - 1))
 have hck2 := Zln (log ++ [r])
 have hcl := Rec.closed r
 have hsrc : ∀ H : Heap,CallSound Tryz.prog 55 ([.c (.lst 6 (log.map Rec.cells))] ++ List.map AVal.c []) H (Zy 6 (log.map Rec.cells) H) (Z8 6 (log.map Rec.cells) H) := fun H => Zeh (.inl rfl) h9
 have hsame := fun x : Rec => Z2e x r
 have hsz := @Zzp log r
 have htag := fun (key : ByteArray) (h : key.size ≤ 1000000) => Zrd key r h
 have hkeys : ∀ key,Zh3 keys (IntKind.wrap .i64 (r.seq - 1)) = some key → key.size ≤ 1000000 := fun key h => by
  rw [Znw] at h
  cases hfk : keys.find? fun k => decide (k.epoch = IntKind.wrap .i64 (r.seq - 1)) with
  | none => rw [hfk] at h; cases h
  | some k =>
   rw [hfk] at h
   injection h with h
   subst h
   exact hk k (List.mem_of_find?_eq_some hfk)
 obtain ⟨E,hE⟩ : ∃ E,E = Zhn log keys r := ⟨_,rfl⟩
 rw [← hE]
 unfold Zhn at hE
 refine Zl mixed Z43 (by simp [Zo,Zn,Zc,Zw,Z4,Zbj,Zcm,hcl]) fun hl T => ?_
 clear hl
 have hbx : ∀ H : Heap,mkF H (vBox (.agg r.cells) H) = some (.c (.fp r.cells 0)) := fun H => Zbs hcl
 unfold Zvs
 have hml : ((log.map Rec.cells).length : Int) = (log.length : Int) := by simp
 have hlt : ∀ H : Heap,mkF H (vLit 6 1 (some [r.cells]) H) = some (.c (.lst 6 [r.cells])) := fun H => Ze4 hcl
 have hrc := Z4 (log ++ [r])
 rw [List.map_append] at hrc
 have hwl : IntKind.wrap .i64 ((log.length : Int) + 1) = (log.length : Int) + 1 := Zr (by omega)
 simp only [Zw,Zbj] at hck hrk hidx hkn hck2 ⊢
 rw [List.map_append] at hck2
 generalize hc1 : Zcx log = ck at hck hE
 generalize hc2 : Zde keys = rk at hrk hE
 generalize hc3 : Zcx (log ++ [r]) = ck2 at hck2 hE hsz
 have hko : ck2 = true → Zh3 keys (r.seq - 1) = Zh3 keys (IntKind.wrap .i64 (r.seq - 1)) := fun h => by
  have := (hsz h).1
  rw [show IntKind.wrap .i64 (r.seq - 1) = r.seq - 1 from Zr (by omega)]
 generalize Zh3 keys (IntKind.wrap .i64 (r.seq - 1)) = ko at hkn hko hkeys
 obtain ⟨row,hrow⟩ : ∃ row,row = r.cells := ⟨_,rfl⟩
 have hrow0 : row[0]? = some (.int .i64 r.seq) := by rw [hrow]; rfl
 have hrow5 : row[5]? = some (.str r.tag) := by rw [hrow]; rfl
 have hl6 : row.length = 6 := by rw [hrow]; rfl
 have ht6 : row.take 6 = row := by rw [hrow]; rfl
 rw [← hrow] at hidx hbx hlt hcl ⊢
 have hsame' : ∀ x : Rec,Pr 126 [.agg x.cells,.agg row] (bC (decide (x = r))) := fun x => by rw [hrow]; exact hsame x
 have htag' : ∀ key : ByteArray,key.size ≤ 1000000 → Pr 26 [sC key,.agg row] (sC (tagR key r)) := fun key h => by rw [hrow]; exact htag key h
 have hck2' : Pr 96 [.c (.lst 6 (log.map Rec.cells ++ [row]))] (bC ck2) := by rw [hrow]; exact hck2
 have hrc' : closedR (log.map Rec.cells ++ [row]) = true := by rw [hrow]; exact hrc
 simp only [go_sem,simprocAttr,hbx]
 refine Za hck ?_
 cases ck with
 | false =>
  rw [if_pos (.inl rfl)] at hE
  simp only [go_sem,simprocAttr]
  simp [Zf,Ze,Zi,Zg,Zh,Zd,Zc,Zb,hE,Zz]
 | true =>
 simp only [go_sem,simprocAttr]
 refine Za hrk ?_
 cases rk with
 | false =>
  rw [if_pos (.inr rfl)] at hE
  simp only [go_sem,simprocAttr]
  simp [Zf,Ze,Zi,Zg,Zh,Zd,Zc,Zb,hE,Zz]
 | true =>
 rw [if_neg (by simp)] at hE
 simp only [go_sem,simprocAttr]
 refine Za hidx ?_
 rcases hf with ⟨h1,h2⟩ | ⟨k,x,h1,h2,h3⟩
 ·rw [h2] at hE
  simp only at hE
  rw [h1]
  simp only [go_sem,simprocAttr,idxN,hrow0]
  refine Za hkn ?_
  by_cases c1 : (log.length : Int) + 1 < r.seq
  ·rw [if_pos c1] at hE
   simp only [go_sem,simprocAttr,hrow0,hml,hwl,c1]
   simp [Zf,Ze,Zi,Zg,Zh,Zd,Zc,Zb,hE,Zz]
  rw [if_neg c1] at hE
  simp only [go_sem,simprocAttr,hrow0,hml,hwl,c1]
  refine Z0 (hsrc _) (fun _ => Zef _ _ _) ?_
  have hacc := Zfi 6 (log.map Rec.cells) []
  generalize Zy 6 (log.map Rec.cells) [] = cv at hacc ⊢
  generalize Z8 6 (log.map Rec.cells) [] = cH at hacc ⊢
  simp only [go_sem,simprocAttr,hl6,ht6,hlt]
  refine Acc.app_step hacc (by simp; omega) fun v' H' hacc' => ?_
  have hv := hacc'.view_ne (by simp) hrc'
  simp only [go_sem,simprocAttr]
  refine Zfb hck2' (by simp [Zd,hv]) rfl ?_
  cases ck2 with
  | false =>
   rw [if_pos rfl] at hE
   simp only [go_sem,simprocAttr]
   simp [Zf,Ze,Zi,Zg,Zh,Zd,Zc,Zb,hE,Zz]
  | true =>
  rw [if_neg (by simp),hko rfl] at hE
  have hts : r.tag.size ≤ 1000000 := by have := (Zin (hsz rfl).2).2.1; omega
  cases ko with
  | none =>
   simp only [Zjr] at hE
   simp only [go_sem,simprocAttr,Option.isSome]
   simp [Zf,Ze,Zi,Zg,Zh,Zd,Zc,Zb,hE,Zz]
  | some key =>
   have htk := htag' key (hkeys key rfl)
   have heq := Zua r.tag (tagR key r) hts
   simp only [Zjr] at hE
   simp only [go_sem,simprocAttr,Option.isSome,optS,Option.getD,hrow5,hl6,ht6]
   refine Za htk ?_
   simp only [go_sem,simprocAttr]
   refine Za heq ?_
   by_cases c3 : r.tag = tagR key r
   ·simp only [go_sem,simprocAttr,decide_eq_true c3]
    simp [Zf,Ze,Zi,Zg,Zh,Zd,Zc,Zb,hE,Zz,c3]
   ·simp only [go_sem,simprocAttr,decide_eq_false c3]
    simp [Zf,Ze,Zi,Zg,Zh,Zd,Zc,Zb,hE,Zz,c3]
 ·rw [h3] at hE
  simp only at hE
  rw [h1,Nat.zero_add]
  have hk0 : ((0 : Int) ≤ (k : Int)) := by omega
  have hr : (log.map Rec.cells)[k]? = some x.cells := map_some h2
  have hs := hsame' x
  have hxl : x.cells.length = 6 := rfl
  have hxt : x.cells.take 6 = x.cells := rfl
  simp only [go_sem,simprocAttr,idxN,hk0,hr,hxl,hxt,hl6,ht6]
  refine Za hs ?_
  by_cases c1 : x = r
  ·rw [if_pos c1] at hE
   simp only [go_sem,simprocAttr,decide_eq_true c1]
   simp [Zf,Ze,Zi,Zg,Zh,Zd,Zc,Zb,hE,Zz]
  ·rw [if_neg c1] at hE
   simp only [go_sem,simprocAttr,decide_eq_false c1]
   simp [Zf,Ze,Zi,Zg,Zh,Zd,Zc,Zb,hE,Zz]
theorem Zhw {sz : Nat} {rows : List (List Cell)} {H : Heap} {b : Nat} {B : Blk} (hb : H[b]? = some B) : NB (Zy sz rows H) b := Zkg sz rows (List.getElem?_eq_some_iff.1 hb).1
theorem Zw8 (log : List Rec) (r : Rec) : log.map Rec.cells ++ [r.cells] ≠ [] := by simp
theorem Zgh (log : List Rec) (r : Rec) : log.map Rec.cells ++ [r.cells] = (log ++ [r]).map Rec.cells := by simp
theorem Zkr {H : Heap} {xs : List AVal} : Zf H (.tup xs) = (Zd H xs).map AVal.tup := by
 simp only [Zf]
 cases Zd H xs <;> rfl
theorem Zqu {e : Env} {H : Heap} {a b c : Nat} {R : AVal → Heap → Prop} : resW e H [.tmp a,.tmp b,.tmp c] R = R (.tup [e a,e b,e c]) H := by
 simp [resW,Zhl,Zeu]
set_option maxHeartbeats 2000000 in
theorem Z6z (log : List Rec) (keys : List EKey) (own : ByteArray) (id : Int) (r : Rec) (hk : ∀ k ∈ keys,k.key.size ≤ 1000000) (h9 : log.length ≤ 100000) (hk9 : keys.length ≤ 100000) (ho : own.size ≤ 1000000)
  (hw : ∀ x ∈ log,x.wraps.length ≤ 1000000) (hb : ∀ w ∈ r.wraps,w.box.size ≤ 4611686018427387904) :
  Pr 32 [.c (Zw log),.c (Zbj keys),sC own,iC id,.agg r.cells] (.tup [.c (lstZ 6 ((Zf7 log keys own id r).map Rec.cells)),.c (lstZ 2 ((Ze5 log keys own id r).map EKey.cells)),iC (Zld log keys own id r)]) := by
 have htk := Z4p log keys r hk (by omega)
 have hE := Z87 log keys own id r
 have hnum := Zsx Z1q (Zhn log keys r)
 have hopn := Zph own r id ho hb
 have hz0 := fun h => Zzp (Z9j (log := log) (keys := keys) (r := r) h)
 have hcl := Rec.closed r
 have hrin := Zu6 (log ++ [r]) r.seq id
 have hrw : Zhn log keys r = 0 → ∀ x ∈ log ++ [r],x.wraps.length ≤ 1000000 := fun h x hx => by
  rcases List.mem_append.1 hx with hx | hx
  ·exact hw x hx
  ·simp only [List.mem_cons,List.not_mem_nil,or_false] at hx
   subst hx
   have := (Zin (hz0 h).2).2.2.1
   omega
 have hcp1 : ∀ H : Heap,CallSound Tryz.prog 77 ([.c (.lst 6 (log.map Rec.cells))] ++ List.map AVal.c []) H (Zy 6 (log.map Rec.cells) H) (Z8 6 (log.map Rec.cells) H) := fun H => Zqg (.inl rfl) (by omega) hw
 have hck1 : ∀ H : Heap,CallSound Tryz.prog 78 ([.c (.lst 2 (keys.map EKey.cells))] ++ List.map AVal.c []) H (Zy 2 (keys.map EKey.cells) H) (Z8 2 (keys.map EKey.cells) H) := fun H => Znz (.inl rfl) (by omega)
 have hcr1 : ∀ (v : AVal) (H : Heap),Acc 6 (log.map Rec.cells) v H → CallSound Tryz.prog 55 ([v] ++ List.map AVal.c []) H (Zy 6 (log.map Rec.cells) H) (Z8 6 (log.map Rec.cells) H) := fun v H h => Zeh (.inr h) (by omega)
 have hcp2 : Zhn log keys r = 0 → ∀ (v : AVal) (H : Heap),Acc 6 (log.map Rec.cells ++ [r.cells]) v H → CallSound Tryz.prog 77 ([v] ++ List.map AVal.c []) H (Zy 6 (log.map Rec.cells ++ [r.cells]) H) (Z8 6 (log.map Rec.cells ++ [r.cells]) H) := fun h0 v H h => by
  rw [Zgh] at h ⊢
  exact Zqg (.inr h) (by simp; omega) (hrw h0)
 have hrows := Z4 log
 have hrows2 := Z4 (log ++ [r])
 rw [← Zgh] at hrows2
 have hkrows := Zcm keys
 obtain ⟨RL,hRL⟩ : ∃ RL,RL = (Zf7 log keys own id r).map Rec.cells := ⟨_,rfl⟩
 obtain ⟨RK,hRK⟩ : ∃ RK,RK = (Ze5 log keys own id r).map EKey.cells := ⟨_,rfl⟩
 obtain ⟨RE,hRE⟩ : ∃ RE,RE = Zld log keys own id r := ⟨_,rfl⟩
 rw [← hRL,← hRK,← hRE]
 unfold Zf7 at hRL
 unfold Ze5 at hRK
 rw [← hRE] at hE hRL hRK
 refine Zl mixed Z77 (by simp [Zo,Zn,Zc,Zw,Z4,Zbj,Zcm,hcl]) fun hl T => ?_
 clear hl
 have hbx : ∀ H : Heap,mkF H (vBox (.agg r.cells) H) = some (.c (.fp r.cells 0)) := fun H => Zbs hcl
 have hlt : ∀ H : Heap,mkF H (vLit 6 1 (some [r.cells]) H) = some (.c (.lst 6 [r.cells])) := fun H => Ze4 hcl
 unfold Zyg
 have hl6 : r.cells.length = 6 := rfl
 have ht6 : r.cells.take 6 = r.cells := rfl
 have hr0 : r.cells[0]? = some (.int .i64 r.seq) := rfl
 simp only [Zw,Zbj] at htk hrin ⊢
 generalize Zhn log keys r = e0 at *
 simp only [go_sem,simprocAttr,hbx]
 refine Z0 (hcp1 _) (fun h => by cases h) ?_
 simp only [go_sem,simprocAttr]
 refine Z0 (hck1 _) (fun h => by cases h) ?_
 have a1 := Zfi 6 (log.map Rec.cells) []
 have v1 : ∀ G : Heap,(∀ (b : Nat) (B : Blk),(Z8 6 (log.map Rec.cells) [])[b]? = some B → G[b]? = some B) → Zf G (Zy 6 (log.map Rec.cells) []) = some (.c (lstZ 6 (log.map Rec.cells))) := fun G h => Z1u h hrows
 generalize Zy 6 (log.map Rec.cells) [] = V1 at a1 v1 ⊢
 generalize Z8 6 (log.map Rec.cells) [] = H1 at a1 v1 ⊢
 have a2 := Zfi 2 (keys.map EKey.cells) H1
 have p2 := Zef 2 (keys.map EKey.cells) H1
 have v2 : ∀ G : Heap,(∀ (b : Nat) (B : Blk),(Z8 2 (keys.map EKey.cells) H1)[b]? = some B → G[b]? = some B) → Zf G (Zy 2 (keys.map EKey.cells) H1) = some (.c (lstZ 2 (keys.map EKey.cells))) := fun G h => Z1u h hkrows
 generalize Zy 2 (keys.map EKey.cells) H1 = V2 at a2 v2 ⊢
 generalize Z8 2 (keys.map EKey.cells) H1 = H2 at a2 p2 v2 ⊢
 have w1 := v1 H2 fun b B h => Zdi p2 h
 have w2 := v2 H2 fun b B h => h
 simp only [go_sem,simprocAttr,hl6,ht6]
 refine Za htk ?_
 by_cases hz : e0 = 0
 ·have hsv : Zz Z1q e0 = .c .nilI := by rw [hz]; rfl
  rw [hsv]
  obtain ⟨hseq,hmay⟩ := hz0 hz
  rw [if_pos hz] at hE
  simp only [go_sem,simprocAttr,bne_self_eq_false]
  refine Z0 (hcr1 V1 H2 (a1.pre p2)) (fun _ => Zef _ _ _) ?_
  have a3 := Zfi 6 (log.map Rec.cells) H2
  have p3 := Zef 6 (log.map Rec.cells) H2
  have n3 : ∀ (b : Nat) (B : Blk),H2[b]? = some B → NB (Zy 6 (log.map Rec.cells) H2) b := fun b B h => Zhw h
  generalize Zy 6 (log.map Rec.cells) H2 = V3 at a3 n3 ⊢
  generalize Z8 6 (log.map Rec.cells) H2 = H3 at a3 p3 ⊢
  simp only [go_sem,simprocAttr,hl6,ht6,hlt]
  refine Acc.app_keep a3 (by simp; omega) fun V4 H4 a4 k4 => ?_
  have g4 : ∀ (b : Nat) (B : Blk),H2[b]? = some B → H4[b]? = some B := fun b B h => (k4 b B (n3 b B h) (Zdi p3 h)).1
  simp only [go_sem,simprocAttr]
  refine Z0 (hcp2 hz V4 H4 a4) (fun _ => Zef _ _ _) ?_
  have a5 := Zfi 6 (log.map Rec.cells ++ [r.cells]) H4
  have p5 := Zef 6 (log.map Rec.cells ++ [r.cells]) H4
  have v5 := a5.view_ne (Zw8 log r) hrows2
  have n5 : ∀ (b : Nat) (B : Blk),H4[b]? = some B → NB (Zy 6 (log.map Rec.cells ++ [r.cells]) H4) b := fun b B h => Zhw h
  generalize Zy 6 (log.map Rec.cells ++ [r.cells]) H4 = V5 at a5 v5 n5 ⊢
  generalize Z8 6 (log.map Rec.cells ++ [r.cells]) H4 = H5 at a5 p5 v5 ⊢
  have g5 : ∀ (b : Nat) (B : Blk),H2[b]? = some B → H5[b]? = some B := fun b B h => Zdi p5 (g4 b B h)
  have y1 := v1 H5 fun b B h => g5 b B (Zdi p2 h)
  have y2 := v2 H5 g5
  rw [← Zgh] at hrin
  simp only [go_sem,simprocAttr,hr0]
  refine Zfb hrin (by simp [Zd,v5,Zf,Ze,Zi,Zc]) rfl ?_
  rw [hseq] at hrin
  rw [← hseq] at hE hRK
  have hll : lstZ 6 (log.map Rec.cells ++ [r.cells]) = .lst 6 (log.map Rec.cells ++ [r.cells]) := Zbak (Zw8 log r)
  cases hm : memL (log ++ [r]) r.seq id with
  | false =>
   rw [hm] at hE hRK
   rw [if_neg (by simp)] at hE
   rw [if_pos hE,← Zgh] at hRL
   rw [if_neg (by simp)] at hRK
   simp only [go_sem,simprocAttr,Zqu]
   rw [hRL,hRK,hE]
   simp only [Zd,Zkr,v5,y2,hll]
   simp [Zf,Ze,Zi,Zg,Zh,Zd,Zc,Zb]
  | true =>
   rw [hm] at hE hRK
   simp only [go_sem,simprocAttr,hl6,ht6]
   refine Za hopn ?_
   cases hop : Zfz own r id with
   | none =>
    rw [hop] at hE hRK
    rw [if_pos ⟨rfl,rfl⟩] at hE
    rw [if_neg (by omega)] at hRL
    rw [if_neg (by omega)] at hRK
    simp only [go_sem,simprocAttr,Option.isSome,Zqu]
    rw [hRL,hRK,hE]
    simp only [Zd,Zkr,y1,y2]
    simp [Zf,Ze,Zi,Zg,Zh,Zd,Zc,Zb]
   | some key =>
    rw [hop] at hE hRK
    rw [if_neg (by simp)] at hE
    rw [if_pos hE,← Zgh] at hRL
    rw [if_pos ⟨hE,rfl⟩] at hRK
    have hRK' : RK = keys.map EKey.cells ++ [[.int .i64 r.seq,.str key]] := by rw [hRK]; simp [EKey.cells]
    have hlk : ∀ H : Heap,mkF H (vLit 2 1 (some [[.int .i64 r.seq,.str key]]) H) = some (.c (.lst 2 [[.int .i64 r.seq,.str key]])) := fun H => Ze4 rfl
    have hkc : closedR (keys.map EKey.cells ++ [[Cell.int .i64 r.seq,.str key]]) = true := by
     have := Zcm (keys ++ [⟨r.seq,key⟩])
     simpa [EKey.cells] using this
    have a2' : Acc 2 (keys.map EKey.cells) V2 H5 := a2.carry fun b B h _ => g5 b B h
    have n2 : ∀ (b : Nat) (B : Blk),H5[b]? = some B → ¬ NB V5 b → NB V2 b := fun b B h hn => by
     refine a2'.nb_sz h ?_
     rcases a5 with ⟨h0,_⟩ | ⟨b',ext,h1,h2⟩
     ·exact absurd h0 (Zw8 log r)
     ·have : b = b' := by
       refine Classical.byContradiction fun hne => hn ?_
       rw [h1]
       intro n s q z e
       injection e with e
       injection e with e
       exact hne e.symm
      subst this
      rw [h] at h2
      injection h2 with h2
      rw [h2]
      exact (by decide : (6 : Nat) ≠ 2)
    simp only [go_sem,simprocAttr,optS,Option.isSome,Option.getD,hr0,hlk]
    refine Acc.app_keep a2' (by simp; omega) fun V6 H6 a6 k6 => ?_
    have a5' : Acc 6 (log.map Rec.cells ++ [r.cells]) V5 H6 := a5.carry fun b B h hn => (k6 b B (n2 b B h hn) h).1
    have v5' := a5'.view_ne (Zw8 log r) hrows2
    have v6 := a6.view_ne (by simp) hkc
    have hlk2 : lstZ 2 (keys.map EKey.cells ++ [[Cell.int .i64 r.seq,.str key]]) = .lst 2 (keys.map EKey.cells ++ [[.int .i64 r.seq,.str key]]) := Zbak (by simp)
    simp only [go_sem,simprocAttr,Zqu]
    rw [hRL,hRK',hE]
    simp only [Zd,Zkr,v5',v6,hll,hlk2]
    simp [Zf,Ze,Zi,Zg,Zh,Zd,Zc,Zb]
 ·have hsv : Zz Z1q e0 = .c (Z1l Z1q e0) := by unfold Zz; rw [if_neg hz]
  rw [if_neg hz] at hE
  rw [if_neg (by omega)] at hRL
  rw [if_neg (by omega)] at hRK
  rw [hsv] at hnum ⊢
  simp only [go_sem,simprocAttr,bne_self_eq_false,Bool.true_bne,Bool.not_false]
  refine Za hnum ?_
  simp only [go_sem,simprocAttr,Zqu]
  rw [hRL,hRK,hE]
  simp only [Zd,Zkr,w1,w2]
  simp [Zf,Ze,Zi,Zg,Zh,Zd,Zc,Zb]
def Zmq : ACode := .seq (.seq (.region [im 103 15,ii 104 (.bin .lss (.t 103) (ki 8))] false) (.cond (.t 104) .skip (.exit 1))) (.seq (.block 2 (.seq (.region [im 107 14,im 108 11,ii 109 (.bin .add (.t 108) (ki 1)),im 110 15,icl 111 18 [.t 107,.t 109,.t 110]] false) (.cond (.t 111) (.region [ifl 112 4 13,il 113 112,im 114 15,im 115 1,im 116 15,icl 117 24 [.t 115,.t 116],icl 118 73 [.t 117],ifl 119 0 13,il 120 119,icl 121 74 [.t 120],ii 122 (.load true 6 (.t 13)),icl 123 75 [.t 122],im 124 0,ifl 125 0 13,il 126 125,icl 127 25 [.t 124,.t 126],icl 128 72 [.t 118,.t 121,.t 123,.t 127],ii 129 (.build [.int .i64 0,.str ⟨#[]⟩] [(0,1,.t 114),(1,1,.t 128)]),iz 130 (.lit 2 [.int .i64 0,.str ⟨#[]⟩] 1 [(0,.t 129)]),ii 131 (.app 2 24 (.t 113) (.t 130)),ifl 132 4 13,ie (.store 1 (.t 132) (.t 131))] true) .skip))) (.region [im 105 15,ii 106 (.bin .add (.t 105) (ki 1)),im 15 106] false))
def Zrl : ACode := .seq (.seq (.region [im 133 11,ii 134 (.bin .gtr (.t 133) (ki 0))] false) (.cond (.t 134) (.region [im 135 0,im 136 11,icl 137 25 [.t 135,.t 136],ii 138 (.load true 6 (.t 13)),icl 139 35 [.t 137,.t 138],ifl 140 5 13,ie (.store 1 (.t 140) (.t 139))] true) .skip)) (.seq (.region [ii 141 (.load true 6 (.t 13)),ii 142 (.build [.int .i64 0,.str ⟨#[]⟩,.int .i64 0,.int .i64 0,.nilS,.str ⟨#[]⟩,.int .i64 0] [(0,6,.t 141)]),ie (.store 7 (.t 10) (.t 142))] false) .ret)
def Zoj : AFun := ⟨[.cell 10 true 7],.seq (.region [ii 10 (.new [.int .i64 0,.str ⟨#[]⟩,.int .i64 0,.int .i64 0,.nilS,.str ⟨#[]⟩,.int .i64 0])] false) (.seq (.region [im 16 2,ii 17 (.len (.t 16)),im 11 17] false) (.seq (.region [im 18 2,im 19 11,im 20 4,icl 21 18 [.t 18,.t 19,.t 20],im 12 21] false) (.seq (.block 0 (.seq (.region [im 23 3,ii 24 (.bin .neq (.t 23) (ki 1)),im 25 24,ig 26 (.mv (.t 3)) 25 true,ig 27 (.bin .neq (.t 26) (ki 2)) 25 true,ii 28 (.pick (.t 25) (.t 27) (.k (.c (.bool false)))),im 29 28,ig 30 (.mv (.t 4)) 29 false,ig 31 (.bin .lss (.t 30) (ki 0)) 29 false,ii 32 (.pick (.t 29) (.k (.c (.bool true))) (.t 31)),im 33 32,ig 34 (.mv (.t 4)) 33 false,ig 35 (.bin .geq (.t 34) (ki 8)) 33 false,ii 36 (.pick (.t 33) (.k (.c (.bool true))) (.t 35)),im 37 36,ig 38 (.mv (.t 2)) 37 false,ig 39 (.call (.f 20) [.t 38]) 37 false,ig 40 (.un .not (.t 39)) 37 false,ii 41 (.pick (.t 37) (.k (.c (.bool true))) (.t 40)),im 42 41,ig 43 (.mv (.t 11)) 42 false,ig 44 (.bin .eql (.t 43) (ki 0)) 42 false,ig 45 (.mv (.t 44)) 42 false,ig 46 (.mv (.t 3)) 45 true,ig 47 (.bin .neq (.t 46) (ki 1)) 45 true,ig 48 (.mv (.t 47)) 45 true,ig 49 (.mv (.t 4)) 48 false,ig 50 (.bin .neq (.t 49) (ki 0)) 48 false,ig 51 (.pick (.t 48) (.k (.c (.bool true))) (.t 50)) 45 true,ig 52 (.pick (.t 45) (.t 51) (.k (.c (.bool false)))) 42 false,ii 53 (.pick (.t 42) (.k (.c (.bool true))) (.t 52)),im 54 53,ig 55 (.mv (.t 3)) 54 false,ig 56 (.bin .eql (.t 55) (ki 2)) 54 false,ig 57 (.mv (.t 56)) 54 false,ig 58 (.mv (.t 4)) 57 true,ig 59 (.bin .eql (.t 58) (ki 0)) 57 true,ig 60 (.pick (.t 57) (.t 59) (.k (.c (.bool false)))) 54 false,ii 61 (.pick (.t 54) (.k (.c (.bool true))) (.t 60)),im 22 61] false) (.cond (.t 22) (.seq (.region [ii 62 (.build [.int .i64 0,.str ⟨#[]⟩,.int .i64 0,.int .i64 0,.nilS,.str ⟨#[]⟩,.int .i64 0] [(6,1,.k (.c (.int .i64 1)))]),ie (.store 7 (.t 10) (.t 62))] false) .ret) (.seq (.region [im 64 3,ii 65 (.bin .eql (.t 64) (ki 1)),im 66 65,ig 67 (.mv (.t 12)) 66 true,ii 68 (.pick (.t 66) (.t 67) (.k (.c (.bool false)))),im 63 68] false) (.cond (.t 63) (.seq (.region [ii 69 (.build [.int .i64 0,.str ⟨#[]⟩,.int .i64 0,.int .i64 0,.nilS,.str ⟨#[]⟩,.int .i64 0] [(6,1,.k (.c (.int .i64 3)))]),ie (.store 7 (.t 10) (.t 69))] false) .ret) (.seq (.region [im 71 3,ii 72 (.bin .eql (.t 71) (ki 2)),im 73 72,ig 74 (.mv (.t 12)) 73 true,ig 75 (.un .not (.t 74)) 73 true,ii 76 (.pick (.t 73) (.t 75) (.k (.c (.bool false)))),im 70 76] false) (.cond (.t 70) (.seq (.region [ii 77 (.build [.int .i64 0,.str ⟨#[]⟩,.int .i64 0,.int .i64 0,.nilS,.str ⟨#[]⟩,.int .i64 0] [(6,1,.k (.c (.int .i64 2)))]),ie (.store 7 (.t 10) (.t 77))] false) .ret) (.seq (.region [im 79 11,ii 80 (.bin .geq (.t 79) (ki 40)),im 78 80] false) (.cond (.t 78) (.seq (.region [ii 81 (.build [.int .i64 0,.str ⟨#[]⟩,.int .i64 0,.int .i64 0,.nilS,.str ⟨#[]⟩,.int .i64 0] [(6,1,.k (.c (.int .i64 12)))]),ie (.store 7 (.t 10) (.t 81))] false) .ret) .skip))))))))) (.seq (.region [im 82 11,ii 83 (.bin .add (.t 82) (ki 1)),im 84 3,im 85 4,ii 86 (.build [.int .i64 0,.str ⟨#[]⟩,.int .i64 0,.int .i64 0,.nilS,.str ⟨#[]⟩] [(0,1,.t 83),(2,1,.t 84),(3,1,.t 85)]),ii 13 (.new [.int .i64 0,.str ⟨#[]⟩,.int .i64 0,.int .i64 0,.nilS,.str ⟨#[]⟩]),ie (.store 6 (.t 13) (.t 86))] false) (.seq (.seq (.region [im 87 11,ii 88 (.bin .gtr (.t 87) (ki 0))] false) (.cond (.t 88) (.region [im 89 2,im 90 11,ii 91 (.bin .sub (.t 90) (ki 1)),ixx 92 6 89 91,ii 93 (.load true 6 (.t 92)),icl 94 27 [.t 93],ifl 95 1 13,ie (.store 1 (.t 95) (.t 94))] false) .skip)) (.seq (.region [iz 96 (.lit 6 [.int .i64 0,.str ⟨#[]⟩,.int .i64 0,.int .i64 0,.nilS,.str ⟨#[]⟩] 0 []),im 97 2,ii 98 (.appZ 6 80 (.t 96) (.t 97)),im 14 98] false) (.seq (.region [im 99 14,ii 100 (.load true 6 (.t 13)),iz 101 (.lit 6 [.int .i64 0,.str ⟨#[]⟩,.int .i64 0,.int .i64 0,.nilS,.str ⟨#[]⟩] 1 [(0,.t 100)]),ii 102 (.app 6 80 (.t 99) (.t 101)),im 14 102] false) (.seq (.fz 14 (.seq (.region [ii 15 (.mv (ki 0))] false) (.block 1 (.loop Zmq)))) Zrl))))))))⟩
theorem Z99 : Zm Tryz.prog 30 = some Zoj.erase := by kernel_rfl
def Zme : ACode := .seq (.seq (.region [im 34 13,im 35 12,ibt 36 .lss 34 35] false) (.cond (.t 36) .skip (.exit 0))) (.seq (.block 1 (.seq (.region [im 39 0,im 40 13,ixx 41 6 39 40,ifl 42 0 41,il 43 42,ifl 44 0 9,il 45 44,ibt 46 .eql 43 45] true) (.cond (.t 46) (.seq (.region [ifl 47 2 11,ie (.store 1 (.t 47) (ki 11))] false) (.seq (.seq (.region [im 48 0,im 49 13,ixx 50 6 48 49,ii 51 (.load true 6 (.t 50)),ii 52 (.load true 6 (.t 9)),icl 53 34 [.t 51,.t 52]] true) (.cond (.t 53) (.region [ifl 54 2 11,ie (.store 1 (.t 54) (ki 10))] false) .skip)) (.seq (.region [ii 55 (.load true 3 (.t 11)),ie (.store 3 (.t 10) (.t 55))] false) .ret))) .skip))) (.region [im 37 13,ii 38 (.bin .add (.t 37) (ki 1)),im 13 38] false))
def Zrb : ACode := .seq (.seq (.region [ifl 56 0 9,il 57 56,im 58 12,ii 59 (.bin .add (.t 58) (ki 1)),ibt 60 .gtr 57 59] false) (.cond (.t 60) (.seq (.region [ifl 61 2 11,ie (.store 1 (.t 61) (ki 6))] false) (.seq (.region [ii 62 (.load true 3 (.t 11)),ie (.store 3 (.t 10) (.t 62))] false) .ret)) .skip)) (.seq (.region [iz 63 (.lit 6 [.int .i64 0,.str ⟨#[]⟩,.int .i64 0,.int .i64 0,.nilS,.str ⟨#[]⟩] 0 []),im 64 0,ii 65 (.appZ 6 80 (.t 63) (.t 64)),im 14 65] false) (.seq (.region [im 66 14,ii 67 (.load true 6 (.t 9)),iz 68 (.lit 6 [.int .i64 0,.str ⟨#[]⟩,.int .i64 0,.int .i64 0,.nilS,.str ⟨#[]⟩] 1 [(0,.t 67)]),ii 69 (.app 6 80 (.t 66) (.t 68)),im 14 69] false) (.seq (.fz 14 (.seq (.region [im 70 14,icl 71 20 [.t 70],ii 72 (.un .not (.t 71))] false) (.cond (.t 72) (.seq (.region [ifl 73 2 11,ie (.store 1 (.t 73) (ki 11))] false) (.seq (.region [ii 74 (.load true 3 (.t 11)),ie (.store 3 (.t 10) (.t 74))] false) .ret)) .skip))) (.seq (.region [im 75 1,im 76 12,icl 77 39 [.t 75,.t 76],ii 15 (.new [.str ⟨#[]⟩,.bool false]),ie (.store 2 (.t 15) (.t 77))] false) (.seq (.region [im 78 2,ii 79 (.load true 6 (.t 9)),im 80 3,icl 81 31 [.t 78,.t 79,.t 80],ii 16 (.new [.str ⟨#[]⟩,.bool false]),ie (.store 2 (.t 16) (.t 81))] false) (.seq (.region [im 82 14,im 83 12,ii 84 (.bin .add (.t 83) (ki 1)),im 85 3,icl 86 18 [.t 82,.t 84,.t 85],im 17 86] false) (.seq (.seq (.region [ifl 87 1 15,il 88 87,im 89 88,ig 90 (.fld 5 (.t 9)) 89 true,ig 91 (.load false 1 (.t 90)) 89 true,ig 92 (.fld 0 (.t 15)) 89 true,ig 93 (.load false 1 (.t 92)) 89 true,ig 94 (.load true 6 (.t 9)) 89 true,ig 95 (.call (.f 35) [.t 93,.t 94]) 89 true,ig 96 (.bin .neq (.t 91) (.t 95)) 89 true,ii 97 (.pick (.t 89) (.t 96) (.k (.c (.bool false)))),im 98 97,ig 99 (.mv (.t 17)) 98 false,ig 100 (.mv (.t 99)) 98 false,ig 101 (.fld 1 (.t 16)) 100 true,ig 102 (.load false 1 (.t 101)) 100 true,ig 103 (.un .not (.t 102)) 100 true,ig 104 (.pick (.t 100) (.t 103) (.k (.c (.bool false)))) 98 false,ii 105 (.pick (.t 98) (.k (.c (.bool true))) (.t 104))] true) (.cond (.t 105) (.seq (.region [ifl 106 2 11,ie (.store 1 (.t 106) (ki 9))] false) (.seq (.region [ii 107 (.load true 3 (.t 11)),ie (.store 3 (.t 10) (.t 107))] false) .ret)) .skip)) (.seq (.region [im 108 14,ifl 109 0 11,ie (.store 1 (.t 109) (.t 108))] false) (.seq (.seq (.region [im 110 17] false) (.cond (.t 110) (.seq (.region [iz 111 (.lit 2 [.int .i64 0,.str ⟨#[]⟩] 0 []),im 112 1,ii 113 (.appZ 2 24 (.t 111) (.t 112)),im 18 113] false) (.region [im 114 18,im 115 12,ii 116 (.bin .add (.t 115) (ki 1)),ifl 117 0 16,il 118 117,ii 119 (.build [.int .i64 0,.str ⟨#[]⟩] [(0,1,.t 116),(1,1,.t 118)]),iz 120 (.lit 2 [.int .i64 0,.str ⟨#[]⟩] 1 [(0,.t 119)]),ii 121 (.app 2 24 (.t 114) (.t 120)),ifl 122 1 11,ie (.store 1 (.t 122) (.t 121))] false)) .skip)) (.seq (.region [ii 123 (.load true 3 (.t 11)),ie (.store 3 (.t 10) (.t 123))] false) .ret))))))))))
def Z1w : AFun := ⟨[.cell 10 true 3],.seq (.region [iz 9 (.box (.t 4)),ii 10 (.new [.nilS,.nilS,.int .i64 0])] false) (.seq (.region [im 19 0,im 20 1,ii 21 (.build [.nilS,.nilS,.int .i64 0] [(0,1,.t 19),(1,1,.t 20)]),ii 11 (.new [.nilS,.nilS,.int .i64 0]),ie (.store 3 (.t 11) (.t 21))] false) (.seq (.region [im 22 0,ii 23 (.len (.t 22)),im 12 23] false) (.seq (.seq (.region [im 24 0,icl 25 20 [.t 24],ii 26 (.un .not (.t 25)),im 27 26,ig 28 (.mv (.t 1)) 27 false,ig 29 (.call (.f 81) [.t 28]) 27 false,ig 30 (.un .not (.t 29)) 27 false,ii 31 (.pick (.t 27) (.k (.c (.bool true))) (.t 30))] false) (.cond (.t 31) (.seq (.region [ifl 32 2 11,ie (.store 1 (.t 32) (ki 1))] false) (.seq (.region [ii 33 (.load true 3 (.t 11)),ie (.store 3 (.t 10) (.t 33))] false) .ret)) .skip)) (.seq (.seq (.region [ii 13 (.mv (ki 0))] false) (.block 0 (.loop Zme))) Zrb))))⟩
theorem Z9b : Zm Tryz.prog 33 = some Z1w.erase := by kernel_rfl
def Zia : ACode := .seq (.seq (.region [im 11 5,im 12 0,ii 13 (.len (.t 12)),ibt 14 .lss 11 13] false) (.cond (.t 14) .skip (.exit 0))) (.seq (.block 1 (.seq (.region [im 17 0,im 18 5,ixx 19 2 17 18,ii 20 (.load true 2 (.t 19)),im 21 1,im 22 5,ixx 23 2 21 22,ii 24 (.load true 2 (.t 23)),ii 25 (.eqS true [0,1] (.t 20) (.t 24))] true) (.cond (.t 25) (.seq (.region [ii 4 (.mv (.k (.c (.bool false))))] false) .ret) .skip))) (.region [im 15 5,ii 16 (.bin .add (.t 15) (ki 1)),im 5 16] false))
def Zlb : ACode := .seq (.region [ii 4 (.mv (.k (.c (.bool true))))] false) .ret
def Zsh : AFun := ⟨[.tmp 4],.seq (.region [ii 4 (.mv (.k (.c (.bool false))))] false) (.seq (.seq (.region [im 6 0,ii 7 (.len (.t 6)),im 8 1,ii 9 (.len (.t 8)),ibt 10 .neq 7 9] false) (.cond (.t 10) (.seq (.region [ii 4 (.mv (.k (.c (.bool false))))] false) .ret) .skip)) (.seq (.seq (.region [ii 5 (.mv (ki 0))] false) (.block 0 (.loop Zia))) Zlb))⟩
theorem Z0i : Zm Tryz.prog 37 = some Zsh.erase := by kernel_rfl
def Zi4 : ACode := .seq (.seq (.region [im 11 5,im 12 0,ii 13 (.len (.t 12)),ibt 14 .lss 11 13] false) (.cond (.t 14) .skip (.exit 0))) (.seq (.block 1 (.seq (.region [im 17 0,im 18 5,ixx 19 6 17 18,ii 20 (.load true 6 (.t 19)),im 21 1,im 22 5,ixx 23 6 21 22,ii 24 (.load true 6 (.t 23)),icl 25 34 [.t 20,.t 24],ii 26 (.un .not (.t 25))] true) (.cond (.t 26) (.seq (.region [ii 4 (.mv (.k (.c (.bool false))))] false) .ret) .skip))) (.region [im 15 5,ii 16 (.bin .add (.t 15) (ki 1)),im 5 16] false))
def Zlz : ACode := .seq (.region [ii 4 (.mv (.k (.c (.bool true))))] false) .ret
def Zt7 : AFun := ⟨[.tmp 4],.seq (.region [ii 4 (.mv (.k (.c (.bool false))))] false) (.seq (.seq (.region [im 6 0,ii 7 (.len (.t 6)),im 8 1,ii 9 (.len (.t 8)),ibt 10 .neq 7 9] false) (.cond (.t 10) (.seq (.region [ii 4 (.mv (.k (.c (.bool false))))] false) .ret) .skip)) (.seq (.seq (.region [ii 5 (.mv (ki 0))] false) (.block 0 (.loop Zi4))) Zlz))⟩
theorem Z2j : Zm Tryz.prog 36 = some Zt7.erase := by kernel_rfl
def Zla : ACode := .seq (.seq (.region [im 4 3,ifl 5 4 1,il 6 5,ii 7 (.len (.t 6)),ibt 8 .lss 4 7,im 9 8,ig 10 (.mv (.t 3)) 9 true,ig 11 (.bin .lss (.t 10) (ki 20)) 9 true,ii 12 (.pick (.t 9) (.t 11) (.k (.c (.bool false))))] false) (.cond (.t 12) .skip (.exit 0))) (.seq (.block 1 (.seq (.region [ifl 15 4 1,il 16 15,im 17 3,ixx 18 2 16 17,ifl 19 1 18,il 20 19,ii 21 (.lenS (.t 20)),ii 22 (.bin .gtr (.t 21) (ki 400))] false) (.cond (.t 22) (.seq (.region [ii 2 (.mv (.k (.c (.bool true))))] false) .ret) .skip))) (.region [im 13 3,ii 14 (.bin .add (.t 13) (ki 1)),im 3 14] false))
def Zlk : ACode := .seq (.region [ifl 23 4 1,il 24 23,ii 25 (.len (.t 24)),ii 26 (.bin .gtr (.t 25) (ki 12)),im 27 26,ig 28 (.fld 1 (.t 1)) 27 false,ig 29 (.load false 1 (.t 28)) 27 false,ig 30 (.lenS (.t 29)) 27 false,ig 31 (.bin .gtr (.t 30) (ki 100)) 27 false,ii 32 (.pick (.t 27) (.k (.c (.bool true))) (.t 31)),im 33 32,ig 34 (.fld 5 (.t 1)) 33 false,ig 35 (.load false 1 (.t 34)) 33 false,ig 36 (.lenS (.t 35)) 33 false,ig 37 (.bin .gtr (.t 36) (ki 100)) 33 false,ii 38 (.pick (.t 33) (.k (.c (.bool true))) (.t 37)),im 2 38] false) .ret
def Zxs : AFun := ⟨[.tmp 2],.seq (.region [iz 1 (.box (.t 0)),ii 2 (.mv (.k (.c (.bool false))))] false) (.seq (.seq (.region [ii 3 (.mv (ki 0))] false) (.block 0 (.loop Zla))) Zlk)⟩
theorem Z8a : Zm Tryz.prog 29 = some Zxs.erase := by kernel_rfl
def Zle : ACode := .seq (.seq (.region [im 4 3,im 5 0,ii 6 (.len (.t 5)),ibt 7 .lss 4 6,im 8 7,ig 9 (.mv (.t 3)) 8 true,ig 10 (.bin .lss (.t 9) (ki 50)) 8 true,ii 11 (.pick (.t 8) (.t 10) (.k (.c (.bool false))))] false) (.cond (.t 11) .skip (.exit 0))) (.seq (.block 1 (.seq (.region [im 14 0,im 15 3,ixx 16 6 14 15,ii 17 (.load true 6 (.t 16)),icl 18 29 [.t 17]] false) (.cond (.t 18) (.seq (.region [ii 2 (.mv (.k (.c (.bool true))))] false) .ret) .skip))) (.region [im 12 3,ii 13 (.bin .add (.t 12) (ki 1)),im 3 13] false))
def Zlm : ACode := .seq (.region [im 19 0,ii 20 (.len (.t 19)),ii 21 (.bin .gtr (.t 20) (ki 44)),im 2 21] false) .ret
def Zy8 : AFun := ⟨[.tmp 2],.seq (.region [ii 2 (.mv (.k (.c (.bool false))))] false) (.seq (.seq (.region [ii 3 (.mv (ki 0))] false) (.block 0 (.loop Zle))) Zlm)⟩
theorem Z7e : Zm Tryz.prog 28 = some Zy8.erase := by kernel_rfl
def Zy1 : AFun := ⟨[.tmp 0],.seq (.region [ii 0 (.mv (.k (.c (.bool false))))] false) (.seq (.region [icl 8 17 [.k (.c (.str ⟨#[115]⟩)),.k (.c (.str ⟨#[109]⟩)),.k (.c .nilS),.k (.c (.int .i64 2)),.k (.c (.int .i64 1))],im 7 8,ii 9 (.ext (.t 7) 0),ii 10 (.ext (.t 7) 1),ii 1 (.new [.int .i64 0,.str ⟨#[]⟩,.int .i64 0,.int .i64 0,.nilS,.str ⟨#[]⟩]),ie (.store 6 (.t 1) (.t 9)),im 2 10] false) (.seq (.region [icl 12 17 [.k (.c (.str ⟨#[115]⟩)),.k (.c (.str ⟨#[109]⟩)),.k (.c .nilS),.k (.c (.int .i64 1)),.k (.c (.int .i64 0))],im 11 12,ii 13 (.ext (.t 11) 0),ii 14 (.ext (.t 11) 1),ii 3 (.new [.int .i64 0,.str ⟨#[]⟩,.int .i64 0,.int .i64 0,.nilS,.str ⟨#[]⟩]),ie (.store 6 (.t 3) (.t 13)),im 4 14] false) (.seq (.region [icl 16 24 [.k (.c (.str ⟨#[109]⟩)),.k (.c (.int .i64 0))],ii 17 (.load true 6 (.t 3)),icl 18 23 [.t 16,.t 17,.k (.c (.int .i64 0))],im 15 18,ii 19 (.ext (.t 15) 0),ii 20 (.ext (.t 15) 1),im 5 19,im 6 20] true) (.seq (.region [im 21 2,icl 22 19 [.t 21],ii 23 (.bin .eql (.t 22) (ki 1)),im 24 23,ig 25 (.mv (.t 4)) 24 true,ig 26 (.call (.f 19) [.t 25]) 24 true,ig 27 (.bin .eql (.t 26) (ki 0)) 24 true,ii 28 (.pick (.t 24) (.t 27) (.k (.c (.bool false)))),im 29 28,ig 30 (.mv (.t 6)) 29 true,ii 31 (.pick (.t 29) (.t 30) (.k (.c (.bool false)))),im 32 31,ig 33 (.mv (.t 5)) 32 true,ig 34 (.call (.f 25) [.k (.c (.str ⟨#[115]⟩)),.k (.c (.int .i64 1))]) 32 true,ig 35 (.bin .eql (.t 33) (.t 34)) 32 true,ii 36 (.pick (.t 32) (.t 35) (.k (.c (.bool false)))),im 0 36] false) .ret))))⟩
theorem Z8m : Zm Tryz.prog 15 = some Zy1.erase := by kernel_rfl
def Z8r : AFun := ⟨[.tmp 2],.seq (.region [ii 2 (.mv (ki 0))] false) (.seq (.region [im 3 0,im 2 3] false) .ret)⟩
theorem Zbdt : Zm Tryz.prog 19 = some Z8r.erase := by kernel_rfl
def Ziw : ACode := .seq (.seq (.region [im 57 19,im 58 7,ii 59 (.len (.t 58)),ibt 60 .lss 57 59] false) (.cond (.t 60) .skip (.exit 0))) (.seq (.block 1 (.seq (.region [im 63 7,im 64 19,ixx 65 2 63 64,ifl 66 1 65,il 67 66,ii 68 (.lenS (.t 67)),ii 69 (.bin .gtr (.t 68) (ki 100))] false) (.cond (.t 69) (.seq (.region [icl 70 15 [],im 18 70] false) .ret) .skip))) (.region [im 61 19,ii 62 (.bin .add (.t 61) (ki 1)),im 19 62] false))
def Zl5 : ACode := .seq (.region [im 72 0,im 73 1,im 74 2,im 75 3,im 76 4,icl 77 17 [.t 72,.t 73,.t 74,.t 75,.t 76],im 71 77,ii 78 (.ext (.t 71) 0),ii 79 (.ext (.t 71) 1),ii 20 (.new [.int .i64 0,.str ⟨#[]⟩,.int .i64 0,.int .i64 0,.nilS,.str ⟨#[]⟩]),ie (.store 6 (.t 20) (.t 78)),im 21 79] false) (.seq (.region [im 80 0,im 81 1,im 82 2,im 83 3,im 84 4,icl 85 30 [.t 80,.t 81,.t 82,.t 83,.t 84],ii 22 (.new [.int .i64 0,.str ⟨#[]⟩,.int .i64 0,.int .i64 0,.nilS,.str ⟨#[]⟩,.int .i64 0]),ie (.store 7 (.t 22) (.t 85))] false) (.seq (.region [im 87 5,ii 88 (.load true 6 (.t 15)),im 89 4,icl 90 23 [.t 87,.t 88,.t 89],im 86 90,ii 91 (.ext (.t 86) 0),ii 92 (.ext (.t 86) 1),im 23 91,im 24 92] false) (.seq (.region [im 93 5,ii 94 (.load true 6 (.t 15)),im 95 4,icl 96 31 [.t 93,.t 94,.t 95],ii 25 (.new [.str ⟨#[]⟩,.bool false]),ie (.store 2 (.t 25) (.t 96))] false) (.seq (.region [im 98 2,im 99 7,im 100 5,im 101 8,ii 102 (.load true 6 (.t 15)),icl 103 32 [.t 98,.t 99,.t 100,.t 101,.t 102],im 97 103,ii 104 (.ext (.t 97) 0),ii 105 (.ext (.t 97) 1),ii 106 (.ext (.t 97) 2),im 26 104,im 27 105,im 28 106] false) (.seq (.region [im 107 2,im 108 7,im 109 5,im 110 8,ii 111 (.load true 6 (.t 15)),icl 112 33 [.t 107,.t 108,.t 109,.t 110,.t 111],ii 29 (.new [.nilS,.nilS,.int .i64 0]),ie (.store 3 (.t 29) (.t 112))] false) (.seq (.region [ii 113 (.load true 6 (.t 20)),ifl 114 0 22,ii 115 (.load true 6 (.t 114)),icl 116 34 [.t 113,.t 115],im 117 116,ig 118 (.mv (.t 21)) 117 true,ig 119 (.call (.f 19) [.t 118]) 117 true,ig 120 (.fld 6 (.t 22)) 117 true,ig 121 (.load false 1 (.t 120)) 117 true,ig 122 (.bin .eql (.t 119) (.t 121)) 117 true,ii 123 (.pick (.t 117) (.t 122) (.k (.c (.bool false)))),im 124 123,ig 125 (.mv (.t 23)) 124 true,ig 126 (.fld 0 (.t 25)) 124 true,ig 127 (.load false 1 (.t 126)) 124 true,ig 128 (.bin .eql (.t 125) (.t 127)) 124 true,ii 129 (.pick (.t 124) (.t 128) (.k (.c (.bool false)))),im 130 129,ig 131 (.mv (.t 24)) 130 true,ig 132 (.fld 1 (.t 25)) 130 true,ig 133 (.load false 1 (.t 132)) 130 true,ig 134 (.binB false (.t 131) (.t 133)) 130 true,ii 135 (.pick (.t 130) (.t 134) (.k (.c (.bool false)))),im 136 135,ig 137 (.mv (.t 0)) 136 true,ig 138 (.load true 6 (.t 15)) 136 true,ig 139 (.call (.f 26) [.t 137,.t 138]) 136 true,ig 140 (.mv (.t 0)) 136 true,ig 141 (.load true 6 (.t 15)) 136 true,ig 142 (.call (.f 35) [.t 140,.t 141]) 136 true,ig 143 (.bin .eql (.t 139) (.t 142)) 136 true,ii 144 (.pick (.t 136) (.t 143) (.k (.c (.bool false)))),im 145 144,ig 146 (.mv (.t 26)) 145 true,ig 147 (.fld 0 (.t 29)) 145 true,ig 148 (.load false 1 (.t 147)) 145 true,ig 149 (.call (.f 36) [.t 146,.t 148]) 145 true,ii 150 (.pick (.t 145) (.t 149) (.k (.c (.bool false)))),im 151 150,ig 152 (.mv (.t 27)) 151 true,ig 153 (.fld 1 (.t 29)) 151 true,ig 154 (.load false 1 (.t 153)) 151 true,ig 155 (.call (.f 37) [.t 152,.t 154]) 151 true,ii 156 (.pick (.t 151) (.t 155) (.k (.c (.bool false)))),im 157 156,ig 158 (.mv (.t 28)) 157 true,ig 159 (.call (.f 19) [.t 158]) 157 true,ig 160 (.fld 2 (.t 29)) 157 true,ig 161 (.load false 1 (.t 160)) 157 true,ig 162 (.bin .eql (.t 159) (.t 161)) 157 true,ii 163 (.pick (.t 157) (.t 162) (.k (.c (.bool false)))),im 164 163,ig 165 (.call (.f 15) []) 164 true,ii 166 (.pick (.t 164) (.t 165) (.k (.c (.bool false)))),im 18 166] true) .ret))))))
def Zt3 : AFun := ⟨[.tmp 18],.seq (.region [iz 15 (.box (.t 6)),ii 18 (.mv (.k (.c (.bool false))))] false) (.seq (.seq (.region [im 30 2,icl 31 28 [.t 30],im 32 31,ig 33 (.load true 6 (.t 15)) 32 false,ig 34 (.call (.f 29) [.t 33]) 32 false,ii 35 (.pick (.t 32) (.k (.c (.bool true))) (.t 34)),im 36 35,ig 37 (.mv (.t 0)) 36 false,ig 38 (.lenS (.t 37)) 36 false,ig 39 (.bin .gtr (.t 38) (ki 100)) 36 false,ii 40 (.pick (.t 36) (.k (.c (.bool true))) (.t 39)),im 41 40,ig 42 (.mv (.t 1)) 41 false,ig 43 (.lenS (.t 42)) 41 false,ig 44 (.bin .gtr (.t 43) (ki 100)) 41 false,ii 45 (.pick (.t 41) (.k (.c (.bool true))) (.t 44)),im 46 45,ig 47 (.mv (.t 5)) 46 false,ig 48 (.lenS (.t 47)) 46 false,ig 49 (.bin .gtr (.t 48) (ki 100)) 46 false,ii 50 (.pick (.t 46) (.k (.c (.bool true))) (.t 49)),im 51 50,ig 52 (.mv (.t 7)) 51 false,ig 53 (.len (.t 52)) 51 false,ig 54 (.bin .gtr (.t 53) (ki 45)) 51 false,ii 55 (.pick (.t 51) (.k (.c (.bool true))) (.t 54))] false) (.cond (.t 55) (.seq (.region [icl 56 15 [],im 18 56] false) .ret) .skip)) (.seq (.seq (.region [ii 19 (.mv (ki 0))] false) (.block 0 (.loop Ziw))) Zl5))⟩
theorem Z2p : Zm Tryz.prog 6 = some Zt3.erase := by kernel_rfl
theorem Zbdh {neg : Bool} {r q : EKey} {H : Heap} : vEqS neg [0,1] (.agg [.int .i64 r.epoch,.str r.key]) (.agg [.int .i64 q.epoch,.str q.key]) H = some (bC (neg != decide (r = q)),H) := by
 cases r; cases q
 simp [vEqS,Zbr,Zpd,Bool.decide_and]
theorem Z1h (a b : List EKey) : Pr 37 [.c (Zbj a),.c (Zbj b)] (bC (decide (a = b))) := by
 refine Zl mixed Z0i (by simp [Zo,Zn,Zc,Zbj,Zcm]) fun hl T => ?_
 have hlen : a.length ≤ maxLen := by simp [Zd7,lenA,lenC,Zbj] at hl; exact hl.1
 unfold Zsh
 have hla : (a.map EKey.cells).length = a.length := by simp
 have hlb : (b.map EKey.cells).length = b.length := by simp
 simp only [Zbj]
 by_cases hll : a.length = b.length
 ·have hll' : (a.length : Int) = (b.length : Int) := by omega
  obtain ⟨v,hv⟩ : ∃ v,v = decide (a = b) := ⟨_,rfl⟩
  rw [← hv]
  have loop : ∀ (ra rb pa pb : List EKey) (e : Env) (H : Heap),a = pa ++ ra → b = pb ++ rb → pa.length = pb.length → v = decide (ra = rb) → ra.length = rb.length → e 0 = .c (.lst 2 (a.map EKey.cells)) → e 1 = .c (.lst 2 (b.map EKey.cells)) → e 5 = iC pa.length →
    Run (Zu Tryz.prog T) ⟨[.tmp 4],fun u E => Zf E u = some (bC v)⟩ [.loop Zia,.blk 0,.code Zlb] e H := by
   intro ra
   induction ra with
   | nil =>
    intro rb pa pb e H ha hb hpp hvv hlr h0 h1 h5
    have hc := Zcf (f := EKey.cells) ha
    refine Zj ?_
    conv => enter [3,1]; unfold Zia
    simp only [go_sem,simprocAttr,h0,h5,hc]
    unfold Zlb
    simp only [go_sem,simprocAttr]
    have : rb = [] := List.eq_nil_of_length_eq_zero hlr.symm
    subst this
    simp at hvv
    simp [Zf,Ze,Zi,Zg,Zh,Zd,Zc,Zb,hvv]
   | cons x ra ih =>
    intro rb pa pb e H ha hb hpp hvv hlr h0 h1 h5
    cases rb with
    | nil => simp at hlr
    | cons y rb =>
     have hc := Zer (f := EKey.cells) ha
     have hra := Zb6 (f := EKey.cells) ha
     have hrb := Zb6 (f := EKey.cells) hb
     rw [← hpp] at hrb
     have hn := Zbt ha hlen
     refine Zj ?_
     conv => enter [3,1]; unfold Zia
     by_cases c1 : x = y
     ·simp only [go_sem,simprocAttr,h0,h1,h5,hc,hra,hrb,EKey.cells,Zkm,Zbdh,Bool.true_bne,decide_eq_true c1,hn]
      refine ih rb (pa ++ [x]) (pb ++ [y]) _ _ (by rw [ha]; simp) (by rw [hb]; simp) (by simp [hpp]) (by rw [hvv,c1]; simp) (by simpa using hlr) ?_ ?_ ?_
      ·simp only [go_sem,simprocAttr,h0]
      ·simp only [go_sem,simprocAttr,h1]
      ·simp only [go_sem,simprocAttr,hn]
     ·have hvf : v = false := by rw [hvv]; exact decide_eq_false (fun h => c1 (by injection h))
      simp only [go_sem,simprocAttr,h0,h1,h5,hc,hra,hrb,EKey.cells,Zkm,Zbdh,Bool.true_bne,decide_eq_false c1]
      simp [Zf,Ze,Zi,Zg,Zh,Zd,Zc,Zb,hvf]
  simp only [go_sem,simprocAttr,hla,hlb,hll']
  refine loop a b [] [] _ _ rfl rfl rfl hv hll ?_ ?_ ?_
  all_goals simp only [go_sem,simprocAttr,List.length_nil,Int.natCast_zero]
 ·have hll' : ¬ ((a.length : Int) = (b.length : Int)) := by omega
  have hne : ¬ a = b := fun h => hll (by rw [h])
  simp only [go_sem,simprocAttr,hla,hlb,hll']
  simp [Zf,Ze,Zi,Zg,Zh,Zd,Zc,Zb,hne]
theorem Z2f (a b : List Rec) : Pr 36 [.c (Zw a),.c (Zw b)] (bC (decide (a = b))) := by
 refine Zl mixed Z2j (by simp [Zo,Zn,Zc,Zw,Z4]) fun hl T => ?_
 have hlen : a.length ≤ maxLen := by simp [Zd7,lenA,lenC,Zw] at hl; exact hl.1
 unfold Zt7
 have hla : (a.map Rec.cells).length = a.length := by simp
 have hlb : (b.map Rec.cells).length = b.length := by simp
 simp only [Zw]
 by_cases hll : a.length = b.length
 ·have hll' : (a.length : Int) = (b.length : Int) := by omega
  obtain ⟨v,hv⟩ : ∃ v,v = decide (a = b) := ⟨_,rfl⟩
  rw [← hv]
  have loop : ∀ (ra rb pa pb : List Rec) (e : Env) (H : Heap),a = pa ++ ra → b = pb ++ rb → pa.length = pb.length → v = decide (ra = rb) → ra.length = rb.length → e 0 = .c (.lst 6 (a.map Rec.cells)) → e 1 = .c (.lst 6 (b.map Rec.cells)) → e 5 = iC pa.length →
    Run (Zu Tryz.prog T) ⟨[.tmp 4],fun u E => Zf E u = some (bC v)⟩ [.loop Zi4,.blk 0,.code Zlz] e H := by
   intro ra
   induction ra with
   | nil =>
    intro rb pa pb e H ha hb hpp hvv hlr h0 h1 h5
    have hc := Zcf (f := Rec.cells) ha
    refine Zj ?_
    conv => enter [3,1]; unfold Zi4
    simp only [go_sem,simprocAttr,h0,h5,hc]
    unfold Zlz
    simp only [go_sem,simprocAttr]
    have : rb = [] := List.eq_nil_of_length_eq_zero hlr.symm
    subst this
    simp at hvv
    simp [Zf,Ze,Zi,Zg,Zh,Zd,Zc,Zb,hvv]
   | cons x ra ih =>
    intro rb pa pb e H ha hb hpp hvv hlr h0 h1 h5
    cases rb with
    | nil => simp at hlr
    | cons y rb =>
     have hc := Zer (f := Rec.cells) ha
     have hra := Zb6 (f := Rec.cells) ha
     have hrb := Zb6 (f := Rec.cells) hb
     rw [← hpp] at hrb
     have hn := Zbt ha hlen
     have hxl : x.cells.length = 6 := rfl
     have hxt : x.cells.take 6 = x.cells := rfl
     have hyl : y.cells.length = 6 := rfl
     have hyt : y.cells.take 6 = y.cells := rfl
     have hs := Zjj x y
     refine Zj ?_
     conv => enter [3,1]; unfold Zi4
     simp only [go_sem,simprocAttr,h0,h1,h5,hc,hra,hrb,hxl,hxt,hyl,hyt]
     refine Za hs ?_
     by_cases c1 : x = y
     ·simp only [go_sem,simprocAttr,decide_eq_true c1,h5,hn]
      refine ih rb (pa ++ [x]) (pb ++ [y]) _ _ (by rw [ha]; simp) (by rw [hb]; simp) (by simp [hpp]) (by rw [hvv,c1]; simp) (by simpa using hlr) ?_ ?_ ?_
      ·simp only [go_sem,simprocAttr,h0]
      ·simp only [go_sem,simprocAttr,h1]
      ·simp only [go_sem,simprocAttr,hn]
     ·have hvf : v = false := by rw [hvv]; exact decide_eq_false (fun h => c1 (by injection h))
      simp only [go_sem,simprocAttr,decide_eq_false c1]
      simp [Zf,Ze,Zi,Zg,Zh,Zd,Zc,Zb,hvf]
  simp only [go_sem,simprocAttr,hla,hlb,hll']
  refine loop a b [] [] _ _ rfl rfl rfl hv hll ?_ ?_ ?_
  all_goals simp only [go_sem,simprocAttr,List.length_nil,Int.natCast_zero]
 ·have hll' : ¬ ((a.length : Int) = (b.length : Int)) := by omega
  have hne : ¬ a = b := fun h => hll (by rw [h])
  simp only [go_sem,simprocAttr,hla,hlb,hll']
  simp [Zf,Ze,Zi,Zg,Zh,Zd,Zc,Zb,hne]
end Go.Proofs.YticmfblfghdkbaaGreatDoor.Eng
