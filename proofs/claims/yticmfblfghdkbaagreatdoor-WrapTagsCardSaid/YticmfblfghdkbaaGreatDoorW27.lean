/- Parts of this claim's proof, joined. No statement of the seat is proved here. -/
import Derived.Test.YticmfblfghdkbaaGreatDoorW26
set_option linter.unusedVariables false
set_option linter.unusedSimpArgs false
namespace Go.Proofs.YticmfblfghdkbaaGreatDoor.Eng
open Go
def Zle (r : Rec) (e : Int) : List Cell := r.cells ++ [.int .i64 e]
abbrev Zbgn : List Cell := [.int .i64 0,.str ⟨#[]⟩,.int .i64 0,.int .i64 0,.nilS,.str ⟨#[]⟩,.int .i64 0]
def Z8f (secret master : ByteArray) (rows : List (List Cell)) (kind dev N : Int) (m : Bool) (e : Env) (H : Heap) : Prop :=
 e 0 = sC secret ∧ e 1 = sC master ∧ e 2 = .c (.lst 6 rows) ∧ e 3 = iC kind ∧ e 4 = iC dev ∧ e 10 = .c (.ptr 0 0 0) ∧ e 11 = iC N ∧ e 12 = bC m ∧ H = [{ sz := 7,rows := [Zbgn],own := true,live := true }]
def MadeV (cs : List Cell) (n : Int) (u : AVal) (E : Heap) : Prop := ∃ a b c d t y rows,cs = [a,b,c,d,.lst 2 rows,t] ∧ Zez [a,b,c,d,t] = true ∧ Zgt rows = true ∧ u = .agg [a,b,c,d,y,t,.int .i64 n] ∧ Acc 2 rows (.c y) E
theorem Zb9 (E : Int) (G : Heap) : MadeV Zqv.cells E (.agg [.int .i64 0,.str ⟨#[]⟩,.int .i64 0,.int .i64 0,.nilS,.str ⟨#[]⟩,.int .i64 E]) G := ⟨_,_,_,_,_,.nilS,[],rfl,rfl,rfl,rfl,.nil⟩
def Zwn : ACode := .block 0 (.seq (.region [im 23 3,ii 24 (.bin .neq (.t 23) (ki 1)),im 25 24,ig 26 (.mv (.t 3)) 25 true,ig 27 (.bin .neq (.t 26) (ki 2)) 25 true,ii 28 (.pick (.t 25) (.t 27) (.k (.c (.bool false)))),im 29 28,ig 30 (.mv (.t 4)) 29 false,ig 31 (.bin .lss (.t 30) (ki 0)) 29 false,ii 32 (.pick (.t 29) (.k (.c (.bool true))) (.t 31)),im 33 32,ig 34 (.mv (.t 4)) 33 false,ig 35 (.bin .geq (.t 34) (ki 8)) 33 false,ii 36 (.pick (.t 33) (.k (.c (.bool true))) (.t 35)),im 37 36,ig 38 (.mv (.t 2)) 37 false,ig 39 (.call (.f 20) [.t 38]) 37 false,ig 40 (.un .not (.t 39)) 37 false,ii 41 (.pick (.t 37) (.k (.c (.bool true))) (.t 40)),im 42 41,ig 43 (.mv (.t 11)) 42 false,ig 44 (.bin .eql (.t 43) (ki 0)) 42 false,ig 45 (.mv (.t 44)) 42 false,ig 46 (.mv (.t 3)) 45 true,ig 47 (.bin .neq (.t 46) (ki 1)) 45 true,ig 48 (.mv (.t 47)) 45 true,ig 49 (.mv (.t 4)) 48 false,ig 50 (.bin .neq (.t 49) (ki 0)) 48 false,ig 51 (.pick (.t 48) (.k (.c (.bool true))) (.t 50)) 45 true,ig 52 (.pick (.t 45) (.t 51) (.k (.c (.bool false)))) 42 false,ii 53 (.pick (.t 42) (.k (.c (.bool true))) (.t 52)),im 54 53,ig 55 (.mv (.t 3)) 54 false,ig 56 (.bin .eql (.t 55) (ki 2)) 54 false,ig 57 (.mv (.t 56)) 54 false,ig 58 (.mv (.t 4)) 57 true,ig 59 (.bin .eql (.t 58) (ki 0)) 57 true,ig 60 (.pick (.t 57) (.t 59) (.k (.c (.bool false)))) 54 false,ii 61 (.pick (.t 54) (.k (.c (.bool true))) (.t 60)),im 22 61] false) (.cond (.t 22) (.seq (.region [ii 62 (.build [.int .i64 0,.str ⟨#[]⟩,.int .i64 0,.int .i64 0,.nilS,.str ⟨#[]⟩,.int .i64 0] [(6,1,.k (.c (.int .i64 1)))]),ie (.store 7 (.t 10) (.t 62))] false) .ret) (.seq (.region [im 64 3,ii 65 (.bin .eql (.t 64) (ki 1)),im 66 65,ig 67 (.mv (.t 12)) 66 true,ii 68 (.pick (.t 66) (.t 67) (.k (.c (.bool false)))),im 63 68] false) (.cond (.t 63) (.seq (.region [ii 69 (.build [.int .i64 0,.str ⟨#[]⟩,.int .i64 0,.int .i64 0,.nilS,.str ⟨#[]⟩,.int .i64 0] [(6,1,.k (.c (.int .i64 3)))]),ie (.store 7 (.t 10) (.t 69))] false) .ret) (.seq (.region [im 71 3,ii 72 (.bin .eql (.t 71) (ki 2)),im 73 72,ig 74 (.mv (.t 12)) 73 true,ig 75 (.un .not (.t 74)) 73 true,ii 76 (.pick (.t 73) (.t 75) (.k (.c (.bool false)))),im 70 76] false) (.cond (.t 70) (.seq (.region [ii 77 (.build [.int .i64 0,.str ⟨#[]⟩,.int .i64 0,.int .i64 0,.nilS,.str ⟨#[]⟩,.int .i64 0] [(6,1,.k (.c (.int .i64 2)))]),ie (.store 7 (.t 10) (.t 77))] false) .ret) (.seq (.region [im 79 11,ii 80 (.bin .geq (.t 79) (ki 40)),im 78 80] false) (.cond (.t 78) (.seq (.region [ii 81 (.build [.int .i64 0,.str ⟨#[]⟩,.int .i64 0,.int .i64 0,.nilS,.str ⟨#[]⟩,.int .i64 0] [(6,1,.k (.c (.int .i64 12)))]),ie (.store 7 (.t 10) (.t 81))] false) .ret) .skip))))))))
set_option maxHeartbeats 8000000 in
theorem Zy4 (secret master : ByteArray) (log : List Rec) (kind dev : Int) (T : Nat → Option AFun) (p : Post) (k : List Itm) (e : Env) (H : Heap) (h : Z8f secret master (log.map Rec.cells) kind dev log.length (memL log log.length dev) e H)
  (hp : p = ⟨[.cell 10 true 7],fun u E => MadeV (Zb5 secret master log kind dev).cells (Zbn log kind dev) u E⟩)
  (hok : Zbn log kind dev = 0 → ∀ e',Z8f secret master (log.map Rec.cells) kind dev log.length (memL log log.length dev) e' H → Run (Zt Tryz.prog T) p k e' H) : Run (Zt Tryz.prog T) p (.code Zwn :: k) e H := by
 have hck := Z46 log
 obtain ⟨E,hE⟩ : ∃ E,E = Zbn log kind dev := ⟨_,rfl⟩
 have hR : E ≠ 0 → Zb5 secret master log kind dev = Zqv := fun h => by unfold Zb5; rw [if_neg (by rw [← hE]; exact h)]
 rw [← hE] at hok hp
 generalize Zb5 secret master log kind dev = RR at hR hp
 unfold Zbn at hE
 simp only [Z9] at hck
 generalize memL log log.length dev = m at hE h hok
 generalize Zd0 log = ck at hck hE
 generalize log.map Rec.cells = rows at hck h hok
 have n0 : (log.length = 0) = ((log.length : Int) = 0) := by rw [Int.natCast_eq_zero]
 have n40 : (40 ≤ log.length) = ((40 : Int) ≤ (log.length : Int)) := by apply propext; omega
 simp only [n0,n40] at hE
 clear n0 n40
 generalize (log.length : Int) = N at hE h hok
 obtain ⟨h0,h1,h2,h3,h4,h10,h11,h12,rfl⟩ := h
 have q21 : ¬ ((2 : Int) = 1) := by omega
 have q12 : ¬ ((1 : Int) = 2) := by omega
 unfold Zwn
 by_cases k1 : kind = 1
 ·subst k1
  by_cases d1 : dev < 0
  ·have d0 : ¬ dev = 0 := by omega
   simp only [go_sem,simprocAttr,h2,h3,h4,h10,h11,h12,hp,q21,q12,eq_self,d1,d0]
   have hf : E = 1 := by simp [hE,q21,q12,eq_self,d1,d0]
   rw [hR (by omega),hf]
   exact Zb9 _ _
  by_cases d2 : 8 ≤ dev
  ·have d0 : ¬ dev = 0 := by omega
   simp only [go_sem,simprocAttr,h2,h3,h4,h10,h11,h12,hp,q21,q12,eq_self,d1,d2,d0]
   have hf : E = 1 := by simp [hE,q21,q12,eq_self,d1,d2,d0]
   rw [hR (by omega),hf]
   exact Zb9 _ _
  cases ck with
  | false =>
   simp only [go_sem,simprocAttr,h2,h3,h4,h10,h11,h12,hp,q21,q12,eq_self,d1,d2]
   refine Za hck ?_
   simp only [go_sem,simprocAttr,h2,h3,h4,h10,h11,h12,hp,q21,q12,eq_self,d1,d2]
   have hf : E = 1 := by simp [hE,q21,q12,eq_self,d1,d2]
   rw [hR (by omega),hf]
   exact Zb9 _ _
  | true =>
   by_cases d0 : dev = 0
   ·by_cases l0 : N = 0
    ·have l40 : ¬ (40 ≤ N) := by omega
     cases m with
     | false =>
      simp only [go_sem,simprocAttr,h2,h3,h4,h10,h11,h12,hp,q21,q12,eq_self,d1,d2,d0,l0,l40]
      refine Za hck ?_
      simp only [go_sem,simprocAttr,h2,h3,h4,h10,h11,h12,hp,q21,q12,eq_self,d1,d2,d0,l0,l40]
      have hf : E = 0 := by simp [hE,q21,q12,eq_self,d1,d2,d0,l0,l40]
      subst hp
      refine hok hf _ ⟨?_,?_,?_,?_,?_,?_,?_,?_,rfl⟩
      all_goals simp only [go_sem,simprocAttr,h0,h1,h2,h3,h4,h10,h11,h12]
     | true =>
      simp only [go_sem,simprocAttr,h2,h3,h4,h10,h11,h12,hp,q21,q12,eq_self,d1,d2,d0,l0,l40]
      refine Za hck ?_
      simp only [go_sem,simprocAttr,h2,h3,h4,h10,h11,h12,hp,q21,q12,eq_self,d1,d2,d0,l0,l40]
      have hf : E = 3 := by simp [hE,q21,q12,eq_self,d1,d2,d0,l0,l40]
      rw [hR (by omega),hf]
      exact Zb9 _ _
    ·by_cases l40 : 40 ≤ N
     ·cases m with
      | false =>
       simp only [go_sem,simprocAttr,h2,h3,h4,h10,h11,h12,hp,q21,q12,eq_self,d1,d2,d0,l0,l40]
       refine Za hck ?_
       simp only [go_sem,simprocAttr,h2,h3,h4,h10,h11,h12,hp,q21,q12,eq_self,d1,d2,d0,l0,l40]
       have hf : E = 12 := by simp [hE,q21,q12,eq_self,d1,d2,d0,l0,l40]
       rw [hR (by omega),hf]
       exact Zb9 _ _
      | true =>
       simp only [go_sem,simprocAttr,h2,h3,h4,h10,h11,h12,hp,q21,q12,eq_self,d1,d2,d0,l0,l40]
       refine Za hck ?_
       simp only [go_sem,simprocAttr,h2,h3,h4,h10,h11,h12,hp,q21,q12,eq_self,d1,d2,d0,l0,l40]
       have hf : E = 3 := by simp [hE,q21,q12,eq_self,d1,d2,d0,l0,l40]
       rw [hR (by omega),hf]
       exact Zb9 _ _
     ·cases m with
      | false =>
       simp only [go_sem,simprocAttr,h2,h3,h4,h10,h11,h12,hp,q21,q12,eq_self,d1,d2,d0,l0,l40]
       refine Za hck ?_
       simp only [go_sem,simprocAttr,h2,h3,h4,h10,h11,h12,hp,q21,q12,eq_self,d1,d2,d0,l0,l40]
       have hf : E = 0 := by simp [hE,q21,q12,eq_self,d1,d2,d0,l0,l40]
       subst hp
       refine hok hf _ ⟨?_,?_,?_,?_,?_,?_,?_,?_,rfl⟩
       all_goals simp only [go_sem,simprocAttr,h0,h1,h2,h3,h4,h10,h11,h12]
      | true =>
       simp only [go_sem,simprocAttr,h2,h3,h4,h10,h11,h12,hp,q21,q12,eq_self,d1,d2,d0,l0,l40]
       refine Za hck ?_
       simp only [go_sem,simprocAttr,h2,h3,h4,h10,h11,h12,hp,q21,q12,eq_self,d1,d2,d0,l0,l40]
       have hf : E = 3 := by simp [hE,q21,q12,eq_self,d1,d2,d0,l0,l40]
       rw [hR (by omega),hf]
       exact Zb9 _ _
   ·by_cases l0 : N = 0
    ·simp only [go_sem,simprocAttr,h2,h3,h4,h10,h11,h12,hp,q21,q12,eq_self,d1,d2,d0,l0]
     refine Za hck ?_
     simp only [go_sem,simprocAttr,h2,h3,h4,h10,h11,h12,hp,q21,q12,eq_self,d1,d2,d0,l0]
     have hf : E = 1 := by simp [hE,q21,q12,eq_self,d1,d2,d0,l0]
     rw [hR (by omega),hf]
     exact Zb9 _ _
    ·by_cases l40 : 40 ≤ N
     ·cases m with
      | false =>
       simp only [go_sem,simprocAttr,h2,h3,h4,h10,h11,h12,hp,q21,q12,eq_self,d1,d2,d0,l0,l40]
       refine Za hck ?_
       simp only [go_sem,simprocAttr,h2,h3,h4,h10,h11,h12,hp,q21,q12,eq_self,d1,d2,d0,l0,l40]
       have hf : E = 12 := by simp [hE,q21,q12,eq_self,d1,d2,d0,l0,l40]
       rw [hR (by omega),hf]
       exact Zb9 _ _
      | true =>
       simp only [go_sem,simprocAttr,h2,h3,h4,h10,h11,h12,hp,q21,q12,eq_self,d1,d2,d0,l0,l40]
       refine Za hck ?_
       simp only [go_sem,simprocAttr,h2,h3,h4,h10,h11,h12,hp,q21,q12,eq_self,d1,d2,d0,l0,l40]
       have hf : E = 3 := by simp [hE,q21,q12,eq_self,d1,d2,d0,l0,l40]
       rw [hR (by omega),hf]
       exact Zb9 _ _
     ·cases m with
      | false =>
       simp only [go_sem,simprocAttr,h2,h3,h4,h10,h11,h12,hp,q21,q12,eq_self,d1,d2,d0,l0,l40]
       refine Za hck ?_
       simp only [go_sem,simprocAttr,h2,h3,h4,h10,h11,h12,hp,q21,q12,eq_self,d1,d2,d0,l0,l40]
       have hf : E = 0 := by simp [hE,q21,q12,eq_self,d1,d2,d0,l0,l40]
       subst hp
       refine hok hf _ ⟨?_,?_,?_,?_,?_,?_,?_,?_,rfl⟩
       all_goals simp only [go_sem,simprocAttr,h0,h1,h2,h3,h4,h10,h11,h12]
      | true =>
       simp only [go_sem,simprocAttr,h2,h3,h4,h10,h11,h12,hp,q21,q12,eq_self,d1,d2,d0,l0,l40]
       refine Za hck ?_
       simp only [go_sem,simprocAttr,h2,h3,h4,h10,h11,h12,hp,q21,q12,eq_self,d1,d2,d0,l0,l40]
       have hf : E = 3 := by simp [hE,q21,q12,eq_self,d1,d2,d0,l0,l40]
       rw [hR (by omega),hf]
       exact Zb9 _ _
 ·by_cases k2 : kind = 2
  ·subst k2
   by_cases d1 : dev < 0
   ·have d0 : ¬ dev = 0 := by omega
    simp only [go_sem,simprocAttr,h2,h3,h4,h10,h11,h12,hp,q21,q12,k1,d1,d0]
    have hf : E = 1 := by simp [hE,q21,q12,k1,d1,d0]
    rw [hR (by omega),hf]
    exact Zb9 _ _
   by_cases d2 : 8 ≤ dev
   ·have d0 : ¬ dev = 0 := by omega
    simp only [go_sem,simprocAttr,h2,h3,h4,h10,h11,h12,hp,q21,q12,k1,d1,d2,d0]
    have hf : E = 1 := by simp [hE,q21,q12,k1,d1,d2,d0]
    rw [hR (by omega),hf]
    exact Zb9 _ _
   cases ck with
   | false =>
    simp only [go_sem,simprocAttr,h2,h3,h4,h10,h11,h12,hp,q21,q12,k1,d1,d2]
    refine Za hck ?_
    simp only [go_sem,simprocAttr,h2,h3,h4,h10,h11,h12,hp,q21,q12,k1,d1,d2]
    have hf : E = 1 := by simp [hE,q21,q12,k1,d1,d2]
    rw [hR (by omega),hf]
    exact Zb9 _ _
   | true =>
    by_cases d0 : dev = 0
    ·by_cases l0 : N = 0
     ·simp only [go_sem,simprocAttr,h2,h3,h4,h10,h11,h12,hp,q21,q12,k1,d1,d2,d0,l0]
      refine Za hck ?_
      simp only [go_sem,simprocAttr,h2,h3,h4,h10,h11,h12,hp,q21,q12,k1,d1,d2,d0,l0]
      have hf : E = 1 := by simp [hE,q21,q12,k1,d1,d2,d0,l0]
      rw [hR (by omega),hf]
      exact Zb9 _ _
     ·simp only [go_sem,simprocAttr,h2,h3,h4,h10,h11,h12,hp,q21,q12,k1,d1,d2,d0,l0]
      refine Za hck ?_
      simp only [go_sem,simprocAttr,h2,h3,h4,h10,h11,h12,hp,q21,q12,k1,d1,d2,d0,l0]
      have hf : E = 1 := by simp [hE,q21,q12,k1,d1,d2,d0,l0]
      rw [hR (by omega),hf]
      exact Zb9 _ _
    ·by_cases l0 : N = 0
     ·simp only [go_sem,simprocAttr,h2,h3,h4,h10,h11,h12,hp,q21,q12,k1,d1,d2,d0,l0]
      refine Za hck ?_
      simp only [go_sem,simprocAttr,h2,h3,h4,h10,h11,h12,hp,q21,q12,k1,d1,d2,d0,l0]
      have hf : E = 1 := by simp [hE,q21,q12,k1,d1,d2,d0,l0]
      rw [hR (by omega),hf]
      exact Zb9 _ _
     ·by_cases l40 : 40 ≤ N
      ·cases m with
       | false =>
        simp only [go_sem,simprocAttr,h2,h3,h4,h10,h11,h12,hp,q21,q12,k1,d1,d2,d0,l0,l40]
        refine Za hck ?_
        simp only [go_sem,simprocAttr,h2,h3,h4,h10,h11,h12,hp,q21,q12,k1,d1,d2,d0,l0,l40]
        have hf : E = 2 := by simp [hE,q21,q12,k1,d1,d2,d0,l0,l40]
        rw [hR (by omega),hf]
        exact Zb9 _ _
       | true =>
        simp only [go_sem,simprocAttr,h2,h3,h4,h10,h11,h12,hp,q21,q12,k1,d1,d2,d0,l0,l40]
        refine Za hck ?_
        simp only [go_sem,simprocAttr,h2,h3,h4,h10,h11,h12,hp,q21,q12,k1,d1,d2,d0,l0,l40]
        have hf : E = 12 := by simp [hE,q21,q12,k1,d1,d2,d0,l0,l40]
        rw [hR (by omega),hf]
        exact Zb9 _ _
      ·cases m with
       | false =>
        simp only [go_sem,simprocAttr,h2,h3,h4,h10,h11,h12,hp,q21,q12,k1,d1,d2,d0,l0,l40]
        refine Za hck ?_
        simp only [go_sem,simprocAttr,h2,h3,h4,h10,h11,h12,hp,q21,q12,k1,d1,d2,d0,l0,l40]
        have hf : E = 2 := by simp [hE,q21,q12,k1,d1,d2,d0,l0,l40]
        rw [hR (by omega),hf]
        exact Zb9 _ _
       | true =>
        simp only [go_sem,simprocAttr,h2,h3,h4,h10,h11,h12,hp,q21,q12,k1,d1,d2,d0,l0,l40]
        refine Za hck ?_
        simp only [go_sem,simprocAttr,h2,h3,h4,h10,h11,h12,hp,q21,q12,k1,d1,d2,d0,l0,l40]
        have hf : E = 0 := by simp [hE,q21,q12,k1,d1,d2,d0,l0,l40]
        subst hp
        refine hok hf _ ⟨?_,?_,?_,?_,?_,?_,?_,?_,rfl⟩
        all_goals simp only [go_sem,simprocAttr,h0,h1,h2,h3,h4,h10,h11,h12]
  ·simp only [go_sem,simprocAttr,h2,h3,h4,h10,h11,h12,hp,q21,q12,k1,k2]
   have hf : E = 1 := by simp [hE,q21,q12,k1,k2]
   rw [hR (by omega),hf]
   exact Zb9 _ _
theorem Pure.wk_row {P : Program} {f sz : Nat} {more : List AVal} {rows rows' : List (List Cell)} {v : AVal} (h : Pure P f (.c (.lst sz rows') :: more) v) (k : All2 (All2 WkC) rows rows') : Pure P f (.c (.lst sz rows) :: more) v := fun H => (h H).wk_row k
theorem Zvb : ∀ l : List Wrp,Zgt (l.map Wrp.cells) = true
 | [] => rfl
 | w :: l => by simp only [List.map_cons,Zgt,Zvb l,Bool.and_true]; rfl
abbrev boxM : Blk := { sz := 7,rows := [Zbgn],own := true,live := true }
abbrev rowR (n : Int) (pv : ByteArray) (kind dev : Int) (y : Cell) (tag : ByteArray) : List Cell := [.int .i64 n,.str pv,.int .i64 kind,.int .i64 dev,y,.str tag]
abbrev boxR (n : Int) (pv : ByteArray) (kind dev : Int) (y : Cell) (tag : ByteArray) : Blk := { sz := 6,rows := [rowR n pv kind dev y tag],own := true,live := true }
theorem Zbb5 {secret master : ByteArray} {log : List Rec} {kind dev : Int} (hz : Zbn log kind dev = 0) {pre rest : List Int} (hp : Zec = pre ++ rest) (q : Int → Bool) :
  Zcr { Zbk log kind dev with wraps := (pre.filter q).map (Zd4 secret master (Zbk log kind dev)) } = Zcr (Zbk log kind dev) := by
 have hb := Zre hz
 have hs : pre.Pairwise (· < ·) := by
  have h : Zec.Pairwise (· < ·) := by decide
  rw [hp,List.pairwise_append] at h
  exact h.1
 have h8 : ∀ m ∈ pre,0 ≤ m ∧ m < 8 := fun m h => Zw5.1 (by rw [hp]; simp [h])
 refine Z0g hb (Zrl hb rfl rfl rfl rfl (.inr rfl) ?_) rfl rfl rfl rfl
 exact Zs6 _ (fun _ => rfl) (fun m => by rw [Zni]; omega) _ none (hs.filter q) (fun m hm => h8 m (List.mem_filter.1 hm).1) (fun q hq => by cases hq)
theorem Zvj {x : List Cell} (hx : Zb x = true) : ∀ rows : List (List Cell),closedR rows = true → closedR (rows ++ [x]) = true
 | [],_ => by simp [closedR,hx]
 | y :: rows,h => by
  simp only [List.cons_append,closedR,Bool.and_eq_true] at h ⊢
  exact ⟨h.1,Zvj hx rows h.2⟩
set_option maxHeartbeats 4000000 in
theorem Z37 (secret master : ByteArray) (log : List Rec) (kind dev : Int) (hs : secret.size ≤ 1000000) (hm : master.size ≤ 1000000) (h9 : log.length ≤ 100000) (T : Nat → Option AFun) :
  Run (Zt Tryz.prog T) ⟨Zmm.res,fun u E => MadeV (Zb5 secret master log kind dev).cells (Zbn log kind dev) u E⟩ [.code Zmm.body] (Zc3 [sC secret,sC master,.c (Z9 log),iC kind,iC dev]) [] := by
 have hin := Zop log log.length dev
 unfold Zmm
 have hml : ((log.map Rec.cells).length : Int) = (log.length : Int) := by simp
 simp only [Z9] at hin ⊢
 refine Zft (P := fun e H => e 0 = sC secret ∧ e 1 = sC master ∧ e 2 = .c (.lst 6 (log.map Rec.cells)) ∧ e 3 = iC kind ∧ e 4 = iC dev ∧ e 10 = .c (.ptr 0 0 0) ∧ H = [boxM]) (fun K hK => ?_) fun e H h => ?_
 ·simp only [go_sem,simprocAttr]
  refine hK _ _ ⟨?_,?_,?_,?_,?_,?_,rfl⟩
  all_goals simp only [go_sem,simprocAttr]
 obtain ⟨h0,h1,h2,h3,h4,h10,rfl⟩ := h
 refine Zft (P := fun e H => e 0 = sC secret ∧ e 1 = sC master ∧ e 2 = .c (.lst 6 (log.map Rec.cells)) ∧ e 3 = iC kind ∧ e 4 = iC dev ∧ e 10 = .c (.ptr 0 0 0) ∧ e 11 = iC log.length ∧ H = [boxM]) (fun K hK => ?_) fun e' H h => ?_
 ·simp only [go_sem,simprocAttr,h2,hml]
  refine hK _ _ ⟨?_,?_,?_,?_,?_,?_,?_,rfl⟩
  all_goals simp only [go_sem,simprocAttr,h0,h1,h2,h3,h4,h10]
 clear h0 h1 h2 h3 h4 h10
 obtain ⟨h0,h1,h2,h3,h4,h10,h11,rfl⟩ := h
 refine Zft (P := Z8f secret master (log.map Rec.cells) kind dev log.length (memL log log.length dev)) (fun K hK => ?_) fun e2 H h => ?_
 ·simp only [go_sem,simprocAttr,h2,h4,h11]
  refine Za hin ?_
  simp only [go_sem,simprocAttr]
  refine hK _ _ ⟨?_,?_,?_,?_,?_,?_,?_,?_,rfl⟩
  all_goals simp only [go_sem,simprocAttr,h0,h1,h2,h3,h4,h10,h11]
 clear h0 h1 h2 h3 h4 h10 h11 e e'
 rw [Zuh]
 refine Zy4 secret master log kind dev T _ _ e2 H h rfl fun hz e h' => ?_
 have hH := h.2.2.2.2.2.2.2.2
 clear h
 obtain ⟨h0,h1,h2,h3,h4,h10,h11,h12,_⟩ := h'
 subst hH
 clear e2 h12
 have hmr : Zb5 secret master log kind dev = Z1 secret master log kind dev := by unfold Zb5; rw [if_pos hz]
 rw [hmr,hz]
 obtain ⟨z1,z2,z3,z4,z5,z6,z7,z8⟩ := Zic hz
 have hw1 : IntKind.wrap .i64 ((log.length : Int) + 1) = (log.length : Int) + 1 := Zn (by omega)
 have hw2 : IntKind.wrap .i64 ((log.length : Int) - 1) = (log.length : Int) - 1 := Zn (by omega)
 refine Zft (P := fun e H => e 0 = sC secret ∧ e 1 = sC master ∧ e 2 = .c (.lst 6 (log.map Rec.cells)) ∧ e 10 = .c (.ptr 0 0 0) ∧ e 11 = iC log.length ∧ e 13 = .c (.ptr 1 0 0) ∧ H = [boxM,boxR ((log.length : Int) + 1) ⟨#[]⟩ kind dev .nilS ⟨#[]⟩]) (fun K hK => ?_) fun e' H h => ?_
 ·simp only [go_sem,simprocAttr,h3,h4,h11,hw1]
  refine hK _ _ ⟨?_,?_,?_,?_,?_,?_,rfl⟩
  all_goals simp only [go_sem,simprocAttr,h0,h1,h2,h10,h11]
 clear h0 h1 h2 h3 h4 h10 h11 e
 obtain ⟨h0,h1,h2,h10,h11,h13,rfl⟩ := h
 refine Zft (P := fun e H => e 0 = sC secret ∧ e 1 = sC master ∧ e 2 = .c (.lst 6 (log.map Rec.cells)) ∧ e 10 = .c (.ptr 0 0 0) ∧ e 11 = iC log.length ∧ e 13 = .c (.ptr 1 0 0) ∧ H = [boxM,boxR ((log.length : Int) + 1) (Z4 log) kind dev .nilS ⟨#[]⟩]) (fun K hK => ?_) fun e H h => ?_
 ·by_cases hn : log = []
  ·have hpos : ¬ ((0 : Int) < (log.length : Int)) := by rw [hn]; simp
   have hp0 : Z4 log = ⟨#[]⟩ := by rw [hn]; rfl
   rw [hp0] at hK
   simp only [go_sem,simprocAttr,h11,hpos]
   refine hK _ _ ⟨?_,?_,?_,?_,?_,?_,rfl⟩
   all_goals simp only [go_sem,simprocAttr,h0,h1,h2,h10,h11,h13]
  ·obtain ⟨l,hl1,hl2⟩ := Zwv hn
   have hpos : (0 : Int) < (log.length : Int) := by have := List.length_pos_iff.2 hn; omega
   have hti : ((log.length : Int) - 1).toNat = log.length - 1 := by omega
   have hge : (0 : Int) ≤ (log.length : Int) - 1 := by omega
   have hhash := Zpm l
   rw [hl2] at hhash
   have hlen6 : l.cells.length = 6 := rfl
   have htk6 : l.cells.take 6 = l.cells := rfl
   have hix : ∀ H : Heap,vIx 6 (.c (.lst 6 (log.map Rec.cells))) (iC ((log.length : Int) - 1)) H = some (.c (.fp l.cells 0),H) := fun H => by
    simp only [vIx]
    rw [if_pos ⟨trivial,hge⟩,hti,hl1]
   simp only [go_sem,simprocAttr,h2,h11,hpos,hw2,hix,hlen6,htk6]
   refine Za hhash ?_
   simp only [go_sem,simprocAttr,h13]
   refine hK _ _ ⟨?_,?_,?_,?_,?_,?_,rfl⟩
   all_goals simp only [go_sem,simprocAttr,h0,h1,h2,h10,h11,h13]
 clear h0 h1 h2 h10 h11 h13 e'
 obtain ⟨h0,h1,h2,h10,h11,h13,rfl⟩ := h
 have hcb : Zb (rowR ((log.length : Int) + 1) (Z4 log) kind dev .nilS ⟨#[]⟩) = true := rfl
 have hinB := fun d : Int => Zop (log ++ [Zbk log kind dev]) ((log.length : Int) + 1) d
 have hbc : (Zbk log kind dev).cells = [.int .i64 ((log.length : Int) + 1),.str (Z4 log),.int .i64 kind,.int .i64 dev,.lst 2 [],.str ⟨#[]⟩] := rfl
 have hinB' : ∀ d : Int,Pr 18 [.c (.lst 6 (log.map Rec.cells ++ [rowR ((log.length : Int) + 1) (Z4 log) kind dev .nilS ⟨#[]⟩])),iC ((log.length : Int) + 1),iC d] (bC (memL (log ++ [Zbk log kind dev]) ((log.length : Int) + 1) d)) := fun d => by
  have := hinB d
  simp only [Z9] at this
  rw [← Z0i,hbc] at this
  exact this.wk_row (Zzo (.cons (.same _) (.cons (.same _) (.cons (.same _) (.cons (.same _) (.cons (.nilS _) (.cons (.same _) .nil)))))) _)
 have hrow2 : closedR (log.map Rec.cells ++ [rowR ((log.length : Int) + 1) (Z4 log) kind dev .nilS ⟨#[]⟩]) = true := Zvj hcb _ (Zb8 log)
 have hhead := fun pre rest (hp : Zec = pre ++ rest) => Zbb5 (secret := secret) (master := master) hz hp (memL (log ++ [Zbk log kind dev]) ((log.length : Int) + 1))
 have hhd := fun ws : List Wrp => Z6c { Zbk log kind dev with wraps := ws }
 have hhs := Zq3 (Zbk log kind dev)
 have hep := Zka secret (log.length + 1) hs (by omega)
 have hen : ((log.length + 1 : Nat) : Int) = (log.length : Int) + 1 := by omega
 rw [hen] at hep
 have hno := Z42 ((log.length : Int) + 1)
 have hown := fun k : Nat => fun hk : k < 8 => Zxs master k hm (by omega)
 have hwrp := fun k : Nat => Z62 (ownK master k) (by rw [Zs9]; omega)
 have hseal := fun k : Nat => Z8a (Zdc (ownK master k)) (Zc6 ((log.length : Int) + 1)) (Zcr (Zbk log kind dev)) (Zbu secret ((log.length : Int) + 1)) hhs
 have htag := Z9a (Zbu secret log.length) (Zds secret master log kind dev) (by rw [Zfw]; omega)
 have hepl := Zka secret log.length hs (by omega)
 have hnc := Zzh secret master log kind dev
 have hnc0 := Zwb secret master log kind dev
 have hms : Zcc (log ++ [Zbk log kind dev]) ((log.length : Int) + 1) = Zec.filter (memL (log ++ [Zbk log kind dev]) ((log.length : Int) + 1)) := rfl
 rw [Zlx,hms] at htag hnc0
 rw [hms] at hnc
 have hwf : ∀ m,Zd4 secret master (Zbk log kind dev) m = ⟨m,Zc4 (Zdc (ownK master m)) (Zc6 ((log.length : Int) + 1)) (Zcr (Zbk log kind dev)) (Zbu secret ((log.length : Int) + 1))⟩ := fun m => rfl
 have hhd' : ∀ ws : List Wrp,Pr 75 [.agg (rowR ((log.length : Int) + 1) (Z4 log) kind dev (.lst 2 (ws.map Wrp.cells)) ⟨#[]⟩)] (sC (Zcr { Zbk log kind dev with wraps := ws })) := hhd
 clear hhd hinB hms
 have hhd2 : ∀ pre rest,Zec = pre ++ rest → Pr 75 [.agg (rowR ((log.length : Int) + 1) (Z4 log) kind dev (.lst 2 (((pre.filter (memL (log ++ [Zbk log kind dev]) ((log.length : Int) + 1))).map (Zd4 secret master (Zbk log kind dev))).map Wrp.cells)) ⟨#[]⟩)] (sC (Zcr (Zbk log kind dev))) := fun pre rest hp => by
  have := hhd' ((pre.filter (memL (log ++ [Zbk log kind dev]) ((log.length : Int) + 1))).map (Zd4 secret master (Zbk log kind dev)))
  rw [hhead pre rest hp] at this
  exact this
 clear hhd' hhead
 generalize Zcr (Zbk log kind dev) = hd at hhd2 hhs hseal hwf
 generalize tagR (Zbu secret log.length) (Zds secret master log kind dev) = TG at htag hnc
 generalize Zd4 secret master (Zbk log kind dev) = wf at htag hnc hnc0 hwf hhd2
 generalize memL (log ++ [Zbk log kind dev]) ((log.length : Int) + 1) = mq at htag hnc hnc0 hhd2 hinB'
 generalize Z4 log = pv at *
 generalize Zbu secret ((log.length : Int) + 1) = ek at hep hseal hwf
 generalize Zc6 ((log.length : Int) + 1) = nn at hno hseal hwf
 generalize Zbu secret log.length = el at htag hepl
 have hclw : ∀ l : List Wrp,closedR (l.map Wrp.cells) = true := Zjm
 have hlt : ∀ H : Heap,mkF H (vLit 6 1 (some [rowR ((log.length : Int) + 1) pv kind dev .nilS ⟨#[]⟩]) H) = some (.c (.lst 6 [rowR ((log.length : Int) + 1) pv kind dev .nilS ⟨#[]⟩])) := fun H => Zhu rfl
 have hap : ∀ H : Heap,Zer 6 80 (.c (.zer 6)) (.c (.lst 6 (log.map Rec.cells))) H = some (Zd1 6 (log.map Rec.cells) H,Zeo 6 (log.map Rec.cells) H) := fun H => Zbee (by simp; omega)
 have loop : ∀ (rest pre : List Int) (y : Cell) (e : Env) (H : Heap),Zec = pre ++ rest → e 0 = sC secret → e 1 = sC master → e 10 = .c (.ptr 0 0 0) → e 11 = iC log.length → e 13 = .c (.ptr 1 0 0) → e 14 = .c (.lst 6 (log.map Rec.cells ++ [rowR ((log.length : Int) + 1) pv kind dev .nilS ⟨#[]⟩])) → e 15 = iC pre.length →
   H[0]? = some boxM → H[1]? = some (boxR ((log.length : Int) + 1) pv kind dev y ⟨#[]⟩) → Acc 2 (((pre.filter mq).map wf).map Wrp.cells) (.c y) H →
   Run (Zt Tryz.prog T) ⟨[.cell 10 true 7],fun u E => MadeV (Z1 secret master log kind dev).cells 0 u E⟩ [.loop Zkw,.blk 1,.code Zpd] e H := by
  intro rest
  induction rest with
  | nil =>
   intro pre y e H hp h0 h1 h10 h11 h13 h14 h15 b0 b1 ha
   have hpl : pre.length = 8 := by have := congrArg List.length hp; simpa [Zec] using this.symm
   have hc : ¬ ((pre.length : Int) < 8) := by omega
   rw [List.append_nil] at hp
   rw [← hp] at ha
   have n0 : NB (.c y) 0 := ha.nb_sz b0 (by show (7 : Nat) ≠ 2; decide)
   have n1 : NB (.c y) 1 := ha.nb_sz b1 (by show (6 : Nat) ≠ 2; decide)
   refine Zi ?_
   conv => enter [3,1]; unfold Zkw
   simp only [go_sem,simprocAttr,h15,hc]
   unfold Zpd
   have hpw : ∀ l : List Wrp,Zgt (l.map Wrp.cells) = true := Zvb
   by_cases hl0 : log.length = 0
   ·have c1 : ¬ ((0 : Int) < (log.length : Int)) := by omega
    rw [hnc0 hl0]
    have e1 := ha.set_nb (b := 0) (B := { sz := 7,rows := [[.int .i64 ((log.length : Int) + 1),.str pv,.int .i64 kind,.int .i64 dev,y,.str ⟨#[]⟩,.int .i64 0]],own := true,live := true }) n0
    simp only [go_sem,simprocAttr,h10,h11,h13,Zu b1,c1,Zu b0,Zdp b0,Zex b0]
    simp only [go_sem,simprocAttr,h10,Zu (Zw b0)]
    exact ⟨_,_,_,_,_,y,_,rfl,rfl,hpw _,rfl,e1⟩
   ·have c1 : ((0 : Int) < (log.length : Int)) := by omega
    rw [hnc hl0]
    obtain ⟨x,hx1,hx2,hx3,hx4⟩ := Znb ha (hclw _) ((log.length : Int) + 1) kind dev pv ⟨#[]⟩
    have htg : Pr 35 [sC el,.agg [.int .i64 ((log.length : Int) + 1),.str pv,.int .i64 kind,.int .i64 dev,x,.str ⟨#[]⟩]] (sC TG) := htag.wk (.cons (.same _) (.cons hx4 .nil))
    simp only [go_sem,simprocAttr,h0,h11,c1]
    refine Za hepl ?_
    simp only [go_sem,simprocAttr,h13,Zu b1]
    refine Zfj htg (by simp only [Zd,List.map_nil,List.append_nil,List.cons_append,List.nil_append,hx3]; simp [Zf,Ze,Zk,Zg,Zh,Zd,Zc,Zb]) rfl ?_
    obtain ⟨s1,s0⟩ := Z7h b0 b1 (boxR ((log.length : Int) + 1) pv kind dev y TG)
    have e1 := (ha.set_nb (b := 1) (B := boxR ((log.length : Int) + 1) pv kind dev y TG) n1).set_nb (b := 0) (B := { sz := 7,rows := [[.int .i64 ((log.length : Int) + 1),.str pv,.int .i64 kind,.int .i64 dev,y,.str TG,.int .i64 0]],own := true,live := true }) n0
    simp only [go_sem,simprocAttr,h10,h13,Zu b1,Zdp b1,Zex b1]
    simp only [go_sem,simprocAttr,h10,h13,Zu s1,Zu s0,Zdp s0,Zex s0,Zu (Zw s0)]
    exact ⟨_,_,_,_,_,y,_,rfl,rfl,hpw _,rfl,e1⟩
  | cons d rest ih =>
   intro pre y e H hp h0 h1 h10 h11 h13 h14 h15 b0 b1 ha
   have hpl : pre.length < 8 := by have := congrArg List.length hp; simp [Zec] at this; omega
   have hc : ((pre.length : Int) < 8) := by omega
   have hd' : d = (pre.length : Int) := by
    have h1 : Zec[pre.length]? = some d := by rw [hp]; simp
    rw [Zzx _ hpl] at h1
    injection h1 with h1
    exact h1.symm
   have hn : IntKind.wrap .i64 ((pre.length : Int) + 1) = ((pre.length + 1 : Nat) : Int) := by rw [Zn (by omega)]; omega
   have hf := List.filter_append (p := mq) pre [d]
   have hind := hinB' d
   rw [hd'] at hind
   refine Zi ?_
   conv => enter [3,1]; unfold Zkw
   simp only [go_sem,simprocAttr,h11,h14,h15,hc,hw1]
   refine Za hind ?_
   cases hmq : mq (pre.length : Int) with
   | false =>
    simp only [go_sem,simprocAttr,h15,hn]
    refine ih (pre ++ [d]) y _ _ (by rw [hp]; simp) ?_ ?_ ?_ ?_ ?_ ?_ ?_ b0 b1 ?_
    ·simp only [go_sem,simprocAttr,h0]
    ·simp only [go_sem,simprocAttr,h1]
    ·simp only [go_sem,simprocAttr,h10]
    ·simp only [go_sem,simprocAttr,h11]
    ·simp only [go_sem,simprocAttr,h13]
    ·simp only [go_sem,simprocAttr,h14]
    ·simp only [go_sem,simprocAttr,hn]; simp
    ·rw [hf]
     have : [d].filter mq = [] := by rw [hd']; simp [hmq]
     rw [this,List.append_nil]
     exact ha
   | true =>
    have howk := hown pre.length hpl
    have hwk := hwrp pre.length
    have hsk := hseal pre.length
    have hwfk := hwf (pre.length : Int)
    have hhdp := hhd2 pre (d :: rest) hp
    generalize Zc4 (Zdc (ownK master pre.length)) nn hd ek = bx at hsk hwfk
    generalize Zdc (ownK master pre.length) = wk at hwk hsk
    generalize ownK master pre.length = ok at howk hwk
    have hlk : ∀ H : Heap,mkF H (vLit 2 1 (some [[.int .i64 (pre.length : Int),.str bx]]) H) = some (.c (.lst 2 [[.int .i64 (pre.length : Int),.str bx]])) := fun H => Zhu rfl
    obtain ⟨x,hx1,hx2,hx3,hx4⟩ := Znb ha (hclw _) ((log.length : Int) + 1) kind dev pv ⟨#[]⟩
    have hhx := hhdp.wk (.cons hx4 .nil)
    have hpl2 : (pre.filter mq).length ≤ 8 := Nat.le_trans (List.length_filter_le _ _) (by omega)
    simp only [go_sem,simprocAttr,h1,h13,h15,Zu b1]
    refine Za howk ?_
    simp only [go_sem,simprocAttr]
    refine Za hwk ?_
    simp only [go_sem,simprocAttr,h13,Zu b1]
    refine Za hno ?_
    simp only [go_sem,simprocAttr,h13,Zu b1]
    refine Zfj hhx (by simp only [Zd,List.map_nil,List.append_nil,List.cons_append,List.nil_append,hx3]) rfl ?_
    simp only [go_sem,simprocAttr,h0,h13,Zu b1]
    refine Za hep ?_
    simp only [go_sem,simprocAttr]
    refine Za hsk ?_
    simp only [go_sem,simprocAttr,hlk]
    have n0 : NB (.c y) 0 := ha.nb_sz b0 (by show (7 : Nat) ≠ 2; decide)
    have n1 : NB (.c y) 1 := ha.nb_sz b1 (by show (6 : Nat) ≠ 2; decide)
    refine Acc.app_keep ha (by simp; omega) fun v' H' ha' keep => ?_
    obtain ⟨b0',m0'⟩ := keep 0 _ n0 b0
    obtain ⟨b1',m1'⟩ := keep 1 _ n1 b1
    obtain ⟨b6,ext6,rfl,_,h6⟩ := ha'.slc (by simp)
    simp only [go_sem,simprocAttr,h13,Zu b1',Zdp b1',Zex b1',h15,hn]
    have hrw : (((pre.filter mq).map wf).map Wrp.cells) ++ [[.int .i64 (pre.length : Int),.str bx]] = (((pre ++ [d]).filter mq).map wf).map Wrp.cells := by
     have : [d].filter mq = [d] := by rw [hd']; simp [hmq]
     rw [hf,this,Z01,hd',hwfk]
    refine ih (pre ++ [d]) _ _ _ (by rw [hp]; simp) ?_ ?_ ?_ ?_ ?_ ?_ ?_ (Zo b0' (by omega)) (Zw b1') ?_
    ·simp only [go_sem,simprocAttr,h0]
    ·simp only [go_sem,simprocAttr,h1]
    ·simp only [go_sem,simprocAttr,h10]
    ·simp only [go_sem,simprocAttr,h11]
    ·simp only [go_sem,simprocAttr,h13]
    ·simp only [go_sem,simprocAttr,h14]
    ·simp only [go_sem,simprocAttr,hn]; simp
    ·rw [← hrw]; exact ha'.set_nb m1'
 have a1 := Z0m 6 (log.map Rec.cells) [boxM,boxR ((log.length : Int) + 1) pv kind dev .nilS ⟨#[]⟩]
 have p1 := Zsr 6 (log.map Rec.cells) [boxM,boxR ((log.length : Int) + 1) pv kind dev .nilS ⟨#[]⟩]
 have n0 : NB (Zd1 6 (log.map Rec.cells) [boxM,boxR ((log.length : Int) + 1) pv kind dev .nilS ⟨#[]⟩]) 0 := Zrq _ _ (by simp)
 have n1 : NB (Zd1 6 (log.map Rec.cells) [boxM,boxR ((log.length : Int) + 1) pv kind dev .nilS ⟨#[]⟩]) 1 := Zrq _ _ (by simp)
 have q0 : (Zeo 6 (log.map Rec.cells) [boxM,boxR ((log.length : Int) + 1) pv kind dev .nilS ⟨#[]⟩])[0]? = some boxM := Zp8 p1 rfl
 have q1 : (Zeo 6 (log.map Rec.cells) [boxM,boxR ((log.length : Int) + 1) pv kind dev .nilS ⟨#[]⟩])[1]? = some (boxR ((log.length : Int) + 1) pv kind dev .nilS ⟨#[]⟩) := Zp8 p1 rfl
 simp only [go_sem,simprocAttr,h2,hap]
 generalize Zd1 6 (log.map Rec.cells) [boxM,boxR ((log.length : Int) + 1) pv kind dev .nilS ⟨#[]⟩] = V1 at a1 n0 n1 ⊢
 generalize Zeo 6 (log.map Rec.cells) [boxM,boxR ((log.length : Int) + 1) pv kind dev .nilS ⟨#[]⟩] = H1 at a1 q0 q1 ⊢
 simp only [go_sem,simprocAttr,h13,Zu q1,hlt]
 refine Acc.app_keep a1 (by simp; omega) fun V2 H2 a2 k2 => ?_
 obtain ⟨q0',m0⟩ := k2 0 _ n0 q0
 obtain ⟨q1',m1⟩ := k2 1 _ n1 q1
 simp only [go_sem,simprocAttr]
 refine Acc.fz_keep (sz := 6) (rows := log.map Rec.cells ++ [rowR ((log.length : Int) + 1) pv kind dev .nilS ⟨#[]⟩]) (by simp only [go_sem,simprocAttr]; exact a2) fun e' G k14 kc kp kb kl => ?_
 have g0 := kc 0 (sC secret) (by simp only [go_sem,simprocAttr,h0]) rfl (by omega)
 have g1 := kc 1 (sC master) (by simp only [go_sem,simprocAttr,h1]) rfl (by omega)
 have g11 := kc 11 (iC log.length) (by simp only [go_sem,simprocAttr,h11]) rfl (by omega)
 have g10 := kp 10 0 0 0 (by simp only [go_sem,simprocAttr,h10]) (by simp only [go_sem,simprocAttr]; exact m0)
 have g13 := kp 13 1 0 0 (by simp only [go_sem,simprocAttr,h13]) (by simp only [go_sem,simprocAttr]; exact m1)
 have b0 := kb 0 _ q0' (by simp only [go_sem,simprocAttr]; exact m0)
 have b1 := kb 1 _ q1' (by simp only [go_sem,simprocAttr]; exact m1)
 simp only [go_sem,simprocAttr]
 refine loop Zec [] .nilS _ _ rfl ?_ ?_ ?_ ?_ ?_ ?_ ?_ b0 b1 .nil
 all_goals simp only [go_sem,simprocAttr,List.length_nil,Int.natCast_zero,g0,g1,g10,g11,g13,k14]
theorem Z4i (secret master : ByteArray) (log : List Rec) (kind dev : Int) (hs : secret.size ≤ 1000000) (hm : master.size ≤ 1000000) (h9 : log.length ≤ 100000) :
  ∃ v E,CallSound Tryz.prog 30 [sC secret,sC master,.c (Z9 log),iC kind,iC dev] [] v E ∧ MadeV (Zb5 secret master log kind dev).cells (Zbn log kind dev) v E :=
 Zkj mixed Z6t (Z37 secret master log kind dev hs hm h9)
theorem MadeV.new {cs : List Cell} {n : Int} {u : AVal} {E : Heap} (h : MadeV cs n u E) : NewA E u (.agg (cs ++ [.int .i64 n])) := by
 obtain ⟨a,b,c,d,t,y,rows,rfl,hp,hr,rfl,hacc⟩ := h
 simp only [Zez,Bool.and_eq_true,Bool.and_true] at hp
 obtain ⟨h1,h2,h3,h4,h5⟩ := hp
 exact .agg (.cons (.inl ⟨h1,rfl⟩) (.cons (.inl ⟨h2,rfl⟩) (.cons (.inl ⟨h3,rfl⟩) (.cons (.inl ⟨h4,rfl⟩) (.cons (.inr ⟨2,rows,rfl,hacc,hr⟩) (.cons (.inl ⟨h5,rfl⟩) (.cons (.inl ⟨rfl,rfl⟩) .nil)))))))
theorem Zv9 (secret master : ByteArray) (log : List Rec) (kind dev : Int) (hs : secret.size ≤ 1000000) (hm : master.size ≤ 1000000) (h9 : log.length ≤ 100000) {H : Heap} {args : List AVal} (ha : Zd H args = some [sC secret,sC master,.c (Z9 log),iC kind,iC dev]) :
  CallSound Tryz.prog 30 args H (.agg (Zle (Zb5 secret master log kind dev) (Zbn log kind dev))) H := by
 obtain ⟨v,E,h1,h2⟩ := Z4i secret master log kind dev hs hm h9
 exact h1.freshV h2.new ha
theorem Z6d (secret master : ByteArray) (log : List Rec) (kind dev : Int) (hs : secret.size ≤ 1000000) (hm : master.size ≤ 1000000) (h9 : log.length ≤ 100000) :
  Pr 30 [sC secret,sC master,.c (Z9 log),iC kind,iC dev] (.agg (Zle (Zb5 secret master log kind dev) (Zbn log kind dev))) := fun H =>
 Zv9 secret master log kind dev hs hm h9 (by simp [Zd,Zf,Ze,Zk,Zc,Z9,Zb8])
def Wrp.ok (w : Wrp) : Prop := w.box.size ≤ maxLen
def Rec.ok (r : Rec) : Prop := r.prev.size ≤ maxLen ∧ r.tag.size ≤ maxLen ∧ r.wraps.length ≤ maxLen ∧ ∀ w ∈ r.wraps,w.ok
def EKey.ok (k : EKey) : Prop := k.key.size ≤ maxLen
theorem Zn8 (n : Int) : Pr 19 [iC n] (iC n) := by
 refine Zl mixed Zbaq rfl fun hl T => ?_
 unfold Z5f
 simp only [go_sem,simprocAttr]
 simp [Zf,Ze,Zk,Zg,Zh,Zd,Zc,Zb]
abbrev exS : ByteArray := ⟨#[115]⟩
abbrev exM : ByteArray := ⟨#[109]⟩
theorem Z63 (secret master : ByteArray) (log : List Rec) (kind dev : Int) : ∀ w ∈ (Z1 secret master log kind dev).wraps,w.box.size = 48 := fun w hw => by
 rw [Zxk] at hw
 obtain ⟨m,_,rfl⟩ := List.mem_map.1 hw
 exact Zni _ _
theorem Z40 : Pr 15 [] (bC true) := by
 have z1 : Zbn [] 2 1 = 1 := by decide
 have r1 : Zb5 exS exM [] 2 1 = Zqv := by unfold Zb5; rw [if_neg (by rw [z1]; omega)]
 have m1 := Zj0 exS exM [] 2 1 (by decide) (by decide) (by simp)
 rw [z1,r1] at m1
 have r2 : Zb5 exS exM [] 1 0 = Z1 exS exM [] 1 0 := by unfold Zb5; rw [if_pos Zhx]
 have m2 := Zj0 exS exM [] 1 0 (by decide) (by decide) (by simp)
 rw [Zhx,r2] at m2
 have m1' : Pr 17 [sC exS,sC exM,.c .nilS,iC 2,iC 1] (.tup [.agg Zqv.cells,iC 1]) := m1.wk (.cons (.same _) (.cons (.same _) (.cons (.c (.nilS _)) (.cons (.same _) (.cons (.same _) .nil)))))
 have m2' : Pr 17 [sC exS,sC exM,.c .nilS,iC 1,iC 0] (.tup [.agg (Z1 exS exM [] 1 0).cells,iC 0]) := m2.wk (.cons (.same _) (.cons (.same _) (.cons (.c (.nilS _)) (.cons (.same _) (.cons (.same _) .nil)))))
 have hch : Chain exS exM [Z1 exS exM [] 1 0] := .snoc .nil Zhx
 have hmem := hch.zero (by simp)
 have hop := Zbbo (secret := exS) (master := exM) Zhx 0
 have hl : (([] : List Rec).length : Int) + 1 = 1 := by decide
 have hl1 : (([Z1 exS exM [] 1 0] : List Rec).length : Int) = 1 := rfl
 rw [hl1] at hmem
 rw [hl,List.nil_append,if_pos hmem] at hop
 have hown := Zxs exM 0 (by decide) (by omega)
 have hopn := Z3h (ownK exM 0) (Z1 exS exM [] 1 0) 0 (by rw [Zs9]; omega) (fun w hw => by rw [Z63 _ _ _ _ _ w hw]; omega)
 rw [hop] at hopn
 have hep := Zka exS 1 (by decide) (by omega)
 have hcl := Rec.closed (Z1 exS exM [] 1 0)
 have n0 : ((0 : Nat) : Int) = 0 := rfl
 have n1 : ((1 : Nat) : Int) = 1 := rfl
 rw [n0] at hown
 rw [n1] at hep
 have num1 := Zn8 1
 have num0 := Zn8 0
 generalize Zbu exS 1 = ek at hopn hep
 generalize ownK exM 0 = ok at hown hopn
 clear hop hmem hch m1 m2 r1 r2
 generalize Z1 exS exM [] 1 0 = R at *
 refine Zl mixed Z5g rfl fun hl T => ?_
 unfold Zv0
 obtain ⟨seq,prev,kind,dv,wraps,tag⟩ := R
 simp only [Rec.cells,Zqv,Z8,List.map_nil] at m1' m2' hopn hcl
 simp only [go_sem,simprocAttr]
 refine Za m1' ?_
 simp only [go_sem,simprocAttr]
 refine Za m2' ?_
 simp only [go_sem,simprocAttr]
 refine Za hown ?_
 simp only [go_sem,simprocAttr]
 refine Za hopn ?_
 simp only [go_sem,simprocAttr,optS,Option.isSome,Option.getD]
 refine Za num1 ?_
 simp only [go_sem,simprocAttr]
 refine Za num0 ?_
 simp only [go_sem,simprocAttr]
 refine Za hep ?_
 simp only [go_sem,simprocAttr]
 simp [Zf,Ze,Zk,Zg,Zh,Zd,Zc,Zb]
theorem Zw1 (a b : Nat) : (a : Int).tmod (b : Int) = ((a % b : Nat) : Int) := by rw [Int.tmod_eq_emod_of_nonneg (by omega)]; omega
abbrev u8sC (us : List UInt8) : Cell := .lst 1 (us.map Zs)
theorem Zyi (us : List UInt8) : closedR (us.map Zs) = true := Zcg (f := Zs) (fun _ => rfl) us
set_option maxHeartbeats 1000000 in
theorem Z85 (secret master : ByteArray) (us : List UInt8) (hs : secret.size ≤ 1000000) (hm : master.size ≤ 1000000) : Pr 16 [sC secret,sC master,.c (u8sC us)] (.c (Z9 (Zuu secret master us))) := by
 have hmk := fun (log : List Rec) (kind dev : Int) (h : log.length ≤ 100000) => @Zv9 secret master log kind dev hs hm h
 have hin := fun (log : List Rec) (dev : Int) => Zop log log.length dev
 refine Zl mixed Z9y (by simp [Zr,Zp,Zc,Zyi]) fun hl T => ?_
 have hlen : us.length ≤ maxLen := by simp [Zgn,lenA,lenC] at hl; exact hl
 clear hl
 unfold Z1d
 obtain ⟨R,hR⟩ : ∃ R,R = Z9 (Zuu secret master us) := ⟨_,rfl⟩
 rw [← hR]
 have hul : ((us.map Zs).length : Int) = (us.length : Int) := by simp
 have m0 := Z6d secret master [] 1 0 hs hm (by simp)
 have m0' : Pr 30 [sC secret,sC master,.c .nilS,iC 1,iC 0] (.agg (Zle (Zb5 secret master [] 1 0) (Zbn [] 1 0))) := m0.wk (.cons (.same _) (.cons (.same _) (.cons (.c (.nilS _)) (.cons (.same _) (.cons (.same _) .nil)))))
 have tail : ∀ (log : List Rec) (e : Env) (H : Heap),Z9 log = R → log ≠ [] → Acc 6 (log.map Rec.cells) (e 7) H → Run (Zt Tryz.prog T) ⟨[.tmp 6],fun u E => Zf E u = some (.c R)⟩ [.code Zhv] e H := by
  intro log e H hlr hne ha
  unfold Zhv
  simp only [go_sem,simprocAttr]
  rw [← hlr]
  exact ha.view_ne (by simpa using hne) (Zb8 log)
 have loop : ∀ (rest pre : List UInt8) (log : List Rec) (e : Env) (H : Heap),us = pre ++ rest → Z9 (Zk6 secret master log rest) = R → log ≠ [] → log.length ≤ 8 → e 0 = sC secret → e 1 = sC master → e 2 = .c (u8sC us) → e 8 = iC pre.length → Acc 6 (log.map Rec.cells) (e 7) H →
   Run (Zt Tryz.prog T) ⟨[.tmp 6],fun u E => Zf E u = some (.c R)⟩ [.loop Zia,.blk 0,.code Zhv] e H := by
  intro rest
  induction rest with
  | nil =>
   intro pre log e H hp hlr hne h8 h0 h1 h2 h8' ha
   have hc : ¬ ((pre.length : Int) < (us.length : Int)) := by rw [hp]; simp
   refine Zi ?_
   conv => enter [3,1]; unfold Zia
   simp only [go_sem,simprocAttr,h2,h8',hul,hc]
   refine tail log _ _ hlr hne ?_
   simp only [go_sem,simprocAttr]
   exact ha
  | cons u rest ih =>
   intro pre log e H hp hlr hne h8 h0 h1 h2 h8' ha
   have hc : ((pre.length : Int) < (us.length : Int)) := by rw [hp]; simp; omega
   have hu : (us.map Zs)[pre.length]? = some [.int .u8 (u.toNat : Int)] := by rw [hp]; simp [Zs]
   have hn := Zcy hp hlen
   have hal := fun H' : Heap => ha.len (H' := H')
   have hll : ((log.map Rec.cells).length : Int) = (log.length : Int) := by simp
   unfold Zk6 at hlr
   refine Zi ?_
   conv => enter [3,1]; unfold Zia
   by_cases c8 : log.length < 8
   ·have c8' : ((log.length : Int) < 8) := by omega
    rw [if_pos c8] at hlr
    have hdev : Zha u = 1 + ((u.toNat % 4 : Nat) : Int) := rfl
    have h4 : (u.toNat : Int).tmod 4 = ((u.toNat % 4 : Nat) : Int) := by
     have := Zw1 u.toNat 4
     simpa using this
    have hu8 := u.toNat_lt
    have hw0 : IntKind.wrap .i64 (u.toNat : Int) = (u.toNat : Int) := Zn (by omega)
    have hw1 : IntKind.wrap .i64 ((u.toNat % 4 : Nat) : Int) = ((u.toNat % 4 : Nat) : Int) := Zn (by omega)
    have hw2 : IntKind.wrap .i64 (1 + ((u.toNat % 4 : Nat) : Int)) = 1 + ((u.toNat % 4 : Nat) : Int) := Zn (by omega)
    have hview := ha.view_ne (by simpa using hne) (Zb8 log)
    have hind := hin log (Zha u)
    rw [hdev] at hind hlr
    unfold Zp2 at hlr
    simp only [Z9] at hind
    have hgo : ∀ (k : Int) (e' : Env),k = (if memL log log.length (1 + ((u.toNat % 4 : Nat) : Int)) = true then 2 else 1) → e' 0 = sC secret → e' 1 = sC master → e' 2 = .c (u8sC us) → e' 7 = e 7 → e' 8 = iC pre.length → e' 9 = iC (1 + ((u.toNat % 4 : Nat) : Int)) → e' 10 = iC k → True := fun _ _ _ _ _ _ _ _ _ _ => trivial
    have fin : ∀ (k : Int),k = (if memL log log.length (1 + ((u.toNat % 4 : Nat) : Int)) = true then 2 else 1) → CallSound Tryz.prog 30 ([sC secret,sC master,e 7,iC k,iC (1 + ((u.toNat % 4 : Nat) : Int))] ++ List.map AVal.c []) H (.agg (Zle (Zb5 secret master log k (1 + ((u.toNat % 4 : Nat) : Int))) (Zbn log k (1 + ((u.toNat % 4 : Nat) : Int))))) H := fun k _ =>
     hmk log k _ (by omega) (by simp [Zd,hview,Zf,Ze,Zk,Zc,Z9])
    clear hgo
    have step : ∀ (k ME : Int) (MR : Rec),Z9 (Zk6 secret master (log ++ [MR]) rest) = R → CallSound Tryz.prog 30 ([sC secret,sC master,e 7,iC k,iC (1 + ((u.toNat % 4 : Nat) : Int))] ++ List.map AVal.c []) H (.agg (Zle MR ME)) H →
      ∀ (v' : AVal) (e' : Env) (H' : Heap),Acc 6 (log.map Rec.cells ++ [MR.cells]) v' H' → e' 0 = sC secret → e' 1 = sC master → e' 2 = .c (u8sC us) → e' 8 = iC ((pre ++ [u]).length : Int) → e' 7 = v' →
      Run (Zt Tryz.prog T) ⟨[.tmp 6],fun u E => Zf E u = some (.c R)⟩ [.loop Zia,.blk 0,.code Zhv] e' H' := fun k ME MR hlr _ v' e' H' ha' g0 g1 g2 g8 g7 =>
     ih (pre ++ [u]) (log ++ [MR]) e' H' (by rw [hp]; simp) hlr (by simp) (by simp; omega) g0 g1 g2 g8 (by rw [g7,List.map_append]; exact ha')
    simp only [go_sem,simprocAttr,h2,h8',hul,hc,hal,hll,c8',hu,hw0,h4,hw1,hw2]
    refine Zfj hind (by simp [Zd,hview,Zf,Ze,Zk,Zc]) rfl ?_
    cases hmm : memL log log.length (1 + ((u.toNat % 4 : Nat) : Int)) with
    | true =>
     rw [hmm] at hlr fin
     simp only [if_true] at hlr fin
     have f2 := fin 2 rfl
     have st := step 2 _ _ hlr f2
     generalize Zbn log 2 (1 + ((u.toNat % 4 : Nat) : Int)) = ME at f2
     generalize Zb5 secret master log 2 (1 + ((u.toNat % 4 : Nat) : Int)) = MR at f2 st
     have hcl := Rec.closed MR
     clear step fin hlr
     obtain ⟨seq,prev,kd,dv,wraps,tag⟩ := MR
     simp only [Zle,Rec.cells,List.cons_append,List.nil_append] at f2 hcl st
     have hlt : ∀ H : Heap,mkF H (vLit 6 1 (some [[.int .i64 seq,.str prev,.int .i64 kd,.int .i64 dv,Z8 wraps,.str tag]]) H) = some (.c (.lst 6 [[.int .i64 seq,.str prev,.int .i64 kd,.int .i64 dv,Z8 wraps,.str tag]])) := fun H => Zhu hcl
     simp only [go_sem,simprocAttr,h0,h1]
     refine Z3 f2 (fun _ => List.prefix_refl _) ?_
     simp only [go_sem,simprocAttr,hlt]
     refine Acc.app_step ha (by simp; omega) fun v' H' ha' => ?_
     simp only [go_sem,simprocAttr,h8',hn]
     refine st v' _ _ ha' ?_ ?_ ?_ ?_ ?_
     all_goals simp only [go_sem,simprocAttr,h0,h1,h2,hn]
    | false =>
     rw [hmm] at hlr fin
     simp only [Bool.false_eq_true,if_false] at hlr fin
     have f2 := fin 1 rfl
     have st := step 1 _ _ hlr f2
     generalize Zbn log 1 (1 + ((u.toNat % 4 : Nat) : Int)) = ME at f2
     generalize Zb5 secret master log 1 (1 + ((u.toNat % 4 : Nat) : Int)) = MR at f2 st
     have hcl := Rec.closed MR
     clear step fin hlr
     obtain ⟨seq,prev,kd,dv,wraps,tag⟩ := MR
     simp only [Zle,Rec.cells,List.cons_append,List.nil_append] at f2 hcl st
     have hlt : ∀ H : Heap,mkF H (vLit 6 1 (some [[.int .i64 seq,.str prev,.int .i64 kd,.int .i64 dv,Z8 wraps,.str tag]]) H) = some (.c (.lst 6 [[.int .i64 seq,.str prev,.int .i64 kd,.int .i64 dv,Z8 wraps,.str tag]])) := fun H => Zhu hcl
     simp only [go_sem,simprocAttr,h0,h1]
     refine Z3 f2 (fun _ => List.prefix_refl _) ?_
     simp only [go_sem,simprocAttr,hlt]
     refine Acc.app_step ha (by simp; omega) fun v' H' ha' => ?_
     simp only [go_sem,simprocAttr,h8',hn]
     refine st v' _ _ ha' ?_ ?_ ?_ ?_ ?_
     all_goals simp only [go_sem,simprocAttr,h0,h1,h2,hn]
   ·have c8' : ¬ ((log.length : Int) < 8) := by omega
    rw [if_neg c8] at hlr
    simp only [go_sem,simprocAttr,h2,h8',hul,hc,hal,hll,c8']
    refine tail log _ _ hlr hne ?_
    simp only [go_sem,simprocAttr]
    exact ha
 have hst : ∀ (MR : Rec),Z9 (Zk6 secret master [MR] us) = R → ∀ (e' : Env) (H' : Heap),Acc 6 [MR.cells] (e' 7) H' → e' 0 = sC secret → e' 1 = sC master → e' 2 = .c (u8sC us) → e' 8 = iC 0 → Run (Zt Tryz.prog T) ⟨[.tmp 6],fun u E => Zf E u = some (.c R)⟩ [.loop Zia,.blk 0,.code Zhv] e' H' := fun MR hlr e' H' ha' g0 g1 g2 g8 =>
  loop us [] [MR] e' H' rfl hlr (by simp) (by simp) g0 g1 g2 g8 ha'
 have hst' := hst (Zb5 secret master [] 1 0) hR.symm
 clear hst loop tail hR
 generalize Zbn [] 1 0 = ME at m0'
 generalize Zb5 secret master [] 1 0 = MR at m0' hst'
 have hcl := Rec.closed MR
 obtain ⟨seq,prev,kd,dv,wraps,tag⟩ := MR
 simp only [Zle,Rec.cells,List.cons_append,List.nil_append] at m0' hcl hst'
 simp only [go_sem,simprocAttr]
 refine Za m0' ?_
 have hlt : ∀ H : Heap,vLit 6 1 (some [[.int .i64 seq,.str prev,.int .i64 kd,.int .i64 dv,Z8 wraps,.str tag]]) H = some (.c (.slc H.length 0 1 6 false),H ++ [{ sz := 6,rows := [[.int .i64 seq,.str prev,.int .i64 kd,.int .i64 dv,Z8 wraps,.str tag]] }]) := fun _ => rfl
 simp only [go_sem,simprocAttr,hlt]
 refine hst' _ _ ?_ ?_ ?_ ?_ ?_
 ·simp only [go_sem,simprocAttr]
  exact Acc.last (H := [])
 all_goals simp only [go_sem,simprocAttr]
def Zp6 : AFun := ⟨[.tmp 6],.seq (.region [ii 6 (.mv (.k (.c (.bool false))))] false) (.seq (.seq (.region [im 13 0,ii 14 (.len (.t 13)),ii 15 (.bin .gtr (.t 14) (ki 7))] false) (.cond (.t 15) (.seq (.region [icl 16 15 [],im 6 16] false) .ret) .skip)) (.seq (.region [im 17 0,icl 18 16 [.k (.c (.str ⟨#[115,101,99,114,101,116]⟩)),.k (.c (.str ⟨#[109,97,115,116,101,114]⟩)),.t 17],im 7 18] false) (.seq (.region [im 20 7,im 21 1,ii 22 (.conv .i64 (.t 21)),ii 23 (.bin .rem (.t 22) (ki 2)),ii 24 (.bin .add (ki 1) (.t 23)),im 25 2,ii 26 (.conv .i64 (.t 25)),ii 27 (.bin .rem (.t 26) (ki 4)),ii 28 (.bin .add (ki 1) (.t 27)),icl 29 17 [.k (.c (.str ⟨#[115,101,99,114,101,116]⟩)),.k (.c (.str ⟨#[109,97,115,116,101,114]⟩)),.t 20,.t 24,.t 28],im 19 29,ii 30 (.ext (.t 19) 0),ii 31 (.ext (.t 19) 1),ii 8 (.new [.int .i64 0,.str ⟨#[]⟩,.int .i64 0,.int .i64 0,.nilS,.str ⟨#[]⟩]),ie (.store 6 (.t 8) (.t 30)),im 9 31] false) (.seq (.seq (.region [im 32 9,icl 33 19 [.t 32],ii 34 (.bin .neq (.t 33) (ki 0))] false) (.cond (.t 34) (.seq (.region [ifl 35 0 8,il 36 35,ii 37 (.bin .eql (.t 36) (ki 0)),im 38 37,ig 39 (.call (.f 15) []) 38 true,ii 40 (.pick (.t 38) (.t 39) (.k (.c (.bool false)))),im 6 40] false) .ret) .skip)) (.seq (.region [icl 42 17 [.k (.c (.str ⟨#[115,101,99,114,101,116]⟩)),.k (.c (.str ⟨#[109,97,115,116,101,114]⟩)),.k (.c .nilS),.k (.c (.int .i64 1)),.k (.c (.int .i64 0))],im 41 42,ii 43 (.ext (.t 41) 0),ii 44 (.ext (.t 41) 1),ii 10 (.new [.int .i64 0,.str ⟨#[]⟩,.int .i64 0,.int .i64 0,.nilS,.str ⟨#[]⟩]),ie (.store 6 (.t 10) (.t 43)),im 11 44] false) (.seq (.region [ii 45 (.load true 6 (.t 8)),ii 12 (.new [.int .i64 0,.str ⟨#[]⟩,.int .i64 0,.int .i64 0,.nilS,.str ⟨#[]⟩]),ie (.store 6 (.t 12) (.t 45))] false) (.seq (.region [ifl 46 5 12,ie (.store 1 (.t 46) (.k (.c (.str ⟨#[]⟩))))] false) (.seq (.region [ifl 47 5 8,il 48 47,ii 49 (.lenS (.t 48)),ii 50 (.bin .eql (.t 49) (ki 16)),im 51 50,ig 52 (.fld 5 (.t 8)) 51 true,ig 53 (.load false 1 (.t 52)) 51 true,ig 54 (.mv (.t 7)) 51 true,ig 55 (.len (.t 54)) 51 true,ig 56 (.call (.f 25) [.k (.c (.str ⟨#[115,101,99,114,101,116]⟩)),.t 55]) 51 true,ig 57 (.load true 6 (.t 12)) 51 true,ig 58 (.call (.f 26) [.t 56,.t 57]) 51 true,ig 59 (.bin .eql (.t 53) (.t 58)) 51 true,ii 60 (.pick (.t 51) (.t 59) (.k (.c (.bool false)))),im 61 60,ig 62 (.fld 5 (.t 8)) 61 true,ig 63 (.load false 1 (.t 62)) 61 true,ig 64 (.mv (.t 7)) 61 true,ig 65 (.len (.t 64)) 61 true,ig 66 (.call (.f 25) [.k (.c (.str ⟨#[115,101,99,114,101,116]⟩)),.t 65]) 61 true,ig 67 (.load true 6 (.t 8)) 61 true,ig 68 (.call (.f 26) [.t 66,.t 67]) 61 true,ig 69 (.bin .eql (.t 63) (.t 68)) 61 true,ii 70 (.pick (.t 61) (.t 69) (.k (.c (.bool false)))),im 71 70,ig 72 (.fld 1 (.t 8)) 71 true,ig 73 (.load false 1 (.t 72)) 71 true,ig 74 (.mv (.t 7)) 71 true,ig 75 (.mv (.t 7)) 71 true,ig 76 (.len (.t 75)) 71 true,ig 77 (.bin .sub (.t 76) (ki 1)) 71 true,ig 78 (.ix 6 (.t 74) (.t 77)) 71 true,ig 79 (.load true 6 (.t 78)) 71 true,ig 80 (.call (.f 27) [.t 79]) 71 true,ig 81 (.bin .eql (.t 73) (.t 80)) 71 true,ii 82 (.pick (.t 71) (.t 81) (.k (.c (.bool false)))),im 83 82,ig 84 (.mv (.t 11)) 83 true,ig 85 (.call (.f 19) [.t 84]) 83 true,ig 86 (.bin .eql (.t 85) (ki 0)) 83 true,ii 87 (.pick (.t 83) (.t 86) (.k (.c (.bool false)))),im 88 87,ig 89 (.fld 5 (.t 10)) 88 true,ig 90 (.load false 1 (.t 89)) 88 true,ig 91 (.bin .eql (.t 90) (.k (.c (.str ⟨#[]⟩)))) 88 true,ii 92 (.pick (.t 88) (.t 91) (.k (.c (.bool false)))),im 93 92,ig 94 (.fld 1 (.t 10)) 93 true,ig 95 (.load false 1 (.t 94)) 93 true,ig 96 (.bin .eql (.t 95) (.k (.c (.str ⟨#[]⟩)))) 93 true,ii 97 (.pick (.t 93) (.t 96) (.k (.c (.bool false)))),im 98 97,ig 99 (.call (.f 15) []) 98 true,ii 100 (.pick (.t 98) (.t 99) (.k (.c (.bool false)))),im 6 100] true) .ret))))))))⟩
theorem Zy3 : Zm Tryz.prog 5 = some Zp6.erase := by kernel_rfl
abbrev secS : ByteArray := ⟨#[115,101,99,114,101,116]⟩
abbrev masS : ByteArray := ⟨#[109,97,115,116,101,114]⟩
def u8s (l : List Nat) : List UInt8 := l.map UInt8.ofNat
theorem Zbar {l : List Nat} (h : ∀ n ∈ l,n < 256) : Ztr l = u8sC (u8s l) := by
 unfold Ztr u8sC u8s
 rw [List.map_map]
 congr 1
 refine List.map_congr_left fun n hn => ?_
 have := h n hn
 simp only [Zrg,Function.comp,Zs,UInt8.toNat_ofNat']
 rw [Nat.mod_eq_of_lt (by simpa using this)]
theorem Zbht (l : List Nat) : (u8s l).length = l.length := by simp [u8s]
theorem Zba9 (secret master : ByteArray) (us : List UInt8) : ∃ log,log = Zuu secret master us ∧ Chain secret master log ∧ log ≠ [] ∧ log.length ≤ 8 := ⟨_,rfl,Z54 secret master us⟩
theorem Zbbx {secret master : ByteArray} {log : List Rec} {k dev : Int} (h : Zbn log k dev ≠ 0) : (Zb5 secret master log k dev).cells = [.int .i64 0,.str ⟨#[]⟩,.int .i64 0,.int .i64 0,.lst 2 [],.str ⟨#[]⟩] := by
 unfold Zb5
 rw [if_neg h]; rfl
end Go.Proofs.YticmfblfghdkbaaGreatDoor.Eng
