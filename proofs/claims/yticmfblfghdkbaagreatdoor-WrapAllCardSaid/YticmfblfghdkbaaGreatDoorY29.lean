/- Parts of this claim's proof, joined. No statement of the seat is proved here. -/
import Derived.Test.YticmfblfghdkbaaGreatDoorY28
set_option linter.unusedVariables false
set_option linter.unusedSimpArgs false
namespace Go.Proofs.YticmfblfghdkbaaGreatDoor.Eng
open Go
def Z8n (r : Rec) (e : Int) : List Cell := r.cells ++ [.int .i64 e]
abbrev Zbjy : List Cell := [.int .i64 0,.str ⟨#[]⟩,.int .i64 0,.int .i64 0,.nilS,.str ⟨#[]⟩,.int .i64 0]
def Zbbm (secret master : ByteArray) (rows : List (List Cell)) (kind dev N : Int) (m : Bool) (e : Env) (H : Heap) : Prop :=
 e 0 = sC secret ∧ e 1 = sC master ∧ e 2 = .c (.lst 6 rows) ∧ e 3 = iC kind ∧ e 4 = iC dev ∧ e 10 = .c (.ptr 0 0 0) ∧ e 11 = iC N ∧ e 12 = bC m ∧ H = [{ sz := 7,rows := [Zbjy],own := true,live := true }]
def MadeV (cs : List Cell) (n : Int) (u : AVal) (E : Heap) : Prop := ∃ a b c d t y rows,cs = [a,b,c,d,.lst 2 rows,t] ∧ Zfn [a,b,c,d,t] = true ∧ Zhp rows = true ∧ u = .agg [a,b,c,d,y,t,.int .i64 n] ∧ Acc 2 rows (.c y) E
theorem Zce (E : Int) (G : Heap) : MadeV Ztu.cells E (.agg [.int .i64 0,.str ⟨#[]⟩,.int .i64 0,.int .i64 0,.nilS,.str ⟨#[]⟩,.int .i64 E]) G := ⟨_,_,_,_,_,.nilS,[],rfl,rfl,rfl,rfl,.nil⟩
def Zyd : ACode := .block 0 (.seq (.region [im 23 3,ii 24 (.bin .neq (.t 23) (ki 1)),im 25 24,ig 26 (.mv (.t 3)) 25 true,ig 27 (.bin .neq (.t 26) (ki 2)) 25 true,ii 28 (.pick (.t 25) (.t 27) (.k (.c (.bool false)))),im 29 28,ig 30 (.mv (.t 4)) 29 false,ig 31 (.bin .lss (.t 30) (ki 0)) 29 false,ii 32 (.pick (.t 29) (.k (.c (.bool true))) (.t 31)),im 33 32,ig 34 (.mv (.t 4)) 33 false,ig 35 (.bin .geq (.t 34) (ki 8)) 33 false,ii 36 (.pick (.t 33) (.k (.c (.bool true))) (.t 35)),im 37 36,ig 38 (.mv (.t 2)) 37 false,ig 39 (.call (.f 20) [.t 38]) 37 false,ig 40 (.un .not (.t 39)) 37 false,ii 41 (.pick (.t 37) (.k (.c (.bool true))) (.t 40)),im 42 41,ig 43 (.mv (.t 11)) 42 false,ig 44 (.bin .eql (.t 43) (ki 0)) 42 false,ig 45 (.mv (.t 44)) 42 false,ig 46 (.mv (.t 3)) 45 true,ig 47 (.bin .neq (.t 46) (ki 1)) 45 true,ig 48 (.mv (.t 47)) 45 true,ig 49 (.mv (.t 4)) 48 false,ig 50 (.bin .neq (.t 49) (ki 0)) 48 false,ig 51 (.pick (.t 48) (.k (.c (.bool true))) (.t 50)) 45 true,ig 52 (.pick (.t 45) (.t 51) (.k (.c (.bool false)))) 42 false,ii 53 (.pick (.t 42) (.k (.c (.bool true))) (.t 52)),im 54 53,ig 55 (.mv (.t 3)) 54 false,ig 56 (.bin .eql (.t 55) (ki 2)) 54 false,ig 57 (.mv (.t 56)) 54 false,ig 58 (.mv (.t 4)) 57 true,ig 59 (.bin .eql (.t 58) (ki 0)) 57 true,ig 60 (.pick (.t 57) (.t 59) (.k (.c (.bool false)))) 54 false,ii 61 (.pick (.t 54) (.k (.c (.bool true))) (.t 60)),im 22 61] false) (.cond (.t 22) (.seq (.region [ii 62 (.build [.int .i64 0,.str ⟨#[]⟩,.int .i64 0,.int .i64 0,.nilS,.str ⟨#[]⟩,.int .i64 0] [(6,1,.k (.c (.int .i64 1)))]),ie (.store 7 (.t 10) (.t 62))] false) .ret) (.seq (.region [im 64 3,ii 65 (.bin .eql (.t 64) (ki 1)),im 66 65,ig 67 (.mv (.t 12)) 66 true,ii 68 (.pick (.t 66) (.t 67) (.k (.c (.bool false)))),im 63 68] false) (.cond (.t 63) (.seq (.region [ii 69 (.build [.int .i64 0,.str ⟨#[]⟩,.int .i64 0,.int .i64 0,.nilS,.str ⟨#[]⟩,.int .i64 0] [(6,1,.k (.c (.int .i64 3)))]),ie (.store 7 (.t 10) (.t 69))] false) .ret) (.seq (.region [im 71 3,ii 72 (.bin .eql (.t 71) (ki 2)),im 73 72,ig 74 (.mv (.t 12)) 73 true,ig 75 (.un .not (.t 74)) 73 true,ii 76 (.pick (.t 73) (.t 75) (.k (.c (.bool false)))),im 70 76] false) (.cond (.t 70) (.seq (.region [ii 77 (.build [.int .i64 0,.str ⟨#[]⟩,.int .i64 0,.int .i64 0,.nilS,.str ⟨#[]⟩,.int .i64 0] [(6,1,.k (.c (.int .i64 2)))]),ie (.store 7 (.t 10) (.t 77))] false) .ret) (.seq (.region [im 79 11,ii 80 (.bin .geq (.t 79) (ki 40)),im 78 80] false) (.cond (.t 78) (.seq (.region [ii 81 (.build [.int .i64 0,.str ⟨#[]⟩,.int .i64 0,.int .i64 0,.nilS,.str ⟨#[]⟩,.int .i64 0] [(6,1,.k (.c (.int .i64 12)))]),ie (.store 7 (.t 10) (.t 81))] false) .ret) .skip))))))))
set_option maxHeartbeats 8000000 in
theorem Z1d (secret master : ByteArray) (log : List Rec) (kind dev : Int) (T : Nat → Option AFun) (p : Post) (k : List Itm) (e : Env) (H : Heap) (h : Zbbm secret master (log.map Rec.cells) kind dev log.length (memL log log.length dev) e H)
  (hp : p = ⟨[.cell 10 true 7],fun u E => MadeV (Ze3 secret master log kind dev).cells (Zcv log kind dev) u E⟩)
  (hok : Zcv log kind dev = 0 → ∀ e',Zbbm secret master (log.map Rec.cells) kind dev log.length (memL log log.length dev) e' H → Run (Zu Tryz.prog T) p k e' H) : Run (Zu Tryz.prog T) p (.code Zyd :: k) e H := by
 have hck := Zpk log
 obtain ⟨E,hE⟩ : ∃ E,E = Zcv log kind dev := ⟨_,rfl⟩
 have hR : E ≠ 0 → Ze3 secret master log kind dev = Ztu := fun h => by unfold Ze3; rw [if_neg (by rw [← hE]; exact h)]
 rw [← hE] at hok hp
 generalize Ze3 secret master log kind dev = RR at hR hp
 unfold Zcv at hE
 simp only [Zw] at hck
 generalize memL log log.length dev = m at hE h hok
 generalize Zcx log = ck at hck hE
 generalize log.map Rec.cells = rows at hck h hok
 have n0 : (log.length = 0) = ((log.length : Int) = 0) := by rw [Int.natCast_eq_zero]
 have n40 : (40 ≤ log.length) = ((40 : Int) ≤ (log.length : Int)) := by apply propext; omega
 simp only [n0,n40] at hE
 clear n0 n40
 generalize (log.length : Int) = N at hE h hok
 obtain ⟨h0,h1,h2,h3,h4,h10,h11,h12,rfl⟩ := h
 have q21 : ¬ ((2 : Int) = 1) := by omega
 have q12 : ¬ ((1 : Int) = 2) := by omega
 unfold Zyd
 by_cases k1 : kind = 1
 ·subst k1
  by_cases d1 : dev < 0
  ·have d0 : ¬ dev = 0 := by omega
   simp only [go_sem,simprocAttr,h2,h3,h4,h10,h11,h12,hp,q21,q12,eq_self,d1,d0]
   have hf : E = 1 := by simp [hE,q21,q12,eq_self,d1,d0]
   rw [hR (by omega),hf]
   exact Zce _ _
  by_cases d2 : 8 ≤ dev
  ·have d0 : ¬ dev = 0 := by omega
   simp only [go_sem,simprocAttr,h2,h3,h4,h10,h11,h12,hp,q21,q12,eq_self,d1,d2,d0]
   have hf : E = 1 := by simp [hE,q21,q12,eq_self,d1,d2,d0]
   rw [hR (by omega),hf]
   exact Zce _ _
  cases ck with
  | false =>
   simp only [go_sem,simprocAttr,h2,h3,h4,h10,h11,h12,hp,q21,q12,eq_self,d1,d2]
   refine Za hck ?_
   simp only [go_sem,simprocAttr,h2,h3,h4,h10,h11,h12,hp,q21,q12,eq_self,d1,d2]
   have hf : E = 1 := by simp [hE,q21,q12,eq_self,d1,d2]
   rw [hR (by omega),hf]
   exact Zce _ _
  | true =>
   by_cases d0 : dev = 0
   ·by_cases l0 : N = 0
    ·have l40 : ¬ (40 ≤ N) := by omega
     cases m with
     | false =>
      simp only [go_sem,simprocAttr,h2,h3,h4,h10,h11,h12,hp,q21,q12,eq_self,d1,d2,d0,l0,l40]
      refine Za hck ?_
      simp only [go_sem,simprocAttr,h2,h3,h4,h10,h11,h12,hp,q21,q12,eq_self,d1,d2,d0,l0,l40]
      have hf : E = 0 := by simp [hE,q21,q12,eq_self,d1,d2,d0,l0,l40]
      subst hp
      refine hok hf _ ⟨?_,?_,?_,?_,?_,?_,?_,?_,rfl⟩
      all_goals simp only [go_sem,simprocAttr,h0,h1,h2,h3,h4,h10,h11,h12]
     | true =>
      simp only [go_sem,simprocAttr,h2,h3,h4,h10,h11,h12,hp,q21,q12,eq_self,d1,d2,d0,l0,l40]
      refine Za hck ?_
      simp only [go_sem,simprocAttr,h2,h3,h4,h10,h11,h12,hp,q21,q12,eq_self,d1,d2,d0,l0,l40]
      have hf : E = 3 := by simp [hE,q21,q12,eq_self,d1,d2,d0,l0,l40]
      rw [hR (by omega),hf]
      exact Zce _ _
    ·by_cases l40 : 40 ≤ N
     ·cases m with
      | false =>
       simp only [go_sem,simprocAttr,h2,h3,h4,h10,h11,h12,hp,q21,q12,eq_self,d1,d2,d0,l0,l40]
       refine Za hck ?_
       simp only [go_sem,simprocAttr,h2,h3,h4,h10,h11,h12,hp,q21,q12,eq_self,d1,d2,d0,l0,l40]
       have hf : E = 12 := by simp [hE,q21,q12,eq_self,d1,d2,d0,l0,l40]
       rw [hR (by omega),hf]
       exact Zce _ _
      | true =>
       simp only [go_sem,simprocAttr,h2,h3,h4,h10,h11,h12,hp,q21,q12,eq_self,d1,d2,d0,l0,l40]
       refine Za hck ?_
       simp only [go_sem,simprocAttr,h2,h3,h4,h10,h11,h12,hp,q21,q12,eq_self,d1,d2,d0,l0,l40]
       have hf : E = 3 := by simp [hE,q21,q12,eq_self,d1,d2,d0,l0,l40]
       rw [hR (by omega),hf]
       exact Zce _ _
     ·cases m with
      | false =>
       simp only [go_sem,simprocAttr,h2,h3,h4,h10,h11,h12,hp,q21,q12,eq_self,d1,d2,d0,l0,l40]
       refine Za hck ?_
       simp only [go_sem,simprocAttr,h2,h3,h4,h10,h11,h12,hp,q21,q12,eq_self,d1,d2,d0,l0,l40]
       have hf : E = 0 := by simp [hE,q21,q12,eq_self,d1,d2,d0,l0,l40]
       subst hp
       refine hok hf _ ⟨?_,?_,?_,?_,?_,?_,?_,?_,rfl⟩
       all_goals simp only [go_sem,simprocAttr,h0,h1,h2,h3,h4,h10,h11,h12]
      | true =>
       simp only [go_sem,simprocAttr,h2,h3,h4,h10,h11,h12,hp,q21,q12,eq_self,d1,d2,d0,l0,l40]
       refine Za hck ?_
       simp only [go_sem,simprocAttr,h2,h3,h4,h10,h11,h12,hp,q21,q12,eq_self,d1,d2,d0,l0,l40]
       have hf : E = 3 := by simp [hE,q21,q12,eq_self,d1,d2,d0,l0,l40]
       rw [hR (by omega),hf]
       exact Zce _ _
   ·by_cases l0 : N = 0
    ·simp only [go_sem,simprocAttr,h2,h3,h4,h10,h11,h12,hp,q21,q12,eq_self,d1,d2,d0,l0]
     refine Za hck ?_
     simp only [go_sem,simprocAttr,h2,h3,h4,h10,h11,h12,hp,q21,q12,eq_self,d1,d2,d0,l0]
     have hf : E = 1 := by simp [hE,q21,q12,eq_self,d1,d2,d0,l0]
     rw [hR (by omega),hf]
     exact Zce _ _
    ·by_cases l40 : 40 ≤ N
     ·cases m with
      | false =>
       simp only [go_sem,simprocAttr,h2,h3,h4,h10,h11,h12,hp,q21,q12,eq_self,d1,d2,d0,l0,l40]
       refine Za hck ?_
       simp only [go_sem,simprocAttr,h2,h3,h4,h10,h11,h12,hp,q21,q12,eq_self,d1,d2,d0,l0,l40]
       have hf : E = 12 := by simp [hE,q21,q12,eq_self,d1,d2,d0,l0,l40]
       rw [hR (by omega),hf]
       exact Zce _ _
      | true =>
       simp only [go_sem,simprocAttr,h2,h3,h4,h10,h11,h12,hp,q21,q12,eq_self,d1,d2,d0,l0,l40]
       refine Za hck ?_
       simp only [go_sem,simprocAttr,h2,h3,h4,h10,h11,h12,hp,q21,q12,eq_self,d1,d2,d0,l0,l40]
       have hf : E = 3 := by simp [hE,q21,q12,eq_self,d1,d2,d0,l0,l40]
       rw [hR (by omega),hf]
       exact Zce _ _
     ·cases m with
      | false =>
       simp only [go_sem,simprocAttr,h2,h3,h4,h10,h11,h12,hp,q21,q12,eq_self,d1,d2,d0,l0,l40]
       refine Za hck ?_
       simp only [go_sem,simprocAttr,h2,h3,h4,h10,h11,h12,hp,q21,q12,eq_self,d1,d2,d0,l0,l40]
       have hf : E = 0 := by simp [hE,q21,q12,eq_self,d1,d2,d0,l0,l40]
       subst hp
       refine hok hf _ ⟨?_,?_,?_,?_,?_,?_,?_,?_,rfl⟩
       all_goals simp only [go_sem,simprocAttr,h0,h1,h2,h3,h4,h10,h11,h12]
      | true =>
       simp only [go_sem,simprocAttr,h2,h3,h4,h10,h11,h12,hp,q21,q12,eq_self,d1,d2,d0,l0,l40]
       refine Za hck ?_
       simp only [go_sem,simprocAttr,h2,h3,h4,h10,h11,h12,hp,q21,q12,eq_self,d1,d2,d0,l0,l40]
       have hf : E = 3 := by simp [hE,q21,q12,eq_self,d1,d2,d0,l0,l40]
       rw [hR (by omega),hf]
       exact Zce _ _
 ·by_cases k2 : kind = 2
  ·subst k2
   by_cases d1 : dev < 0
   ·have d0 : ¬ dev = 0 := by omega
    simp only [go_sem,simprocAttr,h2,h3,h4,h10,h11,h12,hp,q21,q12,k1,d1,d0]
    have hf : E = 1 := by simp [hE,q21,q12,k1,d1,d0]
    rw [hR (by omega),hf]
    exact Zce _ _
   by_cases d2 : 8 ≤ dev
   ·have d0 : ¬ dev = 0 := by omega
    simp only [go_sem,simprocAttr,h2,h3,h4,h10,h11,h12,hp,q21,q12,k1,d1,d2,d0]
    have hf : E = 1 := by simp [hE,q21,q12,k1,d1,d2,d0]
    rw [hR (by omega),hf]
    exact Zce _ _
   cases ck with
   | false =>
    simp only [go_sem,simprocAttr,h2,h3,h4,h10,h11,h12,hp,q21,q12,k1,d1,d2]
    refine Za hck ?_
    simp only [go_sem,simprocAttr,h2,h3,h4,h10,h11,h12,hp,q21,q12,k1,d1,d2]
    have hf : E = 1 := by simp [hE,q21,q12,k1,d1,d2]
    rw [hR (by omega),hf]
    exact Zce _ _
   | true =>
    by_cases d0 : dev = 0
    ·by_cases l0 : N = 0
     ·simp only [go_sem,simprocAttr,h2,h3,h4,h10,h11,h12,hp,q21,q12,k1,d1,d2,d0,l0]
      refine Za hck ?_
      simp only [go_sem,simprocAttr,h2,h3,h4,h10,h11,h12,hp,q21,q12,k1,d1,d2,d0,l0]
      have hf : E = 1 := by simp [hE,q21,q12,k1,d1,d2,d0,l0]
      rw [hR (by omega),hf]
      exact Zce _ _
     ·simp only [go_sem,simprocAttr,h2,h3,h4,h10,h11,h12,hp,q21,q12,k1,d1,d2,d0,l0]
      refine Za hck ?_
      simp only [go_sem,simprocAttr,h2,h3,h4,h10,h11,h12,hp,q21,q12,k1,d1,d2,d0,l0]
      have hf : E = 1 := by simp [hE,q21,q12,k1,d1,d2,d0,l0]
      rw [hR (by omega),hf]
      exact Zce _ _
    ·by_cases l0 : N = 0
     ·simp only [go_sem,simprocAttr,h2,h3,h4,h10,h11,h12,hp,q21,q12,k1,d1,d2,d0,l0]
      refine Za hck ?_
      simp only [go_sem,simprocAttr,h2,h3,h4,h10,h11,h12,hp,q21,q12,k1,d1,d2,d0,l0]
      have hf : E = 1 := by simp [hE,q21,q12,k1,d1,d2,d0,l0]
      rw [hR (by omega),hf]
      exact Zce _ _
     ·by_cases l40 : 40 ≤ N
      ·cases m with
       | false =>
        simp only [go_sem,simprocAttr,h2,h3,h4,h10,h11,h12,hp,q21,q12,k1,d1,d2,d0,l0,l40]
        refine Za hck ?_
        simp only [go_sem,simprocAttr,h2,h3,h4,h10,h11,h12,hp,q21,q12,k1,d1,d2,d0,l0,l40]
        have hf : E = 2 := by simp [hE,q21,q12,k1,d1,d2,d0,l0,l40]
        rw [hR (by omega),hf]
        exact Zce _ _
       | true =>
        simp only [go_sem,simprocAttr,h2,h3,h4,h10,h11,h12,hp,q21,q12,k1,d1,d2,d0,l0,l40]
        refine Za hck ?_
        simp only [go_sem,simprocAttr,h2,h3,h4,h10,h11,h12,hp,q21,q12,k1,d1,d2,d0,l0,l40]
        have hf : E = 12 := by simp [hE,q21,q12,k1,d1,d2,d0,l0,l40]
        rw [hR (by omega),hf]
        exact Zce _ _
      ·cases m with
       | false =>
        simp only [go_sem,simprocAttr,h2,h3,h4,h10,h11,h12,hp,q21,q12,k1,d1,d2,d0,l0,l40]
        refine Za hck ?_
        simp only [go_sem,simprocAttr,h2,h3,h4,h10,h11,h12,hp,q21,q12,k1,d1,d2,d0,l0,l40]
        have hf : E = 2 := by simp [hE,q21,q12,k1,d1,d2,d0,l0,l40]
        rw [hR (by omega),hf]
        exact Zce _ _
       | true =>
        simp only [go_sem,simprocAttr,h2,h3,h4,h10,h11,h12,hp,q21,q12,k1,d1,d2,d0,l0,l40]
        refine Za hck ?_
        simp only [go_sem,simprocAttr,h2,h3,h4,h10,h11,h12,hp,q21,q12,k1,d1,d2,d0,l0,l40]
        have hf : E = 0 := by simp [hE,q21,q12,k1,d1,d2,d0,l0,l40]
        subst hp
        refine hok hf _ ⟨?_,?_,?_,?_,?_,?_,?_,?_,rfl⟩
        all_goals simp only [go_sem,simprocAttr,h0,h1,h2,h3,h4,h10,h11,h12]
  ·simp only [go_sem,simprocAttr,h2,h3,h4,h10,h11,h12,hp,q21,q12,k1,k2]
   have hf : E = 1 := by simp [hE,q21,q12,k1,k2]
   rw [hR (by omega),hf]
   exact Zce _ _
theorem Pure.wk_row {P : Program} {f sz : Nat} {more : List AVal} {rows rows' : List (List Cell)} {v : AVal} (h : Pure P f (.c (.lst sz rows') :: more) v) (k : All2 (All2 WkC) rows rows') : Pure P f (.c (.lst sz rows) :: more) v := fun H => (h H).wk_row k
theorem Zyn : ∀ l : List Wrp,Zhp (l.map Wrp.cells) = true
 | [] => rfl
 | w :: l => by simp only [List.map_cons,Zhp,Zyn l,Bool.and_true]; rfl
abbrev boxM : Blk := { sz := 7,rows := [Zbjy],own := true,live := true }
abbrev rowR (n : Int) (pv : ByteArray) (kind dev : Int) (y : Cell) (tag : ByteArray) : List Cell := [.int .i64 n,.str pv,.int .i64 kind,.int .i64 dev,y,.str tag]
abbrev boxR (n : Int) (pv : ByteArray) (kind dev : Int) (y : Cell) (tag : ByteArray) : Blk := { sz := 6,rows := [rowR n pv kind dev y tag],own := true,live := true }
theorem Zbdr {secret master : ByteArray} {log : List Rec} {kind dev : Int} (hz : Zcv log kind dev = 0) {pre rest : List Int} (hp : Zew = pre ++ rest) (q : Int → Bool) :
  Zcp { Zbp log kind dev with wraps := (pre.filter q).map (Zeo secret master (Zbp log kind dev)) } = Zcp (Zbp log kind dev) := by
 have hb := Zs3 hz
 have hs : pre.Pairwise (· < ·) := by
  have h : Zew.Pairwise (· < ·) := by decide
  rw [hp,List.pairwise_append] at h
  exact h.1
 have h8 : ∀ m ∈ pre,0 ≤ m ∧ m < 8 := fun m h => Zzj.1 (by rw [hp]; simp [h])
 refine Z3m hb (Zzo hb rfl rfl rfl rfl (.inr rfl) ?_) rfl rfl rfl rfl
 exact Zvk _ (fun _ => rfl) (fun m => by rw [Zo9]; omega) _ none (hs.filter q) (fun m hm => h8 m (List.mem_filter.1 hm).1) (fun q hq => by cases hq)
theorem Zy4 {x : List Cell} (hx : Zb x = true) : ∀ rows : List (List Cell),closedR rows = true → closedR (rows ++ [x]) = true
 | [],_ => by simp [closedR,hx]
 | y :: rows,h => by
  simp only [List.cons_append,closedR,Bool.and_eq_true] at h ⊢
  exact ⟨h.1,Zy4 hx rows h.2⟩
set_option maxHeartbeats 4000000 in
theorem Z6u (secret master : ByteArray) (log : List Rec) (kind dev : Int) (hs : secret.size ≤ 1000000) (hm : master.size ≤ 1000000) (h9 : log.length ≤ 100000) (T : Nat → Option AFun) :
  Run (Zu Tryz.prog T) ⟨Zoj.res,fun u E => MadeV (Ze3 secret master log kind dev).cells (Zcv log kind dev) u E⟩ [.code Zoj.body] (Zdl [sC secret,sC master,.c (Zw log),iC kind,iC dev]) [] := by
 have hin := Zqr log log.length dev
 unfold Zoj
 have hml : ((log.map Rec.cells).length : Int) = (log.length : Int) := by simp
 simp only [Zw] at hin ⊢
 refine Zgn (P := fun e H => e 0 = sC secret ∧ e 1 = sC master ∧ e 2 = .c (.lst 6 (log.map Rec.cells)) ∧ e 3 = iC kind ∧ e 4 = iC dev ∧ e 10 = .c (.ptr 0 0 0) ∧ H = [boxM]) (fun K hK => ?_) fun e H h => ?_
 ·simp only [go_sem,simprocAttr]
  refine hK _ _ ⟨?_,?_,?_,?_,?_,?_,rfl⟩
  all_goals simp only [go_sem,simprocAttr]
 obtain ⟨h0,h1,h2,h3,h4,h10,rfl⟩ := h
 refine Zgn (P := fun e H => e 0 = sC secret ∧ e 1 = sC master ∧ e 2 = .c (.lst 6 (log.map Rec.cells)) ∧ e 3 = iC kind ∧ e 4 = iC dev ∧ e 10 = .c (.ptr 0 0 0) ∧ e 11 = iC log.length ∧ H = [boxM]) (fun K hK => ?_) fun e' H h => ?_
 ·simp only [go_sem,simprocAttr,h2,hml]
  refine hK _ _ ⟨?_,?_,?_,?_,?_,?_,?_,rfl⟩
  all_goals simp only [go_sem,simprocAttr,h0,h1,h2,h3,h4,h10]
 clear h0 h1 h2 h3 h4 h10
 obtain ⟨h0,h1,h2,h3,h4,h10,h11,rfl⟩ := h
 refine Zgn (P := Zbbm secret master (log.map Rec.cells) kind dev log.length (memL log log.length dev)) (fun K hK => ?_) fun e2 H h => ?_
 ·simp only [go_sem,simprocAttr,h2,h4,h11]
  refine Za hin ?_
  simp only [go_sem,simprocAttr]
  refine hK _ _ ⟨?_,?_,?_,?_,?_,?_,?_,?_,rfl⟩
  all_goals simp only [go_sem,simprocAttr,h0,h1,h2,h3,h4,h10,h11]
 clear h0 h1 h2 h3 h4 h10 h11 e e'
 rw [Zw4]
 refine Z1d secret master log kind dev T _ _ e2 H h rfl fun hz e h' => ?_
 have hH := h.2.2.2.2.2.2.2.2
 clear h
 obtain ⟨h0,h1,h2,h3,h4,h10,h11,h12,_⟩ := h'
 subst hH
 clear e2 h12
 have hmr : Ze3 secret master log kind dev = Zci secret master log kind dev := by unfold Ze3; rw [if_pos hz]
 rw [hmr,hz]
 obtain ⟨z1,z2,z3,z4,z5,z6,z7,z8⟩ := Zn0 hz
 have hw1 : IntKind.wrap .i64 ((log.length : Int) + 1) = (log.length : Int) + 1 := Zr (by omega)
 have hw2 : IntKind.wrap .i64 ((log.length : Int) - 1) = (log.length : Int) - 1 := Zr (by omega)
 refine Zgn (P := fun e H => e 0 = sC secret ∧ e 1 = sC master ∧ e 2 = .c (.lst 6 (log.map Rec.cells)) ∧ e 10 = .c (.ptr 0 0 0) ∧ e 11 = iC log.length ∧ e 13 = .c (.ptr 1 0 0) ∧ H = [boxM,boxR ((log.length : Int) + 1) ⟨#[]⟩ kind dev .nilS ⟨#[]⟩]) (fun K hK => ?_) fun e' H h => ?_
 ·simp only [go_sem,simprocAttr,h3,h4,h11,hw1]
  refine hK _ _ ⟨?_,?_,?_,?_,?_,?_,rfl⟩
  all_goals simp only [go_sem,simprocAttr,h0,h1,h2,h10,h11]
 clear h0 h1 h2 h3 h4 h10 h11 e
 obtain ⟨h0,h1,h2,h10,h11,h13,rfl⟩ := h
 refine Zgn (P := fun e H => e 0 = sC secret ∧ e 1 = sC master ∧ e 2 = .c (.lst 6 (log.map Rec.cells)) ∧ e 10 = .c (.ptr 0 0 0) ∧ e 11 = iC log.length ∧ e 13 = .c (.ptr 1 0 0) ∧ H = [boxM,boxR ((log.length : Int) + 1) (Zbl log) kind dev .nilS ⟨#[]⟩]) (fun K hK => ?_) fun e H h => ?_
 ·by_cases hn : log = []
  ·have hpos : ¬ ((0 : Int) < (log.length : Int)) := by rw [hn]; simp
   have hp0 : Zbl log = ⟨#[]⟩ := by rw [hn]; rfl
   rw [hp0] at hK
   simp only [go_sem,simprocAttr,h11,hpos]
   refine hK _ _ ⟨?_,?_,?_,?_,?_,?_,rfl⟩
   all_goals simp only [go_sem,simprocAttr,h0,h1,h2,h10,h11,h13]
  ·obtain ⟨l,hl1,hl2⟩ := Z7j hn
   have hpos : (0 : Int) < (log.length : Int) := by have := List.length_pos_iff.2 hn; omega
   have hti : ((log.length : Int) - 1).toNat = log.length - 1 := by omega
   have hge : (0 : Int) ≤ (log.length : Int) - 1 := by omega
   have hhash := Zya l
   rw [hl2] at hhash
   have hlen6 : l.cells.length = 6 := rfl
   have htk6 : l.cells.take 6 = l.cells := rfl
   have hix : ∀ H : Heap,vIx 6 (.c (.lst 6 (log.map Rec.cells))) (iC ((log.length : Int) - 1)) H = some (.c (.fp l.cells 0),H) := fun H => by
    simp only [vIx]
    rw [if_pos ⟨trivial,hge⟩,hti,hl1]
   simp only [go_sem,simprocAttr,h2,h11,hpos,hw2,hix,hlen6,htk6]
   refine Za hhash ?_
   simp only [go_sem,simprocAttr,h13]
   refine hK _ _ ⟨?_,?_,?_,?_,?_,?_,rfl⟩
   all_goals simp only [go_sem,simprocAttr,h0,h1,h2,h10,h11,h13]
 clear h0 h1 h2 h10 h11 h13 e'
 obtain ⟨h0,h1,h2,h10,h11,h13,rfl⟩ := h
 have hcb : Zb (rowR ((log.length : Int) + 1) (Zbl log) kind dev .nilS ⟨#[]⟩) = true := rfl
 have hinB := fun d : Int => Zqr (log ++ [Zbp log kind dev]) ((log.length : Int) + 1) d
 have hbc : (Zbp log kind dev).cells = [.int .i64 ((log.length : Int) + 1),.str (Zbl log),.int .i64 kind,.int .i64 dev,.lst 2 [],.str ⟨#[]⟩] := rfl
 have hinB' : ∀ d : Int,Pr 18 [.c (.lst 6 (log.map Rec.cells ++ [rowR ((log.length : Int) + 1) (Zbl log) kind dev .nilS ⟨#[]⟩])),iC ((log.length : Int) + 1),iC d] (bC (memL (log ++ [Zbp log kind dev]) ((log.length : Int) + 1) d)) := fun d => by
  have := hinB d
  simp only [Zw] at this
  rw [← Zgh,hbc] at this
  exact this.wk_row (Z2q (.cons (.same _) (.cons (.same _) (.cons (.same _) (.cons (.same _) (.cons (.nilS _) (.cons (.same _) .nil)))))) _)
 have hrow2 : closedR (log.map Rec.cells ++ [rowR ((log.length : Int) + 1) (Zbl log) kind dev .nilS ⟨#[]⟩]) = true := Zy4 hcb _ (Z4 log)
 have hhead := fun pre rest (hp : Zew = pre ++ rest) => Zbdr (secret := secret) (master := master) hz hp (memL (log ++ [Zbp log kind dev]) ((log.length : Int) + 1))
 have hhd := fun ws : List Wrp => Zx5 { Zbp log kind dev with wraps := ws }
 have hhs := Zof (Zbp log kind dev)
 have hep := Zo1 secret (log.length + 1) hs (by omega)
 have hen : ((log.length + 1 : Nat) : Int) = (log.length : Int) + 1 := by omega
 rw [hen] at hep
 have hno := Zuv ((log.length : Int) + 1)
 have hown := fun k : Nat => fun hk : k < 8 => Zzw master k hm (by omega)
 have hwrp := fun k : Nat => Zx3 (ownK master k) (by rw [Zu5]; omega)
 have hseal := fun k : Nat => Zbcg (Zdf (ownK master k)) (Zc6 ((log.length : Int) + 1)) (Zcp (Zbp log kind dev)) (Zck secret ((log.length : Int) + 1)) hhs
 have htag := Ztq (Zck secret log.length) (Zd1 secret master log kind dev) (by rw [Zjl]; omega)
 have hepl := Zo1 secret log.length hs (by omega)
 have hnc := Z1v secret master log kind dev
 have hnc0 := Zyb secret master log kind dev
 have hms : Zcj (log ++ [Zbp log kind dev]) ((log.length : Int) + 1) = Zew.filter (memL (log ++ [Zbp log kind dev]) ((log.length : Int) + 1)) := rfl
 rw [Znc,hms] at htag hnc0
 rw [hms] at hnc
 have hwf : ∀ m,Zeo secret master (Zbp log kind dev) m = ⟨m,Zdj (Zdf (ownK master m)) (Zc6 ((log.length : Int) + 1)) (Zcp (Zbp log kind dev)) (Zck secret ((log.length : Int) + 1))⟩ := fun m => rfl
 have hhd' : ∀ ws : List Wrp,Pr 75 [.agg (rowR ((log.length : Int) + 1) (Zbl log) kind dev (.lst 2 (ws.map Wrp.cells)) ⟨#[]⟩)] (sC (Zcp { Zbp log kind dev with wraps := ws })) := hhd
 clear hhd hinB hms
 have hhd2 : ∀ pre rest,Zew = pre ++ rest → Pr 75 [.agg (rowR ((log.length : Int) + 1) (Zbl log) kind dev (.lst 2 (((pre.filter (memL (log ++ [Zbp log kind dev]) ((log.length : Int) + 1))).map (Zeo secret master (Zbp log kind dev))).map Wrp.cells)) ⟨#[]⟩)] (sC (Zcp (Zbp log kind dev))) := fun pre rest hp => by
  have := hhd' ((pre.filter (memL (log ++ [Zbp log kind dev]) ((log.length : Int) + 1))).map (Zeo secret master (Zbp log kind dev)))
  rw [hhead pre rest hp] at this
  exact this
 clear hhd' hhead
 generalize Zcp (Zbp log kind dev) = hd at hhd2 hhs hseal hwf
 generalize tagR (Zck secret log.length) (Zd1 secret master log kind dev) = TG at htag hnc
 generalize Zeo secret master (Zbp log kind dev) = wf at htag hnc hnc0 hwf hhd2
 generalize memL (log ++ [Zbp log kind dev]) ((log.length : Int) + 1) = mq at htag hnc hnc0 hhd2 hinB'
 generalize Zbl log = pv at *
 generalize Zck secret ((log.length : Int) + 1) = ek at hep hseal hwf
 generalize Zc6 ((log.length : Int) + 1) = nn at hno hseal hwf
 generalize Zck secret log.length = el at htag hepl
 have hclw : ∀ l : List Wrp,closedR (l.map Wrp.cells) = true := Zfv
 have hlt : ∀ H : Heap,mkF H (vLit 6 1 (some [rowR ((log.length : Int) + 1) pv kind dev .nilS ⟨#[]⟩]) H) = some (.c (.lst 6 [rowR ((log.length : Int) + 1) pv kind dev .nilS ⟨#[]⟩])) := fun H => Ze4 rfl
 have hap : ∀ H : Heap,Zc8 6 80 (.c (.zer 6)) (.c (.lst 6 (log.map Rec.cells))) H = some (Zy 6 (log.map Rec.cells) H,Z8 6 (log.map Rec.cells) H) := fun H => Zzg (by simp; omega)
 have loop : ∀ (rest pre : List Int) (y : Cell) (e : Env) (H : Heap),Zew = pre ++ rest → e 0 = sC secret → e 1 = sC master → e 10 = .c (.ptr 0 0 0) → e 11 = iC log.length → e 13 = .c (.ptr 1 0 0) → e 14 = .c (.lst 6 (log.map Rec.cells ++ [rowR ((log.length : Int) + 1) pv kind dev .nilS ⟨#[]⟩])) → e 15 = iC pre.length →
   H[0]? = some boxM → H[1]? = some (boxR ((log.length : Int) + 1) pv kind dev y ⟨#[]⟩) → Acc 2 (((pre.filter mq).map wf).map Wrp.cells) (.c y) H →
   Run (Zu Tryz.prog T) ⟨[.cell 10 true 7],fun u E => MadeV (Zci secret master log kind dev).cells 0 u E⟩ [.loop Zmq,.blk 1,.code Zrl] e H := by
  intro rest
  induction rest with
  | nil =>
   intro pre y e H hp h0 h1 h10 h11 h13 h14 h15 b0 b1 ha
   have hpl : pre.length = 8 := by have := congrArg List.length hp; simpa [Zew] using this.symm
   have hc : ¬ ((pre.length : Int) < 8) := by omega
   rw [List.append_nil] at hp
   rw [← hp] at ha
   have n0 : NB (.c y) 0 := ha.nb_sz b0 (by show (7 : Nat) ≠ 2; decide)
   have n1 : NB (.c y) 1 := ha.nb_sz b1 (by show (6 : Nat) ≠ 2; decide)
   refine Zj ?_
   conv => enter [3,1]; unfold Zmq
   simp only [go_sem,simprocAttr,h15,hc]
   unfold Zrl
   have hpw : ∀ l : List Wrp,Zhp (l.map Wrp.cells) = true := Zyn
   by_cases hl0 : log.length = 0
   ·have c1 : ¬ ((0 : Int) < (log.length : Int)) := by omega
    rw [hnc0 hl0]
    have e1 := ha.set_nb (b := 0) (B := { sz := 7,rows := [[.int .i64 ((log.length : Int) + 1),.str pv,.int .i64 kind,.int .i64 dev,y,.str ⟨#[]⟩,.int .i64 0]],own := true,live := true }) n0
    simp only [go_sem,simprocAttr,h10,h11,h13,Zp b1,c1,Zp b0,Zbk b0,Zb4 b0]
    simp only [go_sem,simprocAttr,h10,Zp (Zv b0)]
    exact ⟨_,_,_,_,_,y,_,rfl,rfl,hpw _,rfl,e1⟩
   ·have c1 : ((0 : Int) < (log.length : Int)) := by omega
    rw [hnc hl0]
    obtain ⟨x,hx1,hx2,hx3,hx4⟩ := Zpn ha (hclw _) ((log.length : Int) + 1) kind dev pv ⟨#[]⟩
    have htg : Pr 35 [sC el,.agg [.int .i64 ((log.length : Int) + 1),.str pv,.int .i64 kind,.int .i64 dev,x,.str ⟨#[]⟩]] (sC TG) := htag.wk (.cons (.same _) (.cons hx4 .nil))
    simp only [go_sem,simprocAttr,h0,h11,c1]
    refine Za hepl ?_
    simp only [go_sem,simprocAttr,h13,Zp b1]
    refine Zfb htg (by simp only [Zd,List.map_nil,List.append_nil,List.cons_append,List.nil_append,hx3]; simp [Zf,Ze,Zi,Zg,Zh,Zd,Zc,Zb]) rfl ?_
    obtain ⟨s1,s0⟩ := Zf5 b0 b1 (boxR ((log.length : Int) + 1) pv kind dev y TG)
    have e1 := (ha.set_nb (b := 1) (B := boxR ((log.length : Int) + 1) pv kind dev y TG) n1).set_nb (b := 0) (B := { sz := 7,rows := [[.int .i64 ((log.length : Int) + 1),.str pv,.int .i64 kind,.int .i64 dev,y,.str TG,.int .i64 0]],own := true,live := true }) n0
    simp only [go_sem,simprocAttr,h10,h13,Zp b1,Zbk b1,Zb4 b1]
    simp only [go_sem,simprocAttr,h10,h13,Zp s1,Zp s0,Zbk s0,Zb4 s0,Zp (Zv s0)]
    exact ⟨_,_,_,_,_,y,_,rfl,rfl,hpw _,rfl,e1⟩
  | cons d rest ih =>
   intro pre y e H hp h0 h1 h10 h11 h13 h14 h15 b0 b1 ha
   have hpl : pre.length < 8 := by have := congrArg List.length hp; simp [Zew] at this; omega
   have hc : ((pre.length : Int) < 8) := by omega
   have hd' : d = (pre.length : Int) := by
    have h1 : Zew[pre.length]? = some d := by rw [hp]; simp
    rw [Z2t _ hpl] at h1
    injection h1 with h1
    exact h1.symm
   have hn : IntKind.wrap .i64 ((pre.length : Int) + 1) = ((pre.length + 1 : Nat) : Int) := by rw [Zr (by omega)]; omega
   have hf := List.filter_append (p := mq) pre [d]
   have hind := hinB' d
   rw [hd'] at hind
   refine Zj ?_
   conv => enter [3,1]; unfold Zmq
   simp only [go_sem,simprocAttr,h11,h14,h15,hc,hw1]
   refine Za hind ?_
   cases hmq : mq (pre.length : Int) with
   | false =>
    simp only [go_sem,simprocAttr,h15,hn]
    refine ih (pre ++ [d]) y _ _ (by rw [hp]; simp) ?_ ?_ ?_ ?_ ?_ ?_ ?_ b0 b1 ?_
    ·simp only [go_sem,simprocAttr,h0]
    ·simp only [go_sem,simprocAttr,h1]
    ·simp only [go_sem,simprocAttr,h10]
    ·simp only [go_sem,simprocAttr,h11]
    ·simp only [go_sem,simprocAttr,h13]
    ·simp only [go_sem,simprocAttr,h14]
    ·simp only [go_sem,simprocAttr,hn]; simp
    ·rw [hf]
     have : [d].filter mq = [] := by rw [hd']; simp [hmq]
     rw [this,List.append_nil]
     exact ha
   | true =>
    have howk := hown pre.length hpl
    have hwk := hwrp pre.length
    have hsk := hseal pre.length
    have hwfk := hwf (pre.length : Int)
    have hhdp := hhd2 pre (d :: rest) hp
    generalize Zdj (Zdf (ownK master pre.length)) nn hd ek = bx at hsk hwfk
    generalize Zdf (ownK master pre.length) = wk at hwk hsk
    generalize ownK master pre.length = ok at howk hwk
    have hlk : ∀ H : Heap,mkF H (vLit 2 1 (some [[.int .i64 (pre.length : Int),.str bx]]) H) = some (.c (.lst 2 [[.int .i64 (pre.length : Int),.str bx]])) := fun H => Ze4 rfl
    obtain ⟨x,hx1,hx2,hx3,hx4⟩ := Zpn ha (hclw _) ((log.length : Int) + 1) kind dev pv ⟨#[]⟩
    have hhx := hhdp.wk (.cons hx4 .nil)
    have hpl2 : (pre.filter mq).length ≤ 8 := Nat.le_trans (List.length_filter_le _ _) (by omega)
    simp only [go_sem,simprocAttr,h1,h13,h15,Zp b1]
    refine Za howk ?_
    simp only [go_sem,simprocAttr]
    refine Za hwk ?_
    simp only [go_sem,simprocAttr,h13,Zp b1]
    refine Za hno ?_
    simp only [go_sem,simprocAttr,h13,Zp b1]
    refine Zfb hhx (by simp only [Zd,List.map_nil,List.append_nil,List.cons_append,List.nil_append,hx3]) rfl ?_
    simp only [go_sem,simprocAttr,h0,h13,Zp b1]
    refine Za hep ?_
    simp only [go_sem,simprocAttr]
    refine Za hsk ?_
    simp only [go_sem,simprocAttr,hlk]
    have n0 : NB (.c y) 0 := ha.nb_sz b0 (by show (7 : Nat) ≠ 2; decide)
    have n1 : NB (.c y) 1 := ha.nb_sz b1 (by show (6 : Nat) ≠ 2; decide)
    refine Acc.app_keep ha (by simp; omega) fun v' H' ha' keep => ?_
    obtain ⟨b0',m0'⟩ := keep 0 _ n0 b0
    obtain ⟨b1',m1'⟩ := keep 1 _ n1 b1
    obtain ⟨b6,ext6,rfl,_,h6⟩ := ha'.slc (by simp)
    simp only [go_sem,simprocAttr,h13,Zp b1',Zbk b1',Zb4 b1',h15,hn]
    have hrw : (((pre.filter mq).map wf).map Wrp.cells) ++ [[.int .i64 (pre.length : Int),.str bx]] = (((pre ++ [d]).filter mq).map wf).map Wrp.cells := by
     have : [d].filter mq = [d] := by rw [hd']; simp [hmq]
     rw [hf,this,Z4f,hd',hwfk]
    refine ih (pre ++ [d]) _ _ _ (by rw [hp]; simp) ?_ ?_ ?_ ?_ ?_ ?_ ?_ (Zq b0' (by omega)) (Zv b1') ?_
    ·simp only [go_sem,simprocAttr,h0]
    ·simp only [go_sem,simprocAttr,h1]
    ·simp only [go_sem,simprocAttr,h10]
    ·simp only [go_sem,simprocAttr,h11]
    ·simp only [go_sem,simprocAttr,h13]
    ·simp only [go_sem,simprocAttr,h14]
    ·simp only [go_sem,simprocAttr,hn]; simp
    ·rw [← hrw]; exact ha'.set_nb m1'
 have a1 := Zfi 6 (log.map Rec.cells) [boxM,boxR ((log.length : Int) + 1) pv kind dev .nilS ⟨#[]⟩]
 have p1 := Zef 6 (log.map Rec.cells) [boxM,boxR ((log.length : Int) + 1) pv kind dev .nilS ⟨#[]⟩]
 have n0 : NB (Zy 6 (log.map Rec.cells) [boxM,boxR ((log.length : Int) + 1) pv kind dev .nilS ⟨#[]⟩]) 0 := Zkg _ _ (by simp)
 have n1 : NB (Zy 6 (log.map Rec.cells) [boxM,boxR ((log.length : Int) + 1) pv kind dev .nilS ⟨#[]⟩]) 1 := Zkg _ _ (by simp)
 have q0 : (Z8 6 (log.map Rec.cells) [boxM,boxR ((log.length : Int) + 1) pv kind dev .nilS ⟨#[]⟩])[0]? = some boxM := Zdi p1 rfl
 have q1 : (Z8 6 (log.map Rec.cells) [boxM,boxR ((log.length : Int) + 1) pv kind dev .nilS ⟨#[]⟩])[1]? = some (boxR ((log.length : Int) + 1) pv kind dev .nilS ⟨#[]⟩) := Zdi p1 rfl
 simp only [go_sem,simprocAttr,h2,hap]
 generalize Zy 6 (log.map Rec.cells) [boxM,boxR ((log.length : Int) + 1) pv kind dev .nilS ⟨#[]⟩] = V1 at a1 n0 n1 ⊢
 generalize Z8 6 (log.map Rec.cells) [boxM,boxR ((log.length : Int) + 1) pv kind dev .nilS ⟨#[]⟩] = H1 at a1 q0 q1 ⊢
 simp only [go_sem,simprocAttr,h13,Zp q1,hlt]
 refine Acc.app_keep a1 (by simp; omega) fun V2 H2 a2 k2 => ?_
 obtain ⟨q0',m0⟩ := k2 0 _ n0 q0
 obtain ⟨q1',m1⟩ := k2 1 _ n1 q1
 simp only [go_sem,simprocAttr]
 refine Acc.fz_keep (sz := 6) (rows := log.map Rec.cells ++ [rowR ((log.length : Int) + 1) pv kind dev .nilS ⟨#[]⟩]) (by simp only [go_sem,simprocAttr]; exact a2) fun e' G k14 kc kp kb kl => ?_
 have g0 := kc 0 (sC secret) (by simp only [go_sem,simprocAttr,h0]) rfl (by omega)
 have g1 := kc 1 (sC master) (by simp only [go_sem,simprocAttr,h1]) rfl (by omega)
 have g11 := kc 11 (iC log.length) (by simp only [go_sem,simprocAttr,h11]) rfl (by omega)
 have g10 := kp 10 0 0 0 (by simp only [go_sem,simprocAttr,h10]) (by simp only [go_sem,simprocAttr]; exact m0)
 have g13 := kp 13 1 0 0 (by simp only [go_sem,simprocAttr,h13]) (by simp only [go_sem,simprocAttr]; exact m1)
 have b0 := kb 0 _ q0' (by simp only [go_sem,simprocAttr]; exact m0)
 have b1 := kb 1 _ q1' (by simp only [go_sem,simprocAttr]; exact m1)
 simp only [go_sem,simprocAttr]
 refine loop Zew [] .nilS _ _ rfl ?_ ?_ ?_ ?_ ?_ ?_ ?_ b0 b1 .nil
 all_goals simp only [go_sem,simprocAttr,List.length_nil,Int.natCast_zero,g0,g1,g10,g11,g13,k14]
theorem Z6a (secret master : ByteArray) (log : List Rec) (kind dev : Int) (hs : secret.size ≤ 1000000) (hm : master.size ≤ 1000000) (h9 : log.length ≤ 100000) :
  ∃ v E,CallSound Tryz.prog 30 [sC secret,sC master,.c (Zw log),iC kind,iC dev] [] v E ∧ MadeV (Ze3 secret master log kind dev).cells (Zcv log kind dev) v E :=
 Zl0 mixed Z99 (Z6u secret master log kind dev hs hm h9)
theorem MadeV.new {cs : List Cell} {n : Int} {u : AVal} {E : Heap} (h : MadeV cs n u E) : NewA E u (.agg (cs ++ [.int .i64 n])) := by
 obtain ⟨a,b,c,d,t,y,rows,rfl,hp,hr,rfl,hacc⟩ := h
 simp only [Zfn,Bool.and_eq_true,Bool.and_true] at hp
 obtain ⟨h1,h2,h3,h4,h5⟩ := hp
 exact .agg (.cons (.inl ⟨h1,rfl⟩) (.cons (.inl ⟨h2,rfl⟩) (.cons (.inl ⟨h3,rfl⟩) (.cons (.inl ⟨h4,rfl⟩) (.cons (.inr ⟨2,rows,rfl,hacc,hr⟩) (.cons (.inl ⟨h5,rfl⟩) (.cons (.inl ⟨rfl,rfl⟩) .nil)))))))
theorem Z8u (secret master : ByteArray) (log : List Rec) (kind dev : Int) (hs : secret.size ≤ 1000000) (hm : master.size ≤ 1000000) (h9 : log.length ≤ 100000) {H : Heap} {args : List AVal} (ha : Zd H args = some [sC secret,sC master,.c (Zw log),iC kind,iC dev]) :
  CallSound Tryz.prog 30 args H (.agg (Z8n (Ze3 secret master log kind dev) (Zcv log kind dev))) H := by
 obtain ⟨v,E,h1,h2⟩ := Z6a secret master log kind dev hs hm h9
 exact h1.freshV h2.new ha
theorem Z9l (secret master : ByteArray) (log : List Rec) (kind dev : Int) (hs : secret.size ≤ 1000000) (hm : master.size ≤ 1000000) (h9 : log.length ≤ 100000) :
  Pr 30 [sC secret,sC master,.c (Zw log),iC kind,iC dev] (.agg (Z8n (Ze3 secret master log kind dev) (Zcv log kind dev))) := fun H =>
 Z8u secret master log kind dev hs hm h9 (by simp [Zd,Zf,Ze,Zi,Zc,Zw,Z4])
def Wrp.ok (w : Wrp) : Prop := w.box.size ≤ maxLen
def Rec.ok (r : Rec) : Prop := r.prev.size ≤ maxLen ∧ r.tag.size ≤ maxLen ∧ r.wraps.length ≤ maxLen ∧ ∀ w ∈ r.wraps,w.ok
def EKey.ok (k : EKey) : Prop := k.key.size ≤ maxLen
def dWrp : D := .st [.int .i64,.str]
def dRec : D := .st [.int .i64,.str,.int .i64,.int .i64,.slc dWrp,.str]
def Zbcv : D := .st [.int .i64,.str]
theorem Zble (cs : List Cell) (h : TyD dWrp cs) : ∃ w : Wrp,cs = w.cells ∧ w.ok := by
 obtain ⟨a,_,rfl,ha,h⟩ := h.consF1 rfl
 obtain ⟨b,_,rfl,hb,h⟩ := h.consF1 rfl
 have := h.nilF; subst this
 obtain ⟨x,rfl,hx⟩ := ha.ints
 obtain ⟨y,rfl,hy⟩ := hb.strs
 exact ⟨⟨x,y⟩,rfl,hy⟩
theorem Zbhz (cs : List Cell) (h : TyD (.slc dWrp) cs) : ∃ l : List Wrp,cs = [Zx l] ∧ l.length ≤ maxLen ∧ ∀ w ∈ l,w.ok := h.listQ Zble
theorem Zbaq (cs : List Cell) (h : TyD dRec cs) : ∃ r : Rec,cs = r.cells ∧ r.ok := by
 obtain ⟨a,_,rfl,ha,h⟩ := h.consF1 rfl
 obtain ⟨b,_,rfl,hb,h⟩ := h.consF1 rfl
 obtain ⟨c,_,rfl,hc,h⟩ := h.consF1 rfl
 obtain ⟨d,_,rfl,hd,h⟩ := h.consF1 rfl
 obtain ⟨e,_,rfl,he,h⟩ := h.consF1 rfl
 obtain ⟨f,_,rfl,hf,h⟩ := h.consF1 rfl
 have := h.nilF; subst this
 obtain ⟨x1,rfl,_⟩ := ha.ints
 obtain ⟨x2,rfl,h2⟩ := hb.strs
 obtain ⟨x3,rfl,_⟩ := hc.ints
 obtain ⟨x4,rfl,_⟩ := hd.ints
 obtain ⟨x5,h5,h51,h52⟩ := Zbhz _ he
 injection h5 with h5; subst h5
 obtain ⟨x6,rfl,h6⟩ := hf.strs
 exact ⟨⟨x1,x2,x3,x4,x5,x6⟩,rfl,h2,h6,h51,h52⟩
theorem Zbg0 (cs : List Cell) (h : TyD (.slc dRec) cs) : ∃ l : List Rec,cs = [Zw l] ∧ l.length ≤ maxLen ∧ ∀ r ∈ l,r.ok := h.listQ Zbaq
theorem Zbit (cs : List Cell) (h : TyD Zbcv cs) : ∃ k : EKey,cs = k.cells ∧ k.ok := by
 obtain ⟨a,_,rfl,ha,h⟩ := h.consF1 rfl
 obtain ⟨b,_,rfl,hb,h⟩ := h.consF1 rfl
 have := h.nilF; subst this
 obtain ⟨x,rfl,hx⟩ := ha.ints
 obtain ⟨y,rfl,hy⟩ := hb.strs
 exact ⟨⟨x,y⟩,rfl,hy⟩
theorem Zbfb (cs : List Cell) (h : TyD (.slc Zbcv) cs) : ∃ l : List EKey,cs = [Zbj l] ∧ l.length ≤ maxLen ∧ ∀ k ∈ l,k.ok := h.listQ Zbit
theorem Zqp (n : Int) : Pr 19 [iC n] (iC n) := by
 refine Zl mixed Zbdt rfl fun hl T => ?_
 unfold Z8r
 simp only [go_sem,simprocAttr]
 simp [Zf,Ze,Zi,Zg,Zh,Zd,Zc,Zb]
def bigW (w : Wrp) : Bool := decide (400 < w.box.size)
def Zjq (r : Rec) : Bool := (r.wraps.take 20).any bigW || decide (12 < r.wraps.length) || decide (100 < r.prev.size) || decide (100 < r.tag.size)
theorem Zvz (r : Rec) : Pr 29 [.agg r.cells] (bC (Zjq r)) := by
 have hcl := Rec.closed r
 obtain ⟨v,hv⟩ : ∃ v,v = Zjq r := ⟨_,rfl⟩
 rw [← hv]
 unfold Zjq at hv
 refine Zl mixed Z8a (by simp [Zo,Zn,hcl]) fun hl T => ?_
 have hlen : r.wraps.length ≤ maxLen := by
  have h1 : lenC (Zx r.wraps) := hl (.agg r.cells) (by simp) _ (by simp [Rec.cells])
  simpa [lenC,Zx] using h1
 clear hl
 have hbx : ∀ H : Heap,mkF H (vBox (.agg r.cells) H) = some (.c (.fp r.cells 0)) := fun H => Zbs hcl
 unfold Zxs
 obtain ⟨seq,prev,kind,dv,wraps,tag⟩ := r
 simp only [Rec.cells,Zx] at hbx hcl ⊢
 simp only at hv hlen
 have hml : ((wraps.map Wrp.cells).length : Int) = (wraps.length : Int) := by simp
 have tail : ∀ (e : Env) (H : Heap),v = (decide (12 < wraps.length) || decide (100 < prev.size) || decide (100 < tag.size)) → e 1 = .c (.fp [.int .i64 seq,.str prev,.int .i64 kind,.int .i64 dv,.lst 2 (wraps.map Wrp.cells),.str tag] 0) →
   Run (Zu Tryz.prog T) ⟨[.tmp 2],fun u E => Zf E u = some (bC v)⟩ [.code Zlk] e H := by
  intro e H hvv h1
  unfold Zlk
  by_cases a1 : (12 : Int) < (wraps.length : Int)
  ·have a1' : 12 < wraps.length := by omega
   simp only [go_sem,simprocAttr,h1,hml,a1]
   simp [Zf,Ze,Zi,Zg,Zh,Zd,Zc,Zb,hvv,a1']
  ·have a1' : ¬ 12 < wraps.length := by omega
   by_cases a2 : (100 : Int) < (prev.size : Int)
   ·have a2' : 100 < prev.size := by omega
    simp only [go_sem,simprocAttr,h1,hml,a1,a2]
    simp [Zf,Ze,Zi,Zg,Zh,Zd,Zc,Zb,hvv,a2']
   ·have a2' : ¬ 100 < prev.size := by omega
    by_cases a3 : (100 : Int) < (tag.size : Int)
    ·have a3' : 100 < tag.size := by omega
     simp only [go_sem,simprocAttr,h1,hml,a1,a2,a3]
     simp [Zf,Ze,Zi,Zg,Zh,Zd,Zc,Zb,hvv,a3']
    ·have a3' : ¬ 100 < tag.size := by omega
     simp only [go_sem,simprocAttr,h1,hml,a1,a2,a3]
     simp [Zf,Ze,Zi,Zg,Zh,Zd,Zc,Zb,hvv,a1',a2',a3']
 have loop : ∀ (rest pre : List Wrp) (e : Env) (H : Heap),wraps = pre ++ rest → v = ((rest.take (20 - pre.length)).any bigW || decide (12 < wraps.length) || decide (100 < prev.size) || decide (100 < tag.size)) → e 1 = .c (.fp [.int .i64 seq,.str prev,.int .i64 kind,.int .i64 dv,.lst 2 (wraps.map Wrp.cells),.str tag] 0) → e 3 = iC pre.length →
   Run (Zu Tryz.prog T) ⟨[.tmp 2],fun u E => Zf E u = some (bC v)⟩ [.loop Zla,.blk 0,.code Zlk] e H := by
  intro rest
  induction rest with
  | nil =>
   intro pre e H hp hvv h1 h3
   have hc : ¬ ((pre.length : Int) < (wraps.length : Int)) := by rw [hp]; simp
   refine Zj ?_
   conv => enter [3,1]; unfold Zla
   simp only [go_sem,simprocAttr,h1,h3,hml,hc]
   refine tail _ _ (by rw [hvv]; simp) ?_
   simp only [go_sem,simprocAttr,h1]
  | cons x rest ih =>
   intro pre e H hp hvv h1 h3
   have hc : ((pre.length : Int) < (wraps.length : Int)) := by rw [hp]; simp; omega
   have hr := Zb6 (f := Wrp.cells) hp
   have hn := Zbt hp hlen
   obtain ⟨xd,xb⟩ := x
   simp only [Wrp.cells] at hr
   refine Zj ?_
   conv => enter [3,1]; unfold Zla
   by_cases c20 : ((pre.length : Int) < 20)
   ·have e20 : 20 - pre.length = (20 - (pre.length + 1)) + 1 := by omega
    rw [e20,List.take_succ_cons,List.any_cons] at hvv
    by_cases cb : (400 : Int) < (xb.size : Int)
    ·have hvt : v = true := by
      rw [hvv]
      have : bigW ⟨xd,xb⟩ = true := decide_eq_true (by show 400 < xb.size; omega)
      rw [this]; simp
     simp only [go_sem,simprocAttr,h1,h3,hml,hc,c20,hr,cb]
     simp [Zf,Ze,Zi,Zg,Zh,Zd,Zc,Zb,hvt]
    ·have hb : bigW ⟨xd,xb⟩ = false := decide_eq_false (by show ¬ 400 < xb.size; omega)
     rw [hb,Bool.false_or] at hvv
     simp only [go_sem,simprocAttr,h1,h3,hml,hc,c20,hr,cb,hn]
     refine ih (pre ++ [⟨xd,xb⟩]) _ _ (by rw [hp]; simp) (by simpa using hvv) ?_ ?_
     ·simp only [go_sem,simprocAttr,h1]
     ·simp only [go_sem,simprocAttr,hn]
   ·have e20 : 20 - pre.length = 0 := by omega
    rw [e20] at hvv
    simp only [go_sem,simprocAttr,h1,h3,hml,hc,c20]
    refine tail _ _ (by rw [hvv]; simp) ?_
    simp only [go_sem,simprocAttr,h1]
 simp only [go_sem,simprocAttr,hbx]
 refine loop wraps [] _ _ rfl (by simpa using hv) ?_ ?_
 all_goals simp only [go_sem,simprocAttr,List.length_nil,Int.natCast_zero]
theorem Zyt {r : Rec} (h : Zjq r = false) : (∀ w ∈ r.wraps,w.box.size ≤ 400) ∧ r.wraps.length ≤ 12 ∧ r.prev.size ≤ 100 ∧ r.tag.size ≤ 100 := by
 unfold Zjq at h
 simp only [Bool.or_eq_false_iff,decide_eq_false_iff_not] at h
 obtain ⟨⟨⟨h1,h2⟩,h3⟩,h4⟩ := h
 refine ⟨fun w hw => ?_,by omega,by omega,by omega⟩
 rw [List.take_of_length_le (by omega)] at h1
 have := List.any_eq_false.1 h1 w hw
 unfold bigW at this
 simpa using this
def Zsf (log : List Rec) : Bool := (log.take 50).any Zjq || decide (44 < log.length)
theorem Z7o (log : List Rec) : Pr 28 [.c (Zw log)] (bC (Zsf log)) := by
 obtain ⟨v,hv⟩ : ∃ v,v = Zsf log := ⟨_,rfl⟩
 rw [← hv]
 unfold Zsf at hv
 refine Zl mixed Z7e (by simp [Zo,Zn,Zc,Zw,Z4]) fun hl T => ?_
 have hlen : log.length ≤ maxLen := by simp [Zd7,lenA,lenC,Zw] at hl; exact hl
 clear hl
 unfold Zy8
 have hml : ((log.map Rec.cells).length : Int) = (log.length : Int) := by simp
 simp only [Zw]
 have tail : ∀ (e : Env) (H : Heap),v = decide (44 < log.length) → e 0 = .c (.lst 6 (log.map Rec.cells)) →
   Run (Zu Tryz.prog T) ⟨[.tmp 2],fun u E => Zf E u = some (bC v)⟩ [.code Zlm] e H := by
  intro e H hvv h0
  unfold Zlm
  by_cases a1 : (44 : Int) < (log.length : Int)
  ·have a1' : 44 < log.length := by omega
   simp only [go_sem,simprocAttr,h0,hml,a1]
   simp [Zf,Ze,Zi,Zg,Zh,Zd,Zc,Zb,hvv,a1']
  ·have a1' : ¬ 44 < log.length := by omega
   simp only [go_sem,simprocAttr,h0,hml,a1]
   simp [Zf,Ze,Zi,Zg,Zh,Zd,Zc,Zb,hvv,a1']
 have loop : ∀ (rest pre : List Rec) (e : Env) (H : Heap),log = pre ++ rest → v = ((rest.take (50 - pre.length)).any Zjq || decide (44 < log.length)) → e 0 = .c (.lst 6 (log.map Rec.cells)) → e 3 = iC pre.length →
   Run (Zu Tryz.prog T) ⟨[.tmp 2],fun u E => Zf E u = some (bC v)⟩ [.loop Zle,.blk 0,.code Zlm] e H := by
  intro rest
  induction rest with
  | nil =>
   intro pre e H hp hvv h0 h3
   have hc : ¬ ((pre.length : Int) < (log.length : Int)) := by rw [hp]; simp
   refine Zj ?_
   conv => enter [3,1]; unfold Zle
   simp only [go_sem,simprocAttr,h0,h3,hml,hc]
   refine tail _ _ (by rw [hvv]; simp) ?_
   simp only [go_sem,simprocAttr,h0]
  | cons x rest ih =>
   intro pre e H hp hvv h0 h3
   have hc : ((pre.length : Int) < (log.length : Int)) := by rw [hp]; simp; omega
   have hr := Zb6 (f := Rec.cells) hp
   have hn := Zbt hp hlen
   have hgx := Zvz x
   have hxl : x.cells.length = 6 := rfl
   have hxt : x.cells.take 6 = x.cells := rfl
   refine Zj ?_
   conv => enter [3,1]; unfold Zle
   by_cases c50 : ((pre.length : Int) < 50)
   ·have e50 : 50 - pre.length = (50 - (pre.length + 1)) + 1 := by omega
    rw [e50,List.take_succ_cons,List.any_cons] at hvv
    simp only [go_sem,simprocAttr,h0,h3,hml,hc,c50,hr,hxl,hxt]
    refine Za hgx ?_
    cases hg : Zjq x with
    | true =>
     have hvt : v = true := by rw [hvv,hg]; simp
     simp only [go_sem,simprocAttr]
     simp [Zf,Ze,Zi,Zg,Zh,Zd,Zc,Zb,hvt]
    | false =>
     rw [hg,Bool.false_or] at hvv
     simp only [go_sem,simprocAttr,h3,hn]
     refine ih (pre ++ [x]) _ _ (by rw [hp]; simp) (by simpa using hvv) ?_ ?_
     ·simp only [go_sem,simprocAttr,h0]
     ·simp only [go_sem,simprocAttr,hn]
   ·have e50 : 50 - pre.length = 0 := by omega
    rw [e50] at hvv
    simp only [go_sem,simprocAttr,h0,h3,hml,hc,c50]
    refine tail _ _ (by rw [hvv]; simp) ?_
    simp only [go_sem,simprocAttr,h0]
 simp only [go_sem,simprocAttr]
 refine loop log [] _ _ rfl (by simpa using hv) ?_ ?_
 all_goals simp only [go_sem,simprocAttr,List.length_nil,Int.natCast_zero]
theorem Z73 {log : List Rec} (h : Zsf log = false) : log.length ≤ 44 ∧ ∀ r ∈ log,Zjq r = false := by
 unfold Zsf at h
 simp only [Bool.or_eq_false_iff,decide_eq_false_iff_not] at h
 obtain ⟨h1,h2⟩ := h
 refine ⟨by omega,fun r hr => ?_⟩
 rw [List.take_of_length_le (by omega)] at h1
 simpa using List.any_eq_false.1 h1 r hr
abbrev exS : ByteArray := ⟨#[115]⟩
abbrev exM : ByteArray := ⟨#[109]⟩
theorem Z9d (secret master : ByteArray) (log : List Rec) (kind dev : Int) : ∀ w ∈ (Zci secret master log kind dev).wraps,w.box.size = 48 := fun w hw => by
 rw [Z13] at hw
 obtain ⟨m,_,rfl⟩ := List.mem_map.1 hw
 exact Zo9 _ _
theorem Z6s : Pr 15 [] (bC true) := by
 have z1 : Zcv [] 2 1 = 1 := by decide
 have r1 : Ze3 exS exM [] 2 1 = Ztu := by unfold Ze3; rw [if_neg (by rw [z1]; omega)]
 have m1 := Zpg exS exM [] 2 1 (by decide) (by decide) (by simp)
 rw [z1,r1] at m1
 have r2 : Ze3 exS exM [] 1 0 = Zci exS exM [] 1 0 := by unfold Ze3; rw [if_pos Zok]
 have m2 := Zpg exS exM [] 1 0 (by decide) (by decide) (by simp)
 rw [Zok,r2] at m2
 have m1' : Pr 17 [sC exS,sC exM,.c .nilS,iC 2,iC 1] (.tup [.agg Ztu.cells,iC 1]) := m1.wk (.cons (.same _) (.cons (.same _) (.cons (.c (.nilS _)) (.cons (.same _) (.cons (.same _) .nil)))))
 have m2' : Pr 17 [sC exS,sC exM,.c .nilS,iC 1,iC 0] (.tup [.agg (Zci exS exM [] 1 0).cells,iC 0]) := m2.wk (.cons (.same _) (.cons (.same _) (.cons (.c (.nilS _)) (.cons (.same _) (.cons (.same _) .nil)))))
 have hch : Chain exS exM [Zci exS exM [] 1 0] := .snoc .nil Zok
 have hmem := hch.zero (by simp)
 have hop := Zbdw (secret := exS) (master := exM) Zok 0
 have hl : (([] : List Rec).length : Int) + 1 = 1 := by decide
 have hl1 : (([Zci exS exM [] 1 0] : List Rec).length : Int) = 1 := rfl
 rw [hl1] at hmem
 rw [hl,List.nil_append,if_pos hmem] at hop
 have hown := Zzw exM 0 (by decide) (by omega)
 have hopn := Zph (ownK exM 0) (Zci exS exM [] 1 0) 0 (by rw [Zu5]; omega) (fun w hw => by rw [Z9d _ _ _ _ _ w hw]; omega)
 rw [hop] at hopn
 have hep := Zo1 exS 1 (by decide) (by omega)
 have hcl := Rec.closed (Zci exS exM [] 1 0)
 have n0 : ((0 : Nat) : Int) = 0 := rfl
 have n1 : ((1 : Nat) : Int) = 1 := rfl
 rw [n0] at hown
 rw [n1] at hep
 have num1 := Zqp 1
 have num0 := Zqp 0
 generalize Zck exS 1 = ek at hopn hep
 generalize ownK exM 0 = ok at hown hopn
 clear hop hmem hch m1 m2 r1 r2
 generalize Zci exS exM [] 1 0 = R at *
 refine Zl mixed Z8m rfl fun hl T => ?_
 unfold Zy1
 obtain ⟨seq,prev,kind,dv,wraps,tag⟩ := R
 simp only [Rec.cells,Ztu,Zx,List.map_nil] at m1' m2' hopn hcl
 simp only [go_sem,simprocAttr]
 refine Za m1' ?_
 simp only [go_sem,simprocAttr]
 refine Za m2' ?_
 simp only [go_sem,simprocAttr]
 refine Za hown ?_
 simp only [go_sem,simprocAttr]
 refine Za hopn ?_
 simp only [go_sem,simprocAttr,optS,Option.isSome,Option.getD]
 refine Za num1 ?_
 simp only [go_sem,simprocAttr]
 refine Za num0 ?_
 simp only [go_sem,simprocAttr]
 refine Za hep ?_
 simp only [go_sem,simprocAttr]
 simp [Zf,Ze,Zi,Zg,Zh,Zd,Zc,Zb]
end Go.Proofs.YticmfblfghdkbaaGreatDoor.Eng
