/- Parts of this claim's proof, joined. No statement of the seat is proved here. -/
import Derived.Test.YticmfblfghdkbaaGreatDoorV26
set_option linter.unusedVariables false
set_option linter.unusedSimpArgs false
namespace Go.Proofs.YticmfblfghdkbaaGreatDoor.Eng
open Go
def Zlb (r : Rec) (e : Int) : List Cell := r.cells ++ [.int .i64 e]
abbrev Zbgw : List Cell := [.int .i64 0,.str ⟨#[]⟩,.int .i64 0,.int .i64 0,.nilS,.str ⟨#[]⟩,.int .i64 0]
def Z88 (secret master : ByteArray) (rows : List (List Cell)) (kind dev N : Int) (m : Bool) (e : Env) (H : Heap) : Prop :=
 e 0 = sC secret ∧ e 1 = sC master ∧ e 2 = .c (.lst 6 rows) ∧ e 3 = iC kind ∧ e 4 = iC dev ∧ e 10 = .c (.ptr 0 0 0) ∧ e 11 = iC N ∧ e 12 = bC m ∧ H = [{ sz := 7,rows := [Zbgw],own := true,live := true }]
def MadeV (cs : List Cell) (n : Int) (u : AVal) (E : Heap) : Prop := ∃ a b c d t y rows,cs = [a,b,c,d,.lst 2 rows,t] ∧ Ze2 [a,b,c,d,t] = true ∧ Zgp rows = true ∧ u = .agg [a,b,c,d,y,t,.int .i64 n] ∧ Acc 2 rows (.c y) E
theorem Zb8 (E : Int) (G : Heap) : MadeV Zrp.cells E (.agg [.int .i64 0,.str ⟨#[]⟩,.int .i64 0,.int .i64 0,.nilS,.str ⟨#[]⟩,.int .i64 E]) G := ⟨_,_,_,_,_,.nilS,[],rfl,rfl,rfl,rfl,.nil⟩
def Zwk : ACode := .block 0 (.seq (.region [im 23 3,ii 24 (.bin .neq (.t 23) (ki 1)),im 25 24,ig 26 (.mv (.t 3)) 25 true,ig 27 (.bin .neq (.t 26) (ki 2)) 25 true,ii 28 (.pick (.t 25) (.t 27) (.k (.c (.bool false)))),im 29 28,ig 30 (.mv (.t 4)) 29 false,ig 31 (.bin .lss (.t 30) (ki 0)) 29 false,ii 32 (.pick (.t 29) (.k (.c (.bool true))) (.t 31)),im 33 32,ig 34 (.mv (.t 4)) 33 false,ig 35 (.bin .geq (.t 34) (ki 8)) 33 false,ii 36 (.pick (.t 33) (.k (.c (.bool true))) (.t 35)),im 37 36,ig 38 (.mv (.t 2)) 37 false,ig 39 (.call (.f 20) [.t 38]) 37 false,ig 40 (.un .not (.t 39)) 37 false,ii 41 (.pick (.t 37) (.k (.c (.bool true))) (.t 40)),im 42 41,ig 43 (.mv (.t 11)) 42 false,ig 44 (.bin .eql (.t 43) (ki 0)) 42 false,ig 45 (.mv (.t 44)) 42 false,ig 46 (.mv (.t 3)) 45 true,ig 47 (.bin .neq (.t 46) (ki 1)) 45 true,ig 48 (.mv (.t 47)) 45 true,ig 49 (.mv (.t 4)) 48 false,ig 50 (.bin .neq (.t 49) (ki 0)) 48 false,ig 51 (.pick (.t 48) (.k (.c (.bool true))) (.t 50)) 45 true,ig 52 (.pick (.t 45) (.t 51) (.k (.c (.bool false)))) 42 false,ii 53 (.pick (.t 42) (.k (.c (.bool true))) (.t 52)),im 54 53,ig 55 (.mv (.t 3)) 54 false,ig 56 (.bin .eql (.t 55) (ki 2)) 54 false,ig 57 (.mv (.t 56)) 54 false,ig 58 (.mv (.t 4)) 57 true,ig 59 (.bin .eql (.t 58) (ki 0)) 57 true,ig 60 (.pick (.t 57) (.t 59) (.k (.c (.bool false)))) 54 false,ii 61 (.pick (.t 54) (.k (.c (.bool true))) (.t 60)),im 22 61] false) (.cond (.t 22) (.seq (.region [ii 62 (.build [.int .i64 0,.str ⟨#[]⟩,.int .i64 0,.int .i64 0,.nilS,.str ⟨#[]⟩,.int .i64 0] [(6,1,.k (.c (.int .i64 1)))]),ie (.store 7 (.t 10) (.t 62))] false) .ret) (.seq (.region [im 64 3,ii 65 (.bin .eql (.t 64) (ki 1)),im 66 65,ig 67 (.mv (.t 12)) 66 true,ii 68 (.pick (.t 66) (.t 67) (.k (.c (.bool false)))),im 63 68] false) (.cond (.t 63) (.seq (.region [ii 69 (.build [.int .i64 0,.str ⟨#[]⟩,.int .i64 0,.int .i64 0,.nilS,.str ⟨#[]⟩,.int .i64 0] [(6,1,.k (.c (.int .i64 3)))]),ie (.store 7 (.t 10) (.t 69))] false) .ret) (.seq (.region [im 71 3,ii 72 (.bin .eql (.t 71) (ki 2)),im 73 72,ig 74 (.mv (.t 12)) 73 true,ig 75 (.un .not (.t 74)) 73 true,ii 76 (.pick (.t 73) (.t 75) (.k (.c (.bool false)))),im 70 76] false) (.cond (.t 70) (.seq (.region [ii 77 (.build [.int .i64 0,.str ⟨#[]⟩,.int .i64 0,.int .i64 0,.nilS,.str ⟨#[]⟩,.int .i64 0] [(6,1,.k (.c (.int .i64 2)))]),ie (.store 7 (.t 10) (.t 77))] false) .ret) (.seq (.region [im 79 11,ii 80 (.bin .geq (.t 79) (ki 40)),im 78 80] false) (.cond (.t 78) (.seq (.region [ii 81 (.build [.int .i64 0,.str ⟨#[]⟩,.int .i64 0,.int .i64 0,.nilS,.str ⟨#[]⟩,.int .i64 0] [(6,1,.k (.c (.int .i64 12)))]),ie (.store 7 (.t 10) (.t 81))] false) .ret) .skip))))))))
set_option maxHeartbeats 8000000 in
theorem Zy8 (secret master : ByteArray) (log : List Rec) (kind dev : Int) (T : Nat → Option AFun) (p : Post) (k : List Itm) (e : Env) (H : Heap) (h : Z88 secret master (log.map Rec.cells) kind dev log.length (memL log log.length dev) e H)
  (hp : p = ⟨[.cell 10 true 7],fun u E => MadeV (Zb9 secret master log kind dev).cells (Zbm log kind dev) u E⟩)
  (hok : Zbm log kind dev = 0 → ∀ e',Z88 secret master (log.map Rec.cells) kind dev log.length (memL log log.length dev) e' H → Run (Zt Tryz.prog T) p k e' H) : Run (Zt Tryz.prog T) p (.code Zwk :: k) e H := by
 have hck := Zs7 log
 obtain ⟨E,hE⟩ : ∃ E,E = Zbm log kind dev := ⟨_,rfl⟩
 have hR : E ≠ 0 → Zb9 secret master log kind dev = Zrp := fun h => by unfold Zb9; rw [if_neg (by rw [← hE]; exact h)]
 rw [← hE] at hok hp
 generalize Zb9 secret master log kind dev = RR at hR hp
 unfold Zbm at hE
 simp only [Z2] at hck
 generalize memL log log.length dev = m at hE h hok
 generalize Zdj log = ck at hck hE
 generalize log.map Rec.cells = rows at hck h hok
 have n0 : (log.length = 0) = ((log.length : Int) = 0) := by rw [Int.natCast_eq_zero]
 have n40 : (40 ≤ log.length) = ((40 : Int) ≤ (log.length : Int)) := by apply propext; omega
 simp only [n0,n40] at hE
 clear n0 n40
 generalize (log.length : Int) = N at hE h hok
 obtain ⟨h0,h1,h2,h3,h4,h10,h11,h12,rfl⟩ := h
 have q21 : ¬ ((2 : Int) = 1) := by omega
 have q12 : ¬ ((1 : Int) = 2) := by omega
 unfold Zwk
 by_cases k1 : kind = 1
 ·subst k1
  by_cases d1 : dev < 0
  ·have d0 : ¬ dev = 0 := by omega
   simp only [go_sem,simprocAttr,h2,h3,h4,h10,h11,h12,hp,q21,q12,eq_self,d1,d0]
   have hf : E = 1 := by simp [hE,q21,q12,eq_self,d1,d0]
   rw [hR (by omega),hf]
   exact Zb8 _ _
  by_cases d2 : 8 ≤ dev
  ·have d0 : ¬ dev = 0 := by omega
   simp only [go_sem,simprocAttr,h2,h3,h4,h10,h11,h12,hp,q21,q12,eq_self,d1,d2,d0]
   have hf : E = 1 := by simp [hE,q21,q12,eq_self,d1,d2,d0]
   rw [hR (by omega),hf]
   exact Zb8 _ _
  cases ck with
  | false =>
   simp only [go_sem,simprocAttr,h2,h3,h4,h10,h11,h12,hp,q21,q12,eq_self,d1,d2]
   refine Za hck ?_
   simp only [go_sem,simprocAttr,h2,h3,h4,h10,h11,h12,hp,q21,q12,eq_self,d1,d2]
   have hf : E = 1 := by simp [hE,q21,q12,eq_self,d1,d2]
   rw [hR (by omega),hf]
   exact Zb8 _ _
  | true =>
   by_cases d0 : dev = 0
   ·by_cases l0 : N = 0
    ·have l40 : ¬ (40 ≤ N) := by omega
     cases m with
     | false =>
      simp only [go_sem,simprocAttr,h2,h3,h4,h10,h11,h12,hp,q21,q12,eq_self,d1,d2,d0,l0,l40]
      refine Za hck ?_
      simp only [go_sem,simprocAttr,h2,h3,h4,h10,h11,h12,hp,q21,q12,eq_self,d1,d2,d0,l0,l40]
      have hf : E = 0 := by simp [hE,q21,q12,eq_self,d1,d2,d0,l0,l40]
      subst hp
      refine hok hf _ ⟨?_,?_,?_,?_,?_,?_,?_,?_,rfl⟩
      all_goals simp only [go_sem,simprocAttr,h0,h1,h2,h3,h4,h10,h11,h12]
     | true =>
      simp only [go_sem,simprocAttr,h2,h3,h4,h10,h11,h12,hp,q21,q12,eq_self,d1,d2,d0,l0,l40]
      refine Za hck ?_
      simp only [go_sem,simprocAttr,h2,h3,h4,h10,h11,h12,hp,q21,q12,eq_self,d1,d2,d0,l0,l40]
      have hf : E = 3 := by simp [hE,q21,q12,eq_self,d1,d2,d0,l0,l40]
      rw [hR (by omega),hf]
      exact Zb8 _ _
    ·by_cases l40 : 40 ≤ N
     ·cases m with
      | false =>
       simp only [go_sem,simprocAttr,h2,h3,h4,h10,h11,h12,hp,q21,q12,eq_self,d1,d2,d0,l0,l40]
       refine Za hck ?_
       simp only [go_sem,simprocAttr,h2,h3,h4,h10,h11,h12,hp,q21,q12,eq_self,d1,d2,d0,l0,l40]
       have hf : E = 12 := by simp [hE,q21,q12,eq_self,d1,d2,d0,l0,l40]
       rw [hR (by omega),hf]
       exact Zb8 _ _
      | true =>
       simp only [go_sem,simprocAttr,h2,h3,h4,h10,h11,h12,hp,q21,q12,eq_self,d1,d2,d0,l0,l40]
       refine Za hck ?_
       simp only [go_sem,simprocAttr,h2,h3,h4,h10,h11,h12,hp,q21,q12,eq_self,d1,d2,d0,l0,l40]
       have hf : E = 3 := by simp [hE,q21,q12,eq_self,d1,d2,d0,l0,l40]
       rw [hR (by omega),hf]
       exact Zb8 _ _
     ·cases m with
      | false =>
       simp only [go_sem,simprocAttr,h2,h3,h4,h10,h11,h12,hp,q21,q12,eq_self,d1,d2,d0,l0,l40]
       refine Za hck ?_
       simp only [go_sem,simprocAttr,h2,h3,h4,h10,h11,h12,hp,q21,q12,eq_self,d1,d2,d0,l0,l40]
       have hf : E = 0 := by simp [hE,q21,q12,eq_self,d1,d2,d0,l0,l40]
       subst hp
       refine hok hf _ ⟨?_,?_,?_,?_,?_,?_,?_,?_,rfl⟩
       all_goals simp only [go_sem,simprocAttr,h0,h1,h2,h3,h4,h10,h11,h12]
      | true =>
       simp only [go_sem,simprocAttr,h2,h3,h4,h10,h11,h12,hp,q21,q12,eq_self,d1,d2,d0,l0,l40]
       refine Za hck ?_
       simp only [go_sem,simprocAttr,h2,h3,h4,h10,h11,h12,hp,q21,q12,eq_self,d1,d2,d0,l0,l40]
       have hf : E = 3 := by simp [hE,q21,q12,eq_self,d1,d2,d0,l0,l40]
       rw [hR (by omega),hf]
       exact Zb8 _ _
   ·by_cases l0 : N = 0
    ·simp only [go_sem,simprocAttr,h2,h3,h4,h10,h11,h12,hp,q21,q12,eq_self,d1,d2,d0,l0]
     refine Za hck ?_
     simp only [go_sem,simprocAttr,h2,h3,h4,h10,h11,h12,hp,q21,q12,eq_self,d1,d2,d0,l0]
     have hf : E = 1 := by simp [hE,q21,q12,eq_self,d1,d2,d0,l0]
     rw [hR (by omega),hf]
     exact Zb8 _ _
    ·by_cases l40 : 40 ≤ N
     ·cases m with
      | false =>
       simp only [go_sem,simprocAttr,h2,h3,h4,h10,h11,h12,hp,q21,q12,eq_self,d1,d2,d0,l0,l40]
       refine Za hck ?_
       simp only [go_sem,simprocAttr,h2,h3,h4,h10,h11,h12,hp,q21,q12,eq_self,d1,d2,d0,l0,l40]
       have hf : E = 12 := by simp [hE,q21,q12,eq_self,d1,d2,d0,l0,l40]
       rw [hR (by omega),hf]
       exact Zb8 _ _
      | true =>
       simp only [go_sem,simprocAttr,h2,h3,h4,h10,h11,h12,hp,q21,q12,eq_self,d1,d2,d0,l0,l40]
       refine Za hck ?_
       simp only [go_sem,simprocAttr,h2,h3,h4,h10,h11,h12,hp,q21,q12,eq_self,d1,d2,d0,l0,l40]
       have hf : E = 3 := by simp [hE,q21,q12,eq_self,d1,d2,d0,l0,l40]
       rw [hR (by omega),hf]
       exact Zb8 _ _
     ·cases m with
      | false =>
       simp only [go_sem,simprocAttr,h2,h3,h4,h10,h11,h12,hp,q21,q12,eq_self,d1,d2,d0,l0,l40]
       refine Za hck ?_
       simp only [go_sem,simprocAttr,h2,h3,h4,h10,h11,h12,hp,q21,q12,eq_self,d1,d2,d0,l0,l40]
       have hf : E = 0 := by simp [hE,q21,q12,eq_self,d1,d2,d0,l0,l40]
       subst hp
       refine hok hf _ ⟨?_,?_,?_,?_,?_,?_,?_,?_,rfl⟩
       all_goals simp only [go_sem,simprocAttr,h0,h1,h2,h3,h4,h10,h11,h12]
      | true =>
       simp only [go_sem,simprocAttr,h2,h3,h4,h10,h11,h12,hp,q21,q12,eq_self,d1,d2,d0,l0,l40]
       refine Za hck ?_
       simp only [go_sem,simprocAttr,h2,h3,h4,h10,h11,h12,hp,q21,q12,eq_self,d1,d2,d0,l0,l40]
       have hf : E = 3 := by simp [hE,q21,q12,eq_self,d1,d2,d0,l0,l40]
       rw [hR (by omega),hf]
       exact Zb8 _ _
 ·by_cases k2 : kind = 2
  ·subst k2
   by_cases d1 : dev < 0
   ·have d0 : ¬ dev = 0 := by omega
    simp only [go_sem,simprocAttr,h2,h3,h4,h10,h11,h12,hp,q21,q12,k1,d1,d0]
    have hf : E = 1 := by simp [hE,q21,q12,k1,d1,d0]
    rw [hR (by omega),hf]
    exact Zb8 _ _
   by_cases d2 : 8 ≤ dev
   ·have d0 : ¬ dev = 0 := by omega
    simp only [go_sem,simprocAttr,h2,h3,h4,h10,h11,h12,hp,q21,q12,k1,d1,d2,d0]
    have hf : E = 1 := by simp [hE,q21,q12,k1,d1,d2,d0]
    rw [hR (by omega),hf]
    exact Zb8 _ _
   cases ck with
   | false =>
    simp only [go_sem,simprocAttr,h2,h3,h4,h10,h11,h12,hp,q21,q12,k1,d1,d2]
    refine Za hck ?_
    simp only [go_sem,simprocAttr,h2,h3,h4,h10,h11,h12,hp,q21,q12,k1,d1,d2]
    have hf : E = 1 := by simp [hE,q21,q12,k1,d1,d2]
    rw [hR (by omega),hf]
    exact Zb8 _ _
   | true =>
    by_cases d0 : dev = 0
    ·by_cases l0 : N = 0
     ·simp only [go_sem,simprocAttr,h2,h3,h4,h10,h11,h12,hp,q21,q12,k1,d1,d2,d0,l0]
      refine Za hck ?_
      simp only [go_sem,simprocAttr,h2,h3,h4,h10,h11,h12,hp,q21,q12,k1,d1,d2,d0,l0]
      have hf : E = 1 := by simp [hE,q21,q12,k1,d1,d2,d0,l0]
      rw [hR (by omega),hf]
      exact Zb8 _ _
     ·simp only [go_sem,simprocAttr,h2,h3,h4,h10,h11,h12,hp,q21,q12,k1,d1,d2,d0,l0]
      refine Za hck ?_
      simp only [go_sem,simprocAttr,h2,h3,h4,h10,h11,h12,hp,q21,q12,k1,d1,d2,d0,l0]
      have hf : E = 1 := by simp [hE,q21,q12,k1,d1,d2,d0,l0]
      rw [hR (by omega),hf]
      exact Zb8 _ _
    ·by_cases l0 : N = 0
     ·simp only [go_sem,simprocAttr,h2,h3,h4,h10,h11,h12,hp,q21,q12,k1,d1,d2,d0,l0]
      refine Za hck ?_
      simp only [go_sem,simprocAttr,h2,h3,h4,h10,h11,h12,hp,q21,q12,k1,d1,d2,d0,l0]
      have hf : E = 1 := by simp [hE,q21,q12,k1,d1,d2,d0,l0]
      rw [hR (by omega),hf]
      exact Zb8 _ _
     ·by_cases l40 : 40 ≤ N
      ·cases m with
       | false =>
        simp only [go_sem,simprocAttr,h2,h3,h4,h10,h11,h12,hp,q21,q12,k1,d1,d2,d0,l0,l40]
        refine Za hck ?_
        simp only [go_sem,simprocAttr,h2,h3,h4,h10,h11,h12,hp,q21,q12,k1,d1,d2,d0,l0,l40]
        have hf : E = 2 := by simp [hE,q21,q12,k1,d1,d2,d0,l0,l40]
        rw [hR (by omega),hf]
        exact Zb8 _ _
       | true =>
        simp only [go_sem,simprocAttr,h2,h3,h4,h10,h11,h12,hp,q21,q12,k1,d1,d2,d0,l0,l40]
        refine Za hck ?_
        simp only [go_sem,simprocAttr,h2,h3,h4,h10,h11,h12,hp,q21,q12,k1,d1,d2,d0,l0,l40]
        have hf : E = 12 := by simp [hE,q21,q12,k1,d1,d2,d0,l0,l40]
        rw [hR (by omega),hf]
        exact Zb8 _ _
      ·cases m with
       | false =>
        simp only [go_sem,simprocAttr,h2,h3,h4,h10,h11,h12,hp,q21,q12,k1,d1,d2,d0,l0,l40]
        refine Za hck ?_
        simp only [go_sem,simprocAttr,h2,h3,h4,h10,h11,h12,hp,q21,q12,k1,d1,d2,d0,l0,l40]
        have hf : E = 2 := by simp [hE,q21,q12,k1,d1,d2,d0,l0,l40]
        rw [hR (by omega),hf]
        exact Zb8 _ _
       | true =>
        simp only [go_sem,simprocAttr,h2,h3,h4,h10,h11,h12,hp,q21,q12,k1,d1,d2,d0,l0,l40]
        refine Za hck ?_
        simp only [go_sem,simprocAttr,h2,h3,h4,h10,h11,h12,hp,q21,q12,k1,d1,d2,d0,l0,l40]
        have hf : E = 0 := by simp [hE,q21,q12,k1,d1,d2,d0,l0,l40]
        subst hp
        refine hok hf _ ⟨?_,?_,?_,?_,?_,?_,?_,?_,rfl⟩
        all_goals simp only [go_sem,simprocAttr,h0,h1,h2,h3,h4,h10,h11,h12]
  ·simp only [go_sem,simprocAttr,h2,h3,h4,h10,h11,h12,hp,q21,q12,k1,k2]
   have hf : E = 1 := by simp [hE,q21,q12,k1,k2]
   rw [hR (by omega),hf]
   exact Zb8 _ _
theorem Pure.wk_row {P : Program} {f sz : Nat} {more : List AVal} {rows rows' : List (List Cell)} {v : AVal} (h : Pure P f (.c (.lst sz rows') :: more) v) (k : All2 (All2 WkC) rows rows') : Pure P f (.c (.lst sz rows) :: more) v := fun H => (h H).wk_row k
theorem Zv1 : ∀ l : List Wrp,Zgp (l.map Wrp.cells) = true
 | [] => rfl
 | w :: l => by simp only [List.map_cons,Zgp,Zv1 l,Bool.and_true]; rfl
abbrev boxM : Blk := { sz := 7,rows := [Zbgw],own := true,live := true }
abbrev rowR (n : Int) (pv : ByteArray) (kind dev : Int) (y : Cell) (tag : ByteArray) : List Cell := [.int .i64 n,.str pv,.int .i64 kind,.int .i64 dev,y,.str tag]
abbrev boxR (n : Int) (pv : ByteArray) (kind dev : Int) (y : Cell) (tag : ByteArray) : Blk := { sz := 6,rows := [rowR n pv kind dev y tag],own := true,live := true }
theorem Zbaa {secret master : ByteArray} {log : List Rec} {kind dev : Int} (hz : Zbm log kind dev = 0) {pre rest : List Int} (hp : Zda = pre ++ rest) (q : Int → Bool) :
  Zcr { Zbj log kind dev with wraps := (pre.filter q).map (Zd8 secret master (Zbj log kind dev)) } = Zcr (Zbj log kind dev) := by
 have hb := Zq0 hz
 have hs : pre.Pairwise (· < ·) := by
  have h : Zda.Pairwise (· < ·) := by decide
  rw [hp,List.pairwise_append] at h
  exact h.1
 have h8 : ∀ m ∈ pre,0 ≤ m ∧ m < 8 := fun m h => Zwz.1 (by rw [hp]; simp [h])
 refine Z1g hb (Zwv hb rfl rfl rfl rfl (.inr rfl) ?_) rfl rfl rfl rfl
 exact Zt0 _ (fun _ => rfl) (fun m => by rw [Zn5]; omega) _ none (hs.filter q) (fun m hm => h8 m (List.mem_filter.1 hm).1) (fun q hq => by cases hq)
theorem Zwe {x : List Cell} (hx : Zb x = true) : ∀ rows : List (List Cell),closedR rows = true → closedR (rows ++ [x]) = true
 | [],_ => by simp [closedR,hx]
 | y :: rows,h => by
  simp only [List.cons_append,closedR,Bool.and_eq_true] at h ⊢
  exact ⟨h.1,Zwe hx rows h.2⟩
set_option maxHeartbeats 4000000 in
theorem Z44 (secret master : ByteArray) (log : List Rec) (kind dev : Int) (hs : secret.size ≤ 1000000) (hm : master.size ≤ 1000000) (h9 : log.length ≤ 100000) (T : Nat → Option AFun) :
  Run (Zt Tryz.prog T) ⟨Zmu.res,fun u E => MadeV (Zb9 secret master log kind dev).cells (Zbm log kind dev) u E⟩ [.code Zmu.body] (Zc5 [sC secret,sC master,.c (Z2 log),iC kind,iC dev]) [] := by
 have hin := Zhf log log.length dev
 unfold Zmu
 have hml : ((log.map Rec.cells).length : Int) = (log.length : Int) := by simp
 simp only [Z2] at hin ⊢
 refine Zea (P := fun e H => e 0 = sC secret ∧ e 1 = sC master ∧ e 2 = .c (.lst 6 (log.map Rec.cells)) ∧ e 3 = iC kind ∧ e 4 = iC dev ∧ e 10 = .c (.ptr 0 0 0) ∧ H = [boxM]) (fun K hK => ?_) fun e H h => ?_
 ·simp only [go_sem,simprocAttr]
  refine hK _ _ ⟨?_,?_,?_,?_,?_,?_,rfl⟩
  all_goals simp only [go_sem,simprocAttr]
 obtain ⟨h0,h1,h2,h3,h4,h10,rfl⟩ := h
 refine Zea (P := fun e H => e 0 = sC secret ∧ e 1 = sC master ∧ e 2 = .c (.lst 6 (log.map Rec.cells)) ∧ e 3 = iC kind ∧ e 4 = iC dev ∧ e 10 = .c (.ptr 0 0 0) ∧ e 11 = iC log.length ∧ H = [boxM]) (fun K hK => ?_) fun e' H h => ?_
 ·simp only [go_sem,simprocAttr,h2,hml]
  refine hK _ _ ⟨?_,?_,?_,?_,?_,?_,?_,rfl⟩
  all_goals simp only [go_sem,simprocAttr,h0,h1,h2,h3,h4,h10]
 clear h0 h1 h2 h3 h4 h10
 obtain ⟨h0,h1,h2,h3,h4,h10,h11,rfl⟩ := h
 refine Zea (P := Z88 secret master (log.map Rec.cells) kind dev log.length (memL log log.length dev)) (fun K hK => ?_) fun e2 H h => ?_
 ·simp only [go_sem,simprocAttr,h2,h4,h11]
  refine Za hin ?_
  simp only [go_sem,simprocAttr]
  refine hK _ _ ⟨?_,?_,?_,?_,?_,?_,?_,?_,rfl⟩
  all_goals simp only [go_sem,simprocAttr,h0,h1,h2,h3,h4,h10,h11]
 clear h0 h1 h2 h3 h4 h10 h11 e e'
 rw [Zuy]
 refine Zy8 secret master log kind dev T _ _ e2 H h rfl fun hz e h' => ?_
 have hH := h.2.2.2.2.2.2.2.2
 clear h
 obtain ⟨h0,h1,h2,h3,h4,h10,h11,h12,_⟩ := h'
 subst hH
 clear e2 h12
 have hmr : Zb9 secret master log kind dev = Zb1 secret master log kind dev := by unfold Zb9; rw [if_pos hz]
 rw [hmr,hz]
 obtain ⟨z1,z2,z3,z4,z5,z6,z7,z8⟩ := Zgj hz
 have hw1 : IntKind.wrap .i64 ((log.length : Int) + 1) = (log.length : Int) + 1 := Zn (by omega)
 have hw2 : IntKind.wrap .i64 ((log.length : Int) - 1) = (log.length : Int) - 1 := Zn (by omega)
 refine Zea (P := fun e H => e 0 = sC secret ∧ e 1 = sC master ∧ e 2 = .c (.lst 6 (log.map Rec.cells)) ∧ e 10 = .c (.ptr 0 0 0) ∧ e 11 = iC log.length ∧ e 13 = .c (.ptr 1 0 0) ∧ H = [boxM,boxR ((log.length : Int) + 1) ⟨#[]⟩ kind dev .nilS ⟨#[]⟩]) (fun K hK => ?_) fun e' H h => ?_
 ·simp only [go_sem,simprocAttr,h3,h4,h11,hw1]
  refine hK _ _ ⟨?_,?_,?_,?_,?_,?_,rfl⟩
  all_goals simp only [go_sem,simprocAttr,h0,h1,h2,h10,h11]
 clear h0 h1 h2 h3 h4 h10 h11 e
 obtain ⟨h0,h1,h2,h10,h11,h13,rfl⟩ := h
 refine Zea (P := fun e H => e 0 = sC secret ∧ e 1 = sC master ∧ e 2 = .c (.lst 6 (log.map Rec.cells)) ∧ e 10 = .c (.ptr 0 0 0) ∧ e 11 = iC log.length ∧ e 13 = .c (.ptr 1 0 0) ∧ H = [boxM,boxR ((log.length : Int) + 1) (Zbe log) kind dev .nilS ⟨#[]⟩]) (fun K hK => ?_) fun e H h => ?_
 ·by_cases hn : log = []
  ·have hpos : ¬ ((0 : Int) < (log.length : Int)) := by rw [hn]; simp
   have hp0 : Zbe log = ⟨#[]⟩ := by rw [hn]; rfl
   rw [hp0] at hK
   simp only [go_sem,simprocAttr,h11,hpos]
   refine hK _ _ ⟨?_,?_,?_,?_,?_,?_,rfl⟩
   all_goals simp only [go_sem,simprocAttr,h0,h1,h2,h10,h11,h13]
  ·obtain ⟨l,hl1,hl2⟩ := Z39 hn
   have hpos : (0 : Int) < (log.length : Int) := by have := List.length_pos_iff.2 hn; omega
   have hti : ((log.length : Int) - 1).toNat = log.length - 1 := by omega
   have hge : (0 : Int) ≤ (log.length : Int) - 1 := by omega
   have hhash := Zva l
   rw [hl2] at hhash
   have hlen6 : l.cells.length = 6 := rfl
   have htk6 : l.cells.take 6 = l.cells := rfl
   have hix : ∀ H : Heap,vIx 6 (.c (.lst 6 (log.map Rec.cells))) (iC ((log.length : Int) - 1)) H = some (.c (.fp l.cells 0),H) := fun H => by
    simp only [vIx]
    rw [if_pos ⟨trivial,hge⟩,hti,hl1]
   simp only [go_sem,simprocAttr,h2,h11,hpos,hw2,hix,hlen6,htk6]
   refine Za hhash ?_
   simp only [go_sem,simprocAttr,h13]
   refine hK _ _ ⟨?_,?_,?_,?_,?_,?_,rfl⟩
   all_goals simp only [go_sem,simprocAttr,h0,h1,h2,h10,h11,h13]
 clear h0 h1 h2 h10 h11 h13 e'
 obtain ⟨h0,h1,h2,h10,h11,h13,rfl⟩ := h
 have hcb : Zb (rowR ((log.length : Int) + 1) (Zbe log) kind dev .nilS ⟨#[]⟩) = true := rfl
 have hinB := fun d : Int => Zhf (log ++ [Zbj log kind dev]) ((log.length : Int) + 1) d
 have hbc : (Zbj log kind dev).cells = [.int .i64 ((log.length : Int) + 1),.str (Zbe log),.int .i64 kind,.int .i64 dev,.lst 2 [],.str ⟨#[]⟩] := rfl
 have hinB' : ∀ d : Int,Pr 18 [.c (.lst 6 (log.map Rec.cells ++ [rowR ((log.length : Int) + 1) (Zbe log) kind dev .nilS ⟨#[]⟩])),iC ((log.length : Int) + 1),iC d] (bC (memL (log ++ [Zbj log kind dev]) ((log.length : Int) + 1) d)) := fun d => by
  have := hinB d
  simp only [Z2] at this
  rw [← Z02,hbc] at this
  exact this.wk_row (Zz5 (.cons (.same _) (.cons (.same _) (.cons (.same _) (.cons (.same _) (.cons (.nilS _) (.cons (.same _) .nil)))))) _)
 have hrow2 : closedR (log.map Rec.cells ++ [rowR ((log.length : Int) + 1) (Zbe log) kind dev .nilS ⟨#[]⟩]) = true := Zwe hcb _ (Zb5 log)
 have hhead := fun pre rest (hp : Zda = pre ++ rest) => Zbaa (secret := secret) (master := master) hz hp (memL (log ++ [Zbj log kind dev]) ((log.length : Int) + 1))
 have hhd := fun ws : List Wrp => Z58 { Zbj log kind dev with wraps := ws }
 have hhs := Zrh (Zbj log kind dev)
 have hep := Znt secret (log.length + 1) hs (by omega)
 have hen : ((log.length + 1 : Nat) : Int) = (log.length : Int) + 1 := by omega
 rw [hen] at hep
 have hno := Z4h ((log.length : Int) + 1)
 have hown := fun k : Nat => fun hk : k < 8 => Zyr master k hm (by omega)
 have hwrp := fun k : Nat => Z52 (ownK master k) (by rw [Ztn]; omega)
 have hseal := fun k : Nat => Z8i (Zdf (ownK master k)) (Zc6 ((log.length : Int) + 1)) (Zcr (Zbj log kind dev)) (Zce secret ((log.length : Int) + 1)) hhs
 have htag := Z8g (Zce secret log.length) (Zdu secret master log kind dev) (by rw [Zik]; omega)
 have hepl := Znt secret log.length hs (by omega)
 have hnc := Zxj secret master log kind dev
 have hnc0 := Zv0 secret master log kind dev
 have hms : Zb3 (log ++ [Zbj log kind dev]) ((log.length : Int) + 1) = Zda.filter (memL (log ++ [Zbj log kind dev]) ((log.length : Int) + 1)) := rfl
 rw [Zl6,hms] at htag hnc0
 rw [hms] at hnc
 have hwf : ∀ m,Zd8 secret master (Zbj log kind dev) m = ⟨m,Zc2 (Zdf (ownK master m)) (Zc6 ((log.length : Int) + 1)) (Zcr (Zbj log kind dev)) (Zce secret ((log.length : Int) + 1))⟩ := fun m => rfl
 have hhd' : ∀ ws : List Wrp,Pr 75 [.agg (rowR ((log.length : Int) + 1) (Zbe log) kind dev (.lst 2 (ws.map Wrp.cells)) ⟨#[]⟩)] (sC (Zcr { Zbj log kind dev with wraps := ws })) := hhd
 clear hhd hinB hms
 have hhd2 : ∀ pre rest,Zda = pre ++ rest → Pr 75 [.agg (rowR ((log.length : Int) + 1) (Zbe log) kind dev (.lst 2 (((pre.filter (memL (log ++ [Zbj log kind dev]) ((log.length : Int) + 1))).map (Zd8 secret master (Zbj log kind dev))).map Wrp.cells)) ⟨#[]⟩)] (sC (Zcr (Zbj log kind dev))) := fun pre rest hp => by
  have := hhd' ((pre.filter (memL (log ++ [Zbj log kind dev]) ((log.length : Int) + 1))).map (Zd8 secret master (Zbj log kind dev)))
  rw [hhead pre rest hp] at this
  exact this
 clear hhd' hhead
 generalize Zcr (Zbj log kind dev) = hd at hhd2 hhs hseal hwf
 generalize tagR (Zce secret log.length) (Zdu secret master log kind dev) = TG at htag hnc
 generalize Zd8 secret master (Zbj log kind dev) = wf at htag hnc hnc0 hwf hhd2
 generalize memL (log ++ [Zbj log kind dev]) ((log.length : Int) + 1) = mq at htag hnc hnc0 hhd2 hinB'
 generalize Zbe log = pv at *
 generalize Zce secret ((log.length : Int) + 1) = ek at hep hseal hwf
 generalize Zc6 ((log.length : Int) + 1) = nn at hno hseal hwf
 generalize Zce secret log.length = el at htag hepl
 have hclw : ∀ l : List Wrp,closedR (l.map Wrp.cells) = true := Zjy
 have hlt : ∀ H : Heap,mkF H (vLit 6 1 (some [rowR ((log.length : Int) + 1) pv kind dev .nilS ⟨#[]⟩]) H) = some (.c (.lst 6 [rowR ((log.length : Int) + 1) pv kind dev .nilS ⟨#[]⟩])) := fun H => Zgk rfl
 have hap : ∀ H : Heap,Zem 6 80 (.c (.zer 6)) (.c (.lst 6 (log.map Rec.cells))) H = some (Zdd 6 (log.map Rec.cells) H,Zdw 6 (log.map Rec.cells) H) := fun H => Z4f (by simp; omega)
 have loop : ∀ (rest pre : List Int) (y : Cell) (e : Env) (H : Heap),Zda = pre ++ rest → e 0 = sC secret → e 1 = sC master → e 10 = .c (.ptr 0 0 0) → e 11 = iC log.length → e 13 = .c (.ptr 1 0 0) → e 14 = .c (.lst 6 (log.map Rec.cells ++ [rowR ((log.length : Int) + 1) pv kind dev .nilS ⟨#[]⟩])) → e 15 = iC pre.length →
   H[0]? = some boxM → H[1]? = some (boxR ((log.length : Int) + 1) pv kind dev y ⟨#[]⟩) → Acc 2 (((pre.filter mq).map wf).map Wrp.cells) (.c y) H →
   Run (Zt Tryz.prog T) ⟨[.cell 10 true 7],fun u E => MadeV (Zb1 secret master log kind dev).cells 0 u E⟩ [.loop Zkx,.blk 1,.code Zpr] e H := by
  intro rest
  induction rest with
  | nil =>
   intro pre y e H hp h0 h1 h10 h11 h13 h14 h15 b0 b1 ha
   have hpl : pre.length = 8 := by have := congrArg List.length hp; simpa [Zda] using this.symm
   have hc : ¬ ((pre.length : Int) < 8) := by omega
   rw [List.append_nil] at hp
   rw [← hp] at ha
   have n0 : NB (.c y) 0 := ha.nb_sz b0 (by show (7 : Nat) ≠ 2; decide)
   have n1 : NB (.c y) 1 := ha.nb_sz b1 (by show (6 : Nat) ≠ 2; decide)
   refine Zi ?_
   conv => enter [3,1]; unfold Zkx
   simp only [go_sem,simprocAttr,h15,hc]
   unfold Zpr
   have hpw : ∀ l : List Wrp,Zgp (l.map Wrp.cells) = true := Zv1
   by_cases hl0 : log.length = 0
   ·have c1 : ¬ ((0 : Int) < (log.length : Int)) := by omega
    rw [hnc0 hl0]
    have e1 := ha.set_nb (b := 0) (B := { sz := 7,rows := [[.int .i64 ((log.length : Int) + 1),.str pv,.int .i64 kind,.int .i64 dev,y,.str ⟨#[]⟩,.int .i64 0]],own := true,live := true }) n0
    simp only [go_sem,simprocAttr,h10,h11,h13,Zu b1,c1,Zu b0,Zdq b0,Ze0 b0]
    simp only [go_sem,simprocAttr,h10,Zu (Zw b0)]
    exact ⟨_,_,_,_,_,y,_,rfl,rfl,hpw _,rfl,e1⟩
   ·have c1 : ((0 : Int) < (log.length : Int)) := by omega
    rw [hnc hl0]
    obtain ⟨x,hx1,hx2,hx3,hx4⟩ := Znc ha (hclw _) ((log.length : Int) + 1) kind dev pv ⟨#[]⟩
    have htg : Pr 35 [sC el,.agg [.int .i64 ((log.length : Int) + 1),.str pv,.int .i64 kind,.int .i64 dev,x,.str ⟨#[]⟩]] (sC TG) := htag.wk (.cons (.same _) (.cons hx4 .nil))
    simp only [go_sem,simprocAttr,h0,h11,c1]
    refine Za hepl ?_
    simp only [go_sem,simprocAttr,h13,Zu b1]
    refine Zfp htg (by simp only [Zd,List.map_nil,List.append_nil,List.cons_append,List.nil_append,hx3]; simp [Zf,Ze,Zk,Zg,Zh,Zd,Zc,Zb]) rfl ?_
    obtain ⟨s1,s0⟩ := Z7c b0 b1 (boxR ((log.length : Int) + 1) pv kind dev y TG)
    have e1 := (ha.set_nb (b := 1) (B := boxR ((log.length : Int) + 1) pv kind dev y TG) n1).set_nb (b := 0) (B := { sz := 7,rows := [[.int .i64 ((log.length : Int) + 1),.str pv,.int .i64 kind,.int .i64 dev,y,.str TG,.int .i64 0]],own := true,live := true }) n0
    simp only [go_sem,simprocAttr,h10,h13,Zu b1,Zdq b1,Ze0 b1]
    simp only [go_sem,simprocAttr,h10,h13,Zu s1,Zu s0,Zdq s0,Ze0 s0,Zu (Zw s0)]
    exact ⟨_,_,_,_,_,y,_,rfl,rfl,hpw _,rfl,e1⟩
  | cons d rest ih =>
   intro pre y e H hp h0 h1 h10 h11 h13 h14 h15 b0 b1 ha
   have hpl : pre.length < 8 := by have := congrArg List.length hp; simp [Zda] at this; omega
   have hc : ((pre.length : Int) < 8) := by omega
   have hd' : d = (pre.length : Int) := by
    have h1 : Zda[pre.length]? = some d := by rw [hp]; simp
    rw [Z0b _ hpl] at h1
    injection h1 with h1
    exact h1.symm
   have hn : IntKind.wrap .i64 ((pre.length : Int) + 1) = ((pre.length + 1 : Nat) : Int) := by rw [Zn (by omega)]; omega
   have hf := List.filter_append (p := mq) pre [d]
   have hind := hinB' d
   rw [hd'] at hind
   refine Zi ?_
   conv => enter [3,1]; unfold Zkx
   simp only [go_sem,simprocAttr,h11,h14,h15,hc,hw1]
   refine Za hind ?_
   cases hmq : mq (pre.length : Int) with
   | false =>
    simp only [go_sem,simprocAttr,h15,hn]
    refine ih (pre ++ [d]) y _ _ (by rw [hp]; simp) ?_ ?_ ?_ ?_ ?_ ?_ ?_ b0 b1 ?_
    ·simp only [go_sem,simprocAttr,h0]
    ·simp only [go_sem,simprocAttr,h1]
    ·simp only [go_sem,simprocAttr,h10]
    ·simp only [go_sem,simprocAttr,h11]
    ·simp only [go_sem,simprocAttr,h13]
    ·simp only [go_sem,simprocAttr,h14]
    ·simp only [go_sem,simprocAttr,hn]; simp
    ·rw [hf]
     have : [d].filter mq = [] := by rw [hd']; simp [hmq]
     rw [this,List.append_nil]
     exact ha
   | true =>
    have howk := hown pre.length hpl
    have hwk := hwrp pre.length
    have hsk := hseal pre.length
    have hwfk := hwf (pre.length : Int)
    have hhdp := hhd2 pre (d :: rest) hp
    generalize Zc2 (Zdf (ownK master pre.length)) nn hd ek = bx at hsk hwfk
    generalize Zdf (ownK master pre.length) = wk at hwk hsk
    generalize ownK master pre.length = ok at howk hwk
    have hlk : ∀ H : Heap,mkF H (vLit 2 1 (some [[.int .i64 (pre.length : Int),.str bx]]) H) = some (.c (.lst 2 [[.int .i64 (pre.length : Int),.str bx]])) := fun H => Zgk rfl
    obtain ⟨x,hx1,hx2,hx3,hx4⟩ := Znc ha (hclw _) ((log.length : Int) + 1) kind dev pv ⟨#[]⟩
    have hhx := hhdp.wk (.cons hx4 .nil)
    have hpl2 : (pre.filter mq).length ≤ 8 := Nat.le_trans (List.length_filter_le _ _) (by omega)
    simp only [go_sem,simprocAttr,h1,h13,h15,Zu b1]
    refine Za howk ?_
    simp only [go_sem,simprocAttr]
    refine Za hwk ?_
    simp only [go_sem,simprocAttr,h13,Zu b1]
    refine Za hno ?_
    simp only [go_sem,simprocAttr,h13,Zu b1]
    refine Zfp hhx (by simp only [Zd,List.map_nil,List.append_nil,List.cons_append,List.nil_append,hx3]) rfl ?_
    simp only [go_sem,simprocAttr,h0,h13,Zu b1]
    refine Za hep ?_
    simp only [go_sem,simprocAttr]
    refine Za hsk ?_
    simp only [go_sem,simprocAttr,hlk]
    have n0 : NB (.c y) 0 := ha.nb_sz b0 (by show (7 : Nat) ≠ 2; decide)
    have n1 : NB (.c y) 1 := ha.nb_sz b1 (by show (6 : Nat) ≠ 2; decide)
    refine Acc.app_keep ha (by simp; omega) fun v' H' ha' keep => ?_
    obtain ⟨b0',m0'⟩ := keep 0 _ n0 b0
    obtain ⟨b1',m1'⟩ := keep 1 _ n1 b1
    obtain ⟨b6,ext6,rfl,_,h6⟩ := ha'.slc (by simp)
    simp only [go_sem,simprocAttr,h13,Zu b1',Zdq b1',Ze0 b1',h15,hn]
    have hrw : (((pre.filter mq).map wf).map Wrp.cells) ++ [[.int .i64 (pre.length : Int),.str bx]] = (((pre ++ [d]).filter mq).map wf).map Wrp.cells := by
     have : [d].filter mq = [d] := by rw [hd']; simp [hmq]
     rw [hf,this,Z09,hd',hwfk]
    refine ih (pre ++ [d]) _ _ _ (by rw [hp]; simp) ?_ ?_ ?_ ?_ ?_ ?_ ?_ (Zo b0' (by omega)) (Zw b1') ?_
    ·simp only [go_sem,simprocAttr,h0]
    ·simp only [go_sem,simprocAttr,h1]
    ·simp only [go_sem,simprocAttr,h10]
    ·simp only [go_sem,simprocAttr,h11]
    ·simp only [go_sem,simprocAttr,h13]
    ·simp only [go_sem,simprocAttr,h14]
    ·simp only [go_sem,simprocAttr,hn]; simp
    ·rw [← hrw]; exact ha'.set_nb m1'
 have a1 := Zug 6 (log.map Rec.cells) [boxM,boxR ((log.length : Int) + 1) pv kind dev .nilS ⟨#[]⟩]
 have p1 := Zol 6 (log.map Rec.cells) [boxM,boxR ((log.length : Int) + 1) pv kind dev .nilS ⟨#[]⟩]
 have n0 : NB (Zdd 6 (log.map Rec.cells) [boxM,boxR ((log.length : Int) + 1) pv kind dev .nilS ⟨#[]⟩]) 0 := Zn7 _ _ (by simp)
 have n1 : NB (Zdd 6 (log.map Rec.cells) [boxM,boxR ((log.length : Int) + 1) pv kind dev .nilS ⟨#[]⟩]) 1 := Zn7 _ _ (by simp)
 have q0 : (Zdw 6 (log.map Rec.cells) [boxM,boxR ((log.length : Int) + 1) pv kind dev .nilS ⟨#[]⟩])[0]? = some boxM := Zm8 p1 rfl
 have q1 : (Zdw 6 (log.map Rec.cells) [boxM,boxR ((log.length : Int) + 1) pv kind dev .nilS ⟨#[]⟩])[1]? = some (boxR ((log.length : Int) + 1) pv kind dev .nilS ⟨#[]⟩) := Zm8 p1 rfl
 simp only [go_sem,simprocAttr,h2,hap]
 generalize Zdd 6 (log.map Rec.cells) [boxM,boxR ((log.length : Int) + 1) pv kind dev .nilS ⟨#[]⟩] = V1 at a1 n0 n1 ⊢
 generalize Zdw 6 (log.map Rec.cells) [boxM,boxR ((log.length : Int) + 1) pv kind dev .nilS ⟨#[]⟩] = H1 at a1 q0 q1 ⊢
 simp only [go_sem,simprocAttr,h13,Zu q1,hlt]
 refine Acc.app_keep a1 (by simp; omega) fun V2 H2 a2 k2 => ?_
 obtain ⟨q0',m0⟩ := k2 0 _ n0 q0
 obtain ⟨q1',m1⟩ := k2 1 _ n1 q1
 simp only [go_sem,simprocAttr]
 refine Acc.fz_keep (sz := 6) (rows := log.map Rec.cells ++ [rowR ((log.length : Int) + 1) pv kind dev .nilS ⟨#[]⟩]) (by simp only [go_sem,simprocAttr]; exact a2) fun e' G k14 kc kp kb kl => ?_
 have g0 := kc 0 (sC secret) (by simp only [go_sem,simprocAttr,h0]) rfl (by omega)
 have g1 := kc 1 (sC master) (by simp only [go_sem,simprocAttr,h1]) rfl (by omega)
 have g11 := kc 11 (iC log.length) (by simp only [go_sem,simprocAttr,h11]) rfl (by omega)
 have g10 := kp 10 0 0 0 (by simp only [go_sem,simprocAttr,h10]) (by simp only [go_sem,simprocAttr]; exact m0)
 have g13 := kp 13 1 0 0 (by simp only [go_sem,simprocAttr,h13]) (by simp only [go_sem,simprocAttr]; exact m1)
 have b0 := kb 0 _ q0' (by simp only [go_sem,simprocAttr]; exact m0)
 have b1 := kb 1 _ q1' (by simp only [go_sem,simprocAttr]; exact m1)
 simp only [go_sem,simprocAttr]
 refine loop Zda [] .nilS _ _ rfl ?_ ?_ ?_ ?_ ?_ ?_ ?_ b0 b1 .nil
 all_goals simp only [go_sem,simprocAttr,List.length_nil,Int.natCast_zero,g0,g1,g10,g11,g13,k14]
theorem Z3l (secret master : ByteArray) (log : List Rec) (kind dev : Int) (hs : secret.size ≤ 1000000) (hm : master.size ≤ 1000000) (h9 : log.length ≤ 100000) :
  ∃ v E,CallSound Tryz.prog 30 [sC secret,sC master,.c (Z2 log),iC kind,iC dev] [] v E ∧ MadeV (Zb9 secret master log kind dev).cells (Zbm log kind dev) v E :=
 Zkn mixed Z6d (Z44 secret master log kind dev hs hm h9)
theorem MadeV.new {cs : List Cell} {n : Int} {u : AVal} {E : Heap} (h : MadeV cs n u E) : NewA E u (.agg (cs ++ [.int .i64 n])) := by
 obtain ⟨a,b,c,d,t,y,rows,rfl,hp,hr,rfl,hacc⟩ := h
 simp only [Ze2,Bool.and_eq_true,Bool.and_true] at hp
 obtain ⟨h1,h2,h3,h4,h5⟩ := hp
 exact .agg (.cons (.inl ⟨h1,rfl⟩) (.cons (.inl ⟨h2,rfl⟩) (.cons (.inl ⟨h3,rfl⟩) (.cons (.inl ⟨h4,rfl⟩) (.cons (.inr ⟨2,rows,rfl,hacc,hr⟩) (.cons (.inl ⟨h5,rfl⟩) (.cons (.inl ⟨rfl,rfl⟩) .nil)))))))
theorem Zwj (secret master : ByteArray) (log : List Rec) (kind dev : Int) (hs : secret.size ≤ 1000000) (hm : master.size ≤ 1000000) (h9 : log.length ≤ 100000) {H : Heap} {args : List AVal} (ha : Zd H args = some [sC secret,sC master,.c (Z2 log),iC kind,iC dev]) :
  CallSound Tryz.prog 30 args H (.agg (Zlb (Zb9 secret master log kind dev) (Zbm log kind dev))) H := by
 obtain ⟨v,E,h1,h2⟩ := Z3l secret master log kind dev hs hm h9
 exact h1.freshV h2.new ha
theorem Z59 (secret master : ByteArray) (log : List Rec) (kind dev : Int) (hs : secret.size ≤ 1000000) (hm : master.size ≤ 1000000) (h9 : log.length ≤ 100000) :
  Pr 30 [sC secret,sC master,.c (Z2 log),iC kind,iC dev] (.agg (Zlb (Zb9 secret master log kind dev) (Zbm log kind dev))) := fun H =>
 Zwj secret master log kind dev hs hm h9 (by simp [Zd,Zf,Ze,Zk,Zc,Z2,Zb5])
def Wrp.ok (w : Wrp) : Prop := w.box.size ≤ maxLen
def Rec.ok (r : Rec) : Prop := r.prev.size ≤ maxLen ∧ r.tag.size ≤ maxLen ∧ r.wraps.length ≤ maxLen ∧ ∀ w ∈ r.wraps,w.ok
def EKey.ok (k : EKey) : Prop := k.key.size ≤ maxLen
theorem Zle (n : Int) : Pr 19 [iC n] (iC n) := by
 refine Zl mixed Zbdl rfl fun hl T => ?_
 unfold Z4e
 simp only [go_sem,simprocAttr]
 simp [Zf,Ze,Zk,Zg,Zh,Zd,Zc,Zb]
abbrev exS : ByteArray := ⟨#[115]⟩
abbrev exM : ByteArray := ⟨#[109]⟩
theorem Z6m (secret master : ByteArray) (log : List Rec) (kind dev : Int) : ∀ w ∈ (Zb1 secret master log kind dev).wraps,w.box.size = 48 := fun w hw => by
 rw [Zq1] at hw
 obtain ⟨m,_,rfl⟩ := List.mem_map.1 hw
 exact Zn5 _ _
theorem Z3b : Pr 15 [] (bC true) := by
 have z1 : Zbm [] 2 1 = 1 := by decide
 have r1 : Zb9 exS exM [] 2 1 = Zrp := by unfold Zb9; rw [if_neg (by rw [z1]; omega)]
 have m1 := Znj exS exM [] 2 1 (by decide) (by decide) (by simp)
 rw [z1,r1] at m1
 have r2 : Zb9 exS exM [] 1 0 = Zb1 exS exM [] 1 0 := by unfold Zb9; rw [if_pos Zh2]
 have m2 := Znj exS exM [] 1 0 (by decide) (by decide) (by simp)
 rw [Zh2,r2] at m2
 have m1' : Pr 17 [sC exS,sC exM,.c .nilS,iC 2,iC 1] (.tup [.agg Zrp.cells,iC 1]) := m1.wk (.cons (.same _) (.cons (.same _) (.cons (.c (.nilS _)) (.cons (.same _) (.cons (.same _) .nil)))))
 have m2' : Pr 17 [sC exS,sC exM,.c .nilS,iC 1,iC 0] (.tup [.agg (Zb1 exS exM [] 1 0).cells,iC 0]) := m2.wk (.cons (.same _) (.cons (.same _) (.cons (.c (.nilS _)) (.cons (.same _) (.cons (.same _) .nil)))))
 have hch : Chain exS exM [Zb1 exS exM [] 1 0] := .snoc .nil Zh2
 have hmem := hch.zero (by simp)
 have hop := Zba6 (secret := exS) (master := exM) Zh2 0
 have hl : (([] : List Rec).length : Int) + 1 = 1 := by decide
 have hl1 : (([Zb1 exS exM [] 1 0] : List Rec).length : Int) = 1 := rfl
 rw [hl1] at hmem
 rw [hl,List.nil_append,if_pos hmem] at hop
 have hown := Zyr exM 0 (by decide) (by omega)
 have hopn := Z3e (ownK exM 0) (Zb1 exS exM [] 1 0) 0 (by rw [Ztn]; omega) (fun w hw => by rw [Z6m _ _ _ _ _ w hw]; omega)
 rw [hop] at hopn
 have hep := Znt exS 1 (by decide) (by omega)
 have hcl := Rec.closed (Zb1 exS exM [] 1 0)
 have n0 : ((0 : Nat) : Int) = 0 := rfl
 have n1 : ((1 : Nat) : Int) = 1 := rfl
 rw [n0] at hown
 rw [n1] at hep
 have num1 := Zle 1
 have num0 := Zle 0
 generalize Zce exS 1 = ek at hopn hep
 generalize ownK exM 0 = ok at hown hopn
 clear hop hmem hch m1 m2 r1 r2
 generalize Zb1 exS exM [] 1 0 = R at *
 refine Zl mixed Z40 rfl fun hl T => ?_
 unfold Zvc
 obtain ⟨seq,prev,kind,dv,wraps,tag⟩ := R
 simp only [Rec.cells,Zrp,Zv,List.map_nil] at m1' m2' hopn hcl
 simp only [go_sem,simprocAttr]
 refine Za m1' ?_
 simp only [go_sem,simprocAttr]
 refine Za m2' ?_
 simp only [go_sem,simprocAttr]
 refine Za hown ?_
 simp only [go_sem,simprocAttr]
 refine Za hopn ?_
 simp only [go_sem,simprocAttr,optS,Option.isSome,Option.getD]
 refine Za num1 ?_
 simp only [go_sem,simprocAttr]
 refine Za num0 ?_
 simp only [go_sem,simprocAttr]
 refine Za hep ?_
 simp only [go_sem,simprocAttr]
 simp [Zf,Ze,Zk,Zg,Zh,Zd,Zc,Zb]
theorem Z4l (a b : Nat) : (a : Int).tmod (b : Int) = ((a % b : Nat) : Int) := by rw [Int.tmod_eq_emod_of_nonneg (by omega)]; omega
abbrev u8sC (us : List UInt8) : Cell := .lst 1 (us.map Zs)
theorem Zyf (us : List UInt8) : closedR (us.map Zs) = true := Zcf (f := Zs) (fun _ => rfl) us
set_option maxHeartbeats 1000000 in
theorem Z93 (secret master : ByteArray) (us : List UInt8) (hs : secret.size ≤ 1000000) (hm : master.size ≤ 1000000) : Pr 16 [sC secret,sC master,.c (u8sC us)] (.c (Z2 (Zut secret master us))) := by
 have hmk := fun (log : List Rec) (kind dev : Int) (h : log.length ≤ 100000) => @Zwj secret master log kind dev hs hm h
 have hin := fun (log : List Rec) (dev : Int) => Zhf log log.length dev
 refine Zl mixed Z91 (by simp [Zq,Zp,Zc,Zyf]) fun hl T => ?_
 have hlen : us.length ≤ maxLen := by simp [Zgh,lenA,lenC] at hl; exact hl
 clear hl
 unfold Z0m
 obtain ⟨R,hR⟩ : ∃ R,R = Z2 (Zut secret master us) := ⟨_,rfl⟩
 rw [← hR]
 have hul : ((us.map Zs).length : Int) = (us.length : Int) := by simp
 have m0 := Z59 secret master [] 1 0 hs hm (by simp)
 have m0' : Pr 30 [sC secret,sC master,.c .nilS,iC 1,iC 0] (.agg (Zlb (Zb9 secret master [] 1 0) (Zbm [] 1 0))) := m0.wk (.cons (.same _) (.cons (.same _) (.cons (.c (.nilS _)) (.cons (.same _) (.cons (.same _) .nil)))))
 have tail : ∀ (log : List Rec) (e : Env) (H : Heap),Z2 log = R → log ≠ [] → Acc 6 (log.map Rec.cells) (e 7) H → Run (Zt Tryz.prog T) ⟨[.tmp 6],fun u E => Zf E u = some (.c R)⟩ [.code Zhx] e H := by
  intro log e H hlr hne ha
  unfold Zhx
  simp only [go_sem,simprocAttr]
  rw [← hlr]
  exact ha.view_ne (by simpa using hne) (Zb5 log)
 have loop : ∀ (rest pre : List UInt8) (log : List Rec) (e : Env) (H : Heap),us = pre ++ rest → Z2 (Zk7 secret master log rest) = R → log ≠ [] → log.length ≤ 8 → e 0 = sC secret → e 1 = sC master → e 2 = .c (u8sC us) → e 8 = iC pre.length → Acc 6 (log.map Rec.cells) (e 7) H →
   Run (Zt Tryz.prog T) ⟨[.tmp 6],fun u E => Zf E u = some (.c R)⟩ [.loop Zh4,.blk 0,.code Zhx] e H := by
  intro rest
  induction rest with
  | nil =>
   intro pre log e H hp hlr hne h8 h0 h1 h2 h8' ha
   have hc : ¬ ((pre.length : Int) < (us.length : Int)) := by rw [hp]; simp
   refine Zi ?_
   conv => enter [3,1]; unfold Zh4
   simp only [go_sem,simprocAttr,h2,h8',hul,hc]
   refine tail log _ _ hlr hne ?_
   simp only [go_sem,simprocAttr]
   exact ha
  | cons u rest ih =>
   intro pre log e H hp hlr hne h8 h0 h1 h2 h8' ha
   have hc : ((pre.length : Int) < (us.length : Int)) := by rw [hp]; simp; omega
   have hu : (us.map Zs)[pre.length]? = some [.int .u8 (u.toNat : Int)] := by rw [hp]; simp [Zs]
   have hn := Zcy hp hlen
   have hal := fun H' : Heap => ha.len (H' := H')
   have hll : ((log.map Rec.cells).length : Int) = (log.length : Int) := by simp
   unfold Zk7 at hlr
   refine Zi ?_
   conv => enter [3,1]; unfold Zh4
   by_cases c8 : log.length < 8
   ·have c8' : ((log.length : Int) < 8) := by omega
    rw [if_pos c8] at hlr
    have hdev : Zha u = 1 + ((u.toNat % 4 : Nat) : Int) := rfl
    have h4 : (u.toNat : Int).tmod 4 = ((u.toNat % 4 : Nat) : Int) := by
     have := Z4l u.toNat 4
     simpa using this
    have hu8 := u.toNat_lt
    have hw0 : IntKind.wrap .i64 (u.toNat : Int) = (u.toNat : Int) := Zn (by omega)
    have hw1 : IntKind.wrap .i64 ((u.toNat % 4 : Nat) : Int) = ((u.toNat % 4 : Nat) : Int) := Zn (by omega)
    have hw2 : IntKind.wrap .i64 (1 + ((u.toNat % 4 : Nat) : Int)) = 1 + ((u.toNat % 4 : Nat) : Int) := Zn (by omega)
    have hview := ha.view_ne (by simpa using hne) (Zb5 log)
    have hind := hin log (Zha u)
    rw [hdev] at hind hlr
    unfold Zp1 at hlr
    simp only [Z2] at hind
    have hgo : ∀ (k : Int) (e' : Env),k = (if memL log log.length (1 + ((u.toNat % 4 : Nat) : Int)) = true then 2 else 1) → e' 0 = sC secret → e' 1 = sC master → e' 2 = .c (u8sC us) → e' 7 = e 7 → e' 8 = iC pre.length → e' 9 = iC (1 + ((u.toNat % 4 : Nat) : Int)) → e' 10 = iC k → True := fun _ _ _ _ _ _ _ _ _ _ => trivial
    have fin : ∀ (k : Int),k = (if memL log log.length (1 + ((u.toNat % 4 : Nat) : Int)) = true then 2 else 1) → CallSound Tryz.prog 30 ([sC secret,sC master,e 7,iC k,iC (1 + ((u.toNat % 4 : Nat) : Int))] ++ List.map AVal.c []) H (.agg (Zlb (Zb9 secret master log k (1 + ((u.toNat % 4 : Nat) : Int))) (Zbm log k (1 + ((u.toNat % 4 : Nat) : Int))))) H := fun k _ =>
     hmk log k _ (by omega) (by simp [Zd,hview,Zf,Ze,Zk,Zc,Z2])
    clear hgo
    have step : ∀ (k ME : Int) (MR : Rec),Z2 (Zk7 secret master (log ++ [MR]) rest) = R → CallSound Tryz.prog 30 ([sC secret,sC master,e 7,iC k,iC (1 + ((u.toNat % 4 : Nat) : Int))] ++ List.map AVal.c []) H (.agg (Zlb MR ME)) H →
      ∀ (v' : AVal) (e' : Env) (H' : Heap),Acc 6 (log.map Rec.cells ++ [MR.cells]) v' H' → e' 0 = sC secret → e' 1 = sC master → e' 2 = .c (u8sC us) → e' 8 = iC ((pre ++ [u]).length : Int) → e' 7 = v' →
      Run (Zt Tryz.prog T) ⟨[.tmp 6],fun u E => Zf E u = some (.c R)⟩ [.loop Zh4,.blk 0,.code Zhx] e' H' := fun k ME MR hlr _ v' e' H' ha' g0 g1 g2 g8 g7 =>
     ih (pre ++ [u]) (log ++ [MR]) e' H' (by rw [hp]; simp) hlr (by simp) (by simp; omega) g0 g1 g2 g8 (by rw [g7,List.map_append]; exact ha')
    simp only [go_sem,simprocAttr,h2,h8',hul,hc,hal,hll,c8',hu,hw0,h4,hw1,hw2]
    refine Zfp hind (by simp [Zd,hview,Zf,Ze,Zk,Zc]) rfl ?_
    cases hmm : memL log log.length (1 + ((u.toNat % 4 : Nat) : Int)) with
    | true =>
     rw [hmm] at hlr fin
     simp only [if_true] at hlr fin
     have f2 := fin 2 rfl
     have st := step 2 _ _ hlr f2
     generalize Zbm log 2 (1 + ((u.toNat % 4 : Nat) : Int)) = ME at f2
     generalize Zb9 secret master log 2 (1 + ((u.toNat % 4 : Nat) : Int)) = MR at f2 st
     have hcl := Rec.closed MR
     clear step fin hlr
     obtain ⟨seq,prev,kd,dv,wraps,tag⟩ := MR
     simp only [Zlb,Rec.cells,List.cons_append,List.nil_append] at f2 hcl st
     have hlt : ∀ H : Heap,mkF H (vLit 6 1 (some [[.int .i64 seq,.str prev,.int .i64 kd,.int .i64 dv,Zv wraps,.str tag]]) H) = some (.c (.lst 6 [[.int .i64 seq,.str prev,.int .i64 kd,.int .i64 dv,Zv wraps,.str tag]])) := fun H => Zgk hcl
     simp only [go_sem,simprocAttr,h0,h1]
     refine Z3 f2 (fun _ => List.prefix_refl _) ?_
     simp only [go_sem,simprocAttr,hlt]
     refine Acc.app_step ha (by simp; omega) fun v' H' ha' => ?_
     simp only [go_sem,simprocAttr,h8',hn]
     refine st v' _ _ ha' ?_ ?_ ?_ ?_ ?_
     all_goals simp only [go_sem,simprocAttr,h0,h1,h2,hn]
    | false =>
     rw [hmm] at hlr fin
     simp only [Bool.false_eq_true,if_false] at hlr fin
     have f2 := fin 1 rfl
     have st := step 1 _ _ hlr f2
     generalize Zbm log 1 (1 + ((u.toNat % 4 : Nat) : Int)) = ME at f2
     generalize Zb9 secret master log 1 (1 + ((u.toNat % 4 : Nat) : Int)) = MR at f2 st
     have hcl := Rec.closed MR
     clear step fin hlr
     obtain ⟨seq,prev,kd,dv,wraps,tag⟩ := MR
     simp only [Zlb,Rec.cells,List.cons_append,List.nil_append] at f2 hcl st
     have hlt : ∀ H : Heap,mkF H (vLit 6 1 (some [[.int .i64 seq,.str prev,.int .i64 kd,.int .i64 dv,Zv wraps,.str tag]]) H) = some (.c (.lst 6 [[.int .i64 seq,.str prev,.int .i64 kd,.int .i64 dv,Zv wraps,.str tag]])) := fun H => Zgk hcl
     simp only [go_sem,simprocAttr,h0,h1]
     refine Z3 f2 (fun _ => List.prefix_refl _) ?_
     simp only [go_sem,simprocAttr,hlt]
     refine Acc.app_step ha (by simp; omega) fun v' H' ha' => ?_
     simp only [go_sem,simprocAttr,h8',hn]
     refine st v' _ _ ha' ?_ ?_ ?_ ?_ ?_
     all_goals simp only [go_sem,simprocAttr,h0,h1,h2,hn]
   ·have c8' : ¬ ((log.length : Int) < 8) := by omega
    rw [if_neg c8] at hlr
    simp only [go_sem,simprocAttr,h2,h8',hul,hc,hal,hll,c8']
    refine tail log _ _ hlr hne ?_
    simp only [go_sem,simprocAttr]
    exact ha
 have hst : ∀ (MR : Rec),Z2 (Zk7 secret master [MR] us) = R → ∀ (e' : Env) (H' : Heap),Acc 6 [MR.cells] (e' 7) H' → e' 0 = sC secret → e' 1 = sC master → e' 2 = .c (u8sC us) → e' 8 = iC 0 → Run (Zt Tryz.prog T) ⟨[.tmp 6],fun u E => Zf E u = some (.c R)⟩ [.loop Zh4,.blk 0,.code Zhx] e' H' := fun MR hlr e' H' ha' g0 g1 g2 g8 =>
  loop us [] [MR] e' H' rfl hlr (by simp) (by simp) g0 g1 g2 g8 ha'
 have hst' := hst (Zb9 secret master [] 1 0) hR.symm
 clear hst loop tail hR
 generalize Zbm [] 1 0 = ME at m0'
 generalize Zb9 secret master [] 1 0 = MR at m0' hst'
 have hcl := Rec.closed MR
 obtain ⟨seq,prev,kd,dv,wraps,tag⟩ := MR
 simp only [Zlb,Rec.cells,List.cons_append,List.nil_append] at m0' hcl hst'
 simp only [go_sem,simprocAttr]
 refine Za m0' ?_
 have hlt : ∀ H : Heap,vLit 6 1 (some [[.int .i64 seq,.str prev,.int .i64 kd,.int .i64 dv,Zv wraps,.str tag]]) H = some (.c (.slc H.length 0 1 6 false),H ++ [{ sz := 6,rows := [[.int .i64 seq,.str prev,.int .i64 kd,.int .i64 dv,Zv wraps,.str tag]] }]) := fun _ => rfl
 simp only [go_sem,simprocAttr,hlt]
 refine hst' _ _ ?_ ?_ ?_ ?_ ?_
 ·simp only [go_sem,simprocAttr]
  exact Acc.last (H := [])
 all_goals simp only [go_sem,simprocAttr]
def Zqv : AFun := ⟨[.tmp 6],.seq (.region [ii 6 (.mv (.k (.c (.bool false))))] false) (.seq (.seq (.region [im 14 0,ii 15 (.len (.t 14)),ii 16 (.bin .gtr (.t 15) (ki 8))] false) (.cond (.t 16) (.seq (.region [icl 17 15 [],im 6 17] false) .ret) .skip)) (.seq (.region [im 18 0,icl 19 16 [.k (.c (.str ⟨#[115,101,99,114,101,116]⟩)),.k (.c (.str ⟨#[109,97,115,116,101,114]⟩)),.t 18],im 7 19] false) (.seq (.region [im 20 1,ii 21 (.conv .i64 (.t 20)),ii 22 (.bin .rem (.t 21) (ki 2)),ii 23 (.bin .add (ki 1) (.t 22)),im 8 23] false) (.seq (.region [im 25 7,im 26 8,im 27 2,icl 28 17 [.k (.c (.str ⟨#[115,101,99,114,101,116]⟩)),.k (.c (.str ⟨#[109,97,115,116,101,114]⟩)),.t 25,.t 26,.t 27],im 24 28,ii 29 (.ext (.t 24) 0),ii 30 (.ext (.t 24) 1),ii 9 (.new [.int .i64 0,.str ⟨#[]⟩,.int .i64 0,.int .i64 0,.nilS,.str ⟨#[]⟩]),ie (.store 6 (.t 9) (.t 29)),im 10 30] false) (.seq (.region [im 31 7,im 32 7,ii 33 (.len (.t 32)),im 34 2,icl 35 18 [.t 31,.t 33,.t 34],im 11 35] false) (.seq (.region [ii 12 (.mv (ki 0))] false) (.seq (.block 0 (.seq (.region [im 37 2,ii 38 (.bin .lss (.t 37) (ki 0)),im 39 38,ig 40 (.mv (.t 2)) 39 false,ig 41 (.bin .gtr (.t 40) (ki 7)) 39 false,ii 42 (.pick (.t 39) (.k (.c (.bool true))) (.t 41)),im 43 42,ig 44 (.mv (.t 2)) 43 false,ig 45 (.bin .eql (.t 44) (ki 0)) 43 false,ig 46 (.mv (.t 45)) 43 false,ig 47 (.mv (.t 8)) 46 true,ig 48 (.bin .eql (.t 47) (ki 2)) 46 true,ig 49 (.pick (.t 46) (.t 48) (.k (.c (.bool false)))) 43 false,ii 50 (.pick (.t 43) (.k (.c (.bool true))) (.t 49)),im 36 50] false) (.cond (.t 36) (.region [ii 12 (.mv (ki 1))] false) (.seq (.region [im 52 11,im 53 52,ig 54 (.mv (.t 8)) 53 true,ig 55 (.bin .eql (.t 54) (ki 1)) 53 true,ii 56 (.pick (.t 53) (.t 55) (.k (.c (.bool false)))),im 51 56] false) (.cond (.t 51) (.region [ii 12 (.mv (ki 3))] false) (.seq (.region [im 58 11,ii 59 (.un .not (.t 58)),im 60 59,ig 61 (.mv (.t 8)) 60 true,ig 62 (.bin .eql (.t 61) (ki 2)) 60 true,ii 63 (.pick (.t 60) (.t 62) (.k (.c (.bool false)))),im 57 63] false) (.cond (.t 57) (.region [ii 12 (.mv (ki 2))] false) .skip))))))) (.seq (.seq (.region [im 64 12,ii 65 (.bin .neq (.t 64) (ki 0))] false) (.cond (.t 65) (.seq (.region [im 66 10,icl 67 19 [.t 66],im 68 12,ibt 69 .eql 67 68,im 70 69,ig 71 (.fld 0 (.t 9)) 70 true,ig 72 (.load false 1 (.t 71)) 70 true,ig 73 (.bin .eql (.t 72) (ki 0)) 70 true,ii 74 (.pick (.t 70) (.t 73) (.k (.c (.bool false)))),im 75 74,ig 76 (.call (.f 15) []) 75 true,ii 77 (.pick (.t 75) (.t 76) (.k (.c (.bool false)))),im 6 77] false) .ret) .skip)) (.seq (.region [iz 78 (.lit 6 [.int .i64 0,.str ⟨#[]⟩,.int .i64 0,.int .i64 0,.nilS,.str ⟨#[]⟩] 0 []),im 79 7,ii 80 (.appZ 6 80 (.t 78) (.t 79)),ii 81 (.load true 6 (.t 9)),iz 82 (.lit 6 [.int .i64 0,.str ⟨#[]⟩,.int .i64 0,.int .i64 0,.nilS,.str ⟨#[]⟩] 1 [(0,.t 81)]),ii 83 (.app 6 80 (.t 80) (.t 82)),im 13 83] true) (.fz 13 (.seq (.region [im 84 10,icl 85 19 [.t 84],ii 86 (.bin .eql (.t 85) (ki 0)),im 87 86,ig 88 (.mv (.t 13)) 87 true,ig 89 (.call (.f 20) [.t 88]) 87 true,ii 90 (.pick (.t 87) (.t 89) (.k (.c (.bool false)))),im 91 90,ig 92 (.mv (.t 13)) 91 true,ig 93 (.mv (.t 13)) 91 true,ig 94 (.len (.t 93)) 91 true,ig 95 (.mv (.t 2)) 91 true,ig 96 (.call (.f 18) [.t 92,.t 94,.t 95]) 91 true,ig 97 (.mv (.t 8)) 91 true,ig 98 (.bin .eql (.t 97) (ki 1)) 91 true,ig 99 (.binB false (.t 96) (.t 98)) 91 true,ii 100 (.pick (.t 91) (.t 99) (.k (.c (.bool false)))),im 101 100,ig 102 (.fld 4 (.t 9)) 101 true,ig 103 (.load false 1 (.t 102)) 101 true,ig 104 (.len (.t 103)) 101 true,ig 105 (.mv (.t 13)) 101 true,ig 106 (.mv (.t 13)) 101 true,ig 107 (.len (.t 106)) 101 true,ig 108 (.call (.f 21) [.t 105,.t 107]) 101 true,ig 109 (.len (.t 108)) 101 true,ig 110 (.bin .eql (.t 104) (.t 109)) 101 true,ii 111 (.pick (.t 101) (.t 110) (.k (.c (.bool false)))),im 112 111,ig 113 (.call (.f 15) []) 112 true,ii 114 (.pick (.t 112) (.t 113) (.k (.c (.bool false)))),im 6 114] true) .ret)))))))))))⟩
theorem Zxr : Zm Tryz.prog 3 = some Zqv.erase := by kernel_rfl
abbrev secS : ByteArray := ⟨#[115,101,99,114,101,116]⟩
abbrev masS : ByteArray := ⟨#[109,97,115,116,101,114]⟩
def u8s (l : List Nat) : List UInt8 := l.map UInt8.ofNat
theorem Zbb1 {l : List Nat} (h : ∀ n ∈ l,n < 256) : Zty l = u8sC (u8s l) := by
 unfold Zty u8sC u8s
 rw [List.map_map]
 congr 1
 refine List.map_congr_left fun n hn => ?_
 have := h n hn
 simp only [Zqz,Function.comp,Zs,UInt8.toNat_ofNat']
 rw [Nat.mod_eq_of_lt (by simpa using this)]
theorem Zbh5 (l : List Nat) : (u8s l).length = l.length := by simp [u8s]
theorem Zba4 (secret master : ByteArray) (us : List UInt8) : ∃ log,log = Zut secret master us ∧ Chain secret master log ∧ log ≠ [] ∧ log.length ≤ 8 := ⟨_,rfl,Z50 secret master us⟩
end Go.Proofs.YticmfblfghdkbaaGreatDoor.Eng
