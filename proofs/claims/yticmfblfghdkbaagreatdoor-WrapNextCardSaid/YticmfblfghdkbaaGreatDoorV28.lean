/- The law WrapNextCard, for every input that its row lets in: it answers true, and its arguments read as they did. What stands ahead of it in this folder are its parts. -/
import Derived.Test.YticmfblfghdkbaaGreatDoorV27
import Derived.Test.YticmfblfghdkbaaGreatDoorRows
import Derived.ProofKit
import Derived.OpenShut
import Derived.ShutString
import Derived.ChangeOld
import Derived.Carry
import Derived.SizedLaws
import Derived.LaidLaws
import Derived.LaidHandle
import Derived.ChangeSame
import Derived.ChangeVars
import Derived.JoinedOf
import Derived.SevenTiedAt
import Derived.Stop.Joined
import Derived.Lay
import Derived.Test.YticmfblfghdkbaaGreatDoorTie
import Derived.Test.YticmfblfghdkbaaGreatDoorCards
set_option linter.unusedVariables false
set_option linter.unusedSimpArgs false
namespace Go.Proofs.YticmfblfghdkbaaGreatDoor.Eng
open Go
theorem Zbau {secret master : ByteArray} {log : List Rec} (h : Chain secret master log) (hne : log ≠ []) (h8 : log.length ≤ 8) {k dev : Int} (hk : k = 1 ∨ k = 2) :
  Zbm log k dev = if dev < 0 ∨ 7 < dev ∨ dev = 0 ∧ k = 2 then 1 else if memL log log.length dev = true ∧ k = 1 then 3 else if memL log log.length dev = false ∧ k = 2 then 2 else 0 := by
 have hc := h.check
 have hn : log.length ≠ 0 := fun e => hne (List.eq_nil_of_length_eq_zero e)
 unfold Zbm
 by_cases c1 : dev < 0 ∨ 7 < dev ∨ dev = 0 ∧ k = 2
 ·rw [if_pos c1,if_pos]
  rcases c1 with c1 | c1 | ⟨c1,c2⟩
  ·exact .inr (.inl c1)
  ·exact .inr (.inr (.inl (by omega)))
  ·exact .inr (.inr (.inr (.inr (.inr ⟨c2,c1⟩))))
 ·rw [if_neg c1,if_neg]
  ·cases hm : memL log log.length dev with
   | true =>
    by_cases k1 : k = 1
    ·rw [if_pos ⟨k1,rfl⟩,if_pos ⟨rfl,k1⟩]
    ·rw [if_neg (fun h => k1 h.1),if_neg (fun h => by cases h.2),if_neg (by omega),if_neg (fun h => k1 h.2),if_neg (fun h => by cases h.1)]
   | false =>
    by_cases k2 : k = 2
    ·rw [if_neg (fun h => by cases h.2),if_pos ⟨k2,rfl⟩,if_neg (fun h => by cases h.1),if_pos ⟨rfl,k2⟩]
    ·rw [if_neg (fun h => by cases h.2),if_neg (fun h => k2 h.1),if_neg (by omega),if_neg (fun h => by cases h.1),if_neg (fun h => k2 h.2)]
  ·rintro (h | h | h | h | h | h)
   ·omega
   ·exact c1 (.inl h)
   ·exact c1 (.inr (.inl (by omega)))
   ·rw [hc] at h; cases h
   ·exact hn h.1
   ·exact c1 (.inr (.inr ⟨h.2,h.1⟩))
theorem Zbj1 {G : Prog} {p : Post} {k : List Itm} {d : Bool} {l : List AInstr} {e : Env} {H : Heap} {P : Env → Heap → Prop} (h1 : ∀ K : List Itm,(∀ e' H',P e' H' → Run G p K e' H') → WL G p K d l e H) (h2 : ∀ e' H',P e' H' → Run G p k e' H') : WL G p k d l e H := h1 k h2
def Z7r (k dev : Int) (m : Bool) : Int := if dev < 0 ∨ 7 < dev ∨ dev = 0 ∧ k = 2 then 1 else if m = true ∧ k = 1 then 3 else if m = false ∧ k = 2 then 2 else 0
abbrev Zj2 (row : List Cell) : Blk := { sz := 6,rows := [row],own := true,live := true }
theorem Zbbo {secret master : ByteArray} {log : List Rec} {k dev : Int} (h : Zbm log k dev ≠ 0) : (Zb9 secret master log k dev).cells = [.int .i64 0,.str ⟨#[]⟩,.int .i64 0,.int .i64 0,.lst 2 [],.str ⟨#[]⟩] := by
 unfold Zb9
 rw [if_neg h]; rfl
set_option maxHeartbeats 4000000 in
theorem Zw0 (ns : List Nat) (hn0 : ns.length ≤ maxLen) (hnb : ∀ n ∈ ns,n < 256) (a : Int) (ha : IntKind.min .u8 ≤ a ∧ a ≤ IntKind.max .u8) (dev : Int) (hdv : IntKind.min .i64 ≤ dev ∧ dev ≤ IntKind.max .i64) :
  Pr 3 [.c (Zty ns),.c (.int .u8 a),iC dev] (bC true) := by
 rw [Zbb1 hnb]
 have hnl := Zbh5 ns
 generalize u8s ns = un at hnl
 have ha0 : 0 ≤ a := ha.1
 have ha1 : a ≤ 255 := ha.2
 obtain ⟨a,rfl⟩ : ∃ k : Nat,a = k := ⟨a.toNat,by omega⟩
 have haw := Z3b
 have hlog := Z93 secS masS un (by decide) (by decide)
 obtain ⟨log,hle,hch,hne,h8⟩ := Zba4 secS masS un
 rw [← hle] at hlog
 clear hle
 have hpos : 0 < log.length := List.length_pos_iff.2 hne
 obtain ⟨k,hkk⟩ : ∃ k : Int,k = 1 + ((a % 2 : Nat) : Int) := ⟨_,rfl⟩
 have hk : k = 1 ∨ k = 2 := by omega
 have hrm : (a : Int).tmod 2 = ((a % 2 : Nat) : Int) := Z4l a 2
 have hmE : Zbm log k dev = Z7r k dev (memL log log.length dev) := Zbau hch hne h8 hk
 have hmk := Znj secS masS log k dev (by decide) (by decide) (by omega)
 have hin := Zhf log log.length dev
 have hnE := Zle (Zbm log k dev)
 have hclR := Rec.closed (Zb9 secS masS log k dev)
 obtain ⟨E,hE⟩ : ∃ E,E = Zbm log k dev := ⟨_,rfl⟩
 obtain ⟨R,hR⟩ : ∃ R,R = Zb9 secS masS log k dev := ⟨_,rfl⟩
 obtain ⟨m,hm⟩ : ∃ m,m = memL log log.length dev := ⟨_,rfl⟩
 rw [← hE] at hmk hnE hmE
 rw [← hR] at hmk hclR
 rw [← hm] at hin hmE
 have hq0 : E ≠ 0 → R.cells = [.int .i64 0,.str ⟨#[]⟩,.int .i64 0,.int .i64 0,.lst 2 [],.str ⟨#[]⟩] := fun h => by rw [hR]; exact Zbbo (by rw [← hE]; exact h)
 have hq1 : E = 0 → (Zdj (log ++ [R]) = true ∧ memL (log ++ [R]) ((log.length : Int) + 1) dev = decide (k = 1)) ∧ R.wraps.length = (Zb3 (log ++ [R]) ((log.length : Int) + 1)).length := fun h => by
  have hz : Zbm log k dev = 0 := hE.symm.trans h
  have hmr : Zb9 secS masS log k dev = Zb1 secS masS log k dev := by unfold Zb9; rw [if_pos hz]
  rw [hR,hmr]
  obtain ⟨f1,f2,f3,f4,f5⟩ := Zg2 (secret := secS) (master := masS) (log := log) (kind := k) (dev := dev)
  obtain ⟨z1,z2,_⟩ := Zgj hz
  have hmem := Z43 (r := Zb1 secS masS log k dev) hch.check f1 (by rw [f3]; exact hk) dev
  rw [f4,if_pos rfl,f3,decide_eq_true z2,Bool.and_true] at hmem
  refine ⟨⟨Zxb hz,hmem⟩,?_⟩
  rw [Zq1 (secret := secS) (master := masS) (log := log) (kind := k) (dev := dev),List.length_map]
 have hckc := Zs7 (log ++ [R])
 have hin2 := Zhf (log ++ [R]) ((log.length : Int) + 1) dev
 have hmm := Zzm (log ++ [R]) ((log.length : Int) + 1)
 generalize Zdj (log ++ [R]) = b1 at hckc hq1
 generalize memL (log ++ [R]) ((log.length : Int) + 1) dev = b2 at hin2 hq1
 generalize Zb3 (log ++ [R]) ((log.length : Int) + 1) = ms at hmm hq1
 clear hR hm hE
 obtain ⟨seq,prev,kd,dv,wraps,tag⟩ := R
 simp only [Z2] at hlog hmk hin hckc hin2 hmm
 rw [List.map_append] at hckc hin2 hmm
 simp only [Rec.cells,List.map_cons,List.map_nil] at hmk hckc hin2 hmm hclR hq0
 simp only at hq1
 refine Zl mixed Zxr (by simp [Zq,Zp,Zc,Zyf]) fun hl T => ?_
 clear hl
 unfold Zqv
 have hul : ((un.map Zs).length : Int) = (ns.length : Int) := by rw [List.length_map,hnl]
 by_cases c8 : (8 : Int) < (ns.length : Int)
 ·simp only [go_sem,simprocAttr,hul,c8]
  refine Za haw ?_
  simp only [go_sem,simprocAttr]
  simp [Zf,Ze,Zk,Zg,Zh,Zd,Zc,Zb]
 have hwa : IntKind.wrap .i64 (a : Int) = (a : Int) := Zn (by omega)
 have hwr : IntKind.wrap .i64 (1 + ((a % 2 : Nat) : Int)) = k := by rw [hkk]; exact Zn (by omega)
 have hll : ((log.map Rec.cells).length : Int) = (log.length : Int) := by simp
 clear hkk
 simp only [go_sem,simprocAttr,hul,c8]
 refine Za hlog ?_
 simp only [go_sem,simprocAttr,hwa,hrm,hwr]
 refine Za hmk ?_
 simp only [go_sem,simprocAttr,hll]
 refine Za hin ?_
 refine Zbj1 (P := fun e H => e 2 = iC dev ∧ e 7 = .c (.lst 6 (log.map Rec.cells)) ∧ e 8 = iC k ∧ e 9 = .c (.ptr 0 0 0) ∧ e 10 = iC E ∧ e 11 = bC m ∧ H = [Zj2 [.int .i64 seq,.str prev,.int .i64 kd,.int .i64 dv,Zv wraps,.str tag]]) (fun K hK => ?_) fun e H h => ?_
 ·simp only [go_sem,simprocAttr]
  refine hK _ _ ⟨?_,?_,?_,?_,?_,?_,rfl⟩
  all_goals simp only [go_sem,simprocAttr]
 obtain ⟨h2,h7,h8',h9,h10,h11,rfl⟩ := h
 refine Zea (P := fun e' H => (e' 2 = iC dev ∧ e' 7 = .c (.lst 6 (log.map Rec.cells)) ∧ e' 8 = iC k ∧ e' 9 = .c (.ptr 0 0 0) ∧ e' 10 = iC E ∧ e' 11 = bC m) ∧ e' 12 = iC 0 ∧ H = [Zj2 [.int .i64 seq,.str prev,.int .i64 kd,.int .i64 dv,Zv wraps,.str tag]]) (fun K hK => ?_) fun e' H h => ?_
 ·simp only [go_sem,simprocAttr]
  refine hK _ _ ⟨⟨?_,?_,?_,?_,?_,?_⟩,?_,rfl⟩
  all_goals simp only [go_sem,simprocAttr,h2,h7,h8',h9,h10,h11]
 clear h2 h7 h8' h9 h10 h11 e
 obtain ⟨⟨h2,h7,h8',h9,h10,h11⟩,h12,rfl⟩ := h
 refine Zea (P := fun e H => (e 2 = iC dev ∧ e 7 = .c (.lst 6 (log.map Rec.cells)) ∧ e 8 = iC k ∧ e 9 = .c (.ptr 0 0 0) ∧ e 10 = iC E) ∧ e 12 = iC (Z7r k dev m) ∧ H = [Zj2 [.int .i64 seq,.str prev,.int .i64 kd,.int .i64 dv,Zv wraps,.str tag]]) (fun K hK => ?_) fun e H h => ?_
 ·have q21 : ¬ ((2 : Int) = 1) := by omega
  have q12 : ¬ ((1 : Int) = 2) := by omega
  unfold Z7r at hK
  by_cases d1 : dev < 0
  ·rw [if_pos (.inl d1)] at hK
   simp only [go_sem,simprocAttr,h2,d1]
   refine hK _ _ ⟨⟨?_,?_,?_,?_,?_⟩,?_,rfl⟩
   all_goals simp only [go_sem,simprocAttr,h2,h7,h8',h9,h10]
  by_cases d2 : 7 < dev
  ·rw [if_pos (.inr (.inl d2))] at hK
   simp only [go_sem,simprocAttr,h2,d1,d2]
   refine hK _ _ ⟨⟨?_,?_,?_,?_,?_⟩,?_,rfl⟩
   all_goals simp only [go_sem,simprocAttr,h2,h7,h8',h9,h10]
  rcases hk with rfl | rfl
  ·rw [if_neg (by omega)] at hK
   cases m with
   | true =>
    rw [if_pos ⟨rfl,rfl⟩] at hK
    by_cases d3 : dev = 0
    all_goals
     simp only [go_sem,simprocAttr,h2,h8',h11,d1,d2,d3,q12]
     refine hK _ _ ⟨⟨?_,?_,?_,?_,?_⟩,?_,rfl⟩
     all_goals simp only [go_sem,simprocAttr,h2,h7,h8',h9,h10]
   | false =>
    rw [if_neg (fun h => by cases h.1),if_neg (fun h => q12 h.2)] at hK
    by_cases d3 : dev = 0
    all_goals
     simp only [go_sem,simprocAttr,h2,h8',h11,d1,d2,d3,q12]
     refine hK _ _ ⟨⟨?_,?_,?_,?_,?_⟩,?_,rfl⟩
     all_goals simp only [go_sem,simprocAttr,h2,h7,h8',h9,h10,h12]
  ·by_cases d3 : dev = 0
   ·rw [if_pos (.inr (.inr ⟨d3,rfl⟩))] at hK
    simp only [go_sem,simprocAttr,h2,h8',h11,d1,d2,d3]
    refine hK _ _ ⟨⟨?_,?_,?_,?_,?_⟩,?_,rfl⟩
    all_goals simp only [go_sem,simprocAttr,h2,h7,h8',h9,h10,d3]
   rw [if_neg (by omega)] at hK
   cases m with
   | true =>
    rw [if_neg (fun h => q21 h.2),if_neg (fun h => by cases h.1)] at hK
    simp only [go_sem,simprocAttr,h2,h8',h11,d1,d2,d3,q21]
    refine hK _ _ ⟨⟨?_,?_,?_,?_,?_⟩,?_,rfl⟩
    all_goals simp only [go_sem,simprocAttr,h2,h7,h8',h9,h10,h12]
   | false =>
    rw [if_neg (fun h => by cases h.1),if_pos ⟨rfl,rfl⟩] at hK
    simp only [go_sem,simprocAttr,h2,h8',h11,d1,d2,d3,q21]
    refine hK _ _ ⟨⟨?_,?_,?_,?_,?_⟩,?_,rfl⟩
    all_goals simp only [go_sem,simprocAttr,h2,h7,h8',h9,h10]
 clear h2 h7 h8' h9 h10 h11 h12 e'
 obtain ⟨⟨h2,h7,h8',h9,h10⟩,h12,rfl⟩ := h
 rw [← hmE] at h12
 by_cases hz : E = 0
 ·subst hz
  obtain ⟨⟨q1,q2⟩,q3⟩ := hq1 rfl
  have num0 := Zle 0
  rw [q1] at hckc
  rw [q2] at hin2
  have hlt : ∀ H : Heap,mkF H (vLit 6 1 (some [[.int .i64 seq,.str prev,.int .i64 kd,.int .i64 dv,Zv wraps,.str tag]]) H) = some (.c (.lst 6 [[.int .i64 seq,.str prev,.int .i64 kd,.int .i64 dv,Zv wraps,.str tag]])) := fun H => Zgk hclR
  have hap : ∀ H : Heap,Zem 6 80 (.c (.zer 6)) (.c (.lst 6 (log.map Rec.cells))) H = some (Zdd 6 (log.map Rec.cells) H,Zdw 6 (log.map Rec.cells) H) := fun H => Z4f (by simp; omega)
  have hlen2 : ((log.map Rec.cells ++ [[.int .i64 seq,.str prev,.int .i64 kd,.int .i64 dv,Zv wraps,.str tag]]).length : Int) = (log.length : Int) + 1 := by simp
  have hmsl : ((ms.map iRow).length : Int) = (ms.length : Int) := by simp
  have hwll : ((wraps.map Wrp.cells).length : Int) = (ms.length : Int) := by simp; omega
  have num1 := Zle 0
  have hvl : ∀ H : Heap,vLen (.c (Zv wraps)) H = some (iC ms.length,H) := fun H => by
   show vLen (.c (.lst 2 (wraps.map Wrp.cells))) H = _
   rw [Z33,hwll]
  refine Zea (P := fun e' H => e' 2 = iC dev ∧ e' 7 = .c (.lst 6 (log.map Rec.cells)) ∧ e' 8 = iC k ∧ e' 9 = .c (.ptr 0 0 0) ∧ e' 10 = iC 0 ∧ H = [Zj2 [.int .i64 seq,.str prev,.int .i64 kd,.int .i64 dv,Zv wraps,.str tag]]) (fun K hK => ?_) fun e' H h => ?_
  ·simp only [go_sem,simprocAttr,h12]
   exact hK _ _ ⟨by simp only [go_sem,simprocAttr,h2],by simp only [go_sem,simprocAttr,h7],by simp only [go_sem,simprocAttr,h8'],by simp only [go_sem,simprocAttr,h9],by simp only [go_sem,simprocAttr,h10],rfl⟩
  clear h2 h7 h8' h9 h10 h12 e
  obtain ⟨h2,h7,h8',h9,h10,rfl⟩ := h
  have a1 := Zug 6 (log.map Rec.cells) [Zj2 [.int .i64 seq,.str prev,.int .i64 kd,.int .i64 dv,Zv wraps,.str tag]]
  have p1 := Zol 6 (log.map Rec.cells) [Zj2 [.int .i64 seq,.str prev,.int .i64 kd,.int .i64 dv,Zv wraps,.str tag]]
  have n0 : NB (Zdd 6 (log.map Rec.cells) [Zj2 [.int .i64 seq,.str prev,.int .i64 kd,.int .i64 dv,Zv wraps,.str tag]]) 0 := Zn7 _ _ (by simp)
  have q0 : (Zdw 6 (log.map Rec.cells) [Zj2 [.int .i64 seq,.str prev,.int .i64 kd,.int .i64 dv,Zv wraps,.str tag]])[0]? = some (Zj2 [.int .i64 seq,.str prev,.int .i64 kd,.int .i64 dv,Zv wraps,.str tag]) := Zm8 p1 rfl
  simp only [go_sem,simprocAttr,h7,hap]
  generalize Zdd 6 (log.map Rec.cells) [Zj2 [.int .i64 seq,.str prev,.int .i64 kd,.int .i64 dv,Zv wraps,.str tag]] = V1 at a1 n0 ⊢
  generalize Zdw 6 (log.map Rec.cells) [Zj2 [.int .i64 seq,.str prev,.int .i64 kd,.int .i64 dv,Zv wraps,.str tag]] = H1 at a1 q0 ⊢
  simp only [go_sem,simprocAttr,h9,Zu q0,hlt]
  refine Acc.app_keep a1 (by simp; omega) fun V2 H2 a2 k2 => ?_
  obtain ⟨q0',m0⟩ := k2 0 _ n0 q0
  simp only [go_sem,simprocAttr]
  refine Acc.fz_keep (sz := 6) (rows := log.map Rec.cells ++ [[.int .i64 seq,.str prev,.int .i64 kd,.int .i64 dv,Zv wraps,.str tag]]) (by simp only [go_sem,simprocAttr]; exact a2) fun e G k13 kc kp kb kl => ?_
  have g2 := kc 2 (iC dev) (by simp only [go_sem,simprocAttr,h2]) rfl (by omega)
  have g8 := kc 8 (iC k) (by simp only [go_sem,simprocAttr,h8']) rfl (by omega)
  have g10 := kc 10 (iC 0) (by simp only [go_sem,simprocAttr,h10]) rfl (by omega)
  have g9 := kp 9 0 0 0 (by simp only [go_sem,simprocAttr,h9]) (by simp only [go_sem,simprocAttr]; exact m0)
  have b0 := kb 0 _ q0' (by simp only [go_sem,simprocAttr]; exact m0)
  simp only [go_sem,simprocAttr,g10]
  refine Za num1 ?_
  simp only [go_sem,simprocAttr,k13]
  refine Za hckc ?_
  simp only [go_sem,simprocAttr,k13,hlen2,g2]
  refine Za hin2 ?_
  have q21 : ¬ ((2 : Int) = 1) := by omega
  rcases hk with rfl | rfl
  all_goals
   simp only [go_sem,simprocAttr,g8,q21,g9,Zu b0,k13,hlen2,hvl]
   refine Za hmm ?_
   simp only [go_sem,simprocAttr,Zd3,hmsl,hwll]
   refine Za haw ?_
   simp only [go_sem,simprocAttr]
   simp [Zf,Ze,Zk,Zg,Zh,Zd,Zc,Zb]
 ·have hc := hq0 hz
  rw [hc]
  simp only [go_sem,simprocAttr,h12,hz,h10]
  refine Za hnE ?_
  simp only [go_sem,simprocAttr,h12,h9]
  refine Za haw ?_
  simp only [go_sem,simprocAttr]
  simp [Zf,Ze,Zk,Zg,Zh,Zd,Zc,Zb]
end Go.Proofs.YticmfblfghdkbaaGreatDoor.Eng
namespace Go.Proofs.YticmfblfghdkbaaGreatDoor.wrapNextE
open Go.ChangeShapes Go.WideShapes Go.ChangeAt Go.RowKit
open Go.ChangeMaps (open_string shut_string)
theorem own : ownKnob Tryz.prog.godebug = none := by kernel_rfl
theorem Zz0 : laidOutB Tryz.prog = true := by kernel_rfl
theorem et : Tryz.prog.globalNamed "errors.errorType" = some 0 := by kernel_rfl
theorem rt : (Tryz.prog.cutTypes.find? (·.1 == "internal/reflectlite.rtype")).map (·.2) = some 235 := by kernel_rfl
theorem Zbj0 : ((List.range 337).filter fun t => Tryz.prog.rowNamed t [101,114,114,111,114]) = [98] := by kernel_rfl
theorem size : Tryz.prog.types.size = 337 := by kernel_rfl
noncomputable def Zm2 : List (String × DataW Unit) := [("math/bits.deBruijn32tab",Rows.laid_math_bits_deBruijn32tab),("math/bits.deBruijn64tab",Rows.laid_math_bits_deBruijn64tab),("internal/strconv.uint64pow10",Rows.laid_internal_strconv_uint64pow10)]
theorem Z70 : (Rows.wrapNextRow.laid.filter fun x => x.2.handleName?.isNone) = Zm2 := by kernel_rfl
theorem Z84 : (Rows.wrapNextRow.laid.filter fun x => x.2.handleName?.isSome) = [("errors.errorType",Rows.laid_errors_errorType)] := by kernel_rfl
theorem Zbk1 {W : World} (h : laidMetH Tryz.prog Rows.wrapNextRow.laid W) : handlesMet Tryz.prog [("errors.errorType",Rows.laid_errors_errorType)] W := by
 unfold laidMetH at h
 rw [Z84] at h
 exact h.2
theorem handle {W : World} (h : laidMetH Tryz.prog Rows.wrapNextRow.laid W) : W.cell? ⟨0,0,none⟩ = some (.iface 235 (.agg #[.pointer (some ⟨7,98,none⟩)])) := by
 have h' := Zbk1 h
 obtain ⟨name,u,ty,e1,e2,e3,e4,e5⟩ := h' _ (List.mem_singleton.2 rfl)
 have en : name = [101,114,114,111,114] := (Option.some.inj e1).symm
 subst en
 obtain rfl := Option.some.inj (rt.symm.trans e2)
 have hm : ty ∈ (List.range 337).filter fun t => Tryz.prog.rowNamed t [101,114,114,111,114] := List.mem_filter.2 ⟨List.mem_range.2 (by rw [← size]; exact e3),e4⟩
 rw [Zbj0] at hm
 obtain rfl := List.mem_singleton.1 hm
 have hh : typeHandle Tryz.prog 98 = .pointer (some ⟨7,98,none⟩) := by kernel_rfl
 rw [hh] at e5
 simpa using World.var?_cell et e5 0
noncomputable def Z4n (os : Os) : World :=
 let w0 := World.holding Tryz.prog os ⟨#[],#[],[]⟩
 { w0 with heap := w0.heap.modify 0 fun
   | .cells _ t frozen => .cells #[.iface 235 (.agg #[.pointer (some ⟨7,98,none⟩)])] t frozen
   | o => o }
noncomputable def Zof (os : Os) : World := (Z4n os).layVars Tryz.prog Zm2
theorem Z22 (os : Os) : (Zof os).os = os := World.layVars_os _ _ _
theorem Zz8 (os : Os) : laidMet Tryz.prog Zm2 (Zof os) := by
 have e1 : (Zm2.filter fun x => (Zm2.map (·.1)).contains x.1) = Zm2 := List.filter_eq_self.2 fun x hx => List.contains_iff_mem.2 (List.mem_map.2 ⟨x,hx,rfl⟩)
 have e2 : (Zm2.filter fun x => !(Zm2.map (·.1)).contains x.1) = [] := List.filter_eq_nil_iff.2 fun x hx => by rw [List.contains_iff_mem.2 (List.mem_map.2 ⟨x,hx,rfl⟩)]; simp
 exact laidMet_layVars (w0 := Z4n os) (Zm2.map (·.1)) [] (by rw [e1]; rfl) (by rw [e1]; kernel_rfl) (by rw [e1]; kernel_rfl) (by rw [e2]; exact LaidIn.none)
theorem Z1t (os : Os) (args : Array Value) : laidMetH Tryz.prog Rows.wrapNextRow.laid ((Zof os).forCall (fun _ _ => 0) ⟨#[],args,[]⟩).memory :=
 laidMetH_of_parts (by rw [Z70]; exact (Zz8 os).of_heap (by simp [World.memory,World.forCall,Input.heap])) (by kernel_rfl)
set_option maxRecDepth 100000 in
theorem Zbjw (os : Os) (started : os.Started) (H : Type) (enc : TypeId × Value → H) :
  ReturnsInHanded {} Tryz.checked os 3 .any (fun w args => (Rows.wrapNextSpec.pre enc Tryz.prog Tryz.f3 Rows.wrapNextRow.domain false w args ∧ laidMetH Tryz.prog Rows.wrapNextRow.laid w) ∧ sizedMet enc Tryz.prog Tryz.f3 (OpenSpec.ofChange Rows.wrapNextSpec) false w args)
   (Rows.wrapNextSpec.post enc Tryz.prog Tryz.f3 false true false false) := by
 refine returnsInHanded_of_change_and (C := Tryz.checked) (X := fun w _ => laidMetH Tryz.prog Rows.wrapNextRow.laid w) (fun _ _ _ hh h => h.of_heap hh) own started (by kernel_rfl) Tryz.func3
  (ChangeSpec.witness_at (enc := enc) (C := Tryz.checked) (os := os) (X := fun w _ => laidMetH Tryz.prog Rows.wrapNextRow.laid w) false (Zof os) #[.slice none 0 0,.int .u8 0,.int .i64 0] 8 (Z22 os) (by kernel_rfl) (by kernel_rfl) (by kernel_rfl) (by kernel_rfl) (by kernel_rfl) (Z1t os _)) ?_
 intro W base args ds gs before hval0 hW hcnd hsz0 hL _
 have hval : ∀ (j : Nat) t v,Tryz.f3.params[j]? = some t → args[j]? = some v → Value.okWide Tryz.prog W .any base t v := hval0
 have hW' := hW
 obtain ⟨p,q,hA0,hV,rfl,hfz,hnd⟩ := hW
 have hA : DataW.TrodAll enc Tryz.prog W 0 (fun _ => true) true Tryz.f3.params.toList args.toList ds p := hA0
 rw [Tryz.params3] at hA hval
 obtain ⟨v0,vs0,d0,ds0,p0,q0,hargs,rfl,rfl,h0,r0⟩ := trodAll_cons hA
 obtain ⟨v1,vs1,d1,ds1,p1,q1,rfl,rfl,rfl,h1,r1⟩ := trodAll_cons r0
 obtain ⟨v2,vs2,d2,ds2,p2,q2,rfl,rfl,rfl,h2,r2⟩ := trodAll_cons r1
 obtain ⟨rfl,rfl,rfl⟩ := trodAll_nil r2
 obtain rfl : args = #[v0,v1,v2] := by cases args; simp_all
 obtain ⟨rfl,rfl⟩ := trodVars_none hV
 have k0 := h0
 have lt0 : ∀ x ∈ p0,x.block < W.heap.size := by obtain ⟨m,hm⟩ := k0; exact DataW.trod_lt m _ _ _ hm
 obtain ⟨c0,e0,t0⟩ := Eng.Zbbc (s := (.slc (.int .u8))) Tryz.underlying22 (by kernel_rfl) (hval 0 22 v0 rfl rfl) h0
 obtain ⟨a0,u0,z0,w0⟩ := Eng.Zbay _ t0
 injection u0 with u0; subst u0
 have k1 := h1
 have lt1 : ∀ x ∈ p1,x.block < W.heap.size := by obtain ⟨m,hm⟩ := k1; exact DataW.trod_lt m _ _ _ hm
 obtain ⟨a1,rfl,rfl,rfl,w1⟩ := open_int Tryz.underlying5 (hval 1 5 v1 rfl rfl) h1
 have w1 : IntKind.min .u8 ≤ a1 ∧ a1 ≤ IntKind.max .u8 := by simpa [Lit.wf] using w1
 have k2 := h2
 have lt2 : ∀ x ∈ p2,x.block < W.heap.size := by obtain ⟨m,hm⟩ := k2; exact DataW.trod_lt m _ _ _ hm
 obtain ⟨a2,rfl,rfl,rfl,w2⟩ := open_int Tryz.underlying3 (hval 2 3 v2 rfl rfl) h2
 have w2 : IntKind.min .i64 ≤ a2 ∧ a2 ≤ IntKind.max .i64 := by simpa [Lit.wf] using w2
 clear hA0 hval0 hsz0
 refine (Eng.Pure.law (Eng.Zw0 a0 z0 w0 a1 w1 a2 w2) (w := W) (fun g c k => by obtain ⟨hg,hc⟩ : g = 0 ∧ c = _ := k; subst hg; subst hc; exact handle hL) (.cons e0 (.cons (.c (.int _ _)) (.cons (.c (.int _ _)) .nil)))).mono fun e W' ⟨he,bel⟩ => ?_
 subst he
 exact ⟨_,rfl,_,_,_,[],_,[],hW',trodAll_mk1 (shut_bool Tryz.underlying4 _),(trodAll_cons_mk (Below.trod Zz0 (by kernel_rfl) (of_decide_eq_true (by kernel_rfl)) k0 bel lt0) (trodAll_cons_mk (Below.trod Zz0 (by kernel_rfl) (of_decide_eq_true (by kernel_rfl)) k1 bel lt1) (trodAll_cons_mk (Below.trod Zz0 (by kernel_rfl) (of_decide_eq_true (by kernel_rfl)) k2 bel lt2) trodAll_mk0))),rfl,bel.frame _,fun h => by cases h⟩
theorem Zbaw : Rows.wrapNextRow.inPlace = Tryz.prog.inPlace 3 := by kernel_rfl
theorem Z5i : Rows.wrapNextRow.unfollowed = Tryz.prog.unfollowed 3 := by kernel_rfl
theorem Z83 : Rows.wrapNextRow.recurses = Tryz.prog.recurses 3 := by kernel_rfl
theorem Zbh1 : Rows.wrapNextRow.named = Tryz.prog.varsNamed 3 := by kernel_rfl
theorem q_goes : false = Rows.wrapNextRow.goesBy Tryz.prog := by kernel_rfl
theorem Zbhe : joinedFacts Tryz.prog 3 Tryz.f3 Rows.wrapNextSpec Rows.wrapNextRow = true := by
 unfold joinedFacts
 rw [← Zbaw,← Z5i,← Z83,← Zbh1]
 kernel_rfl
theorem over : Rows.wrapNextRow.holds Tryz.pinned (OpenSpec.ofChange Rows.wrapNextSpec) :=
 OpenClaim.holds_of_wide 3 Tryz.f3 rfl rfl rfl rfl rfl rfl rfl ⟨rfl,rfl,rfl,rfl,rfl⟩ rfl rfl rfl rfl rfl (by kernel_rfl) Tryz.func3 Zbhe
  (of_decide_eq_true (by kernel_rfl)) (by unfold Func.isWrapper; first | (rw [if_pos (by decide +kernel)]; kernel_rfl) | (rw [if_neg (by decide +kernel)]; exact ⟨rfl,rfl⟩))
  (fun os started H enc _ => Zbjw os started H enc)
end Go.Proofs.YticmfblfghdkbaaGreatDoor.wrapNextE
namespace Go.Proofs.YticmfblfghdkbaaGreatDoor
theorem Z0a : Rows.WrapNextSaid := wrapNextE.over
theorem wrapNextCard_holds : Rows.WrapNextCardSaid :=
 Claim7.holds_tied_plain_at .later [] [.data,.data,.data,.handle] true (true, "c59088a88fd41f01395ebcbcd764b675b9a1bf24f8cca687b2284cea51dbddea") true
  Z0a (fun _ h => by cases h) (by kernel_rfl) (fun _ h => by cases h) wrapNext_row_tie rfl ⟨rfl,rfl⟩ (by kernel_rfl) rfl
  (fun f fn hf hfn => by
   obtain rfl : f = 3 := Option.some.inj ((show Tryz.prog.funcNamed "deaddrop/deaddroplaw17.WrapNext" = some 3 by kernel_rfl).symm.trans hf) |>.symm
   obtain rfl : fn = Tryz.f3 := (Option.some.inj (Tryz.func3.symm.trans hfn)).symm
   exact ⟨by kernel_rfl,fun j t ht => by
    rw [Tryz.params3] at ht
    have hm : t ∈ [22,5,3] := by simpa using Array.mem_of_getElem? ht
    have hall : ([22,5,3].all fun u => !Tryz.prog.wantsStandIn u) = true := by kernel_rfl
    exact (show Tryz.prog.wantsStandIn t = false by simpa using List.all_eq_true.1 hall t hm)⟩)
  wrapNextE.q_goes
end Go.Proofs.YticmfblfghdkbaaGreatDoor
