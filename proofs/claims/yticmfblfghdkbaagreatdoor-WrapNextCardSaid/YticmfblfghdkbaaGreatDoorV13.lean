/- Parts of this claim's proof, joined. No statement of the seat is proved here. -/
import Derived.Test.YticmfblfghdkbaaGreatDoorV12
set_option linter.unusedVariables false
set_option linter.unusedSimpArgs false
namespace Go.Proofs.YticmfblfghdkbaaGreatDoor.Eng
open Go Go.Shelf Go.RowKit
theorem Zlg : Builder.Extra Tryz.prog Zec := {
 sizeBuilder := by kernel_rfl
 liesBuilder := by kernel_rfl
 t5 := Tryz.underlying5
 a5 := Tryz.isAgg5
 z5 := Tryz.sizeOf5
 v5 := Tryz.zeroValue5
 infoByte := by kernel_rfl
 cellsByte := by kernel_rfl
 sizeByte := by kernel_rfl
 neB5 := by decide }
theorem Zmx : Zec.f 156 = 155 := by kernel_rfl
def catL (l : List ByteArray) : List UInt8 := l.flatMap fun s => s.data.toList
def catS (l : List ByteArray) : ByteArray := baL (catL l)
def sRow (s : ByteArray) : List Cell := [.str s]
def Zka (l : List ByteArray) : Cell := .lst 1 (l.map sRow)
theorem Zpt (l : List ByteArray) : closedR (l.map sRow) = true := Zcf (f := sRow) (fun _ => rfl) l
theorem Zd6 (s : ByteArray) : catS [s] = s := by simp [catS,catL,baL]
theorem Zdz (s : ByteArray) (l : List ByteArray) : catS (s :: l) = s ++ catS l := by
 unfold catS catL
 rw [List.flatMap_cons,Zrj]; rfl
theorem Zbe8 : catS [] = ⟨#[]⟩ := rfl
theorem Zbdw : ∀ l : List ByteArray,Lib.join (l.map (·.data.toList)) [] = catL l
 | [] => rfl
 | x :: r => by
  rw [List.map_cons,Lib.join_cons]
  unfold Lib.joinTail catL
  rw [List.flatMap_cons,List.flatMap_def,List.map_map]
  congr 2
theorem Zx6 (l : List ByteArray) (hl : l.length ≤ 140737488355328) (hs : (catS l).size ≤ 140737488355328) : Pr 155 [.c (Zka l),sC ⟨#[]⟩] (sC (catS l)) := by
 intro H
 refine ⟨by rw [← Zmx]; exact ⟨_,Zm9.f156,rfl,rfl⟩,fun B m w vs r ha => ?_⟩
 obtain ⟨vs⟩ := vs
 cases ha with
 | cons a1 a2 =>
  cases a2 with
  | cons a2 a3 =>
   cases a3
   cases a2 with
   | c a2 =>
    cases a2
    have hj : (Lib.join (l.map (·.data.toList)) (⟨#[]⟩ : ByteArray).data.toList) = catL l := Zbdw l
    cases a1 with
    | c a1 =>
     have fin : ∀ {vs : Array Value},(Calls Tryz.prog 155 vs w fun e w' => e = .returned (.string (catS l)) ∧ Below w.heap.size w w') →
       Calls Tryz.prog 155 vs w fun e w' => ∃ u m',e = .returned u ∧ St B H m w H m' w' ∧ VRA m' (Zj w') (sC (catS l)) u := fun h => by
      refine h.mono ?_
      rintro e w' ⟨rfl,hb⟩
      exact ⟨_,⟨m.f,m.z⟩,rfl,St.ofBelow r hb (Or.inl rfl) (fun _ h => h) (fun _ h => .inl h),.c (.str _)⟩
     unfold Zka at a1
     generalize hrows : l.map sRow = rows at a1
     cases a1 with
     | lstN =>
      have : l = [] := by simpa using hrows
      subst this
      refine fin ?_
      rw [← Zmx]
      refine (Any.strings_Join_none Zm9 Zlg none 0 ⟨#[]⟩ w).mono ?_
      rintro e w' ⟨rfl,rfl⟩
      exact ⟨rfl,Below.refl _ _⟩
     | lst h1 h2 h3 h4 h5 h6 =>
      refine fin ?_
      subst hrows
      by_cases h0 : l = []
      ·subst h0
       rw [← Zmx]
       refine (Any.strings_Join_none Zm9 Zlg _ _ ⟨#[]⟩ w).mono ?_
       rintro e w' ⟨rfl,rfl⟩
       exact ⟨rfl,Below.refl _ _⟩
      ·obtain ⟨rfl,hz⟩ := h3 (by simpa using h0)
       rename_i cap g o vs'
       have := Any.strings_Join Zm9 Zlg g o cap l ⟨#[]⟩ w (fun j x hx => by
        have e1 : (l.map sRow)[j]? = some [.str x] := by rw [List.getElem?_map,hx]; rfl
        have e2 := h5 j _ 0 _ e1 rfl
        have e3 := h6 j _ 0 _ e1 rfl
        rw [Zf9] at e2
        simp only [Nat.mul_one,Nat.add_zero] at e2
        rw [e2]
        generalize vs' j 0 = u at e3
        cases e3
        rfl) (r.zlt _ hz) hl (by simpa using h1) (by rw [hj]; exact hs)
       rw [hj,Zmx] at this
       rw [List.length_map]
       exact this
theorem Zqw {s : ByteArray} {i : Nat} (h : i < s.size) : Zb2 s i = (s[i]'h).toNat := by simp [Zb2,h]
theorem Zh5 {s : ByteArray} {a b i : Nat} (hb : b ≤ s.size) (hi : a + i < b) : Zb2 (s.extract a b) i = Zb2 s (a + i) := by
 have h1 : i < (s.extract a b).size := by rw [ByteArray.size_extract]; omega
 rw [Zqw h1,Zqw (show a + i < s.size by omega),ByteArray.getElem_extract]
theorem Z2k {s : ByteArray} {a b i n : Nat} (hb : b ≤ s.size) (hn : a + i + 4 * n ≤ b) : Zel (s.extract a b) i n = Zel s (a + i) n := by
 unfold Zel
 refine List.map_congr_left fun k hk => ?_
 have hk : k < n := by simpa using hk
 unfold Zqp
 rw [Zh5 hb (by omega),Zh5 hb (by omega),Zh5 hb (by omega),Zh5 hb (by omega)]
 simp only [Nat.add_assoc]
theorem Zsa {h : V8} {s : ByteArray} {a b i : Nat} (hb : b ≤ s.size) (hn : a + i + 64 ≤ b) : Zoz h (s.extract a b) i = Zoz h s (a + i) := by
 unfold Zoz Zd7
 rw [Z2k hb (by omega)]
def Zf7 (m : ByteArray) : Nat → Nat → V8 → V8
 | 0,_,h => h
 | n + 1,i,h => Zf7 m n (i + 64) (Zoz h m i)
def Zqy (x : Int) : List UInt8 := [b8 (shrW x 24),b8 (shrW x 16),b8 (shrW x 8),b8 x]
def Zqb (v : V8) : List UInt8 := v.list.flatMap Zqy
def lowB (n : Int) : Nat → List UInt8
 | 0 => []
 | k + 1 => b8 (n.fdiv (2 ^ (8 * k))) :: lowB n k
theorem Zc9 (n : Int) : ∀ k,(lowB n k).length = k
 | 0 => rfl
 | k + 1 => by rw [lowB,List.length_cons,Zc9 n k]
def Zcx (n : Int) : List UInt8 := lowB n 8
theorem Zso : ∀ (n i : Nat) (m : ByteArray) (h : V8),i + 64 + 64 * n ≤ m.size → Zf7 m n (i + 64) h = Zf7 (m.extract 64 m.size) n i h
 | 0,_,_,_,_ => rfl
 | n + 1,i,m,h,hs => by
  rw [Zf7,Zf7,Zsa (Nat.le_refl _) (by omega),Nat.add_comm 64 i]
  exact Zso n (i + 64) m _ (by omega)
def padN (n : Nat) : Nat := (120 - (n + 1) % 64) % 64
def padM (s : ByteArray) : ByteArray := s ++ ⟨#[128]⟩ ++ repS ⟨#[0]⟩ (padN s.size) ++ baL (Zcx ((s.size * 8 : Nat) : Int))
theorem Ztx (s : ByteArray) : (padM s).size = 64 * ((s.size + 72) / 64) := by
 have e1 : (⟨#[128]⟩ : ByteArray).size = 1 := rfl
 have e2 : (⟨#[0]⟩ : ByteArray).size = 1 := rfl
 simp only [padM,ByteArray.size_append,Z0s,Zc7,e1,e2,Zcx,Zc9,padN]
 omega
def sumD (s : ByteArray) : ByteArray := baL (Zqb (Zf7 (padM s) ((s.size + 72) / 64) 0 Zlf))
theorem Zo0 (s : ByteArray) : (sumD s).size = 32 := rfl
theorem Zic {s : ByteArray} {e : Env} {k : Nat} {ik : IntKind} {H : Heap} {o : Opd} (ho : o.ev e = .c (.int ik (k : Int))) (h : k ≤ s.size) : vSlS (.c (.str s)) e none (some o) H = some (.c (.str (s.extract 0 k)),H) := by
 simp [vSlS,Zuq,Zby,Zi6,ho,h]
theorem Zp7 {s : ByteArray} {e : Env} {k : Nat} {ik : IntKind} {H : Heap} {o : Opd} (ho : o.ev e = .c (.int ik (k : Int))) (h : k ≤ s.size) : vSlS (.c (.str s)) e (some o) none H = some (.c (.str (s.extract k s.size)),H) := by
 simp [vSlS,Zuq,Zby,Zi6,ho,h]
theorem Zuk {b : UInt8} {H : Heap} : vB2s (.c (.lst 1 [[.int .u8 (b.toNat : Int)]])) H = some (.c (.str (baL [b])),H) := by
 have := Zhi [b]
 simp only [List.map_cons,List.map_nil,Zs] at this
 simp only [vB2s,Zbh,beq_self_eq_true,if_true,Heap.rowsOf,this]
 rfl
theorem Zq8 {a b : Int} {ik : IntKind} {H : Heap} (hb : 0 ≤ b) : vBin .shr (.c (.int .u64 a)) (.c (.int ik b)) H = some (.c (.int .u64 (a.fdiv (2 ^ (Nat.min b.toNat 64)))),H) := by
 simp [vBin,Zch,Zca,hb,IntKind.bits]
theorem Z3u {s : ByteArray} : (s = ⟨#[]⟩) ↔ s.size = 0 := by
 constructor
 ·rintro rfl; rfl
 ·intro h
  apply ByteArray.ext
  apply Array.eq_empty_of_size_eq_zero
  exact h
set_option maxHeartbeats 8000000 in
theorem Zmo (l : List ByteArray) (hl : l.length ≤ 1000000) (hs : (catS l).size ≤ 1000000000) : Pr 110 [.c (Zka l)] (sC (sumD (catS l))) := by
 refine Zl mixed Z85 (by simp [Zq,Zp,Zc,Zka,Zpt]) fun hl' T => ?_
 have hj := Zx6 l (by omega) (by omega)
 generalize catS l = s at hs hj ⊢
 have htk := Z5v
 have hroots := Z27
 have hcubes := Z3s
 have hcl : Zfu.length = 64 := rfl
 generalize Zfu = cw at hcl htk hcubes
 have hclo : ∀ l : List Int,Zb (l.map wRow) = true := fun l => by
  induction l with
  | nil => rfl
  | cons x l ih => simp [Zb,Zc,wRow,ih]
 have loop3 : ∀ (x : Int) (rest pre : List Int) (acc : List UInt8) (e : Env) (H : Heap),pre.length + rest.length = 8 → e 51 = .agg ((pre ++ rest).map wRow) → e 52 = iC pre.length → Acc 1 (acc.map Zs) (e 8) H → acc.length ≤ 4 * pre.length →
   acc ++ rest.flatMap Zqy = (sumD s).data.toList → Run (Zt Tryz.prog T) ⟨[.tmp 2],fun u E => Zf E u = some (sC (sumD s))⟩ [.loop Zmw,.blk 4,.code Zrk] e H := by
  intro x rest
  induction rest with
  | nil =>
   intro pre acc e H hp h51 h52 hacc hal hv
   have hc : ¬ ((pre.length : Int) < 8) := by simp at hp; omega
   refine Zi ?_
   conv => enter [3,1]; unfold Zmw
   simp only [go_sem,simprocAttr,-Nat.reduceSubDiff,h52,hc]
   unfold Zrk
   have hb := hacc.b2sL
   simp only [go_sem,simprocAttr,-Nat.reduceSubDiff,hb]
   have : acc = (sumD s).data.toList := by simpa using hv
   rw [this,Zjg]
   simp [Zf,Ze,Zk,Zg,Zh,Zd,Zc,Zb]
  | cons y rest ih =>
   intro pre acc e H hp h51 h52 hacc hal hv
   have hp8 : pre.length < 8 := by simp at hp; omega
   have hc : ((pre.length : Int) < 8) := by omega
   have hx := fun H => Zsj (n := 8) (l := pre ++ y :: rest) (i := pre.length) (x := y) (ik := .i64) (H := H) hp8 (by simp)
   have s24 : ∀ (ik : IntKind) (H : Heap),vBin .shr (.c (.int .u32 y)) (.c (.int ik 24)) H = some (.c (.int .u32 (shrW y 24)),H) := fun ik H => Zci (by decide)
   have s16 : ∀ (ik : IntKind) (H : Heap),vBin .shr (.c (.int .u32 y)) (.c (.int ik 16)) H = some (.c (.int .u32 (shrW y 16)),H) := fun ik H => Zci (by decide)
   have s8 : ∀ (ik : IntKind) (H : Heap),vBin .shr (.c (.int .u32 y)) (.c (.int ik 8)) H = some (.c (.int .u32 (shrW y 8)),H) := fun ik H => Zci (by decide)
   have hn : IntKind.wrap .i64 ((pre.length : Int) + 1) = ((pre ++ [y]).length : Int) := by rw [Zn (by omega)]; simp
   refine Zi ?_
   conv => enter [3,1]; unfold Zmw
   simp only [go_sem,simprocAttr,-Nat.reduceSubDiff,h51,h52,hc,hx,s24,s16,s8,Zeg]
   refine Acc.app_step hacc (by simp; omega) fun v' H' ha' => ?_
   simp only [go_sem,simprocAttr,-Nat.reduceSubDiff,h52,hn]
   refine ih (pre ++ [y]) (acc ++ Zqy y) _ _ (by simp at hp ⊢; omega) ?_ ?_ ?_ ?_ ?_
   ·simp only [go_sem,simprocAttr,-Nat.reduceSubDiff,h51,List.append_assoc]
   ·simp only [go_sem,simprocAttr,-Nat.reduceSubDiff,hn]
   ·simp only [go_sem,simprocAttr,-Nat.reduceSubDiff]; rw [List.map_append]; exact ha'
   ·simp [Zqy]; omega
   ·rw [← hv]; simp
 have loop2 : ∀ (n : Nat) (t : ByteArray) (v : V8) (e : Env),t.size = 64 * n → e 3 = sC t → e 6 = .c (.ptr 0 0 0) → e 7 = .c (.ptr 1 0 0) → baL (Zqb (Zf7 t n 0 v)) = sumD s →
   Run (Zt Tryz.prog T) ⟨[.tmp 2],fun u E => Zf E u = some (sC (sumD s))⟩ [.loop Zmf,.blk 2,.code Zro] e [{ sz := 8,rows := [v.cells] },{ sz := 64,rows := [cw.map wRow] }] := by
  intro n
  induction n with
  | zero =>
   intro t v e ht h3 h6 h7 hv
   have hc : t = ⟨#[]⟩ := Z3u.2 (by omega)
   refine Zi ?_
   conv => enter [3,1]; unfold Zmf
   simp only [go_sem,simprocAttr,-Nat.reduceSubDiff,h3,hc]
   unfold Zro
   have h8 : (v.list.map wRow).length = 8 := rfl
   have hvc : v.cells = v.list.map wRow := rfl
   have h8' : (v.list.map wRow).take 8 = v.list.map wRow := rfl
   rw [hvc]
   simp only [go_sem,simprocAttr,-Nat.reduceSubDiff,h6,h8,h8']
   refine loop3 0 v.list [] [] _ _ rfl ?_ ?_ ?_ (by simp) ?_
   ·simp only [go_sem,simprocAttr,-Nat.reduceSubDiff]
   ·simp only [go_sem,simprocAttr,-Nat.reduceSubDiff,List.length_nil,Int.natCast_zero]
   ·simp only [go_sem,simprocAttr,-Nat.reduceSubDiff]; exact .nil
   ·rw [← hv]; rfl
  | succ n ih =>
   intro t v e ht h3 h6 h7 hv
   have hc : ¬ t = ⟨#[]⟩ := fun h => by have := Z3u.1 h; omega
   have h64 : (cw.map wRow).length = 64 := by simp [hcl]
   have h64' : (cw.map wRow).take 64 = cw.map wRow := List.take_of_length_le (by omega)
   have h8 : v.cells.length = 8 := rfl
   have h8' : v.cells.take 8 = v.cells := rfl
   have h8d : v.cells.drop 8 = [] := rfl
   have hhi : ∀ (e : Env) (H : Heap),vSlS (sC t) e none (some (.k (.c (.int .i64 64)))) H = some (sC (t.extract 0 64),H) := fun e H => Zic (k := 64) rfl (by omega)
   have hlo : ∀ (e : Env) (H : Heap),vSlS (sC t) e (some (.k (.c (.int .i64 64)))) none H = some (sC (t.extract 64 t.size),H) := fun e H => Zp7 (k := 64) rfl (by omega)
   have hts : (t.extract 0 64).size = 64 := by rw [ByteArray.size_extract]; omega
   have hcall := htk v (t.extract 0 64) hts
   rw [Zsa (by omega) (by omega)] at hcall
   have hw8 : ∀ w : V8,w.cells.length = 8 := fun _ => rfl
   refine Zi ?_
   conv => enter [3,1]; unfold Zmf
   simp only [go_sem,simprocAttr,-Nat.reduceSubDiff,h3,h6,h7,hc,h64,h64',h8,h8',hhi]
   refine Za hcall ?_
   simp only [go_sem,simprocAttr,-Nat.reduceSubDiff,h6,h8,h8d,hw8,h3,hlo]
   refine ih (t.extract 64 t.size) (Zoz v t 0) _ ?_ ?_ ?_ ?_ ?_
   ·rw [ByteArray.size_extract]; omega
   ·simp only [go_sem,simprocAttr,-Nat.reduceSubDiff]
   ·simp only [go_sem,simprocAttr,-Nat.reduceSubDiff,h6]
   ·simp only [go_sem,simprocAttr,-Nat.reduceSubDiff,h7]
   ·rw [← hv,Zf7,← Zso n 0 t _ (by omega)]
 have loop1 : ∀ (k : Nat) (t : ByteArray) (e : Env),k ≤ 8 → t ++ baL (lowB ((s.size * 8 : Nat) : Int) k) = padM s → e 3 = sC t → e 4 = .c (.int .u64 ((s.size * 8 : Nat) : Int)) → e 5 = iC ((k : Int) - 1) →
   Run (Zt Tryz.prog T) ⟨[.tmp 2],fun u E => Zf E u = some (sC (sumD s))⟩ [.loop Zmd,.blk 0,.code Zq7] e [] := by
  intro k
  induction k with
  | zero =>
   intro t e hk ht h3 h4 h5
   have hc : ¬ ((0 : Int) ≤ ((0 : Nat) : Int) - 1) := by omega
   refine Zi ?_
   conv => enter [3,1]; unfold Zmd
   have h5' : e 5 = iC (-1) := h5
   simp only [go_sem,simprocAttr,-Nat.reduceSubDiff,h5']
   unfold Zq7
   have hre : (List.map wRow (List.replicate 64 0)).length = 64 := by simp
   simp only [go_sem,simprocAttr,-Nat.reduceSubDiff]
   refine Za hroots ?_
   simp only [go_sem,simprocAttr,-Nat.reduceSubDiff]
   refine Za hcubes ?_
   have h64 : (cw.map wRow).length = 64 := by simp [hcl]
   have h8 : Zlf.cells.length = 8 := rfl
   simp only [go_sem,simprocAttr,-Nat.reduceSubDiff,h64,h8]
   have hpm : padM s = t := by rw [← ht]; exact (ByteArray.append_empty).symm ▸ rfl
   refine loop2 ((s.size + 72) / 64) t Zlf _ ?_ ?_ ?_ ?_ ?_
   ·rw [← hpm]; exact Ztx s
   ·simp only [go_sem,simprocAttr,-Nat.reduceSubDiff,h3]
   ·simp only [go_sem,simprocAttr,-Nat.reduceSubDiff]
   ·simp only [go_sem,simprocAttr,-Nat.reduceSubDiff]
   ·rw [← hpm]; rfl
  | succ k ih =>
   intro t e hk ht h3 h4 h5
   have h5 : e 5 = iC (k : Int) := by rw [h5]; congr 2; omega
   have hc : (0 : Int) ≤ (k : Int) := by omega
   have w8 : IntKind.wrap .i64 (8 * (k : Int)) = ((8 * k : Nat) : Int) := by rw [Zn (by omega)]; omega
   have hsh : ∀ (a : Int) (H : Heap),vBin .shr (.c (.int .u64 a)) (iC ((8 * k : Nat) : Int)) H = some (.c (.int .u64 (a.fdiv (2 ^ (8 * k)))),H) := fun a H => by
    have := Zq8 (a := a) (b := ((8 * k : Nat) : Int)) (ik := .i64) (H := H) (by omega)
    have e1 : Nat.min (((8 * k : Nat) : Int)).toNat 64 = 8 * k := by rw [Int.toNat_natCast]; exact Nat.min_eq_left (by omega)
    rw [e1] at this
    exact this
   have hsz : t.size ≤ 2000000000 := by
    have h1 := Ztx s
    rw [← ht,ByteArray.size_append] at h1
    omega
   have hcat : ∀ (b : UInt8) (H : Heap),vBin .add (sC t) (.c (.str (baL [b]))) H = some (sC (t ++ baL [b]),H) := fun b H => Zgc (by rw [Zc7]; simp; omega)
   have hn : IntKind.wrap .i64 ((k : Int) - 1) = (k : Int) - 1 := Zn (by omega)
   refine Zi ?_
   conv => enter [3,1]; unfold Zmd
   simp only [go_sem,simprocAttr,-Nat.reduceSubDiff,h3,h4,h5,hc,w8,hsh,Zeg,Zuk,hcat,hn]
   refine ih (t ++ baL [b8 ((((s.size * 8 : Nat) : Int)).fdiv (2 ^ (8 * k)))]) _ (by omega) ?_ ?_ ?_ ?_
   ·rw [← ht,ByteArray.append_assoc,← Zrj]; rfl
   ·simp only [go_sem,simprocAttr,-Nat.reduceSubDiff]
   ·simp only [go_sem,simprocAttr,-Nat.reduceSubDiff,h4]
   ·simp only [go_sem,simprocAttr,-Nat.reduceSubDiff,hn]
 unfold Z1f
 have w1 : IntKind.wrap .u64 (s.size : Int) = (s.size : Int) := by simp [IntKind.wrap,IntKind.bits,IntKind.signed]; omega
 have w2 : IntKind.wrap .u64 ((s.size : Int) * 8) = ((s.size * 8 : Nat) : Int) := by simp [IntKind.wrap,IntKind.bits,IntKind.signed]; omega
 have hcat1 : ∀ H : Heap,vBin .add (sC s) (.c (.str ⟨#[128]⟩)) H = some (sC (s ++ ⟨#[128]⟩),H) := fun H => Zgc (by show s.size + 1 ≤ _; omega)
 have hsz : (#[128] : Array UInt8).size = 1 := rfl
 have r1 : Int.tmod ((s.size + 1 : Nat) : Int) 64 = (((s.size + 1) % 64 : Nat) : Int) := by rw [Int.tmod_eq_emod_of_nonneg (by omega)]; omega
 have w3 : IntKind.wrap .i64 (120 - (((s.size + 1) % 64 : Nat) : Int)) = ((120 - (s.size + 1) % 64 : Nat) : Int) := by rw [Zn (by omega)]; omega
 have r2 : Int.tmod ((120 - (s.size + 1) % 64 : Nat) : Int) 64 = ((padN s.size : Nat) : Int) := by rw [Int.tmod_eq_emod_of_nonneg (by omega)]; unfold padN; omega
 have hpn : padN s.size < 64 := by unfold padN; omega
 have hcat2 : ∀ H : Heap,vBin .add (sC (s ++ ⟨#[128]⟩)) (sC (repS ⟨#[0]⟩ (padN s.size))) H = some (sC (s ++ ⟨#[128]⟩ ++ repS ⟨#[0]⟩ (padN s.size)),H) := fun H => Zgc (by
  rw [ByteArray.size_append,Z0s]
  show s.size + 1 + _ * 1 ≤ _
  omega)
 simp only [go_sem,simprocAttr,-Nat.reduceSubDiff]
 refine Za hj ?_
 simp only [go_sem,simprocAttr,-Nat.reduceSubDiff,w1,w2,hcat1,hsz,Zdh,r1,w3,r2]
 refine Za (Zu5 ⟨#[0]⟩ (padN s.size) (by omega) (by show 1 * _ ≤ _; omega)) ?_
 simp only [go_sem,simprocAttr,-Nat.reduceSubDiff,hcat2]
 refine loop1 8 _ _ (Nat.le_refl _) rfl ?_ ?_ ?_
 ·simp only [go_sem,simprocAttr,-Nat.reduceSubDiff]
 ·simp only [go_sem,simprocAttr,-Nat.reduceSubDiff]
 ·simp only [go_sem,simprocAttr,-Nat.reduceSubDiff] <;> rfl
mutual
theorem Zxw : ∀ (w : Wr) (lim : Int),0 ≤ lim → Z0 w lim = true → Zfk w (lim + 1) ≤ lim
 | .mk k n s l,lim,h0,h => by
  simp only [Zfk]
  split
  ·rename_i k3
   subst k3
   simp only [Z0] at h
   simp only [show ¬ ((3 : Int) = 1) by omega,show ¬ ((3 : Int) = 2) by omega,if_false,if_true] at h
   split at h
   ·rename_i hc
    exact Zwr l lim 1 (by omega) (by omega) (by omega) h
   ·cases h
  ·omega
theorem Zwr : ∀ (l : List Wr) (lim n : Int),1 ≤ lim → 1 ≤ n → n ≤ lim → Zez l (lim - 1) = true → Zf3 l (lim + 1) n ≤ lim
 | [],lim,n,_,_,h2,_ => by simp only [Zf3]; exact h2
 | w :: l,lim,n,h0,h1,h2,h => by
  simp only [Zez,Bool.and_eq_true] at h
  simp only [Zf3]
  rw [if_pos (by omega)]
  have e : lim + 1 - 1 = lim - 1 + 1 := by omega
  have h3 := Zxw w (lim - 1) (by omega) h.1
  rw [e]
  refine Zwr l lim _ h0 ?_ ?_ h.2 <;> split <;> omega
end
theorem Z90 (w : Wr) : Zqq w = Z0 w 6 := by
 unfold Zqq
 cases h : Z0 w 6 with
 | false => rfl
 | true =>
  have := Zxw w 6 (by omega) h
  simp only [Bool.true_and]
  exact decide_eq_true this
mutual
def putL : Wr → List UInt8
 | .mk k n s l => b8 k :: (if k = 1 then lowB (IntKind.wrap .u64 n) 8 else if k = 2 then lowB (s.size : Int) 4 ++ s.data.toList else lowB (l.length : Int) 4 ++ Zj0 l)
def Zj0 : List Wr → List UInt8
 | [] => []
 | w :: l => putL w ++ Zj0 l
end
mutual
theorem Zjl : ∀ w : Wr,(putL w).length ≤ w.size
 | .mk k n s l => by
  have h := Zyw l
  simp only [putL,Wr.size,List.length_cons]
  split
  ·rw [Zc9]; omega
  ·split
   ·rw [List.length_append,Zc9,show s.data.toList.length = s.size from rfl]; omega
   ·rw [List.length_append,Zc9]; omega
theorem Zyw : ∀ l : List Wr,(Zj0 l).length ≤ Wr.sizes l
 | [] => by simp [Zj0]
 | w :: l => by
  have h1 := Zjl w
  have h2 := Zyw l
  simp only [Zj0,Wr.sizes,List.length_append]
  omega
end
def Zy3 (key : ByteArray) (y : UInt8) : List UInt8 := (key.data.toList ++ List.replicate (64 - key.size) 0).map (· ^^^ y)
def Zcd (key : ByteArray) (y : UInt8) : ByteArray := baL (Zy3 key y)
theorem Zew (s : ByteArray) : s.data.toList.length = s.size := rfl
theorem Zk2 (key : ByteArray) (y : UInt8) (h : key.size ≤ 64) : (Zcd key y).size = 64 := by
 unfold Zcd Zy3
 rw [Zc7,List.length_map,List.length_append,List.length_replicate,Zew]
 omega
abbrev yC (y : UInt8) : AVal := .c (.int .u8 (y.toNat : Int))
theorem Zlm {x y : UInt8} {H : Heap} : vBin .xor (.c (.int .u8 (x.toNat : Int))) (.c (.int .u8 (y.toNat : Int))) H = some (yC (x ^^^ y),H) := by
 simp only [vBin,Zch,Zca,if_true,Zbkb]
theorem mk64 (H : Heap) : Zuu 1 1 [.int .u8 0] (iC 64) (iC 64) H = some (.c (.slc H.length 0 64 1 false),H ++ [{ sz := 1,rows := (List.replicate 64 (0 : UInt8)).map Zs }]) := by
 rw [List.map_replicate]
 rfl
theorem Zbgp (key : ByteArray) (h : key.size ≤ 64) : vCpy 1 (.c (.slc 0 0 64 1 false)) (sC key) [{ sz := 1,rows := (List.replicate 64 (0 : UInt8)).map Zs }] = some (iC key.size,[{ sz := 1,rows := (key.data.toList ++ List.replicate (64 - key.size) 0).map Zs }]) := by
 have h1 : (key.data.toList.map Zs).length = key.size := by rw [List.length_map,Zew]
 simp only [vCpy,Zx0,Heap.rowsOf,Zja,Zbh]
 simp only [List.getElem?_cons_zero]
 rw [if_pos (by simp; omega)]
 simp only [h1,List.take_zero,List.nil_append,Nat.zero_add,List.set_cons_zero,List.map_append]
 congr 4
 rw [← List.map_drop,List.drop_replicate]
theorem Zbgo {pre post : List UInt8} {i : Nat} (h : pre.length = i) (a : UInt8) : ((pre ++ a :: post).map Zs)[i]? = some [.int .u8 (a.toNat : Int)] := by
 subst h; simp [Zs]
theorem Zba1 {pre post : List UInt8} {i : Nat} (h : pre.length = i) (a v : UInt8) : ((pre ++ a :: post).map Zs).set i [.int .u8 (v.toNat : Int)] = (pre ++ v :: post).map Zs := by
 subst h; simp [Zs]
theorem Zuo {H : Heap} {b n : Nat} {l : List UInt8} (h : H[b]? = some { sz := 1,rows := l.map Zs,own := true,live := true }) (hn : l.length = n) (h0 : 0 < n) : vB2s (.c (.slc b 0 n 1 false)) H = some (sC (baL l),H) := by
 have hr : Heap.rowsOf H (.slc b 0 n 1 false) = some (l.map Zs) := by
  simp only [Heap.rowsOf,h]
  rw [if_neg (by omega)]
  rw [if_pos (by simp; omega)]
  rw [List.drop_zero,List.take_of_length_le (by rw [List.length_map]; omega)]
 simp only [vB2s,Zbh,beq_self_eq_true,if_true,hr,Zhi]
 rfl
theorem Zr4 (key : ByteArray) (y : UInt8) (hk : key.size ≤ 64) : Pr 111 [sC key,yC y] (sC (Zcd key y)) := by
 refine Zl mixed Z1x rfl fun hl T => ?_
 unfold Ztm
 have hcp := Zbgp key hk
 have hlen : (key.data.toList ++ List.replicate (64 - key.size) (0 : UInt8)).length = 64 := by rw [List.length_append,List.length_replicate,Zew]; omega
 unfold Zcd Zy3
 generalize key.data.toList ++ List.replicate (64 - key.size) (0 : UInt8) = L at hcp hlen ⊢
 have hmk := mk64
 generalize List.replicate 64 (0 : UInt8) = Z at hcp hmk
 have loop : ∀ (rest pre : List UInt8) (e : Env),pre.length + rest.length = 64 → e 1 = yC y → e 5 = .c (.slc 0 0 64 1 false) → e 12 = iC 64 → e 13 = iC pre.length → pre ++ rest.map (· ^^^ y) = L.map (· ^^^ y) →
   Run (Zt Tryz.prog T) ⟨[.tmp 4],fun u E => Zf E u = some (sC (baL (L.map (· ^^^ y))))⟩ [.loop Zi4,.blk 0,.code Zl3] e [{ sz := 1,rows := (pre ++ rest).map Zs }] := by
  intro rest
  induction rest with
  | nil =>
   intro pre e hp h1 h5 h12 h13 hv
   have hc : ¬ ((pre.length : Int) < 64) := by simp at hp; omega
   refine Zi ?_
   conv => enter [3,1]; unfold Zi4
   simp only [go_sem,simprocAttr,h12,h13,hc]
   unfold Zl3
   have hb := Zuo (H := [{ sz := 1,rows := pre.map Zs }]) (b := 0) (n := 64) (l := pre) rfl (by simpa using hp) (by omega)
   simp only [go_sem,simprocAttr,h5,hb]
   have : pre = L.map (· ^^^ y) := by simpa using hv
   rw [← this]
   simp [Zf,Ze,Zk,Zg,Zh,Zd,Zc,Zb]
  | cons x rest ih =>
   intro pre e hp h1 h5 h12 h13 hv
   have hp8 : pre.length < 64 := by simp at hp; omega
   have hc : ((pre.length : Int) < 64) := by omega
   have hx : ∀ H : Heap,vIx 1 (.c (.slc 0 0 64 1 false)) (iC pre.length) H = some (.c (.ptr 0 pre.length 0),H) := fun H => Zek hp8
   have hk0 : ([{ sz := 1,rows := (pre ++ x :: rest).map Zs }] : Heap)[0]? = some { sz := 1,rows := (pre ++ x :: rest).map Zs,own := true,live := true } := rfl
   have hrow : Heap.row [{ sz := 1,rows := (pre ++ x :: rest).map Zs }] 0 pre.length = some [.int .u8 (x.toNat : Int)] := by rw [Zhv hk0 rfl]; exact Zbgo rfl x
   have hmine : Heap.mine [{ sz := 1,rows := (pre ++ x :: rest).map Zs }] 0 = true := Zb7 hk0 rfl rfl
   have hput : Heap.put [{ sz := 1,rows := (pre ++ x :: rest).map Zs }] 0 pre.length [.int .u8 ((x ^^^ y).toNat : Int)] = [{ sz := 1,rows := ((pre ++ [x ^^^ y]) ++ rest).map Zs }] := by
    rw [Zkd hk0]
    simp only [List.set_cons_zero,Zba1 rfl]
    simp
   have hn : IntKind.wrap .i64 ((pre.length : Int) + 1) = ((pre ++ [x ^^^ y]).length : Int) := by rw [Zn (by omega)]; simp
   refine Zi ?_
   conv => enter [3,1]; unfold Zi4
   simp only [go_sem,simprocAttr,h1,h5,h12,h13,hc,hx,hrow,Zlm,hmine,hput,hn]
   refine ih (pre ++ [x ^^^ y]) _ (by simp at hp ⊢; omega) ?_ ?_ ?_ ?_ (by simpa using hv)
   ·simp only [go_sem,simprocAttr,h1]
   ·simp only [go_sem,simprocAttr,h5]
   ·simp only [go_sem,simprocAttr,h12]
   ·simp only [go_sem,simprocAttr,hn]
 simp only [go_sem,simprocAttr,hmk,hcp]
 refine loop L [] _ (by simpa using hlen) ?_ ?_ ?_ ?_ (by simp)
 all_goals first | (simp only [go_sem,simprocAttr]; done) | (simp only [go_sem,simprocAttr]; rfl)
def keyD (key : ByteArray) : ByteArray := if 64 < key.size then sumD key else key
theorem Z0u (key : ByteArray) : (keyD key).size ≤ 64 := by
 unfold keyD
 split
 ·rw [Zo0]; omega
 ·omega
def macD (key s : ByteArray) : ByteArray := sumD (Zcd (keyD key) 92 ++ sumD (Zcd (keyD key) 54 ++ s))
theorem Zee (key s : ByteArray) : (macD key s).size = 32 := rfl
theorem Acc.view_ne {sz : Nat} {rows : List (List Cell)} {v : AVal} {H : Heap} (h : Acc sz rows v H) (h0 : rows ≠ []) (hc : closedR rows = true) : Zf H v = some (.c (.lst sz rows)) := by
 rcases h with ⟨rfl,_⟩ | ⟨b,ext,rfl,h2⟩
 ·exact absurd rfl h0
 ·have hl : rows.length ≠ 0 := fun e => h0 (List.eq_nil_of_length_eq_zero e)
  simp only [Zf,Ze,Zk]
  simp [hl,h2,hc]
theorem Zpc (key : ByteArray) (l : List ByteArray) (hk : key.size ≤ 1000000) (hl : l.length ≤ 100000) (hs : (catS l).size ≤ 100000000) : Pr 68 [sC key,.c (Zka l)] (sC (macD key (catS l))) := by
 refine Zl mixed Z7a (by simp [Zq,Zp,Zc,Zka,Zpt]) fun hl' T => ?_
 have hks := Z0u key
 have hx1 := Zr4 (keyD key) 54 hks
 have hx2 := Zr4 (keyD key) 92 hks
 have h1s := Zk2 (keyD key) 54 hks
 have h2s := Zk2 (keyD key) 92 hks
 have hsum1 := Zmo (Zcd (keyD key) 54 :: l) (by simp; omega) (by rw [Zdz,ByteArray.size_append]; omega)
 have hsum2 := Zmo [Zcd (keyD key) 92,sumD (Zcd (keyD key) 54 ++ catS l)] (by simp) (by
  rw [Zdz,Zdz,Zbe8,ByteArray.size_append,ByteArray.size_append,Zo0]
  have : (⟨#[]⟩ : ByteArray).size = 0 := rfl
  omega)
 have hc2 : catS [Zcd (keyD key) 92,sumD (Zcd (keyD key) 54 ++ catS l)] = Zcd (keyD key) 92 ++ sumD (Zcd (keyD key) 54 ++ catS l) := by rw [Zdz,Zd6]
 rw [Zdz] at hsum1
 rw [hc2] at hsum2
 have hkey : 64 < key.size → Pr 110 [.c (Zka [key])] (sC (keyD key)) := fun h => by
  have := Zmo [key] (by simp) (by rw [Zd6]; omega)
  rw [Zd6] at this
  unfold keyD
  rw [if_pos h]
  exact this
 unfold macD
 have hkn : ¬ 64 < key.size → keyD key = key := fun h => by unfold keyD; rw [if_neg h]
 generalize sumD (Zcd (keyD key) 92 ++ sumD (Zcd (keyD key) 54 ++ catS l)) = res at hsum2 ⊢
 generalize sumD (Zcd (keyD key) 54 ++ catS l) = s1 at hsum1 hsum2
 generalize Zcd (keyD key) 54 = x1 at hx1 hsum1 h1s
 generalize Zcd (keyD key) 92 = x2 at hx2 hsum2 h2s
 have hcl : closedR (List.map sRow (x1 :: l)) = true := Zpt _
 have e54 : (54 : Int) = ((54 : UInt8).toNat : Int) := rfl
 have e92 : (92 : Int) = ((92 : UInt8).toNat : Int) := rfl
 have hlit : ∀ H : Heap,vLit 1 1 (some [[.str x1]]) H = some (.c (.slc H.length 0 1 1 false),H ++ [{ sz := 1,rows := [[.str x1]] }]) := fun _ => rfl
 unfold Zyh
 by_cases h64 : 64 < key.size
 ·have hc : (64 : Int) < (key.size : Int) := by omega
  simp only [go_sem,simprocAttr,hc]
  refine Za (hkey h64) ?_
  simp only [go_sem,simprocAttr]
  refine Za hx1 ?_
  simp only [go_sem,simprocAttr,hlit,Zka]
  refine Acc.app_step (sz := 1) (rows := [[.str x1]]) (Acc.last (H := [])) (by simp; omega) fun v' H' ha' => ?_
  simp only [go_sem,simprocAttr]
  refine Za hx2 ?_
  simp only [go_sem,simprocAttr]
  refine Zfp hsum1 ?_ rfl ?_
  ·have hv := ha'.view_ne (by simp) (by simpa [sRow] using hcl)
   simp only [List.map_nil,List.append_nil,Zd,hv]
   rfl
  simp only [go_sem,simprocAttr]
  refine Za hsum2 ?_
  simp only [go_sem,simprocAttr]
  simp [Zf,Ze,Zk,Zg,Zh,Zd,Zc,Zb]
 ·have hc : ¬ (64 : Int) < (key.size : Int) := by omega
  rw [hkn h64] at hx1 hx2
  simp only [go_sem,simprocAttr,hc]
  refine Za hx1 ?_
  simp only [go_sem,simprocAttr,hlit,Zka]
  refine Acc.app_step (sz := 1) (rows := [[.str x1]]) (Acc.last (H := [])) (by simp; omega) fun v' H' ha' => ?_
  simp only [go_sem,simprocAttr]
  refine Za hx2 ?_
  simp only [go_sem,simprocAttr]
  refine Zfp hsum1 ?_ rfl ?_
  ·have hv := ha'.view_ne (by simp) (by simpa [sRow] using hcl)
   simp only [List.map_nil,List.append_nil,Zd,hv]
   rfl
  simp only [go_sem,simprocAttr]
  refine Za hsum2 ?_
  simp only [go_sem,simprocAttr]
  simp [Zf,Ze,Zk,Zg,Zh,Zd,Zc,Zb]
theorem Zum {n : Int} (h : 0 ≤ n ∧ n ≤ 18446744073709551615) : IntKind.wrap .u64 n = n := by
 simp [IntKind.wrap,IntKind.bits,IntKind.signed]; omega
theorem Zdr (x n : Int) (h0 : 0 ≤ n) (h1 : n ≤ 32) : Pr 114 [wC x,.c (.int .u64 n)] (wC (rotW x n)) := by
 refine Zl mixed Z7s rfl fun hl T => ?_
 unfold Z0i
 have e2 : IntKind.wrap .u64 (32 - n) = 32 - n := Zum (by omega)
 have e3 : ∀ (a : Int) (H : Heap),vBin .shl (.c (.int .u32 a)) (.c (.int .u64 n)) H = some (.c (.int .u32 (shlW a n)),H) := fun a H => Zdy h0
 have e4 : ∀ (a : Int) (H : Heap),vBin .shr (.c (.int .u32 a)) (.c (.int .u64 (32 - n))) H = some (.c (.int .u32 (shrW a (32 - n))),H) := fun a H => Zci (by omega)
 simp only [go_sem,simprocAttr,e2,e3,e4]
 simp [Zf,Ze,Zk,Zg,Zh,Zd,Zc,Zb,rotW]
theorem Zv2 (x a b c : Int) (ha : 0 ≤ a ∧ a ≤ 32) (hb : 0 ≤ b ∧ b ≤ 32) (hc : 0 ≤ c ∧ c ≤ 32) : Pr 115 [wC x,.c (.int .u64 a),.c (.int .u64 b),.c (.int .u64 c)] (wC (xorW (xorW (rotW x (32 - a)) (rotW x (32 - b))) (rotW x (32 - c)))) := by
 refine Zl mixed Z6f rfl fun hl T => ?_
 unfold Zya
 have e1 : IntKind.wrap .u64 (32 - a) = 32 - a := Zum (by omega)
 have e2 : IntKind.wrap .u64 (32 - b) = 32 - b := Zum (by omega)
 have e3 : IntKind.wrap .u64 (32 - c) = 32 - c := Zum (by omega)
 simp only [go_sem,simprocAttr,e1]
 refine Za (Zdr x (32 - a) (by omega) (by omega)) ?_
 simp only [go_sem,simprocAttr,e2]
 refine Za (Zdr x (32 - b) (by omega) (by omega)) ?_
 simp only [go_sem,simprocAttr,e3]
 refine Za (Zdr x (32 - c) (by omega) (by omega)) ?_
 simp only [go_sem,simprocAttr]
 simp [Zf,Ze,Zk,Zg,Zh,Zd,Zc,Zb]
theorem Z7h (x : Int) : Pr 115 [wC x,.c (.int .u64 6),.c (.int .u64 11),.c (.int .u64 25)] (wC (bigS x)) := Zv2 x 6 11 25 (by decide) (by decide) (by decide)
theorem Z7i (x : Int) : Pr 115 [wC x,.c (.int .u64 2),.c (.int .u64 13),.c (.int .u64 22)] (wC (bigT x)) := Zv2 x 2 13 22 (by decide) (by decide) (by decide)
def wR (n : Int) : List Cell := [.int .u32 n]
theorem Zbab (l : List Int) : closedR (l.map wR) = true := Zcf (f := wR) (fun _ => rfl) l
theorem Zxg : Pr 113 [] (.c (.lst 1 (Zfu.map wR))) := by
 refine Zl mixed Zyn rfl fun hl T => ?_
 unfold Zp8
 have hlit : mkF ([] : Heap) (vLit 1 64 (some (Zfu.map wR)) []) = some (.c (.lst 1 (Zfu.map wR))) := Zm5 rfl (Zbab _) (by omega)
 simp only [Zfu,List.map_cons,List.map_nil,wR] at hlit ⊢
 simp only [go_sem,simprocAttr,hlit]
 rfl
theorem Zil (n : Int) : Pr 112 [iC n] (sC (baL (Zcx (IntKind.wrap .u64 n)))) := by
 refine Zl mixed Z55 rfl fun hl T => ?_
 unfold Zxn
 obtain ⟨N,hN⟩ : ∃ N,IntKind.wrap .u64 n = N := ⟨_,rfl⟩
 rw [hN]
 have loop : ∀ (k i : Nat) (acc : List UInt8) (e : Env) (H : Heap),i + k = 8 → e 3 = .c (.int .u64 N) → e 5 = iC i → Acc 1 (acc.map Zs) (e 4) H → acc.length = i → acc ++ lowB N k = Zcx N →
   Run (Zt Tryz.prog T) ⟨[.tmp 2],fun u E => Zf E u = some (sC (baL (Zcx N)))⟩ [.loop Zky,.blk 0,.code Zpz] e H := by
  intro k
  induction k with
  | zero =>
   intro i acc e H hi h3 h5 hacc hal hv
   have hc : ¬ ((i : Int) < 8) := by omega
   refine Zi ?_
   conv => enter [3,1]; unfold Zky
   simp only [go_sem,simprocAttr,h5,hc]
   unfold Zpz
   have hb := hacc.b2sL
   simp only [go_sem,simprocAttr,hb]
   have : acc = Zcx N := by simpa [lowB] using hv
   rw [this]
   simp [Zf,Ze,Zk,Zg,Zh,Zd,Zc,Zb]
  | succ k ih =>
   intro i acc e H hi h3 h5 hacc hal hv
   have hc : ((i : Int) < 8) := by omega
   have w1 : IntKind.wrap .i64 (8 * (i : Int)) = ((8 * i : Nat) : Int) := by rw [Zn (by omega)]; omega
   have w2 : IntKind.wrap .i64 (56 - ((8 * i : Nat) : Int)) = ((8 * k : Nat) : Int) := by rw [Zn (by omega)]; omega
   have w3 : IntKind.wrap .u64 ((8 * k : Nat) : Int) = ((8 * k : Nat) : Int) := Zum (by omega)
   have hsh : ∀ (H : Heap),vBin .shr (.c (.int .u64 N)) (.c (.int .u64 ((8 * k : Nat) : Int))) H = some (.c (.int .u64 (N.fdiv (2 ^ (8 * k)))),H) := fun H => by
    have := Zq8 (a := N) (b := ((8 * k : Nat) : Int)) (ik := .u64) (H := H) (by omega)
    have e1 : Nat.min (((8 * k : Nat) : Int)).toNat 64 = 8 * k := by rw [Int.toNat_natCast]; exact Nat.min_eq_left (by omega)
    rw [e1] at this
    exact this
   have hn : IntKind.wrap .i64 ((i : Int) + 1) = ((i + 1 : Nat) : Int) := by rw [Zn (by omega)]; omega
   refine Zi ?_
   conv => enter [3,1]; unfold Zky
   simp only [go_sem,simprocAttr,h3,h5,hc,w1,w2,w3,hsh,Zeg]
   refine Acc.app_step hacc (by simp; omega) fun v' H' ha' => ?_
   simp only [go_sem,simprocAttr,h5,hn]
   refine ih (i + 1) (acc ++ [b8 (N.fdiv (2 ^ (8 * k)))]) _ _ (by omega) ?_ ?_ ?_ (by simp; omega) (by rw [← hv,List.append_assoc]; rfl)
   ·simp only [go_sem,simprocAttr,h3]
   ·simp only [go_sem,simprocAttr,hn]
   ·simp only [go_sem,simprocAttr]; rw [List.map_append]; exact ha'
 simp only [go_sem,simprocAttr,hN]
 refine loop 8 0 [] _ _ rfl ?_ ?_ ?_ rfl rfl
 ·simp only [go_sem,simprocAttr]
 ·first | (simp only [go_sem,simprocAttr]; done) | (simp only [go_sem,simprocAttr]; rfl)
 ·simp only [go_sem,simprocAttr]; exact .nil
theorem Zue (key : ByteArray) (y : UInt8) (hk : key.size ≤ 64) : Pr 130 [sC key,yC y] (sC (Zcd key y)) := by
 refine Zl mixed Z49 rfl fun hl T => ?_
 unfold Zwg
 have hcp := Zbgp key hk
 have hlen : (key.data.toList ++ List.replicate (64 - key.size) (0 : UInt8)).length = 64 := by rw [List.length_append,List.length_replicate,Zew]; omega
 unfold Zcd Zy3
 generalize key.data.toList ++ List.replicate (64 - key.size) (0 : UInt8) = L at hcp hlen ⊢
 have hmk := mk64
 generalize List.replicate 64 (0 : UInt8) = Z at hcp hmk
 have loop : ∀ (rest pre : List UInt8) (e : Env),pre.length + rest.length = 64 → e 1 = yC y → e 5 = .c (.slc 0 0 64 1 false) → e 6 = iC pre.length → pre ++ rest.map (· ^^^ y) = L.map (· ^^^ y) →
   Run (Zt Tryz.prog T) ⟨[.tmp 4],fun u E => Zf E u = some (sC (baL (L.map (· ^^^ y))))⟩ [.loop Zj5,.blk 0,.code Znl] e [{ sz := 1,rows := (pre ++ rest).map Zs }] := by
  intro rest
  induction rest with
  | nil =>
   intro pre e hp h1 h5 h6 hv
   have hc : ¬ ((pre.length : Int) < 64) := by simp at hp; omega
   refine Zi ?_
   conv => enter [3,1]; unfold Zj5
   simp only [go_sem,simprocAttr,h6,hc]
   unfold Znl
   have hb := Zuo (H := [{ sz := 1,rows := pre.map Zs }]) (b := 0) (n := 64) (l := pre) rfl (by simpa using hp) (by omega)
   simp only [go_sem,simprocAttr,h5,hb]
   have : pre = L.map (· ^^^ y) := by simpa using hv
   rw [← this]
   simp [Zf,Ze,Zk,Zg,Zh,Zd,Zc,Zb]
  | cons x rest ih =>
   intro pre e hp h1 h5 h6 hv
   have hp8 : pre.length < 64 := by simp at hp; omega
   have hc : ((pre.length : Int) < 64) := by omega
   have hx : ∀ H : Heap,vIx 1 (.c (.slc 0 0 64 1 false)) (iC pre.length) H = some (.c (.ptr 0 pre.length 0),H) := fun H => Zek hp8
   have hk0 : ([{ sz := 1,rows := (pre ++ x :: rest).map Zs }] : Heap)[0]? = some { sz := 1,rows := (pre ++ x :: rest).map Zs,own := true,live := true } := rfl
   have hrow : Heap.row [{ sz := 1,rows := (pre ++ x :: rest).map Zs }] 0 pre.length = some [.int .u8 (x.toNat : Int)] := by rw [Zhv hk0 rfl]; exact Zbgo rfl x
   have hmine : Heap.mine [{ sz := 1,rows := (pre ++ x :: rest).map Zs }] 0 = true := Zb7 hk0 rfl rfl
   have hput : Heap.put [{ sz := 1,rows := (pre ++ x :: rest).map Zs }] 0 pre.length [.int .u8 ((x ^^^ y).toNat : Int)] = [{ sz := 1,rows := ((pre ++ [x ^^^ y]) ++ rest).map Zs }] := by
    rw [Zkd hk0]
    simp only [List.set_cons_zero,Zba1 rfl]
    simp
   have hn : IntKind.wrap .i64 ((pre.length : Int) + 1) = ((pre ++ [x ^^^ y]).length : Int) := by rw [Zn (by omega)]; simp
   refine Zi ?_
   conv => enter [3,1]; unfold Zj5
   simp only [go_sem,simprocAttr,h1,h5,h6,hc,hx,hrow,Zlm,hmine,hput,hn]
   refine ih (pre ++ [x ^^^ y]) _ (by simp at hp ⊢; omega) ?_ ?_ ?_ (by simpa using hv)
   ·simp only [go_sem,simprocAttr,h1]
   ·simp only [go_sem,simprocAttr,h5]
   ·simp only [go_sem,simprocAttr,hn]
 simp only [go_sem,simprocAttr,hmk,hcp]
 refine loop L [] _ (by simpa using hlen) ?_ ?_ ?_ (by simp)
 all_goals first | (simp only [go_sem,simprocAttr]; done) | (simp only [go_sem,simprocAttr]; rfl)
end Go.Proofs.YticmfblfghdkbaaGreatDoor.Eng
