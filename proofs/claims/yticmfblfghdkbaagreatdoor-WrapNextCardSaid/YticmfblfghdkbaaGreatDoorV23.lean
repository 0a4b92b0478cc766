/- Parts of this claim's proof, joined. No statement of the seat is proved here. -/
import Derived.Test.YticmfblfghdkbaaGreatDoorV22
import Derived.Shelf.Strings.BuilderF
set_option linter.unusedVariables false
set_option linter.unusedSimpArgs false
namespace Go.Proofs.YticmfblfghdkbaaGreatDoor.Eng
open Go
theorem Zbgk {sz n : Nat} {rows : List (List Cell)} (h : n ≤ rows.length) (t : Nat) (e : Env) (H : Heap) (ht : e t = iC n) : vSl sz (.c (.lst sz rows)) e none (some (.t t)) none H = some (.c (.lst sz (rows.take n)),H) := by
 simp [vSl,Zbh,evSl,Zby,Zi6,Opd.ev,ht,Zca,h]
set_option maxHeartbeats 4000000 in
theorem Zs7 (log : List Rec) : Pr 20 [.c (Z2 log)] (bC (Zdj log)) := by
 refine Zl mixed Z3w (by simp [Zq,Zp,Zc,Z2,Zb5]) fun hl T => ?_
 have hlen : log.length ≤ maxLen := by simp [Zgh,lenA,lenC,Z2] at hl; exact hl
 unfold Zws
 obtain ⟨v,hv⟩ : ∃ v,v = Zdj log := ⟨_,rfl⟩
 rw [← hv]
 unfold Zdj at hv
 have hml : (log.map Rec.cells).length = log.length := by simp
 by_cases h40 : log.length ≤ 40
 ·have h40' : ¬ ((40 : Int) < (log.length : Int)) := by omega
  rw [decide_eq_true h40,Bool.true_and] at hv
  have hrc : closedR (log.map Rec.cells) = true := Zb5 log
  have loop : ∀ (rest done : List Rec) (e : Env) (H : Heap),log = done ++ rest → e 0 = .c (.lst 6 (log.map Rec.cells)) → e 3 = sC (Zbe done) → e 4 = iC done.length → v = chk done rest →
    Run (Zt Tryz.prog T) ⟨[.tmp 2],fun u E => Zf E u = some (bC v)⟩ [.loop Zhh,.blk 0,.code Zjw] e H := by
   intro rest
   induction rest with
   | nil =>
    intro done e H hp h0 h3 h4 hvv
    have hc := Zdm (f := Rec.cells) hp
    refine Zi ?_
    conv => enter [3,1]; unfold Zhh
    simp only [go_sem,simprocAttr,h0,h4,hc]
    unfold Zjw
    simp only [go_sem,simprocAttr]
    simp only [chk] at hvv
    simp [Zf,Ze,Zk,Zg,Zh,Zd,Zc,Zb,hvv]
   | cons r rest ih =>
    intro done e H hp h0 h3 h4 hvv
    have hc := Zh0 (f := Rec.cells) hp
    have hr := Zeh (f := Rec.cells) hp
    have hdl : done.length ≤ 40 := by rw [hp] at h40; simp at h40; omega
    have hn : IntKind.wrap .i64 ((done.length : Int) + 1) = (done.length : Int) + 1 := Zn (by omega)
    have hnn : (done.length : Int) + 1 = ((done.length + 1 : Nat) : Int) := by omega
    have hmay := Zgm r
    have hhash := Zva r
    have hin := Zhf done done.length r.dev
    have htk : (log.map Rec.cells).take done.length = done.map Rec.cells := by rw [hp,List.map_append,List.take_append_of_le_length (by simp),List.take_of_length_le (by simp)]
    have hsl := Zbgk (sz := 6) (n := done.length) (rows := log.map Rec.cells) (by rw [hp]; simp) 51
    rw [htk] at hsl
    have hpn : Zbe (done ++ [r]) = Zjv r := by unfold Zbe; simp
    have chk1 : chk done (r :: rest) = (Zed done r && chk (done ++ [r]) rest) := rfl
    rw [chk1] at hvv
    have go : ∀ (e' : Env) (H' : Heap),Zed done r = true → e' 0 = .c (.lst 6 (log.map Rec.cells)) → e' 3 = sC (Zjv r) → e' 4 = iC ((done.length : Int) + 1) → Run (Zt Tryz.prog T) ⟨[.tmp 2],fun u E => Zf E u = some (bC v)⟩ [.loop Zhh,.blk 0,.code Zjw] e' H' := fun e' H' hs g0 g3 g4 => by
     rw [hs,Bool.true_and] at hvv
     exact ih (done ++ [r]) e' H' (by rw [hp]; simp) g0 (by rw [hpn]; exact g3) (by rw [g4]; simp) hvv
    have hno : Zed done r = false → v = false := fun h => by rw [hvv,h]; rfl
    clear hvv chk1 ih
    have hmd := Zqr (r := r)
    have hst : Zed done r = (Z5 r && decide (r.seq = (done.length : Int) + 1) && decide (r.prev = Zbe done) && !(decide ((done.length : Int) = 0) && (decide (r.kind ≠ 1) || decide (r.dev ≠ 0))) &&
  !(decide (r.kind = 1) && memL done done.length r.dev || decide (r.kind = 2) && (!memL done done.length r.dev || decide (r.dev = 0)))) := by
     unfold Zed
     simp only [Int.natCast_eq_zero]
    rw [hst] at go hno
    clear hst
    generalize Zbe done = pv at h3 go hno
    generalize Zjv r = hh at hhash go
    generalize Z5 r = mb at hmay hmd go hno
    obtain ⟨seq,prev,kind,dv,wraps,tag⟩ := r
    simp only at hin hmd go hno
    generalize memL done done.length dv = ib at hin go hno
    simp only [Rec.cells] at hr hmay hhash
    generalize Zv wraps = W at hr hmay hhash
    simp only [Z2] at hin
    obtain ⟨G,hG⟩ : ∃ G : Heap,G = H ++ [{ sz := 6,rows := [[.int .i64 seq,.str prev,.int .i64 kind,.int .i64 dv,W,.str tag]],own := true,live := true }] := ⟨_,rfl⟩
    have gl : G[H.length]? = some { sz := 6,rows := [[.int .i64 seq,.str prev,.int .i64 kind,.int .i64 dv,W,.str tag]],own := true,live := true } := by rw [hG]; exact Zkl
    have hrow := Zu gl
    have q21 : ¬ ((2 : Int) = 1) := by omega
    have q12 : ¬ ((1 : Int) = 2) := by omega
    refine Zi ?_
    conv => enter [3,1]; unfold Zhh
    simp only [go_sem,simprocAttr,h0,h4,hc,hr]
    rw [← hG]
    refine Za hmay ?_
    cases mb with
    | false =>
     simp only [go_sem,simprocAttr]
     simp [Zf,Ze,Zk,Zg,Zh,Zd,Zc,Zb,hno]
    | true =>
     obtain ⟨hkind,hdv0,hdv8⟩ := hmd rfl
     by_cases s1 : seq = (done.length : Int) + 1
     ·by_cases s2 : prev = pv
      ·by_cases i0 : (done.length : Int) = 0
       ·have i1 := eq_true i0
        have i2 : (done = []) = True := eq_true (List.eq_nil_of_length_eq_zero (by omega))
        rcases hkind with k1 | k1
        ·by_cases d0 : dv = 0
         ·simp only [go_sem,simprocAttr,h0,h3,h4,hrow,hn,s1,s2,i1,k1,d0,q21,q12,hsl]
          refine Za (by first | exact hin | (rw [d0] at hin; exact hin)) ?_
          cases ib with
          | false =>
           simp only [go_sem,simprocAttr,h0,h3,h4,hrow,hn,s1,s2,i1,k1,d0,q21,q12]
           refine Za (by first | exact hhash | (simpa [s1,s2,k1,d0] using hhash)) ?_
           simp only [go_sem,simprocAttr,h0,h3,h4,hrow,hn,s1,s2,i1,k1,d0,q21,q12]
           refine go _ _ (by simp [s1,s2,i1,i2,k1,d0]) ?_ ?_ ?_ <;> simp only [go_sem,simprocAttr,h0,hn]
          | true =>
           simp only [go_sem,simprocAttr,h0,h3,h4,hrow,hn,s1,s2,i1,k1,d0,q21,q12]
           simp [Zf,Ze,Zk,Zg,Zh,Zd,Zc,Zb,hno,s1,s2,i1,i2,k1,d0]
         ·simp only [go_sem,simprocAttr,h0,h3,h4,hrow,hn,s1,s2,i1,k1,d0,q21,q12]
          simp [Zf,Ze,Zk,Zg,Zh,Zd,Zc,Zb,hno,s1,s2,i1,i2,k1,d0]
        ·by_cases d0 : dv = 0
         ·simp only [go_sem,simprocAttr,h0,h3,h4,hrow,hn,s1,s2,i1,k1,d0,q21,q12]
          simp [Zf,Ze,Zk,Zg,Zh,Zd,Zc,Zb,hno,s1,s2,i1,i2,k1,d0]
         ·simp only [go_sem,simprocAttr,h0,h3,h4,hrow,hn,s1,s2,i1,k1,d0,q21,q12]
          simp [Zf,Ze,Zk,Zg,Zh,Zd,Zc,Zb,hno,s1,s2,i1,i2,k1,d0]
       ·have i1 := eq_false i0
        have i2 : (done = []) = False := eq_false (fun h => i0 (by rw [h]; rfl))
        rcases hkind with k1 | k1
        ·by_cases d0 : dv = 0
         ·simp only [go_sem,simprocAttr,h0,h3,h4,hrow,hn,s1,s2,i1,k1,d0,q21,q12,hsl]
          refine Za (by first | exact hin | (rw [d0] at hin; exact hin)) ?_
          cases ib with
          | false =>
           simp only [go_sem,simprocAttr,h0,h3,h4,hrow,hn,s1,s2,i1,k1,d0,q21,q12]
           refine Za (by first | exact hhash | (simpa [s1,s2,k1,d0] using hhash)) ?_
           simp only [go_sem,simprocAttr,h0,h3,h4,hrow,hn,s1,s2,i1,k1,d0,q21,q12]
           refine go _ _ (by simp [s1,s2,i1,i2,k1,d0]) ?_ ?_ ?_ <;> simp only [go_sem,simprocAttr,h0,hn]
          | true =>
           simp only [go_sem,simprocAttr,h0,h3,h4,hrow,hn,s1,s2,i1,k1,d0,q21,q12]
           simp [Zf,Ze,Zk,Zg,Zh,Zd,Zc,Zb,hno,s1,s2,i1,i2,k1,d0]
         ·simp only [go_sem,simprocAttr,h0,h3,h4,hrow,hn,s1,s2,i1,k1,d0,q21,q12,hsl]
          refine Za (by first | exact hin | (rw [d0] at hin; exact hin)) ?_
          cases ib with
          | false =>
           simp only [go_sem,simprocAttr,h0,h3,h4,hrow,hn,s1,s2,i1,k1,d0,q21,q12]
           refine Za (by first | exact hhash | (simpa [s1,s2,k1,d0] using hhash)) ?_
           simp only [go_sem,simprocAttr,h0,h3,h4,hrow,hn,s1,s2,i1,k1,d0,q21,q12]
           refine go _ _ (by simp [s1,s2,i1,i2,k1,d0]) ?_ ?_ ?_ <;> simp only [go_sem,simprocAttr,h0,hn]
          | true =>
           simp only [go_sem,simprocAttr,h0,h3,h4,hrow,hn,s1,s2,i1,k1,d0,q21,q12]
           simp [Zf,Ze,Zk,Zg,Zh,Zd,Zc,Zb,hno,s1,s2,i1,i2,k1,d0]
        ·by_cases d0 : dv = 0
         ·simp only [go_sem,simprocAttr,h0,h3,h4,hrow,hn,s1,s2,i1,k1,d0,q21,q12,hsl]
          refine Za (by first | exact hin | (rw [d0] at hin; exact hin)) ?_
          cases ib with
          | false =>
           simp only [go_sem,simprocAttr,h0,h3,h4,hrow,hn,s1,s2,i1,k1,d0,q21,q12]
           simp [Zf,Ze,Zk,Zg,Zh,Zd,Zc,Zb,hno,s1,s2,i1,i2,k1,d0]
          | true =>
           simp only [go_sem,simprocAttr,h0,h3,h4,hrow,hn,s1,s2,i1,k1,d0,q21,q12]
           simp [Zf,Ze,Zk,Zg,Zh,Zd,Zc,Zb,hno,s1,s2,i1,i2,k1,d0]
         ·simp only [go_sem,simprocAttr,h0,h3,h4,hrow,hn,s1,s2,i1,k1,d0,q21,q12,hsl]
          refine Za (by first | exact hin | (rw [d0] at hin; exact hin)) ?_
          cases ib with
          | false =>
           simp only [go_sem,simprocAttr,h0,h3,h4,hrow,hn,s1,s2,i1,k1,d0,q21,q12]
           simp [Zf,Ze,Zk,Zg,Zh,Zd,Zc,Zb,hno,s1,s2,i1,i2,k1,d0]
          | true =>
           simp only [go_sem,simprocAttr,h0,h3,h4,hrow,hn,s1,s2,i1,k1,d0,q21,q12]
           refine Za (by first | exact hhash | (simpa [s1,s2,k1,d0] using hhash)) ?_
           simp only [go_sem,simprocAttr,h0,h3,h4,hrow,hn,s1,s2,i1,k1,d0,q21,q12]
           refine go _ _ (by simp [s1,s2,i1,i2,k1,d0]) ?_ ?_ ?_ <;> simp only [go_sem,simprocAttr,h0,hn]
      ·simp only [go_sem,simprocAttr,h0,h3,h4,hrow,hn,s1,s2]
       simp [Zf,Ze,Zk,Zg,Zh,Zd,Zc,Zb,hno,s1,s2]
     ·simp only [go_sem,simprocAttr,h0,h3,h4,hrow,hn,s1]
      simp [Zf,Ze,Zk,Zg,Zh,Zd,Zc,Zb,hno,s1]
  simp only [go_sem,simprocAttr,Z2,hml,h40']
  refine loop log [] _ _ rfl ?_ ?_ ?_ hv
  ·simp only [go_sem,simprocAttr]
  ·simp only [go_sem,simprocAttr] <;> rfl
  ·simp only [go_sem,simprocAttr,List.length_nil,Int.natCast_zero]
 ·have h40' : (40 : Int) < (log.length : Int) := by omega
  rw [decide_eq_false h40,Bool.false_and] at hv
  simp only [go_sem,simprocAttr,Z2,hml,h40']
  simp [Zf,Ze,Zk,Zg,Zh,Zd,Zc,Zb,hv]
theorem map_some {α : Type} {f : α → List Cell} {l : List α} {i : Nat} {a : α} (h : l[i]? = some a) : (l.map f)[i]? = some (f a) := by rw [List.getElem?_map,h]; rfl
end Go.Proofs.YticmfblfghdkbaaGreatDoor.Eng
namespace Go.Proofs.YticmfblfghdkbaaGreatDoor.Eng
open Go Go.RowKit Go.Extern.Stop Go.Stop Go.Extern
theorem Zsr (v : Value) (w : World) : (Extern.ReflectliteType.typeOf #[.iface 148 v]).run Tryz.prog w = .ok (.iface 235 (.agg #[.pointer (some ⟨7,148,none⟩)])) w := by kernel_rfl
theorem Znq (w : World) : (Extern.ReflectliteType.method cmpM #[.agg #[.pointer (some ⟨7,148,none⟩)]]).run Tryz.prog w = .ok (.bool true) w := by kernel_rfl
theorem Zbh0 (a : ByteArray) (w : World) : (binOp .eql 98 (.iface 148 (.string a)) (.iface 148 (.string a))).run Tryz.prog w = .ok (.bool true) w := by
 rw [Zir w a a Tryz.underlying98 (by kernel_rfl) Tryz.underlying148,Zxe,decide_eq_true rfl]
theorem Zbhs {a b : ByteArray} (h : a ≠ b) (w : World) : (binOp .eql 98 (.iface 148 (.string a)) (.iface 148 (.string b))).run Tryz.prog w = .ok (.bool false) w := by
 rw [Zir w a b Tryz.underlying98 (by kernel_rfl) Tryz.underlying148,Zxe,decide_eq_false h]
theorem Z1e (v : Value) (xT : TypeId) (w : World) : (Instr.typeAssert (.iface 206 v) xT 237 true).run Tryz.prog w = .ok (.tuple #[.nilIface,.bool false]) w := run_typeAssert_lacksB Tryz.underlying237 (by kernel_rfl) (by kernel_rfl) v xT w
theorem Zbb5 (v : Value) (xT : TypeId) (w : World) : (Instr.typeAssert (.iface 148 v) xT 237 true).run Tryz.prog w = .ok (.tuple #[.nilIface,.bool false]) w := run_typeAssert_lacksB Tryz.underlying237 (by kernel_rfl) (by kernel_rfl) v xT w
theorem Zbao (v : Value) (xT : TypeId) (w : World) : (Instr.typeAssert (.iface 148 v) xT 240 true).run Tryz.prog w = .ok (.tuple #[.nilIface,.bool false]) w := run_typeAssert_lacksB Tryz.underlying240 (by kernel_rfl) (by kernel_rfl) v xT w
theorem Z95 (v : Value) (xT : TypeId) (w : World) : (Instr.typeAssert (.iface 148 v) xT 242 true).run Tryz.prog w = .ok (.tuple #[.nilIface,.bool false]) w := run_typeAssert_lacksB Tryz.underlying242 (by kernel_rfl) (by kernel_rfl) v xT w
theorem Z1b (v : Value) (xT : TypeId) (w : World) : (Instr.typeAssert (.iface 206 v) xT 240 true).run Tryz.prog w = .ok (.tuple #[.iface 206 v,.bool true]) w := run_typeAssert_hasB Tryz.underlying240 (by kernel_rfl) v xT w
theorem Zt5 (v : Value) (w : World) : (Go.method 437 206 v "Unwrap").run Tryz.prog w = .ok (268,v) w := by kernel_rfl
theorem Z8z (v : Value) (w : World) :
  Calls Tryz.prog 94 #[.nilIface,.iface 148 v] w fun e w' => e = .returned (.bool false) ∧ w' = w := by
 have hn := run_eql_iface_nil_left (P := Tryz.prog) w 148 v Tryz.underlying98
 go_enter Tryz.func94,Tryz.ntmps94
 go_wp2
 go_ret
 exact ⟨rfl,rfl⟩
theorem Z81 (x0 : ByteArray) (a : ByteArray) (w : World) :
  Calls Tryz.prog 94 #[.iface 206 (.agg #[.string x0,.iface 148 (.string a)]),.iface 148 (.string a)] w fun e w' => e = .returned (.bool true) ∧ Below w.heap.size w w' ∧ w.drawn ≤ w'.drawn := by
 have h8 := @run_callFunc_extern Tryz.prog 139 _ Extern.ReflectliteType.typeOf Tryz.func139 (by kernel_rfl) (by kernel_rfl) (by kernel_rfl) (by kernel_rfl)
 have h32 := @run_callFunc_extern Tryz.prog 274 _ (Extern.ReflectliteType.method cmpM) Tryz.func274 (by kernel_rfl) (by kernel_rfl) (by kernel_rfl) (by kernel_rfl)
 have tT := Zsr
 have cT := Znq
 have mR := Zfq
 have nE := Z1e
 have uW := Z1b
 have mU := Zt5
 have heq := Zbh0 a
 have hty := run_eql_iface_types (P := Tryz.prog) 206 148 (.agg #[.string x0,.iface 148 (.string a)]) (.string a) Tryz.underlying98 (by decide)
 go_enter Tryz.func94,Tryz.ntmps94
 go_wp2
 refine wp_loop_rounds 2 ?_
 rw [rounds_succ]
 go_wp2
 rw [rounds_succ]
 go_wp2
 go_ret
 exact ⟨rfl,(Below.refl _ w).alloc (Nat.le_refl _) _,Nat.le_refl _⟩
theorem Z6x (x0 : ByteArray) {a b : ByteArray} (hab : a ≠ b) (w : World) :
  Calls Tryz.prog 94 #[.iface 206 (.agg #[.string x0,.iface 148 (.string a)]),.iface 148 (.string b)] w fun e w' => e = .returned (.bool false) ∧ Below w.heap.size w w' ∧ w.drawn ≤ w'.drawn := by
 have h8 := @run_callFunc_extern Tryz.prog 139 _ Extern.ReflectliteType.typeOf Tryz.func139 (by kernel_rfl) (by kernel_rfl) (by kernel_rfl) (by kernel_rfl)
 have h32 := @run_callFunc_extern Tryz.prog 274 _ (Extern.ReflectliteType.method cmpM) Tryz.func274 (by kernel_rfl) (by kernel_rfl) (by kernel_rfl) (by kernel_rfl)
 have tT := Zsr
 have cT := Znq
 have mR := Zfq
 have nE := Z1e
 have nR := Zbb5
 have uW := Z1b
 have uR := Zbao
 have uS := Z95
 have mU := Zt5
 have heq := Zbhs hab
 have hty := run_eql_iface_types (P := Tryz.prog) 206 148 (.agg #[.string x0,.iface 148 (.string a)]) (.string b) Tryz.underlying98 (by decide)
 go_enter Tryz.func94,Tryz.ntmps94
 go_wp2
 refine wp_loop_rounds 2 ?_
 rw [rounds_succ]
 go_wp2
 rw [rounds_succ]
 go_wp2
 go_ret
 exact ⟨rfl,(Below.refl _ w).alloc (Nat.le_refl _) _,Nat.le_refl _⟩
abbrev Z2z (a : ByteArray) : Cell := .iface 148 false [.str a]
abbrev Zmt (x0 : ByteArray) (a : ByteArray) : Cell := .iface 206 true [.str x0,Z2z a]
theorem Zwu {m : LMap} {σ : Mem} {a : ByteArray} {v : Value} (h : VR m σ (Z2z a) v) : v = .iface 148 (.string a) := by
 cases h with
 | ifaceC h => cases h; rfl
theorem Zbee {m : LMap} {σ : Mem} {x0 : ByteArray} {a : ByteArray} {v : Value} (h : VR m σ (Zmt x0 a) v) : v = .iface 206 (.agg #[.string x0,.iface 148 (.string a)]) := by
 cases h with
 | ifaceA hl ha =>
  rename_i vs
  obtain ⟨vs⟩ := vs
  match vs,hl,ha with
  | [y0,y1],_,ha =>
   have h0 := ha 0 _ y0 rfl rfl
   have h1 := Zwu (ha 1 _ y1 rfl rfl)
   cases h0
   subst h1
   rfl
theorem Zrg (a : ByteArray) : Pr 94 [.c .nilI,.c (Z2z a)] (bC false) := by
 intro H
 refine ⟨⟨_,Tryz.func94,rfl,rfl⟩,fun B m w vs r ha => ?_⟩
 obtain ⟨vs⟩ := vs
 cases ha with
 | cons a1 a2 =>
  cases a2 with
  | cons a2 a3 =>
   cases a3
   cases a1 with
   | c a1 =>
    cases a1
    cases a2 with
    | c a2 =>
     obtain rfl := Zwu a2
     refine (Z8z _ w).mono ?_
     rintro e w' ⟨rfl,rfl⟩
     exact ⟨_,m,rfl,St.refl r,.c (.bool _)⟩
theorem Zx9 (x0 : ByteArray) (a b : ByteArray) : Pr 94 [.c (Zmt x0 a),.c (Z2z b)] (bC (decide (a = b))) := by
 intro H
 refine ⟨⟨_,Tryz.func94,rfl,rfl⟩,fun B m w vs r ha => ?_⟩
 obtain ⟨vs⟩ := vs
 cases ha with
 | cons a1 a2 =>
  cases a2 with
  | cons a2 a3 =>
   cases a3
   cases a1 with
   | c a1 =>
    obtain rfl := Zbee a1
    cases a2 with
    | c a2 =>
     obtain rfl := Zwu a2
     by_cases hab : a = b
     ·subst hab
      rw [decide_eq_true rfl]
      refine (Z81 x0 a w).mono ?_
      rintro e w' ⟨rfl,hb,hd⟩
      exact ⟨_,⟨m.f,m.z⟩,rfl,St.ofBelow r hb (Or.inr hd) (fun _ h => h) (fun _ h => .inl h),.c (.bool _)⟩
     ·rw [decide_eq_false hab]
      refine (Z6x x0 hab w).mono ?_
      rintro e w' ⟨rfl,hb,hd⟩
      exact ⟨_,⟨m.f,m.z⟩,rfl,St.ofBelow r hb (Or.inr hd) (fun _ h => h) (fun _ h => .inl h),.c (.bool _)⟩
def Zhw : AFun := ⟨[.tmp 6],.seq (.region [ii 6 (.mv (.k (.c (.str ⟨#[]⟩))))] false) (.seq (.region [iz 9 (.lit 1 [.str ⟨#[]⟩] 4 [(0,.k (.c (.str ⟨#[111,119,110]⟩))),(1,.k (.c (.str ⟨#[101,112,111,99,104]⟩))),(2,.k (.c (.str ⟨#[115,101,110,100]⟩))),(3,.k (.c (.str ⟨#[119,114,97,112]⟩)))]),im 10 1,ixx 11 1 9 10,il 12 11,im 7 12] false) (.seq (.region [ii 8 (.mv (ki 32))] false) (.seq (.seq (.region [im 13 1] false) (.block 0 (.seq (.block 3 (.seq (.block 2 (.seq (.block 1 (.seq (.seq (.seq (.region [ii 15 (.bin .eql (.t 13) (ki 2)),im 14 15] false) (.cond (.t 14) (.exit 1) .skip)) (.seq (.seq (.seq (.region [ii 17 (.bin .eql (.t 13) (ki 0)),im 16 17] false) (.cond (.t 16) .skip (.region [ii 18 (.bin .eql (.t 13) (ki 1)),im 16 18] false))) (.cond (.t 16) (.exit 2) .skip)) (.seq (.region [ii 20 (.bin .eql (.t 13) (ki 3)),im 19 20] false) (.cond (.t 19) (.exit 3) .skip)))) (.exit 0))) (.region [ii 8 (.mv (ki 64))] false))) (.seq (.region [im 21 7,im 22 2,icl 23 151 [.t 22],ii 24 (.bin .add (.k (.c (.str ⟨#[32]⟩))) (.t 23)),ibt 25 .add 21 24,im 7 25] false) (.exit 0)))) (.seq (.region [ii 8 (.mv (ki 64))] false) (.exit 0))))) (.seq (.region [im 26 0,im 27 7,im 28 8,icl 29 152 [.k (.c (.str ⟨#[100,101,97,100,100,114,111,112]⟩)),.t 26,.t 27,.t 28],im 6 29] false) .ret))))⟩
theorem Zj6 : Zm Tryz.prog 103 = some Zhw.erase := by kernel_rfl
def Zyd : AFun := ⟨[.tmp 4],.seq (.region [ii 4 (.mv (.k (.c (.str ⟨#[]⟩))))] false) (.seq (.region [im 5 0,im 6 1,icl 7 103 [.t 5,.k (.c (.int .i64 0)),.t 6],im 4 7] false) .ret)⟩
theorem Z6s : Zm Tryz.prog 57 = some Zyd.erase := by kernel_rfl
def Zt8 : AFun := ⟨[.tmp 4],.seq (.region [ii 4 (.mv (.k (.c (.str ⟨#[]⟩))))] false) (.seq (.region [im 5 0,im 6 1,icl 7 103 [.t 5,.k (.c (.int .i64 1)),.t 6],im 4 7] false) .ret)⟩
theorem Z1v : Zm Tryz.prog 60 = some Zt8.erase := by kernel_rfl
def Zwm : AFun := ⟨[.tmp 2],.seq (.region [ii 2 (.mv (.k (.c (.str ⟨#[]⟩))))] false) (.seq (.region [im 3 0,icl 4 103 [.t 3,.k (.c (.int .i64 3)),.k (.c (.int .i64 0))],im 2 4] false) .ret)⟩
theorem Z28 : Zm Tryz.prog 56 = some Zwm.erase := by kernel_rfl
def Zi7 : ACode := .seq (.region [ii 7 (.bin .lss (.t 6) (ki 8))] false) (.seq (.cond (.t 7) .skip (.exit 0)) (.seq (.block 1 (.seq (.region [im 8 6,im 4 8] false) (.region [im 9 3,im 10 4,ii 11 (.bin .sub (ki 11) (.t 10)),im 12 0,im 13 4,ii 14 (.bin .mul (ki 8) (.t 13)),ibt 15 .shr 12 14,ii 16 (.conv .u8 (.t 15)),ixx 17 1 9 11,ie (.store 1 (.t 17) (.t 16))] false))) (.region [ii 18 (.bin .add (.t 6) (ki 1)),im 6 18] false)))
def Zlw : ACode := .seq (.region [im 19 3,ii 20 (.b2s (.t 19)),im 2 20] false) .ret
def Ztv : AFun := ⟨[.tmp 2],.seq (.region [ii 2 (.mv (.k (.c (.str ⟨#[]⟩))))] false) (.seq (.region [ii 5 (.make 1 1 [.int .u8 0] (ki 12) (ki 12)),im 3 5] false) (.seq (.seq (.region [ii 6 (.mv (ki 0))] false) (.block 0 (.loop Zi7))) Zlw))⟩
theorem Z1r : Zm Tryz.prog 59 = some Ztv.erase := by kernel_rfl
def Zk8 : ACode := .seq (.seq (.region [im 5 4,ii 6 (.bin .geq (.t 5) (ki 0))] false) (.cond (.t 6) .skip (.exit 0))) (.seq (.block 1 (.region [im 9 3,im 10 0,im 11 4,ii 12 (.bin .mul (ki 8) (.t 11)),ibt 13 .shr 10 12,ii 14 (.conv .u8 (.t 13)),iz 15 (.lit 1 [.int .u8 0] 1 [(0,.t 14)]),ii 16 (.app 1 1 (.t 9) (.t 15)),im 3 16] false)) (.region [im 7 4,ii 8 (.bin .sub (.t 7) (ki 1)),im 4 8] false))
def Zpu : ACode := .seq (.region [im 17 3,ii 18 (.b2s (.t 17)),im 2 18] false) .ret
def Zy4 : AFun := ⟨[.tmp 2],.seq (.region [ii 2 (.mv (.k (.c (.str ⟨#[]⟩))))] false) (.seq (.region [ii 3 (.mv (.k (.c .nilS)))] false) (.seq (.seq (.region [ii 4 (.mv (ki 7))] false) (.block 0 (.loop Zk8))) Zpu))⟩
theorem Z5u : Zm Tryz.prog 154 = some Zy4.erase := by kernel_rfl
def Zpe : AFun := ⟨[.tmp 6],.seq (.region [ii 6 (.mv (.k (.c .nilI)))] false) (.seq (.seq (.region [im 7 0,ii 8 (.lenS (.t 7)),ii 9 (.bin .neq (.t 8) (ki 64)),im 10 9,ig 11 (.mv (.t 1)) 10 false,ig 12 (.lenS (.t 11)) 10 false,ig 13 (.bin .neq (.t 12) (ki 12)) 10 false,ii 14 (.pick (.t 10) (.k (.c (.bool true))) (.t 13)),im 15 14,ig 16 (.mv (.t 2)) 15 false,ig 17 (.bin .gtr (.t 16) (ki 1048576)) 15 false,ii 18 (.pick (.t 15) (.k (.c (.bool true))) (.t 17))] false) (.cond (.t 18) (.seq (.region [ii 19 (.mkI 148 (.k (.c (.str ⟨#[115,105,122,101]⟩)))),ii 20 (.build [.str ⟨#[]⟩,.nilI] [(0,1,.k (.c (.str ⟨#[115,105,122,101,115]⟩))),(1,1,.t 19)]),ii 21 (.mkI 206 (.t 20)),im 6 21] false) .ret) .skip)) (.seq (.region [ii 6 (.mv (.k (.c .nilI)))] false) .ret))⟩
theorem Zth : Zm Tryz.prog 104 = some Zpe.erase := by kernel_rfl
def Z0g : AFun := ⟨[.tmp 8],.seq (.region [ii 8 (.mv (.k (.c (.str ⟨#[]⟩))))] false) (.seq (.region [im 9 0,ii 10 (.slS (.t 9) (some (ki 32)) none),im 11 2,ii 12 (.lenS (.t 11)),icl 13 154 [.t 12],im 14 2,im 15 1,im 16 3,iz 17 (.lit 1 [.str ⟨#[]⟩] 4 [(0,.t 13),(1,.t 14),(2,.t 15),(3,.t 16)]),icl 18 68 [.t 10,.t 17],ii 19 (.slS (.t 18) none (some (ki 16))),im 8 19] true) .ret)⟩
theorem Z8m : Zm Tryz.prog 106 = some Z0g.erase := by kernel_rfl
def Zyj : AFun := ⟨[.tmp 6],.seq (.region [ii 6 (.mv (.k (.c (.str ⟨#[]⟩))))] false) (.seq (.region [im 7 0,ii 8 (.slS (.t 7) none (some (ki 32))),im 9 1,im 10 2,iz 11 (.s2b (.t 10)),icl 12 153 [.t 8,.t 9,.k (.c (.int .i64 1)),.t 11],ii 13 (.b2s (.t 12)),im 6 13] false) .ret)⟩
theorem Z68 : Zm Tryz.prog 105 = some Zyj.erase := by kernel_rfl
def Zx5 : AFun := ⟨[.tmp 8],.seq (.region [ii 8 (.mv (.k (.c (.str ⟨#[]⟩))))] false) (.seq (.seq (.region [im 11 0,im 12 1,im 13 3,ii 14 (.lenS (.t 13)),icl 15 104 [.t 11,.t 12,.t 14],im 9 15] false) (.seq (.region [im 16 9,ii 17 (.mkI 148 (.k (.c (.str ⟨#[115,105,122,101]⟩)))),icl 18 94 [.t 16,.t 17]] false) (.cond (.t 18) (.seq (.region [ii 8 (.mv (.k (.c (.str ⟨#[]⟩))))] false) .ret) .skip))) (.seq (.region [im 19 0,im 20 1,im 21 3,icl 22 105 [.t 19,.t 20,.t 21],im 10 22] false) (.seq (.region [im 23 10,im 24 0,im 25 1,im 26 2,im 27 10,icl 28 106 [.t 24,.t 25,.t 26,.t 27],ibt 29 .add 23 28,im 8 29] false) .ret)))⟩
theorem Z63 : Zm Tryz.prog 58 = some Zx5.erase := by kernel_rfl
def Zmm : AFun := ⟨[.tmp 8,.tmp 9],.seq (.region [ii 8 (.mv (.k (.c (.str ⟨#[]⟩)))),ii 9 (.mv (.k (.c .nilI)))] false) (.seq (.region [im 13 3,ii 14 (.lenS (.t 13)),ii 15 (.bin .sub (.t 14) (ki 16)),im 10 15] false) (.seq (.seq (.region [im 16 0,im 17 1,im 18 10,icl 19 104 [.t 16,.t 17,.t 18],im 11 19] false) (.seq (.region [im 20 11,ii 21 (.eqNil false true (.t 20) (.k (.c .nilI))),im 22 21,ig 23 (.mv (.t 10)) 22 false,ig 24 (.bin .lss (.t 23) (ki 0)) 22 false,ii 25 (.pick (.t 22) (.k (.c (.bool true))) (.t 24))] false) (.cond (.t 25) (.seq (.region [ii 26 (.mkI 148 (.k (.c (.str ⟨#[115,105,122,101]⟩)))),ii 27 (.build [.str ⟨#[]⟩,.nilI] [(0,1,.k (.c (.str ⟨#[111,112,101,110]⟩))),(1,1,.t 26)]),ii 28 (.mkI 206 (.t 27)),ii 8 (.mv (.k (.c (.str ⟨#[]⟩)))),im 9 28] false) .ret) .skip))) (.seq (.region [im 29 3,im 30 10,ii 31 (.slS (.t 29) none (some (.t 30))),im 12 31] false) (.seq (.seq (.region [im 32 3,im 33 10,ii 34 (.slS (.t 32) (some (.t 33)) none),im 35 0,im 36 1,im 37 2,im 38 12,icl 39 106 [.t 35,.t 36,.t 37,.t 38],icl 40 128 [.t 34,.t 39],ii 41 (.un .not (.t 40))] true) (.cond (.t 41) (.seq (.region [ii 42 (.mkI 148 (.k (.c (.str ⟨#[116,97,103]⟩)))),ii 43 (.build [.str ⟨#[]⟩,.nilI] [(0,1,.k (.c (.str ⟨#[111,112,101,110]⟩))),(1,1,.t 42)]),ii 44 (.mkI 206 (.t 43)),ii 8 (.mv (.k (.c (.str ⟨#[]⟩)))),im 9 44] false) .ret) .skip)) (.seq (.region [im 45 0,im 46 1,im 47 12,icl 48 105 [.t 45,.t 46,.t 47],im 8 48,ii 9 (.mv (.k (.c .nilI)))] false) .ret)))))⟩
theorem Zpv : Zm Tryz.prog 107 = some Zmm.erase := by kernel_rfl
def Zmk : AFun := ⟨[.tmp 8,.tmp 9],.seq (.region [ii 8 (.mv (.k (.c (.str ⟨#[]⟩)))),ii 9 (.mv (.k (.c (.bool false))))] false) (.seq (.region [im 13 0,im 14 1,im 15 2,im 16 3,icl 17 107 [.t 13,.t 14,.t 15,.t 16],im 12 17,ii 18 (.ext (.t 12) 0),ii 19 (.ext (.t 12) 1),im 10 18,im 11 19] false) (.seq (.region [im 20 10,im 21 11,ii 22 (.mkI 148 (.k (.c (.str ⟨#[115,105,122,101]⟩)))),icl 23 94 [.t 21,.t 22],ii 24 (.un .not (.t 23)),im 25 24,ig 26 (.mv (.t 11)) 25 true,ig 27 (.mkI 148 (.k (.c (.str ⟨#[116,97,103]⟩)))) 25 true,ig 28 (.call (.f 94) [.t 26,.t 27]) 25 true,ig 29 (.un .not (.t 28)) 25 true,ii 30 (.pick (.t 25) (.t 29) (.k (.c (.bool false)))),im 8 20,im 9 30] false) .ret))⟩
theorem Zpj : Zm Tryz.prog 64 = some Zmk.erase := by kernel_rfl
def Z4t : AFun := ⟨[.tmp 8],.seq (.region [ii 8 (.mv (.k (.c (.str ⟨#[]⟩))))] false) (.seq (.region [im 9 0,ii 10 (.slS (.t 9) (some (ki 32)) none),im 11 2,ii 12 (.lenS (.t 11)),icl 13 112 [.t 12],im 14 2,ibt 15 .add 13 14,im 16 1,ibt 17 .add 15 16,im 18 3,ibt 19 .add 17 18,icl 20 82 [.t 10,.t 19],ii 21 (.slS (.t 20) none (some (ki 16))),im 8 21] true) .ret)⟩
theorem Zbae : Zm Tryz.prog 121 = some Z4t.erase := by kernel_rfl
def Z07 : AFun := ⟨[.tmp 8],.seq (.region [ii 8 (.mv (.k (.c (.str ⟨#[]⟩))))] false) (.seq (.seq (.region [im 10 0,ii 11 (.lenS (.t 10)),ii 12 (.bin .neq (.t 11) (ki 64)),im 13 12,ig 14 (.mv (.t 1)) 13 false,ig 15 (.lenS (.t 14)) 13 false,ig 16 (.bin .neq (.t 15) (ki 12)) 13 false,ii 17 (.pick (.t 13) (.k (.c (.bool true))) (.t 16)),im 18 17,ig 19 (.mv (.t 3)) 18 false,ig 20 (.lenS (.t 19)) 18 false,ig 21 (.bin .gtr (.t 20) (ki 1048576)) 18 false,ii 22 (.pick (.t 18) (.k (.c (.bool true))) (.t 21))] false) (.cond (.t 22) (.seq (.region [ii 8 (.mv (.k (.c (.str ⟨#[]⟩))))] false) .ret) .skip)) (.seq (.region [im 23 0,ii 24 (.slS (.t 23) none (some (ki 32))),im 25 1,im 26 3,icl 27 120 [.t 24,.t 25,.k (.c (.int .i64 1)),.t 26],im 9 27] false) (.seq (.region [im 28 9,im 29 0,im 30 1,im 31 2,im 32 9,icl 33 121 [.t 29,.t 30,.t 31,.t 32],ibt 34 .add 28 33,im 8 34] false) .ret)))⟩
theorem Z9z : Zm Tryz.prog 72 = some Z07.erase := by kernel_rfl
def Z0k : AFun := ⟨[.tmp 4],.seq (.region [ii 4 (.mv (.k (.c (.str ⟨#[]⟩))))] false) (.seq (.region [im 5 0,im 6 1,icl 7 66 [.t 6],ii 8 (.bin .add (.k (.c (.str ⟨#[111,119,110,32]⟩))) (.t 7)),icl 9 65 [.k (.c (.str ⟨#[100,101,97,100,100,114,111,112]⟩)),.t 5,.t 8,.k (.c (.int .i64 32))],im 4 9] false) .ret)⟩
theorem Z9p : Zm Tryz.prog 24 = some Z0k.erase := by kernel_rfl
def Zvf : AFun := ⟨[.tmp 4],.seq (.region [ii 4 (.mv (.k (.c (.str ⟨#[]⟩))))] false) (.seq (.region [im 5 0,im 6 1,icl 7 66 [.t 6],ii 8 (.bin .add (.k (.c (.str ⟨#[101,112,111,99,104,32]⟩))) (.t 7)),icl 9 65 [.k (.c (.str ⟨#[100,101,97,100,100,114,111,112]⟩)),.t 5,.t 8,.k (.c (.int .i64 32))],im 4 9] false) .ret)⟩
theorem Z4b : Zm Tryz.prog 25 = some Zvf.erase := by kernel_rfl
def Zzi : AFun := ⟨[.tmp 2],.seq (.region [ii 2 (.mv (.k (.c (.str ⟨#[]⟩))))] false) (.seq (.region [im 3 0,icl 4 65 [.k (.c (.str ⟨#[100,101,97,100,100,114,111,112]⟩)),.t 3,.k (.c (.str ⟨#[119,114,97,112]⟩)),.k (.c (.int .i64 64))],im 2 4] false) .ret)⟩
theorem Z64 : Zm Tryz.prog 73 = some Zzi.erase := by kernel_rfl
def Zvp : AFun := ⟨[.tmp 2],.seq (.region [ii 2 (.mv (.k (.c (.str ⟨#[]⟩))))] false) (.seq (.region [im 3 0,icl 4 112 [.t 3],ii 5 (.bin .add (.k (.c (.str ⟨#[0,0,0,0]⟩))) (.t 4)),im 2 5] false) .ret)⟩
theorem Z4q : Zm Tryz.prog 74 = some Zvp.erase := by kernel_rfl
def Zos : UInt8 → List (UInt8 × UInt8) → UInt8
 | x,[] => x
 | x,p :: l => Zos (x ||| (p.1 ^^^ p.2)) l
theorem Zbfe {x y : UInt8} : x ||| y = 0 ↔ x = 0 ∧ y = 0 := by
 constructor
 ·intro h
  have h1 : (x ||| y).toNat = 0 := by rw [h]; rfl
  rw [UInt8.toNat_or] at h1
  have := Nat.or_eq_zero_iff.1 h1
  exact ⟨UInt8.toNat_inj.1 this.1,UInt8.toNat_inj.1 this.2⟩
 ·rintro ⟨rfl,rfl⟩; rfl
theorem Zyq : ∀ (l : List (UInt8 × UInt8)) (x : UInt8),Zos x l = 0 ↔ x = 0 ∧ ∀ p ∈ l,p.1 = p.2
 | [],x => by simp [Zos]
 | p :: l,x => by
  rw [Zos,Zyq l,Zbfe,UInt8.xor_eq_zero_iff]
  simp [and_assoc]
theorem Zbav : ∀ {a b : List UInt8},a.length = b.length → ((∀ p ∈ a.zip b,p.1 = p.2) ↔ a = b)
 | [],[],_ => by simp
 | x :: a,y :: b,h => by
  have := Zbav (a := a) (b := b) (by simpa using h)
  simp only [List.zip_cons_cons,List.mem_cons,forall_eq_or_imp,this,List.cons.injEq]
 | [],_ :: _,h => by simp at h
 | _ :: _,[],h => by simp at h
theorem Zbeh {x y : UInt8} {H : Heap} : vBin .or (.c (.int .u8 (x.toNat : Int))) (.c (.int .u8 (y.toNat : Int))) H = some (yC (x ||| y),H) := by
 have hx := x.toNat_lt
 have hy := y.toNat_lt
 have : IntKind.wrap .u8 ((BitVec.ofInt IntKind.u8.bits (x.toNat : Int) ||| BitVec.ofInt IntKind.u8.bits (y.toNat : Int)).toNat : Int) = ((x ||| y).toNat : Int) := by
  rw [BitVec.toNat_or,BitVec.ofInt_natCast,BitVec.ofInt_natCast,BitVec.toNat_ofNat,BitVec.toNat_ofNat]
  have e1 : x.toNat % 2 ^ IntKind.u8.bits = x.toNat := Nat.mod_eq_of_lt hx
  have e2 : y.toNat % 2 ^ IntKind.u8.bits = y.toNat := Nat.mod_eq_of_lt hy
  rw [e1,e2,UInt8.toNat_or]
  have : x.toNat ||| y.toNat < 2 ^ 8 := Nat.or_lt_two_pow (by omega) (by omega)
  simp [IntKind.wrap,IntKind.bits,IntKind.signed]
  omega
 simp only [vBin,Zch,Zca,if_true,this]
theorem Z7e {s : ByteArray} {i : Nat} {x : UInt8} {ik : IntKind} {H : Heap} (h : s.data.toList[i]? = some x) : vIxS (sC s) (.c (.int ik (i : Int))) H = some (.c (.int .u8 (x.toNat : Int)),H) := by
 obtain ⟨h1,h2⟩ := List.getElem?_eq_some_iff.1 h
 have h3 : i < s.size := h1
 have h4 : s[i]'h3 = x := h2
 simp [vIxS,h3,h4]
set_option maxHeartbeats 1000000 in
theorem Z1y (a b : ByteArray) (ha : a.size ≤ 1000000) : Pr 128 [sC a,sC b] (bC (decide (a = b))) := by
 refine Zl mixed Z15 rfl fun hl T => ?_
 unfold Ztk
 by_cases hs : a.size = b.size
 ·obtain ⟨v,hv⟩ : ∃ v,v = decide (a = b) := ⟨_,rfl⟩
  rw [← hv]
  have hsl : a.data.toList.length = b.data.toList.length := hs
  have hab : (a.data.toList = b.data.toList) ↔ a = b := by
   constructor
   ·intro h
    have := congrArg baL h
    rwa [Zjg,Zjg] at this
   ·rintro rfl; rfl
  have hvv : v = decide (Zos 0 (a.data.toList.zip b.data.toList) = 0) := by
   rw [hv,Bool.eq_iff_iff,decide_eq_true_eq,decide_eq_true_eq,Zyq,← hab,← Zbav hsl]
   simp
  have hne : ((a.size : Int) = (b.size : Int)) := by omega
  have loop : ∀ (k i : Nat) (x : UInt8) (e : Env),i + k = a.size → e 0 = sC a → e 1 = sC b → e 5 = yC x → e 13 = iC b.size → e 14 = iC i → v = decide (Zos x ((a.data.toList.zip b.data.toList).drop i) = 0) →
    Run (Zt Tryz.prog T) ⟨[.tmp 4],fun u E => Zf E u = some (bC v)⟩ [.loop Zi8,.blk 0,.code Zlx] e [] := by
   intro k
   induction k with
   | zero =>
    intro i x e hk h0 h1 h5 h13 h14 hx
    have hc : ¬ ((i : Int) < (b.size : Int)) := by omega
    refine Zi ?_
    conv => enter [3,1]; unfold Zi8
    simp only [go_sem,simprocAttr,h0,h1,h5,h13,h14,hc]
    unfold Zlx
    have hz : ((x.toNat : Int) = 0) ↔ x = 0 := by
     constructor
     ·intro h; exact UInt8.toNat_inj.1 (by simpa using h)
     ·rintro rfl; rfl
    have hd : (a.data.toList.zip b.data.toList).drop i = [] := List.drop_eq_nil_of_le (by rw [List.length_zip]; have : a.data.toList.length = a.size := rfl; omega)
    rw [hd] at hx
    simp only [go_sem,simprocAttr,h5]
    simp only [Zos] at hx
    rw [hx]
    by_cases hx0 : x = 0
    ·subst hx0; simp [Zf,Ze,Zk,Zg,Zh,Zd,Zc,Zb]
    ·have t2 : ¬ x.toNat = 0 := fun h => hx0 (hz.1 (by omega))
     simp [Zf,Ze,Zk,Zg,Zh,Zd,Zc,Zb,t2,hx0]
   | succ k ih =>
    intro i x e hk h0 h1 h5 h13 h14 hx
    have hia : i < a.data.toList.length := by have : a.data.toList.length = a.size := rfl; omega
    have hib : i < b.data.toList.length := by omega
    have hc : ((i : Int) < (b.size : Int)) := by omega
    have ga := fun H => Z7e (s := a) (ik := .i64) (H := H) (List.getElem?_eq_getElem hia)
    have gb := fun H => Z7e (s := b) (ik := .i64) (H := H) (List.getElem?_eq_getElem hib)
    have hzl : i < (a.data.toList.zip b.data.toList).length := by rw [List.length_zip]; omega
    have hd := List.drop_eq_getElem_cons hzl
    rw [List.getElem_zip] at hd
    have hn : IntKind.wrap .i64 ((i : Int) + 1) = ((i + 1 : Nat) : Int) := by rw [Zn (by omega)]; omega
    refine Zi ?_
    conv => enter [3,1]; unfold Zi8
    simp only [go_sem,simprocAttr,h0,h1,h5,h13,h14,hc,ga,gb,Zlm,Zbeh,hn]
    refine ih (i + 1) (x ||| (a.data.toList[i] ^^^ b.data.toList[i])) _ (by omega) ?_ ?_ ?_ ?_ ?_ ?_
    ·simp only [go_sem,simprocAttr,h0]
    ·simp only [go_sem,simprocAttr,h1]
    ·simp only [go_sem,simprocAttr]
    ·simp only [go_sem,simprocAttr,h13]
    ·simp only [go_sem,simprocAttr,hn]
    ·rw [hx,hd,Zos]
  simp only [go_sem,simprocAttr,hne]
  refine loop a.size 0 0 _ (by omega) ?_ ?_ ?_ ?_ ?_ (by rw [List.drop_zero]; exact hvv)
  all_goals first | (simp only [go_sem,simprocAttr,Int.natCast_zero]; done) | (simp only [go_sem,simprocAttr]; rfl) | (simp only [go_sem,simprocAttr,hne])
 ·have hne : ¬ ((a.size : Int) = (b.size : Int)) := by omega
  have hab : ¬ (a = b) := fun h => hs (by rw [h])
  simp only [go_sem,simprocAttr,hne]
  simp [Zf,Ze,Zk,Zg,Zh,Zd,Zc,Zb,hab]
end Go.Proofs.YticmfblfghdkbaaGreatDoor.Eng
namespace Go.Proofs.YticmfblfghdkbaaGreatDoor.Eng
open Go Go.RowKit Go.Extern.Stop Go.Stop Go.Extern
theorem Zkr (v : Value) (w : World) :
  Calls Tryz.prog 94 #[.nilIface,.iface 257 v] w fun e w' => e = .returned (.bool false) ∧ w' = w := by
 have hn := run_eql_iface_nil_left (P := Tryz.prog) w 257 v Tryz.underlying98
 go_enter Tryz.func94,Tryz.ntmps94
 go_wp2
 go_ret
 exact ⟨rfl,rfl⟩
end Go.Proofs.YticmfblfghdkbaaGreatDoor.Eng
namespace Go.Proofs.YticmfblfghdkbaaGreatDoor.Eng
open Go Go.Shelf Go.RowKit
theorem Zbk5 : Lays.n166 Tryz.prog Zec := { Zm9 with }
theorem Zbj5 : Lays.n169 Tryz.prog Zec := { Zm9 with }
theorem Zber : Zec.f 166 = 168 := by kernel_rfl
theorem Zba9 : Zec.f 169 = 170 := by kernel_rfl
theorem Pure.below {f : Nat} {args : List AVal} {v : AVal} (h : Pr f args v) {w : World} (hl : LibW w) {vs : Array Value} (ha : All2 (VRA (flat fun g => g < w.heap.size) (Zj w)) args vs.toList) :
  Calls Tryz.prog f vs w fun e w' => ∃ u m',e = .returned u ∧ Below w.heap.size w w' ∧ VRA m' (Zj w') v u := by
 have r0 : Rel w.heap.size (flat fun g => g < w.heap.size) [] w := Rel.flat (fun _ h => h) fun g c h => ⟨hl.lt h,hl g c h⟩
 refine ((h []).calls w.heap.size _ w vs r0 ha).mono ?_
 rintro e w' ⟨u,m',rfl,hst,hr⟩
 exact ⟨u,m',rfl,hst.below r0,hr⟩
theorem LibW.below {w w' : World} (h : LibW w) (hb : Below w.heap.size w w') : LibW w' := fun g c k => by
 rw [← h g c k]
 exact World.cell?_of_block (hb.block g (h.lt k))
theorem Z2s (n : Int) (h0 : 0 ≤ n) (h1 : n ≤ 8160) : Pr 183 [iC n] (.c .nilI) := by
 refine Zl mixed Z1u rfl fun hl T => ?_
 unfold Zs9
 have c0 : ¬ (n < 0) := by omega
 have c1 : ¬ (8160 < n) := by omega
 simp only [go_sem,simprocAttr,c0,c1]
 simp [Zf,Ze,Zk,Zg,Zh,Zd,Zc,Zb]
theorem Zwc (n : Int) (h0 : 0 ≤ n) (h1 : n ≤ 8160) {w : World} (hl : LibW w) : Calls Tryz.prog 183 #[.int .i64 n] w fun e w' => e = .returned .nilIface ∧ Below w.heap.size w w' := by
 refine ((Z2s n h0 h1).below hl (.cons (.c (.int _ _)) .nil)).mono ?_
 rintro e w' ⟨u,m',rfl,hb,hr⟩
 cases hr with
 | c hr => cases hr; exact ⟨rfl,hb⟩
theorem Zlc (key : ByteArray) (l : List ByteArray) (hk : key.size ≤ 1000000) (hl : l.length ≤ 100000) (hs : (catS l).size ≤ 100000000) {w : World} (hw : LibW w) (g cap : Nat) (h0 : l ≠ []) (hc : l.length ≤ cap) (hcm : cap ≤ maxLen) (hg : g < w.heap.size)
  (hx : ∀ (j : Nat) x,l[j]? = some x → w.cell? ⟨g,j,none⟩ = some (.string x)) :
  Calls Tryz.prog 68 #[.string key,.slice (some ⟨g,0,none⟩) l.length cap] w fun e w' => e = .returned (.string (macD key (catS l))) ∧ Below w.heap.size w w' := by
 have hlen : (l.map sRow).length = l.length := List.length_map _
 have hv : VR (flat fun g => g < w.heap.size) (Zj w) (Zka l) (.slice (some ⟨g,0,none⟩) l.length cap) := by
  unfold Zka
  have := VR.lst (m := flat fun g => g < w.heap.size) (σ := Zj w) (sz := 1) (A := ⟨g,0,none⟩) (c := cap) (g := g) (o := 0) (rows := l.map sRow) (vs := fun i _ => .string (l.getD i ⟨#[]⟩)) (by rw [hlen]; exact hc) hcm (fun _ => ⟨rfl,hg⟩) (fun i r hr => by
   rw [List.getElem?_map] at hr
   cases h : l[i]? with
   | none => rw [h] at hr; cases hr
   | some x => rw [h] at hr; injection hr with hr; subst hr; rfl) (fun i r f x hr hx' => by
   rw [List.getElem?_map] at hr
   cases h : l[i]? with
   | none => rw [h] at hr; cases hr
   | some y =>
    rw [h] at hr
    injection hr with hr
    subst hr
    match f with
    | 0 =>
     have e1 := hx i y h
     have e2 : l.getD i ⟨#[]⟩ = y := by simp [List.getD_eq_getElem?_getD,h]
     rw [Zf9,e2]
     simpa using e1
    | f + 1 => simp [sRow] at hx') (fun i r f x hr hx' => by
   rw [List.getElem?_map] at hr
   cases h : l[i]? with
   | none => rw [h] at hr; cases hr
   | some y =>
    rw [h] at hr
    injection hr with hr
    subst hr
    have e2 : l.getD i ⟨#[]⟩ = y := by simp [List.getD_eq_getElem?_getD,h]
    match f with
    | 0 =>
     simp [sRow] at hx'
     subst hx'
     rw [e2]
     exact .str _
    | f + 1 => simp [sRow] at hx')
  rw [hlen] at this
  exact this
 refine ((Zpc key l hk hl hs).below hw (.cons (.c (.str _)) (.cons (.c hv) .nil))).mono ?_
 rintro e w' ⟨u,m',rfl,hb,hr⟩
 cases hr with
 | c hr => cases hr; exact ⟨rfl,hb⟩
theorem Z86 {w w' : World} (hb : Below w.heap.size w w') : w.grownBy w' none := ⟨hb.os,hb.tape,hb.output,hb.size,fun k hk _ => hb.block k hk⟩
theorem Ztq {T e : TypeId} {B b : Nat} {bs : List Value} {w w' : World} (h : Lib.IsBuilderF T e B b bs w) (hb : Below w.heap.size w w') : Lib.IsBuilderF T e B b bs w' := by
 have key : ∀ p,Lib.BuilderAtF T e B b p bs w → Lib.BuilderAtF T e B b p bs w' := fun p h => by
  have hlt := h.lt
  obtain ⟨hB,v,hbk,hown,hne⟩ := h
  exact ⟨hB,v,(hb.block b hlt).trans hbk,hown.kept (Z86 hb) (by cases hv : v.ownBlock <;> simp),hne⟩
 exact h.elim (fun h => .inl (key _ h)) (fun h => .inr (key _ h))
theorem Zq6 : Zec.t 72 = 221 := by kernel_rfl
theorem Z20 : Zec.t 5 = 5 := by kernel_rfl
set_option maxRecDepth 100000 in
set_option maxHeartbeats 4000000 in
theorem Zll (B b : Nat) (bs : List Value) (w : World) (h : Lib.IsBuilderF 221 5 B b bs w) :
  Calls Tryz.prog 169 #[.pointer (some ⟨b,0,none⟩)] w fun e w' => e = .returned (.int .i64 bs.length) ∧ w' = w := by
 obtain ⟨p,hB,v,hbk,hown,hne⟩ : ∃ p,Lib.BuilderAtF 221 5 B b p bs w := by
  rcases h with h | h
  ·exact ⟨_,h⟩
  ·exact ⟨_,h⟩
 obtain ⟨ao,cap,rfl⟩ : ∃ ao cap,v = .slice ao bs.length cap := by
  rcases hown.2 with ⟨hv,h0⟩ | ⟨g,cap,cur,fz,hv,_⟩
  ·exact ⟨none,0,by rw [hv,h0]⟩
  ·exact ⟨_,_,hv⟩
 have c1 : w.cell? ⟨b,1,none⟩ = some (.slice ao bs.length cap) := by rw [Lib.cell_of_heap hbk]; rfl
 go_enter Tryz.func169,Tryz.ntmps169
 go_wp2
 go_ret
 exact ⟨rfl,rfl⟩
theorem Zpy (B b : Nat) (bs : List Value) (s : ByteArray) (w : World) (h : Lib.IsBuilderF 221 5 B b bs w) (hlen : bs.length + s.size ≤ 140737488355328) (hBw : B ≤ w.heap.size) :
  Calls Tryz.prog 168 #[.pointer (some ⟨b,0,none⟩),.string s] w fun e w' => e = .returned (.tuple #[.int .i64 s.size,.nilIface]) ∧ Lib.IsBuilderF 221 5 B b (bs ++ Lib.strCells s) w' ∧ Below B w w' := by
 have := Any.Builder_WriteString_f Zbk5 Zlg B b bs s w (by rw [Zq6,Z20]; exact h) hlen hBw
 rw [Zber,Zq6,Z20] at this
 refine this.mono ?_
 rintro e w' ⟨rfl,h1,h2⟩
 exact ⟨rfl,.inr h1,h2⟩
theorem Zsk (B b : Nat) (l : List UInt8) (w : World) (h : Lib.IsBuilderF 221 5 B b (Lib.byteCells l) w) (hBw : B ≤ w.heap.size) (h0 : l ≠ []) :
  Calls Tryz.prog 170 #[.pointer (some ⟨b,0,none⟩)] w fun e w' => e = .returned (.string (baL l)) ∧ Below B w w' := by
 have := Any.Builder_String_f Zbj5 Zlg B b l w (by rw [Zq6,Z20]; exact h) h0
 rw [Zba9,Zq6,Z20] at this
 refine this.mono ?_
 rintro e w' ⟨rfl,h1,h2⟩
 exact ⟨rfl,h2⟩
theorem Zyp (w : World) : Lib.IsBuilderF 221 5 w.heap.size w.heap.size [] (w.alloc (.cells #[.pointer none,.slice none 0 0] 221)) :=
 .inl ⟨Nat.le_refl _,_,heap_alloc_new w _,World.ownsRowF_nil _ _ _ _,by simp [Value.ownBlock]⟩
theorem Z04 (x : ByteArray) (w : World) (T : TypeId) : ∀ (j : Nat) y,[x][j]? = some y → (w.alloc (.cells #[.string x] T)).cell? ⟨w.heap.size,j,none⟩ = some (.string y) := fun j y h => by
 match j with
 | 0 => simp at h; subst h; simp
 | j + 1 => simp at h
theorem Zpd (x y z : ByteArray) (w : World) (T : TypeId) (g : Nat) (hg : g = w.heap.size) : ∀ (j : Nat) u,[x,y,z][j]? = some u → (w.alloc (.cells #[.string x,.string y,.string z] T)).cell? ⟨g,j,none⟩ = some (.string u) := fun j u h => by
 subst hg
 match j with
 | 0 => simp at h; subst h; simp
 | 1 => simp at h; subst h; simp
 | 2 => simp at h; subst h; simp
 | j + 3 => simp at h
theorem cat3 (a b : ByteArray) : catS [⟨#[]⟩,a,b] = a ++ b := by
 rw [Zdz,Zdz,Zd6,Zqn]
theorem Z47 (w : World) (a b : Obj) : Below w.heap.size w ((w.alloc a).alloc b) := ((Below.refl _ _).alloc (Nat.le_refl _) a).alloc (by simp) b
theorem Zww (x : UInt8) (w : World) (T : TypeId) (n : Int) (hn : n = (x.toNat : Int)) (g : Nat) (hg : g = w.heap.size) : (convert 22 9 (.slice (some ⟨g,0,none⟩) 1 1)).run Tryz.prog (w.alloc (.cells #[.int .u8 n] T)) = .ok (.string (baL [x])) (w.alloc (.cells #[.int .u8 n] T)) := by
 subst hn hg
 refine run_convert_bytes_back (P := Tryz.prog) _ 22 9 5 ⟨w.heap.size,0,none⟩ 1 [x] Tryz.underlying22 Tryz.underlying5 Tryz.underlying9 fun j hj => ?_
 match j with
 | 0 => simp [Addr.add]
 | j + 1 => simp at hj
set_option maxRecDepth 100000 in
set_option maxHeartbeats 1000000 in
theorem Zzk (salt key info : ByteArray) (h1 : salt.size ≤ 1000000) (h2 : key.size ≤ 1000000) (h3 : info.size ≤ 1000000) (w : World) (hl : LibW w) :
  Calls Tryz.prog 152 #[.string salt,.string key,.string info,.int .i64 32] w fun e w' => e = .returned (.string (der1 salt key info)) ∧ Below w.heap.size w w' := by
 go_enter Tryz.func152,Tryz.ntmps152
 go_wp2_with (go_at_fn 183)
 refine (Zwc 32 (by omega) (by omega) hl).mono ?_
 rintro e w1 ⟨rfl,hb1⟩
 have hl1 := hl.below hb1
 have cs1 : (catS [key]).size ≤ 100000000 := by rw [Zd6]; omega
 go_wp2_with (go_at_fn 94)
 refine (Zkr _ _).mono ?_
 rintro e w' ⟨rfl,rfl⟩
 go_wp2_with (go_at_fn 94)
 refine (Zkr _ _).mono ?_
 rintro e w' ⟨rfl,rfl⟩
 go_wp2_with (go_at_fn 68)
 refine (Zlc salt [key] h1 (by simp) cs1 (hl1.below ((Below.refl _ _).alloc (Nat.le_refl _) _)) _ 1 (by simp) (by simp) (by decide) (by simp) (Z04 _ _ _)).mono ?_
 rintro e w2 ⟨rfl,hb2⟩
 rw [Zd6]
 have hb2' := (hb1.trans (((Below.refl _ _).alloc (Nat.le_refl _) _).mono hb1.size)).trans (hb2.mono (Nat.le_trans hb1.size (by simp)))
 have hl2 := hl.below hb2'
 clear hb1 hl1 hb2
 go_wp2
 refine wp_loop_rounds 2 ?_
 rw [rounds_succ]
 have hB0 := Zyp w2
 go_wp2_with (go_at_fn 169)
 refine (Zll w2.heap.size w2.heap.size [] _ hB0).mono ?_
 rintro e w' ⟨rfl,rfl⟩
 have v1 := Zww 1 (w2.alloc (.cells #[.pointer none,.slice none 0 0] 221)) 5 1 rfl (w2.heap.size + 1) (by simp)
 go_wp2_with (go_at_fn 68)
 have q1 : Below w2.heap.size w2 (w2.alloc (.cells #[.pointer none,.slice none 0 0] 221)) := (Below.refl _ _).alloc (Nat.le_refl _) _
 have q2 := Z47 (w2.alloc (.cells #[.pointer none,.slice none 0 0] 221)) (.cells #[.int .u8 1] 5) (.cells #[.string ⟨#[]⟩,.string info,.string (baL [1])] 9)
 have hl3 := (hl2.below q1).below q2
 refine (Zlc (macD salt key) [⟨#[]⟩,info,baL [1]] (by rw [Zee]; omega) (by simp) (by rw [cat3,ByteArray.size_append,Zc7]; simp; omega) hl3 (w2.heap.size + 1 + 1) 3 (by simp) (by simp) (by decide) (by simp) (Zpd _ _ _ _ _ _ (by simp))).mono ?_
 rintro e w3 ⟨rfl,hb3⟩
 rw [cat3]
 have d1 : macD (macD salt key) (info ++ baL [1]) = der1 salt key info := rfl
 have sd := Zoq salt key info
 rw [d1]
 obtain ⟨D,hD⟩ : ∃ D,der1 salt key info = D := ⟨_,rfl⟩
 rw [hD] at d1 sd ⊢
 have hb3' := q2.trans (hb3.mono q2.size)
 have hB1 := Ztq hB0 hb3'
 have hb3'' := q1.trans (hb3'.mono q1.size)
 go_wp2_with (go_at_fn 168)
 refine (Zpy w2.heap.size w2.heap.size [] D w3 hB1 (by simp; omega) hb3''.size).mono ?_
 rintro e w4 ⟨rfl,hB2,hb4⟩
 rw [List.nil_append] at hB2
 go_wp2
 rw [rounds_succ]
 go_wp2_with (go_at_fn 169)
 refine (Zll w2.heap.size w2.heap.size _ _ hB2).mono ?_
 rintro e w4 ⟨rfl,rfl⟩
 rw [Lib.strCells_length,sd]
 go_wp2_with (go_at_fn 170)
 refine (Zsk w2.heap.size w2.heap.size D.data.toList _ hB2 (Nat.le_trans hb3''.size hb4.size) (by intro h; have h' : D.data.toList.length = D.size := rfl; rw [h] at h'; simp at h'; omega)).mono ?_
 rintro e w5 ⟨rfl,hb5⟩
 rw [Zjg]
 go_wp2
 go_ret
 refine ⟨?_,hb2'.trans (((hb3''.trans hb4).trans hb5).mono hb2'.size)⟩
 rw [Zk0 sd,hD]
 rfl
set_option maxRecDepth 100000 in
set_option maxHeartbeats 1000000 in
theorem Zzt (salt key info : ByteArray) (h1 : salt.size ≤ 1000000) (h2 : key.size ≤ 1000000) (h3 : info.size ≤ 1000000) (w : World) (hl : LibW w) :
  Calls Tryz.prog 152 #[.string salt,.string key,.string info,.int .i64 64] w fun e w' => e = .returned (.string (Zo1 salt key info)) ∧ Below w.heap.size w w' := by
 go_enter Tryz.func152,Tryz.ntmps152
 go_wp2_with (go_at_fn 183)
 refine (Zwc 64 (by omega) (by omega) hl).mono ?_
 rintro e w1 ⟨rfl,hb1⟩
 have hl1 := hl.below hb1
 have cs1 : (catS [key]).size ≤ 100000000 := by rw [Zd6]; omega
 go_wp2_with (go_at_fn 94)
 refine (Zkr _ _).mono ?_
 rintro e w' ⟨rfl,rfl⟩
 go_wp2_with (go_at_fn 94)
 refine (Zkr _ _).mono ?_
 rintro e w' ⟨rfl,rfl⟩
 go_wp2_with (go_at_fn 68)
 refine (Zlc salt [key] h1 (by simp) cs1 (hl1.below ((Below.refl _ _).alloc (Nat.le_refl _) _)) _ 1 (by simp) (by simp) (by decide) (by simp) (Z04 _ _ _)).mono ?_
 rintro e w2 ⟨rfl,hb2⟩
 rw [Zd6]
 have hb2' := (hb1.trans (((Below.refl _ _).alloc (Nat.le_refl _) _).mono hb1.size)).trans (hb2.mono (Nat.le_trans hb1.size (by simp)))
 have hl2 := hl.below hb2'
 clear hb1 hl1 hb2
 go_wp2
 refine wp_loop_rounds 3 ?_
 rw [rounds_succ]
 have hB0 := Zyp w2
 go_wp2_with (go_at_fn 169)
 refine (Zll w2.heap.size w2.heap.size [] _ hB0).mono ?_
 rintro e w' ⟨rfl,rfl⟩
 have v1 := Zww 1 (w2.alloc (.cells #[.pointer none,.slice none 0 0] 221)) 5 1 rfl (w2.heap.size + 1) (by simp)
 go_wp2_with (go_at_fn 68)
 have q1 : Below w2.heap.size w2 (w2.alloc (.cells #[.pointer none,.slice none 0 0] 221)) := (Below.refl _ _).alloc (Nat.le_refl _) _
 have q2 := Z47 (w2.alloc (.cells #[.pointer none,.slice none 0 0] 221)) (.cells #[.int .u8 1] 5) (.cells #[.string ⟨#[]⟩,.string info,.string (baL [1])] 9)
 have hl3 := (hl2.below q1).below q2
 refine (Zlc (macD salt key) [⟨#[]⟩,info,baL [1]] (by rw [Zee]; omega) (by simp) (by rw [cat3,ByteArray.size_append,Zc7]; simp; omega) hl3 (w2.heap.size + 1 + 1) 3 (by simp) (by simp) (by decide) (by simp) (Zpd _ _ _ _ _ _ (by simp))).mono ?_
 rintro e w3 ⟨rfl,hb3⟩
 rw [cat3]
 have d1 : macD (macD salt key) (info ++ baL [1]) = der1 salt key info := rfl
 have sd := Zoq salt key info
 rw [d1]
 obtain ⟨D,hD⟩ : ∃ D,der1 salt key info = D := ⟨_,rfl⟩
 rw [hD] at d1 sd ⊢
 have hb3' := q2.trans (hb3.mono q2.size)
 have hB1 := Ztq hB0 hb3'
 have hb3'' := q1.trans (hb3'.mono q1.size)
 go_wp2_with (go_at_fn 168)
 refine (Zpy w2.heap.size w2.heap.size [] D w3 hB1 (by simp; omega) hb3''.size).mono ?_
 rintro e w4 ⟨rfl,hB2,hb4⟩
 rw [List.nil_append] at hB2
 go_wp2
 rw [rounds_succ]
 go_wp2_with (go_at_fn 169)
 refine (Zll w2.heap.size w2.heap.size _ _ hB2).mono ?_
 rintro e w4 ⟨rfl,rfl⟩
 rw [Lib.strCells_length,sd]
 have v2 := Zww 2 w4 5 2 rfl w4.heap.size rfl
 go_wp2_with (go_at_fn 68)
 have q4 := Z47 w4 (.cells #[.int .u8 2] 5) (.cells #[.string D,.string info,.string (baL [2])] 9)
 have hl4 := (hl2.below (hb3''.trans hb4)).below q4
 have d2 : catS [D,info,baL [2]] = D ++ info ++ baL [2] := by rw [Zdz,Zdz,Zd6,ByteArray.append_assoc]
 refine (Zlc (macD salt key) [D,info,baL [2]] (by rw [Zee]; omega) (by simp) (by rw [d2,ByteArray.size_append,ByteArray.size_append,Zc7]; simp; omega) hl4 (w4.heap.size + 1) 3 (by simp) (by simp) (by decide) (by simp) (Zpd _ _ _ _ _ _ (by simp))).mono ?_
 rintro e w5 ⟨rfl,hb5⟩
 have e2 : macD (macD salt key) (catS [D,info,baL [2]]) = der2 salt key info := by rw [d2,← hD]; rfl
 rw [e2]
 have sd2 := Z0h salt key info
 obtain ⟨D2,hD2⟩ : ∃ D2,der2 salt key info = D2 := ⟨_,rfl⟩
 rw [hD2] at e2 sd2 ⊢
 have hb5' := q4.trans (hb5.mono q4.size)
 have hB3 := Ztq hB2 hb5'
 have hs4 : w2.heap.size ≤ w4.heap.size := Nat.le_trans hb3''.size hb4.size
 have hs5 : w2.heap.size ≤ w5.heap.size := Nat.le_trans hs4 hb5'.size
 go_wp2_with (go_at_fn 168)
 refine (Zpy w2.heap.size w2.heap.size _ D2 w5 hB3 (by rw [Lib.strCells_length]; omega) hs5).mono ?_
 rintro e w6 ⟨rfl,hB4,hb6⟩
 go_wp2
 rw [rounds_succ]
 go_wp2_with (go_at_fn 169)
 refine (Zll w2.heap.size w2.heap.size _ _ hB4).mono ?_
 rintro e w6 ⟨rfl,rfl⟩
 rw [List.length_append,Lib.strCells_length,Lib.strCells_length,sd,sd2]
 go_wp2_with (go_at_fn 170)
 have hcat : Lib.strCells D ++ Lib.strCells D2 = Lib.byteCells (D ++ D2).data.toList := by
  unfold Lib.strCells Lib.byteCells
  rw [← List.map_append,ByteArray.data_append,Array.toList_append]
 rw [hcat] at hB4
 have hs64 : (D ++ D2).size = 64 := by rw [ByteArray.size_append]; omega
 refine (Zsk w2.heap.size w2.heap.size (D ++ D2).data.toList _ hB4 (Nat.le_trans hs5 hb6.size) (by intro h; have h' : (D ++ D2).data.toList.length = (D ++ D2).size := rfl; rw [h] at h'; simp at h'; omega)).mono ?_
 rintro e w7 ⟨rfl,hb7⟩
 rw [Zjg]
 go_wp2
 go_ret
 refine ⟨?_,hb2'.trans (((((hb3''.trans hb4).trans (hb5'.mono hs4)).trans hb6).trans hb7).mono hb2'.size)⟩
 rw [Zk0 hs64,Zo1,hD,hD2]
 rfl
theorem Zqu (salt key info : ByteArray) (h1 : salt.size ≤ 1000000) (h2 : key.size ≤ 1000000) (h3 : info.size ≤ 1000000) : Pr 152 [sC salt,sC key,sC info,iC 32] (sC (der1 salt key info)) := by
 intro H
 refine ⟨⟨_,Tryz.func152,rfl,rfl⟩,fun B m w vs r ha => ?_⟩
 obtain ⟨vs⟩ := vs
 cases ha with | cons a1 a2 => cases a2 with | cons a2 a3 => cases a3 with | cons a3 a4 => cases a4 with | cons a4 a5 =>
 cases a5
 cases a1 with | c a1 => cases a2 with | c a2 => cases a3 with | c a3 => cases a4 with | c a4 =>
 cases a1; cases a2; cases a3; cases a4
 refine (Zzk salt key info h1 h2 h3 w r.lib.w).mono ?_
 rintro e w' ⟨rfl,hb⟩
 exact ⟨_,⟨m.f,m.z⟩,rfl,St.ofBelow r hb (Or.inl rfl) (fun _ h => h) (fun _ h => .inl h),.c (.str _)⟩
theorem Zz1 (salt key info : ByteArray) (h1 : salt.size ≤ 1000000) (h2 : key.size ≤ 1000000) (h3 : info.size ≤ 1000000) : Pr 152 [sC salt,sC key,sC info,iC 64] (sC (Zo1 salt key info)) := by
 intro H
 refine ⟨⟨_,Tryz.func152,rfl,rfl⟩,fun B m w vs r ha => ?_⟩
 obtain ⟨vs⟩ := vs
 cases ha with | cons a1 a2 => cases a2 with | cons a2 a3 => cases a3 with | cons a3 a4 => cases a4 with | cons a4 a5 =>
 cases a5
 cases a1 with | c a1 => cases a2 with | c a2 => cases a3 with | c a3 => cases a4 with | c a4 =>
 cases a1; cases a2; cases a3; cases a4
 refine (Zzt salt key info h1 h2 h3 w r.lib.w).mono ?_
 rintro e w' ⟨rfl,hb⟩
 exact ⟨_,⟨m.f,m.z⟩,rfl,St.ofBelow r hb (Or.inl rfl) (fun _ h => h) (fun _ h => .inl h),.c (.str _)⟩
end Go.Proofs.YticmfblfghdkbaaGreatDoor.Eng
