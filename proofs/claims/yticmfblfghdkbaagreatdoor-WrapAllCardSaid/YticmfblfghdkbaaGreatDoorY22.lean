/- Parts of this claim's proof, joined. No statement of the seat is proved here. -/
import Derived.Test.YticmfblfghdkbaaGreatDoorY21
set_option linter.unusedVariables false
set_option linter.unusedSimpArgs false
namespace Go.Proofs.YticmfblfghdkbaaGreatDoor.Eng
open Go Go.RowKit Go.Extern.Stop Go.Stop Go.Extern
theorem Zqi (v : Value) (w : World) : (Extern.ReflectliteType.typeOf #[.iface 190 v]).run Tryz.prog w = .ok (.iface 235 (.agg #[.pointer (some ⟨7,190,none⟩)])) w := by kernel_rfl
theorem Zlt (w : World) : (Extern.ReflectliteType.method cmpM #[.agg #[.pointer (some ⟨7,190,none⟩)]]).run Tryz.prog w = .ok (.bool true) w := by kernel_rfl
theorem Zbbp (a : ByteArray) (w : World) : (binOp .eql 98 (.iface 190 (.string a)) (.iface 190 (.string a))).run Tryz.prog w = .ok (.bool true) w := by
 rw [Zj9 w a a Tryz.underlying98 (by kernel_rfl) Tryz.underlying190,Z0b,decide_eq_true rfl]
theorem Zba6 {a b : ByteArray} (h : a ≠ b) (w : World) : (binOp .eql 98 (.iface 190 (.string a)) (.iface 190 (.string b))).run Tryz.prog w = .ok (.bool false) w := by
 rw [Zj9 w a b Tryz.underlying98 (by kernel_rfl) Tryz.underlying190,Z0b,decide_eq_false h]
theorem Zvm (v : Value) (xT : TypeId) (w : World) : (Instr.typeAssert (.iface 246 v) xT 237 true).run Tryz.prog w = .ok (.tuple #[.nilIface,.bool false]) w := run_typeAssert_lacksB Tryz.underlying237 (by kernel_rfl) (by kernel_rfl) v xT w
theorem Z6w (v : Value) (xT : TypeId) (w : World) : (Instr.typeAssert (.iface 190 v) xT 237 true).run Tryz.prog w = .ok (.tuple #[.nilIface,.bool false]) w := run_typeAssert_lacksB Tryz.underlying237 (by kernel_rfl) (by kernel_rfl) v xT w
theorem Z7w (v : Value) (xT : TypeId) (w : World) : (Instr.typeAssert (.iface 190 v) xT 240 true).run Tryz.prog w = .ok (.tuple #[.nilIface,.bool false]) w := run_typeAssert_lacksB Tryz.underlying240 (by kernel_rfl) (by kernel_rfl) v xT w
theorem Z5k (v : Value) (xT : TypeId) (w : World) : (Instr.typeAssert (.iface 190 v) xT 242 true).run Tryz.prog w = .ok (.tuple #[.nilIface,.bool false]) w := run_typeAssert_lacksB Tryz.underlying242 (by kernel_rfl) (by kernel_rfl) v xT w
theorem Zux (v : Value) (xT : TypeId) (w : World) : (Instr.typeAssert (.iface 246 v) xT 240 true).run Tryz.prog w = .ok (.tuple #[.iface 246 v,.bool true]) w := run_typeAssert_hasB Tryz.underlying240 (by kernel_rfl) v xT w
theorem Zqb (v : Value) (w : World) : (Go.method 437 246 v "Unwrap").run Tryz.prog w = .ok (284,v) w := by kernel_rfl
theorem Z4m (v : Value) (w : World) :
  Calls Tryz.prog 94 #[.nilIface,.iface 190 v] w fun e w' => e = .returned (.bool false) ∧ w' = w := by
 have hn := run_eql_iface_nil_left (P := Tryz.prog) w 190 v Tryz.underlying98
 go_enter Tryz.func94,Tryz.ntmps94
 go_wp2
 go_ret
 exact ⟨rfl,rfl⟩
theorem Z41 (x0 : Int) (a : ByteArray) (w : World) :
  Calls Tryz.prog 94 #[.iface 246 (.agg #[.int .i64 x0,.iface 190 (.string a)]),.iface 190 (.string a)] w fun e w' => e = .returned (.bool true) ∧ Below w.heap.size w w' ∧ w.drawn ≤ w'.drawn := by
 have h8 := @run_callFunc_extern Tryz.prog 139 _ Extern.ReflectliteType.typeOf Tryz.func139 (by kernel_rfl) (by kernel_rfl) (by kernel_rfl) (by kernel_rfl)
 have h32 := @run_callFunc_extern Tryz.prog 274 _ (Extern.ReflectliteType.method cmpM) Tryz.func274 (by kernel_rfl) (by kernel_rfl) (by kernel_rfl) (by kernel_rfl)
 have tT := Zqi
 have cT := Zlt
 have mR := Zgg
 have nE := Zvm
 have uW := Zux
 have mU := Zqb
 have heq := Zbbp a
 have hty := run_eql_iface_types (P := Tryz.prog) 246 190 (.agg #[.int .i64 x0,.iface 190 (.string a)]) (.string a) Tryz.underlying98 (by decide)
 go_enter Tryz.func94,Tryz.ntmps94
 go_wp2
 refine wp_loop_rounds 2 ?_
 rw [rounds_succ]
 go_wp2
 rw [rounds_succ]
 go_wp2
 go_ret
 exact ⟨rfl,(Below.refl _ w).alloc (Nat.le_refl _) _,Nat.le_refl _⟩
theorem Z2r (x0 : Int) {a b : ByteArray} (hab : a ≠ b) (w : World) :
  Calls Tryz.prog 94 #[.iface 246 (.agg #[.int .i64 x0,.iface 190 (.string a)]),.iface 190 (.string b)] w fun e w' => e = .returned (.bool false) ∧ Below w.heap.size w w' ∧ w.drawn ≤ w'.drawn := by
 have h8 := @run_callFunc_extern Tryz.prog 139 _ Extern.ReflectliteType.typeOf Tryz.func139 (by kernel_rfl) (by kernel_rfl) (by kernel_rfl) (by kernel_rfl)
 have h32 := @run_callFunc_extern Tryz.prog 274 _ (Extern.ReflectliteType.method cmpM) Tryz.func274 (by kernel_rfl) (by kernel_rfl) (by kernel_rfl) (by kernel_rfl)
 have tT := Zqi
 have cT := Zlt
 have mR := Zgg
 have nE := Zvm
 have nR := Z6w
 have uW := Zux
 have uR := Z7w
 have uS := Z5k
 have mU := Zqb
 have heq := Zba6 hab
 have hty := run_eql_iface_types (P := Tryz.prog) 246 190 (.agg #[.int .i64 x0,.iface 190 (.string a)]) (.string b) Tryz.underlying98 (by decide)
 go_enter Tryz.func94,Tryz.ntmps94
 go_wp2
 refine wp_loop_rounds 2 ?_
 rw [rounds_succ]
 go_wp2
 rw [rounds_succ]
 go_wp2
 go_ret
 exact ⟨rfl,(Below.refl _ w).alloc (Nat.le_refl _) _,Nat.le_refl _⟩
abbrev Zs5 (a : ByteArray) : Cell := .iface 190 false [.str a]
abbrev Zgq (x0 : Int) (a : ByteArray) : Cell := .iface 246 true [.int .i64 x0,Zs5 a]
theorem Zrk {m : LMap} {σ : Mem} {a : ByteArray} {v : Value} (h : VR m σ (Zs5 a) v) : v = .iface 190 (.string a) := by
 cases h with
 | ifaceC h => cases h; rfl
theorem Z98 {m : LMap} {σ : Mem} {x0 : Int} {a : ByteArray} {v : Value} (h : VR m σ (Zgq x0 a) v) : v = .iface 246 (.agg #[.int .i64 x0,.iface 190 (.string a)]) := by
 cases h with
 | ifaceA hl ha =>
  rename_i vs
  obtain ⟨vs⟩ := vs
  match vs,hl,ha with
  | [y0,y1],_,ha =>
   have h0 := ha 0 _ y0 rfl rfl
   have h1 := Zrk (ha 1 _ y1 rfl rfl)
   cases h0
   subst h1
   rfl
theorem Znh (a : ByteArray) : Pr 94 [.c .nilI,.c (Zs5 a)] (bC false) := by
 intro H
 refine ⟨⟨_,Tryz.func94,rfl,rfl⟩,fun B m w vs r ha => ?_⟩
 obtain ⟨vs⟩ := vs
 cases ha with
 | cons a1 a2 =>
  cases a2 with
  | cons a2 a3 =>
   cases a3
   cases a1 with
   | c a1 =>
    cases a1
    cases a2 with
    | c a2 =>
     obtain rfl := Zrk a2
     refine (Z4m _ w).mono ?_
     rintro e w' ⟨rfl,rfl⟩
     exact ⟨_,m,rfl,St.refl r,.c (.bool _)⟩
theorem Zkp (x0 : Int) (a b : ByteArray) : Pr 94 [.c (Zgq x0 a),.c (Zs5 b)] (bC (decide (a = b))) := by
 intro H
 refine ⟨⟨_,Tryz.func94,rfl,rfl⟩,fun B m w vs r ha => ?_⟩
 obtain ⟨vs⟩ := vs
 cases ha with
 | cons a1 a2 =>
  cases a2 with
  | cons a2 a3 =>
   cases a3
   cases a1 with
   | c a1 =>
    obtain rfl := Z98 a1
    cases a2 with
    | c a2 =>
     obtain rfl := Zrk a2
     by_cases hab : a = b
     ·subst hab
      rw [decide_eq_true rfl]
      refine (Z41 x0 a w).mono ?_
      rintro e w' ⟨rfl,hb,hd⟩
      exact ⟨_,⟨m.f,m.z⟩,rfl,St.ofBelow r hb (Or.inr hd) (fun _ h => h) (fun _ h => .inl h),.c (.bool _)⟩
     ·rw [decide_eq_false hab]
      refine (Z2r x0 hab w).mono ?_
      rintro e w' ⟨rfl,hb,hd⟩
      exact ⟨_,⟨m.f,m.z⟩,rfl,St.ofBelow r hb (Or.inr hd) (fun _ h => h) (fun _ h => .inl h),.c (.bool _)⟩
theorem Zgn {G : Prog} {p : Post} {k : List Itm} {e : Env} {H : Heap} {a b : ACode} {P : Env → Heap → Prop} (h1 : ∀ K : List Itm,(∀ e' H',P e' H' → Run G p K e' H') → Run G p (.code a :: K) e H) (h2 : ∀ e' H',P e' H' → Run G p (.code b :: k) e' H') : Run G p (.code (.seq a b) :: k) e H := by
 rw [Zw4]
 exact h1 _ h2
abbrev Zi0 : ByteArray := ⟨#[110,111,32,114,101,99,111,114,100]⟩
abbrev Zi3 : ByteArray := ⟨#[97,110,111,116,104,101,114,32,114,101,99,111,114,100,32,97,104,101,97,100]⟩
abbrev Zi6 : ByteArray := ⟨#[97,32,109,101,109,98,101,114,32,116,104,97,116,32,105,115,32,110,111,110,101,44,32,111,114,32,110,111,110,101,32,116,104,97,116,32,105,115,32,111,110,101]⟩
def c2B (done : List Rec) (r : Rec) : Bool := decide (r.seq = (done.length : Int) + 1) && decide (r.prev = Zbl done)
def c3B (ins : List Int) (done : List Rec) (r : Rec) : Bool := decide (done.length = 0) && (decide (r.kind ≠ 1) || decide (r.dev ≠ 0)) || decide (r.kind = 2) && decide (r.dev = 0) || (decide (r.dev ∈ ins) != decide (r.kind = 2))
def Zic (ins : List Int) (done : List Rec) (r : Rec) : AVal :=
 if Z9 r = false then .c (Zgq done.length Zi0)
 else if c2B done r = false then .c (Zgq done.length Zi3)
 else if c3B ins done r = true then .c (Zgq done.length Zi6)
 else .c .nilI
theorem Zxu {ins : List Int} {done : List Rec} {r : Rec} (h : Zn4 ins done r = true) : Zic ins done r = .c .nilI := by
 unfold Zn4 at h
 rw [show (decide (r.seq = (done.length : Int) + 1) && decide (r.prev = Zbl done)) = c2B done r from rfl] at h
 rw [show (decide (done.length = 0) && (decide (r.kind ≠ 1) || decide (r.dev ≠ 0)) || decide (r.kind = 2) && decide (r.dev = 0) || (decide (r.dev ∈ ins) != decide (r.kind = 2))) = c3B ins done r from rfl] at h
 simp only [Bool.and_eq_true,Bool.not_eq_true'] at h
 unfold Zic
 simp [h.1.1,h.1.2,h.2]
theorem Zx9 {ins : List Int} {done : List Rec} {r : Rec} (h : Zn4 ins done r = false) : ∃ a,(a = Zi0 ∨ a = Zi3 ∨ a = Zi6) ∧ Zic ins done r = .c (Zgq done.length a) := by
 unfold Zn4 at h
 rw [show (decide (r.seq = (done.length : Int) + 1) && decide (r.prev = Zbl done)) = c2B done r from rfl] at h
 rw [show (decide (done.length = 0) && (decide (r.kind ≠ 1) || decide (r.dev ≠ 0)) || decide (r.kind = 2) && decide (r.dev = 0) || (decide (r.dev ∈ ins) != decide (r.kind = 2))) = c3B ins done r from rfl] at h
 unfold Zic
 cases h1 : Z9 r with
 | false => exact ⟨Zi0,.inl rfl,by simp⟩
 | true =>
  cases h2 : c2B done r with
  | false => exact ⟨Zi3,.inr (.inl rfl),by simp⟩
  | true =>
   cases h3 : c3B ins done r with
   | true => exact ⟨Zi6,.inr (.inr rfl),by simp⟩
   | false => rw [h1,h2,h3] at h; cases h
set_option maxHeartbeats 2000000 in
theorem Zxg (done : List Rec) (r : Rec) (rest : List Rec) (ins : List Int) (hd : done.length ≤ 40) :
  Pr 141 [.c (Zw (done ++ r :: rest)),iC done.length,.c (Zfc ins)] (Zic ins done r) := by
 have hmay := Zkc r
 obtain ⟨v,hv⟩ : ∃ v,v = Zic ins done r := ⟨_,rfl⟩
 rw [← hv]
 have hcon := Zjd ins r.dev
 have hr : ((done ++ r :: rest).map Rec.cells)[done.length]? = some r.cells := Zb6 (f := Rec.cells) rfl
 have hprev : done ≠ [] → ∃ l : Rec,((done ++ r :: rest).map Rec.cells)[done.length - 1]? = some l.cells ∧ Zkv l = Zbl done := fun h => by
  have hl : 0 < done.length := List.length_pos_iff.2 h
  refine ⟨done[done.length - 1]'(by omega),?_,?_⟩
  ·rw [List.getElem?_map,List.getElem?_append_left (by omega),List.getElem?_eq_getElem (by omega)]
   rfl
  ·unfold Zbl
   rw [List.getLast?_eq_getElem?,List.getElem?_eq_getElem (by omega)]
 have hprev0 : done = [] → Zbl done = Z2 := fun h => by rw [h]; rfl
 obtain ⟨recs,hrecs⟩ : ∃ recs,recs = (done ++ r :: rest).map Rec.cells := ⟨_,rfl⟩
 have hrc : closedR recs = true := by rw [hrecs]; exact Z4 _
 have hR : Zw (done ++ r :: rest) = .lst 6 recs := by rw [hrecs]; rfl
 rw [hR]
 rw [← hrecs] at hr hprev
 clear hrecs hR
 have hcI : ∀ (n : Int) (a : ByteArray),Zc (Zgq n a) = true := fun _ _ => rfl
 refine Zl mixed Zxf (by simp [Zo,Zn,Zc,Zfc,hrc,Zgp]) fun hl T => ?_
 have hmd := Zsl (r := r)
 have hc2 : c2B done r = (decide (r.seq = (done.length : Int) + 1) && decide (r.prev = Zbl done)) := rfl
 have hc3 : c3B ins done r = (decide ((done.length : Int) = 0) && (decide (r.kind ≠ 1) || decide (r.dev ≠ 0)) || decide (r.kind = 2) && decide (r.dev = 0) || (decide (r.dev ∈ ins) != decide (r.kind = 2))) := by
  unfold c3B
  simp only [Int.natCast_eq_zero]
 have hv' : v = if Z9 r = false then .c (Zgq done.length Zi0) else if c2B done r = false then .c (Zgq done.length Zi3) else if c3B ins done r = true then .c (Zgq done.length Zi6) else .c .nilI := hv
 rw [hc2,hc3] at hv'
 clear hv hc2 hc3
 have hw1 : IntKind.wrap .i64 ((done.length : Int) - 1) = (done.length : Int) - 1 := Zr (by omega)
 have hw2 : IntKind.wrap .i64 ((done.length : Int) + 1) = (done.length : Int) + 1 := Zr (by omega)
 generalize Zbl done = pv at hprev hprev0 hv'
 generalize Z9 r = mb at hmay hmd hv'
 obtain ⟨seq,prev,kind,dv,wraps,tag⟩ := r
 simp only at hcon hmd hv'
 generalize decide (dv ∈ ins) = ib at hcon hv'
 simp only [Rec.cells] at hr hmay
 generalize Zx wraps = W at hr hmay
 generalize Zfc ins = I at hcon ⊢
 obtain ⟨row,hrow⟩ : ∃ row : List Cell,row = [.int .i64 seq,.str prev,.int .i64 kind,.int .i64 dv,W,.str tag] := ⟨_,rfl⟩
 unfold Zpi
 refine Zgn (P := fun e H => e 0 = .c (.lst 6 recs) ∧ e 1 = iC done.length ∧ e 2 = .c I ∧ H = []) (fun K hK => ?_) fun e H ⟨h0,h1,h2,hH⟩ => ?_
 ·simp only [go_sem,simprocAttr]
  refine hK _ _ ⟨?_,?_,?_,rfl⟩ <;> simp only [go_sem,simprocAttr]
 refine Zgn (P := fun e H => e 0 = .c (.lst 6 recs) ∧ e 1 = iC done.length ∧ e 2 = .c I ∧ e 7 = .c (.ptr 0 0 0) ∧ H = [{ sz := 6,rows := [row],own := true,live := true }]) (fun K hK => ?_) fun e H ⟨h0,h1,h2,h7,hH⟩ => ?_
 ·subst hH
  simp only [go_sem,simprocAttr,h0,h1,hr]
  refine hK _ _ ⟨?_,?_,?_,?_,by rw [hrow]⟩ <;> simp only [go_sem,simprocAttr,h0,h1,h2]
 refine Zgn (P := fun e H => e 0 = .c (.lst 6 recs) ∧ e 1 = iC done.length ∧ e 2 = .c I ∧ e 7 = .c (.ptr 0 0 0) ∧ e 8 = sC Z2 ∧ H = [{ sz := 6,rows := [row],own := true,live := true }]) (fun K hK => ?_) fun e H ⟨h0,h1,h2,h7,h8,hH⟩ => ?_
 ·simp only [go_sem,simprocAttr]
  refine hK _ _ ⟨?_,?_,?_,?_,?_,hH⟩ <;> simp only [go_sem,simprocAttr,h0,h1,h2,h7]
 refine Zgn (P := fun e H => e 0 = .c (.lst 6 recs) ∧ e 1 = iC done.length ∧ e 2 = .c I ∧ e 7 = .c (.ptr 0 0 0) ∧ e 8 = sC pv ∧ H = [{ sz := 6,rows := [row],own := true,live := true }]) (fun K hK => ?_) fun e H ⟨h0,h1,h2,h7,h8,hH⟩ => ?_
 ·by_cases hz : done = []
  ·have hpos : ¬ ((0 : Int) < (done.length : Int)) := by rw [hz]; simp
   simp only [go_sem,simprocAttr,h0,h1,hpos]
   rw [hprev0 hz] at hK
   refine hK _ _ ⟨?_,?_,?_,?_,?_,hH⟩ <;> simp only [go_sem,simprocAttr,h0,h1,h2,h7,h8]
  ·obtain ⟨l,hl1,hl2⟩ := hprev hz
   have hpos : (0 : Int) < (done.length : Int) := by have := List.length_pos_iff.2 hz; omega
   have hti : ((done.length : Int) - 1).toNat = done.length - 1 := by omega
   have hge : (0 : Int) ≤ (done.length : Int) - 1 := by omega
   have hhash := Zsr l
   rw [hl2] at hhash
   have hlen6 : ∀ l : Rec,l.cells.length = 6 := fun _ => rfl
   have htk6 : ∀ l : Rec,l.cells.take 6 = l.cells := fun _ => rfl
   have hix : ∀ H : Heap,vIx 6 (.c (.lst 6 recs)) (iC ((done.length : Int) - 1)) H = some (.c (.fp l.cells 0),H) := fun H => by
    simp only [vIx]
    rw [if_pos ⟨trivial,hge⟩,hti,hl1]
   simp only [go_sem,simprocAttr,h0,h1,hpos,hw1,hix,hlen6,htk6]
   refine Za hhash ?_
   simp only [go_sem,simprocAttr]
   refine hK _ _ ⟨?_,?_,?_,?_,?_,hH⟩ <;> simp only [go_sem,simprocAttr,h0,h1,h2,h7,h8]
 refine Zgn (P := fun e H => e 0 = .c (.lst 6 recs) ∧ e 1 = iC done.length ∧ e 2 = .c I ∧ e 7 = .c (.ptr 0 0 0) ∧ e 8 = sC pv ∧ e 9 = bC ib ∧ H = [{ sz := 6,rows := [row],own := true,live := true }]) (fun K hK => ?_) fun e H ⟨h0,h1,h2,h7,h8,h9,hH⟩ => ?_
 ·have hHH := hH
  rw [hrow] at hHH
  subst hHH
  simp only [go_sem,simprocAttr,h2,h7]
  refine Za hcon ?_
  simp only [go_sem,simprocAttr]
  refine hK _ _ ⟨?_,?_,?_,?_,?_,?_,hH⟩ <;> simp only [go_sem,simprocAttr,h0,h1,h2,h7,h8]
 rw [hrow] at hH
 subst hH
 cases mb with
 | false =>
  simp only [go_sem,simprocAttr,h1,h7]
  refine Za hmay ?_
  simp only [go_sem,simprocAttr,h1]
  simp [Zf,Ze,Zi,Zg,Zh,Zd,Zc,Zb,hv']
 | true =>
  obtain ⟨hkind,hdv0,hdv8⟩ := hmd rfl
  by_cases s1 : seq = (done.length : Int) + 1
  ·by_cases s2 : prev = pv
   ·have b1 : (true != false) = true := rfl
    have b2 : (false != true) = true := rfl
    have b3 : (true != true) = false := rfl
    have b4 : (false != false) = false := rfl
    have q21 : ¬ ((2 : Int) = 1) := by omega
    have q12 : ¬ ((1 : Int) = 2) := by omega
    by_cases i0 : (done.length : Int) = 0
    ·have i1 := eq_true i0
     have i2 : (done = []) = True := eq_true (List.eq_nil_of_length_eq_zero (by omega))
     rcases hkind with k1 | k1
     ·by_cases d0 : dv = 0
      ·cases ib with
       | false =>
        simp only [go_sem,simprocAttr,h1,h7]
        refine Za hmay ?_
        simp only [go_sem,simprocAttr,h1,h7,h8,h9,hw2,s1,s2,i1,k1,d0,b1,b2,b3,b4,q21,q12]
        simp [Zf,Ze,Zi,Zg,Zh,Zd,Zc,Zb,hv',s1,s2,i1,i2,k1,d0,b1,b2,b3,b4,q21,q12]
       | true =>
        simp only [go_sem,simprocAttr,h1,h7]
        refine Za hmay ?_
        simp only [go_sem,simprocAttr,h1,h7,h8,h9,hw2,s1,s2,i1,k1,d0,b1,b2,b3,b4,q21,q12]
        simp [Zf,Ze,Zi,Zg,Zh,Zd,Zc,Zb,hv',s1,s2,i1,i2,k1,d0,b1,b2,b3,b4,q21,q12]
      ·cases ib with
       | false =>
        simp only [go_sem,simprocAttr,h1,h7]
        refine Za hmay ?_
        simp only [go_sem,simprocAttr,h1,h7,h8,h9,hw2,s1,s2,i1,k1,d0,b1,b2,b3,b4,q21,q12]
        simp [Zf,Ze,Zi,Zg,Zh,Zd,Zc,Zb,hv',s1,s2,i1,i2,k1,d0,b1,b2,b3,b4,q21,q12]
       | true =>
        simp only [go_sem,simprocAttr,h1,h7]
        refine Za hmay ?_
        simp only [go_sem,simprocAttr,h1,h7,h8,h9,hw2,s1,s2,i1,k1,d0,b1,b2,b3,b4,q21,q12]
        simp [Zf,Ze,Zi,Zg,Zh,Zd,Zc,Zb,hv',s1,s2,i1,i2,k1,d0,b1,b2,b3,b4,q21,q12]
     ·by_cases d0 : dv = 0
      ·cases ib with
       | false =>
        simp only [go_sem,simprocAttr,h1,h7]
        refine Za hmay ?_
        simp only [go_sem,simprocAttr,h1,h7,h8,h9,hw2,s1,s2,i1,k1,d0,b1,b2,b3,b4,q21,q12]
        simp [Zf,Ze,Zi,Zg,Zh,Zd,Zc,Zb,hv',s1,s2,i1,i2,k1,d0,b1,b2,b3,b4,q21,q12]
       | true =>
        simp only [go_sem,simprocAttr,h1,h7]
        refine Za hmay ?_
        simp only [go_sem,simprocAttr,h1,h7,h8,h9,hw2,s1,s2,i1,k1,d0,b1,b2,b3,b4,q21,q12]
        simp [Zf,Ze,Zi,Zg,Zh,Zd,Zc,Zb,hv',s1,s2,i1,i2,k1,d0,b1,b2,b3,b4,q21,q12]
      ·cases ib with
       | false =>
        simp only [go_sem,simprocAttr,h1,h7]
        refine Za hmay ?_
        simp only [go_sem,simprocAttr,h1,h7,h8,h9,hw2,s1,s2,i1,k1,d0,b1,b2,b3,b4,q21,q12]
        simp [Zf,Ze,Zi,Zg,Zh,Zd,Zc,Zb,hv',s1,s2,i1,i2,k1,d0,b1,b2,b3,b4,q21,q12]
       | true =>
        simp only [go_sem,simprocAttr,h1,h7]
        refine Za hmay ?_
        simp only [go_sem,simprocAttr,h1,h7,h8,h9,hw2,s1,s2,i1,k1,d0,b1,b2,b3,b4,q21,q12]
        simp [Zf,Ze,Zi,Zg,Zh,Zd,Zc,Zb,hv',s1,s2,i1,i2,k1,d0,b1,b2,b3,b4,q21,q12]
    ·have i1 := eq_false i0
     have i2 : (done = []) = False := eq_false (fun h => i0 (by rw [h]; rfl))
     rcases hkind with k1 | k1
     ·by_cases d0 : dv = 0
      ·cases ib with
       | false =>
        simp only [go_sem,simprocAttr,h1,h7]
        refine Za hmay ?_
        simp only [go_sem,simprocAttr,h1,h7,h8,h9,hw2,s1,s2,i1,k1,d0,b1,b2,b3,b4,q21,q12]
        simp [Zf,Ze,Zi,Zg,Zh,Zd,Zc,Zb,hv',s1,s2,i1,i2,k1,d0,b1,b2,b3,b4,q21,q12]
       | true =>
        simp only [go_sem,simprocAttr,h1,h7]
        refine Za hmay ?_
        simp only [go_sem,simprocAttr,h1,h7,h8,h9,hw2,s1,s2,i1,k1,d0,b1,b2,b3,b4,q21,q12]
        simp [Zf,Ze,Zi,Zg,Zh,Zd,Zc,Zb,hv',s1,s2,i1,i2,k1,d0,b1,b2,b3,b4,q21,q12]
      ·cases ib with
       | false =>
        simp only [go_sem,simprocAttr,h1,h7]
        refine Za hmay ?_
        simp only [go_sem,simprocAttr,h1,h7,h8,h9,hw2,s1,s2,i1,k1,d0,b1,b2,b3,b4,q21,q12]
        simp [Zf,Ze,Zi,Zg,Zh,Zd,Zc,Zb,hv',s1,s2,i1,i2,k1,d0,b1,b2,b3,b4,q21,q12]
       | true =>
        simp only [go_sem,simprocAttr,h1,h7]
        refine Za hmay ?_
        simp only [go_sem,simprocAttr,h1,h7,h8,h9,hw2,s1,s2,i1,k1,d0,b1,b2,b3,b4,q21,q12]
        simp [Zf,Ze,Zi,Zg,Zh,Zd,Zc,Zb,hv',s1,s2,i1,i2,k1,d0,b1,b2,b3,b4,q21,q12]
     ·by_cases d0 : dv = 0
      ·cases ib with
       | false =>
        simp only [go_sem,simprocAttr,h1,h7]
        refine Za hmay ?_
        simp only [go_sem,simprocAttr,h1,h7,h8,h9,hw2,s1,s2,i1,k1,d0,b1,b2,b3,b4,q21,q12]
        simp [Zf,Ze,Zi,Zg,Zh,Zd,Zc,Zb,hv',s1,s2,i1,i2,k1,d0,b1,b2,b3,b4,q21,q12]
       | true =>
        simp only [go_sem,simprocAttr,h1,h7]
        refine Za hmay ?_
        simp only [go_sem,simprocAttr,h1,h7,h8,h9,hw2,s1,s2,i1,k1,d0,b1,b2,b3,b4,q21,q12]
        simp [Zf,Ze,Zi,Zg,Zh,Zd,Zc,Zb,hv',s1,s2,i1,i2,k1,d0,b1,b2,b3,b4,q21,q12]
      ·cases ib with
       | false =>
        simp only [go_sem,simprocAttr,h1,h7]
        refine Za hmay ?_
        simp only [go_sem,simprocAttr,h1,h7,h8,h9,hw2,s1,s2,i1,k1,d0,b1,b2,b3,b4,q21,q12]
        simp [Zf,Ze,Zi,Zg,Zh,Zd,Zc,Zb,hv',s1,s2,i1,i2,k1,d0,b1,b2,b3,b4,q21,q12]
       | true =>
        simp only [go_sem,simprocAttr,h1,h7]
        refine Za hmay ?_
        simp only [go_sem,simprocAttr,h1,h7,h8,h9,hw2,s1,s2,i1,k1,d0,b1,b2,b3,b4,q21,q12]
        simp [Zf,Ze,Zi,Zg,Zh,Zd,Zc,Zb,hv',s1,s2,i1,i2,k1,d0,b1,b2,b3,b4,q21,q12]
   ·simp only [go_sem,simprocAttr,h1,h7]
    refine Za hmay ?_
    simp only [go_sem,simprocAttr,h1,h7,h8,hw2,s1,s2]
    simp [Zf,Ze,Zi,Zg,Zh,Zd,Zc,Zb,hv',s1,s2]
  ·simp only [go_sem,simprocAttr,h1,h7]
   refine Za hmay ?_
   simp only [go_sem,simprocAttr,h1,h7,hw2,s1]
   simp [Zf,Ze,Zi,Zg,Zh,Zd,Zc,Zb,hv',s1]
theorem Zbme {G : Prog} {p : Post} {k : List Itm} {e : Env} {H : Heap} {c : ACode} {t s b sz q : Nat} {row : List Cell} {rows : List (List Cell)} (ht : e t = .c (.ptr b 0 0)) (hb : H[b]? = some { sz := sz,rows := [row],own := true,live := true }) (ha : Acc q rows (e s) H) (hn : NB (e s) b)
  (hw : ∀ e' H',e' t = .c (.fp row 0) → (∀ u v,e u = v → Zn v = true → e' u = v) → Acc q rows (e' s) H' → Run G p (.code c :: k) e' H') : Run G p (.code (.fz t c) :: k) e H := by
 refine Z12 ⟨b,_,by rw [ht]; rfl,hb,rfl,rfl,hw _ _ ?_ (fun u v hv hc => ?_) ?_⟩
 ·rw [Zet,ht,Zg6,Zss rfl]
 ·rw [Zet,hv,Zgm hc]
 ·rcases ha with ⟨h0,hv⟩ | ⟨b',ext,h1,h2⟩
  ·refine .inl ⟨h0,?_⟩
   rw [Zet]
   rcases hv with hv | hv
   ·left; rw [hv]; exact Zgm rfl
   ·right; rw [hv]; exact Zgm rfl
  ·have hne : b' ≠ b := fun h => by subst h; exact hn _ _ _ _ h1
   refine .inr ⟨b',ext,?_,Z8i h2 hne⟩
   rw [Zet,h1,Zg6]
   simp [Cell.frz,hne]
theorem Zxl (r : Rec) (n : Int) : Pr 143 [iC n,.c (.fp r.cells 0)] (bC (decide (n = r.dev))) := by
 have hcl := Rec.closed r
 refine Zl mixed Zxh (by simp [Zo,Zn,Zc,hcl]) fun hl T => ?_
 unfold Zpb
 obtain ⟨seq,prev,kind,dv,wraps,tag⟩ := r
 simp only [Rec.cells]
 by_cases h : n = dv
 ·simp only [go_sem,simprocAttr,h]
  simp [Zf,Ze,Zi,Zg,Zh,Zd,Zc,Zb]
 ·simp only [go_sem,simprocAttr,h]
  simp [Zf,Ze,Zi,Zg,Zh,Zd,Zc,Zb,h]
theorem Z47 (ins : List Int) (done : List Rec) (r : Rec) : Zlo (Zic ins done r) = true := by
 cases h : Zn4 ins done r with
 | true => rw [Zxu h]; rfl
 | false => obtain ⟨a,_,h⟩ := Zx9 h; rw [h]; rfl
theorem Zbfe (ins : List Int) (d : Int) : (ins.filter fun f => !decide (f = d)) = ins.filter fun n => decide (n ≠ d) := by
 refine List.filter_congr fun x _ => ?_
 by_cases h : x = d <;> simp [h]
set_option maxHeartbeats 2000000 in
theorem Zln (log : List Rec) : Pr 96 [.c (Zw log)] (bC (Zcx log)) := by
 refine Zl mixed Z10 (by simp [Zo,Zn,Zc,Zw,Z4]) fun hl T => ?_
 have hlen : log.length ≤ maxLen := by simp [Zd7,lenA,lenC,Zw] at hl; exact hl
 unfold Zsc
 obtain ⟨v,hv⟩ : ∃ v,v = Zcx log := ⟨_,rfl⟩
 rw [← hv]
 unfold Zcx at hv
 have hml : (log.map Rec.cells).length = log.length := by simp
 by_cases h40 : log.length ≤ 40
 ·have h40' : ¬ ((40 : Int) < (log.length : Int)) := by omega
  rw [decide_eq_true h40,Bool.true_and] at hv
  have hrc : closedR (log.map Rec.cells) = true := Z4 log
  have loop : ∀ (rest done : List Rec) (ins : List Int) (e : Env) (H : Heap),log = done ++ rest → InsOk ins done → chk [] done = true → ins.length ≤ done.length → e 0 = .c (.lst 6 (log.map Rec.cells)) → e 10 = .c (.lst 6 (log.map Rec.cells)) → e 11 = iC (log.map Rec.cells).length → e 12 = iC done.length → Acc 1 (ins.map iRow) (e 3) H → v = chk done rest →
    Run (Zu Tryz.prog T) ⟨[.tmp 2],fun u E => Zf E u = some (bC v)⟩ [.loop Zh6,.blk 0,.code Zll] e H := by
   intro rest
   induction rest with
   | nil =>
    intro done ins e H hp hi hcd hil h0 h10 h11 h12 ha hvv
    have hc := Zcf (f := Rec.cells) hp
    refine Zj ?_
    conv => enter [3,1]; unfold Zh6
    simp only [go_sem,simprocAttr,h11,h12,hc]
    unfold Zll
    simp only [go_sem,simprocAttr]
    simp only [chk] at hvv
    simp [Zf,Ze,Zi,Zg,Zh,Zd,Zc,Zb,hvv]
   | cons r rest ih =>
    intro done ins e H hp hi hcd hil h0 h10 h11 h12 ha hvv
    have hc := Zer (f := Rec.cells) hp
    have hr := Zb6 (f := Rec.cells) hp
    have hn := Zbt hp hlen
    have hdl : done.length ≤ 40 := by rw [hp] at h40; simp at h40; omega
    have hch := Zxg done r rest ins hdl
    rw [← hp] at hch
    obtain ⟨vi,hvi,hwi⟩ := (ha.snoc (k := { sz := 6,rows := [r.cells],own := true,live := true })).told (Zgp ins)
    have hch2 : Pr 141 [.c (.lst 6 (log.map Rec.cells)),iC done.length,vi] (Zic ins done r) := hch.wk (.cons (.same _) (.cons (.same _) (.cons hwi .nil)))
    have hva : Zd (H ++ [{ sz := 6,rows := [r.cells],own := true,live := true }]) ([.c (.lst 6 (log.map Rec.cells)),iC done.length,e 3] ++ List.map AVal.c []) = some [.c (.lst 6 (log.map Rec.cells)),iC done.length,vi] := by
     simp [Zd,Zf,Ze,Zi,Zc,hrc,hvi]
    obtain ⟨G,hG⟩ : ∃ G : Heap,G = H ++ [{ sz := 6,rows := [r.cells],own := true,live := true }] := ⟨_,rfl⟩
    have gl : G[H.length]? = some { sz := 6,rows := [r.cells],own := true,live := true } := by rw [hG]; exact Zl1
    have haG : Acc 1 (ins.map iRow) (e 3) G := by rw [hG]; exact ha.snoc
    have hnb : NB (e 3) H.length := ha.nb_ge (Nat.le_refl _)
    rw [← hG] at hva
    have hst := Zbid hi r
    have hlen6 : r.cells.length = 6 := rfl
    have htk6 : r.cells.take 6 = r.cells := rfl
    have hdr6 : r.cells.drop 6 = [] := rfl
    have hpl := Z47 ins done r
    refine Zj ?_
    conv => enter [3,1]; unfold Zh6
    simp only [go_sem,simprocAttr,h0,h10,h11,h12,hc,hr,hlen6,htk6,hdr6]
    rw [← hG]
    refine Zfb hch2 hva hpl ?_
    have hrow : Heap.row G H.length 0 = some r.cells := Zp gl
    have hkk : r.cells = [.int .i64 r.seq,.str r.prev,.int .i64 r.kind,.int .i64 r.dev,Zx r.wraps,.str r.tag] := rfl
    have chk1 : chk done (r :: rest) = (Zfp done r && chk (done ++ [r]) rest) := rfl
    rw [chk1] at hvv
    cases hs : Zn4 ins done r with
    | false =>
     rw [← hst,hs,Bool.false_and] at hvv
     obtain ⟨a,hA,hca⟩ := Zx9 hs
     rw [hca]
     have d11 : decide (Zi0 = Zi0) = true := decide_eq_true rfl
     have d21 : decide (Zi3 = Zi0) = false := by decide
     have d31 : decide (Zi6 = Zi0) = false := by decide
     have d22 : decide (Zi3 = Zi3) = true := decide_eq_true rfl
     have d32 : decide (Zi6 = Zi3) = false := by decide
     have d33 : decide (Zi6 = Zi6) = true := decide_eq_true rfl
     rcases hA with rfl | rfl | rfl
     ·have q1 := Zkp done.length Zi0 Zi0
      rw [d11] at q1
      simp only [go_sem,simprocAttr]
      refine Za q1 ?_
      simp only [go_sem,simprocAttr]
      simp [Zf,Ze,Zi,Zg,Zh,Zd,Zc,Zb,hvv]
     ·have q1 := Zkp done.length Zi3 Zi0
      have q2 := Zkp done.length Zi3 Zi3
      rw [d21] at q1
      rw [d22] at q2
      simp only [go_sem,simprocAttr]
      refine Za q1 ?_
      simp only [go_sem,simprocAttr]
      refine Za q2 ?_
      simp only [go_sem,simprocAttr]
      simp [Zf,Ze,Zi,Zg,Zh,Zd,Zc,Zb,hvv]
     ·have q1 := Zkp done.length Zi6 Zi0
      have q2 := Zkp done.length Zi6 Zi3
      have q3 := Zkp done.length Zi6 Zi6
      rw [d31] at q1
      rw [d32] at q2
      rw [d33] at q3
      simp only [go_sem,simprocAttr]
      refine Za q1 ?_
      simp only [go_sem,simprocAttr]
      refine Za q2 ?_
      simp only [go_sem,simprocAttr]
      refine Za q3 ?_
      simp only [go_sem,simprocAttr]
      simp [Zf,Ze,Zi,Zg,Zh,Zd,Zc,Zb,hvv]
    | true =>
     have hok : Zfp done r = true := by rw [← hst,hs]
     rw [hok,Bool.true_and] at hvv
     rw [Zxu hs]
     have hcd' : chk [] (done ++ [r]) = true := by rw [Z78,hcd,List.nil_append,hok]; rfl
     have hin := hi.next hcd hok
     simp only [go_sem,simprocAttr]
     refine Za (Znh Zi0) ?_
     simp only [go_sem,simprocAttr]
     refine Za (Znh Zi3) ?_
     simp only [go_sem,simprocAttr]
     refine Za (Znh Zi6) ?_
     have f2 : r.cells[2]? = some (.int .i64 r.kind) := rfl
     have f3 : r.cells[3]? = some (.int .i64 r.dev) := rfl
     have hdl1 : (done ++ [r]).length = done.length + 1 := by simp
     have hp' : log = (done ++ [r]) ++ rest := by rw [hp]; simp
     unfold Z2i at hin
     by_cases hk : r.kind = 1
     ·rw [if_pos hk] at hin
      rw [hk] at f2
      simp only [go_sem,simprocAttr,hrow,f2,f3,h12,hn]
      refine Acc.app_step haG (by simp; omega) fun v' H' ha' => ?_
      simp only [go_sem,simprocAttr,h12,hn]
      refine ih (done ++ [r]) (ins ++ [r.dev]) _ _ hp' hin hcd' (by simp; omega) ?_ ?_ ?_ ?_ ?_ hvv
      ·simp only [go_sem,simprocAttr,h0]
      ·simp only [go_sem,simprocAttr,h10]
      ·simp only [go_sem,simprocAttr,h11]
      ·simp only [go_sem,simprocAttr,hn]
      ·simp only [go_sem,simprocAttr]
       rw [List.map_append]
       exact ha'
     ·rw [if_neg hk] at hin
      simp only [go_sem,simprocAttr,hrow,f2,f3,hk]
      have hne : ins.map iRow ≠ [] := by
       intro h
       have h1 : ins = [] := by simpa using h
       have h2 : r.kind = 2 := ((Zsl (by unfold Zfp at hok; simp only [Bool.and_eq_true] at hok; exact hok.1.1.1.1)).1).resolve_left hk
       unfold Zn4 at hs
       rw [h1,h2] at hs
       simp at hs
      refine Zbme (s := 3) (b := H.length) (sz := 6) (row := r.cells) (rows := ins.map iRow) (q := 1) (by simp only [go_sem,simprocAttr]) gl (by simp only [go_sem,simprocAttr]; exact haG) (by simp only [go_sem,simprocAttr]; exact hnb) fun e' H' k5 kc k3 => ?_
      have g0 := kc 0 (.c (.lst 6 (log.map Rec.cells))) (by simp only [go_sem,simprocAttr,h0]) hrc
      have g10 := kc 10 (.c (.lst 6 (log.map Rec.cells))) (by simp only [go_sem,simprocAttr,h10]) hrc
      have g11 := kc 11 (iC (log.map Rec.cells).length) (by simp only [go_sem,simprocAttr,h11]) rfl
      have g12 := kc 12 (iC done.length) (by simp only [go_sem,simprocAttr,h12]) rfl
      obtain ⟨b,ext,hb1,hb2,hb3⟩ := k3.slc hne
      have hil' : (ins.map iRow).length = ins.length := by simp
      rw [hil'] at hb1
      obtain ⟨v',H'',hcs,hac⟩ := Zl0 mixed Znx (args := [.c (.slc b 0 ins.length 1 false),.c (.fn 143 [.fp r.cells 0])]) (H := H') (R := fun v' G' => Acc 1 ((ins.filter fun f => !decide (f = r.dev)).map iRow) v' G') fun T =>
       Zna ins ext b 143 [.fp r.cells 0] (fun f => decide (f = r.dev)) (by simp [Zb,Zc,Rec.closed r]) (by omega) (fun f => Zxl r f) hb3 T _ fun v G h => h
      rw [Zbfe] at hac
      simp only [go_sem,simprocAttr,k5,hb1]
      refine Z0 hcs (fun h => by cases h) ?_
      simp only [go_sem,simprocAttr,g12,hn]
      refine ih (done ++ [r]) (ins.filter fun n => decide (n ≠ r.dev)) _ _ hp' hin hcd' (by have := List.length_filter_le (fun n => decide (n ≠ r.dev)) ins; rw [hdl1]; omega) ?_ ?_ ?_ ?_ ?_ hvv
      ·simp only [go_sem,simprocAttr,g0]
      ·simp only [go_sem,simprocAttr,g10]
      ·simp only [go_sem,simprocAttr,g11]
      ·simp only [go_sem,simprocAttr,hn]
      ·simp only [go_sem,simprocAttr]
       exact hac
  simp only [go_sem,simprocAttr,Zw,hml,h40']
  refine loop log [] [] _ _ rfl InsOk.nil rfl (Nat.le_refl _) ?_ ?_ ?_ ?_ ?_ hv
  ·simp only [go_sem,simprocAttr]
  ·simp only [go_sem,simprocAttr]
  ·simp only [go_sem,simprocAttr,hml]
  ·simp only [go_sem,simprocAttr,List.length_nil,Int.natCast_zero]
  ·simp only [go_sem,simprocAttr]; exact .nil
 ·have h40' : (40 : Int) < (log.length : Int) := by omega
  rw [decide_eq_false h40,Bool.false_and] at hv
  simp only [go_sem,simprocAttr,Zw,hml,h40']
  simp [Zf,Ze,Zi,Zg,Zh,Zd,Zc,Zb,hv]
theorem Zbg9 {sz n : Nat} {rows : List (List Cell)} (h : n ≤ rows.length) (t : Nat) (e : Env) (H : Heap) (ht : e t = iC n) : vSl sz (.c (.lst sz rows)) e none (some (.t t)) none H = some (.c (.lst sz (rows.take n)),H) := by
 simp [vSl,Z5,evSl,Zb5,Zj2,Opd.ev,ht,Zcg,h]
set_option maxHeartbeats 4000000 in
theorem Zpk (log : List Rec) : Pr 20 [.c (Zw log)] (bC (Zcx log)) := by
 refine Zl mixed Z7y (by simp [Zo,Zn,Zc,Zw,Z4]) fun hl T => ?_
 have hlen : log.length ≤ maxLen := by simp [Zd7,lenA,lenC,Zw] at hl; exact hl
 unfold Zxx
 obtain ⟨v,hv⟩ : ∃ v,v = Zcx log := ⟨_,rfl⟩
 rw [← hv]
 unfold Zcx at hv
 have hml : (log.map Rec.cells).length = log.length := by simp
 by_cases h40 : log.length ≤ 40
 ·have h40' : ¬ ((40 : Int) < (log.length : Int)) := by omega
  rw [decide_eq_true h40,Bool.true_and] at hv
  have hrc : closedR (log.map Rec.cells) = true := Z4 log
  have loop : ∀ (rest done : List Rec) (e : Env) (H : Heap),log = done ++ rest → e 0 = .c (.lst 6 (log.map Rec.cells)) → e 3 = sC (Zbl done) → e 4 = iC done.length → v = chk done rest →
    Run (Zu Tryz.prog T) ⟨[.tmp 2],fun u E => Zf E u = some (bC v)⟩ [.loop Zig,.blk 0,.code Zlp] e H := by
   intro rest
   induction rest with
   | nil =>
    intro done e H hp h0 h3 h4 hvv
    have hc := Zcf (f := Rec.cells) hp
    refine Zj ?_
    conv => enter [3,1]; unfold Zig
    simp only [go_sem,simprocAttr,h0,h4,hc]
    unfold Zlp
    simp only [go_sem,simprocAttr]
    simp only [chk] at hvv
    simp [Zf,Ze,Zi,Zg,Zh,Zd,Zc,Zb,hvv]
   | cons r rest ih =>
    intro done e H hp h0 h3 h4 hvv
    have hc := Zer (f := Rec.cells) hp
    have hr := Zb6 (f := Rec.cells) hp
    have hdl : done.length ≤ 40 := by rw [hp] at h40; simp at h40; omega
    have hn : IntKind.wrap .i64 ((done.length : Int) + 1) = (done.length : Int) + 1 := Zr (by omega)
    have hnn : (done.length : Int) + 1 = ((done.length + 1 : Nat) : Int) := by omega
    have hmay := Zhb r
    have hhash := Zya r
    have hin := Zqr done done.length r.dev
    have htk : (log.map Rec.cells).take done.length = done.map Rec.cells := by rw [hp,List.map_append,List.take_append_of_le_length (by simp),List.take_of_length_le (by simp)]
    have hsl := Zbg9 (sz := 6) (n := done.length) (rows := log.map Rec.cells) (by rw [hp]; simp) 51
    rw [htk] at hsl
    have hpn : Zbl (done ++ [r]) = Zkv r := by unfold Zbl; simp
    have chk1 : chk done (r :: rest) = (Zfp done r && chk (done ++ [r]) rest) := rfl
    rw [chk1] at hvv
    have go : ∀ (e' : Env) (H' : Heap),Zfp done r = true → e' 0 = .c (.lst 6 (log.map Rec.cells)) → e' 3 = sC (Zkv r) → e' 4 = iC ((done.length : Int) + 1) → Run (Zu Tryz.prog T) ⟨[.tmp 2],fun u E => Zf E u = some (bC v)⟩ [.loop Zig,.blk 0,.code Zlp] e' H' := fun e' H' hs g0 g3 g4 => by
     rw [hs,Bool.true_and] at hvv
     exact ih (done ++ [r]) e' H' (by rw [hp]; simp) g0 (by rw [hpn]; exact g3) (by rw [g4]; simp) hvv
    have hno : Zfp done r = false → v = false := fun h => by rw [hvv,h]; rfl
    clear hvv chk1 ih
    have hmd := Zsl (r := r)
    have hst : Zfp done r = (Z9 r && decide (r.seq = (done.length : Int) + 1) && decide (r.prev = Zbl done) && !(decide ((done.length : Int) = 0) && (decide (r.kind ≠ 1) || decide (r.dev ≠ 0))) &&
  !(decide (r.kind = 1) && memL done done.length r.dev || decide (r.kind = 2) && (!memL done done.length r.dev || decide (r.dev = 0)))) := by
     unfold Zfp
     simp only [Int.natCast_eq_zero]
    rw [hst] at go hno
    clear hst
    generalize Zbl done = pv at h3 go hno
    generalize Zkv r = hh at hhash go
    generalize Z9 r = mb at hmay hmd go hno
    obtain ⟨seq,prev,kind,dv,wraps,tag⟩ := r
    simp only at hin hmd go hno
    generalize memL done done.length dv = ib at hin go hno
    simp only [Rec.cells] at hr hmay hhash
    generalize Zx wraps = W at hr hmay hhash
    simp only [Zw] at hin
    obtain ⟨G,hG⟩ : ∃ G : Heap,G = H ++ [{ sz := 6,rows := [[.int .i64 seq,.str prev,.int .i64 kind,.int .i64 dv,W,.str tag]],own := true,live := true }] := ⟨_,rfl⟩
    have gl : G[H.length]? = some { sz := 6,rows := [[.int .i64 seq,.str prev,.int .i64 kind,.int .i64 dv,W,.str tag]],own := true,live := true } := by rw [hG]; exact Zl1
    have hrow := Zp gl
    have q21 : ¬ ((2 : Int) = 1) := by omega
    have q12 : ¬ ((1 : Int) = 2) := by omega
    refine Zj ?_
    conv => enter [3,1]; unfold Zig
    simp only [go_sem,simprocAttr,h0,h4,hc,hr]
    rw [← hG]
    refine Za hmay ?_
    cases mb with
    | false =>
     simp only [go_sem,simprocAttr]
     simp [Zf,Ze,Zi,Zg,Zh,Zd,Zc,Zb,hno]
    | true =>
     obtain ⟨hkind,hdv0,hdv8⟩ := hmd rfl
     by_cases s1 : seq = (done.length : Int) + 1
     ·by_cases s2 : prev = pv
      ·by_cases i0 : (done.length : Int) = 0
       ·have i1 := eq_true i0
        have i2 : (done = []) = True := eq_true (List.eq_nil_of_length_eq_zero (by omega))
        rcases hkind with k1 | k1
        ·by_cases d0 : dv = 0
         ·simp only [go_sem,simprocAttr,h0,h3,h4,hrow,hn,s1,s2,i1,k1,d0,q21,q12,hsl]
          refine Za (by first | exact hin | (rw [d0] at hin; exact hin)) ?_
          cases ib with
          | false =>
           simp only [go_sem,simprocAttr,h0,h3,h4,hrow,hn,s1,s2,i1,k1,d0,q21,q12]
           refine Za (by first | exact hhash | (simpa [s1,s2,k1,d0] using hhash)) ?_
           simp only [go_sem,simprocAttr,h0,h3,h4,hrow,hn,s1,s2,i1,k1,d0,q21,q12]
           refine go _ _ (by simp [s1,s2,i1,i2,k1,d0]) ?_ ?_ ?_ <;> simp only [go_sem,simprocAttr,h0,hn]
          | true =>
           simp only [go_sem,simprocAttr,h0,h3,h4,hrow,hn,s1,s2,i1,k1,d0,q21,q12]
           simp [Zf,Ze,Zi,Zg,Zh,Zd,Zc,Zb,hno,s1,s2,i1,i2,k1,d0]
         ·simp only [go_sem,simprocAttr,h0,h3,h4,hrow,hn,s1,s2,i1,k1,d0,q21,q12]
          simp [Zf,Ze,Zi,Zg,Zh,Zd,Zc,Zb,hno,s1,s2,i1,i2,k1,d0]
        ·by_cases d0 : dv = 0
         ·simp only [go_sem,simprocAttr,h0,h3,h4,hrow,hn,s1,s2,i1,k1,d0,q21,q12]
          simp [Zf,Ze,Zi,Zg,Zh,Zd,Zc,Zb,hno,s1,s2,i1,i2,k1,d0]
         ·simp only [go_sem,simprocAttr,h0,h3,h4,hrow,hn,s1,s2,i1,k1,d0,q21,q12]
          simp [Zf,Ze,Zi,Zg,Zh,Zd,Zc,Zb,hno,s1,s2,i1,i2,k1,d0]
       ·have i1 := eq_false i0
        have i2 : (done = []) = False := eq_false (fun h => i0 (by rw [h]; rfl))
        rcases hkind with k1 | k1
        ·by_cases d0 : dv = 0
         ·simp only [go_sem,simprocAttr,h0,h3,h4,hrow,hn,s1,s2,i1,k1,d0,q21,q12,hsl]
          refine Za (by first | exact hin | (rw [d0] at hin; exact hin)) ?_
          cases ib with
          | false =>
           simp only [go_sem,simprocAttr,h0,h3,h4,hrow,hn,s1,s2,i1,k1,d0,q21,q12]
           refine Za (by first | exact hhash | (simpa [s1,s2,k1,d0] using hhash)) ?_
           simp only [go_sem,simprocAttr,h0,h3,h4,hrow,hn,s1,s2,i1,k1,d0,q21,q12]
           refine go _ _ (by simp [s1,s2,i1,i2,k1,d0]) ?_ ?_ ?_ <;> simp only [go_sem,simprocAttr,h0,hn]
          | true =>
           simp only [go_sem,simprocAttr,h0,h3,h4,hrow,hn,s1,s2,i1,k1,d0,q21,q12]
           simp [Zf,Ze,Zi,Zg,Zh,Zd,Zc,Zb,hno,s1,s2,i1,i2,k1,d0]
         ·simp only [go_sem,simprocAttr,h0,h3,h4,hrow,hn,s1,s2,i1,k1,d0,q21,q12,hsl]
          refine Za (by first | exact hin | (rw [d0] at hin; exact hin)) ?_
          cases ib with
          | false =>
           simp only [go_sem,simprocAttr,h0,h3,h4,hrow,hn,s1,s2,i1,k1,d0,q21,q12]
           refine Za (by first | exact hhash | (simpa [s1,s2,k1,d0] using hhash)) ?_
           simp only [go_sem,simprocAttr,h0,h3,h4,hrow,hn,s1,s2,i1,k1,d0,q21,q12]
           refine go _ _ (by simp [s1,s2,i1,i2,k1,d0]) ?_ ?_ ?_ <;> simp only [go_sem,simprocAttr,h0,hn]
          | true =>
           simp only [go_sem,simprocAttr,h0,h3,h4,hrow,hn,s1,s2,i1,k1,d0,q21,q12]
           simp [Zf,Ze,Zi,Zg,Zh,Zd,Zc,Zb,hno,s1,s2,i1,i2,k1,d0]
        ·by_cases d0 : dv = 0
         ·simp only [go_sem,simprocAttr,h0,h3,h4,hrow,hn,s1,s2,i1,k1,d0,q21,q12,hsl]
          refine Za (by first | exact hin | (rw [d0] at hin; exact hin)) ?_
          cases ib with
          | false =>
           simp only [go_sem,simprocAttr,h0,h3,h4,hrow,hn,s1,s2,i1,k1,d0,q21,q12]
           simp [Zf,Ze,Zi,Zg,Zh,Zd,Zc,Zb,hno,s1,s2,i1,i2,k1,d0]
          | true =>
           simp only [go_sem,simprocAttr,h0,h3,h4,hrow,hn,s1,s2,i1,k1,d0,q21,q12]
           simp [Zf,Ze,Zi,Zg,Zh,Zd,Zc,Zb,hno,s1,s2,i1,i2,k1,d0]
         ·simp only [go_sem,simprocAttr,h0,h3,h4,hrow,hn,s1,s2,i1,k1,d0,q21,q12,hsl]
          refine Za (by first | exact hin | (rw [d0] at hin; exact hin)) ?_
          cases ib with
          | false =>
           simp only [go_sem,simprocAttr,h0,h3,h4,hrow,hn,s1,s2,i1,k1,d0,q21,q12]
           simp [Zf,Ze,Zi,Zg,Zh,Zd,Zc,Zb,hno,s1,s2,i1,i2,k1,d0]
          | true =>
           simp only [go_sem,simprocAttr,h0,h3,h4,hrow,hn,s1,s2,i1,k1,d0,q21,q12]
           refine Za (by first | exact hhash | (simpa [s1,s2,k1,d0] using hhash)) ?_
           simp only [go_sem,simprocAttr,h0,h3,h4,hrow,hn,s1,s2,i1,k1,d0,q21,q12]
           refine go _ _ (by simp [s1,s2,i1,i2,k1,d0]) ?_ ?_ ?_ <;> simp only [go_sem,simprocAttr,h0,hn]
      ·simp only [go_sem,simprocAttr,h0,h3,h4,hrow,hn,s1,s2]
       simp [Zf,Ze,Zi,Zg,Zh,Zd,Zc,Zb,hno,s1,s2]
     ·simp only [go_sem,simprocAttr,h0,h3,h4,hrow,hn,s1]
      simp [Zf,Ze,Zi,Zg,Zh,Zd,Zc,Zb,hno,s1]
  simp only [go_sem,simprocAttr,Zw,hml,h40']
  refine loop log [] _ _ rfl ?_ ?_ ?_ hv
  ·simp only [go_sem,simprocAttr]
  ·simp only [go_sem,simprocAttr] <;> rfl
  ·simp only [go_sem,simprocAttr,List.length_nil,Int.natCast_zero]
 ·have h40' : (40 : Int) < (log.length : Int) := by omega
  rw [decide_eq_false h40,Bool.false_and] at hv
  simp only [go_sem,simprocAttr,Zw,hml,h40']
  simp [Zf,Ze,Zi,Zg,Zh,Zd,Zc,Zb,hv]
theorem Zww {neg : Bool} {r q : Wrp} {H : Heap} : vEqS neg [0,1] (.agg [.int .i64 r.dev,.str r.box]) (.agg [.int .i64 q.dev,.str q.box]) H = some (bC (neg != decide (r = q)),H) := by
 cases r; cases q
 simp [vEqS,Zbr,Zpd,Bool.decide_and]
theorem map_some {α : Type} {f : α → List Cell} {l : List α} {i : Nat} {a : α} (h : l[i]? = some a) : (l.map f)[i]? = some (f a) := by rw [List.getElem?_map,h]; rfl
theorem Ztg (a b : List Wrp) : Pr 162 [.c (Zx a),.c (Zx b)] (bC (decide (a = b))) := by
 refine Zl mixed Ztk (by simp [Zo,Zn,Zc,Zx,Zfv]) fun hl T => ?_
 have hlen : a.length ≤ maxLen := by simp [Zd7,lenA,lenC,Zx] at hl; exact hl.1
 unfold Zlu
 have hla : (a.map Wrp.cells).length = a.length := by simp
 have hlb : (b.map Wrp.cells).length = b.length := by simp
 simp only [Zx]
 by_cases hll : a.length = b.length
 ·have hll' : (a.length : Int) = (b.length : Int) := by omega
  obtain ⟨v,hv⟩ : ∃ v,v = decide (a = b) := ⟨_,rfl⟩
  rw [← hv]
  have loop : ∀ (ra rb pa pb : List Wrp) (e : Env) (H : Heap),a = pa ++ ra → b = pb ++ rb → pa.length = pb.length → v = decide (ra = rb) → ra.length = rb.length → e 0 = .c (.lst 2 (a.map Wrp.cells)) → e 1 = .c (.lst 2 (b.map Wrp.cells)) → e 12 = iC (a.map Wrp.cells).length → e 13 = iC pa.length →
    Run (Zu Tryz.prog T) ⟨[.tmp 4],fun u E => Zf E u = some (bC v)⟩ [.loop Zfe,.blk 0,.code Zhf] e H := by
   intro ra
   induction ra with
   | nil =>
    intro rb pa pb e H ha hb hpp hvv hlr h0 h1 h12 h13
    have hc := Zcf (f := Wrp.cells) ha
    refine Zj ?_
    conv => enter [3,1]; unfold Zfe
    simp only [go_sem,simprocAttr,h12,h13,hc]
    unfold Zhf
    simp only [go_sem,simprocAttr]
    have : rb = [] := List.eq_nil_of_length_eq_zero hlr.symm
    subst this
    simp at hvv
    simp [Zf,Ze,Zi,Zg,Zh,Zd,Zc,Zb,hvv]
   | cons x ra ih =>
    intro rb pa pb e H ha hb hpp hvv hlr h0 h1 h12 h13
    cases rb with
    | nil => simp at hlr
    | cons y rb =>
     have hc := Zer (f := Wrp.cells) ha
     have hra := Zb6 (f := Wrp.cells) ha
     have hrb := Zb6 (f := Wrp.cells) hb
     rw [← hpp] at hrb
     have hn := Zbt ha hlen
     refine Zj ?_
     conv => enter [3,1]; unfold Zfe
     by_cases c1 : x = y
     ·simp only [go_sem,simprocAttr,h0,h1,h12,h13,hc,hra,hrb,Wrp.cells,Zkm,Zww,Bool.true_bne,decide_eq_true c1,hn]
      refine ih rb (pa ++ [x]) (pb ++ [y]) _ _ (by rw [ha]; simp) (by rw [hb]; simp) (by simp [hpp]) (by rw [hvv,c1]; simp) (by simpa using hlr) ?_ ?_ ?_ ?_
      ·simp only [go_sem,simprocAttr,h0]
      ·simp only [go_sem,simprocAttr,h1]
      ·simp only [go_sem,simprocAttr,h12]
      ·simp only [go_sem,simprocAttr,hn]
     ·have hvf : v = false := by rw [hvv]; exact decide_eq_false (fun h => c1 (by injection h))
      simp only [go_sem,simprocAttr,h0,h1,h12,h13,hc,hra,hrb,Wrp.cells,Zkm,Zww,Bool.true_bne,decide_eq_false c1]
      simp [Zf,Ze,Zi,Zg,Zh,Zd,Zc,Zb,hvf]
  simp only [go_sem,simprocAttr,hla,hlb,hll']
  refine loop a b [] [] _ _ rfl rfl rfl hv hll ?_ ?_ ?_ ?_
  ·simp only [go_sem,simprocAttr]
  ·simp only [go_sem,simprocAttr]
  ·simp only [go_sem,simprocAttr,hla,hll']
  ·simp only [go_sem,simprocAttr,List.length_nil,Int.natCast_zero]
 ·have hll' : ¬ ((a.length : Int) = (b.length : Int)) := by omega
  have hne : ¬ a = b := fun h => hll (by rw [h])
  simp only [go_sem,simprocAttr,hla,hlb,hll']
  simp [Zf,Ze,Zi,Zg,Zh,Zd,Zc,Zb,hne]
end Go.Proofs.YticmfblfghdkbaaGreatDoor.Eng
namespace Go.Proofs.YticmfblfghdkbaaGreatDoor.Eng
open Go Go.RowKit Go.Extern.Stop Go.Stop Go.Extern
theorem Zwd (v : Value) (w : World) : (Extern.ReflectliteType.typeOf #[.iface 148 v]).run Tryz.prog w = .ok (.iface 235 (.agg #[.pointer (some ⟨7,148,none⟩)])) w := by kernel_rfl
theorem Zps (w : World) : (Extern.ReflectliteType.method cmpM #[.agg #[.pointer (some ⟨7,148,none⟩)]]).run Tryz.prog w = .ok (.bool true) w := by kernel_rfl
theorem Zbkh (a : ByteArray) (w : World) : (binOp .eql 98 (.iface 148 (.string a)) (.iface 148 (.string a))).run Tryz.prog w = .ok (.bool true) w := by
 rw [Zj9 w a a Tryz.underlying98 (by kernel_rfl) Tryz.underlying148,Z0b,decide_eq_true rfl]
theorem Zblw {a b : ByteArray} (h : a ≠ b) (w : World) : (binOp .eql 98 (.iface 148 (.string a)) (.iface 148 (.string b))).run Tryz.prog w = .ok (.bool false) w := by
 rw [Zj9 w a b Tryz.underlying98 (by kernel_rfl) Tryz.underlying148,Z0b,decide_eq_false h]
theorem Z4j (v : Value) (xT : TypeId) (w : World) : (Instr.typeAssert (.iface 206 v) xT 237 true).run Tryz.prog w = .ok (.tuple #[.nilIface,.bool false]) w := run_typeAssert_lacksB Tryz.underlying237 (by kernel_rfl) (by kernel_rfl) v xT w
theorem Zbfg (v : Value) (xT : TypeId) (w : World) : (Instr.typeAssert (.iface 148 v) xT 237 true).run Tryz.prog w = .ok (.tuple #[.nilIface,.bool false]) w := run_typeAssert_lacksB Tryz.underlying237 (by kernel_rfl) (by kernel_rfl) v xT w
theorem Zbfn (v : Value) (xT : TypeId) (w : World) : (Instr.typeAssert (.iface 148 v) xT 240 true).run Tryz.prog w = .ok (.tuple #[.nilIface,.bool false]) w := run_typeAssert_lacksB Tryz.underlying240 (by kernel_rfl) (by kernel_rfl) v xT w
theorem Zbcy (v : Value) (xT : TypeId) (w : World) : (Instr.typeAssert (.iface 148 v) xT 242 true).run Tryz.prog w = .ok (.tuple #[.nilIface,.bool false]) w := run_typeAssert_lacksB Tryz.underlying242 (by kernel_rfl) (by kernel_rfl) v xT w
theorem Z4g (v : Value) (xT : TypeId) (w : World) : (Instr.typeAssert (.iface 206 v) xT 240 true).run Tryz.prog w = .ok (.tuple #[.iface 206 v,.bool true]) w := run_typeAssert_hasB Tryz.underlying240 (by kernel_rfl) v xT w
theorem Zu7 (v : Value) (w : World) : (Go.method 437 206 v "Unwrap").run Tryz.prog w = .ok (268,v) w := by kernel_rfl
theorem Zbbx (v : Value) (w : World) :
  Calls Tryz.prog 94 #[.nilIface,.iface 148 v] w fun e w' => e = .returned (.bool false) ∧ w' = w := by
 have hn := run_eql_iface_nil_left (P := Tryz.prog) w 148 v Tryz.underlying98
 go_enter Tryz.func94,Tryz.ntmps94
 go_wp2
 go_ret
 exact ⟨rfl,rfl⟩
theorem Zbcr (x0 : ByteArray) (a : ByteArray) (w : World) :
  Calls Tryz.prog 94 #[.iface 206 (.agg #[.string x0,.iface 148 (.string a)]),.iface 148 (.string a)] w fun e w' => e = .returned (.bool true) ∧ Below w.heap.size w w' ∧ w.drawn ≤ w'.drawn := by
 have h8 := @run_callFunc_extern Tryz.prog 139 _ Extern.ReflectliteType.typeOf Tryz.func139 (by kernel_rfl) (by kernel_rfl) (by kernel_rfl) (by kernel_rfl)
 have h32 := @run_callFunc_extern Tryz.prog 274 _ (Extern.ReflectliteType.method cmpM) Tryz.func274 (by kernel_rfl) (by kernel_rfl) (by kernel_rfl) (by kernel_rfl)
 have tT := Zwd
 have cT := Zps
 have mR := Zgg
 have nE := Z4j
 have uW := Z4g
 have mU := Zu7
 have heq := Zbkh a
 have hty := run_eql_iface_types (P := Tryz.prog) 206 148 (.agg #[.string x0,.iface 148 (.string a)]) (.string a) Tryz.underlying98 (by decide)
 go_enter Tryz.func94,Tryz.ntmps94
 go_wp2
 refine wp_loop_rounds 2 ?_
 rw [rounds_succ]
 go_wp2
 rw [rounds_succ]
 go_wp2
 go_ret
 exact ⟨rfl,(Below.refl _ w).alloc (Nat.le_refl _) _,Nat.le_refl _⟩
theorem Z88 (x0 : ByteArray) {a b : ByteArray} (hab : a ≠ b) (w : World) :
  Calls Tryz.prog 94 #[.iface 206 (.agg #[.string x0,.iface 148 (.string a)]),.iface 148 (.string b)] w fun e w' => e = .returned (.bool false) ∧ Below w.heap.size w w' ∧ w.drawn ≤ w'.drawn := by
 have h8 := @run_callFunc_extern Tryz.prog 139 _ Extern.ReflectliteType.typeOf Tryz.func139 (by kernel_rfl) (by kernel_rfl) (by kernel_rfl) (by kernel_rfl)
 have h32 := @run_callFunc_extern Tryz.prog 274 _ (Extern.ReflectliteType.method cmpM) Tryz.func274 (by kernel_rfl) (by kernel_rfl) (by kernel_rfl) (by kernel_rfl)
 have tT := Zwd
 have cT := Zps
 have mR := Zgg
 have nE := Z4j
 have nR := Zbfg
 have uW := Z4g
 have uR := Zbfn
 have uS := Zbcy
 have mU := Zu7
 have heq := Zblw hab
 have hty := run_eql_iface_types (P := Tryz.prog) 206 148 (.agg #[.string x0,.iface 148 (.string a)]) (.string b) Tryz.underlying98 (by decide)
 go_enter Tryz.func94,Tryz.ntmps94
 go_wp2
 refine wp_loop_rounds 2 ?_
 rw [rounds_succ]
 go_wp2
 rw [rounds_succ]
 go_wp2
 go_ret
 exact ⟨rfl,(Below.refl _ w).alloc (Nat.le_refl _) _,Nat.le_refl _⟩
abbrev Z5y (a : ByteArray) : Cell := .iface 148 false [.str a]
abbrev Zny (x0 : ByteArray) (a : ByteArray) : Cell := .iface 206 true [.str x0,Z5y a]
theorem Zzm {m : LMap} {σ : Mem} {a : ByteArray} {v : Value} (h : VR m σ (Z5y a) v) : v = .iface 148 (.string a) := by
 cases h with
 | ifaceC h => cases h; rfl
theorem Zbir {m : LMap} {σ : Mem} {x0 : ByteArray} {a : ByteArray} {v : Value} (h : VR m σ (Zny x0 a) v) : v = .iface 206 (.agg #[.string x0,.iface 148 (.string a)]) := by
 cases h with
 | ifaceA hl ha =>
  rename_i vs
  obtain ⟨vs⟩ := vs
  match vs,hl,ha with
  | [y0,y1],_,ha =>
   have h0 := ha 0 _ y0 rfl rfl
   have h1 := Zzm (ha 1 _ y1 rfl rfl)
   cases h0
   subst h1
   rfl
theorem Ztj (a : ByteArray) : Pr 94 [.c .nilI,.c (Z5y a)] (bC false) := by
 intro H
 refine ⟨⟨_,Tryz.func94,rfl,rfl⟩,fun B m w vs r ha => ?_⟩
 obtain ⟨vs⟩ := vs
 cases ha with
 | cons a1 a2 =>
  cases a2 with
  | cons a2 a3 =>
   cases a3
   cases a1 with
   | c a1 =>
    cases a1
    cases a2 with
    | c a2 =>
     obtain rfl := Zzm a2
     refine (Zbbx _ w).mono ?_
     rintro e w' ⟨rfl,rfl⟩
     exact ⟨_,m,rfl,St.refl r,.c (.bool _)⟩
theorem Zzy (x0 : ByteArray) (a b : ByteArray) : Pr 94 [.c (Zny x0 a),.c (Z5y b)] (bC (decide (a = b))) := by
 intro H
 refine ⟨⟨_,Tryz.func94,rfl,rfl⟩,fun B m w vs r ha => ?_⟩
 obtain ⟨vs⟩ := vs
 cases ha with
 | cons a1 a2 =>
  cases a2 with
  | cons a2 a3 =>
   cases a3
   cases a1 with
   | c a1 =>
    obtain rfl := Zbir a1
    cases a2 with
    | c a2 =>
     obtain rfl := Zzm a2
     by_cases hab : a = b
     ·subst hab
      rw [decide_eq_true rfl]
      refine (Zbcr x0 a w).mono ?_
      rintro e w' ⟨rfl,hb,hd⟩
      exact ⟨_,⟨m.f,m.z⟩,rfl,St.ofBelow r hb (Or.inr hd) (fun _ h => h) (fun _ h => .inl h),.c (.bool _)⟩
     ·rw [decide_eq_false hab]
      refine (Z88 x0 hab w).mono ?_
      rintro e w' ⟨rfl,hb,hd⟩
      exact ⟨_,⟨m.f,m.z⟩,rfl,St.ofBelow r hb (Or.inr hd) (fun _ h => h) (fun _ h => .inl h),.c (.bool _)⟩
end Go.Proofs.YticmfblfghdkbaaGreatDoor.Eng
