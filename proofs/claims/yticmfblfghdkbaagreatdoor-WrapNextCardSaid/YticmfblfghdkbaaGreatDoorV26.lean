/- Parts of this claim's proof, joined. No statement of the seat is proved here. -/
import Derived.Test.YticmfblfghdkbaaGreatDoorV25
set_option linter.unusedVariables false
set_option linter.unusedSimpArgs false
namespace Go.Proofs.YticmfblfghdkbaaGreatDoor.Eng
open Go Go.RowKit Go.Extern.Stop Go.Stop Go.Extern
theorem Z65 (t : Value) (w : World) :
  Calls Tryz.prog 97 #[.nilIface,t] w fun e w' => e = .returned (.bool false) ∧ w' = w := by
 go_enter Tryz.func97,Tryz.ntmps97
 go_wp2
 go_ret
 exact ⟨rfl,rfl⟩
theorem Zxm (t : Addr) (w : World) : (ReflectliteValue.unpack (.iface 140 (.pointer (some t)))).run Tryz.prog w
  = .ok (.agg #[.pointer (some ⟨7,140,none⟩),.pointer (some ⟨w.heap.size,0,none⟩),.int .u64 150]) (w.alloc (.cells #[.pointer (some t)] 140)) := by kernel_rfl
theorem Z4m (a : Addr) (w : World) : (ReflectliteValue.methodAny (ReflectliteValue.valueError "reflectlite.Value.Type" 0) (fun t _ _ _ => ReflectliteType.toType t) #[.agg #[.pointer (some ⟨7,140,none⟩),.pointer (some a),.int .u64 150]]).run Tryz.prog w
  = .ok (.iface 235 (.agg #[.pointer (some ⟨7,140,none⟩)])) w := by kernel_rfl
theorem Zu8 (h : Value) (w : World) : (Go.method 437 235 (.agg #[h]) "Kind").run Tryz.prog w = .ok (252,h) w := by kernel_rfl
theorem Z5j (w : World) : ((ReflectliteType.abiMethod fun t => (fun a : Nat => Value.int IntKind.u8 (a : Int)) <$> Rtype.kind t) #[.pointer (some ⟨7,140,none⟩)]).run Tryz.prog w = .ok (.int .u8 22) w := by kernel_rfl
theorem Z3x (w : World) : ((ReflectliteType.abiMethod fun t => (fun a : Nat => Value.int IntKind.u8 (a : Int)) <$> Rtype.kind t) #[.pointer (some ⟨7,136,none⟩)]).run Tryz.prog w = .ok (.int .u8 25) w := by kernel_rfl
theorem Z4x (z : Sem Value) (f : TypeId → Addr → Nat → Nat → Sem Value) (v : Value) :
  ReflectliteValue.method z f #[v] = (do match ← ReflectliteValue.parts v with | none => z | some (t,a,fl) => f t a fl (fl % 32)) := rfl
theorem Zrt (a : Addr) (w : World) : (ReflectliteValue.parts (.agg #[.pointer (some ⟨7,140,none⟩),.pointer (some a),.int .u64 150])).run Tryz.prog w = .ok (some (140,a,150)) w := by kernel_rfl
theorem Z3j (a p : Addr) (W : World) (ha : W.cell? a = some (.pointer (some p))) :
  (ReflectliteValue.method (ReflectliteValue.valueError "reflectlite.Value.IsNil" 0) ReflectliteValue.isNil #[.agg #[.pointer (some ⟨7,140,none⟩),.pointer (some a),.int .u64 150]]).run Tryz.prog W = .ok (.bool false) W := by
 rw [Z4x]
 simp only [Sem.run_bind,Zrt,Result.andThen]
 simp [ReflectliteValue.isNil,loadVar,isAgg,underlying,Tryz.underlying140,ha,Result.andThen]
theorem Zu6 (h : Value) (w : World) : (Go.method 437 235 (.agg #[h]) "Elem").run Tryz.prog w = .ok (275,.agg #[h]) w := by kernel_rfl
theorem Zod (h : Value) (w : World) : (Go.method 437 235 (.agg #[h]) "Implements").run Tryz.prog w = .ok (276,.agg #[h]) w := by kernel_rfl
theorem Zms (h : Value) (w : World) : (Go.method 437 235 (.agg #[h]) "AssignableTo").run Tryz.prog w = .ok (273,.agg #[h]) w := by kernel_rfl
theorem Z5d (w : World) : (ReflectliteType.method ReflectliteType.elem #[.agg #[.pointer (some ⟨7,140,none⟩)]]).run Tryz.prog w = .ok (.iface 235 (.agg #[.pointer (some ⟨7,136,none⟩)])) w := by kernel_rfl
theorem Zsx (w : World) : (ReflectliteType.relation "Implements" ReflectliteType.implements_ #[.agg #[.pointer (some ⟨7,136,none⟩)],.iface 235 (.agg #[.pointer (some ⟨7,98,none⟩)])]).run Tryz.prog w = .ok (.bool true) w := by kernel_rfl
theorem Zzz (v : Value) (w : World) : (ReflectliteType.typeOf #[.iface 136 v]).run Tryz.prog w = .ok (.iface 235 (.agg #[.pointer (some ⟨7,136,none⟩)])) w := by kernel_rfl
theorem Zz3 (v : Value) (w : World) : (ReflectliteType.typeOf #[.iface 138 v]).run Tryz.prog w = .ok (.iface 235 (.agg #[.pointer (some ⟨7,138,none⟩)])) w := by kernel_rfl
theorem Zz4 (w : World) : (ReflectliteType.relation "AssignableTo" ReflectliteType.assignableTo #[.agg #[.pointer (some ⟨7,136,none⟩)],.iface 235 (.agg #[.pointer (some ⟨7,136,none⟩)])]).run Tryz.prog w = .ok (.bool true) w := by kernel_rfl
theorem Z0d (w : World) : (ReflectliteType.relation "AssignableTo" ReflectliteType.assignableTo #[.agg #[.pointer (some ⟨7,138,none⟩)],.iface 235 (.agg #[.pointer (some ⟨7,136,none⟩)])]).run Tryz.prog w = .ok (.bool false) w := by kernel_rfl
theorem Zy5 (n : Int) (w : World) : (ReflectliteValue.unpack (.iface 136 (.agg #[.int .i64 n]))).run Tryz.prog w
  = .ok (.agg #[.pointer (some ⟨7,136,none⟩),.pointer (some ⟨w.heap.size,0,none⟩),.int .u64 153]) (w.alloc (.cells #[.int .i64 n] 136)) := by kernel_rfl
theorem Z1w (w : World) : (Rtype.elem? 140).run Tryz.prog w = .ok (some 136) w := by kernel_rfl
theorem Zbb7 (p : Addr) (w : World) : (ReflectliteValue.mk 136 p ReflectliteValue.flagAddr).run Tryz.prog w = .ok (.agg #[.pointer (some ⟨7,136,none⟩),.pointer (some p),.int .u64 409]) w := by kernel_rfl
theorem Z23 (a p : Addr) (W : World) (ha : W.cell? a = some (.pointer (some p))) :
  (ReflectliteValue.method (ReflectliteValue.valueError "reflectlite.Value.Elem" 0) ReflectliteValue.elem #[.agg #[.pointer (some ⟨7,140,none⟩),.pointer (some a),.int .u64 150]]).run Tryz.prog W
   = .ok (.agg #[.pointer (some ⟨7,136,none⟩),.pointer (some p),.int .u64 409]) W := by
 rw [Z4x]
 simp only [Sem.run_bind,Zrt,Result.andThen]
 simp [ReflectliteValue.elem,loadVar,isAgg,underlying,Tryz.underlying140,ha,Result.andThen,Z1w,Zbb7]
theorem Zbeu (v x : Value) : ReflectliteValue.set #[v,x] = (do
  let (some (dst,a,fl),some (src,b,_)) := (← ReflectliteValue.parts v,← ReflectliteValue.parts x)
   | unsupported (.noEntry "extern/(internal/reflectlite.Value).Set.zeroValue")
  if fl / ReflectliteValue.flagAddr % 2 == 0 then unsupported (.noEntry "extern/(internal/reflectlite.Value).Set.unaddressable")
  let val ← loadVar src b
  if ← Rtype.directlyAssignable dst src then storeVar dst a val
  else if ← Rtype.implements dst src then
   if (← Rtype.kind src) == 20 then
    match val with
    | .nilIface => unsupported (.noEntry "extern/reflectlite: a nil value of one interface type handed on as a value of another")
    | _ => storeVar dst a val
   else storeVar dst a (.iface src val)
  else panicString ("reflectlite.Set: value of type " ++ (← Rtype.spelt src) ++ " is not assignable to type " ++ (← Rtype.spelt dst))
  pure (.tuple #[])) := rfl
theorem Z11 (a : Addr) (w : World) : (ReflectliteValue.parts (.agg #[.pointer (some ⟨7,136,none⟩),.pointer (some a),.int .u64 409])).run Tryz.prog w = .ok (some (136,a,409)) w := by kernel_rfl
theorem Z17 (a : Addr) (w : World) : (ReflectliteValue.parts (.agg #[.pointer (some ⟨7,136,none⟩),.pointer (some a),.int .u64 153])).run Tryz.prog w = .ok (some (136,a,153)) w := by kernel_rfl
theorem Z13 (w : World) : (Rtype.directlyAssignable 136 136).run Tryz.prog w = .ok true w := by kernel_rfl
theorem Z54 (w : World) : (sizeOf 136).run Tryz.prog w = .ok 1 w := by kernel_rfl
theorem Z77 (ta b : Addr) (n : Int) (old : Value) (W : World) (hb : W.cell? b = some (.int .i64 n)) (ht : W.cell? ta = some old) (hf : W.frozen? ta = false) :
  (ReflectliteValue.set #[.agg #[.pointer (some ⟨7,136,none⟩),.pointer (some ta),.int .u64 409],.agg #[.pointer (some ⟨7,136,none⟩),.pointer (some b),.int .u64 153]]).run Tryz.prog W
   = .ok (.tuple #[]) (W.setCell ta (.int .i64 n)) := by
 have hl : (loadCellsFrom b 0 1 #[]).run Tryz.prog W = .ok #[.int .i64 n] W := by
  have := run_loadCellsFrom (P := Tryz.prog) (w := W) b (fun _ => .int .i64 n) 1 0 #[] (fun j hj => by
   have : j = 0 := by omega
   subst this
   simpa [Addr.add] using hb)
  simpa using this
 rw [Zbeu]
 simp only [Sem.run_bind,Z11,Z17,Result.andThen]
 simp [ReflectliteValue.flagAddr,loadVar,isAgg,underlying,Tryz.underlying136,Z54,loadCells,hl,Result.andThen,Z13,storeVar,Value.cells,storeCells,Addr.add]
 rw [run_store Tryz.prog W ta _ _ (by rfl)]
 simp [ht,hf]
theorem Z9k (v : Value) (xT : TypeId) (w : World) : (Instr.typeAssert (.iface 138 v) xT 250 true).run Tryz.prog w = .ok (.tuple #[.nilIface,.bool false]) w := run_typeAssert_lacksB Tryz.underlying250 (by kernel_rfl) (by kernel_rfl) v xT w
theorem Zyv (v : Value) (xT : TypeId) (w : World) : (Instr.typeAssert (.iface 138 v) xT 240 true).run Tryz.prog w = .ok (.tuple #[.iface 138 v,.bool true]) w := run_typeAssert_hasB Tryz.underlying240 (by kernel_rfl) v xT w
theorem Zsm (v : Value) (w : World) : (Go.method 437 138 v "Unwrap").run Tryz.prog w = .ok (258,v) w := by kernel_rfl
set_option maxRecDepth 20000 in
set_option maxHeartbeats 4000000 in
theorem Z4c (x0 : ByteArray) (q : Int) (t : Addr) (old : Value) (w : World) (hg : w.cell? ⟨0,0,none⟩ = some (.iface 235 (.agg #[.pointer (some ⟨7,98,none⟩)]))) (ht0 : w.cell? t = some old) (hf0 : w.frozen? t = false) :
  Calls Tryz.prog 97 #[.iface 138 (.agg #[.string x0,.iface 136 (.agg #[.int .i64 q])]),.iface 140 (.pointer (some t))] w fun e w' => e = .returned (.bool true) ∧
   ∃ w1,Below w.heap.size w w1 ∧ w.drawn ≤ w1.drawn ∧ w' = w1.setCell t (.int .i64 q) := by
 have h6 := @run_callFunc_extern Tryz.prog 144 _ (fun args => ReflectliteValue.unpack (args.getD 0 (.tuple #[]))) Tryz.func144 (by kernel_rfl) (by kernel_rfl) (by kernel_rfl) (by kernel_rfl)
 have h7 := @run_callFunc_extern Tryz.prog 145 _ (ReflectliteValue.methodAny (ReflectliteValue.valueError "reflectlite.Value.Type" 0) (fun t _ _ _ => ReflectliteType.toType t)) Tryz.func145 (by kernel_rfl) (by kernel_rfl) (by kernel_rfl) (by kernel_rfl)
 have h8 := @run_callFunc_extern Tryz.prog 146 _ (ReflectliteValue.method (ReflectliteValue.valueError "reflectlite.Value.IsNil" 0) ReflectliteValue.isNil) Tryz.func146 (by kernel_rfl) (by kernel_rfl) (by kernel_rfl) (by kernel_rfl)
 have h27 := @run_callFunc_extern Tryz.prog 252 _ (ReflectliteType.abiMethod fun t => do pure (.int .u8 (← Rtype.kind t))) Tryz.func252 (by kernel_rfl) (by kernel_rfl) (by kernel_rfl) (by kernel_rfl)
 have h37 := @run_callFunc_extern Tryz.prog 275 _ (ReflectliteType.method ReflectliteType.elem) Tryz.func275 (by kernel_rfl) (by kernel_rfl) (by kernel_rfl) (by kernel_rfl)
 have h38 := @run_callFunc_extern Tryz.prog 276 _ (ReflectliteType.relation "Implements" ReflectliteType.implements_) Tryz.func276 (by kernel_rfl) (by kernel_rfl) (by kernel_rfl) (by kernel_rfl)
 have h10 := @run_callFunc_extern Tryz.prog 139 _ ReflectliteType.typeOf Tryz.func139 (by kernel_rfl) (by kernel_rfl) (by kernel_rfl) (by kernel_rfl)
 have h35 := @run_callFunc_extern Tryz.prog 273 _ (ReflectliteType.relation "AssignableTo" ReflectliteType.assignableTo) Tryz.func273 (by kernel_rfl) (by kernel_rfl) (by kernel_rfl) (by kernel_rfl)
 have h11 := @run_callFunc_extern Tryz.prog 177 _ (ReflectliteValue.method (ReflectliteValue.valueError "reflectlite.Value.Elem" 0) ReflectliteValue.elem) Tryz.func177 (by kernel_rfl) (by kernel_rfl) (by kernel_rfl) (by kernel_rfl)
 have h12 := @run_callFunc_extern Tryz.prog 178 _ ReflectliteValue.set Tryz.func178 (by kernel_rfl) (by kernel_rfl) (by kernel_rfl) (by kernel_rfl)
 have tR := Zzz
 have tD := Zz3
 have mA := Zms
 have aR := Zz4
 have aD := Z0d
 have vR := Zy5
 have f6 := Zxm
 have f7 := Z4m
 have mK := Zu8
 have mE := Zu6
 have mI := Zod
 have kP := Z5j
 have kR := Z3x
 have eP := Z5d
 have iR := Zsx
 have nE := Z9k
 have uW := Zyv
 have mU := Zsm
 have hlt : 0 < w.heap.size := by
  rcases Nat.lt_or_ge 0 w.heap.size with h | h
  ·exact h
  ·simp [World.cell?,Array.getElem?_eq_none h] at hg
 have htl : t.block < w.heap.size := by
  rcases Nat.lt_or_ge t.block w.heap.size with h | h
  ·exact h
  ·simp [World.cell?,Array.getElem?_eq_none h] at ht0
 have n8 := Z3j ⟨w.heap.size,0,none⟩ t (((w.alloc (.cells #[.pointer (some t)] 140)).alloc (.cells #[.pointer (some ⟨7,140,none⟩),.pointer (some ⟨w.heap.size,0,none⟩),.int .u64 150] 195))) (by simp)
 have hg2 : (((w.alloc (.cells #[.pointer (some t)] 140)).alloc (.cells #[.pointer (some ⟨7,140,none⟩),.pointer (some ⟨w.heap.size,0,none⟩),.int .u64 150] 195))).cell? ⟨0,0,none⟩ = some (.iface 235 (.agg #[.pointer (some ⟨7,98,none⟩)])) := by
  rw [World.cell?_alloc_lt _ _ ⟨0,0,none⟩ (by simp <;> omega),World.cell?_alloc_lt _ _ ⟨0,0,none⟩ hlt]; exact hg
 have hu : ∀ a b c d e : Value,(#[a,b,c,d,e] : Array Value).getD 2 undef = c := fun _ _ _ _ _ => rfl
 have el := Z23 ⟨w.heap.size,0,none⟩ t (((((w.alloc (.cells #[.pointer (some t)] 140)).alloc (.cells #[.pointer (some ⟨7,140,none⟩),.pointer (some ⟨w.heap.size,0,none⟩),.int .u64 150] 195)).alloc (.cells #[.pointer (some ⟨7,140,none⟩),.pointer (some ⟨w.heap.size,0,none⟩),.int .u64 150] 195)).alloc (.cells #[.string x0,.iface 136 (.agg #[.int .i64 q])] 138)))
  (by rw [World.cell?_alloc_lt _ _ ⟨w.heap.size,0,none⟩ (by simp; omega),World.cell?_alloc_lt _ _ ⟨w.heap.size,0,none⟩ (by simp; omega)]; simp)
 have st := Z77 t ⟨w.heap.size + 1 + 1 + 1 + 1,0,none⟩ q old ((((((w.alloc (.cells #[.pointer (some t)] 140)).alloc (.cells #[.pointer (some ⟨7,140,none⟩),.pointer (some ⟨w.heap.size,0,none⟩),.int .u64 150] 195)).alloc (.cells #[.pointer (some ⟨7,140,none⟩),.pointer (some ⟨w.heap.size,0,none⟩),.int .u64 150] 195)).alloc (.cells #[.string x0,.iface 136 (.agg #[.int .i64 q])] 138)).alloc (.cells #[.int .i64 q] 136)))
  (by rw [World.cell?_alloc_at _ _ _ _ (by simp)]; rfl)
  (by rw [World.cell?_alloc_lt _ _ t (by simp; omega),World.cell?_alloc_lt _ _ t (by simp; omega),World.cell?_alloc_lt _ _ t (by simp; omega),World.cell?_alloc_lt _ _ t (by simp; omega),World.cell?_alloc_lt _ _ t htl]; exact ht0)
  (by rw [World.frozen?_alloc_old _ _ t (by simp; omega),World.frozen?_alloc_old _ _ t (by simp; omega),World.frozen?_alloc_old _ _ t (by simp; omega),World.frozen?_alloc_old _ _ t (by simp; omega),World.frozen?_alloc_old _ _ t (Nat.ne_of_lt htl)]; exact hf0)
 go_enter Tryz.func97,Tryz.ntmps97
 go_wp2
 refine wp_loop_rounds 2 ?_
 rw [rounds_succ]
 go_wp2
 rw [rounds_succ]
 go_wp2
 go_ret
 exact ⟨rfl,_,((((((Below.refl _ w).alloc (Nat.le_refl _) _).alloc (by simp <;> omega) _).alloc (by simp <;> omega) _).alloc (by simp <;> omega) _).alloc (by simp <;> omega) _),Nat.le_refl _,rfl⟩
abbrev Zbbj (q : Int) : Cell := .iface 136 true [.int .i64 q]
abbrev Zbcs (x0 : ByteArray) (q : Int) : Cell := .iface 138 true [.str x0,Zbbj q]
theorem Zbc2 {m : LMap} {σ : Mem} {q : Int} {v : Value} (h : VR m σ (Zbbj q) v) : v = .iface 136 (.agg #[.int .i64 q]) := by
 cases h with
 | ifaceA hl ha =>
  rename_i vs
  obtain ⟨vs⟩ := vs
  match vs,hl,ha with
  | [a],_,ha =>
   have h0 := ha 0 _ a rfl rfl
   cases h0
   rfl
theorem Zbbi {m : LMap} {σ : Mem} {x0 : ByteArray} {q : Int} {v : Value} (h : VR m σ (Zbcs x0 q) v) : v = .iface 138 (.agg #[.string x0,.iface 136 (.agg #[.int .i64 q])]) := by
 cases h with
 | ifaceA hl ha =>
  rename_i vs
  obtain ⟨vs⟩ := vs
  match vs,hl,ha with
  | [y0,y1],_,ha =>
   have h0 := ha 0 _ y0 rfl rfl
   have h1 := Zbc2 (ha 1 _ y1 rfl rfl)
   cases h0
   subst h1
   rfl
theorem Z6t (x : AVal) (H : Heap) : CallSound Tryz.prog 97 [.c .nilI,x] H (bC false) H := by
 refine ⟨⟨_,Tryz.func97,rfl,rfl⟩,fun B m w vs r ha => ?_⟩
 obtain ⟨vs⟩ := vs
 cases ha with
 | cons a1 a2 =>
  cases a2 with
  | cons a2 a3 =>
   cases a3
   cases a1 with
   | c a1 =>
    cases a1
    refine (Z65 _ w).mono ?_
    rintro e w' ⟨rfl,rfl⟩
    exact ⟨_,m,rfl,St.refl r,.c (.bool _)⟩
theorem Z8w (x0 : ByteArray) (q old : Int) {b : Nat} {H : Heap} (hb : H[b]? = some { sz := 1,rows := [[.int .i64 old]],own := true,live := true }) :
  CallSound Tryz.prog 97 [.c (Zbcs x0 q),.c (.iface 140 false [.ptr b 0 0])] H (bC true) (H.set b { sz := 1,rows := [[.int .i64 q]],own := true,live := true }) := by
 refine ⟨⟨_,Tryz.func97,rfl,rfl⟩,fun B m w vs r ha => ?_⟩
 obtain ⟨vs⟩ := vs
 cases ha with
 | cons a1 a2 =>
  cases a2 with
  | cons a2 a3 =>
   cases a3
   cases a1 with
   | c a1 =>
    obtain rfl := Zbbi a1
    cases a2 with
    | c a2 =>
     cases a2 with
     | ifaceC a2 =>
      cases a2 with
      | ptr e1 =>
       rename_i L
       obtain ⟨kb,hkb,hat⟩ := r.blk b L e1
       rw [hb] at hkb; injection hkb with hkb; subst hkb
       have ho : L.own = true := by rw [← hat.own]
       have hLo : L.o = 0 := (hat.ours ho).2
       have hsz : L.sz = 1 := hat.sz.symm
       obtain ⟨cur,ct,z,hg,hth⟩ := hat.row ho rfl
       obtain ⟨hr1,hr2⟩ := hat.rows rfl 0 [.int .i64 old] rfl
       obtain ⟨v0,hv0,hvr⟩ := hr2 0 _ rfl
       have hta : (⟨L.g,L.o + 0 * L.sz + 0,none⟩ : Addr) = ⟨L.g,0,none⟩ := by rw [hLo]; simp
       rw [hta] at hv0 ⊢
       have hcs : 0 < cur.size := by
        have := cell_of_row w L.g 0 cur ct z hg
        rw [this] at hv0
        exact (Array.getElem?_eq_some_iff.1 hv0).1
       have hfz : w.frozen? ⟨L.g,0,none⟩ = false := Thaw.frozen hg hth hcs
       have hlib := r.lib 0 (.iface 235 (.agg #[.pointer (some ⟨7,98,none⟩)])) ⟨rfl,rfl⟩
       refine (Z4c x0 q ⟨L.g,0,none⟩ v0 w hlib.2 hv0 hfz).mono ?_
       rintro e w' ⟨rfl,w1,hbel,hd,rfl⟩
       have s1 := St.ofBelow (z := m.z) r hbel (Or.inr hd) (fun _ h => h) (fun _ h => .inl h)
       have r1 := s1.rel
       have hlt : L.g < w.heap.size := hat.lt (.inl ho)
       have hg1 : w1.heap[L.g]? = some (.cells cur ct z) := by rw [hbel.block L.g hlt]; exact hg
       rw [setCell_eq_setRow w1 L.g 0 cur ct z _ hg1]
       have e2 : (⟨m.f,m.z⟩ : LMap) b = some L := e1
       have st := St.turn r1 e2 hb ho rfl hg1 hth (cur.setIfInBounds 0 (.int .i64 q)) (by simp) (k' := { sz := 1,rows := [[.int .i64 q]],own := true,live := true }) rfl rfl (fun _ i row h => by
        match i with
        | 0 =>
         simp at h
         subst h
         refine ⟨hsz.symm,fun f c hc => ?_⟩
         match f with
         | 0 =>
          simp at hc
          subst hc
          refine ⟨.int .i64 q,?_,.int _ _⟩
          simp [hcs]
         | f + 1 => simp at hc
        | i + 1 => simp at h)
       exact ⟨_,_,rfl,s1.trans r st,.c (.bool _)⟩
theorem Zbcl (x : AVal) (H : Heap) : CallSound Tryz.prog 97 ([.c .nilI,x] ++ List.map AVal.c []) H (bC false) H := Z6t x H
theorem Zbcj (s : ByteArray) (q old : Int) {b : Nat} {H : Heap} (hb : H[b]? = some { sz := 1,rows := [[.int .i64 old]],own := true,live := true }) :
  CallSound Tryz.prog 97 ([.c (Z21 s q),.c (.iface 140 false [.ptr b 0 0])] ++ List.map AVal.c []) H (bC true) (H.set b { sz := 1,rows := [[.int .i64 q]],own := true,live := true }) := Z8w s q old hb
theorem Zz7 (s : ByteArray) (n : Int) : Pr 51 [Zbf s n] (iC n) := by
 by_cases h : n = 0
 ·subst h
  have hv : Zbf s 0 = .c .nilI := rfl
  rw [hv]
  refine Zl mixed Zqg rfl fun hl T => ?_
  unfold Zlu
  simp only [go_sem,simprocAttr]
  refine Z3 (Zbcl _ _) (fun h => by cases h) ?_
  simp only [go_sem,simprocAttr]
  simp [Zf,Ze,Zk,Zg,Zh,Zd,Zc,Zb]
 ·have hv : Zbf s n = .c (Z21 s n) := by unfold Zbf; rw [if_neg h]
  rw [hv]
  refine Zl mixed Zqg rfl fun hl T => ?_
  unfold Zlu
  simp only [go_sem,simprocAttr]
  refine Z3 (Zbcj s n 0 (b := 0) rfl) (fun h => by cases h) ?_
  simp only [go_sem,simprocAttr]
  simp [Zf,Ze,Zk,Zg,Zh,Zd,Zc,Zb]
theorem Acc.carry {sz : Nat} {rows : List (List Cell)} {v : AVal} {H H' : Heap} (h : Acc sz rows v H) (hk : ∀ (b : Nat) (B : Blk),H[b]? = some B → ¬ NB v b → H'[b]? = some B) : Acc sz rows v H' := by
 rcases h with h | ⟨b,ext,h1,h2⟩
 ·exact .inl h
 ·exact .inr ⟨b,ext,h1,hk b _ h2 (fun hn => hn _ _ _ _ h1)⟩
theorem Acc.pre {sz : Nat} {rows : List (List Cell)} {v : AVal} {H H' : Heap} (h : Acc sz rows v H) (hp : H <+: H') : Acc sz rows v H' := h.carry fun _ _ hb _ => Zm8 hp hb
theorem Z02 (log : List Rec) (r : Rec) : log.map Rec.cells ++ [r.cells] = (log ++ [r]).map Rec.cells := by simp
theorem Z05 {H : Heap} {xs : List AVal} : Zf H (.tup xs) = (Zd H xs).map AVal.tup := by
 simp only [Zf]
 cases Zd H xs <;> rfl
def Zkx : ACode := .seq (.seq (.region [im 103 15,ii 104 (.bin .lss (.t 103) (ki 8))] false) (.cond (.t 104) .skip (.exit 1))) (.seq (.block 2 (.seq (.region [im 107 14,im 108 11,ii 109 (.bin .add (.t 108) (ki 1)),im 110 15,icl 111 18 [.t 107,.t 109,.t 110]] false) (.cond (.t 111) (.region [ifl 112 4 13,il 113 112,im 114 15,im 115 1,im 116 15,icl 117 24 [.t 115,.t 116],icl 118 73 [.t 117],ifl 119 0 13,il 120 119,icl 121 74 [.t 120],ii 122 (.load true 6 (.t 13)),icl 123 75 [.t 122],im 124 0,ifl 125 0 13,il 126 125,icl 127 25 [.t 124,.t 126],icl 128 72 [.t 118,.t 121,.t 123,.t 127],ii 129 (.build [.int .i64 0,.str ⟨#[]⟩] [(0,1,.t 114),(1,1,.t 128)]),iz 130 (.lit 2 [.int .i64 0,.str ⟨#[]⟩] 1 [(0,.t 129)]),ii 131 (.app 2 24 (.t 113) (.t 130)),ifl 132 4 13,ie (.store 1 (.t 132) (.t 131))] true) .skip))) (.region [im 105 15,ii 106 (.bin .add (.t 105) (ki 1)),im 15 106] false))
def Zpr : ACode := .seq (.seq (.region [im 133 11,ii 134 (.bin .gtr (.t 133) (ki 0))] false) (.cond (.t 134) (.region [im 135 0,im 136 11,icl 137 25 [.t 135,.t 136],ii 138 (.load true 6 (.t 13)),icl 139 35 [.t 137,.t 138],ifl 140 5 13,ie (.store 1 (.t 140) (.t 139))] true) .skip)) (.seq (.region [ii 141 (.load true 6 (.t 13)),ii 142 (.build [.int .i64 0,.str ⟨#[]⟩,.int .i64 0,.int .i64 0,.nilS,.str ⟨#[]⟩,.int .i64 0] [(0,6,.t 141)]),ie (.store 7 (.t 10) (.t 142))] false) .ret)
def Zmu : AFun := ⟨[.cell 10 true 7],.seq (.region [ii 10 (.new [.int .i64 0,.str ⟨#[]⟩,.int .i64 0,.int .i64 0,.nilS,.str ⟨#[]⟩,.int .i64 0])] false) (.seq (.region [im 16 2,ii 17 (.len (.t 16)),im 11 17] false) (.seq (.region [im 18 2,im 19 11,im 20 4,icl 21 18 [.t 18,.t 19,.t 20],im 12 21] false) (.seq (.block 0 (.seq (.region [im 23 3,ii 24 (.bin .neq (.t 23) (ki 1)),im 25 24,ig 26 (.mv (.t 3)) 25 true,ig 27 (.bin .neq (.t 26) (ki 2)) 25 true,ii 28 (.pick (.t 25) (.t 27) (.k (.c (.bool false)))),im 29 28,ig 30 (.mv (.t 4)) 29 false,ig 31 (.bin .lss (.t 30) (ki 0)) 29 false,ii 32 (.pick (.t 29) (.k (.c (.bool true))) (.t 31)),im 33 32,ig 34 (.mv (.t 4)) 33 false,ig 35 (.bin .geq (.t 34) (ki 8)) 33 false,ii 36 (.pick (.t 33) (.k (.c (.bool true))) (.t 35)),im 37 36,ig 38 (.mv (.t 2)) 37 false,ig 39 (.call (.f 20) [.t 38]) 37 false,ig 40 (.un .not (.t 39)) 37 false,ii 41 (.pick (.t 37) (.k (.c (.bool true))) (.t 40)),im 42 41,ig 43 (.mv (.t 11)) 42 false,ig 44 (.bin .eql (.t 43) (ki 0)) 42 false,ig 45 (.mv (.t 44)) 42 false,ig 46 (.mv (.t 3)) 45 true,ig 47 (.bin .neq (.t 46) (ki 1)) 45 true,ig 48 (.mv (.t 47)) 45 true,ig 49 (.mv (.t 4)) 48 false,ig 50 (.bin .neq (.t 49) (ki 0)) 48 false,ig 51 (.pick (.t 48) (.k (.c (.bool true))) (.t 50)) 45 true,ig 52 (.pick (.t 45) (.t 51) (.k (.c (.bool false)))) 42 false,ii 53 (.pick (.t 42) (.k (.c (.bool true))) (.t 52)),im 54 53,ig 55 (.mv (.t 3)) 54 false,ig 56 (.bin .eql (.t 55) (ki 2)) 54 false,ig 57 (.mv (.t 56)) 54 false,ig 58 (.mv (.t 4)) 57 true,ig 59 (.bin .eql (.t 58) (ki 0)) 57 true,ig 60 (.pick (.t 57) (.t 59) (.k (.c (.bool false)))) 54 false,ii 61 (.pick (.t 54) (.k (.c (.bool true))) (.t 60)),im 22 61] false) (.cond (.t 22) (.seq (.region [ii 62 (.build [.int .i64 0,.str ⟨#[]⟩,.int .i64 0,.int .i64 0,.nilS,.str ⟨#[]⟩,.int .i64 0] [(6,1,.k (.c (.int .i64 1)))]),ie (.store 7 (.t 10) (.t 62))] false) .ret) (.seq (.region [im 64 3,ii 65 (.bin .eql (.t 64) (ki 1)),im 66 65,ig 67 (.mv (.t 12)) 66 true,ii 68 (.pick (.t 66) (.t 67) (.k (.c (.bool false)))),im 63 68] false) (.cond (.t 63) (.seq (.region [ii 69 (.build [.int .i64 0,.str ⟨#[]⟩,.int .i64 0,.int .i64 0,.nilS,.str ⟨#[]⟩,.int .i64 0] [(6,1,.k (.c (.int .i64 3)))]),ie (.store 7 (.t 10) (.t 69))] false) .ret) (.seq (.region [im 71 3,ii 72 (.bin .eql (.t 71) (ki 2)),im 73 72,ig 74 (.mv (.t 12)) 73 true,ig 75 (.un .not (.t 74)) 73 true,ii 76 (.pick (.t 73) (.t 75) (.k (.c (.bool false)))),im 70 76] false) (.cond (.t 70) (.seq (.region [ii 77 (.build [.int .i64 0,.str ⟨#[]⟩,.int .i64 0,.int .i64 0,.nilS,.str ⟨#[]⟩,.int .i64 0] [(6,1,.k (.c (.int .i64 2)))]),ie (.store 7 (.t 10) (.t 77))] false) .ret) (.seq (.region [im 79 11,ii 80 (.bin .geq (.t 79) (ki 40)),im 78 80] false) (.cond (.t 78) (.seq (.region [ii 81 (.build [.int .i64 0,.str ⟨#[]⟩,.int .i64 0,.int .i64 0,.nilS,.str ⟨#[]⟩,.int .i64 0] [(6,1,.k (.c (.int .i64 12)))]),ie (.store 7 (.t 10) (.t 81))] false) .ret) .skip))))))))) (.seq (.region [im 82 11,ii 83 (.bin .add (.t 82) (ki 1)),im 84 3,im 85 4,ii 86 (.build [.int .i64 0,.str ⟨#[]⟩,.int .i64 0,.int .i64 0,.nilS,.str ⟨#[]⟩] [(0,1,.t 83),(2,1,.t 84),(3,1,.t 85)]),ii 13 (.new [.int .i64 0,.str ⟨#[]⟩,.int .i64 0,.int .i64 0,.nilS,.str ⟨#[]⟩]),ie (.store 6 (.t 13) (.t 86))] false) (.seq (.seq (.region [im 87 11,ii 88 (.bin .gtr (.t 87) (ki 0))] false) (.cond (.t 88) (.region [im 89 2,im 90 11,ii 91 (.bin .sub (.t 90) (ki 1)),ixx 92 6 89 91,ii 93 (.load true 6 (.t 92)),icl 94 27 [.t 93],ifl 95 1 13,ie (.store 1 (.t 95) (.t 94))] false) .skip)) (.seq (.region [iz 96 (.lit 6 [.int .i64 0,.str ⟨#[]⟩,.int .i64 0,.int .i64 0,.nilS,.str ⟨#[]⟩] 0 []),im 97 2,ii 98 (.appZ 6 80 (.t 96) (.t 97)),im 14 98] false) (.seq (.region [im 99 14,ii 100 (.load true 6 (.t 13)),iz 101 (.lit 6 [.int .i64 0,.str ⟨#[]⟩,.int .i64 0,.int .i64 0,.nilS,.str ⟨#[]⟩] 1 [(0,.t 100)]),ii 102 (.app 6 80 (.t 99) (.t 101)),im 14 102] false) (.seq (.fz 14 (.seq (.region [ii 15 (.mv (ki 0))] false) (.block 1 (.loop Zkx)))) Zpr))))))))⟩
theorem Z6d : Zm Tryz.prog 30 = some Zmu.erase := by kernel_rfl
def Zvc : AFun := ⟨[.tmp 0],.seq (.region [ii 0 (.mv (.k (.c (.bool false))))] false) (.seq (.region [icl 8 17 [.k (.c (.str ⟨#[115]⟩)),.k (.c (.str ⟨#[109]⟩)),.k (.c .nilS),.k (.c (.int .i64 2)),.k (.c (.int .i64 1))],im 7 8,ii 9 (.ext (.t 7) 0),ii 10 (.ext (.t 7) 1),ii 1 (.new [.int .i64 0,.str ⟨#[]⟩,.int .i64 0,.int .i64 0,.nilS,.str ⟨#[]⟩]),ie (.store 6 (.t 1) (.t 9)),im 2 10] false) (.seq (.region [icl 12 17 [.k (.c (.str ⟨#[115]⟩)),.k (.c (.str ⟨#[109]⟩)),.k (.c .nilS),.k (.c (.int .i64 1)),.k (.c (.int .i64 0))],im 11 12,ii 13 (.ext (.t 11) 0),ii 14 (.ext (.t 11) 1),ii 3 (.new [.int .i64 0,.str ⟨#[]⟩,.int .i64 0,.int .i64 0,.nilS,.str ⟨#[]⟩]),ie (.store 6 (.t 3) (.t 13)),im 4 14] false) (.seq (.region [icl 16 24 [.k (.c (.str ⟨#[109]⟩)),.k (.c (.int .i64 0))],ii 17 (.load true 6 (.t 3)),icl 18 23 [.t 16,.t 17,.k (.c (.int .i64 0))],im 15 18,ii 19 (.ext (.t 15) 0),ii 20 (.ext (.t 15) 1),im 5 19,im 6 20] true) (.seq (.region [im 21 2,icl 22 19 [.t 21],ii 23 (.bin .eql (.t 22) (ki 1)),im 24 23,ig 25 (.mv (.t 4)) 24 true,ig 26 (.call (.f 19) [.t 25]) 24 true,ig 27 (.bin .eql (.t 26) (ki 0)) 24 true,ii 28 (.pick (.t 24) (.t 27) (.k (.c (.bool false)))),im 29 28,ig 30 (.mv (.t 6)) 29 true,ii 31 (.pick (.t 29) (.t 30) (.k (.c (.bool false)))),im 32 31,ig 33 (.mv (.t 5)) 32 true,ig 34 (.call (.f 25) [.k (.c (.str ⟨#[115]⟩)),.k (.c (.int .i64 1))]) 32 true,ig 35 (.bin .eql (.t 33) (.t 34)) 32 true,ii 36 (.pick (.t 32) (.t 35) (.k (.c (.bool false)))),im 0 36] false) .ret))))⟩
theorem Z40 : Zm Tryz.prog 15 = some Zvc.erase := by kernel_rfl
def Zh4 : ACode := .seq (.seq (.region [im 16 8,im 17 2,ii 18 (.len (.t 17)),ibt 19 .lss 16 18,im 20 19,ig 21 (.mv (.t 7)) 20 true,ig 22 (.len (.t 21)) 20 true,ig 23 (.bin .lss (.t 22) (ki 8)) 20 true,ii 24 (.pick (.t 20) (.t 23) (.k (.c (.bool false))))] false) (.cond (.t 24) .skip (.exit 0))) (.seq (.block 1 (.seq (.region [im 27 2,im 28 8,ixx 29 1 27 28,il 30 29,ii 31 (.conv .i64 (.t 30)),ii 32 (.bin .rem (.t 31) (ki 4)),ii 33 (.bin .add (ki 1) (.t 32)),im 9 33] false) (.seq (.region [ii 10 (.mv (ki 1))] false) (.seq (.seq (.region [im 34 7,im 35 7,ii 36 (.len (.t 35)),im 37 9,icl 38 18 [.t 34,.t 36,.t 37]] false) (.cond (.t 38) (.region [ii 10 (.mv (ki 2))] false) .skip)) (.region [im 39 7,im 40 0,im 41 1,im 42 7,im 43 10,im 44 9,icl 45 30 [.t 40,.t 41,.t 42,.t 43,.t 44],ii 46 (.fldV true 0 6 (.t 45)),iz 47 (.lit 6 [.int .i64 0,.str ⟨#[]⟩,.int .i64 0,.int .i64 0,.nilS,.str ⟨#[]⟩] 1 [(0,.t 46)]),ii 48 (.app 6 80 (.t 39) (.t 47)),im 7 48] false))))) (.region [im 25 8,ii 26 (.bin .add (.t 25) (ki 1)),im 8 26] false))
def Zhx : ACode := .seq (.region [im 49 7,im 6 49] false) .ret
def Z0m : AFun := ⟨[.tmp 6],.seq (.region [ii 6 (.mv (.k (.c .nilS)))] false) (.seq (.region [im 11 0,im 12 1,icl 13 30 [.t 11,.t 12,.k (.c .nilS),.k (.c (.int .i64 1)),.k (.c (.int .i64 0))],ii 14 (.fldV true 0 6 (.t 13)),ii 15 (.lit 6 [.int .i64 0,.str ⟨#[]⟩,.int .i64 0,.int .i64 0,.nilS,.str ⟨#[]⟩] 1 [(0,.t 14)]),im 7 15] false) (.seq (.seq (.region [ii 8 (.mv (ki 0))] false) (.block 0 (.loop Zh4))) Zhx))⟩
theorem Z91 : Zm Tryz.prog 16 = some Z0m.erase := by kernel_rfl
def Z4e : AFun := ⟨[.tmp 2],.seq (.region [ii 2 (.mv (ki 0))] false) (.seq (.region [im 3 0,im 2 3] false) .ret)⟩
theorem Zbdl : Zm Tryz.prog 19 = some Z4e.erase := by kernel_rfl
theorem Z4f {sz bytes : Nat} {rows : List (List Cell)} {H : Heap} (hb : rows.length * bytes ≤ 140737488355328) : Zem sz bytes (.c (.zer sz)) (.c (.lst sz rows)) H = some (Zdd sz rows H,Zdw sz rows H) := by
 unfold Zdd Zdw
 by_cases h0 : rows = []
 ·subst h0; simp [Zem,Zc3,Heap.rowsOf,Zbh]
 ·rw [if_neg h0,if_neg h0]
  simp only [Zem,Zc3,Heap.rowsOf,Zbh,beq_self_eq_true,if_true]
  rw [if_neg (by intro e; exact h0 (List.eq_nil_of_length_eq_zero e)),if_pos (by omega)]
theorem Z7c {H : Heap} {B0 B1 : Blk} (h0 : H[0]? = some B0) (h1 : H[1]? = some B1) (C : Blk) : (H.set 1 C)[1]? = some C ∧ (H.set 1 C)[0]? = some B0 := ⟨Zw h1,Zo h0 (by omega)⟩
def Zgp : List (List Cell) → Bool
 | [] => true
 | r :: l => Ze2 r && Zgp l
theorem Zx4 : ∀ {rows : List (List Cell)},Zgp rows = true → ∀ {i : Nat} {r : List Cell},rows[i]? = some r → Ze2 r = true
 | [],_,i,r,h => by simp at h
 | x :: l,hp,i,r,h => by
  simp only [Zgp,Bool.and_eq_true] at hp
  cases i with
  | zero => simp at h; subst h; exact hp.1
  | succ i => exact Zx4 hp.2 (by simpa using h)
theorem Z0o {B B0 : Nat} {m0 m1 : LMap} {w w' : World} {E : Heap} {x : Cell} {u : Value} {sz : Nat} {rows : List (List Cell)} {m2 : LMap} (hst : St B0 [] m0 w E m1 w') (h0 : m0.f = fun _ => none) (hz : ∀ g,w.heap.size ≤ g ∧ g < w'.heap.size → m2.z g)
  (hacc : Acc sz rows (.c x) E) (hp : Zgp rows = true) (hr : VR m1 (Zj w') x u) : VR m2 (Zj w') (.lst sz rows) u := by
 rcases hacc with ⟨h0',hx | hx⟩ | ⟨b,ext,hx,hb⟩
 ·injection hx with hx; subst hx; subst h0'
  cases hr; exact .lstN
 ·injection hx with hx; subst hx; subst h0'
  exact Zj4 (c := .zer sz) rfl (hr.plain rfl)
 ·injection hx with hx; subst hx
  cases hr with
  | slc h1 h2 h3 h4 =>
  obtain ⟨L,e,ez,h5⟩ := h4
  obtain ⟨k,hk,hat⟩ := hst.rel.blk b L e
  rw [hb] at hk; injection hk with hk; subst hk
  have hfresh : w.heap.size ≤ L.g ∧ L.g < w'.heap.size := by
   have hm0 : m0 b = none := by rw [h0]
   rcases hst.fresh b L hm0 e with h | ⟨x,_,_,e',_⟩
   ·exact ⟨h,hat.lt (.inr rfl)⟩
   ·rw [h0] at e'; cases e'
  subst ez
  have hrow : ∀ (i : Nat) r,rows[i]? = some r → Z2u m1 w' L i r := fun i r hr => hat.rows rfl i r (by
   rw [List.getElem?_append_left (List.getElem?_eq_some_iff.1 hr).1]; exact hr)
  refine VR.lst' (g := L.g) (o := L.o) (vs := fun i f => (w'.cell? ⟨L.g,L.o + i * L.sz + f,none⟩).getD undef) rfl h1 h3 (fun hr => ⟨?_,hz _ hfresh⟩) (fun i r e => (hrow i r e).1) (fun i r f x e1 e2 => ?_) (fun i r f x e1 e2 => ?_)
  ·have hc0 : ∀ c : Nat,rows.length ≤ c → c ≠ 0 := fun c hc h0 => hr (List.eq_nil_of_length_eq_zero (by omega))
   have := (h5 (hc0 _ h1)).1
   simpa using this
  ·obtain ⟨v,k1,_⟩ := (hrow i r e1).2 f x e2
   rw [Zf9]
   simp [k1]
  ·obtain ⟨v,k1,k2⟩ := (hrow i r e1).2 f x e2
   simp only [k1,Option.getD_some]
   exact k2.plain (Zkv (Zx4 hp e1) e2)
def NewC (E : Heap) (x y : Cell) : Prop := (Zgx x = true ∧ y = x) ∨ ∃ sz rows,y = .lst sz rows ∧ Acc sz rows (.c x) E ∧ Zgp rows = true
inductive NewA (E : Heap) : AVal → AVal → Prop where
 | c {x y} : NewC E x y → NewA E (.c x) (.c y)
 | agg {xs ys} : All2 (NewC E) xs ys → NewA E (.agg xs) (.agg ys)
theorem Z06 {B0 : Nat} {m0 m1 : LMap} {w w' : World} {E : Heap} {m2 : LMap} (hst : St B0 [] m0 w E m1 w') (h0 : m0.f = fun _ => none) (hz : ∀ g,w.heap.size ≤ g ∧ g < w'.heap.size → m2.z g) : ∀ {xs ys : List Cell} {us : List Value},All2 (NewC E) xs ys → All2 (VR m1 (Zj w')) xs us → All2 (VR m2 (Zj w')) ys us
 | _,_,_,.nil,h => by cases h; exact .nil
 | _,_,_,.cons k ks,h => by
  cases h with
  | cons a b =>
   refine .cons ?_ (Z06 hst h0 hz ks b)
   rcases k with ⟨hp,rfl⟩ | ⟨sz,rows,rfl,hacc,hp⟩
   ·exact a.plain hp
   ·exact Z0o (B := 0) hst h0 hz hacc hp a
theorem CallSound.freshV {P : Program} {f : Nat} {args args' : List AVal} {v v' : AVal} {E : Heap} (h : CallSound P f args' [] v E) (hn : NewA E v v') {H : Heap} (ha : Zd H args = some args') : CallSound P f args H v' H := by
 refine ⟨h.there,fun B m w vs r hargs => ?_⟩
 have r0 : Rel w.heap.size (flat fun g => g < w.heap.size) [] w := Rel.flat (fun _ h => h) fun g c k => ⟨r.zlt g (r.lib g c k).1,(r.lib g c k).2⟩
 have ha' := Zvo (z := fun g => g < w.heap.size) r r.zlt (fun b L k e ek hl => by
  obtain ⟨k',ek',hat⟩ := r.blk b L e
  rw [ek] at ek'; injection ek' with ek'; subst ek'
  exact hat.lt (.inr hl)) ha hargs
 refine (h.calls w.heap.size _ w vs r0 ha').mono ?_
 rintro e w' ⟨u,m1,rfl,hst,hr⟩
 refine ⟨u,⟨m.f,fun g => m.z g ∨ (w.heap.size ≤ g ∧ g < w'.heap.size)⟩,rfl,St.ofBelow r (hst.below r0) hst.drawn (fun _ h => .inl h) (fun _ h => h),?_⟩
 cases hn with
 | c k =>
  cases hr with
  | c hr =>
   rcases k with ⟨hp,rfl⟩ | ⟨sz,rows,rfl,hacc,hp⟩
   ·exact .c (hr.plain hp)
   ·exact .c (Z0o (B := 0) (m2 := ⟨m.f,fun g => m.z g ∨ (w.heap.size ≤ g ∧ g < w'.heap.size)⟩) hst rfl (fun g h => Or.inr h) hacc hp hr)
 | agg k =>
  cases hr with
  | agg hr => exact .agg (Z06 (m2 := ⟨m.f,fun g => m.z g ∨ (w.heap.size ≤ g ∧ g < w'.heap.size)⟩) hst rfl (fun g h => Or.inr h) k hr)
theorem CallSound.freshL {P : Program} {f : Nat} {args args' : List AVal} {v : AVal} {E : Heap} {sz : Nat} {rows : List (List Cell)} (h : CallSound P f args' [] v E) (hacc : Acc sz rows v E) (hp : Zgp rows = true)
  {H : Heap} (ha : Zd H args = some args') : CallSound P f args H (.c (.lst sz rows)) H := by
 obtain ⟨x,rfl⟩ : ∃ x,v = .c x := by
  rcases hacc with ⟨_,rfl | rfl⟩ | ⟨b,ext,rfl,_⟩ <;> exact ⟨_,rfl⟩
 exact h.freshV (.c (.inr ⟨sz,rows,rfl,hacc,hp⟩)) ha
theorem All2.getR {α β : Type} {R : α → β → Prop} : ∀ {l : List α} {r : List β},All2 R l r → ∀ {i : Nat} {b : β},r[i]? = some b → ∃ a,l[i]? = some a ∧ R a b
 | _,_,.nil,i,b,h => by simp at h
 | _,_,.cons h t,0,b,e => by simp at e; subst e; exact ⟨_,rfl,h⟩
 | _,_,.cons h t,i + 1,b,e => by simp at e; obtain ⟨a,h1,h2⟩ := All2.getR t e; exact ⟨a,by simpa using h1,h2⟩
theorem All2.len {α β : Type} {R : α → β → Prop} : ∀ {l : List α} {r : List β},All2 R l r → l.length = r.length
 | _,_,.nil => rfl
 | _,_,.cons _ t => by simp [All2.len t]
theorem VR.wk_rows {m : LMap} {σ : Mem} {sz : Nat} {rows rows' : List (List Cell)} {v : Value} (h : VR m σ (.lst sz rows) v) (k : All2 (All2 WkC) rows rows') : VR m σ (.lst sz rows') v := by
 have hl := k.len
 cases h with
 | lstN => have : rows' = [] := List.eq_nil_of_length_eq_zero (by simpa using hl.symm); subst this; exact .lstN
 | @lst _ A c g o _ vs h1 h2 h3 h4 h5 h6 =>
  rw [hl] at h1 ⊢
  refine .lst (vs := vs) h1 h2 (fun hne => h3 (fun e => hne (by subst e; exact List.eq_nil_of_length_eq_zero (by simpa using hl.symm)))) (fun i r hr => ?_) (fun i r f x hr hx => ?_) (fun i r f x hr hx => ?_)
  ·obtain ⟨a,ha,hk⟩ := k.getR hr
   rw [← hk.len]; exact h4 i a ha
  ·obtain ⟨a,ha,hk⟩ := k.getR hr
   obtain ⟨y,hy,_⟩ := hk.getR hx
   exact h5 i a f y ha hy
  ·obtain ⟨a,ha,hk⟩ := k.getR hr
   obtain ⟨y,hy,hw⟩ := hk.getR hx
   exact (h6 i a f y ha hy).wk hw
theorem Z7k : ∀ r : List Cell,All2 WkC r r
 | [] => .nil
 | c :: r => .cons (.same c) (Z7k r)
theorem Zz5 {x x' : List Cell} (h : All2 WkC x x') : ∀ rows : List (List Cell),All2 (All2 WkC) (rows ++ [x]) (rows ++ [x'])
 | [] => .cons h .nil
 | r :: rows => .cons (Z7k r) (Zz5 h rows)
theorem CallSound.wk_row {P : Program} {f sz : Nat} {more : List AVal} {rows rows' : List (List Cell)} {H H' : Heap} {v : AVal} (h : CallSound P f (.c (.lst sz rows') :: more) H v H') (k : All2 (All2 WkC) rows rows') : CallSound P f (.c (.lst sz rows) :: more) H v H' :=
 ⟨h.there,fun B m w vs r ha => h.calls B m w vs r (by
  obtain ⟨vs⟩ := vs
  cases ha with
  | cons a1 a2 =>
   cases a1 with
   | c a1 => exact .cons (.c (a1.wk_rows k)) a2)⟩
theorem Zxz : ∀ l : List Int,Zgp (l.map iRow) = true
 | [] => rfl
 | n :: l => by simp only [List.map_cons,Zgp,Zxz l,Bool.and_true]; rfl
theorem Z09 {α : Type} (f : α → Wrp) (pre : List α) (m : α) : ((pre ++ [m]).map f).map Wrp.cells = (pre.map f).map Wrp.cells ++ [[.int .i64 (f m).dev,.str (f m).box]] := by simp [Wrp.cells]
theorem Znc {H : Heap} {y : Cell} {rows : List (List Cell)} (h : Acc 2 rows (.c y) H) (hc : closedR rows = true) (a c d : Int) (b t : ByteArray) : ∃ x,Ze H y = some x ∧ WkC x (.lst 2 rows) ∧ Zf H (.agg [.int .i64 a,.str b,.int .i64 c,.int .i64 d,y,.str t]) = some (.agg [.int .i64 a,.str b,.int .i64 c,.int .i64 d,x,.str t]) ∧ WkA (.agg [.int .i64 a,.str b,.int .i64 c,.int .i64 d,x,.str t]) (.agg [.int .i64 a,.str b,.int .i64 c,.int .i64 d,.lst 2 rows,.str t]) := by
 obtain ⟨v,hv,hw⟩ := h.told hc
 have key : ∃ x,Ze H y = some x ∧ WkC x (.lst 2 rows) := by
  simp only [Zf] at hv
  split at hv <;> try (cases hv; done)
  rename_i x hx
  injection hv with hv
  subst hv
  cases hw with
  | same => exact ⟨_,hx,.same _⟩
  | c k => exact ⟨_,hx,k⟩
 obtain ⟨x,hx,hk⟩ := key
 refine ⟨x,hx,hk,?_,.agg (.cons (.same _) (.cons (.same _) (.cons (.same _) (.cons (.same _) (.cons hk (.cons (.same _) .nil))))))⟩
 simp only [Zf,Zg,hx]
 simp [Ze,Zk,Zc]
theorem Zl6 (secret master : ByteArray) (log : List Rec) (kind dev : Int) : (Zdu secret master log kind dev).cells = [.int .i64 ((log.length : Int) + 1),.str (Zbe log),.int .i64 kind,.int .i64 dev,.lst 2 (((Zb3 (log ++ [Zbj log kind dev]) ((log.length : Int) + 1)).map (Zd8 secret master (Zbj log kind dev))).map Wrp.cells),.str ⟨#[]⟩] := rfl
theorem Zxj (secret master : ByteArray) (log : List Rec) (kind dev : Int) (h0 : log.length ≠ 0) : (Zb1 secret master log kind dev).cells = [.int .i64 ((log.length : Int) + 1),.str (Zbe log),.int .i64 kind,.int .i64 dev,.lst 2 (((Zb3 (log ++ [Zbj log kind dev]) ((log.length : Int) + 1)).map (Zd8 secret master (Zbj log kind dev))).map Wrp.cells),.str (tagR (Zce secret log.length) (Zdu secret master log kind dev))] := by
 unfold Zb1
 rw [if_neg h0]; rfl
theorem Zv0 (secret master : ByteArray) (log : List Rec) (kind dev : Int) (h0 : log.length = 0) : (Zb1 secret master log kind dev).cells = (Zdu secret master log kind dev).cells := by
 unfold Zb1
 rw [if_pos h0]
set_option maxHeartbeats 4000000 in
theorem Znj (secret master : ByteArray) (log : List Rec) (kind dev : Int) (hs : secret.size ≤ 1000000) (hm : master.size ≤ 1000000) (h9 : log.length ≤ 100000) :
  Pr 17 [sC secret,sC master,.c (Z2 log),iC kind,iC dev] (.tup [.agg (Zb9 secret master log kind dev).cells,iC (Zbm log kind dev)]) := by
 have hmk := Z2g log kind dev
 have hnum := Zz7 Zxo (Zbm log kind dev)
 refine Zgf mixed Z3k (by simp [Zq,Zp,Zc,Z2,Zb5]) fun hl T => ?_
 clear hl
 unfold Zvb
 by_cases hz : Zbm log kind dev = 0
 ·have hmr : Zb9 secret master log kind dev = Zb1 secret master log kind dev := by unfold Zb9; rw [if_pos hz]
  have hsv : Zbf Zxo (Zbm log kind dev) = .c .nilI := by rw [hz]; rfl
  rw [hsv] at hmk
  rw [hmr,hz]
  obtain ⟨z1,z2,z3,z4,z5,z6,z7,z8⟩ := Zgj hz
  have h40 : log.length ≤ 40 := by omega
  have hnx := Z2e log kind dev h40
  have hbm := Zq0 hz
  have hhd : Pr 53 [.agg [.int .i64 ((log.length : Int) + 1),.str (Zbe log),.int .i64 kind,.int .i64 dev,.nilS,.str ⟨#[]⟩]] (sC (Zcr (Zbj log kind dev))) :=
   (Zp6 (Zbj log kind dev)).wk (.cons (.agg (.cons (.same _) (.cons (.same _) (.cons (.same _) (.cons (.same _) (.cons (.nilS _) (.cons (.same _) .nil))))))) .nil)
  have hhs := Zrh (Zbj log kind dev)
  have hsrc : ∀ H : Heap,CallSound Tryz.prog 55 ([.c (.lst 6 (log.map Rec.cells))] ++ List.map AVal.c []) H (Zdd 6 (log.map Rec.cells) H) (Zdw 6 (log.map Rec.cells) H) := fun H => Zoa (.inl rfl) (by omega)
  obtain ⟨vm,Em,hm1,hm2⟩ := Zlh (log ++ [Zbj log kind dev]) ((log.length : Int) + 1) (by unfold maxLen; simp; omega)
  obtain ⟨ms,hms⟩ : ∃ ms,ms = Zb3 (log ++ [Zbj log kind dev]) ((log.length : Int) + 1) := ⟨_,rfl⟩
  have hms8 : ∀ m ∈ ms,0 ≤ m ∧ m < 8 := fun m h => Zvm (by rw [hms] at h; exact h)
  have hmsl : ms.length ≤ 8 := by
   rw [hms]
   unfold Zb3
   exact List.length_filter_le _ _
  rw [← hms] at hm2
  have hep := Zr6 secret (log.length + 1) hs (by omega)
  have hen : ((log.length + 1 : Nat) : Int) = (log.length : Int) + 1 := by omega
  rw [hen] at hep
  have hno := Zr9 ((log.length : Int) + 1)
  have hown := fun k : Nat => fun hk : k < 8 => Z5x master k hm (by omega)
  have hwrp := fun k : Nat => Ztj (ownK master k) (by rw [Ztn]; omega)
  have hseal := fun k : Nat => Z53 (Zdf (ownK master k)) (Zc6 ((log.length : Int) + 1)) (Zcr (Zbj log kind dev)) (Zce secret ((log.length : Int) + 1)) hhs
  have htag := Z60 (Zce secret log.length) (Zdu secret master log kind dev) (by rw [Zik]; omega)
  rw [Zl6,← hms] at htag
  have hepl := Zr6 secret log.length hs (by omega)
  have hnc := Zxj secret master log kind dev
  have hnc0 := Zv0 secret master log kind dev
  rw [Zl6,← hms] at hnc0
  rw [← hms] at hnc
  have hrow2 := Zb5 (log ++ [Zbj log kind dev])
  have hml : ((log.map Rec.cells).length : Int) = (log.length : Int) := by simp
  have hbc : (Zbj log kind dev).cells = [.int .i64 ((log.length : Int) + 1),.str (Zbe log),.int .i64 kind,.int .i64 dev,.lst 2 [],.str ⟨#[]⟩] := rfl
  simp only [Z2] at hmk hnx hm1 ⊢
  rw [← Z02,hbc] at hm1
  have hm1' : CallSound Tryz.prog 54 [.c (.lst 6 (log.map Rec.cells ++ [[.int .i64 ((log.length : Int) + 1),.str (Zbe log),.int .i64 kind,.int .i64 dev,.nilS,.str ⟨#[]⟩]])),iC ((log.length : Int) + 1)] [] vm Em :=
   hm1.wk_row (Zz5 (.cons (.same _) (.cons (.same _) (.cons (.same _) (.cons (.same _) (.cons (.nilS _) (.cons (.same _) .nil)))))) _)
  have hrow2 : closedR (log.map Rec.cells ++ [[.int .i64 ((log.length : Int) + 1),.str (Zbe log),.int .i64 kind,.int .i64 dev,.nilS,.str ⟨#[]⟩]]) = true := by
   have := Zb5 log
   have key : ∀ rows : List (List Cell),closedR rows = true → closedR (rows ++ [[.int .i64 ((log.length : Int) + 1),.str (Zbe log),.int .i64 kind,.int .i64 dev,.nilS,.str ⟨#[]⟩]]) = true := by
    intro rows
    induction rows with
    | nil => intro _; rfl
    | cons x rows ih =>
     intro h
     simp only [List.cons_append,closedR,Bool.and_eq_true] at h ⊢
     exact ⟨h.1,ih h.2⟩
   exact key _ this
  have hmem : ∀ (v : AVal) (H : Heap),Acc 6 (log.map Rec.cells ++ [[.int .i64 ((log.length : Int) + 1),.str (Zbe log),.int .i64 kind,.int .i64 dev,.nilS,.str ⟨#[]⟩]]) v H → CallSound Tryz.prog 54 ([v,iC ((log.length : Int) + 1)] ++ List.map AVal.c []) H (.c (.lst 1 (ms.map iRow))) H := fun v H h =>
   hm1'.freshL hm2 (Zxz ms) (by simp [Zd,h.view_ne (by simp) hrow2,Zf,Ze,Zk,Zc])
  have hwf : ∀ m,Zd8 secret master (Zbj log kind dev) m = ⟨m,Zc2 (Zdf (ownK master m)) (Zc6 ((log.length : Int) + 1)) (Zcr (Zbj log kind dev)) (Zce secret ((log.length : Int) + 1))⟩ := fun m => rfl
  generalize Zcr (Zbj log kind dev) = hd at hhd hhs hseal hwf
  generalize tagR (Zce secret log.length) (Zdu secret master log kind dev) = TG at htag hnc
  generalize Zd8 secret master (Zbj log kind dev) = wf at htag hnc hnc0 hwf
  generalize Zbe log = pv at *
  generalize Zce secret ((log.length : Int) + 1) = ek at hep hseal hwf
  generalize Zc6 ((log.length : Int) + 1) = nn at hno hseal hwf
  generalize Zce secret log.length = el at htag hepl
  have hmsl' : ∀ pre rest : List Int,ms = pre ++ rest → pre.length ≤ 8 := fun pre rest h => by rw [h] at hmsl; simp at hmsl; omega
  have hseq : IntKind.wrap .i64 ((log.length : Int) + 1 - 1) = (log.length : Int) := by rw [Zn (by omega)]; omega
  have hclw : ∀ l : List Wrp,closedR (l.map Wrp.cells) = true := Zjy
  obtain ⟨N,hN⟩ : ∃ N : Int,N = (log.length : Int) + 1 := ⟨_,rfl⟩
  have loop : ∀ (rest pre : List Int) (y : Cell) (e : Env) (H : Heap),ms = pre ++ rest → e 0 = sC secret → e 1 = sC master → e 10 = .c (.ptr 0 0 0) → e 13 = .c (.ptr 1 0 0) → e 14 = sC hd → e 40 = .c (.lst 1 (ms.map iRow)) → e 41 = iC (ms.map iRow).length → e 42 = iC pre.length →
    H[0]? = some { sz := 6,rows := [[.int .i64 0,.str ⟨#[]⟩,.int .i64 0,.int .i64 0,.nilS,.str ⟨#[]⟩]],own := true,live := true } → H[1]? = some { sz := 6,rows := [[.int .i64 ((log.length : Int) + 1),.str pv,.int .i64 kind,.int .i64 dev,y,.str ⟨#[]⟩]],own := true,live := true } → Acc 2 ((pre.map wf).map Wrp.cells) (.c y) H →
    Run (Zt Tryz.prog T) ⟨[.cell 10 true 6,.tmp 11],fun u E => Zkb E u (.tup [.agg (Zb1 secret master log kind dev).cells,iC 0])⟩ [.loop Zj1,.blk 0,.code Zny] e H := by
   intro rest
   induction rest with
   | nil =>
    intro pre y e H hp h0 h1 h10 h13 h14 h40' h41 h42 b0 b1 ha
    have hc := Zdm (f := iRow) hp
    rw [List.append_nil] at hp
    rw [← hp] at ha
    refine Zi ?_
    conv => enter [3,1]; unfold Zj1
    simp only [go_sem,simprocAttr,h41,h42,hc]
    unfold Zny
    by_cases hl0 : log.length = 0
    ·have c1 : ¬ ((1 : Int) < (log.length : Int) + 1) := by omega
     rw [hnc0 hl0]
     have e0 := ha.set_nb (b := 0) (B := { sz := 6,rows := [[.int .i64 ((log.length : Int) + 1),.str pv,.int .i64 kind,.int .i64 dev,y,.str ⟨#[]⟩]],own := true,live := true }) (ha.nb_sz b0 (by show (6 : Nat) ≠ 2; decide))
     obtain ⟨x,hx1,hx2,hx3,hx4⟩ := Znc e0 (hclw _) ((log.length : Int) + 1) kind dev pv ⟨#[]⟩
     simp only [go_sem,simprocAttr,h10,h13,Zu b1,c1,Zu b0,Zdq b0,Ze0 b0]
     simp only [go_sem,simprocAttr,h10,Zu (Zw b0)]
     refine ⟨_,?_,.tup2 hx4 (.same _)⟩
     simp only [Z05,Zd,hx3]
     simp [Zf,Ze,Zk,Zg,Zh,Zd,Zc,Zb]
    ·have c1 : ((1 : Int) < (log.length : Int) + 1) := by omega
     rw [hnc hl0]
     have n0 : NB (.c y) 0 := ha.nb_sz b0 (by show (6 : Nat) ≠ 2; decide)
     have n1 : NB (.c y) 1 := ha.nb_sz b1 (by show (6 : Nat) ≠ 2; decide)
     obtain ⟨x,hx1,hx2,hx3,hx4⟩ := Znc ha (hclw _) ((log.length : Int) + 1) kind dev pv ⟨#[]⟩
     have htg : Pr 26 [sC el,.agg [.int .i64 ((log.length : Int) + 1),.str pv,.int .i64 kind,.int .i64 dev,x,.str ⟨#[]⟩]] (sC TG) := htag.wk (.cons (.same _) (.cons hx4 .nil))
     simp only [go_sem,simprocAttr,h0,h13,Zu b1,c1,hseq]
     refine Za hepl ?_
     simp only [go_sem,simprocAttr,h13,Zu b1]
     refine Zfp htg (by simp only [Zd,List.map_nil,List.append_nil,List.cons_append,List.nil_append,hx3]; simp [Zf,Ze,Zk,Zg,Zh,Zd,Zc,Zb]) rfl ?_
     obtain ⟨s1,s0⟩ := Z7c b0 b1 { sz := 6,rows := [[.int .i64 ((log.length : Int) + 1),.str pv,.int .i64 kind,.int .i64 dev,y,.str TG]],own := true,live := true }
     have e1 := (ha.set_nb (b := 1) (B := { sz := 6,rows := [[.int .i64 ((log.length : Int) + 1),.str pv,.int .i64 kind,.int .i64 dev,y,.str TG]],own := true,live := true }) n1).set_nb (b := 0) (B := { sz := 6,rows := [[.int .i64 ((log.length : Int) + 1),.str pv,.int .i64 kind,.int .i64 dev,y,.str TG]],own := true,live := true }) n0
     obtain ⟨x',hy1,hy2,hy3,hy4⟩ := Znc e1 (hclw _) ((log.length : Int) + 1) kind dev pv TG
     simp only [go_sem,simprocAttr,h10,h13,Zu b1,Zdq b1,Ze0 b1]
     simp only [go_sem,simprocAttr,h10,h13,Zu s1,Zu s0,Zdq s0,Ze0 s0,Zu (Zw s0)]
     refine ⟨_,?_,.tup2 hy4 (.same _)⟩
     simp only [Z05,Zd,hy3]
     simp [Zf,Ze,Zk,Zg,Zh,Zd,Zc,Zb]
   | cons m rest ih =>
    intro pre y e H hp h0 h1 h10 h13 h14 h40' h41 h42 b0 b1 ha
    have hc := Zh0 (f := iRow) hp
    have hr := Zeh (f := iRow) hp
    have hn := Zcy hp (by unfold maxLen; omega)
    have hpl := hmsl' _ _ hp
    obtain ⟨m0,m8⟩ := hms8 m (by rw [hp]; simp)
    obtain ⟨k,rfl⟩ : ∃ k : Nat,m = (k : Int) := ⟨m.toNat,by omega⟩
    have howk := hown k (by omega)
    have hwk := hwrp k
    have hsk := hseal k
    have hwfk := hwf k
    generalize Zc2 (Zdf (ownK master k)) nn hd ek = bx at hsk hwfk
    generalize Zdf (ownK master k) = wk at hwk hsk
    generalize ownK master k = ok at howk hwk
    have hlk : ∀ H : Heap,mkF H (vLit 2 1 (some [[.int .i64 (k : Int),.str bx]]) H) = some (.c (.lst 2 [[.int .i64 (k : Int),.str bx]])) := fun H => Zgk rfl
    refine Zi ?_
    conv => enter [3,1]; unfold Zj1
    simp only [go_sem,simprocAttr,h1,h40',h41,h42,hc,hr,iRow]
    refine Za howk ?_
    simp only [go_sem,simprocAttr]
    refine Za hwk ?_
    simp only [go_sem,simprocAttr,h13,h14,Zu b1]
    refine Za hno ?_
    simp only [go_sem,simprocAttr,h0,h13,h14,Zu b1]
    refine Za hep ?_
    simp only [go_sem,simprocAttr]
    refine Za hsk ?_
    simp only [go_sem,simprocAttr,hlk]
    have n0 : NB (.c y) 0 := ha.nb_sz b0 (by decide)
    have n1 : NB (.c y) 1 := ha.nb_sz b1 (by show (6 : Nat) ≠ 2; decide)
    refine Acc.app_keep ha (by simp; omega) fun v' H' ha' keep => ?_
    obtain ⟨b0',m0'⟩ := keep 0 _ n0 b0
    obtain ⟨b1',m1'⟩ := keep 1 _ n1 b1
    obtain ⟨b6,ext6,rfl,_,h6⟩ := ha'.slc (by simp)
    simp only [go_sem,simprocAttr,h13,Zu b1',Zdq b1',Ze0 b1',h42,hn]
    have hrw : ((pre.map wf).map Wrp.cells) ++ [[.int .i64 (k : Int),.str bx]] = ((pre ++ [(k : Int)]).map wf).map Wrp.cells := by rw [Z09,hwfk]
    refine ih (pre ++ [(k : Int)]) _ _ _ (by rw [hp]; simp) ?_ ?_ ?_ ?_ ?_ ?_ ?_ ?_ (Zo b0' (by omega)) (Zw b1') ?_
    ·simp only [go_sem,simprocAttr,h0]
    ·simp only [go_sem,simprocAttr,h1]
    ·simp only [go_sem,simprocAttr,h10]
    ·simp only [go_sem,simprocAttr,h13]
    ·simp only [go_sem,simprocAttr,h14]
    ·simp only [go_sem,simprocAttr,h40']
    ·simp only [go_sem,simprocAttr,h41]
    ·simp only [go_sem,simprocAttr,hn]
    ·rw [← hrw]; exact ha'.set_nb m1'
  have hlt : ∀ H : Heap,mkF H (vLit 6 1 (some [[.int .i64 ((log.length : Int) + 1),.str pv,.int .i64 kind,.int .i64 dev,.nilS,.str ⟨#[]⟩]]) H) = some (.c (.lst 6 [[.int .i64 ((log.length : Int) + 1),.str pv,.int .i64 kind,.int .i64 dev,.nilS,.str ⟨#[]⟩]])) := fun H => Zgk rfl
  simp only [go_sem,simprocAttr]
  refine Za hmk ?_
  simp only [go_sem,simprocAttr,bne_self_eq_false]
  refine Za hnx ?_
  simp only [go_sem,simprocAttr]
  refine Za hhd ?_
  simp only [go_sem,simprocAttr]
  refine Z3 (hsrc _) (fun _ => Zol _ _ _) ?_
  have a1 := Zug 6 (log.map Rec.cells) [{ sz := 6,rows := [[.int .i64 0,.str ⟨#[]⟩,.int .i64 0,.int .i64 0,.nilS,.str ⟨#[]⟩]],own := true,live := true },{ sz := 6,rows := [[.int .i64 ((log.length : Int) + 1),.str pv,.int .i64 kind,.int .i64 dev,.nilS,.str ⟨#[]⟩]],own := true,live := true }]
  have p1 := Zol 6 (log.map Rec.cells) [{ sz := 6,rows := [[.int .i64 0,.str ⟨#[]⟩,.int .i64 0,.int .i64 0,.nilS,.str ⟨#[]⟩]],own := true,live := true },{ sz := 6,rows := [[.int .i64 ((log.length : Int) + 1),.str pv,.int .i64 kind,.int .i64 dev,.nilS,.str ⟨#[]⟩]],own := true,live := true }]
  have n0 : NB (Zdd 6 (log.map Rec.cells) [{ sz := 6,rows := [[.int .i64 0,.str ⟨#[]⟩,.int .i64 0,.int .i64 0,.nilS,.str ⟨#[]⟩]],own := true,live := true },{ sz := 6,rows := [[.int .i64 ((log.length : Int) + 1),.str pv,.int .i64 kind,.int .i64 dev,.nilS,.str ⟨#[]⟩]],own := true,live := true }]) 0 := Zn7 _ _ (by simp)
  have n1 : NB (Zdd 6 (log.map Rec.cells) [{ sz := 6,rows := [[.int .i64 0,.str ⟨#[]⟩,.int .i64 0,.int .i64 0,.nilS,.str ⟨#[]⟩]],own := true,live := true },{ sz := 6,rows := [[.int .i64 ((log.length : Int) + 1),.str pv,.int .i64 kind,.int .i64 dev,.nilS,.str ⟨#[]⟩]],own := true,live := true }]) 1 := Zn7 _ _ (by simp)
  have q0 := Zm8 (b := 0) p1 rfl
  have q1 := Zm8 (b := 1) p1 rfl
  generalize Zdd 6 (log.map Rec.cells) [{ sz := 6,rows := [[.int .i64 0,.str ⟨#[]⟩,.int .i64 0,.int .i64 0,.nilS,.str ⟨#[]⟩]],own := true,live := true },{ sz := 6,rows := [[.int .i64 ((log.length : Int) + 1),.str pv,.int .i64 kind,.int .i64 dev,.nilS,.str ⟨#[]⟩]],own := true,live := true }] = V1 at a1 n0 n1 ⊢
  generalize Zdw 6 (log.map Rec.cells) [{ sz := 6,rows := [[.int .i64 0,.str ⟨#[]⟩,.int .i64 0,.int .i64 0,.nilS,.str ⟨#[]⟩]],own := true,live := true },{ sz := 6,rows := [[.int .i64 ((log.length : Int) + 1),.str pv,.int .i64 kind,.int .i64 dev,.nilS,.str ⟨#[]⟩]],own := true,live := true }] = H1 at a1 q0 q1 ⊢
  simp only [go_sem,simprocAttr,Zu q1,hlt]
  refine Acc.app_keep a1 (by simp; omega) fun V2 H2 a2 keep => ?_
  obtain ⟨b0,_⟩ := keep 0 _ n0 q0
  obtain ⟨b1,_⟩ := keep 1 _ n1 q1
  simp only [go_sem,simprocAttr,Zu b1]
  refine Z3 (hmem V2 H2 a2) (fun _ => List.prefix_refl _) ?_
  simp only [go_sem,simprocAttr]
  refine loop ms [] .nilS _ _ rfl ?_ ?_ ?_ ?_ ?_ ?_ ?_ ?_ b0 b1 .nil
  all_goals simp only [go_sem,simprocAttr,List.length_nil,Int.natCast_zero]
 ·have hmr : Zb9 secret master log kind dev = Zrp := by unfold Zb9; rw [if_neg hz]
  have hsv : Zbf Zxo (Zbm log kind dev) = .c (Z21 Zxo (Zbm log kind dev)) := by unfold Zbf; rw [if_neg hz]
  rw [hsv] at hmk hnum
  rw [hmr]
  generalize Zbm log kind dev = E at *
  simp only [Z2] at hmk ⊢
  simp only [go_sem,simprocAttr]
  refine Za hmk ?_
  simp only [go_sem,simprocAttr,bne_self_eq_false,Bool.true_bne,Bool.not_false]
  refine Za hnum ?_
  simp only [go_sem,simprocAttr]
  refine ⟨.tup [.agg [.int .i64 0,.str ⟨#[]⟩,.int .i64 0,.int .i64 0,.nilS,.str ⟨#[]⟩],iC E],?_,.tup2 (.agg (.cons (.same _) (.cons (.same _) (.cons (.same _) (.cons (.same _) (.cons (.nilS _) (.cons (.same _) .nil))))))) (.same _)⟩
  simp [Zf,Ze,Zk,Zg,Zh,Zd,Zc,Zb]
end Go.Proofs.YticmfblfghdkbaaGreatDoor.Eng
