/- Texts that this claim's proof needs, joined. No statement of the seat is proved here. -/
import Derived.Test.YtpjbjdicdjlmeaaGreatDoorZPartC
import Derived.Test.YtpjbjdicdjlmeaaGreatDoorChecked
import Derived.WalkKit
import Derived.LaidEql
import Derived.Stop.Asserts
import Derived.RowKitTokens
import Derived.KernelRfl

/- errors.As at nil, and at an error of mutate's own that wraps its reason: Go's text walked. (The numbers of types and functions are those of round r3's seat of MutateAll.) No statement of the seat is proved here. -/
namespace Go.Proofs.YtpjbjdicdjlmeaaGreatDoor.Eng
set_option linter.unusedVariables false
set_option linter.unusedSimpArgs false
open Go Go.RowKit Go.Extern.Stop Go.Stop Go.Extern

/-- errors.As(nil, target). -/
theorem as_nil (t : Value) (w : World) :
    Calls Tryz.prog 11 #[.nilIface, t] w fun e w' => e = .returned (.bool false) ∧ w' = w := by
  go_enter Tryz.func11, Tryz.ntmps11
  go_wp2
  go_ret
  exact ⟨rfl, rfl⟩

abbrev hP : Value := .pointer (some ⟨1, 54, none⟩)
abbrev hR : Value := .pointer (some ⟨1, 52, none⟩)
theorem asValueOfP (t : Addr) (w : World) : (ReflectliteValue.unpack (.iface 54 (.pointer (some t)))).run Tryz.prog w
    = .ok (.agg #[.pointer (some ⟨1, 54, none⟩), .pointer (some ⟨w.heap.size, 0, none⟩), .int .u64 150]) (w.alloc (.cells #[.pointer (some t)] 54)) := by kernel_rfl
theorem asTypeP (a : Addr) (w : World) : (ReflectliteValue.methodAny (ReflectliteValue.valueError "reflectlite.Value.Type" 0) (fun t _ _ _ => ReflectliteType.toType t) #[.agg #[.pointer (some ⟨1, 54, none⟩), .pointer (some a), .int .u64 150]]).run Tryz.prog w
    = .ok (.iface 89 (.agg #[.pointer (some ⟨1, 54, none⟩)])) w := by kernel_rfl
theorem asMethodKind (h : Value) (w : World) : (Go.method 277 89 (.agg #[h]) "Kind").run Tryz.prog w = .ok (100, h) w := by kernel_rfl
theorem asKindP (w : World) : ((ReflectliteType.abiMethod fun t => (fun a : Nat => Value.int IntKind.u8 (a : Int)) <$> Rtype.kind t) #[.pointer (some ⟨1, 54, none⟩)]).run Tryz.prog w = .ok (.int .u8 22) w := by kernel_rfl
theorem asKindR (w : World) : ((ReflectliteType.abiMethod fun t => (fun a : Nat => Value.int IntKind.u8 (a : Int)) <$> Rtype.kind t) #[.pointer (some ⟨1, 52, none⟩)]).run Tryz.prog w = .ok (.int .u8 25) w := by kernel_rfl

theorem rlm (z : Sem Value) (f : TypeId → Addr → Nat → Nat → Sem Value) (v : Value) :
    ReflectliteValue.method z f #[v] = (do match ← ReflectliteValue.parts v with | none => z | some (t, a, fl) => f t a fl (fl % 32)) := rfl
theorem asPartsP (a : Addr) (w : World) : (ReflectliteValue.parts (.agg #[.pointer (some ⟨1, 54, none⟩), .pointer (some a), .int .u64 150])).run Tryz.prog w = .ok (some (54, a, 150)) w := by kernel_rfl
theorem asIsNil (a p : Addr) (W : World) (ha : W.cell? a = some (.pointer (some p))) :
    (ReflectliteValue.method (ReflectliteValue.valueError "reflectlite.Value.IsNil" 0) ReflectliteValue.isNil #[.agg #[.pointer (some ⟨1, 54, none⟩), .pointer (some a), .int .u64 150]]).run Tryz.prog W = .ok (.bool false) W := by
  rw [rlm]
  simp only [Sem.run_bind, asPartsP, Result.andThen]
  simp [ReflectliteValue.isNil, loadVar, isAgg, underlying, Tryz.underlying54, ha, Result.andThen]

theorem asMethodElem (h : Value) (w : World) : (Go.method 277 89 (.agg #[h]) "Elem").run Tryz.prog w = .ok (112, .agg #[h]) w := by kernel_rfl
theorem asMethodImplements (h : Value) (w : World) : (Go.method 277 89 (.agg #[h]) "Implements").run Tryz.prog w = .ok (113, .agg #[h]) w := by kernel_rfl
theorem asMethodAssignableTo (h : Value) (w : World) : (Go.method 277 89 (.agg #[h]) "AssignableTo").run Tryz.prog w = .ok (110, .agg #[h]) w := by kernel_rfl
theorem asElemP (w : World) : (ReflectliteType.method ReflectliteType.elem #[.agg #[.pointer (some ⟨1, 54, none⟩)]]).run Tryz.prog w = .ok (.iface 89 (.agg #[.pointer (some ⟨1, 52, none⟩)])) w := by kernel_rfl
theorem asImplementsR (w : World) : (ReflectliteType.relation "Implements" ReflectliteType.implements_ #[.agg #[.pointer (some ⟨1, 52, none⟩)], .iface 89 (.agg #[.pointer (some ⟨1, 46, none⟩)])]).run Tryz.prog w = .ok (.bool true) w := by kernel_rfl
theorem asTypeOfR (v : Value) (w : World) : (ReflectliteType.typeOf #[.iface 52 v]).run Tryz.prog w = .ok (.iface 89 (.agg #[.pointer (some ⟨1, 52, none⟩)])) w := by kernel_rfl
theorem asTypeOfD (v : Value) (w : World) : (ReflectliteType.typeOf #[.iface 50 v]).run Tryz.prog w = .ok (.iface 89 (.agg #[.pointer (some ⟨1, 50, none⟩)])) w := by kernel_rfl
theorem asAssignR (w : World) : (ReflectliteType.relation "AssignableTo" ReflectliteType.assignableTo #[.agg #[.pointer (some ⟨1, 52, none⟩)], .iface 89 (.agg #[.pointer (some ⟨1, 52, none⟩)])]).run Tryz.prog w = .ok (.bool true) w := by kernel_rfl
theorem asAssignD (w : World) : (ReflectliteType.relation "AssignableTo" ReflectliteType.assignableTo #[.agg #[.pointer (some ⟨1, 50, none⟩)], .iface 89 (.agg #[.pointer (some ⟨1, 52, none⟩)])]).run Tryz.prog w = .ok (.bool false) w := by kernel_rfl
theorem asValueOfR (n : Int) (w : World) : (ReflectliteValue.unpack (.iface 52 (.agg #[.int .i64 n]))).run Tryz.prog w
    = .ok (.agg #[.pointer (some ⟨1, 52, none⟩), .pointer (some ⟨w.heap.size, 0, none⟩), .int .u64 153]) (w.alloc (.cells #[.int .i64 n] 52)) := by kernel_rfl
theorem asElemOf (w : World) : (Rtype.elem? 54).run Tryz.prog w = .ok (some 52) w := by kernel_rfl
theorem asMk (p : Addr) (w : World) : (ReflectliteValue.mk 52 p ReflectliteValue.flagAddr).run Tryz.prog w = .ok (.agg #[.pointer (some ⟨1, 52, none⟩), .pointer (some p), .int .u64 409]) w := by kernel_rfl
theorem asElemV (a p : Addr) (W : World) (ha : W.cell? a = some (.pointer (some p))) :
    (ReflectliteValue.method (ReflectliteValue.valueError "reflectlite.Value.Elem" 0) ReflectliteValue.elem #[.agg #[.pointer (some ⟨1, 54, none⟩), .pointer (some a), .int .u64 150]]).run Tryz.prog W
      = .ok (.agg #[.pointer (some ⟨1, 52, none⟩), .pointer (some p), .int .u64 409]) W := by
  rw [rlm]
  simp only [Sem.run_bind, asPartsP, Result.andThen]
  simp [ReflectliteValue.elem, loadVar, isAgg, underlying, Tryz.underlying54, ha, Result.andThen, asElemOf, asMk]
theorem rls (v x : Value) : ReflectliteValue.set #[v, x] = (do
    let (some (dst, a, fl), some (src, b, _)) := (← ReflectliteValue.parts v, ← ReflectliteValue.parts x)
      | unsupported (.noEntry "extern/(internal/reflectlite.Value).Set.zeroValue")
    if fl / ReflectliteValue.flagAddr % 2 == 0 then unsupported (.noEntry "extern/(internal/reflectlite.Value).Set.unaddressable")
    let val ← loadVar src b
    if ← Rtype.directlyAssignable dst src then storeVar dst a val
    else if ← Rtype.implements dst src then
      if (← Rtype.kind src) == 20 then
        match val with
        | .nilIface => unsupported (.noEntry "extern/reflectlite: a nil value of one interface type handed on as a value of another")
        | _ => storeVar dst a val
      else storeVar dst a (.iface src val)
    else panicString ("reflectlite.Set: value of type " ++ (← Rtype.spelt src) ++ " is not assignable to type " ++ (← Rtype.spelt dst))
    pure (.tuple #[])) := rfl
theorem asPartsA (a : Addr) (w : World) : (ReflectliteValue.parts (.agg #[.pointer (some ⟨1, 52, none⟩), .pointer (some a), .int .u64 409])).run Tryz.prog w = .ok (some (52, a, 409)) w := by kernel_rfl
theorem asPartsR (a : Addr) (w : World) : (ReflectliteValue.parts (.agg #[.pointer (some ⟨1, 52, none⟩), .pointer (some a), .int .u64 153])).run Tryz.prog w = .ok (some (52, a, 153)) w := by kernel_rfl
theorem asDirect (w : World) : (Rtype.directlyAssignable 52 52).run Tryz.prog w = .ok true w := by kernel_rfl
theorem asSize (w : World) : (sizeOf 52).run Tryz.prog w = .ok 1 w := by kernel_rfl
theorem asSet (ta b : Addr) (n : Int) (old : Value) (W : World) (hb : W.cell? b = some (.int .i64 n)) (ht : W.cell? ta = some old) (hf : W.frozen? ta = false) :
    (ReflectliteValue.set #[.agg #[.pointer (some ⟨1, 52, none⟩), .pointer (some ta), .int .u64 409], .agg #[.pointer (some ⟨1, 52, none⟩), .pointer (some b), .int .u64 153]]).run Tryz.prog W
      = .ok (.tuple #[]) (W.setCell ta (.int .i64 n)) := by
  have hl : (loadCellsFrom b 0 1 #[]).run Tryz.prog W = .ok #[.int .i64 n] W := by
    have := run_loadCellsFrom (P := Tryz.prog) (w := W) b (fun _ => .int .i64 n) 1 0 #[] (fun j hj => by
      have : j = 0 := by omega
      subst this
      simpa [Addr.add] using hb)
    simpa using this
  rw [rls]
  simp only [Sem.run_bind, asPartsA, asPartsR, Result.andThen]
  simp [ReflectliteValue.flagAddr, loadVar, isAgg, underlying, Tryz.underlying52, asSize, loadCells, hl, Result.andThen, asDirect, storeVar, Value.cells, storeCells, Addr.add]
  rw [run_store Tryz.prog W ta _ _ (by rfl)]
  simp [ht, hf]

theorem noAsD (v : Value) (xT : TypeId) (w : World) : (Instr.typeAssert (.iface 50 v) xT 94 true).run Tryz.prog w = .ok (.tuple #[.nilIface, .bool false]) w := run_typeAssert_lacksB Tryz.underlying94 (by kernel_rfl) (by kernel_rfl) v xT w
theorem hasUnwrapD (v : Value) (xT : TypeId) (w : World) : (Instr.typeAssert (.iface 50 v) xT 97 true).run Tryz.prog w = .ok (.tuple #[.iface 50 v, .bool true]) w := run_typeAssert_hasB Tryz.underlying97 (by kernel_rfl) v xT w
theorem methodUnwrapD (v : Value) (w : World) : (Go.method 277 50 v "Unwrap").run Tryz.prog w = .ok (104, v) w := by kernel_rfl

set_option maxRecDepth 20000 in
set_option maxHeartbeats 4000000 in
theorem as_wrap (k : Int) (key item : ByteArray) (n q : Int) (t : Addr) (old : Value) (w : World) (hg : w.cell? ⟨0, 0, none⟩ = some (.iface 89 (.agg #[.pointer (some ⟨1, 46, none⟩)]))) (ht0 : w.cell? t = some old) (hf0 : w.frozen? t = false) :
    Calls Tryz.prog 11 #[.iface 50 (.agg #[.int .i64 k, .string key, .string item, .int .i64 n, .iface 52 (.agg #[.int .i64 q])]), .iface 54 (.pointer (some t))] w fun e w' => e = .returned (.bool true) ∧
      ∃ w1, Below w.heap.size w w1 ∧ w.drawn ≤ w1.drawn ∧ w' = w1.setCell t (.int .i64 q) := by
  have h6 := @run_callFunc_extern Tryz.prog 20 _ (fun args => ReflectliteValue.unpack (args.getD 0 (.tuple #[]))) Tryz.func20 (by kernel_rfl) (by kernel_rfl) (by kernel_rfl) (by kernel_rfl)
  have h7 := @run_callFunc_extern Tryz.prog 21 _ (ReflectliteValue.methodAny (ReflectliteValue.valueError "reflectlite.Value.Type" 0) (fun t _ _ _ => ReflectliteType.toType t)) Tryz.func21 (by kernel_rfl) (by kernel_rfl) (by kernel_rfl) (by kernel_rfl)
  have h8 := @run_callFunc_extern Tryz.prog 22 _ (ReflectliteValue.method (ReflectliteValue.valueError "reflectlite.Value.IsNil" 0) ReflectliteValue.isNil) Tryz.func22 (by kernel_rfl) (by kernel_rfl) (by kernel_rfl) (by kernel_rfl)
  have h27 := @run_callFunc_extern Tryz.prog 100 _ (ReflectliteType.abiMethod fun t => do pure (.int .u8 (← Rtype.kind t))) Tryz.func100 (by kernel_rfl) (by kernel_rfl) (by kernel_rfl) (by kernel_rfl)
  have h37 := @run_callFunc_extern Tryz.prog 112 _ (ReflectliteType.method ReflectliteType.elem) Tryz.func112 (by kernel_rfl) (by kernel_rfl) (by kernel_rfl) (by kernel_rfl)
  have h38 := @run_callFunc_extern Tryz.prog 113 _ (ReflectliteType.relation "Implements" ReflectliteType.implements_) Tryz.func113 (by kernel_rfl) (by kernel_rfl) (by kernel_rfl) (by kernel_rfl)
  have h10 := @run_callFunc_extern Tryz.prog 36 _ ReflectliteType.typeOf Tryz.func36 (by kernel_rfl) (by kernel_rfl) (by kernel_rfl) (by kernel_rfl)
  have h35 := @run_callFunc_extern Tryz.prog 110 _ (ReflectliteType.relation "AssignableTo" ReflectliteType.assignableTo) Tryz.func110 (by kernel_rfl) (by kernel_rfl) (by kernel_rfl) (by kernel_rfl)
  have h11 := @run_callFunc_extern Tryz.prog 37 _ (ReflectliteValue.method (ReflectliteValue.valueError "reflectlite.Value.Elem" 0) ReflectliteValue.elem) Tryz.func37 (by kernel_rfl) (by kernel_rfl) (by kernel_rfl) (by kernel_rfl)
  have h12 := @run_callFunc_extern Tryz.prog 38 _ ReflectliteValue.set Tryz.func38 (by kernel_rfl) (by kernel_rfl) (by kernel_rfl) (by kernel_rfl)
  have tR := asTypeOfR
  have tD := asTypeOfD
  have mA := asMethodAssignableTo
  have aR := asAssignR
  have aD := asAssignD
  have vR := asValueOfR
  have f6 := asValueOfP
  have f7 := asTypeP
  have mK := asMethodKind
  have mE := asMethodElem
  have mI := asMethodImplements
  have kP := asKindP
  have kR := asKindR
  have eP := asElemP
  have iR := asImplementsR
  have nE := noAsD
  have uW := hasUnwrapD
  have mU := methodUnwrapD
  have hlt : 0 < w.heap.size := by
    rcases Nat.eq_zero_or_pos w.heap.size with h0 | h
    · simp [World.cell?, h0] at hg
    · exact h
  have htl : t.block < w.heap.size := by
    rcases Nat.lt_or_ge t.block w.heap.size with h | h
    · exact h
    · simp [World.cell?, Array.getElem?_eq_none h] at ht0
  have n8 := asIsNil ⟨w.heap.size, 0, none⟩ t ((w.alloc (.cells #[.pointer (some t)] 54)).alloc (.cells #[.pointer (some ⟨1, 54, none⟩), .pointer (some ⟨w.heap.size, 0, none⟩), .int .u64 150] 67)) (by simp)
  have hg2 : ((w.alloc (.cells #[.pointer (some t)] 54)).alloc (.cells #[.pointer (some ⟨1, 54, none⟩), .pointer (some ⟨w.heap.size, 0, none⟩), .int .u64 150] 67)).cell? ⟨0, 0, none⟩ = some (.iface 89 (.agg #[.pointer (some ⟨1, 46, none⟩)])) := by
    rw [World.cell?_alloc_lt _ _ ⟨0, 0, none⟩ (by simp), World.cell?_alloc_lt _ _ ⟨0, 0, none⟩ hlt]; exact hg
  have hu : ∀ a b c d e : Value, (#[a, b, c, d, e] : Array Value).getD 2 undef = c := fun _ _ _ _ _ => rfl
  have el := asElemV ⟨w.heap.size, 0, none⟩ t ((((w.alloc (.cells #[.pointer (some t)] 54)).alloc (.cells #[.pointer (some ⟨1, 54, none⟩), .pointer (some ⟨w.heap.size, 0, none⟩), .int .u64 150] 67)).alloc (.cells #[.pointer (some ⟨1, 54, none⟩), .pointer (some ⟨w.heap.size, 0, none⟩), .int .u64 150] 67)).alloc (.cells #[.int .i64 k, .string key, .string item, .int .i64 n, .iface 52 (.agg #[.int .i64 q])] 50))
    (by rw [World.cell?_alloc_lt _ _ ⟨w.heap.size, 0, none⟩ (by simp; omega), World.cell?_alloc_lt _ _ ⟨w.heap.size, 0, none⟩ (by simp; omega)]; simp)
  have st := asSet t ⟨w.heap.size + 1 + 1 + 1 + 1, 0, none⟩ q old (((((w.alloc (.cells #[.pointer (some t)] 54)).alloc (.cells #[.pointer (some ⟨1, 54, none⟩), .pointer (some ⟨w.heap.size, 0, none⟩), .int .u64 150] 67)).alloc (.cells #[.pointer (some ⟨1, 54, none⟩), .pointer (some ⟨w.heap.size, 0, none⟩), .int .u64 150] 67)).alloc (.cells #[.int .i64 k, .string key, .string item, .int .i64 n, .iface 52 (.agg #[.int .i64 q])] 50)).alloc (.cells #[.int .i64 q] 52))
    (by rw [World.cell?_alloc_at _ _ _ _ (by simp)]; rfl)
    (by rw [World.cell?_alloc_lt _ _ t (by simp; omega), World.cell?_alloc_lt _ _ t (by simp; omega), World.cell?_alloc_lt _ _ t (by simp; omega), World.cell?_alloc_lt _ _ t (by simp; omega), World.cell?_alloc_lt _ _ t htl]; exact ht0)
    (by rw [World.frozen?_alloc_old _ _ t (by simp; omega), World.frozen?_alloc_old _ _ t (by simp; omega), World.frozen?_alloc_old _ _ t (by simp; omega), World.frozen?_alloc_old _ _ t (by simp; omega), World.frozen?_alloc_old _ _ t (Nat.ne_of_lt htl)]; exact hf0)
  go_enter Tryz.func11, Tryz.ntmps11
  go_wp2
  refine wp_loop_rounds 2 ?_
  rw [rounds_succ]
  go_wp2
  rw [rounds_succ]
  go_wp2
  go_ret
  exact ⟨rfl, _, ((((((Below.refl _ w).alloc (Nat.le_refl _) _).alloc (by simp <;> omega) _).alloc (by simp <;> omega) _).alloc (by simp <;> omega) _).alloc (by simp <;> omega) _), Nat.le_refl _, rfl⟩

end Go.Proofs.YtpjbjdicdjlmeaaGreatDoor.Eng

/- errors.As at an error of mutate's own, as a call of the engine. No statement of the seat is proved here. -/
namespace Go.Proofs.YtpjbjdicdjlmeaaGreatDoor.Eng
set_option linter.unusedVariables false
set_option linter.unusedSimpArgs false
open Go Go.RowKit

abbrev refusalC (q : Int) : Cell := .iface 52 true [.int .i64 q]
abbrev deedC (k : Int) (key item : ByteArray) (n q : Int) : Cell := .iface 50 true [.int .i64 k, .str key, .str item, .int .i64 n, refusalC q]

theorem refusal_inv {m : LMap} {σ : Mem} {q : Int} {v : Value} (h : VR m σ (refusalC q) v) : v = .iface 52 (.agg #[.int .i64 q]) := by
  cases h with
  | ifaceA hl ha =>
    rename_i vs
    obtain ⟨vs⟩ := vs
    match vs, hl, ha with
    | [a], _, ha =>
      have h0 := ha 0 _ a rfl rfl
      cases h0
      rfl
theorem deed_inv {m : LMap} {σ : Mem} {k : Int} {key item : ByteArray} {n q : Int} {v : Value} (h : VR m σ (deedC k key item n q) v) : v = .iface 50 (.agg #[.int .i64 k, .string key, .string item, .int .i64 n, .iface 52 (.agg #[.int .i64 q])]) := by
  cases h with
  | ifaceA hl ha =>
    rename_i vs
    obtain ⟨vs⟩ := vs
    match vs, hl, ha with
    | [a, b, c, d, e], _, ha =>
      have h0 := ha 0 _ a rfl rfl
      have h1 := ha 1 _ b rfl rfl
      have h2 := ha 2 _ c rfl rfl
      have h3 := ha 3 _ d rfl rfl
      have h4 := refusal_inv (ha 4 _ e rfl rfl)
      cases h0; cases h1; cases h2; cases h3
      subst h4
      rfl

theorem errors_As_nil (x : AVal) (H : Heap) : CallSound Tryz.prog 11 [.c .nilI, x] H (bC false) H := by
  refine ⟨⟨_, Tryz.func11, rfl, rfl⟩, fun B m w vs r ha => ?_⟩
  obtain ⟨vs⟩ := vs
  cases ha with
  | cons a1 a2 =>
    cases a2 with
    | cons a2 a3 =>
      cases a3
      cases a1 with
      | c a1 =>
        cases a1
        refine (as_nil _ w).mono ?_
        rintro e w' ⟨rfl, rfl⟩
        exact ⟨_, m, rfl, St.refl r, .c (.bool _)⟩

theorem errors_As_at (k : Int) (key item : ByteArray) (n q old : Int) {b : Nat} {H : Heap} (hb : H[b]? = some { sz := 1, rows := [[.int .i64 old]], own := true, live := true }) :
    CallSound Tryz.prog 11 [.c (deedC k key item n q), .c (.iface 54 false [.ptr b 0 0])] H (bC true) (H.set b { sz := 1, rows := [[.int .i64 q]], own := true, live := true }) := by
  refine ⟨⟨_, Tryz.func11, rfl, rfl⟩, fun B m w vs r ha => ?_⟩
  obtain ⟨vs⟩ := vs
  cases ha with
  | cons a1 a2 =>
    cases a2 with
    | cons a2 a3 =>
      cases a3
      cases a1 with
      | c a1 =>
        obtain rfl := deed_inv a1
        cases a2 with
        | c a2 =>
          cases a2 with
          | ifaceC a2 =>
            cases a2 with
            | ptr e1 =>
              rename_i L
              obtain ⟨kb, hkb, hat⟩ := r.blk b L e1
              rw [hb] at hkb; injection hkb with hkb; subst hkb
              have ho : L.own = true := by rw [← hat.own]
              have hLo : L.o = 0 := (hat.ours ho).2
              have hsz : L.sz = 1 := hat.sz.symm
              obtain ⟨cur, ct, hg⟩ := hat.row ho rfl
              obtain ⟨hr1, hr2⟩ := hat.rows rfl 0 [.int .i64 old] rfl
              obtain ⟨v0, hv0, hvr⟩ := hr2 0 _ rfl
              have hta : (⟨L.g, L.o + 0 * L.sz + 0, none⟩ : Addr) = ⟨L.g, 0, none⟩ := by rw [hLo]; simp
              rw [hta] at hv0 ⊢
              have hfz : w.frozen? ⟨L.g, 0, none⟩ = false := by simp [World.frozen?, hg]
              have hlib := r.lib 0 (.iface 89 (.agg #[.pointer (some ⟨1, 46, none⟩)])) ⟨rfl, rfl⟩
              refine (as_wrap k key item n q ⟨L.g, 0, none⟩ v0 w hlib.2 hv0 hfz).mono ?_
              rintro e w' ⟨rfl, w1, hbel, hd, rfl⟩
              have s1 := St.ofBelow (z := m.z) r hbel (Or.inr hd) (fun _ h => h) (fun _ h => .inl h)
              have r1 := s1.rel
              have hlt : L.g < w.heap.size := hat.lt (.inl ho)
              have hg1 : w1.heap[L.g]? = some (.cells cur ct (0, 0)) := by rw [hbel.block L.g hlt]; exact hg
              have hcs : 0 < cur.size := by
                have := cell_of_row w L.g 0 cur ct (0, 0) hg
                rw [this] at hv0
                exact (Array.getElem?_eq_some_iff.1 hv0).1
              rw [setCell_eq_setRow w1 L.g 0 cur ct (0, 0) _ hg1]
              have e2 : (⟨m.f, m.z⟩ : LMap) b = some L := e1
              have st := St.turn r1 e2 hb ho rfl hg1 (cur.setIfInBounds 0 (.int .i64 q)) (by simp) (k' := { sz := 1, rows := [[.int .i64 q]], own := true, live := true }) rfl rfl (fun _ i row h => by
                match i with
                | 0 =>
                  simp at h
                  subst h
                  refine ⟨hsz.symm, fun f c hc => ?_⟩
                  match f with
                  | 0 =>
                    simp at hc
                    subst hc
                    refine ⟨.int .i64 q, ?_, .int _ _⟩
                    simp [hcs]
                  | f + 1 => simp at hc
                | i + 1 => simp at h)
              exact ⟨_, _, rfl, s1.trans r st, .c (.bool _)⟩

end Go.Proofs.YtpjbjdicdjlmeaaGreatDoor.Eng
