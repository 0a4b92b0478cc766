/- errors.Is at nil, and at an error of buffer's own that wraps its reason: Go's text walked. (The numbers of types and functions are those of round r3's seat of BufferWhole.) No statement of the seat is proved here. -/
import Derived.Test.YtnccbccnjjachaaGreatZPartC
import Derived.Test.YtnccbccnjjachaaGreatChecked
import Derived.WalkKit
import Derived.LaidEql
import Derived.Stop.Asserts
import Derived.RowKitTokens
import Derived.KernelRfl
namespace Go.Proofs.YtnccbccnjjachaaGreat.Eng
set_option linter.unusedVariables false
set_option linter.unusedSimpArgs false
open Go Go.RowKit Go.Extern.Stop Go.Stop Go.Extern

def noneS : ByteArray := ⟨#[116, 104, 101, 114, 101, 32, 97, 114, 101, 32, 110, 111, 110, 101]⟩
theorem isTypeOf (v : Value) (w : World) : (Extern.ReflectliteType.typeOf #[.iface 55 v]).run Tryz.prog w = .ok (.iface 85 (.agg #[.pointer (some ⟨0, 55, none⟩)])) w := by kernel_rfl
def cmpM : TypeId → Sem Value := fun t => do Extern.Rtype.noPackHeld "Comparable" t; pure (.bool (← typeInfo t).comparable)
theorem isComparable (w : World) : (Extern.ReflectliteType.method cmpM #[.agg #[.pointer (some ⟨0, 55, none⟩)]]).run Tryz.prog w = .ok (.bool true) w := by kernel_rfl
theorem isMethodComparable (v : Value) (w : World) : (Go.method 281 85 v "Comparable").run Tryz.prog w = .ok (113, v) w := by kernel_rfl
theorem isEq (w : World) : (binOp .eql 51 (.iface 55 (.string noneS)) (.iface 55 (.string noneS))).run Tryz.prog w = .ok (.bool true) w := by kernel_rfl
theorem noIsE (v : Value) (xT : TypeId) (w : World) : (Instr.typeAssert (.iface 77 v) xT 87 true).run Tryz.prog w = .ok (.tuple #[.nilIface, .bool false]) w := run_typeAssert_lacksB Tryz.underlying87 (by kernel_rfl) (by kernel_rfl) v xT w
theorem hasUnwrapE (v : Value) (xT : TypeId) (w : World) : (Instr.typeAssert (.iface 77 v) xT 90 true).run Tryz.prog w = .ok (.tuple #[.iface 77 v, .bool true]) w := run_typeAssert_hasB Tryz.underlying90 (by kernel_rfl) v xT w
theorem methodUnwrap (v : Value) (w : World) : (Go.method 281 77 v "Unwrap").run Tryz.prog w = .ok (109, v) w := by kernel_rfl

/-- errors.Is(nil, x). -/
theorem is_nil (v : Value) (w : World) :
    Calls Tryz.prog 18 #[.nilIface, .iface 55 v] w fun e w' => e = .returned (.bool false) ∧ w' = w := by
  have hn := run_eql_iface_nil_left (P := Tryz.prog) w 55 v Tryz.underlying51
  go_enter Tryz.func18, Tryz.ntmps18
  go_wp2
  go_ret
  exact ⟨rfl, rfl⟩

/-- missing.Unwrap. -/
theorem unwrap_calls (n : Int) (x : Value) (w : World) (hx : x.oneCell' = true) :
    Calls Tryz.prog 109 #[.agg #[.int .i64 n, x]] w fun e w' => e = .returned x ∧ Below w.heap.size w w' ∧ w.drawn ≤ w'.drawn := by
  go_enter Tryz.func109, Tryz.ntmps109
  go_wp2
  go_ret
  exact ⟨rfl, (Below.refl _ w).alloc (Nat.le_refl _) _, Nat.le_refl _⟩

theorem is_wrap (n : Int) (w : World) :
    Calls Tryz.prog 18 #[.iface 77 (.agg #[.int .i64 n, .iface 55 (.string noneS)]), .iface 55 (.string noneS)] w fun e w' => e = .returned (.bool true) ∧ Below w.heap.size w w' ∧ w.drawn ≤ w'.drawn := by
  have h8 := @run_callFunc_extern Tryz.prog 32 _ Extern.ReflectliteType.typeOf Tryz.func32 (by kernel_rfl) (by kernel_rfl) (by kernel_rfl) (by kernel_rfl)
  have h32 := @run_callFunc_extern Tryz.prog 113 _ (Extern.ReflectliteType.method cmpM) Tryz.func113 (by kernel_rfl) (by kernel_rfl) (by kernel_rfl) (by kernel_rfl)
  have tT := isTypeOf
  have cT := isComparable
  have mR := isMethodComparable
  have nE := noIsE
  have uW := hasUnwrapE
  have mU := methodUnwrap
  have heq := isEq
  have hty := run_eql_iface_types (P := Tryz.prog) 77 55 (.agg #[.int .i64 n, .iface 55 (.string noneS)]) (.string noneS) Tryz.underlying51 (by decide) 
  go_enter Tryz.func18, Tryz.ntmps18
  go_wp2
  refine wp_loop_rounds 2 ?_
  rw [rounds_succ]
  go_wp2
  rw [rounds_succ]
  go_wp2
  go_ret
  exact ⟨rfl, (Below.refl _ w).alloc (Nat.le_refl _) _, Nat.le_refl _⟩

/-- The reason, and an error that wraps it, as cells. -/
abbrev reasonC : Cell := .iface 55 false [.str noneS]
abbrev missingC (n : Int) : Cell := .iface 77 true [.int .i64 n, reasonC]

theorem reason_inv {m : LMap} {σ : Mem} {v : Value} (h : VR m σ reasonC v) : v = .iface 55 (.string noneS) := by
  cases h with
  | ifaceC h => cases h; rfl

theorem missing_inv {m : LMap} {σ : Mem} {n : Int} {v : Value} (h : VR m σ (missingC n) v) : v = .iface 77 (.agg #[.int .i64 n, .iface 55 (.string noneS)]) := by
  cases h with
  | ifaceA hl ha =>
    rename_i vs
    obtain ⟨vs⟩ := vs
    match vs, hl, ha with
    | [a, b], _, ha =>
      have h0 := ha 0 _ a rfl rfl
      have h1 := reason_inv (ha 1 _ b rfl rfl)
      cases h0
      subst h1
      rfl

theorem errors_Is_nil : Pr 18 [.c .nilI, .c reasonC] (bC false) := by
  intro H
  refine ⟨⟨_, Tryz.func18, rfl, rfl⟩, fun B m w vs r ha => ?_⟩
  obtain ⟨vs⟩ := vs
  cases ha with
  | cons a1 a2 =>
    cases a2 with
    | cons a2 a3 =>
      cases a3
      cases a1 with
      | c a1 =>
        cases a1
        cases a2 with
        | c a2 =>
          obtain rfl := reason_inv a2
          refine (is_nil _ w).mono ?_
          rintro e w' ⟨rfl, rfl⟩
          exact ⟨_, m, rfl, St.refl r, .c (.bool _)⟩

theorem errors_Is_none (n : Int) : Pr 18 [.c (missingC n), .c reasonC] (bC true) := by
  intro H
  refine ⟨⟨_, Tryz.func18, rfl, rfl⟩, fun B m w vs r ha => ?_⟩
  obtain ⟨vs⟩ := vs
  cases ha with
  | cons a1 a2 =>
    cases a2 with
    | cons a2 a3 =>
      cases a3
      cases a1 with
      | c a1 =>
        obtain rfl := missing_inv a1
        cases a2 with
        | c a2 =>
          obtain rfl := reason_inv a2
          refine (is_wrap n w).mono ?_
          rintro e w' ⟨rfl, hb, hd⟩
          exact ⟨_, ⟨m.f, m.z⟩, rfl, St.ofBelow r hb (Or.inr hd) (fun _ h => h) (fun _ h => .inl h), .c (.bool _)⟩

end Go.Proofs.YtnccbccnjjachaaGreat.Eng
