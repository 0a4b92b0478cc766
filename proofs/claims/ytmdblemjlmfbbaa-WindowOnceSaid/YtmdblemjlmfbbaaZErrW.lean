/- errors.Is at nil, and at an error of window's own that wraps its reason: Go's text walked. No statement of the seat is proved here. -/
import Derived.Test.YtmdblemjlmfbbaaZPartC
import Derived.Test.YtmdblemjlmfbbaaChecked
import Derived.WalkKit
import Derived.LaidEql
import Derived.Stop.Asserts
import Derived.RowKitTokens
import Derived.KernelRfl
namespace Go.Proofs.Ytmdblemjlmfbbaa.Eng
set_option linter.unusedVariables false
set_option linter.unusedSimpArgs false
open Go Go.RowKit Go.Extern.Stop Go.Stop Go.Extern

def cameS : ByteArray := ⟨#[105, 116, 32, 99, 97, 109, 101, 32, 97, 108, 114, 101, 97, 100, 121]⟩
theorem isTypeOf (v : Value) (w : World) : (Extern.ReflectliteType.typeOf #[.iface 48 v]).run Try.prog w = .ok (.iface 77 (.agg #[.pointer (some ⟨0, 48, none⟩)])) w := by kernel_rfl
def cmpM : TypeId → Sem Value := fun t => do Extern.Rtype.noPackHeld "Comparable" t; pure (.bool (← typeInfo t).comparable)
theorem isComparable (w : World) : (Extern.ReflectliteType.method cmpM #[.agg #[.pointer (some ⟨0, 48, none⟩)]]).run Try.prog w = .ok (.bool true) w := by kernel_rfl
theorem isMethodComparable (v : Value) (w : World) : (Go.method 252 77 v "Comparable").run Try.prog w = .ok (93, v) w := by kernel_rfl
theorem isEq (w : World) : (binOp .eql 46 (.iface 48 (.string cameS)) (.iface 48 (.string cameS))).run Try.prog w = .ok (.bool true) w := by kernel_rfl
theorem noIsE (v : Value) (xT : TypeId) (w : World) : (Instr.typeAssert (.iface 68 v) xT 79 true).run Try.prog w = .ok (.tuple #[.nilIface, .bool false]) w := run_typeAssert_lacksB Try.underlying79 (by kernel_rfl) (by kernel_rfl) v xT w
theorem hasUnwrapE (v : Value) (xT : TypeId) (w : World) : (Instr.typeAssert (.iface 68 v) xT 82 true).run Try.prog w = .ok (.tuple #[.iface 68 v, .bool true]) w := run_typeAssert_hasB Try.underlying82 (by kernel_rfl) v xT w
theorem methodUnwrap (v : Value) (w : World) : (Go.method 252 68 v "Unwrap").run Try.prog w = .ok (89, v) w := by kernel_rfl

/-- errors.Is(nil, x). -/
theorem is_nil (v : Value) (w : World) :
    Calls Try.prog 18 #[.nilIface, .iface 48 v] w fun e w' => e = .returned (.bool false) ∧ w' = w := by
  have hn := run_eql_iface_nil_left (P := Try.prog) w 48 v Try.underlying46
  go_enter Try.func18, Try.ntmps18
  go_wp2
  go_ret
  exact ⟨rfl, rfl⟩

theorem is_wrap (a b c : Int) (w : World) :
    Calls Try.prog 18 #[.iface 68 (.agg #[.int .i64 a, .int .i64 b, .int .i64 c, .iface 48 (.string cameS)]), .iface 48 (.string cameS)] w fun e w' => e = .returned (.bool true) ∧ Below w.heap.size w w' ∧ w.drawn ≤ w'.drawn := by
  have h8 := @run_callFunc_extern Try.prog 33 _ Extern.ReflectliteType.typeOf Try.func33 (by kernel_rfl) (by kernel_rfl) (by kernel_rfl) (by kernel_rfl)
  have h32 := @run_callFunc_extern Try.prog 93 _ (Extern.ReflectliteType.method cmpM) Try.func93 (by kernel_rfl) (by kernel_rfl) (by kernel_rfl) (by kernel_rfl)
  have tT := isTypeOf
  have cT := isComparable
  have mR := isMethodComparable
  have nE := noIsE
  have uW := hasUnwrapE
  have mU := methodUnwrap
  have heq := isEq
  have hty := run_eql_iface_types (P := Try.prog) 68 48 (.agg #[.int .i64 a, .int .i64 b, .int .i64 c, .iface 48 (.string cameS)]) (.string cameS) Try.underlying46 (by decide)
  go_enter Try.func18, Try.ntmps18
  go_wp2
  refine wp_loop_rounds 2 ?_
  rw [rounds_succ]
  go_wp2
  rw [rounds_succ]
  go_wp2
  go_ret
  exact ⟨rfl, (Below.refl _ w).alloc (Nat.le_refl _) _, Nat.le_refl _⟩

/-- The reason, and an error that wraps it, as cells. -/
abbrev cameC : Cell := .iface 48 false [.str cameS]
abbrev againC (a b c : Int) : Cell := .iface 68 true [.int .i64 a, .int .i64 b, .int .i64 c, cameC]

theorem came_inv {m : LMap} {σ : Mem} {v : Value} (h : VR m σ cameC v) : v = .iface 48 (.string cameS) := by
  cases h with
  | ifaceC h => cases h; rfl

theorem again_inv {m : LMap} {σ : Mem} {a b c : Int} {v : Value} (h : VR m σ (againC a b c) v) : v = .iface 68 (.agg #[.int .i64 a, .int .i64 b, .int .i64 c, .iface 48 (.string cameS)]) := by
  cases h with
  | ifaceA hl ha =>
    rename_i vs
    obtain ⟨vs⟩ := vs
    match vs, hl, ha with
    | [x, y, z, u], _, ha =>
      have h0 := ha 0 _ x rfl rfl
      have h1 := ha 1 _ y rfl rfl
      have h2 := ha 2 _ z rfl rfl
      have h3 := came_inv (ha 3 _ u rfl rfl)
      cases h0
      cases h1
      cases h2
      subst h3
      rfl

theorem errors_Is_nil : Pr 18 [.c .nilI, .c cameC] (bC false) := by
  intro H
  refine ⟨⟨_, Try.func18, rfl, rfl⟩, fun B m w vs r ha => ?_⟩
  obtain ⟨vs⟩ := vs
  cases ha with
  | cons a1 a2 =>
    cases a2 with
    | cons a2 a3 =>
      cases a3
      cases a1 with
      | c a1 =>
        cases a1
        cases a2 with
        | c a2 =>
          obtain rfl := came_inv a2
          refine (is_nil _ w).mono ?_
          rintro e w' ⟨rfl, rfl⟩
          exact ⟨_, m, rfl, St.refl r, .c (.bool _)⟩

theorem errors_Is_came (a b c : Int) : Pr 18 [.c (againC a b c), .c cameC] (bC true) := by
  intro H
  refine ⟨⟨_, Try.func18, rfl, rfl⟩, fun B m w vs r ha => ?_⟩
  obtain ⟨vs⟩ := vs
  cases ha with
  | cons a1 a2 =>
    cases a2 with
    | cons a2 a3 =>
      cases a3
      cases a1 with
      | c a1 =>
        obtain rfl := again_inv a1
        cases a2 with
        | c a2 =>
          obtain rfl := came_inv a2
          refine (is_wrap a b c w).mono ?_
          rintro e w' ⟨rfl, hb, hd⟩
          exact ⟨_, ⟨m.f, m.z⟩, rfl, St.ofBelow r hb (Or.inr hd) (fun _ h => h) (fun _ h => .inl h), .c (.bool _)⟩

end Go.Proofs.Ytmdblemjlmfbbaa.Eng
