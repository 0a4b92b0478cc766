/- The engine, part 21: calls of plain values, at whatever heap; the program that knows all sound calls. No statement of the seat is proved here. -/
import Derived.Test.YtjjmeoeaimfiiaaEng20
namespace Go.Proofs.Ytjjmeoeaimfiiaa.Eng
open Go
set_option linter.unusedVariables false
set_option linter.unusedSimpArgs false

variable {P : Program}

/-- The program: its slim functions, and whatever call is known to be sound. -/
noncomputable def progOf (P : Program) : Prog := { fn := cmpFun P, prim := fun f a H v H' => CallSound P f a H v H' }
theorem progOf_ok (h : P.follows .mixedOrders = true) : GOk P (progOf P) := ⟨fun _ _ h => h, fun _ _ _ _ _ h => h, h⟩

theorem St.ofBelow {B : Nat} {m : LMap} {H : Heap} {w w' : World} (r : Rel B m H w) (h : RowKit.Below w.heap.size w w') : St B H m w H m w' := by
  have hs : w.heap.size ≤ w'.heap.size := h.size
  have hg : ∀ g, g < w.heap.size → w'.heap[g]? = w.heap[g]? := fun g hg => h.block g hg
  have hm : MLe m (cellsIn w) m (cellsIn w') := ⟨fun _ _ h => h, fun b L h o => by obtain ⟨_, _, hk⟩ := r.blk b L h; exact cellsIn_same (hg _ (hk.lt (.inl o)))⟩
  refine ⟨fun _ _ h => h, (fun _ _ h k => by rw [h] at k; cases k), ⟨Nat.le_trans r.base hs, fun b L hb => ?_, r.inj⟩, fun g h1 _ => hg g h1, (fun _ _ h k => by rw [h] at k; cases k), hs, fun g h1 => cellsIn_same (hg g h1), h.os, h.tape, h.output, HLe.refl _⟩
  obtain ⟨k, e, hk⟩ := r.blk b L hb
  exact ⟨k, e, hk.carry hm hs fun hl => hg _ (hk.lt (.inr hl))⟩

/-! ### Plain values: those that name no block -/
mutual
def plainC : Cell → Bool
  | .ptr _ _ _ => false
  | .slc _ _ _ _ _ => false
  | .fn _ cs => plainCs cs
  | .iface _ _ cs => plainCs cs
  | _ => true
def plainCs : List Cell → Bool
  | [] => true
  | x :: r => plainC x && plainCs r
end

theorem plainCs_get : ∀ {cs : List Cell}, plainCs cs = true → ∀ {i : Nat} {c : Cell}, cs[i]? = some c → plainC c = true
  | [], _, i, c, h => by simp at h
  | x :: r, hp, i, c, h => by
    simp only [plainCs, Bool.and_eq_true] at hp
    cases i with
    | zero => simp at h; subst h; exact hp.1
    | succ i => exact plainCs_get hp.2 (by simpa using h)

theorem VR.plain {m m' : LMap} {σ σ' : Nat → Nat} {c : Cell} {v : Value} (h : VR m σ c v) : plainC c = true → VR m' σ' c v := by
  induction h with
  | int => intro _; exact .int _ _
  | bool => intro _; exact .bool _
  | str => intro _; exact .str _
  | nilI => intro _; exact .nilI
  | nilF => intro _; exact .nilF
  | nilS => intro _; exact .nilS
  | nilP => intro _; exact .nilP
  | ptr => intro hp; simp [plainC] at hp
  | slc => intro hp; simp [plainC] at hp
  | fn hl _ ih =>
    intro hp
    simp only [plainC] at hp
    exact .fn hl fun i c v hc hv => ih i c v hc hv (plainCs_get hp hc)
  | ifaceC _ ih =>
    intro hp
    simp only [plainC, plainCs, Bool.and_true] at hp
    exact .ifaceC (ih hp)
  | ifaceA hl _ ih =>
    intro hp
    simp only [plainC] at hp
    exact .ifaceA hl fun i c v hc hv => ih i c v hc hv (plainCs_get hp hc)

mutual
def plainA : AVal → Bool
  | .c x => plainC x
  | .agg xs => plainCs xs
  | .tup xs => plainAs xs
def plainAs : List AVal → Bool
  | [] => true
  | x :: r => plainA x && plainAs r
end

theorem plainAs_get : ∀ {cs : List AVal}, plainAs cs = true → ∀ {i : Nat} {c : AVal}, cs[i]? = some c → plainA c = true
  | [], _, i, c, h => by simp at h
  | x :: r, hp, i, c, h => by
    simp only [plainAs, Bool.and_eq_true] at hp
    cases i with
    | zero => simp at h; subst h; exact hp.1
    | succ i => exact plainAs_get hp.2 (by simpa using h)

theorem all2_plain {m m' : LMap} {σ σ' : Nat → Nat} : ∀ {cs : List Cell} {vs : List Value}, All2 (VR m σ) cs vs → plainCs cs = true → All2 (VR m' σ') cs vs
  | [], _, h, _ => by cases h; exact .nil
  | c :: cs, _, h, hp => by
    simp only [plainCs, Bool.and_eq_true] at hp
    cases h with
    | cons a b => exact .cons (a.plain hp.1) (all2_plain b hp.2)

theorem VRA.plain {m m' : LMap} {σ σ' : Nat → Nat} {x : AVal} {v : Value} (h : VRA m σ x v) : plainA x = true → VRA m' σ' x v := by
  induction h with
  | c h => intro hp; exact .c (h.plain (by simpa [plainA] using hp))
  | agg h => intro hp; exact .agg (all2_plain h (by simpa [plainA] using hp))
  | tup hl _ ih =>
    intro hp
    simp only [plainA] at hp
    exact .tup hl fun i c v hc hv => ih i c v hc hv (plainAs_get hp hc)

theorem all2_plainA {m m' : LMap} {σ σ' : Nat → Nat} : ∀ {cs : List AVal} {vs : List Value}, All2 (VRA m σ) cs vs → plainAs cs = true → All2 (VRA m' σ') cs vs
  | [], _, h, _ => by cases h; exact .nil
  | c :: cs, _, h, hp => by
    simp only [plainAs, Bool.and_eq_true] at hp
    cases h with
    | cons a b => exact .cons (a.plain hp.1) (all2_plainA b hp.2)

/-- What a call of plain values comes to at no heap, it comes to at any, and leaves it as it is. -/
theorem CallSound.any {f : Nat} {args : List AVal} {v : AVal} {H1 : Heap} (h : CallSound P f args [] v H1) (ha : plainAs args = true) (hv : plainA v = true) (H : Heap) : CallSound P f args H v H := by
  refine ⟨h.there, fun B m w vs r hargs => ?_⟩
  have r0 : Rel w.heap.size noMap [] w := Rel.none (Nat.le_refl _)
  refine (h.calls w.heap.size noMap w vs r0 (all2_plainA hargs ha)).mono ?_
  rintro e w' ⟨u, m', rfl, hst, hr⟩
  exact ⟨u, m, rfl, St.ofBelow r (hst.below r0), hr.plain hv⟩

/-- The same, of calls here. -/
theorem wcall_any (hm : P.follows .mixedOrders = true) {f : Nat} {args : List AVal} {v : AVal} (h : WCall (progOf P) f args [] (fun u _ => u = v)) (ha : plainAs args = true) (hv : plainA v = true) {H : Heap} {R : AVal → Heap → Prop} (hR : R v H) :
    WCall (progOf P) f args H R := by
  obtain ⟨u, H1, h1, rfl⟩ := h
  exact ⟨u, H, .prim ((sound (progOf_ok hm) h1).any ha hv H), hR⟩

/-- A plain law, with its arguments read out of the world. -/
theorem law_of {G : Prog} (hG : GOk P G) {B : Nat} {m : LMap} {H : Heap} {w : World} {f : Nat} {args : List AVal} {vs : Array Value} (r : Rel B m H w) (ha : All2 (VRA m (cellsIn w)) args vs.toList)
    (h : WCall G f args H (fun v _ => v = .c (.bool true))) : Calls P f vs w fun e w' => e = .returned (.bool true) ∧ RowKit.Below B w w' := by
  refine (calls_of hG r ha h).mono ?_
  rintro e w' ⟨u, v, m', H', rfl, rfl, hst, hv⟩
  refine ⟨?_, hst.below r⟩
  cases hv with
  | c hv => cases hv; rfl

end Go.Proofs.Ytjjmeoeaimfiiaa.Eng
