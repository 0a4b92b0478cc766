/- The law MutateEdges: its call comes to true. -/
import Derived.Test.YtnccbccnjjachaaDoorZLawM0
import Derived.Test.YtnccbccnjjachaaDoorZJoinR0
import Derived.Test.YtnccbccnjjachaaDoorZLitBe
namespace Go.Proofs.YtnccbccnjjachaaDoor.Eng
open Go
set_option linter.unusedVariables false
set_option linter.unusedSimpArgs false

def zeroB (n : Nat) : ByteArray := ⟨(List.replicate n (0 : UInt8)).toArray⟩
theorem zeroB_size (n : Nat) : (zeroB n).size = n := by simp [zeroB, ByteArray.size]
theorem takeBytes_zero : ∀ n : Nat, takeBytes (List.replicate n [.int .u8 0]) = some (List.replicate n (0 : UInt8))
  | 0 => rfl
  | n + 1 => by rw [List.replicate_succ, List.replicate_succ]; simp only [takeBytes, takeBytes_zero n]; rfl
theorem vMake_zero {n : Nat} {H : Heap} (h : n ≤ 1000) : vMake 1 1 [.int .u8 0] (.c (.int .i64 (n : Int))) (.c (.int .i64 (n : Int))) H = some (.c (.slc H.length 0 n 1 ((n : Int).toNat == 0)), H ++ [{ sz := 1, rows := List.replicate n [.int .u8 0] }]) := by
  simp only [vMake]
  rw [if_pos ⟨by omega, trivial, by omega, by omega⟩]
  simp
theorem vB2s_zero {n : Nat} {H : Heap} {z : Bool} {X : List Blk} : vB2s (.c (.slc H.length 0 n 1 z)) (H ++ { sz := 1, rows := List.replicate n [.int .u8 0] } :: X) = some (.c (.str (zeroB n)), H ++ { sz := 1, rows := List.replicate n [.int .u8 0] } :: X) := by
  by_cases h0 : n = 0
  · subst h0
    simp [vB2s, fitsSz, Heap.rowsOf, takeBytes, zeroB]
  · simp [vB2s, fitsSz, Heap.rowsOf, h0, takeBytes_zero, zeroB]

theorem edges_set (k i : ByteArray) : (doL ⟨[], []⟩ 3 ⟨1, k, i, 0⟩).2 = if k.size ≤ 40 ∧ i.size ≤ 200 then 0 else 1 := by
  by_cases h : k.size ≤ 40 ∧ i.size ≤ 200
  · have hb : badOp 3 ⟨1, k, i, 0⟩ = false := by
      unfold badOp; simp; omega
    rw [if_pos h, doL_ok hb (by rintro ⟨_, h⟩; cases h) (by rfl) (by simp)]
  · have hb : badOp 3 ⟨1, k, i, 0⟩ = true := by
      unfold badOp; simp; omega
    rw [if_neg h]
    unfold doL
    rw [if_pos hb]
theorem edges_inc (n : Int) : (doL ⟨[], []⟩ 3 ⟨4, ⟨#[107]⟩, ⟨#[]⟩, n⟩).2 = if -1099511627776 ≤ n ∧ n ≤ 1099511627776 then 0 else 1 := by
  have hs : (⟨#[107]⟩ : ByteArray).size = 1 := rfl
  by_cases h : -1099511627776 ≤ n ∧ n ≤ 1099511627776
  · have hb : badOp 3 ⟨4, ⟨#[107]⟩, ⟨#[]⟩, n⟩ = false := by
      unfold badOp; simp [hs]; omega
    have hl : (makes ⟨4, ⟨#[107]⟩, ⟨#[]⟩, n⟩ && largeF (madeF ⟨[], []⟩ 3 ⟨4, ⟨#[107]⟩, ⟨#[]⟩, n⟩)) = false := by
      have : largeF (madeF ⟨[], []⟩ 3 ⟨4, ⟨#[107]⟩, ⟨#[]⟩, n⟩) = false := by
        have e1 : (madeF ⟨[], []⟩ 3 ⟨4, ⟨#[107]⟩, ⟨#[]⟩, n⟩).n = 1 := rfl
        have e2 : (madeF ⟨[], []⟩ 3 ⟨4, ⟨#[107]⟩, ⟨#[]⟩, n⟩).num = n := rfl
        unfold largeF
        rw [e1, e2]
        simp; omega
      rw [this, Bool.and_false]
    rw [if_pos h, doL_ok hb (by rintro ⟨_, h⟩; cases h) hl (by simp)]
  · have hb : badOp 3 ⟨4, ⟨#[107]⟩, ⟨#[]⟩, n⟩ = true := by
      unfold badOp; simp [hs]; omega
    rw [if_neg h]
    unfold doL
    rw [if_pos hb]
theorem edges_dot (m : Int) (h1 : 1 ≤ m) (h2 : m ≤ 4503599627370496) : (doL ⟨[⟨3, 1, m⟩], []⟩ 3 ⟨2, ⟨#[107]⟩, ⟨#[]⟩, 0⟩).2 = if m < 4503599627370496 then 0 else 4 := by
  have hb : badOp 3 ⟨2, ⟨#[107]⟩, ⟨#[]⟩, 0⟩ = false := by decide
  have hl : lastL [⟨3, 1, m⟩] 3 = m := by
    unfold lastL lastFrom lastFrom
    simp; omega
  have e1 : (madeF ⟨[⟨3, 1, m⟩], []⟩ 3 ⟨2, ⟨#[107]⟩, ⟨#[]⟩, 0⟩).n = m + 1 := by unfold madeF; simp only; rw [hl]
  have e2 : (madeF ⟨[⟨3, 1, m⟩], []⟩ 3 ⟨2, ⟨#[107]⟩, ⟨#[]⟩, 0⟩).num = 0 := rfl
  have hm : makes ⟨2, ⟨#[107]⟩, ⟨#[]⟩, 0⟩ = true := rfl
  by_cases h : m < 4503599627370496
  · have : largeF (madeF ⟨[⟨3, 1, m⟩], []⟩ 3 ⟨2, ⟨#[107]⟩, ⟨#[]⟩, 0⟩) = false := by
      unfold largeF
      rw [e1, e2]
      simp; omega
    rw [if_pos h, doL_ok hb (by rintro ⟨_, h⟩; cases h) (by rw [this, Bool.and_false]) (by simp)]
  · have : largeF (madeF ⟨[⟨3, 1, m⟩], []⟩ 3 ⟨2, ⟨#[107]⟩, ⟨#[]⟩, 0⟩) = true := by
      unfold largeF
      rw [e1, e2]
      simp; omega
    rw [if_neg h]
    unfold doL
    rw [if_neg (by simp [hb]), if_neg (by rintro ⟨_, h⟩; cases h), if_pos (by rw [this, hm]; rfl)]
def oneS (low : Int) : State := ⟨[⟨3, 1, 1⟩], [⟨3, 1, ⟨#[107]⟩, 3, ⟨#[]⟩, 1099511627776 - low⟩]⟩
theorem oneS_good (low : Int) : Good (oneS low) := by
  refine ⟨⟨fun r hr => ?_, by simp [oneS]⟩, by simp [oneS], fun f hf => ?_⟩
  · simp [oneS] at hr
    subst hr
    exact ⟨by decide, by decide, by decide, by decide, by decide⟩
  · simp [oneS] at hf
    subst hf
    rfl
theorem edges_own (low n : Int) (hlow : 0 ≤ low ∧ low ≤ 255) (hn : 0 ≤ n ∧ n ≤ 256) : (doL (oneS low) 3 ⟨4, ⟨#[107]⟩, ⟨#[]⟩, n⟩).2 = if n ≤ low then 0 else 4 := by
  have hs : (⟨#[107]⟩ : ByteArray).size = 1 := rfl
  have hb : badOp 3 ⟨4, ⟨#[107]⟩, ⟨#[]⟩, n⟩ = false := by
    unfold badOp; simp [hs]; omega
  have e1 : (madeF (oneS low) 3 ⟨4, ⟨#[107]⟩, ⟨#[]⟩, n⟩).n = 2 := rfl
  have e2 : (madeF (oneS low) 3 ⟨4, ⟨#[107]⟩, ⟨#[]⟩, n⟩).num = 1099511627776 + n - low := by
    have : (madeF (oneS low) 3 ⟨4, ⟨#[107]⟩, ⟨#[]⟩, n⟩).num = W (n + (1099511627776 - low)) := by
      unfold madeF oneS
      simp [sumFrom, goesF]
    rw [this]
    have : W (n + (1099511627776 - low)) = n + (1099511627776 - low) := wrap64 (by omega)
    rw [this]; omega
  have hm : makes ⟨4, ⟨#[107]⟩, ⟨#[]⟩, n⟩ = true := rfl
  by_cases h : n ≤ low
  · have : largeF (madeF (oneS low) 3 ⟨4, ⟨#[107]⟩, ⟨#[]⟩, n⟩) = false := by
      unfold largeF
      rw [e1, e2]
      simp; omega
    rw [if_pos h, doL_ok hb (by rintro ⟨_, h⟩; cases h) (by rw [this, Bool.and_false]) (by simp [oneS])]
  · have : largeF (madeF (oneS low) 3 ⟨4, ⟨#[107]⟩, ⟨#[]⟩, n⟩) = true := by
      unfold largeF
      rw [e1, e2]
      simp; omega
    rw [if_neg h]
    unfold doL
    rw [if_neg (by simp [hb]), if_neg (by rintro ⟨_, h⟩; cases h), if_pos (by rw [this, hm]; rfl)]
theorem edges_other (low : Int) : (doL (oneS low) 2 ⟨4, ⟨#[107]⟩, ⟨#[]⟩, 1099511627776⟩).2 = 0 := by
  have hb : badOp 2 ⟨4, ⟨#[107]⟩, ⟨#[]⟩, 1099511627776⟩ = false := by decide
  have e1 : (madeF (oneS low) 2 ⟨4, ⟨#[107]⟩, ⟨#[]⟩, 1099511627776⟩).n = 1 := rfl
  have e2 : (madeF (oneS low) 2 ⟨4, ⟨#[107]⟩, ⟨#[]⟩, 1099511627776⟩).num = 1099511627776 := by
    unfold madeF oneS
    simp [sumFrom, goesF]
  have : largeF (madeF (oneS low) 2 ⟨4, ⟨#[107]⟩, ⟨#[]⟩, 1099511627776⟩) = false := by
    unfold largeF
    rw [e1, e2]
    simp
  rw [doL_ok hb (by rintro ⟨_, h⟩; cases h) (by rw [this, Bool.and_false]) (by simp [oneS])]

end Go.Proofs.YtnccbccnjjachaaDoor.Eng
