/- Contracts of the laws' own states by numbers. No statement of the seat is proved here. -/
import Derived.Test.YtnccbccnjjachaaGreatDoorZDoU
namespace Go.Proofs.YtnccbccnjjachaaGreatDoor.Eng
open Go
set_option linter.unusedVariables false
set_option linter.unusedSimpArgs false

def stepS (s : State) (dev : Int) (o : OpR) : State := if (doL s dev o).2 = 0 then joinL s (doL s dev o).1 else s
/-- What deeds make, two numbers a deed, so many at most. -/
def makeFrom : Nat → State → List Nat → State
  | k + 1, s, a :: b :: rest => makeFrom k (stepS s ((a / 16 % 4 : Nat) : Int) (opOf a b)) rest
  | _, s, _ => s
def makeS (ns : List Nat) : State := makeFrom 40 ⟨[], []⟩ ns

theorem stepS_fine {s : State} (h : Fine s) {dev : Int} {o : OpR} : Fine (stepS s dev o) ∧ (stepS s dev o).facts.length ≤ s.facts.length + 1 ∧ (stepS s dev o).seen.length ≤ s.seen.length + (s.facts.length + 1) := by
  unfold stepS
  split
  · obtain ⟨h1, h2, h3⟩ := doL_good h.toGood (dev := dev) (o := o)
    obtain ⟨h4, h5⟩ := joinL_len (a := s) (b := (doL s dev o).1)
    exact ⟨joinL_fine h (doL_fine h.toGood), by omega, by omega⟩
  · exact ⟨h, by omega, by omega⟩
theorem makeFrom_fine : ∀ {k : Nat} {ns : List Nat} {s : State}, Fine s → s.facts.length ≤ 40 - k → s.seen.length ≤ 100 * (40 - k) → k ≤ 40 → Fine (makeFrom k s ns) ∧ (makeFrom k s ns).facts.length ≤ 40 ∧ (makeFrom k s ns).seen.length ≤ 4000
  | 0, ns, s, h, h1, h2, _ => by simp only [makeFrom]; exact ⟨h, by omega, by omega⟩
  | k + 1, [], s, h, h1, h2, _ => by simp only [makeFrom]; exact ⟨h, by omega, by omega⟩
  | k + 1, [a], s, h, h1, h2, _ => by simp only [makeFrom]; exact ⟨h, by omega, by omega⟩
  | k + 1, a :: b :: rest, s, h, h1, h2, hk => by
    simp only [makeFrom]
    obtain ⟨h3, h4, h5⟩ := stepS_fine h (dev := ((a / 16 % 4 : Nat) : Int)) (o := opOf a b)
    exact makeFrom_fine h3 (by omega) (by omega) (by omega)
theorem makeS_fine (ns : List Nat) : Fine (makeS ns) ∧ (makeS ns).facts.length ≤ 40 ∧ (makeS ns).seen.length ≤ 4000 := makeFrom_fine .nil (by simp) (by simp) (Nat.le_refl _)

end Go.Proofs.YtnccbccnjjachaaGreatDoor.Eng
