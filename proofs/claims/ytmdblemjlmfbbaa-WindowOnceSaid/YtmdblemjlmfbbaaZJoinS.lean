/- Contracts of the package join: what has a fact, what stays. No statement of the seat is proved here. -/
import Derived.Test.YtmdblemjlmfbbaaZDoR
import Derived.Test.YtmdblemjlmfbbaaZLitK
namespace Go.Proofs.Ytmdblemjlmfbbaa.Eng
open Go
set_option linter.unusedVariables false
set_option linter.unusedSimpArgs false

instance dotLtDec (a b : Dot) : Decidable (dotLt a b) := by unfold dotLt; infer_instance
/-- How many facts stand ahead of a dot. -/
def posD (l : List Fact) (d : Dot) : Nat := (l.filter fun f => decide (dotLt f.dot d)).length
theorem posD_of {l : List Fact} {d : Dot} {i : Nat} (hi : i ≤ l.length) (h1 : ∀ k f, k < i → l[k]? = some f → dotLt f.dot d) (h2 : ∀ k f, i ≤ k → l[k]? = some f → ¬ dotLt f.dot d) : posD l d = i := by
  unfold posD
  have e : l = l.take i ++ l.drop i := (List.take_append_drop i l).symm
  rw [e, List.filter_append]
  have a1 : (l.take i).filter (fun f => decide (dotLt f.dot d)) = l.take i := by
    rw [List.filter_eq_self]
    intro f hf
    obtain ⟨k, hk⟩ := List.mem_iff_getElem?.1 hf
    rw [List.getElem?_take] at hk
    split at hk
    · simpa using h1 k f (by omega) hk
    · cases hk
  have a2 : (l.drop i).filter (fun f => decide (dotLt f.dot d)) = [] := by
    rw [List.filter_eq_nil_iff]
    intro f hf
    obtain ⟨k, hk⟩ := List.mem_iff_getElem?.1 hf
    rw [List.getElem?_drop] at hk
    simpa using h2 (i + k) f (by omega) hk
  rw [a1, a2, List.append_nil, List.length_take]
  omega
theorem asc_get {l : List Fact} (h : l.Pairwise FLt) {i j : Nat} {f g : Fact} (hij : i < j) (hf : l[i]? = some f) (hg : l[j]? = some g) : FLt f g := by
  obtain ⟨h1, rfl⟩ := List.getElem?_eq_some_iff.1 hf
  obtain ⟨h2, rfl⟩ := List.getElem?_eq_some_iff.1 hg
  exact List.pairwise_iff_getElem.1 h i j h1 h2 hij

theorem vBin_shr1 {n : Nat} {k : IntKind} {H : Heap} : vBin .shr (.c (.int .u64 (n : Int))) (.c (.int k 1)) H = some (.c (.int .u64 ((n / 2 : Nat) : Int)), H) := by
  have : ((n : Int).fdiv 2) = ((n / 2 : Nat) : Int) := by rw [Int.fdiv_eq_ediv_of_nonneg _ (by omega)]; omega
  simp [vBin, evBin, vPure, IntKind.bits, this]
theorem wrapu64 {n : Int} (h : 0 ≤ n ∧ n ≤ 9223372036854775807) : IntKind.wrap .u64 n = n := by
  simp [IntKind.wrap, IntKind.bits, IntKind.signed]; omega

/-- What stays of a fact beside another state. -/
def leftB (o : State) (first : Bool) (f : Fact) : Bool := if atD o.facts f.dot then first else !hasDot o.seen f.dot

end Go.Proofs.Ytmdblemjlmfbbaa.Eng
