/- The engine, part 22: arguments in memory. No statement of the seat is proved here. -/
import Derived.Test.YtpjbjdicdjlmeaaDoorZEng21
namespace Go.Proofs.YtpjbjdicdjlmeaaDoor.Eng
open Go
set_option linter.unusedVariables false
set_option linter.unusedSimpArgs false

/-- Shapes of arguments: whole numbers, texts, bools, slices, structs. -/
inductive D where
  | bool
  | int (k : IntKind)
  | str
  | slc (e : D)
  | st (l : List D)

mutual
def D.size : D → Nat
  | .st l => D.sizes l
  | _ => 1
def D.sizes : List D → Nat
  | [] => 0
  | x :: r => x.size + D.sizes r
end

/-- What cells stand for, of a shape. -/
inductive TyD : D → List Cell → Prop where
  | bool (b) : TyD .bool [.bool b]
  | int {k n} : k.min ≤ n → n ≤ k.max → TyD (.int k) [.int k n]
  | str {s} : s.size ≤ maxLen → TyD .str [.str s]
  | slc {e} {rows : List (List Cell)} : rows.length ≤ maxLen → (∀ (i : Nat) r, rows[i]? = some r → TyD e r) → TyD (.slc e) [.lst e.size rows]
  | st0 : TyD (.st []) []
  | st {x l cs ds} : TyD x cs → TyD (.st l) ds → TyD (.st (x :: l)) (cs ++ ds)

theorem TyD.length {d : D} {cs : List Cell} (t : TyD d cs) : cs.length = d.size := by
  induction t with
  | st0 => simp [D.size, D.sizes]
  | st _ _ ih1 ih2 => simp only [D.size, D.sizes, List.length_append] at *; omega
  | _ => simp [D.size]

theorem closedCs_append : ∀ {a b : List Cell}, closedCs (a ++ b) = (closedCs a && closedCs b)
  | [], b => by simp [closedCs]
  | x :: a, b => by simp [closedCs, closedCs_append, Bool.and_assoc]
theorem closedR_of : ∀ {rows : List (List Cell)}, (∀ (i : Nat) r, rows[i]? = some r → closedCs r = true) → closedR rows = true
  | [], _ => rfl
  | r :: rows, h => by
    simp only [closedR, Bool.and_eq_true]
    exact ⟨h 0 r rfl, closedR_of fun i q e => h (i + 1) q (by simpa using e)⟩

theorem TyD.closed {d : D} {cs : List Cell} (t : TyD d cs) : closedCs cs = true := by
  induction t with
  | slc _ _ ih => simp [closedCs, closedC, closedR_of ih]
  | st _ _ ih1 ih2 => rw [closedCs_append, ih1, ih2]; rfl
  | _ => simp [closedCs, closedC]

mutual
/-- The shape of a type of the program: 'd' deep. -/
def descOf (P : Program) : Nat → TypeId → Option D
  | 0, _ => none
  | d + 1, t =>
    match P.underlying t with
    | some .bool => if P.cellsOf t = 1 then some .bool else none
    | some (.int k) => if P.cellsOf t = 1 then some (.int k) else none
    | some .string => if P.cellsOf t = 1 then some .str else none
    | some (.slice e) => match descOf P d e with
      | some x => if P.cellsOf e = x.size ∧ 0 < x.size ∧ P.cellsOf t = 1 then some (.slc x) else none
      | none => none
    | some (.struct fs) => match descFs P d 0 fs.toList with
      | some l => if P.cellsOf t = D.sizes l then some (.st l) else none
      | none => none
    | _ => none
def descFs (P : Program) : Nat → Nat → List Field → Option (List D)
  | _, _, [] => some []
  | 0, _, _ => none
  | d + 1, off, f :: r =>
    if f.offset = off then
      match descOf P d f.type with
      | some x => if P.cellsOf f.type = x.size then match descFs P d (off + x.size) r with | some l => some (x :: l) | none => none else none
      | none => none
    else none
end

end Go.Proofs.YtpjbjdicdjlmeaaDoor.Eng
