/- What the program's records are, as cells. No statement of the seat is proved here. -/
import Derived.Test.YtpjbjdicdjlmeaaDoorZEng27
namespace Go.Proofs.YtpjbjdicdjlmeaaDoor.Eng
open Go
set_option linter.unusedVariables false
set_option linter.unusedSimpArgs false

structure Rn where
  dev : Int
  frm : Int
  to : Int
  deriving DecidableEq, Inhabited
structure Dot where
  dev : Int
  n : Int
  deriving DecidableEq, Inhabited
structure Fact where
  dev : Int
  n : Int
  key : ByteArray
  kind : Int
  item : ByteArray
  num : Int
  deriving DecidableEq, Inhabited

def Rn.cells (r : Rn) : List Cell := [.int .i64 r.dev, .int .i64 r.frm, .int .i64 r.to]
def Dot.cells (d : Dot) : List Cell := [.int .i64 d.dev, .int .i64 d.n]
def Fact.cells (f : Fact) : List Cell := [.int .i64 f.dev, .int .i64 f.n, .str f.key, .int .i64 f.kind, .str f.item, .int .i64 f.num]
theorem Rn.closed (r : Rn) : closedCs r.cells = true := rfl
theorem Dot.closed (r : Dot) : closedCs r.cells = true := rfl
theorem Fact.closed (r : Fact) : closedCs r.cells = true := rfl
def runsC (l : List Rn) : Cell := .lst 3 (l.map Rn.cells)
def dotsC (l : List Dot) : Cell := .lst 2 (l.map Dot.cells)
def factsC (l : List Fact) : Cell := .lst 6 (l.map Fact.cells)
theorem closed_runs (l : List Rn) : closedR (l.map Rn.cells) = true := closedR_map Rn.closed l
theorem closed_dots (l : List Dot) : closedR (l.map Dot.cells) = true := closedR_map Dot.closed l
theorem closed_facts (l : List Fact) : closedR (l.map Fact.cells) = true := closedR_map Fact.closed l
theorem closed_runsC (l : List Rn) : closedC (runsC l) = true := closed_runs l
theorem closed_dotsC (l : List Dot) : closedC (dotsC l) = true := closed_dots l
theorem closed_factsC (l : List Fact) : closedC (factsC l) = true := closed_facts l
structure State where
  seen : List Rn
  facts : List Fact
  deriving DecidableEq, Inhabited
def State.cells (s : State) : List Cell := [runsC s.seen, factsC s.facts]
theorem State.closed (s : State) : closedCs s.cells = true := by simp [State.cells, closedCs, closed_runsC, closed_factsC]
def statesC (l : List State) : Cell := .lst 2 (l.map State.cells)
theorem closed_statesC (l : List State) : closedC (statesC l) = true := closedR_map State.closed l

abbrev iC (n : Int) : AVal := .c (.int .i64 n)
abbrev bC (b : Bool) : AVal := .c (.bool b)
abbrev sC (s : ByteArray) : AVal := .c (.str s)

/-! ### Arguments -/
def in64 (n : Int) : Prop := IntKind.min .i64 ≤ n ∧ n ≤ IntKind.max .i64
theorem in64.of {n : Int} (h : in64 n) : -9223372036854775808 ≤ n ∧ n ≤ 9223372036854775807 := h
def Rn.ok (r : Rn) : Prop := in64 r.dev ∧ in64 r.frm ∧ in64 r.to
def Dot.ok (r : Dot) : Prop := in64 r.dev ∧ in64 r.n
def Fact.ok (f : Fact) : Prop := in64 f.dev ∧ in64 f.n ∧ f.key.size ≤ maxLen ∧ in64 f.kind ∧ f.item.size ≤ maxLen ∧ in64 f.num
def State.ok (s : State) : Prop := (∀ r ∈ s.seen, r.ok) ∧ (∀ f ∈ s.facts, f.ok)
def dRn : D := .st [.int .i64, .int .i64, .int .i64]
def dDot : D := .st [.int .i64, .int .i64]
def dFact : D := .st [dDot, .str, .int .i64, .str, .int .i64]
def dState : D := .st [.slc dRn, .slc dFact]
theorem tyd_rn (cs : List Cell) (h : TyD dRn cs) : ∃ r : Rn, cs = r.cells ∧ r.ok := by
  obtain ⟨a, _, rfl, ha, h⟩ := h.consF1 rfl
  obtain ⟨b, _, rfl, hb, h⟩ := h.consF1 rfl
  obtain ⟨c, _, rfl, hc, h⟩ := h.consF1 rfl
  have := h.nilF; subst this
  obtain ⟨x, rfl, hx⟩ := ha.ints
  obtain ⟨y, rfl, hy⟩ := hb.ints
  obtain ⟨z, rfl, hz⟩ := hc.ints
  exact ⟨⟨x, y, z⟩, rfl, hx, hy, hz⟩
theorem tyd_dot (cs : List Cell) (h : TyD dDot cs) : ∃ r : Dot, cs = r.cells ∧ r.ok := by
  obtain ⟨a, _, rfl, ha, h⟩ := h.consF1 rfl
  obtain ⟨b, _, rfl, hb, h⟩ := h.consF1 rfl
  have := h.nilF; subst this
  obtain ⟨x, rfl, hx⟩ := ha.ints
  obtain ⟨y, rfl, hy⟩ := hb.ints
  exact ⟨⟨x, y⟩, rfl, hx, hy⟩
theorem tyd_fact (cs : List Cell) (h : TyD dFact cs) : ∃ r : Fact, cs = r.cells ∧ r.ok := by
  obtain ⟨d0, r0, rfl, hd, h2⟩ := h.consF
  clear h
  obtain ⟨d, rfl, hd1, hd2⟩ := tyd_dot d0 hd
  obtain ⟨a, _, rfl, ha, h⟩ := h2.consF1 rfl
  obtain ⟨b, _, rfl, hb, h⟩ := h.consF1 rfl
  obtain ⟨c, _, rfl, hc, h⟩ := h.consF1 rfl
  obtain ⟨e, _, rfl, he, h⟩ := h.consF1 rfl
  have := h.nilF; subst this
  obtain ⟨x, rfl, hx⟩ := ha.strs
  obtain ⟨y, rfl, hy⟩ := hb.ints
  obtain ⟨z, rfl, hz⟩ := hc.strs
  obtain ⟨u, rfl, hu⟩ := he.ints
  exact ⟨⟨d.dev, d.n, x, y, z, u⟩, rfl, hd1, hd2, hx, hy, hz, hu⟩
theorem tyd_runs (cs : List Cell) (h : TyD (.slc dRn) cs) : ∃ l : List Rn, cs = [runsC l] ∧ l.length ≤ maxLen ∧ ∀ r ∈ l, r.ok := h.listQ tyd_rn
theorem tyd_dots (cs : List Cell) (h : TyD (.slc dDot) cs) : ∃ l : List Dot, cs = [dotsC l] ∧ l.length ≤ maxLen ∧ ∀ r ∈ l, r.ok := h.listQ tyd_dot
theorem tyd_facts (cs : List Cell) (h : TyD (.slc dFact) cs) : ∃ l : List Fact, cs = [factsC l] ∧ l.length ≤ maxLen ∧ ∀ r ∈ l, r.ok := h.listQ tyd_fact
theorem tyd_state (cs : List Cell) (h : TyD dState cs) : ∃ s : State, cs = s.cells ∧ s.ok := by
  obtain ⟨a, _, rfl, ha, h⟩ := h.consF1 rfl
  obtain ⟨b, _, rfl, hb, h⟩ := h.consF1 rfl
  have := h.nilF; subst this
  obtain ⟨x, hx, _, hx2⟩ := tyd_runs _ ha
  obtain ⟨y, hy, _, hy2⟩ := tyd_facts _ hb
  injection hx with hx; subst hx
  injection hy with hy; subst hy
  exact ⟨⟨x, y⟩, rfl, hx2, hy2⟩
theorem tyd_states (cs : List Cell) (h : TyD (.slc dState) cs) : ∃ l : List State, cs = [statesC l] ∧ l.length ≤ maxLen ∧ ∀ r ∈ l, r.ok := h.listQ tyd_state
/-- A slice of bytes: numbers below 256. -/
def byteC (n : Nat) : List Cell := [.int .u8 (n : Int)]
def bytesC (l : List Nat) : Cell := .lst 1 (l.map byteC)
theorem closed_bytesC (l : List Nat) : closedC (bytesC l) = true := closedR_map (f := byteC) (fun _ => rfl) l
theorem closed_bytes (l : List Nat) : closedR (l.map byteC) = true := closedR_map (f := byteC) (fun _ => rfl) l
theorem tyd_byte (cs : List Cell) (h : TyD (.int .u8) cs) : ∃ n : Nat, cs = byteC n ∧ n < 256 := by
  obtain ⟨c, rfl, h⟩ := h.one rfl
  obtain ⟨n, rfl, h1, h2⟩ := h.ints
  have h1 : 0 ≤ n := h1
  have h2 : n ≤ 255 := h2
  exact ⟨n.toNat, by simp [byteC]; omega, by omega⟩
theorem tyd_bytes (cs : List Cell) (h : TyD (.slc (.int .u8)) cs) : ∃ l : List Nat, cs = [bytesC l] ∧ l.length ≤ maxLen ∧ ∀ r ∈ l, r < 256 := h.listQ tyd_byte

attribute [go_sem] Rn.cells Dot.cells Fact.cells State.cells runsC dotsC factsC statesC closed_runs closed_dots closed_facts closed_bytes bytesC byteC

end Go.Proofs.YtpjbjdicdjlmeaaDoor.Eng
