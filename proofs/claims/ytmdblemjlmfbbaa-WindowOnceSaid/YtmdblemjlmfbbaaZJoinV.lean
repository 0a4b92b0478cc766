/- Contracts of the package join: two states as one, all states as one. No statement of the seat is proved here. -/
import Derived.Test.YtmdblemjlmfbbaaZJoinS
import Derived.Test.YtmdblemjlmfbbaaZPartG
import Derived.Test.YtmdblemjlmfbbaaZLayS
namespace Go.Proofs.Ytmdblemjlmfbbaa.Eng
open Go
set_option linter.unusedVariables false
set_option linter.unusedSimpArgs false

/-! ### A contract of which the answer and the heap are not told exactly -/
theorem sound_ex (hm : Try.prog.follows .mixedOrders = true) {f : Nat} {a : AFun} (hf : cmpFun Try.prog f = some a.erase) {args : List AVal} {H : Heap} {R : AVal → Heap → Prop}
    (h : ∀ T, Run (progT Try.prog T) ⟨a.res, R⟩ [.code a.body] (initEnv args) H) : ∃ v H', CallSound Try.prog f args H v H' ∧ R v H' := by
  obtain ⟨u, E, h1, h2⟩ := wcall_of (G := P1 Try.prog f a) (f := f) (by simp [P1, progT, one]) (h _)
  exact ⟨u, E, sound1 (one_ok hf) hm h1, h2⟩

/-- What is built behind a heap: in a block of its own, with nothing behind its rows; or nothing at all. -/
def AccX (H0 : Heap) (sz : Nat) (rows : List (List Cell)) (v : AVal) (H : Heap) : Prop :=
  H0 <+: H ∧ Acc sz rows v H ∧ (∀ b, b < H0.length → NB v b) ∧ (rows ≠ [] → ∃ b, v = .c (.slc b 0 rows.length sz false) ∧ H[b]? = some { sz := sz, rows := rows, own := true, live := true })
theorem prefix_keep {H0 H H' : Heap} (h : H0 <+: H) (hk : ∀ b, b < H0.length → H'[b]? = H[b]?) (hl : H0.length ≤ H'.length) : H0 <+: H' := by
  rw [List.prefix_iff_getElem?] at h ⊢
  intro i hi
  rw [hk i hi]
  exact h i hi
theorem AccX.app {H0 : Heap} {sz : Nat} {rows new : List (List Cell)} {v : AVal} {H : Heap} (h : AccX H0 sz rows v H) {bytes : Nat} (hb : (rows.length + new.length) * bytes ≤ 140737488355328) :
    ∃ v' H', vApp sz bytes v (.c (.lst sz new)) H = some (v', H') ∧ AccX H0 sz (rows ++ new) v' H' := by
  obtain ⟨hp, ha, hn, hx⟩ := h
  have hle := hp.length_le
  by_cases h0 : new = []
  · subst h0
    obtain ⟨v', H', h1, h2⟩ := ha.appL (new := []) hb
    have e : v' = v ∧ H' = H := by
      rcases ha with ⟨rfl, rfl | rfl⟩ | ⟨b, ext, rfl, h3⟩ <;> simp [vApp, evApp, Heap.rowsOf, fitsSz] at h1 <;> exact ⟨h1.1.symm, h1.2.symm⟩
    obtain ⟨rfl, rfl⟩ := e
    exact ⟨_, _, h1, hp, h2, hn, by simpa using hx⟩
  · have hl : new.length ≠ 0 := fun e => h0 (List.eq_nil_of_length_eq_zero e)
    rcases ha with ⟨rfl, hv⟩ | ⟨b, ext, rfl, h3⟩
    · have h1 : vApp sz bytes v (.c (.lst sz new)) H = some (.c (.slc H.length 0 new.length sz false), H ++ [{ sz := sz, rows := new }]) := by
        rcases hv with rfl | rfl <;> (simp only [vApp, evApp, Heap.rowsOf, fitsSz, beq_self_eq_true, if_true]; rw [if_neg hl, if_pos (by simpa using hb)])
      refine ⟨_, _, h1, hp.trans (List.prefix_append _ _), .last, fun b hb n s q z e => ?_, fun _ => ⟨H.length, rfl, get_last⟩⟩
      injection e with e; injection e with e; omega
    · have hbl := (List.getElem?_eq_some_iff.1 h3).1
      have h1 : vApp sz bytes (.c (.slc b 0 rows.length sz false)) (.c (.lst sz new)) H = some (.c (.slc H.length 0 (rows.length + new.length) sz false), (H.set b { sz := sz, rows := rows ++ ext, own := true, live := false }) ++ [{ sz := sz, rows := rows ++ new }]) := by
        simp only [vApp, evApp, Heap.rowsOf, fitsSz, beq_self_eq_true, if_true]
        rw [if_neg hl, if_pos ⟨trivial, hb⟩]
        simp only [h3, Bool.false_eq_true, if_false]
        rw [if_pos ⟨trivial, trivial, trivial, by simp⟩]
        simp
      have hnb : H0.length ≤ b := Nat.le_of_not_lt fun hlt => hn b hlt _ _ _ _ rfl
      have hget : (H.set b { sz := sz, rows := rows ++ ext, own := true, live := false } ++ [{ sz := sz, rows := rows ++ new }] : Heap)[H.length]? = some { sz := sz, rows := rows ++ new } := by simp
      refine ⟨_, _, h1, prefix_keep hp (fun i hi => ?_) (by simp; omega), .inr ⟨H.length, [], by rw [List.length_append], by simp⟩, fun b' hb' n s q z e => ?_, fun _ => ⟨H.length, by rw [List.length_append], hget⟩⟩
      · rw [get_prev (by simp; omega), List.getElem?_set_ne (by omega)]
      · injection e with e; injection e with e; omega
theorem AccX.app_step {G : Prog} {p : Post} {k : List Itm} {d : Bool} {e : Env} {H0 H : Heap} {l : List AInstr} {dst : Option Nat} {sz bytes : Nat} {rows new : List (List Cell)} {v : AVal}
    (h : AccX H0 sz rows v H) (hb : (rows.length + new.length) * bytes ≤ 140737488355328) (hw : ∀ v' H', AccX H0 sz (rows ++ new) v' H' → WL G p k d l (updO e dst v') H') : thenW G p k d (vApp sz bytes v (.c (.lst sz new)) H) dst l e := by
  obtain ⟨v', H', h1, h2⟩ := h.app (new := new) hb
  exact thenW_of h1 (hw v' H' h2)

theorem Fact.cells_det (x : Fact) (m : LMap) (σ : Mem) (vs : List Value) (h : All2 (VR m σ) x.cells vs) : vs = [.int .i64 x.dev, .int .i64 x.n, .string x.key, .int .i64 x.kind, .string x.item, .int .i64 x.num] := by
  unfold Fact.cells at h
  cases h with
  | cons a h => cases h with
    | cons b h => cases h with
      | cons c h => cases h with
        | cons d h => cases h with
          | cons e h => cases h with
            | cons f h => cases h; cases a; cases b; cases c; cases d; cases e; cases f; rfl

theorem left_keepA {a b : State} : a.facts.filter (leftB b true) = a.facts.filter (keepA b) := List.filter_congr fun f _ => by
  unfold leftB keepA
  cases atD b.facts f.dot <;> simp
theorem left_keepB {a b : State} (ha : Good a) : b.facts.filter (leftB a false) = b.facts.filter (keepB a) := List.filter_congr fun f _ => by
  unfold leftB keepB
  cases h : atD a.facts f.dot
  · simp
  · simp [ha.at h]

end Go.Proofs.Ytmdblemjlmfbbaa.Eng
