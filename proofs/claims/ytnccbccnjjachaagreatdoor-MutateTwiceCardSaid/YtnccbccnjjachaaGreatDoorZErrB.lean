/- errors.As at an error of mutate's own, as a call of the engine. No statement of the seat is proved here. -/
import Derived.Test.YtnccbccnjjachaaGreatDoorZErrA
namespace Go.Proofs.YtnccbccnjjachaaGreatDoor.Eng
set_option linter.unusedVariables false
set_option linter.unusedSimpArgs false
open Go Go.RowKit

abbrev refusalC (q : Int) : Cell := .iface 77 true [.int .i64 q]
abbrev deedC (k : Int) (key item : ByteArray) (n q : Int) : Cell := .iface 75 true [.int .i64 k, .str key, .str item, .int .i64 n, refusalC q]

theorem refusal_inv {m : LMap} {σ : Mem} {q : Int} {v : Value} (h : VR m σ (refusalC q) v) : v = .iface 77 (.agg #[.int .i64 q]) := by
  cases h with
  | ifaceA hl ha =>
    rename_i vs
    obtain ⟨vs⟩ := vs
    match vs, hl, ha with
    | [a], _, ha =>
      have h0 := ha 0 _ a rfl rfl
      cases h0
      rfl
theorem deed_inv {m : LMap} {σ : Mem} {k : Int} {key item : ByteArray} {n q : Int} {v : Value} (h : VR m σ (deedC k key item n q) v) : v = .iface 75 (.agg #[.int .i64 k, .string key, .string item, .int .i64 n, .iface 77 (.agg #[.int .i64 q])]) := by
  cases h with
  | ifaceA hl ha =>
    rename_i vs
    obtain ⟨vs⟩ := vs
    match vs, hl, ha with
    | [a, b, c, d, e], _, ha =>
      have h0 := ha 0 _ a rfl rfl
      have h1 := ha 1 _ b rfl rfl
      have h2 := ha 2 _ c rfl rfl
      have h3 := ha 3 _ d rfl rfl
      have h4 := refusal_inv (ha 4 _ e rfl rfl)
      cases h0; cases h1; cases h2; cases h3
      subst h4
      rfl

theorem errors_As_nil (x : AVal) (H : Heap) : CallSound Tryz.prog 36 [.c .nilI, x] H (bC false) H := by
  refine ⟨⟨_, Tryz.func36, rfl, rfl⟩, fun B m w vs r ha => ?_⟩
  obtain ⟨vs⟩ := vs
  cases ha with
  | cons a1 a2 =>
    cases a2 with
    | cons a2 a3 =>
      cases a3
      cases a1 with
      | c a1 =>
        cases a1
        refine (as_nil _ w).mono ?_
        rintro e w' ⟨rfl, rfl⟩
        exact ⟨_, m, rfl, St.refl r, .c (.bool _)⟩

theorem errors_As_at (k : Int) (key item : ByteArray) (n q old : Int) {b : Nat} {H : Heap} (hb : H[b]? = some { sz := 1, rows := [[.int .i64 old]], own := true, live := true }) :
    CallSound Tryz.prog 36 [.c (deedC k key item n q), .c (.iface 79 false [.ptr b 0 0])] H (bC true) (H.set b { sz := 1, rows := [[.int .i64 q]], own := true, live := true }) := by
  refine ⟨⟨_, Tryz.func36, rfl, rfl⟩, fun B m w vs r ha => ?_⟩
  obtain ⟨vs⟩ := vs
  cases ha with
  | cons a1 a2 =>
    cases a2 with
    | cons a2 a3 =>
      cases a3
      cases a1 with
      | c a1 =>
        obtain rfl := deed_inv a1
        cases a2 with
        | c a2 =>
          cases a2 with
          | ifaceC a2 =>
            cases a2 with
            | ptr e1 =>
              rename_i L
              obtain ⟨kb, hkb, hat⟩ := r.blk b L e1
              rw [hb] at hkb; injection hkb with hkb; subst hkb
              have ho : L.own = true := by rw [← hat.own]
              have hLo : L.o = 0 := (hat.ours ho).2
              have hsz : L.sz = 1 := hat.sz.symm
              obtain ⟨cur, ct, hg⟩ := hat.row ho rfl
              obtain ⟨hr1, hr2⟩ := hat.rows rfl 0 [.int .i64 old] rfl
              obtain ⟨v0, hv0, hvr⟩ := hr2 0 _ rfl
              have hta : (⟨L.g, L.o + 0 * L.sz + 0, none⟩ : Addr) = ⟨L.g, 0, none⟩ := by rw [hLo]; simp
              rw [hta] at hv0 ⊢
              have hfz : w.frozen? ⟨L.g, 0, none⟩ = false := by simp [World.frozen?, hg]
              have hlib := r.lib 0 (.iface 115 (.agg #[.pointer (some ⟨1, 71, none⟩)])) ⟨rfl, rfl⟩
              refine (as_wrap k key item n q ⟨L.g, 0, none⟩ v0 w hlib.2 hv0 hfz).mono ?_
              rintro e w' ⟨rfl, w1, hbel, hd, rfl⟩
              have s1 := St.ofBelow (z := m.z) r hbel (Or.inr hd) (fun _ h => h) (fun _ h => .inl h)
              have r1 := s1.rel
              have hlt : L.g < w.heap.size := hat.lt (.inl ho)
              have hg1 : w1.heap[L.g]? = some (.cells cur ct (0, 0)) := by rw [hbel.block L.g hlt]; exact hg
              have hcs : 0 < cur.size := by
                have := cell_of_row w L.g 0 cur ct (0, 0) hg
                rw [this] at hv0
                exact (Array.getElem?_eq_some_iff.1 hv0).1
              rw [setCell_eq_setRow w1 L.g 0 cur ct (0, 0) _ hg1]
              have e2 : (⟨m.f, m.z⟩ : LMap) b = some L := e1
              have st := St.turn r1 e2 hb ho rfl hg1 (cur.setIfInBounds 0 (.int .i64 q)) (by simp) (k' := { sz := 1, rows := [[.int .i64 q]], own := true, live := true }) rfl rfl (fun _ i row h => by
                match i with
                | 0 =>
                  simp at h
                  subst h
                  refine ⟨hsz.symm, fun f c hc => ?_⟩
                  match f with
                  | 0 =>
                    simp at hc
                    subst hc
                    refine ⟨.int .i64 q, ?_, .int _ _⟩
                    simp [hcs]
                  | f + 1 => simp at hc
                | i + 1 => simp at h)
              exact ⟨_, _, rfl, s1.trans r st, .c (.bool _)⟩

end Go.Proofs.YtnccbccnjjachaaGreatDoor.Eng
