/- The law JoinRounds: its call comes to true. -/
import Derived.Test.YtfbkolkkpkonfaaZLawJS0
namespace Go.Proofs.Ytfbkolkkpkonfaa.Eng
open Go
set_option linter.unusedVariables false
set_option linter.unusedSimpArgs false

/-! ### States made of the states of a group -/
/-- A state that joins of a group's states may come to. -/
structure Of (l : List State) (s : State) : Prop where
  good : Good s
  mem : ∀ f ∈ s.facts, ∃ t ∈ l, f ∈ t.facts
  seen : ∀ d, hasDot s.seen d = true → ∃ t ∈ l, hasDot t.seen d = true
theorem Of.agree {k : Int} {l : List State} (g : Group k l) {s t : State} (hs : Of l s) (ht : Of l t) : Agree s t := fun f hf x hx e => by
  obtain ⟨u, hu, h1⟩ := hs.mem f hf
  obtain ⟨v, hv, h2⟩ := ht.mem x hx
  exact g.agree u hu v hv f h1 x h2 e
theorem Of.join {l : List State} {s t : State} (hs : Of l s) (ht : Of l t) : Of l (joinL s t) := by
  refine ⟨joinL_good hs.good ht.good, fun f hf => ?_, fun d hd => ?_⟩
  · rcases mem_joinF.1 hf with ⟨h, _⟩ | ⟨h, _⟩
    · exact hs.mem f h
    · exact ht.mem f h
  · rw [joinL_seen hs.good.norm ht.good.norm, Bool.or_eq_true] at hd
    exact hd.elim (hs.seen d) (ht.seen d)
theorem Of.mine {k : Int} {l : List State} (g : Group k l) {s : State} (h : s ∈ l) : Of l s := ⟨g.good h, fun f hf => ⟨s, h, hf⟩, fun d hd => ⟨s, h, hd⟩⟩
theorem Of.sizes {k : Int} {l : List State} (g : Group k l) (hk : 0 ≤ k) (hk2 : k ≤ 200) {s : State} (h : Of l s) : s.seen.length ≤ 804 ∧ s.facts.length ≤ 804 := by
  have hd : ∀ d, hasDot s.seen d = true → 0 ≤ d.dev ∧ d.dev < 4 ∧ 1 ≤ d.n ∧ d.n ≤ k := fun d hd => by
    obtain ⟨t, ht, h2⟩ := h.seen d hd
    exact g.dots ht d h2
  have h1 := facts_len h.good hk hd
  have h2 := seen_len h.good hk hd
  omega

/-- The one has all that the other has. -/
def Within (a b : State) : Prop := joinL b a = b
theorem Within.refl {a : State} (h : Good a) : Within a a := join_idem h
section
variable {k : Int} {l : List State} {a b c : State}
theorem Within.trans (g : Group k l) (ha : Of l a) (hb : Of l b) (hc : Of l c) (h1 : Within a b) (h2 : Within b c) : Within a c := by
  unfold Within at *
  calc joinL c a = joinL (joinL c b) a := by rw [h2]
    _ = joinL c (joinL b a) := join_assoc hc.good hb.good ha.good (hc.agree g hb) (hc.agree g ha) (hb.agree g ha)
    _ = joinL c b := by rw [h1]
    _ = c := h2
theorem Within.antisymm (g : Group k l) (ha : Of l a) (hb : Of l b) (h1 : Within a b) (h2 : Within b a) : a = b := by
  unfold Within at *
  rw [← h1, join_comm hb.good ha.good (hb.agree g ha), h2]
theorem Within.left (g : Group k l) (ha : Of l a) (hb : Of l b) : Within a (joinL a b) := join_absorb ha.good hb.good (ha.agree g hb)
theorem Within.right (g : Group k l) (ha : Of l a) (hb : Of l b) : Within b (joinL a b) := join_absorb' ha.good hb.good (ha.agree g hb)
theorem Within.both (g : Group k l) (ha : Of l a) (hb : Of l b) (hc : Of l c) (h1 : Within a c) (h2 : Within b c) : Within (joinL a b) c := by
  unfold Within at *
  rw [← join_assoc hc.good ha.good hb.good (hc.agree g ha) (hc.agree g hb) (ha.agree g hb), h1, h2]
end

/-- What all together are. -/
theorem foldl_of {k : Int} {l : List State} (g : Group k l) : ∀ {m : List State} {s : State}, Of l s → (∀ t ∈ m, t ∈ l) → Of l (m.foldl joinL s) ∧ Within s (m.foldl joinL s) ∧ (∀ t ∈ m, Within t (m.foldl joinL s)) ∧
    ∀ c, Of l c → Within s c → (∀ t ∈ m, Within t c) → Within (m.foldl joinL s) c
  | [], s, hs, _ => ⟨hs, .refl hs.good, by simp, fun c _ h _ => h⟩
  | t :: m, s, hs, hm => by
    have ht := Of.mine g (hm t (by simp))
    obtain ⟨h1, h2, h3, h4⟩ := foldl_of g (hs.join ht) (m := m) (fun x hx => hm x (by simp [hx]))
    refine ⟨h1, .trans g hs (hs.join ht) h1 (.left g hs ht) h2, fun x hx => ?_, fun c hc h5 h6 => ?_⟩
    · rcases List.mem_cons.1 hx with rfl | hx
      · exact .trans g ht (hs.join ht) h1 (.right g hs ht) h2
      · exact h3 x hx
    · exact h4 c hc (.both g hs ht hc h5 (h6 t (by simp))) fun x hx => h6 x (by simp [hx])

/-- A row of four states that a group's states come to, each with all of its own, and no more than all together. -/
structure Rounds (l r : List State) : Prop where
  len : r.length = 4
  of : ∀ s ∈ r, Of l s
  own : ∀ (i : Nat) s t, l[i]? = some s → r[i]? = some t → Within s t
  top : ∀ s ∈ r, Within s (allL l)
theorem all_of {k : Int} {l : List State} (g : Group k l) : Of l (allL l) ∧ (∀ t ∈ l, Within t (allL l)) ∧ ∀ c, Of l c → (∀ t ∈ l, Within t c) → Within (allL l) c := by
  have onil : Of l ⟨[], []⟩ := ⟨.nil, by simp, by simp [hasDot]⟩
  obtain ⟨h1, _, h3, h4⟩ := foldl_of g (m := l) onil (fun t ht => ht)
  exact ⟨h1, h3, fun c hc h => h4 c hc (join_nil_r hc.good) h⟩
theorem Rounds.refl {k : Int} {l : List State} (g : Group k l) : Rounds l l := ⟨g.len, fun s hs => .mine g hs, fun i s t h1 h2 => by
  rw [h1] at h2; injection h2 with h2; subst h2
  exact .refl (g.good (List.mem_of_getElem? h1)), fun s hs => (all_of g).2.1 s hs⟩
theorem Rounds.set {k : Int} {l r : List State} (g : Group k l) (h : Rounds l r) {i j : Nat} {s t : State} (hi : r[i]? = some s) (hj : r[j]? = some t) : Rounds l (r.set i (joinL s t)) := by
  have ms := List.mem_of_getElem? hi
  have mt := List.mem_of_getElem? hj
  have hs := h.of s ms
  have ht := h.of t mt
  have hil := (List.getElem?_eq_some_iff.1 hi).1
  refine ⟨by rw [List.length_set]; exact h.len, fun x hx => ?_, fun j' x y hx hy => ?_, fun x hx => ?_⟩
  · rcases List.mem_or_eq_of_mem_set hx with hx | rfl
    · exact h.of x hx
    · exact hs.join ht
  · by_cases e : i = j'
    · subst e
      simp [hil] at hy
      subst hy
      have hxl := Of.mine g (List.mem_of_getElem? hx)
      exact .trans g hxl hs (hs.join ht) (h.own i x s hx hi) (.left g hs ht)
    · rw [List.getElem?_set_ne e] at hy
      exact h.own j' x y hx hy
  · rcases List.mem_or_eq_of_mem_set hx with hx | rfl
    · exact h.top x hx
    · exact .both g hs ht (all_of g).1 (h.top s ms) (h.top t mt)

/-- Behind two rounds all have all. -/
def turnR (r : List State) (i : Nat) : List State := r.set ((i + 1) % 4) (joinL ((r[(i + 1) % 4]?).getD ⟨[], []⟩) ((r[i]?).getD ⟨[], []⟩))
theorem two_rounds {k : Int} {a b c d : State} (g : Group k [a, b, c, d]) {p q r s : State} (h : Rounds [a, b, c, d] [p, q, r, s]) :
    turnR (turnR (turnR (turnR (turnR (turnR (turnR (turnR [p, q, r, s] 0) 1) 2) 3) 0) 1) 2) 3 = [allL [a, b, c, d], allL [a, b, c, d], allL [a, b, c, d], allL [a, b, c, d]] := by
  obtain ⟨h1, h3, h4⟩ := all_of g
  have hp := h.of p (by simp)
  have hq := h.of q (by simp)
  have hr := h.of r (by simp)
  have hs := h.of s (by simp)
  have tp := h.top p (by simp)
  have tq := h.top q (by simp)
  have tr := h.top r (by simp)
  have ts := h.top s (by simp)
  have wap := h.own 0 a p rfl rfl
  have wbq := h.own 1 b q rfl rfl
  have wcr := h.own 2 c r rfl rfl
  have wds := h.own 3 d s rfl rfl
  have oa := Of.mine g (s := a) (by simp)
  have ob := Of.mine g (s := b) (by simp)
  have oc := Of.mine g (s := c) (by simp)
  have od := Of.mine g (s := d) (by simp)
  generalize allL [a, b, c, d] = w at *
  have fin : ∀ x, Of [a, b, c, d] x → Within x w → Within a x → Within b x → Within c x → Within d x → x = w := fun x ox tx xa xb xc xd =>
    Within.antisymm g ox h1 tx (h4 x ox (by intro t ht; simp at ht; rcases ht with rfl | rfl | rfl | rfl <;> assumption))
  have up : ∀ x, Of [a, b, c, d] x → Within x w → joinL x w = w := fun x ox tx => by
    rw [join_comm ox.good h1.good (ox.agree g h1)]; exact tx
  -- the first round
  have oq1 := hq.join hp
  have tq1 : Within (joinL q p) w := .both g hq hp h1 tq tp
  have aq1 : Within a (joinL q p) := .trans g oa hp oq1 wap (.right g hq hp)
  have bq1 : Within b (joinL q p) := .trans g ob hq oq1 wbq (.left g hq hp)
  have or1 := hr.join oq1
  have tr1 : Within (joinL r (joinL q p)) w := .both g hr oq1 h1 tr tq1
  have ar1 : Within a (joinL r (joinL q p)) := .trans g oa oq1 or1 aq1 (.right g hr oq1)
  have br1 : Within b (joinL r (joinL q p)) := .trans g ob oq1 or1 bq1 (.right g hr oq1)
  have cr1 : Within c (joinL r (joinL q p)) := .trans g oc hr or1 wcr (.left g hr oq1)
  have os1 := hs.join or1
  have es1 : joinL s (joinL r (joinL q p)) = w := fin _ os1 (.both g hs or1 h1 ts tr1) (.trans g oa or1 os1 ar1 (.right g hs or1)) (.trans g ob or1 os1 br1 (.right g hs or1)) (.trans g oc or1 os1 cr1 (.right g hs or1)) (.trans g od hs os1 wds (.left g hs or1))
  have e1 : turnR (turnR (turnR (turnR [p, q, r, s] 0) 1) 2) 3 = [joinL p (joinL s (joinL r (joinL q p))), joinL q p, joinL r (joinL q p), joinL s (joinL r (joinL q p))] := rfl
  rw [e1, es1, up p hp tp]
  have e2 : ∀ y z, turnR (turnR (turnR (turnR [w, y, z, w] 0) 1) 2) 3 = [joinL w (joinL w (joinL z (joinL y w))), joinL y w, joinL z (joinL y w), joinL w (joinL z (joinL y w))] := fun _ _ => rfl
  rw [e2, up _ oq1 tq1, up _ or1 tr1, join_idem h1.good, join_idem h1.good]

/-! ### All states of a row that is still written -/
theorem r7_All_own {l : List State} {rows : List (List Cell)} {b : Nat} {H : Heap} (hr : RowsOf rows l) (hb : H[b]? = some { sz := 2, rows := rows, own := true, live := true }) (hg : ∀ s ∈ l, Good s) (hs : ∀ s ∈ l, s.seen.length ≤ 1000 ∧ s.facts.length ≤ 1000) (hl100 : l.length ≤ 100) :
    ∃ v H', CallSound Try.prog 32 [.c (.slc b 0 l.length 2 false)] H v H' ∧ H <+: H' ∧ ∃ c d, v = .agg [c, d] ∧ SC c d (allL l) := by
  refine sound_ex mixed is_r7_All fun T => ?_
  have hlt := (List.getElem?_eq_some_iff.1 hb).1
  have hlen : l.length ≤ maxLen := by unfold maxLen; omega
  unfold c_r7_All
  generalize hv : allL l = v
  have loop : ∀ (rest pre : List State) (s : State) (c d : Cell) (e : Env), SC c d s → l = pre ++ rest → e 0 = .c (.slc b 0 l.length 2 false) → e 2 = .c (.ptr H.length 0 0) → e 3 = .c (.ptr (H ++ [({ sz := 2, rows := [[.nilS, .nilS]] } : Blk)]).length 0 0) → e 4 = iC pre.length → Good s → s.seen.length ≤ 1000 * pre.length → s.facts.length ≤ 1000 * pre.length → rest.foldl joinL s = v →
      Run (progT Try.prog T) ⟨[.cell 2 true 2], fun u E => H <+: E ∧ ∃ c d, u = .agg [c, d] ∧ SC c d v⟩ [.loop r7_All_L0, .blk 0, .code r7_All_K1] e (H ++ [{ sz := 2, rows := [[.nilS, .nilS]] }] ++ [{ sz := 2, rows := [[c, d]] }]) := by
    intro rest
    induction rest with
    | nil =>
      intro pre s c d e hsc hp h0 h2 h3 h4 hgs hsl hfl hm
      have hc : ¬ ((pre.length : Int) < (l.length : Int)) := by rw [hp]; simp
      refine run_again ?_
      conv => enter [3, 1]; unfold r7_All_L0
      simp only [go_sem, reduceCtorEq, Nat.reduceEqDiff, Nat.reduceAdd, Nat.reduceSub, Nat.reduceMul, Nat.reduceLeDiff, Int.reduceEq, Int.reduceLT, Int.reduceLE, Int.reduceAdd, Int.reduceMul, Int.reduceSub, Int.reduceNeg, Int.reduceToNat, reduceIte, Nat.reduceLT, h0, h2, h3, h4, hc]
      unfold r7_All_K1
      simp only [go_sem, reduceCtorEq, Nat.reduceEqDiff, Nat.reduceAdd, Nat.reduceSub, Nat.reduceMul, Nat.reduceLeDiff, Int.reduceEq, Int.reduceLT, Int.reduceLE, Int.reduceAdd, Int.reduceMul, Int.reduceSub, Int.reduceNeg, Int.reduceToNat, reduceIte, Nat.reduceLT, h2, h3]
      simp only [List.foldl_nil] at hm
      subst hm
      refine ⟨?_, c, d, rfl, hsc⟩
      rw [List.append_assoc]
      exact List.prefix_append _ _
    | cons r rest ih =>
      intro pre s c d e hsc hp h0 h2 h3 h4 hgs hsl hfl hm
      have hc : ((pre.length : Int) < (l.length : Int)) := by rw [hp]; simp; omega
      have hn := next_at hp hlen
      have hpl : pre.length < l.length := by rw [hp]; simp
      have hrl : l[pre.length]? = some r := by rw [hp]; simp
      have hrm : r ∈ l := List.mem_of_getElem? hrl
      obtain ⟨c', d', hrow, hsc'⟩ := hr.get hrl
      obtain ⟨hr1, hr2⟩ := hs r hrm
      have hix : ∀ H, vIx 2 (.c (.slc b 0 l.length 2 false)) (iC (pre.length : Int)) H = some (.c (.ptr b pre.length 0), H) := fun H => vIx_slc hpl
      have hro : Heap.row H b pre.length = some [c', d'] := by rw [row_of hb rfl]; exact hrow
      refine run_again ?_
      conv => enter [3, 1]; unfold r7_All_L0
      simp only [go_sem, reduceCtorEq, Nat.reduceEqDiff, Nat.reduceAdd, Nat.reduceSub, Nat.reduceMul, Nat.reduceLeDiff, Int.reduceEq, Int.reduceLT, Int.reduceLE, Int.reduceAdd, Int.reduceMul, Int.reduceSub, Int.reduceNeg, Int.reduceToNat, reduceIte, Nat.reduceLT, h0, h2, h3, h4, hc, hix, hlt, hro]
      refine callW_pure ((r7_Join_ok s r hgs (hg r hrm) (by omega) (by omega)).wk (.cons hsc.wk (.cons hsc'.wk .nil))) ?_
      simp only [go_sem, reduceCtorEq, Nat.reduceEqDiff, Nat.reduceAdd, Nat.reduceSub, Nat.reduceMul, Nat.reduceLeDiff, Int.reduceEq, Int.reduceLT, Int.reduceLE, Int.reduceAdd, Int.reduceMul, Int.reduceSub, Int.reduceNeg, Int.reduceToNat, reduceIte, Nat.reduceLT, h2, h3, h4, hn]
      obtain ⟨k1, k2⟩ := joinL_len (a := s) (b := r)
      refine ih (pre ++ [r]) (joinL s r) _ _ _ (.same _) (by rw [hp]; simp) ?_ ?_ ?_ ?_ (joinL_good hgs (hg r hrm)) (by simp; omega) (by simp; omega) (by rw [← hm]; simp)
      all_goals simp only [go_sem, reduceCtorEq, Nat.reduceEqDiff, Nat.reduceAdd, Nat.reduceSub, Nat.reduceMul, Nat.reduceLeDiff, Int.reduceEq, Int.reduceLT, Int.reduceLE, Int.reduceAdd, Int.reduceMul, Int.reduceSub, Int.reduceNeg, Int.reduceToNat, reduceIte, Nat.reduceLT, h0, h2, h3, hn]
  simp only [go_sem, reduceCtorEq, Nat.reduceEqDiff, Nat.reduceAdd, Nat.reduceSub, Nat.reduceMul, Nat.reduceLeDiff, Int.reduceEq, Int.reduceLT, Int.reduceLE, Int.reduceAdd, Int.reduceMul, Int.reduceSub, Int.reduceNeg, Int.reduceToNat, reduceIte, Nat.reduceLT]
  refine loop l [] ⟨[], []⟩ _ _ _ .nil rfl ?_ ?_ ?_ ?_ .nil (by simp) (by simp) hv
  all_goals simp only [go_sem, reduceCtorEq, Nat.reduceEqDiff, Nat.reduceAdd, Nat.reduceSub, Nat.reduceMul, Nat.reduceLeDiff, Int.reduceEq, Int.reduceLT, Int.reduceLE, Int.reduceAdd, Int.reduceMul, Int.reduceSub, Int.reduceNeg, Int.reduceToNat, reduceIte, Nat.reduceLT, List.length_nil, Int.natCast_zero]

end Go.Proofs.Ytfbkolkkpkonfaa.Eng
