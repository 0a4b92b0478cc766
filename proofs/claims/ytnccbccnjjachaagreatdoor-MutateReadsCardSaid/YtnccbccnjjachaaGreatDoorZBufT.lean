/- Deltas of one device's deeds: plain lists, no program. No statement of the seat is proved here. -/
import Derived.Test.YtnccbccnjjachaaGreatDoorZDoR
import Derived.Test.YtnccbccnjjachaaGreatDoorZPartE
namespace Go.Proofs.YtnccbccnjjachaaGreatDoor.Eng
open Go
set_option linter.unusedVariables false
set_option linter.unusedSimpArgs false

def deltasFrom : Nat → List State → State → List Nat → List State × State
  | k + 1, l, s, x :: y :: rest => if (doL s 1 (opOf x y)).2 = 0 then deltasFrom k (l ++ [(doL s 1 (opOf x y)).1]) (joinL s (doL s 1 (opOf x y)).1) rest else deltasFrom k l s rest
  | _, l, s, _ => (l, s)
def deltasS (ns : List Nat) : List State × State := deltasFrom 20 [] ⟨[], []⟩ ns

/-- States that are parts of one. -/
structure Part (l : List State) (t : State) : Prop where
  good : Good t
  mem : ∀ f ∈ t.facts, ∃ d ∈ l, f ∈ d.facts
  seen : ∀ x, hasDot t.seen x = true → ∃ d ∈ l, hasDot d.seen x = true
def Allied (l : List State) : Prop := ∀ a ∈ l, ∀ b ∈ l, Agree a b
theorem Part.agree {l : List State} (h : Allied l) {s t : State} (hs : Part l s) (ht : Part l t) : Agree s t := fun f hf x hx e => by
  obtain ⟨u, hu, h1⟩ := hs.mem f hf
  obtain ⟨v, hv, h2⟩ := ht.mem x hx
  exact h u hu v hv f h1 x h2 e
theorem Part.join {l : List State} {s t : State} (hs : Part l s) (ht : Part l t) : Part l (joinL s t) := by
  refine ⟨joinL_good hs.good ht.good, fun f hf => ?_, fun x hx => ?_⟩
  · rcases mem_joinF.1 hf with ⟨h, _⟩ | ⟨h, _⟩
    · exact hs.mem f h
    · exact ht.mem f h
  · rw [joinL_seen hs.good.norm ht.good.norm, Bool.or_eq_true] at hx
    exact hx.elim (hs.seen x) (ht.seen x)
theorem Part.none (l : List State) : Part l ⟨[], []⟩ := ⟨.nil, by simp, fun x hx => by simp [hasDot] at hx⟩
theorem Part.foldl {l : List State} (hl : ∀ d ∈ l, Good d) : ∀ {m : List State} {s : State}, Part l s → (∀ d ∈ m, d ∈ l) → Part l (m.foldl joinL s)
  | [], s, hs, _ => hs
  | d :: m, s, hs, h => Part.foldl hl (m := m) (hs.join ⟨hl d (h d (by simp)), fun f hf => ⟨d, h d (by simp), hf⟩, fun x hx => ⟨d, h d (by simp), hx⟩⟩) fun e he => h e (by simp [he])
theorem join_none {s : State} (h : Good s) : joinL s ⟨[], []⟩ = s := by
  refine (joinL_good h .nil).ext h (fun d => ?_) fun f => ?_
  · rw [joinL_seen h.norm .nil]; simp [hasDot]
  · rw [mem_join h .nil (by intro f _ g hg; simp at hg)]
    simp only [hasDot, List.not_mem_nil, or_false, List.any_nil, Bool.false_eq_true, false_implies, and_true]
    exact ⟨fun h => h.1, fun h => ⟨h, fun _ => h⟩⟩
theorem foldl_split {l : List State} (hl : ∀ d ∈ l, Good d) (ha : Allied l) : ∀ {m : List State} {s t : State}, Part l s → Part l t → (∀ d ∈ m, d ∈ l) → m.foldl joinL (joinL s t) = joinL s (m.foldl joinL t)
  | [], s, t, _, _, _ => rfl
  | d :: m, s, t, hs, ht, h => by
    have hd : Part l d := ⟨hl d (h d (by simp)), fun f hf => ⟨d, h d (by simp), hf⟩, fun x hx => ⟨d, h d (by simp), hx⟩⟩
    simp only [List.foldl_cons]
    rw [join_assoc hs.good ht.good hd.good (hs.agree ha ht) (hs.agree ha hd) (ht.agree ha hd)]
    exact foldl_split hl ha hs (ht.join hd) fun e he => h e (by simp [he])
theorem allL_split {l : List State} (hl : ∀ d ∈ l, Good d) (ha : Allied l) (k : Nat) : joinL (allL (l.take k)) (allL (l.drop k)) = allL l := by
  have h1 : Part l (allL (l.take k)) := Part.foldl hl (.none l) fun d hd => List.mem_of_mem_take hd
  have h2 := foldl_split hl ha (m := l.drop k) h1 (.none l) fun d hd => List.mem_of_mem_drop hd
  rw [join_none h1.good] at h2
  unfold allL at *
  rw [← h2, ← List.foldl_append, List.take_append_drop]

/-- What deltas are, behind so many deeds. -/
structure Dl (k : Int) (l : List State) (s : State) : Prop where
  all : allL l = s
  good : Good s
  goods : ∀ d ∈ l, Good d
  own : ∀ x, hasDot s.seen x = true → x.dev = 1 ∧ 1 ≤ x.n ∧ x.n ≤ k
  seen : ∀ d ∈ l, ∀ x, hasDot d.seen x = true → hasDot s.seen x = true
  allied : Allied l
theorem Dl.nil : Dl 0 [] ⟨[], []⟩ := ⟨rfl, .nil, by simp, fun x hx => by simp [hasDot] at hx, by simp, fun a h => by simp at h⟩
theorem Dl.mono {k m : Int} {l : List State} {s : State} (h : Dl k l s) (hm : k ≤ m) : Dl m l s := ⟨h.all, h.good, h.goods, fun x hx => by obtain ⟨a, b, c⟩ := h.own x hx; exact ⟨a, b, by omega⟩, h.seen, h.allied⟩
theorem Dl.step {k : Int} {l : List State} {s : State} (h : Dl k l s) (hk : 0 ≤ k) {o : OpR} (hz : (doL s 1 o).2 = 0) : Dl (k + 1) (l ++ [(doL s 1 o).1]) (joinL s (doL s 1 o).1) := by
  have hg := h.good
  obtain ⟨hdg, _, _⟩ := doL_good hg (dev := 1) (o := o)
  have hd : badOp 1 o = false ∧ (makes o && largeF (madeF s 1 o)) = false ∧ (doL s 1 o).1 = deltaL s 1 o := by
    unfold doL at hz ⊢
    split at hz
    · cases hz
    split at hz
    · cases hz
    split at hz
    · cases hz
    split at hz
    · cases hz
    rename_i h1 h2 h3 h4
    refine ⟨by simpa using h1, by simpa using h3, ?_⟩
    rw [if_neg h1, if_neg h2, if_neg h3, if_neg h4]
  obtain ⟨hb, hl, he⟩ := hd
  have hlast : lastL s.seen 1 ≤ k := by
    have h0 := (lastL_le (d := 1) hg.norm.right).1
    rcases Int.lt_or_le 0 (lastL s.seen 1) with h' | h'
    · exact (h.own _ (lastL_has hg.norm.right h')).2.2
    · omega
  have hl0 := (lastL_le (d := 1) hg.norm.right).1
  have hnew : (madeF s 1 o).dot = ⟨1, lastL s.seen 1 + 1⟩ := rfl
  have hnot : hasDot s.seen (madeF s 1 o).dot = false := by
    cases hh : hasDot s.seen (madeF s 1 o).dot with
    | false => rfl
    | true => rw [hnew] at hh; have := lastL_none hh; omega
  rw [he] at hdg ⊢
  refine ⟨?_, joinL_good hg hdg, fun d hd => ?_, fun x hx => ?_, fun d hd x hx => ?_, fun a ha b hb' f hf g hg' e => ?_⟩
  · have h0 := h.all
    unfold allL at h0 ⊢
    rw [List.foldl_append, h0]
    rfl
  · rcases List.mem_append.1 hd with hd | hd
    · exact h.goods d hd
    · rw [List.mem_singleton.1 hd]; exact hdg
  · rw [joinL_seen hg.norm hdg.norm, Bool.or_eq_true] at hx
    have old : hasDot s.seen x = true → x.dev = 1 ∧ 1 ≤ x.n ∧ x.n ≤ k + 1 := fun hx => by obtain ⟨a, b, c⟩ := h.own x hx; exact ⟨a, b, by omega⟩
    rcases hx with hx | hx
    · exact old hx
    · rcases (delta_seen hg hb hl x).1 hx with ⟨f, hf, _, rfl⟩ | ⟨_, rfl⟩
      · exact old (hg.has f hf)
      · rw [hnew]; exact ⟨rfl, by simp only; omega, by simp only; omega⟩
  · rw [joinL_seen hg.norm hdg.norm, Bool.or_eq_true]
    rcases List.mem_append.1 hd with hd | hd
    · exact .inl (h.seen d hd x hx)
    · rw [List.mem_singleton.1 hd] at hx; exact .inr hx
  · rcases List.mem_append.1 ha with ha | ha <;> rcases List.mem_append.1 hb' with hb' | hb'
    · exact h.allied a ha b hb' f hf g hg' e
    · rw [List.mem_singleton.1 hb'] at hg'
      obtain ⟨_, rfl⟩ := delta_facts.1 hg'
      have := h.seen a ha _ ((h.goods a ha).has f hf)
      rw [e, hnot] at this; cases this
    · rw [List.mem_singleton.1 ha] at hf
      obtain ⟨_, rfl⟩ := delta_facts.1 hf
      have := h.seen b hb' _ ((h.goods b hb').has g hg')
      rw [← e, hnot] at this; cases this
    · rw [List.mem_singleton.1 ha] at hf
      rw [List.mem_singleton.1 hb'] at hg'
      exact hdg.agree f hf g hg' e
theorem Dl.size {k : Int} {l : List State} {s t : State} (h : Dl k l s) (hk : 0 ≤ k) (hk2 : k ≤ 100) (ht : Good t) (hs : ∀ x, hasDot t.seen x = true → hasDot s.seen x = true) : t.seen.length ≤ 404 ∧ t.facts.length ≤ 404 := by
  have hd : ∀ x, hasDot t.seen x = true → 0 ≤ x.dev ∧ x.dev < 4 ∧ 1 ≤ x.n ∧ x.n ≤ k := fun x hx => by
    obtain ⟨a, b, c⟩ := h.own x (hs x hx)
    omega
  have h1 := facts_len ht hk hd
  have h2 := seen_len ht hk hd
  omega
theorem Dl.self {k : Int} {l : List State} {s : State} (h : Dl k l s) (hk : 0 ≤ k) (hk2 : k ≤ 100) : s.seen.length ≤ 404 ∧ s.facts.length ≤ 404 := h.size hk hk2 h.good fun _ h => h
theorem Dl.each {k : Int} {l : List State} {s : State} (h : Dl k l s) (hk : 0 ≤ k) (hk2 : k ≤ 100) : ∀ d ∈ l, d.seen.length ≤ 404 ∧ d.facts.length ≤ 404 := fun d hd => h.size hk hk2 (h.goods d hd) (h.seen d hd)
theorem Dl.part {k : Int} {l : List State} {s t : State} (h : Dl k l s) (hk : 0 ≤ k) (hk2 : k ≤ 100) (ht : Part l t) : t.seen.length ≤ 404 ∧ t.facts.length ≤ 404 := h.size hk hk2 ht.good fun x hx => by
  obtain ⟨d, hd, hx⟩ := ht.seen x hx
  exact h.seen d hd x hx
theorem Dl.from : ∀ {n : Nat} {k : Int} {l : List State} {s : State} {ns : List Nat}, Dl k l s → 0 ≤ k → Dl (k + n) (deltasFrom n l s ns).1 (deltasFrom n l s ns).2 ∧ (deltasFrom n l s ns).1.length ≤ l.length + n
  | 0, k, l, s, ns, h, _ => by simp only [deltasFrom]; exact ⟨h.mono (by omega), by omega⟩
  | n + 1, k, l, s, [], h, _ => by simp only [deltasFrom]; exact ⟨h.mono (by omega), by omega⟩
  | n + 1, k, l, s, [_], h, _ => by simp only [deltasFrom]; exact ⟨h.mono (by omega), by omega⟩
  | n + 1, k, l, s, x :: y :: rest, h, hk => by
    simp only [deltasFrom]
    split
    · rename_i hz
      obtain ⟨h1, h2⟩ := Dl.from (n := n) (ns := rest) (h.step hk hz) (by omega)
      refine ⟨h1.mono (by omega), ?_⟩
      simp only [List.length_append, List.length_singleton] at h2
      omega
    · obtain ⟨h1, h2⟩ := Dl.from (n := n) (ns := rest) h hk
      exact ⟨h1.mono (by omega), by omega⟩
theorem deltasS_ok (ns : List Nat) : Dl 20 (deltasS ns).1 (deltasS ns).2 ∧ (deltasS ns).1.length ≤ 20 := by
  obtain ⟨h1, h2⟩ := Dl.from (n := 20) (ns := ns) .nil (Int.le_refl _)
  exact ⟨h1.mono (by omega), Nat.le_trans h2 (by simp)⟩

end Go.Proofs.YtnccbccnjjachaaGreatDoor.Eng
