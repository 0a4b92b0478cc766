/- The engine, part 13: a region that draws its order. No statement of the seat is proved here. -/
import Derived.Test.YtfbkolkkpkonfaaEng12
namespace Go.Proofs.Ytfbkolkkpkonfaa.Eng
open Go
set_option linter.unusedVariables false
set_option linter.unusedSimpArgs false

variable {P : Program}

/-! ### Who stands ahead of whom -/
theorem ancs_snoc (l : List Oper) (o : Oper) : ancs (l ++ [o]) = ancs l ++ [ancOf (ancs l) o] := by simp [ancs, List.foldl_append]

theorem testBit_fold {acc : List Nat} {i : Nat} : ∀ (es : List Edge) (s : Nat),
    (es.foldl (fun s e => if Region.binds .any e then s ||| (2 ^ e.on ||| acc.getD e.on 0) else s) s).testBit i = true →
    s.testBit i = true ∨ ∃ e ∈ es, Region.binds .any e = true ∧ (e.on = i ∨ (acc.getD e.on 0).testBit i = true)
  | [], s, h => .inl h
  | e :: es, s, h => by
    simp only [List.foldl_cons] at h
    rcases testBit_fold es _ h with h | ⟨e', he', h⟩
    · split at h
      · rename_i hb
        simp only [Nat.testBit_or, Bool.or_eq_true, Nat.testBit_two_pow, decide_eq_true_eq] at h
        rcases h with h | h | h
        · exact .inl h
        · exact .inr ⟨e, by simp, hb, .inl h⟩
        · exact .inr ⟨e, by simp, hb, .inr h⟩
      · exact .inl h
    · exact .inr ⟨e', by simp [he'], h⟩

theorem getD_testBit_snoc {acc : List Nat} {x i y : Nat} (h : (acc.getD x 0).testBit i = true) : ((acc ++ [y]).getD x 0).testBit i = true := by
  by_cases hx : x < acc.length
  · simpa [List.getD_eq_getElem?_getD, List.getElem?_append_left hx] using h
  · simp [List.getD_eq_getElem?_getD, List.getElem?_eq_none (Nat.le_of_not_lt hx)] at h

theorem ancs_spec_take (l : List Oper) : ∀ (k : Nat), k ≤ l.length → (ancs (l.take k)).length = k ∧ ∀ j i, ((ancs (l.take k)).getD j 0).testBit i = true →
    ∃ o, l[j]? = some o ∧ ∃ e ∈ o.after.toList, Region.binds .any e = true ∧ (e.on = i ∨ ((ancs (l.take k)).getD e.on 0).testBit i = true)
  | 0, _ => by refine ⟨by simp [ancs], fun j i h => by simp [ancs] at h⟩
  | k + 1, hk => by
    obtain ⟨hlen, ih⟩ := ancs_spec_take l k (by omega)
    have ht : l.take (k + 1) = l.take k ++ [l[k]] := by simp
    rw [ht, ancs_snoc]
    refine ⟨by simp [hlen], fun j i h => ?_⟩
    by_cases hj : j < k
    · have : (ancs (List.take k l) ++ [ancOf (ancs (List.take k l)) l[k]]).getD j 0 = (ancs (List.take k l)).getD j 0 := by
        simp [List.getD_eq_getElem?_getD, List.getElem?_append_left (show j < (ancs (List.take k l)).length by omega)]
      rw [this] at h
      obtain ⟨o, ho, e, he, hb, h⟩ := ih j i h
      exact ⟨o, ho, e, he, hb, h.imp id getD_testBit_snoc⟩
    · by_cases hjk : j = k
      · subst hjk
        have : (ancs (List.take j l) ++ [ancOf (ancs (List.take j l)) l[j]]).getD j 0 = ancOf (ancs (List.take j l)) l[j] := by
          simp [List.getD_eq_getElem?_getD, List.getElem?_append_right (show (ancs (List.take j l)).length ≤ j by omega), hlen]
        rw [this] at h
        rcases testBit_fold _ _ h with h | ⟨e, he, hb, h⟩
        · simp at h
        · exact ⟨l[j], by simp, e, he, hb, h.imp id getD_testBit_snoc⟩
      · simp [List.getD_eq_getElem?_getD, List.getElem?_eq_none (show (ancs (List.take k l) ++ [ancOf (ancs (List.take k l)) l[k]]).length ≤ j by simp [hlen]; omega)] at h

theorem ancs_spec (l : List Oper) {j i : Nat} (h : ((ancs l).getD j 0).testBit i = true) :
    ∃ o, l[j]? = some o ∧ ∃ e ∈ o.after.toList, Region.binds .any e = true ∧ (e.on = i ∨ ((ancs l).getD e.on 0).testBit i = true) := by
  have := (ancs_spec_take l l.length (Nat.le_refl _)).2 j i
  simp only [List.take_length] at this
  exact this h

/-- What must be listed ahead of an operation is. -/
def Fit (ops : Array Oper) (L : Array Bool) (j : Nat) : Prop := ∀ o, ops[j]? = some o → ∀ e ∈ o.after, Region.binds .any e = true → L.getD e.on false = true

structure Ordered (ops : Array Oper) (l : List AInstr) : Prop where
  back : ∀ j o, ops[j]? = some o → ∀ e ∈ o.after, Region.binds .any e = true → e.on < j
  pair : ∀ i j x y, i < j → l[i]? = some x → l[j]? = some y → pairOk x y = true ∨ (((ancs ops.toList).getD j 0).testBit i = true ∧ ∀ d, x.dst = some d → y.dst ≠ some d)

theorem Ordered.of {ops : Array Oper} {l : List AInstr} (hl : l.length = ops.size) (h : drawOk ops l = true) : Ordered ops l := by
  unfold drawOk at h
  simp only [List.all_eq_true, List.mem_range, Bool.and_eq_true] at h
  refine ⟨fun j o ho e he hb => ?_, fun i j x y hij hx hy => ?_⟩
  · have hj : j < l.length := by rw [hl]; exact (Array.getElem?_eq_some_iff.1 ho).1
    have := (h j hj).1
    rw [ho] at this
    simp only [List.all_eq_true] at this
    have := this e (by simpa using he)
    simpa [hb] using this
  · have hj : j < l.length := (List.getElem?_eq_some_iff.1 hy).1
    have := (h j hj).2 i hij
    rw [hx, hy] at this
    simp only [Bool.or_eq_true, Bool.and_eq_true] at this
    rcases this with h1 | ⟨h1, h2⟩
    · exact .inl h1
    · refine .inr ⟨h1, fun d hd => ?_⟩
      rw [hd] at h2
      simpa using h2

theorem anc_listed {ops : Array Oper} {l : List AInstr} (ho : Ordered ops l) {L : Array Bool} (hc : ∀ j, L.getD j false = true → Fit ops L j) {i : Nat} :
    ∀ (j : Nat), Fit ops L j → ((ancs ops.toList).getD j 0).testBit i = true → L.getD i false = true := by
  intro j
  induction j using Nat.strongRecOn with
  | _ j ih =>
    intro hf h
    obtain ⟨o, hj, e, he, hb, h⟩ := ancs_spec _ h
    have hj' : ops[j]? = some o := by simpa using hj
    have he' : e ∈ o.after := by simpa using he
    have hl := hf o hj' e he' hb
    rcases h with h | h
    · rw [← h]; exact hl
    · exact ih e.on (ho.back j o hj' e he' hb) (hc _ hl) h

/-- Two that are not ordered are apart. -/
theorem Ordered.apart {ops : Array Oper} {l : List AInstr} (ho : Ordered ops l) {L : Array Bool} (hc : ∀ j, L.getD j false = true → Fit ops L j) {i j : Nat} {x y : AInstr} (hij : i < j) (hx : l[i]? = some x) (hy : l[j]? = some y)
    (hf : Fit ops L j) (hi : L.getD i false = false) : pairOk x y = true := by
  rcases ho.pair i j x y hij hx hy with h | ⟨h, _⟩
  · exact h
  · rw [anc_listed ho hc j hf h] at hi; cases hi

theorem Ordered.uniq {ops : Array Oper} {l : List AInstr} (ho : Ordered ops l) {i j : Nat} {x y : AInstr} (hij : i ≠ j) (hx : l[i]? = some x) (hy : l[j]? = some y) {d : Nat} (hd : x.dst = some d) : y.dst ≠ some d := by
  rcases Nat.lt_or_gt_of_ne hij with h | h
  · rcases ho.pair i j x y h hx hy with h | ⟨_, h⟩
    · intro hyd
      simp [pairOk, hd, hyd] at h
    · exact h d hd
  · intro hyd
    rcases ho.pair j i y x h hy hx with h | ⟨_, h⟩
    · simp [pairOk, hd, hyd] at h
    · exact h d hyd hd

theorem pairOk_reads {x y : AInstr} (h : pairOk x y = true) : (∀ d, x.dst = some d → d ∉ y.reads) ∧ (∀ d, y.dst = some d → d ∉ x.reads) := by
  unfold pairOk at h
  simp only [Bool.and_eq_true] at h
  obtain ⟨⟨h1, h2⟩, _⟩ := h
  refine ⟨fun d hd => ?_, fun d hd => ?_⟩
  · rw [hd] at h1; simp at h1; exact h1.1
  · rw [hd] at h2; simpa using h2

theorem pairOk_cls {x y : AInstr} (h : pairOk x y = true) : ¬ (x.op.cls = .turns ∧ y.op.cls = .reads) ∧ ¬ (x.op.cls = .turns ∧ y.op.cls = .turns) ∧ ¬ (x.op.cls = .reads ∧ y.op.cls = .turns) := by
  unfold pairOk at h
  simp only [Bool.and_eq_true] at h
  obtain ⟨_, h⟩ := h
  refine ⟨fun ⟨a, b⟩ => ?_, fun ⟨a, b⟩ => ?_, fun ⟨a, b⟩ => ?_⟩ <;> (rw [a, b] at h; simp at h)

/-! ### The operations one by one, in the text's order -/
/-- One operation from one place to the next. -/
inductive StepAt (P : Program) (x : AInstr) (e : Env) (H : Heap) (v : AVal) (H1 : Heap) : Prop where
  | go : goes x.guard e = true → SOp P true x e H v H1 → StepAt P x e H v H1
  | off : x.op ≠ .bad → goes x.guard e = false → v = undefA → H1 = H → StepAt P x e H v H1

structure Seqs (P : Program) (l : List AInstr) (es : Nat → Env) (Hs : Nat → Heap) (vs : Nat → AVal) : Prop where
  env : ∀ i x, l[i]? = some x → es (i + 1) = updO (es i) x.dst (vs i)
  step : ∀ i x, l[i]? = some x → StepAt P x (es i) (Hs i) (vs i) (Hs (i + 1))

theorem trace_seqs {l : List AInstr} {e e' : Env} {H H' : Heap} (h : Trace P true l e H e' H') :
    ∃ es Hs vs, es 0 = e ∧ Hs 0 = H ∧ es l.length = e' ∧ Hs l.length = H' ∧ Seqs P l es Hs vs := by
  induction h with
  | @nil e H => exact ⟨fun _ => e, fun _ => H, fun _ => undefA, rfl, rfl, rfl, rfl, fun _ _ h => by simp at h, fun _ _ h => by simp at h⟩
  | @go x l e H v H1 e' H' hg hs _ ih =>
    obtain ⟨es, Hs, vs, h1, h2, h3, h4, h5⟩ := ih
    refine ⟨fun i => match i with | 0 => e | i + 1 => es i, fun i => match i with | 0 => H | i + 1 => Hs i, fun i => match i with | 0 => v | i + 1 => vs i, rfl, rfl, h3, h4, fun i y hy => ?_, fun i y hy => ?_⟩
    · cases i with
      | zero => simp at hy; subst hy; exact h1
      | succ i => exact h5.env i y (by simpa using hy)
    · cases i with
      | zero => simp at hy; subst hy; simp only [h2]; exact .go hg hs
      | succ i => exact h5.step i y (by simpa using hy)
  | @off x l e H e' H' hb hg _ ih =>
    obtain ⟨es, Hs, vs, h1, h2, h3, h4, h5⟩ := ih
    refine ⟨fun i => match i with | 0 => e | i + 1 => es i, fun i => match i with | 0 => H | i + 1 => Hs i, fun i => match i with | 0 => undefA | i + 1 => vs i, rfl, rfl, h3, h4, fun i y hy => ?_, fun i y hy => ?_⟩
    · cases i with
      | zero => simp at hy; subst hy; exact h1
      | succ i => exact h5.env i y (by simpa using hy)
    · cases i with
      | zero => simp at hy; subst hy; simp only [h2]; exact .off hb hg rfl rfl
      | succ i => exact h5.step i y (by simpa using hy)

theorem wp_const {o : Oper} {a : Act} {w : World} {F : Prop} (h : o.wp P a w (fun _ _ => F) (fun _ _ _ => F)) : F := by
  unfold Oper.wp at h
  generalize (execOp a.eval o).run P w = r at h
  cases r with
  | ok n w' =>
    cases n <;> simp only [Oper.upon] at h
    case enter f args =>
      obtain ⟨e, w2, fr, he, _⟩ := h []
      cases e with
      | returned => exact he
      | panicked => exact he
      | outgrown => obtain ⟨_, _, h⟩ := he; exact h
    case row r args =>
      obtain ⟨_, _, h, _⟩ := h default []
      exact h
    all_goals exact h
  | halt x w' => cases x <;> simp only [Oper.upon] at h; exact h

section
variable {B : Nat} {N : Nat} {ops : Array Oper} {l : List AInstr} {es : Nat → Env} {Hs : Nat → Heap} {vs : Nat → AVal}

/-- A place in the text's order can be reached. -/
def Seen (B N : Nat) (e : Env) (H : Heap) : Prop := ∃ m w a, Rel B m H w ∧ EnvAll m (cellsIn w) e a ∧ N ≤ a.tmps.size

theorem Seen.next {o : Oper} {e : Env} {H H1 : Heap} {v : AVal} (h : Seen B N e H) (hs : StepAt P (cmpInstr P N ops o) e H v H1) : Seen B N (updO e (cmpInstr P N ops o).dst v) H1 ∧ HLe H H1 := by
  obtain ⟨m, w, a, r, he, hN⟩ := h
  cases hs with
  | go hg hs =>
    have hdst := (cmpInstr_ok rfl hs.notBad).1
    refine wp_const (step_go (Q := fun _ _ _ => _) r hs (he.on _) hg fun m' w' u hst hv => ⟨⟨m', w', a.put o.dst u, hst.rel, ?_, ?_⟩, hst.hle⟩).2
    · rw [cmpInstr_dst]
      exact (he.mono (hst.mle r)).put hN hdst hv
    · rw [(put_tmps a o.dst u).2]; exact hN
  | off hb hg hv hH =>
    subst hv; subst hH
    have hdst := (cmpInstr_ok (P := P) (N := N) (ops := ops) (o := o) rfl hb).1
    refine ⟨⟨m, w, a.put o.dst undef, r, ?_, ?_⟩, HLe.refl _⟩
    · rw [cmpInstr_dst]
      exact he.put hN hdst VRA.undef
    · rw [(put_tmps a o.dst undef).2]; exact hN

theorem Seqs.seen (hl : l = ops.toList.map (cmpInstr P N ops)) (hs : Seqs P l es Hs vs) (h0 : Seen B N (es 0) (Hs 0)) : ∀ i, i ≤ l.length → Seen B N (es i) (Hs i) ∧ (i < l.length → HLe (Hs i) (Hs (i + 1))) := by
  have key : ∀ i, i < l.length → Seen B N (es i) (Hs i) → Seen B N (es (i + 1)) (Hs (i + 1)) ∧ HLe (Hs i) (Hs (i + 1)) := fun i hi h => by
    have hi' : i < ops.size := by rw [hl] at hi; simpa using hi
    have hx : l[i]? = some (cmpInstr P N ops ops[i]) := by rw [hl]; simp [hi']
    have := h.next (P := P) (ops := ops) (o := ops[i]) (hs.step i _ hx)
    rw [← hs.env i _ hx] at this
    exact this
  intro i
  induction i with
  | zero => intro _; exact ⟨h0, fun hi => (key 0 hi h0).2⟩
  | succ i ih =>
    intro hi
    have h := (key i (by omega) (ih (by omega)).1).1
    exact ⟨h, fun hi' => (key (i + 1) hi' h).2⟩

theorem Seqs.prefix1 (hs : Seqs P l es Hs vs) {i : Nat} {x : AInstr} (hx : l[i]? = some x) (hc : x.op.cls ≠ .turns) : Hs i <+: Hs (i + 1) := by
  cases hs.step i x hx with
  | off _ _ _ h => rw [h]; exact List.prefix_refl _
  | go _ h =>
    cases h with
    | ev h =>
      cases hcl : x.op.cls with
      | quiet => rw [(ev_quiet hcl h).1]; exact List.prefix_refl _
      | reads => exact ev_reads hcl h
      | turns => exact absurd hcl hc
    | evF _ _ h => rw [h]; exact List.prefix_refl _
    | call _ _ _ h => exact h rfl

theorem Seqs.prefixes (hs : Seqs P l es Hs vs) {i : Nat} : ∀ (j : Nat), i ≤ j → j ≤ l.length → (∀ k x, i ≤ k → k < j → l[k]? = some x → x.op.cls ≠ .turns) → Hs i <+: Hs j := by
  intro j
  induction j with
  | zero => intro h _ _; rw [show i = 0 by omega]; exact List.prefix_refl _
  | succ j ih =>
    intro h hj hk
    by_cases hij : i = j + 1
    · rw [hij]; exact List.prefix_refl _
    · have hx : l[j]? = some l[j] := by simp
      exact (ih (by omega) (by omega) fun k x h1 h2 => hk k x h1 (by omega)).trans (hs.prefix1 hx (hk j _ (by omega) (by omega) hx))

theorem Seqs.hle (hl : l = ops.toList.map (cmpInstr P N ops)) (hs : Seqs P l es Hs vs) (h0 : Seen B N (es 0) (Hs 0)) {i : Nat} : ∀ (j : Nat), i ≤ j → j ≤ l.length → HLe (Hs i) (Hs j) := by
  intro j
  induction j with
  | zero => intro h _; rw [show i = 0 by omega]; exact HLe.refl _
  | succ j ih =>
    intro h hj
    by_cases hij : i = j + 1
    · rw [hij]; exact HLe.refl _
    · exact (ih (by omega) (by omega)).trans ((hs.seen hl h0 j (by omega)).2 (by omega))

theorem Seqs.keep (hs : Seqs P l es Hs vs) {i t : Nat} : ∀ (j : Nat), i ≤ j → j ≤ l.length → (∀ k x, i ≤ k → k < j → l[k]? = some x → x.dst ≠ some t) → es j t = es i t := by
  intro j
  induction j with
  | zero => intro h _ _; rw [show i = 0 by omega]
  | succ j ih =>
    intro h hj hk
    by_cases hij : i = j + 1
    · rw [hij]
    · have hx : l[j]? = some l[j] := by simp
      rw [hs.env j _ hx]
      have hd := hk j _ (by omega) (by omega) hx
      have : updO (es j) l[j].dst (vs j) t = es j t := by
        cases hdd : l[j].dst with
        | none => rfl
        | some d =>
          have : t ≠ d := fun h => hd (by rw [hdd, h])
          simp [updO, upd, this]
      rw [this]
      exact ih (by omega) (by omega) fun k x h1 h2 => hk k x h1 (by omega)

theorem Seqs.last (hs : Seqs P l es Hs vs) (ho : Ordered ops l) {i t : Nat} {x : AInstr} (hx : l[i]? = some x) (hd : x.dst = some t) : es l.length t = vs i := by
  have hi : i < l.length := (List.getElem?_eq_some_iff.1 hx).1
  rw [hs.keep (i := i + 1) l.length (by omega) (Nat.le_refl _) fun k y h1 _ hy => ho.uniq (by omega) hx hy hd, hs.env i x hx, hd]
  simp [updO, upd]

/-- The next operation that turns the heap. -/
theorem next_turn (l : List AInstr) : ∀ (n q : Nat), l.length - q = n → q ≤ l.length → ∃ q', q ≤ q' ∧ q' ≤ l.length ∧ (∀ k x, q ≤ k → k < q' → l[k]? = some x → x.op.cls ≠ .turns) ∧ (q' < l.length → ∃ x, l[q']? = some x ∧ x.op.cls = .turns)
  | 0, q, hn, hq => ⟨q, Nat.le_refl _, hq, fun k x h1 h2 => by omega, fun h => by omega⟩
  | n + 1, q, hn, hq => by
    have hx : l[q]? = some (l[q]'(by omega)) := by simp [show q < l.length by omega]
    by_cases hc : (l[q]'(by omega)).op.cls = .turns
    · exact ⟨q, Nat.le_refl _, hq, fun k x h1 h2 => by omega, fun _ => ⟨_, hx, hc⟩⟩
    · obtain ⟨q', h1, h2, h3, h4⟩ := next_turn l n (q + 1) (by omega) (by omega)
      refine ⟨q', by omega, h2, fun k x k1 k2 k3 => ?_, h4⟩
      by_cases hk : k = q
      · subst hk; rw [hx] at k3; injection k3 with k3; subst k3; exact hc
      · exact h3 k x (by omega) k2 k3

end
end Go.Proofs.Ytfbkolkkpkonfaa.Eng
