/- The engine, part 20: slim code that is run, for closed arguments. No statement of the seat is proved here. -/
import Derived.Test.YtpjbjdicdjlmeaaDoorZEng19
namespace Go.Proofs.YtpjbjdicdjlmeaaDoor.Eng
open Go
set_option linter.unusedVariables false
set_option linter.unusedSimpArgs false

/-! ### Equality of cells, as a test -/
mutual
def eqC : Cell → Cell → Bool
  | .int k n, .int k' n' => decide (k = k') && decide (n = n')
  | .bool b, .bool b' => b == b'
  | .str s, .str s' => decide (s = s')
  | .nilI, .nilI => true
  | .nilF, .nilF => true
  | .nilS, .nilS => true
  | .nilP, .nilP => true
  | .ptr a b c, .ptr a' b' c' => a == a' && b == b' && c == c'
  | .slc a b c d z, .slc a' b' c' d' z' => a == a' && b == b' && c == c' && d == d' && z == z'
  | .fn f cs, .fn f' cs' => f == f' && eqCs cs cs'
  | .iface t a cs, .iface t' a' cs' => t == t' && a == a' && eqCs cs cs'
  | .lst a rs, .lst a' rs' => a == a' && eqRs rs rs'
  | .zer a, .zer a' => a == a'
  | .emp a, .emp a' => a == a'
  | .fp r f, .fp r' f' => f == f' && eqCs r r'
  | _, _ => false
def eqCs : List Cell → List Cell → Bool
  | [], [] => true
  | x :: r, y :: s => eqC x y && eqCs r s
  | _, _ => false
def eqRs : List (List Cell) → List (List Cell) → Bool
  | [], [] => true
  | x :: r, y :: s => eqCs x y && eqRs r s
  | _, _ => false
end

mutual
theorem eqC_sound : ∀ (x y : Cell), eqC x y = true → x = y
  | x, y, h => by
    cases x <;> cases y <;> simp only [eqC, Bool.and_eq_true, beq_iff_eq, decide_eq_true_eq, reduceCtorEq, Bool.false_eq_true] at h <;> try (first | rfl | (simp only [h]; done))
    case fn.fn f cs f' cs' => rw [h.1, eqCs_sound cs cs' h.2]
    case iface.iface t a cs t' a' cs' => rw [h.1.1, h.1.2, eqCs_sound cs cs' h.2]
    case lst.lst a rs a' rs' => rw [h.1, eqRs_sound rs rs' h.2]
    case fp.fp r f r' f' => rw [h.1, eqCs_sound r r' h.2]
theorem eqCs_sound : ∀ (x y : List Cell), eqCs x y = true → x = y
  | [], [], _ => rfl
  | [], _ :: _, h => by simp [eqCs] at h
  | _ :: _, [], h => by simp [eqCs] at h
  | x :: r, y :: s, h => by
    simp only [eqCs, Bool.and_eq_true] at h
    rw [eqC_sound x y h.1, eqCs_sound r s h.2]
theorem eqRs_sound : ∀ (x y : List (List Cell)), eqRs x y = true → x = y
  | [], [], _ => rfl
  | [], _ :: _, h => by simp [eqRs] at h
  | _ :: _, [], h => by simp [eqRs] at h
  | x :: r, y :: s, h => by
    simp only [eqRs, Bool.and_eq_true] at h
    rw [eqCs_sound x y h.1, eqRs_sound r s h.2]
end

def eqRows : List (List Cell) → List (List Cell) → Bool
  | [], [] => true
  | x :: r, y :: s => eqCs x y && eqRows r s
  | _, _ => false
theorem eqRows_sound : ∀ (x y : List (List Cell)), eqRows x y = true → x = y
  | [], [], _ => rfl
  | [], _ :: _, h => by simp [eqRows] at h
  | _ :: _, [], h => by simp [eqRows] at h
  | x :: r, y :: s, h => by
    simp only [eqRows, Bool.and_eq_true] at h
    rw [eqCs_sound x y h.1, eqRows_sound r s h.2]

def eqBlk (x y : Blk) : Bool := x.sz == y.sz && x.own == y.own && x.live == y.live && eqRows x.rows y.rows
theorem eqBlk_sound (x y : Blk) (h : eqBlk x y = true) : x = y := by
  obtain ⟨a, b, c, d⟩ := x
  obtain ⟨a', b', c', d'⟩ := y
  simp only [eqBlk, Bool.and_eq_true, beq_iff_eq] at h
  obtain ⟨⟨⟨h1, h2⟩, h3⟩, h4⟩ := h
  have := eqRows_sound _ _ h4
  subst h1; subst h2; subst h3; subst this; rfl

def isPre : Heap → Heap → Bool
  | [], _ => true
  | x :: r, y :: s => eqBlk x y && isPre r s
  | _ :: _, [] => false
theorem isPre_sound : ∀ (x y : Heap), isPre x y = true → x <+: y
  | [], _, _ => List.nil_prefix
  | _ :: _, [], h => by simp [isPre] at h
  | x :: r, y :: s, h => by
    simp only [isPre, Bool.and_eq_true] at h
    rw [eqBlk_sound x y h.1]
    exact List.cons_prefix_cons.2 ⟨rfl, isPre_sound r s h.2⟩

/-! ### The run -/
abbrev RunF := Nat → List AVal → Heap → Option (AVal × Heap)
abbrev RunL := ACode → Env → Heap → Option (AExit × Env × Heap)

def runOps (rf : RunF) (d : Bool) : List AInstr → Env → Heap → Option (Env × Heap)
  | [], e, H => some (e, H)
  | i :: l, e, H =>
    if goes i.guard e then
      match i.op with
      | .call fo args =>
        match fo.ev e with
        | .c (.fn f caps) =>
          match rf f (args.map (Opd.ev e) ++ caps.map .c) H with
          | some (v, H1) => if !d || isPre H H1 then runOps rf d l (updO e i.dst v) H1 else none
          | none => none
        | _ => none
      | o =>
        if i.fz then
          match evF o e H with
          | some v => runOps rf d l (updO e i.dst v) H
          | none => none
        else
          match ev o e H with
          | some (v, H1) => runOps rf d l (updO e i.dst v) H1
          | none => none
    else if i.op.isBad then none else runOps rf d l (updO e i.dst undefA) H

def runC (rf : RunF) (rl : RunL) : ACode → Env → Heap → Option (AExit × Env × Heap)
  | .skip, e, H => some (.normal, e, H)
  | .region l d, e, H => match runOps rf d l e H with | some (e', H') => some (.normal, e', H') | none => none
  | .seq a b, e, H => match runC rf rl a e H with
    | some (.normal, e', H') => runC rf rl b e' H'
    | r => r
  | .cond c a b, e, H => match c.ev e with
    | .c (.bool true) => runC rf rl a e H
    | .c (.bool false) => runC rf rl b e H
    | _ => none
  | .block id a, e, H => match runC rf rl a e H with
    | some (.exit i, e', H') => if i = id then some (.normal, e', H') else some (.exit i, e', H')
    | r => r
  | .loop a, e, H => match runC rf rl a e H with
    | some (.normal, e', H') => rl a e' H'
    | r => r
  | .exit id, e, H => some (.exit id, e, H)
  | .ret, e, H => some (.ret, e, H)
  | .bad, _, _ => none
  | .fz t a, e, H => match (e t).blk with
    | some b => match H[b]? with
      | some k => if k.own && k.live then runC rf rl a (frzEnv b k e) (H.kill b) else none
      | none => none
    | none => none

def callOf (T : Nat → Option AFun) (rf : RunF) (rl : RunL) : RunF := fun f args H =>
  match T f with
  | some fn =>
    match runC rf rl fn.body (initEnv args) H with
    | some (.normal, e, H') => (match evRes e H' fn.res with | some v => some (v, H') | none => none)
    | some (.ret, e, H') => (match evRes e H' fn.res with | some v => some (v, H') | none => none)
    | _ => none
  | none => none

def runN (T : Nat → Option AFun) : Nat → RunF × RunL
  | 0 => (fun _ _ _ => none, fun _ _ _ => none)
  | n + 1 => (callOf T (runN T n).1 (runN T n).2, fun a e H => runC (runN T n).1 (runN T n).2 (.loop a) e H)

section
variable {G : Prog} {T : Nat → Option AFun}

def RF (G : Prog) (rf : RunF) : Prop := ∀ f args H v H', rf f args H = some (v, H') → Ev G (.call f args H v H')
def RL (G : Prog) (rl : RunL) : Prop := ∀ a e H x e' H', rl a e H = some (x, e', H') → Ev G (.code (.loop a) e H x e' H')

theorem runOps_sound {rf : RunF} (h : RF G rf) {d : Bool} : ∀ {l : List AInstr} {e : Env} {H : Heap} {e' : Env} {H' : Heap}, runOps rf d l e H = some (e', H') → Ev G (.ops d l e H e' H')
  | [], e, H, e', H', hr => by
    simp only [runOps, Option.some.injEq, Prod.mk.injEq] at hr
    obtain ⟨rfl, rfl⟩ := hr
    exact .nil
  | i :: l, e, H, e', H', hr => by
    simp only [runOps] at hr
    split at hr
    · rename_i hg
      split at hr
      · rename_i fo args hop
        split at hr <;> try (cases hr; done)
        rename_i f caps hfo
        split at hr <;> try (cases hr; done)
        rename_i v H1 hv
        split at hr <;> try (cases hr; done)
        rename_i hp
        refine .opCall hg hop hfo (h _ _ _ _ _ hv) (fun hd => ?_) (runOps_sound h hr)
        subst hd
        exact isPre_sound _ _ (by simpa using hp)
      · split at hr
        · rename_i hz
          split at hr <;> try (cases hr; done)
          rename_i v hv
          exact .opF hg hz hv (runOps_sound h hr)
        · rename_i hz
          split at hr <;> try (cases hr; done)
          rename_i v H1 hv
          exact .op hg (by simpa using hz) hv (runOps_sound h hr)
    · rename_i hg
      split at hr <;> try (cases hr; done)
      rename_i hb
      exact .off (by simpa using hb) (by simpa using hg) (runOps_sound h hr)

theorem runC_sound {rf : RunF} {rl : RunL} (hf : RF G rf) (hl : RL G rl) : ∀ {c : ACode} {e : Env} {H : Heap} {x : AExit} {e' : Env} {H' : Heap}, runC rf rl c e H = some (x, e', H') → Ev G (.code c e H x e' H')
  | .skip, e, H, x, e', H', hr => by
    simp only [runC, Option.some.injEq, Prod.mk.injEq] at hr
    obtain ⟨rfl, rfl, rfl⟩ := hr; exact .skip
  | .region l d, e, H, x, e', H', hr => by
    simp only [runC] at hr
    split at hr <;> try (cases hr; done)
    rename_i e1 H1 h1
    simp only [Option.some.injEq, Prod.mk.injEq] at hr
    obtain ⟨rfl, rfl, rfl⟩ := hr
    exact .region (runOps_sound hf h1)
  | .seq a b, e, H, x, e', H', hr => by
    simp only [runC] at hr
    split at hr
    · rename_i e1 H1 h1
      exact .seq (runC_sound hf hl h1) (runC_sound hf hl hr)
    · rename_i hne
      refine .seqOut (fun hx => ?_) (runC_sound hf hl hr)
      subst hx
      exact hne _ _ hr
  | .cond c a b, e, H, x, e', H', hr => by
    simp only [runC] at hr
    split at hr <;> try (cases hr; done)
    · rename_i hc
      exact .cond hc (by simpa using runC_sound hf hl hr)
    · rename_i hc
      exact .cond hc (by simpa using runC_sound hf hl hr)
  | .block id a, e, H, x, e', H', hr => by
    simp only [runC] at hr
    split at hr
    · rename_i i e1 H1 h1
      split at hr
      · rename_i hi
        simp only [Option.some.injEq, Prod.mk.injEq] at hr
        obtain ⟨rfl, rfl, rfl⟩ := hr
        subst hi
        exact .blockExit (runC_sound hf hl h1)
      · rename_i hi
        simp only [Option.some.injEq, Prod.mk.injEq] at hr
        obtain ⟨rfl, rfl, rfl⟩ := hr
        exact .block (runC_sound hf hl h1) (by intro h; injection h with h; exact hi h)
    · rename_i hne
      refine .block (runC_sound hf hl hr) (fun hx => ?_)
      subst hx
      exact hne _ _ _ hr
  | .loop a, e, H, x, e', H', hr => by
    simp only [runC] at hr
    split at hr
    · rename_i e1 H1 h1
      exact .loop (runC_sound hf hl h1) (hl _ _ _ _ _ _ hr)
    · rename_i hne
      refine .loopOut (fun hx => ?_) (runC_sound hf hl hr)
      subst hx
      exact hne _ _ hr
  | .exit id, e, H, x, e', H', hr => by
    simp only [runC, Option.some.injEq, Prod.mk.injEq] at hr
    obtain ⟨rfl, rfl, rfl⟩ := hr; exact .exit
  | .ret, e, H, x, e', H', hr => by
    simp only [runC, Option.some.injEq, Prod.mk.injEq] at hr
    obtain ⟨rfl, rfl, rfl⟩ := hr; exact .ret
  | .bad, e, H, x, e', H', hr => by simp [runC] at hr
  | .fz t a, e, H, x, e', H', hr => by
    simp only [runC] at hr
    split at hr <;> try (cases hr; done)
    rename_i b hb
    split at hr <;> try (cases hr; done)
    rename_i k hk
    split at hr <;> try (cases hr; done)
    rename_i ho
    simp only [Bool.and_eq_true] at ho
    exact .fz hb hk ho.1 ho.2 (runC_sound hf hl hr)

theorem runN_sound (hT : ∀ f a, T f = some a → G.fn f = some a) : ∀ n, RF G (runN T n).1 ∧ RL G (runN T n).2
  | 0 => ⟨fun f args H v H' h => by simp [runN] at h, fun a e H x e' H' h => by simp [runN] at h⟩
  | n + 1 => by
    obtain ⟨hf, hl⟩ := runN_sound hT n
    refine ⟨fun f args H v H' h => ?_, fun a e H x e' H' h => runC_sound hf hl h⟩
    simp only [runN, callOf] at h
    split at h <;> try (cases h; done)
    rename_i fn hfn
    split at h <;> try (cases h; done)
    all_goals
      rename_i e H1 h1
      split at h <;> try (cases h; done)
      rename_i v1 hv1
      simp only [Option.some.injEq, Prod.mk.injEq] at h
      obtain ⟨rfl, rfl⟩ := h
      exact .call (hT _ _ hfn) (runC_sound hf hl h1) (by first | exact .inl rfl | exact .inr rfl) hv1

/-- A call that was run. -/
theorem wcall_run (hT : ∀ f a, T f = some a → G.fn f = some a) (n : Nat) {f : Nat} {args : List AVal} {H H' : Heap} {v : AVal} {R : AVal → Heap → Prop} (h : (runN T n).1 f args H = some (v, H')) (hR : R v H') : WCall G f args H R :=
  ⟨v, H', (runN_sound hT n).1 _ _ _ _ _ h, hR⟩
end

end Go.Proofs.YtpjbjdicdjlmeaaDoor.Eng
