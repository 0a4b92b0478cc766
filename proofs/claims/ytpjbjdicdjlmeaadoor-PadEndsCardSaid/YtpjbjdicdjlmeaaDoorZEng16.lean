/- The engine, part 16: stepping through slim code, piece by piece. No statement of the seat is proved here. -/
import Derived.Test.YtpjbjdicdjlmeaaDoorZPartA
namespace Go.Proofs.YtpjbjdicdjlmeaaDoor.Eng
open Go
set_option linter.unusedVariables false
set_option linter.unusedSimpArgs false

variable {G : Prog}

/-- What still stands to be done in a function's body. -/
inductive Itm where
  | code (c : ACode)
  | blk (id : Nat)
  | loop (c : ACode)

/-- What is to hold at a function's end. -/
structure Post where
  rs : List ARes
  R : AVal → Heap → Prop

def Post.fin (p : Post) (e : Env) (H : Heap) : Prop := ∃ v, evRes e H p.rs = some v ∧ p.R v H

def After (G : Prog) (p : Post) : List Itm → AExit → Env → Heap → Prop
  | [], x, e, H => (x = .normal ∨ x = .ret) ∧ p.fin e H
  | .code c :: k, .normal, e, H => ∃ x' e' H', Ev G (.code c e H x' e' H') ∧ After G p k x' e' H'
  | .blk id :: k, .exit id', e, H => if id' = id then After G p k .normal e H else After G p k (.exit id') e H
  | .loop c :: k, .normal, e, H => ∃ x' e' H', Ev G (.code (.loop c) e H x' e' H') ∧ After G p k x' e' H'
  | _ :: k, x, e, H => After G p k x e H

/-- From here on the function's body comes to its end, and there the post holds. -/
def Run (G : Prog) (p : Post) (k : List Itm) (e : Env) (H : Heap) : Prop := After G p k .normal e H

def WCall (G : Prog) (f : Nat) (args : List AVal) (H : Heap) (R : AVal → Heap → Prop) : Prop := ∃ v H', Ev G (.call f args H v H') ∧ R v H'

/-- The operations of a region. -/
def WL (G : Prog) (p : Post) (k : List Itm) (d : Bool) (l : List AInstr) (e : Env) (H : Heap) : Prop := ∃ e' H', Ev G (.ops d l e H e' H') ∧ Run G p k e' H'

def thenW (G : Prog) (p : Post) (k : List Itm) (d : Bool) (r : Option (AVal × Heap)) (dst : Option Nat) (l : List AInstr) (e : Env) : Prop := ∃ v H1, r = some (v, H1) ∧ WL G p k d l (updO e dst v) H1

def thenF (G : Prog) (p : Post) (k : List Itm) (d : Bool) (r : Option AVal) (dst : Option Nat) (l : List AInstr) (e : Env) (H : Heap) : Prop := ∃ v, r = some v ∧ WL G p k d l (updO e dst v) H

def callW (G : Prog) (p : Post) (k : List Itm) (d : Bool) (fo : AVal) (args : List AVal) (dst : Option Nat) (l : List AInstr) (e : Env) (H : Heap) : Prop :=
  ∃ f caps v H1, fo = .c (.fn f caps) ∧ Ev G (.call f (args ++ caps.map .c) H v H1) ∧ (d = true → H <+: H1) ∧ WL G p k d l (updO e dst v) H1

def condW (G : Prog) (p : Post) (k : List Itm) (v : AVal) (a b : ACode) (e : Env) (H : Heap) : Prop := ∃ t, v = .c (.bool t) ∧ Run G p (.code (if t then a else b) :: k) e H

variable {p : Post} {k : List Itm} {d : Bool} {e : Env} {H : Heap} {l : List AInstr} {dst : Option Nat}

theorem Run_nil : Run G p [] e H = p.fin e H := by simp [Run, After]

theorem After_ret : ∀ {k : List Itm}, After G p k .ret e H = p.fin e H
  | [] => by simp [After]
  | .code _ :: k => by simp only [After]; exact After_ret
  | .blk _ :: k => by simp only [After]; exact After_ret
  | .loop _ :: k => by simp only [After]; exact After_ret

/-- Where an exit goes on. -/
def popTo (id : Nat) : List Itm → Option (List Itm)
  | [] => none
  | .blk i :: k => if id = i then some k else popTo id k
  | _ :: k => popTo id k

theorem After_exit {id : Nat} : ∀ {k k' : List Itm}, popTo id k = some k' → Run G p k' e H → After G p k (.exit id) e H
  | [], _, h, _ => by simp [popTo] at h
  | .code _ :: k, k', h, hr => by simp only [After]; exact After_exit (by simpa [popTo] using h) hr
  | .loop _ :: k, k', h, hr => by simp only [After]; exact After_exit (by simpa [popTo] using h) hr
  | .blk i :: k, k', h, hr => by
    simp only [After]
    simp only [popTo] at h
    split
    · rename_i hi
      rw [if_pos hi] at h
      injection h with h; subst h
      exact hr
    · rename_i hi
      rw [if_neg hi] at h
      exact After_exit h hr

theorem run_skip (h : Run G p k e H) : Run G p (.code .skip :: k) e H := ⟨_, _, _, .skip, h⟩
theorem run_seq {a b : ACode} (h : Run G p (.code a :: .code b :: k) e H) : Run G p (.code (.seq a b) :: k) e H := by
  obtain ⟨x, e1, H1, h1, h2⟩ := h
  cases x with
  | normal => obtain ⟨x, e2, H2, h3, h4⟩ := h2; exact ⟨x, e2, H2, .seq h1 h3, h4⟩
  | exit id => exact ⟨_, e1, H1, .seqOut (by simp) h1, h2⟩
  | ret => exact ⟨_, e1, H1, .seqOut (by simp) h1, h2⟩
theorem run_region (h : WL G p k d l e H) : Run G p (.code (.region l d) :: k) e H := by
  obtain ⟨e1, H1, h1, h2⟩ := h
  exact ⟨_, e1, H1, .region h1, h2⟩
theorem run_cond {c : Opd} {a b : ACode} (h : condW G p k (c.ev e) a b e H) : Run G p (.code (.cond c a b) :: k) e H := by
  obtain ⟨t, ht, x, e1, H1, h1, h2⟩ := h
  exact ⟨x, e1, H1, .cond ht h1, h2⟩
theorem run_block {id : Nat} {a : ACode} (h : Run G p (.code a :: .blk id :: k) e H) : Run G p (.code (.block id a) :: k) e H := by
  obtain ⟨x, e1, H1, h1, h2⟩ := h
  cases x with
  | normal => exact ⟨_, e1, H1, .block h1 (by simp), by simpa [After] using h2⟩
  | ret => exact ⟨_, e1, H1, .block h1 (by simp), by simpa [After] using h2⟩
  | exit i =>
    simp only [After] at h2
    split at h2
    · rename_i hi; subst hi; exact ⟨_, e1, H1, .blockExit h1, h2⟩
    · rename_i hi; exact ⟨_, e1, H1, .block h1 (by intro h; injection h with h; exact hi h), h2⟩
theorem run_blk {id : Nat} (h : Run G p k e H) : Run G p (.blk id :: k) e H := by simpa [Run, After] using h
theorem run_exit {id : Nat} {k' : List Itm} (hk : popTo id k = some k') (h : Run G p k' e H) : Run G p (.code (.exit id) :: k) e H := ⟨_, _, _, .exit, After_exit hk h⟩
theorem run_ret (h : p.fin e H) : Run G p (.code .ret :: k) e H := ⟨_, _, _, .ret, by rw [After_ret]; exact h⟩
theorem run_nil (h : p.fin e H) : Run G p [] e H := by rw [Run_nil]; exact h
theorem run_again {c : ACode} (h : Run G p (.code c :: .loop c :: k) e H) : Run G p (.loop c :: k) e H := by
  obtain ⟨x, e1, H1, h1, h2⟩ := h
  cases x with
  | normal => obtain ⟨x, e2, H2, h3, h4⟩ := h2; exact ⟨x, e2, H2, .loop h1 h3, h4⟩
  | exit id => exact ⟨_, e1, H1, .loopOut (by simp) h1, h2⟩
  | ret => exact ⟨_, e1, H1, .loopOut (by simp) h1, h2⟩
theorem run_loop {c : ACode} (h : Run G p (.loop c :: k) e H) : Run G p (.code (.loop c) :: k) e H := h

/-- A mark: a block is given up. -/
def fzW (G : Prog) (p : Post) (k : List Itm) (c : ACode) (o : Option Nat) (e : Env) (H : Heap) : Prop := ∃ b q, o = some b ∧ H[b]? = some q ∧ q.own = true ∧ q.live = true ∧ Run G p (.code c :: k) (frzEnv b q e) (H.kill b)
theorem upd_same {e : Env} {t : Nat} {y : AVal} (h : e t = y) : upd e t y = e := by
  funext s
  unfold upd
  split
  · rename_i hs; subst hs; exact h.symm
  · rfl
theorem run_fzc {t : Nat} {c : ACode} {y : Cell} (hy : e t = .c y) (h : Run G p (.code c :: k) e H) : Run G p (.code (.fz t c) :: k) e H := by
  obtain ⟨x, e1, H1, h5, h6⟩ := h
  exact ⟨x, e1, H1, .fz0 hy (.inl rfl) (by rw [upd_same hy]; exact h5), h6⟩
theorem run_fz0 {t : Nat} {c : ACode} {sz : Nat} {y : Cell} (hy : e t = .c y) (hz : y = .nilS ∨ y = .zer sz) (h : Run G p (.code c :: k) (upd e t (.c (.lst sz []))) H) : Run G p (.code (.fz t c) :: k) e H := by
  obtain ⟨x, e1, H1, h5, h6⟩ := h
  exact ⟨x, e1, H1, .fz0 hy (.inr ⟨sz, rfl, hz⟩) h5, h6⟩
theorem run_fz {t : Nat} {c : ACode} (h : fzW G p k c (e t).blk e H) : Run G p (.code (.fz t c) :: k) e H := by
  obtain ⟨b, q, h1, h2, h3, h4, x, e1, H1, h5, h6⟩ := h
  exact ⟨x, e1, H1, .fz h1 h2 h3 h4 h5, h6⟩
def fzW' (G : Prog) (p : Post) (k : List Itm) (c : ACode) (b : Nat) (q : Option Blk) (e : Env) (H : Heap) : Prop := ∃ q', q = some q' ∧ q'.own = true ∧ q'.live = true ∧ Run G p (.code c :: k) (frzEnv b q' e) (H.kill b)
theorem fzW_some {c : ACode} {b : Nat} : fzW G p k c (some b) e H = fzW' G p k c b H[b]? e H := by
  refine propext ⟨?_, ?_⟩
  · rintro ⟨b', q, h, h1⟩; injection h with h; subst h; exact ⟨q, h1⟩
  · rintro ⟨q, h1⟩; exact ⟨b, q, rfl, h1⟩
theorem fzW'_some {c : ACode} {b : Nat} {q : Blk} : fzW' G p k c b (some q) e H = (q.own = true ∧ q.live = true ∧ Run G p (.code c :: k) (frzEnv b q e) (H.kill b)) := by
  refine propext ⟨?_, fun h => ⟨q, rfl, h⟩⟩
  rintro ⟨q', h, h1⟩; injection h with h; subst h; exact h1

theorem condW_bool {t : Bool} {a b : ACode} : condW G p k (.c (.bool t)) a b e H = Run G p (.code (if t then a else b) :: k) e H := by
  refine propext ⟨?_, fun h => ⟨t, rfl, h⟩⟩
  rintro ⟨t', ht, h⟩
  injection ht with ht; injection ht with ht; subst ht; exact h
theorem condW_true {a b : ACode} (h : Run G p (.code a :: k) e H) : condW G p k (.c (.bool true)) a b e H := ⟨true, rfl, h⟩
theorem condW_false {a b : ACode} (h : Run G p (.code b :: k) e H) : condW G p k (.c (.bool false)) a b e H := ⟨false, rfl, h⟩
theorem condW_split {q : Prop} [Decidable q] {a b : ACode} (h1 : q → Run G p (.code a :: k) e H) (h2 : ¬q → Run G p (.code b :: k) e H) : condW G p k (.c (.bool (decide q))) a b e H := by
  by_cases hq : q
  · simp only [hq, decide_true]; exact condW_true (h1 hq)
  · simp only [hq, decide_false]; exact condW_false (h2 hq)
theorem condW_cases {t : Bool} {a b : ACode} (h1 : t = true → Run G p (.code a :: k) e H) (h2 : t = false → Run G p (.code b :: k) e H) : condW G p k (.c (.bool t)) a b e H := by
  cases t
  · exact condW_false (h2 rfl)
  · exact condW_true (h1 rfl)

/-! ### Operations -/
theorem WL_nil : WL G p k d [] e H = Run G p k e H := by
  refine propext ⟨?_, fun h => ⟨e, H, .nil, h⟩⟩
  rintro ⟨e', H', h1, h2⟩
  cases h1
  exact h2

/-- One operation that goes. -/
def stepW (G : Prog) (p : Post) (k : List Itm) (d : Bool) (fz : Bool) (o : AOp) (dst : Option Nat) (l : List AInstr) (e : Env) (H : Heap) : Prop :=
  match o with
  | .call fo args => callW G p k d (fo.ev e) (args.map (Opd.ev e)) dst l e H
  | o => match fz with
    | false => thenW G p k d (ev o e H) dst l e
    | true => thenF G p k d (evF o e H) dst l e H

theorem wl_go {o : AOp} {g : Option (Nat × Bool)} {fz : Bool} (hg : goes g e = true) (h : stepW G p k d fz o dst l e H) : WL G p k d (⟨dst, o, g, fz⟩ :: l) e H := by
  have ofThen : fz = false → thenW G p k d (ev o e H) dst l e → WL G p k d (⟨dst, o, g, fz⟩ :: l) e H := by
    rintro hz ⟨v, H1, h1, e', H', h2, h3⟩
    exact ⟨e', H', .op hg hz h1 h2, h3⟩
  have ofF : fz = true → thenF G p k d (evF o e H) dst l e H → WL G p k d (⟨dst, o, g, fz⟩ :: l) e H := by
    rintro hz ⟨v, h1, e', H', h2, h3⟩
    exact ⟨e', H', .opF hg hz h1 h2, h3⟩
  cases o with
  | call fo args =>
    obtain ⟨f, caps, v, H1, hf, h1, h2, e', H', h3, h4⟩ := h
    exact ⟨e', H', .opCall hg rfl hf h1 h2 h3, h4⟩
  | _ =>
    cases fz
    · exact ofThen rfl h
    · exact ofF rfl h

theorem wl_off {o : AOp} {g : Option (Nat × Bool)} {fz : Bool} (hb : o.isBad = false) (hg : goes g e = false) (h : WL G p k d l (updO e dst undefA) H) : WL G p k d (⟨dst, o, g, fz⟩ :: l) e H := by
  obtain ⟨e', H', h2, h3⟩ := h
  exact ⟨e', H', .off hb hg h2, h3⟩

/-- A guarded operation, either way. -/
def guardW (G : Prog) (p : Post) (k : List Itm) (d : Bool) (g : Bool) (fz : Bool) (o : AOp) (dst : Option Nat) (l : List AInstr) (e : Env) (H : Heap) : Prop :=
  (g = true ∧ stepW G p k d fz o dst l e H) ∨ (g = false ∧ o.isBad = false ∧ WL G p k d l (updO e dst undefA) H)

theorem wl_step {o : AOp} {g : Option (Nat × Bool)} {fz : Bool} (h : guardW G p k d (goes g e) fz o dst l e H) : WL G p k d (⟨dst, o, g, fz⟩ :: l) e H := by
  rcases h with ⟨h1, h2⟩ | ⟨h1, h2, h3⟩
  · exact wl_go h1 h2
  · exact wl_off h2 h1 h3

theorem WL_cons {o : AOp} {g : Option (Nat × Bool)} {fz : Bool} : WL G p k d (⟨dst, o, g, fz⟩ :: l) e H = guardW G p k d (goes g e) fz o dst l e H := by
  refine propext ⟨?_, wl_step⟩
  rintro ⟨e', H', h1, h2⟩
  cases h1 with
  | op hg hz hev ht =>
    refine .inl ⟨hg, ?_⟩
    have : thenW G p k d (ev o e H) dst l e := ⟨_, _, hev, _, _, ht, h2⟩
    simp only at hz
    subst hz
    cases o with
    | call => simp [ev] at hev
    | _ => exact this
  | opF hg hz hev ht =>
    refine .inl ⟨hg, ?_⟩
    have : thenF G p k d (evF o e H) dst l e H := ⟨_, hev, _, _, ht, h2⟩
    simp only at hz
    subst hz
    cases o with
    | call => simp [evF] at hev
    | _ => exact this
  | opCall hg hop hfo hc hp ht =>
    simp only at hop
    subst hop
    exact .inl ⟨hg, _, _, _, _, hfo, hc, hp, _, _, ht, h2⟩
  | off hb hg ht => exact .inr ⟨hg, hb, _, _, ht, h2⟩

theorem guardW_true {o : AOp} {fz : Bool} : guardW G p k d true fz o dst l e H = stepW G p k d fz o dst l e H := by simp [guardW]
theorem guardW_false {o : AOp} {fz : Bool} : guardW G p k d false fz o dst l e H = (o.isBad = false ∧ WL G p k d l (updO e dst undefA) H) := by simp [guardW]
theorem goes_none : goes none e = true := rfl
theorem goes_some {t : Nat} {b : Bool} : goes (some (t, b)) e = (match e t with | .c (.bool b') => b' == b | _ => false) := rfl

theorem step_ev {o : AOp} (h : ∀ f a, o ≠ .call f a) : stepW G p k d false o dst l e H = thenW G p k d (ev o e H) dst l e := by
  cases o with
  | call f a => exact absurd rfl (h f a)
  | _ => rfl
theorem step_evF {o : AOp} (h : ∀ f a, o ≠ .call f a) : stepW G p k d true o dst l e H = thenF G p k d (evF o e H) dst l e H := by
  cases o with
  | call f a => exact absurd rfl (h f a)
  | _ => rfl
theorem thenF_some {v : AVal} : thenF G p k d (some v) dst l e H = WL G p k d l (updO e dst v) H := by
  refine propext ⟨?_, fun h => ⟨_, rfl, h⟩⟩
  rintro ⟨v', h1, h2⟩
  injection h1 with h1; subst h1; exact h2

theorem thenW_some {v : AVal} {H1 : Heap} : thenW G p k d (some (v, H1)) dst l e = WL G p k d l (updO e dst v) H1 := by
  refine propext ⟨?_, fun h => ⟨_, _, rfl, h⟩⟩
  rintro ⟨v', H', h1, h2⟩
  injection h1 with h1; injection h1 with h1 h3; subst h1; subst h3; exact h2
theorem thenW_of {r : Option (AVal × Heap)} {v : AVal} {H1 : Heap} (hr : r = some (v, H1)) (h : WL G p k d l (updO e dst v) H1) : thenW G p k d r dst l e := ⟨_, _, hr, h⟩
theorem callW_of {f : Nat} {caps : List Cell} {args : List AVal} (h : WCall G f (args ++ caps.map .c) H (fun v H1 => (d = true → H <+: H1) ∧ WL G p k d l (updO e dst v) H1)) : callW G p k d (.c (.fn f caps)) args dst l e H := by
  obtain ⟨v, H1, h1, h2, h3⟩ := h
  exact ⟨f, caps, v, H1, rfl, h1, h2, h3⟩

/-! The operations one by one: what they make of values. -/
section
variable {x y z : Opd} {xs : List Opd}
theorem step_mv : stepW G p k d false (.mv x) dst l e H = WL G p k d l (updO e dst (x.ev e)) H := by rw [step_ev (by intros; simp)]; exact thenW_some
def vPick (c x y : AVal) : AVal := match c with | .c (.bool b) => if b then x else y | _ => undefA
theorem step_pick {t : Bool} (h : x.ev e = .c (.bool t)) : stepW G p k d false (.pick x y z) dst l e H = WL G p k d l (updO e dst (if t then y.ev e else z.ev e)) H := by
  rw [step_ev (by intros; simp)]; simp only [ev, h]; exact thenW_some
theorem step_new {cs : List Cell} : stepW G p k d false (.new cs) dst l e H = WL G p k d l (updO e dst (.c (.ptr H.length 0 0))) (H ++ [{ sz := cs.length, rows := [cs] }]) := by rw [step_ev (by intros; simp)]; exact thenW_some
theorem step_call {fo : Opd} {fz : Bool} : stepW G p k d fz (.call fo xs) dst l e H = callW G p k d (fo.ev e) (xs.map (Opd.ev e)) dst l e H := rfl
end

/-- From a body to a call. -/
theorem wcall_of {f : Nat} {fn : AFun} {args : List AVal} {R : AVal → Heap → Prop} (hf : G.fn f = some fn) (h : Run G ⟨fn.res, R⟩ [.code fn.body] (initEnv args) H) : WCall G f args H R := by
  obtain ⟨x, e', H', h1, h2, v, h3, h4⟩ := h
  exact ⟨v, H', .call hf h1 h2 h3, h4⟩

theorem wcall_mono {f : Nat} {args : List AVal} {R R' : AVal → Heap → Prop} (h : WCall G f args H R) (hr : ∀ v H', R v H' → R' v H') : WCall G f args H R' := by
  obtain ⟨v, H', h1, h2⟩ := h
  exact ⟨v, H', h1, hr _ _ h2⟩

end Go.Proofs.YtpjbjdicdjlmeaaDoor.Eng
