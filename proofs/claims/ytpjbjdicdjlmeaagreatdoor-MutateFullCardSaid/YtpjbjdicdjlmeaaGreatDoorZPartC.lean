/- Texts that this claim's proof needs, joined. No statement of the seat is proved here. -/
import Derived.Test.YtpjbjdicdjlmeaaGreatDoorZPartA
import Derived.Test.YtpjbjdicdjlmeaaGreatDoorZPartB
import Derived.WideShapes
import Derived.Test.YtpjbjdicdjlmeaaGreatDoorProg
import Derived.Test.YtpjbjdicdjlmeaaGreatDoorChecked

/- The engine, part 16: stepping through slim code, piece by piece. No statement of the seat is proved here. -/
namespace Go.Proofs.YtpjbjdicdjlmeaaGreatDoor.Eng
open Go
set_option linter.unusedVariables false
set_option linter.unusedSimpArgs false

variable {G : Prog}

/-- What still stands to be done in a function's body. -/
inductive Itm where
  | code (c : ACode)
  | blk (id : Nat)
  | loop (c : ACode)

/-- What is to hold at a function's end. -/
structure Post where
  rs : List ARes
  R : AVal → Heap → Prop

def Post.fin (p : Post) (e : Env) (H : Heap) : Prop := ∃ v, evRes e H p.rs = some v ∧ p.R v H

def After (G : Prog) (p : Post) : List Itm → AExit → Env → Heap → Prop
  | [], x, e, H => (x = .normal ∨ x = .ret) ∧ p.fin e H
  | .code c :: k, .normal, e, H => ∃ x' e' H', Ev G (.code c e H x' e' H') ∧ After G p k x' e' H'
  | .blk id :: k, .exit id', e, H => if id' = id then After G p k .normal e H else After G p k (.exit id') e H
  | .loop c :: k, .normal, e, H => ∃ x' e' H', Ev G (.code (.loop c) e H x' e' H') ∧ After G p k x' e' H'
  | _ :: k, x, e, H => After G p k x e H

/-- From here on the function's body comes to its end, and there the post holds. -/
def Run (G : Prog) (p : Post) (k : List Itm) (e : Env) (H : Heap) : Prop := After G p k .normal e H

def WCall (G : Prog) (f : Nat) (args : List AVal) (H : Heap) (R : AVal → Heap → Prop) : Prop := ∃ v H', Ev G (.call f args H v H') ∧ R v H'

/-- The operations of a region. -/
def WL (G : Prog) (p : Post) (k : List Itm) (d : Bool) (l : List AInstr) (e : Env) (H : Heap) : Prop := ∃ e' H', Ev G (.ops d l e H e' H') ∧ Run G p k e' H'

def thenW (G : Prog) (p : Post) (k : List Itm) (d : Bool) (r : Option (AVal × Heap)) (dst : Option Nat) (l : List AInstr) (e : Env) : Prop := ∃ v H1, r = some (v, H1) ∧ WL G p k d l (updO e dst v) H1

def thenF (G : Prog) (p : Post) (k : List Itm) (d : Bool) (r : Option AVal) (dst : Option Nat) (l : List AInstr) (e : Env) (H : Heap) : Prop := ∃ v, r = some v ∧ WL G p k d l (updO e dst v) H

def callW (G : Prog) (p : Post) (k : List Itm) (d : Bool) (fo : AVal) (args : List AVal) (dst : Option Nat) (l : List AInstr) (e : Env) (H : Heap) : Prop :=
  ∃ f caps v H1, fo = .c (.fn f caps) ∧ Ev G (.call f (args ++ caps.map .c) H v H1) ∧ (d = true → H <+: H1) ∧ WL G p k d l (updO e dst v) H1

def condW (G : Prog) (p : Post) (k : List Itm) (v : AVal) (a b : ACode) (e : Env) (H : Heap) : Prop := ∃ t, v = .c (.bool t) ∧ Run G p (.code (if t then a else b) :: k) e H

variable {p : Post} {k : List Itm} {d : Bool} {e : Env} {H : Heap} {l : List AInstr} {dst : Option Nat}

theorem Run_nil : Run G p [] e H = p.fin e H := by simp [Run, After]

theorem After_ret : ∀ {k : List Itm}, After G p k .ret e H = p.fin e H
  | [] => by simp [After]
  | .code _ :: k => by simp only [After]; exact After_ret
  | .blk _ :: k => by simp only [After]; exact After_ret
  | .loop _ :: k => by simp only [After]; exact After_ret

/-- Where an exit goes on. -/
def popTo (id : Nat) : List Itm → Option (List Itm)
  | [] => none
  | .blk i :: k => if id = i then some k else popTo id k
  | _ :: k => popTo id k

theorem After_exit {id : Nat} : ∀ {k k' : List Itm}, popTo id k = some k' → Run G p k' e H → After G p k (.exit id) e H
  | [], _, h, _ => by simp [popTo] at h
  | .code _ :: k, k', h, hr => by simp only [After]; exact After_exit (by simpa [popTo] using h) hr
  | .loop _ :: k, k', h, hr => by simp only [After]; exact After_exit (by simpa [popTo] using h) hr
  | .blk i :: k, k', h, hr => by
    simp only [After]
    simp only [popTo] at h
    split
    · rename_i hi
      rw [if_pos hi] at h
      injection h with h; subst h
      exact hr
    · rename_i hi
      rw [if_neg hi] at h
      exact After_exit h hr

theorem run_skip (h : Run G p k e H) : Run G p (.code .skip :: k) e H := ⟨_, _, _, .skip, h⟩
theorem run_seq {a b : ACode} (h : Run G p (.code a :: .code b :: k) e H) : Run G p (.code (.seq a b) :: k) e H := by
  obtain ⟨x, e1, H1, h1, h2⟩ := h
  cases x with
  | normal => obtain ⟨x, e2, H2, h3, h4⟩ := h2; exact ⟨x, e2, H2, .seq h1 h3, h4⟩
  | exit id => exact ⟨_, e1, H1, .seqOut (by simp) h1, h2⟩
  | ret => exact ⟨_, e1, H1, .seqOut (by simp) h1, h2⟩
theorem run_region (h : WL G p k d l e H) : Run G p (.code (.region l d) :: k) e H := by
  obtain ⟨e1, H1, h1, h2⟩ := h
  exact ⟨_, e1, H1, .region h1, h2⟩
theorem run_cond {c : Opd} {a b : ACode} (h : condW G p k (c.ev e) a b e H) : Run G p (.code (.cond c a b) :: k) e H := by
  obtain ⟨t, ht, x, e1, H1, h1, h2⟩ := h
  exact ⟨x, e1, H1, .cond ht h1, h2⟩
theorem run_block {id : Nat} {a : ACode} (h : Run G p (.code a :: .blk id :: k) e H) : Run G p (.code (.block id a) :: k) e H := by
  obtain ⟨x, e1, H1, h1, h2⟩ := h
  cases x with
  | normal => exact ⟨_, e1, H1, .block h1 (by simp), by simpa [After] using h2⟩
  | ret => exact ⟨_, e1, H1, .block h1 (by simp), by simpa [After] using h2⟩
  | exit i =>
    simp only [After] at h2
    split at h2
    · rename_i hi; subst hi; exact ⟨_, e1, H1, .blockExit h1, h2⟩
    · rename_i hi; exact ⟨_, e1, H1, .block h1 (by intro h; injection h with h; exact hi h), h2⟩
theorem run_blk {id : Nat} (h : Run G p k e H) : Run G p (.blk id :: k) e H := by simpa [Run, After] using h
theorem run_exit {id : Nat} {k' : List Itm} (hk : popTo id k = some k') (h : Run G p k' e H) : Run G p (.code (.exit id) :: k) e H := ⟨_, _, _, .exit, After_exit hk h⟩
theorem run_ret (h : p.fin e H) : Run G p (.code .ret :: k) e H := ⟨_, _, _, .ret, by rw [After_ret]; exact h⟩
theorem run_nil (h : p.fin e H) : Run G p [] e H := by rw [Run_nil]; exact h
theorem run_again {c : ACode} (h : Run G p (.code c :: .loop c :: k) e H) : Run G p (.loop c :: k) e H := by
  obtain ⟨x, e1, H1, h1, h2⟩ := h
  cases x with
  | normal => obtain ⟨x, e2, H2, h3, h4⟩ := h2; exact ⟨x, e2, H2, .loop h1 h3, h4⟩
  | exit id => exact ⟨_, e1, H1, .loopOut (by simp) h1, h2⟩
  | ret => exact ⟨_, e1, H1, .loopOut (by simp) h1, h2⟩
theorem run_loop {c : ACode} (h : Run G p (.loop c :: k) e H) : Run G p (.code (.loop c) :: k) e H := h

/-- A mark: a block is given up. -/
def fzW (G : Prog) (p : Post) (k : List Itm) (c : ACode) (o : Option Nat) (e : Env) (H : Heap) : Prop := ∃ b q, o = some b ∧ H[b]? = some q ∧ q.own = true ∧ q.live = true ∧ Run G p (.code c :: k) (frzEnv b q e) (H.kill b)
theorem upd_same {e : Env} {t : Nat} {y : AVal} (h : e t = y) : upd e t y = e := by
  funext s
  unfold upd
  split
  · rename_i hs; subst hs; exact h.symm
  · rfl
theorem run_fzc {t : Nat} {c : ACode} {y : Cell} (hy : e t = .c y) (h : Run G p (.code c :: k) e H) : Run G p (.code (.fz t c) :: k) e H := by
  obtain ⟨x, e1, H1, h5, h6⟩ := h
  exact ⟨x, e1, H1, .fz0 hy (.inl rfl) (by rw [upd_same hy]; exact h5), h6⟩
theorem run_fz0 {t : Nat} {c : ACode} {sz : Nat} {y : Cell} (hy : e t = .c y) (hz : y = .nilS ∨ y = .zer sz) (h : Run G p (.code c :: k) (upd e t (.c (.lst sz []))) H) : Run G p (.code (.fz t c) :: k) e H := by
  obtain ⟨x, e1, H1, h5, h6⟩ := h
  exact ⟨x, e1, H1, .fz0 hy (.inr ⟨sz, rfl, hz⟩) h5, h6⟩
theorem run_fz {t : Nat} {c : ACode} (h : fzW G p k c (e t).blk e H) : Run G p (.code (.fz t c) :: k) e H := by
  obtain ⟨b, q, h1, h2, h3, h4, x, e1, H1, h5, h6⟩ := h
  exact ⟨x, e1, H1, .fz h1 h2 h3 h4 h5, h6⟩
def fzW' (G : Prog) (p : Post) (k : List Itm) (c : ACode) (b : Nat) (q : Option Blk) (e : Env) (H : Heap) : Prop := ∃ q', q = some q' ∧ q'.own = true ∧ q'.live = true ∧ Run G p (.code c :: k) (frzEnv b q' e) (H.kill b)
theorem fzW_some {c : ACode} {b : Nat} : fzW G p k c (some b) e H = fzW' G p k c b H[b]? e H := by
  refine propext ⟨?_, ?_⟩
  · rintro ⟨b', q, h, h1⟩; injection h with h; subst h; exact ⟨q, h1⟩
  · rintro ⟨q, h1⟩; exact ⟨b, q, rfl, h1⟩
theorem fzW'_some {c : ACode} {b : Nat} {q : Blk} : fzW' G p k c b (some q) e H = (q.own = true ∧ q.live = true ∧ Run G p (.code c :: k) (frzEnv b q e) (H.kill b)) := by
  refine propext ⟨?_, fun h => ⟨q, rfl, h⟩⟩
  rintro ⟨q', h, h1⟩; injection h with h; subst h; exact h1

theorem condW_bool {t : Bool} {a b : ACode} : condW G p k (.c (.bool t)) a b e H = Run G p (.code (if t then a else b) :: k) e H := by
  refine propext ⟨?_, fun h => ⟨t, rfl, h⟩⟩
  rintro ⟨t', ht, h⟩
  injection ht with ht; injection ht with ht; subst ht; exact h
theorem condW_true {a b : ACode} (h : Run G p (.code a :: k) e H) : condW G p k (.c (.bool true)) a b e H := ⟨true, rfl, h⟩
theorem condW_false {a b : ACode} (h : Run G p (.code b :: k) e H) : condW G p k (.c (.bool false)) a b e H := ⟨false, rfl, h⟩
theorem condW_split {q : Prop} [Decidable q] {a b : ACode} (h1 : q → Run G p (.code a :: k) e H) (h2 : ¬q → Run G p (.code b :: k) e H) : condW G p k (.c (.bool (decide q))) a b e H := by
  by_cases hq : q
  · simp only [hq, decide_true]; exact condW_true (h1 hq)
  · simp only [hq, decide_false]; exact condW_false (h2 hq)
theorem condW_cases {t : Bool} {a b : ACode} (h1 : t = true → Run G p (.code a :: k) e H) (h2 : t = false → Run G p (.code b :: k) e H) : condW G p k (.c (.bool t)) a b e H := by
  cases t
  · exact condW_false (h2 rfl)
  · exact condW_true (h1 rfl)

/-! ### Operations -/
theorem WL_nil : WL G p k d [] e H = Run G p k e H := by
  refine propext ⟨?_, fun h => ⟨e, H, .nil, h⟩⟩
  rintro ⟨e', H', h1, h2⟩
  cases h1
  exact h2

/-- One operation that goes. -/
def stepW (G : Prog) (p : Post) (k : List Itm) (d : Bool) (fz : Bool) (o : AOp) (dst : Option Nat) (l : List AInstr) (e : Env) (H : Heap) : Prop :=
  match o with
  | .call fo args => callW G p k d (fo.ev e) (args.map (Opd.ev e)) dst l e H
  | o => match fz with
    | false => thenW G p k d (ev o e H) dst l e
    | true => thenF G p k d (evF o e H) dst l e H

theorem wl_go {o : AOp} {g : Option (Nat × Bool)} {fz : Bool} (hg : goes g e = true) (h : stepW G p k d fz o dst l e H) : WL G p k d (⟨dst, o, g, fz⟩ :: l) e H := by
  have ofThen : fz = false → thenW G p k d (ev o e H) dst l e → WL G p k d (⟨dst, o, g, fz⟩ :: l) e H := by
    rintro hz ⟨v, H1, h1, e', H', h2, h3⟩
    exact ⟨e', H', .op hg hz h1 h2, h3⟩
  have ofF : fz = true → thenF G p k d (evF o e H) dst l e H → WL G p k d (⟨dst, o, g, fz⟩ :: l) e H := by
    rintro hz ⟨v, h1, e', H', h2, h3⟩
    exact ⟨e', H', .opF hg hz h1 h2, h3⟩
  cases o with
  | call fo args =>
    obtain ⟨f, caps, v, H1, hf, h1, h2, e', H', h3, h4⟩ := h
    exact ⟨e', H', .opCall hg rfl hf h1 h2 h3, h4⟩
  | _ =>
    cases fz
    · exact ofThen rfl h
    · exact ofF rfl h

theorem wl_off {o : AOp} {g : Option (Nat × Bool)} {fz : Bool} (hb : o.isBad = false) (hg : goes g e = false) (h : WL G p k d l (updO e dst undefA) H) : WL G p k d (⟨dst, o, g, fz⟩ :: l) e H := by
  obtain ⟨e', H', h2, h3⟩ := h
  exact ⟨e', H', .off hb hg h2, h3⟩

/-- A guarded operation, either way. -/
def guardW (G : Prog) (p : Post) (k : List Itm) (d : Bool) (g : Bool) (fz : Bool) (o : AOp) (dst : Option Nat) (l : List AInstr) (e : Env) (H : Heap) : Prop :=
  (g = true ∧ stepW G p k d fz o dst l e H) ∨ (g = false ∧ o.isBad = false ∧ WL G p k d l (updO e dst undefA) H)

theorem wl_step {o : AOp} {g : Option (Nat × Bool)} {fz : Bool} (h : guardW G p k d (goes g e) fz o dst l e H) : WL G p k d (⟨dst, o, g, fz⟩ :: l) e H := by
  rcases h with ⟨h1, h2⟩ | ⟨h1, h2, h3⟩
  · exact wl_go h1 h2
  · exact wl_off h2 h1 h3

theorem WL_cons {o : AOp} {g : Option (Nat × Bool)} {fz : Bool} : WL G p k d (⟨dst, o, g, fz⟩ :: l) e H = guardW G p k d (goes g e) fz o dst l e H := by
  refine propext ⟨?_, wl_step⟩
  rintro ⟨e', H', h1, h2⟩
  cases h1 with
  | op hg hz hev ht =>
    refine .inl ⟨hg, ?_⟩
    have : thenW G p k d (ev o e H) dst l e := ⟨_, _, hev, _, _, ht, h2⟩
    simp only at hz
    subst hz
    cases o with
    | call => simp [ev] at hev
    | _ => exact this
  | opF hg hz hev ht =>
    refine .inl ⟨hg, ?_⟩
    have : thenF G p k d (evF o e H) dst l e H := ⟨_, hev, _, _, ht, h2⟩
    simp only at hz
    subst hz
    cases o with
    | call => simp [evF] at hev
    | _ => exact this
  | opCall hg hop hfo hc hp ht =>
    simp only at hop
    subst hop
    exact .inl ⟨hg, _, _, _, _, hfo, hc, hp, _, _, ht, h2⟩
  | off hb hg ht => exact .inr ⟨hg, hb, _, _, ht, h2⟩

theorem guardW_true {o : AOp} {fz : Bool} : guardW G p k d true fz o dst l e H = stepW G p k d fz o dst l e H := by simp [guardW]
theorem guardW_false {o : AOp} {fz : Bool} : guardW G p k d false fz o dst l e H = (o.isBad = false ∧ WL G p k d l (updO e dst undefA) H) := by simp [guardW]
theorem goes_none : goes none e = true := rfl
theorem goes_some {t : Nat} {b : Bool} : goes (some (t, b)) e = (match e t with | .c (.bool b') => b' == b | _ => false) := rfl

theorem step_ev {o : AOp} (h : ∀ f a, o ≠ .call f a) : stepW G p k d false o dst l e H = thenW G p k d (ev o e H) dst l e := by
  cases o with
  | call f a => exact absurd rfl (h f a)
  | _ => rfl
theorem step_evF {o : AOp} (h : ∀ f a, o ≠ .call f a) : stepW G p k d true o dst l e H = thenF G p k d (evF o e H) dst l e H := by
  cases o with
  | call f a => exact absurd rfl (h f a)
  | _ => rfl
theorem thenF_some {v : AVal} : thenF G p k d (some v) dst l e H = WL G p k d l (updO e dst v) H := by
  refine propext ⟨?_, fun h => ⟨_, rfl, h⟩⟩
  rintro ⟨v', h1, h2⟩
  injection h1 with h1; subst h1; exact h2

theorem thenW_some {v : AVal} {H1 : Heap} : thenW G p k d (some (v, H1)) dst l e = WL G p k d l (updO e dst v) H1 := by
  refine propext ⟨?_, fun h => ⟨_, _, rfl, h⟩⟩
  rintro ⟨v', H', h1, h2⟩
  injection h1 with h1; injection h1 with h1 h3; subst h1; subst h3; exact h2
theorem thenW_of {r : Option (AVal × Heap)} {v : AVal} {H1 : Heap} (hr : r = some (v, H1)) (h : WL G p k d l (updO e dst v) H1) : thenW G p k d r dst l e := ⟨_, _, hr, h⟩
theorem callW_of {f : Nat} {caps : List Cell} {args : List AVal} (h : WCall G f (args ++ caps.map .c) H (fun v H1 => (d = true → H <+: H1) ∧ WL G p k d l (updO e dst v) H1)) : callW G p k d (.c (.fn f caps)) args dst l e H := by
  obtain ⟨v, H1, h1, h2, h3⟩ := h
  exact ⟨f, caps, v, H1, rfl, h1, h2, h3⟩

/-! The operations one by one: what they make of values. -/
section
variable {x y z : Opd} {xs : List Opd}
theorem step_mv : stepW G p k d false (.mv x) dst l e H = WL G p k d l (updO e dst (x.ev e)) H := by rw [step_ev (by intros; simp)]; exact thenW_some
def vPick (c x y : AVal) : AVal := match c with | .c (.bool b) => if b then x else y | _ => undefA
theorem step_pick {t : Bool} (h : x.ev e = .c (.bool t)) : stepW G p k d false (.pick x y z) dst l e H = WL G p k d l (updO e dst (if t then y.ev e else z.ev e)) H := by
  rw [step_ev (by intros; simp)]; simp only [ev, h]; exact thenW_some
theorem step_new {cs : List Cell} : stepW G p k d false (.new cs) dst l e H = WL G p k d l (updO e dst (.c (.ptr H.length 0 0))) (H ++ [{ sz := cs.length, rows := [cs] }]) := by rw [step_ev (by intros; simp)]; exact thenW_some
theorem step_call {fo : Opd} {fz : Bool} : stepW G p k d fz (.call fo xs) dst l e H = callW G p k d (fo.ev e) (xs.map (Opd.ev e)) dst l e H := rfl
end

/-- From a body to a call. -/
theorem wcall_of {f : Nat} {fn : AFun} {args : List AVal} {R : AVal → Heap → Prop} (hf : G.fn f = some fn) (h : Run G ⟨fn.res, R⟩ [.code fn.body] (initEnv args) H) : WCall G f args H R := by
  obtain ⟨x, e', H', h1, h2, v, h3, h4⟩ := h
  exact ⟨v, H', .call hf h1 h2 h3, h4⟩

theorem wcall_mono {f : Nat} {args : List AVal} {R R' : AVal → Heap → Prop} (h : WCall G f args H R) (hr : ∀ v H', R v H' → R' v H') : WCall G f args H R' := by
  obtain ⟨v, H', h1, h2⟩ := h
  exact ⟨v, H', h1, hr _ _ h2⟩

end Go.Proofs.YtpjbjdicdjlmeaaGreatDoor.Eng

/- The engine, part 17: from a call of the slim code to a call of the program's. No statement of the seat is proved here. -/
namespace Go.Proofs.YtpjbjdicdjlmeaaGreatDoor.Eng
open Go
set_option linter.unusedVariables false
set_option linter.unusedSimpArgs false

variable {P : Program}

/-- What holds behind a call. -/
def Ends (B : Nat) (m : LMap) (H : Heap) (w : World) (R : AVal → Heap → Prop) (e : Ending) (w' : World) : Prop :=
  ∃ u v m' H', e = .returned u ∧ R v H' ∧ St B H m w H' m' w' ∧ VRA m' (cellsIn w') v u

theorem calls_of {G : Prog} (hG : GOk P G) {B : Nat} {m : LMap} {H : Heap} {w : World} {f : Nat} {args : List AVal} {vs : Array Value} {R : AVal → Heap → Prop} (r : Rel B m H w) (ha : All2 (VRA m (cellsIn w)) args vs.toList)
    (h : WCall G f args H R) : Calls P f vs w (Ends B m H w R) := by
  obtain ⟨v, H', h1, h2⟩ := h
  refine ((sound hG h1).calls B m w vs r ha).mono ?_
  rintro e w' ⟨u, m', rfl, hst, hv⟩
  exact ⟨u, v, m', H', rfl, h2, hst, hv⟩

/-! ### Arithmetic on whole numbers -/
theorem wrap64 {n : Int} (h : -9223372036854775808 ≤ n ∧ n ≤ 9223372036854775807) : IntKind.wrap .i64 n = n := by
  unfold IntKind.wrap
  simp [IntKind.bits, IntKind.signed, IntKind.min, IntKind.max]
  omega

end Go.Proofs.YtpjbjdicdjlmeaaGreatDoor.Eng

/- The engine, part 18: what the operations make of values. No statement of the seat is proved here. -/
namespace Go.Proofs.YtpjbjdicdjlmeaaGreatDoor.Eng
open Go
set_option linter.unusedVariables false
set_option linter.unusedSimpArgs false

theorem upd_at (e : Env) (d : Nat) (v : AVal) (t : Nat) : upd e d v t = if t = d then v else e t := rfl
theorem updO_some (e : Env) (d : Nat) (v : AVal) : updO e (some d) v = upd e d v := rfl
theorem updO_none (e : Env) (v : AVal) : updO e none v = e := rfl
theorem opd_t (e : Env) (n : Nat) : Opd.ev e (.t n) = e n := rfl
theorem opd_k (e : Env) (v : AVal) : Opd.ev e (.k v) = v := rfl
theorem opd_f (e : Env) (f : Nat) : Opd.ev e (.f f) = .c (.fn f []) := rfl

def gBool (v : AVal) (b : Bool) : Bool := match v with | .c (.bool b') => b' == b | _ => false
theorem goes_at (e : Env) (t : Nat) (b : Bool) : goes (some (t, b)) e = gBool (e t) b := rfl
theorem gBool_true (b : Bool) : gBool (.c (.bool b)) true = b := by cases b <;> rfl
theorem gBool_false (b : Bool) : gBool (.c (.bool b)) false = !b := by cases b <;> rfl

theorem gBool_undef (b : Bool) : gBool undefA b = false := rfl

theorem tt_beq : (true == true) = true := rfl
theorem tf_beq : (true == false) = false := rfl
theorem ft_beq : (false == true) = false := rfl
theorem ff_beq : (false == false) = true := rfl

abbrev VR0 := Option (AVal × Heap)
def vPure (H : Heap) (x : Option Cell) : VR0 := match x with | some c => some (.c c, H) | none => none
theorem vPure_some (H : Heap) (c : Cell) : vPure H (some c) = some (.c c, H) := rfl

/-! ### Arithmetic -/
def vBin (op : BinOp) (x y : AVal) (H : Heap) : VR0 := match x, y with | .c x, .c y => vPure H (evBin op x y) | _, _ => none
section
variable {G : Prog} {p : Post} {k : List Itm} {d : Bool} {e : Env} {H : Heap} {l : List AInstr} {dst : Option Nat} {x y z : Opd}
theorem step_bin {op : BinOp} : stepW G p k d false (.bin op x y) dst l e H = thenW G p k d (vBin op (x.ev e) (y.ev e) H) dst l e := rfl
end
section
variable {i : IntKind} {a b : Int} {H : Heap}
theorem vBin_add : vBin .add (.c (.int i a)) (.c (.int i b)) H = some (.c (.int i (i.wrap (a + b))), H) := by simp [vBin, evBin, vPure]
theorem vBin_sub : vBin .sub (.c (.int i a)) (.c (.int i b)) H = some (.c (.int i (i.wrap (a - b))), H) := by simp [vBin, evBin, vPure]
theorem vBin_mul : vBin .mul (.c (.int i a)) (.c (.int i b)) H = some (.c (.int i (i.wrap (a * b))), H) := by simp [vBin, evBin, vPure]
theorem vBin_quo : vBin .quo (.c (.int i a)) (.c (.int i b)) H = if b = 0 then none else some (.c (.int i (i.wrap (a.tdiv b))), H) := by
  simp only [vBin, evBin, if_true]; split <;> rfl
theorem vBin_rem : vBin .rem (.c (.int i a)) (.c (.int i b)) H = if b = 0 then none else some (.c (.int i (a.tmod b)), H) := by
  simp only [vBin, evBin, if_true]; split <;> rfl
theorem vBin_eql : vBin .eql (.c (.int i a)) (.c (.int i b)) H = some (.c (.bool (decide (a = b))), H) := by simp [vBin, evBin, vPure]
theorem vBin_neq : vBin .neq (.c (.int i a)) (.c (.int i b)) H = some (.c (.bool (!decide (a = b))), H) := by simp [vBin, evBin, vPure]
theorem vBin_lss : vBin .lss (.c (.int i a)) (.c (.int i b)) H = some (.c (.bool (decide (a < b))), H) := by simp [vBin, evBin, vPure]
theorem vBin_leq : vBin .leq (.c (.int i a)) (.c (.int i b)) H = some (.c (.bool (decide (a ≤ b))), H) := by simp [vBin, evBin, vPure]
theorem vBin_gtr : vBin .gtr (.c (.int i a)) (.c (.int i b)) H = some (.c (.bool (decide (b < a))), H) := by simp [vBin, evBin, vPure]
theorem vBin_geq : vBin .geq (.c (.int i a)) (.c (.int i b)) H = some (.c (.bool (decide (b ≤ a))), H) := by simp [vBin, evBin, vPure]
theorem vBin_cat {s t : ByteArray} (h : s.size + t.size ≤ 9223372036854775807) : vBin .add (.c (.str s)) (.c (.str t)) H = some (.c (.str (s ++ t)), H) := by simp [vBin, evBin, vPure, h]
theorem vBin_seql {s t : ByteArray} : vBin .eql (.c (.str s)) (.c (.str t)) H = some (.c (.bool (decide (s = t))), H) := by simp [vBin, evBin, vPure]
theorem vBin_sneq {s t : ByteArray} : vBin .neq (.c (.str s)) (.c (.str t)) H = some (.c (.bool (!decide (s = t))), H) := by simp [vBin, evBin, vPure]
theorem vBin_slss {s t : ByteArray} : vBin .lss (.c (.str s)) (.c (.str t)) H = some (.c (.bool (Op.bytesLess s.toList t.toList)), H) := by simp [vBin, evBin, vPure]
theorem vBin_sgtr {s t : ByteArray} : vBin .gtr (.c (.str s)) (.c (.str t)) H = some (.c (.bool (!(Op.bytesLess s.toList t.toList || decide (s = t)))), H) := by simp [vBin, evBin, vPure]
end

def vBinB (neg : Bool) (x y : AVal) (H : Heap) : VR0 := match x, y with | .c (.bool x), .c (.bool y) => some (.c (.bool (neg != (x == y))), H) | _, _ => none
def vUn (op : UnOp) (x : AVal) (H : Heap) : VR0 := match x with | .c x => vPure H (evUn op x) | _ => none
def vConv (i : IntKind) (x : AVal) (H : Heap) : VR0 := match x with | .c (.int _ n) => some (.c (.int i (i.wrap n)), H) | _ => none
def vStrId (x : AVal) (H : Heap) : VR0 := match x with | .c (.str s) => some (.c (.str s), H) | _ => none
def vMkI (t : Nat) (x : AVal) (H : Heap) : VR0 := match x with | .c c => some (.c (.iface t false [c]), H) | .agg cs => some (.c (.iface t true cs), H) | _ => none
def vExt (x : AVal) (i : Nat) (H : Heap) : VR0 := match x with | .tup vs => (match vs[i]? with | some v => some (v, H) | none => none) | _ => none
def vCap (x : AVal) (H : Heap) : VR0 := match x with | .c .nilS => some (.c (.int .i64 0), H) | .c (.zer _) => some (.c (.int .i64 0), H) | .c (.slc _ _ _ _ true) => some (.c (.int .i64 0), H) | _ => none
def vS2b (x : AVal) (H : Heap) : VR0 := match x with | .c (.str s) => if s.size ≤ 140737488355328 then some (.c (.lst 1 ((bytesOf s).map fun c => [c])), H) else none | _ => none
def vLenS (x : AVal) (H : Heap) : VR0 := match x with | .c (.str s) => some (.c (.int .i64 s.size), H) | _ => none
def vLen (x : AVal) (H : Heap) : VR0 := match x with | .c .nilS => some (.c (.int .i64 0), H) | .c (.slc _ _ n _ _) => some (.c (.int .i64 n), H) | .c (.lst _ rows) => some (.c (.int .i64 rows.length), H) | .c (.zer _) => some (.c (.int .i64 0), H) | .c (.emp _) => some (.c (.int .i64 0), H) | _ => none
def vFld (off : Nat) (x : AVal) (H : Heap) : VR0 := match x with | .c (.ptr b i f) => some (.c (.ptr b i (f + off)), H) | .c (.fp r f) => some (.c (.fp r (f + off)), H) | _ => none
def vChk (x : AVal) (H : Heap) : VR0 := match x with | .c .nilP => none | .c .nilI => none | .c .nilF => none | v => some (v, H)
def vPick2 (c x y : AVal) (H : Heap) : VR0 := match c with | .c (.bool b) => some (if b then x else y, H) | _ => none
def vFldV (agg : Bool) (off n : Nat) (x : AVal) (H : Heap) : VR0 := match x with
  | .agg cs => if off + n ≤ cs.length then match ofCells agg ((cs.drop off).take n) with | some v => some (v, H) | none => none else none
  | _ => none
def vBuild (r : Option (List Cell)) (H : Heap) : VR0 := match r with | some cs => some (.agg cs, H) | none => none
def vEqS (neg : Bool) (ks : List Nat) (x y : AVal) (H : Heap) : VR0 := match x, y with
  | .agg xs, .agg ys => (match evEqCells ks xs ys with | some b => some (.c (.bool (neg != b)), H) | none => none)
  | _, _ => none
def vNil (sl neg : Bool) (x y : AVal) (H : Heap) : VR0 := match x, y with
  | .c x, .c y => (match evNil sl x y with | some b => some (.c (.bool (neg != b)), H) | none => none)
  | _, _ => none
def vMkF (f : Nat) (r : Option (List Cell)) (H : Heap) : VR0 := match r with | some cs => some (.c (.fn f cs), H) | none => none
def vMM (f : Cell → Cell → Option Cell) (e : Env) (x : AVal) (r : List Opd) (H : Heap) : VR0 := match x with | .c x => vPure H (foldC f e x r) | _ => none
def vLoadR (agg : Bool) (n f : Nat) (r : Option (List Cell)) (H : Heap) : VR0 := match r with
  | some r => if f + n ≤ r.length then (match ofCells agg ((r.drop f).take n) with | some v => some (v, H) | none => none) else none
  | none => none
def vLoad (agg : Bool) (n : Nat) (a : AVal) (H : Heap) : VR0 := match a with | .c (.ptr b i f) => vLoadR agg n f (H.row b i) H | .c (.fp r f) => vLoadR agg n f (some r) H | _ => none
def vStoreR (n b i f : Nat) (cs : List Cell) (mine : Bool) (r : Option (List Cell)) (H : Heap) : VR0 := match r with
  | some r => if mine = true ∧ cs.length = n ∧ 0 < n ∧ f + n ≤ r.length then some (undefA, H.put b i (r.take f ++ cs ++ r.drop (f + n))) else none
  | none => none
def vStore (n : Nat) (a v : AVal) (H : Heap) : VR0 := match a with | .c (.ptr b i f) => vStoreR n b i f v.cells (H.mine b) (H.row b i) H | _ => none
def vBox (x : AVal) (H : Heap) : VR0 := match x with
  | .c c => some (.c (.ptr H.length 0 0), H ++ [{ sz := 1, rows := [[c]] }])
  | .agg cs => some (.c (.ptr H.length 0 0), H ++ [{ sz := cs.length, rows := [cs] }])
  | _ => none
def vIx (sz : Nat) (x i : AVal) (H : Heap) : VR0 := match x, i with
  | .c (.slc b s n sz' _), .c (.int _ i) => if sz' = sz ∧ 0 ≤ i ∧ i < n then some (.c (.ptr b (s + i.toNat) 0), H) else none
  | .c (.lst sz' rows), .c (.int _ i) => if sz' = sz ∧ 0 ≤ i then match rows[i.toNat]? with | some r => some (.c (.fp r 0), H) | none => none else none
  | _, _ => none
def vApp (sz bytes : Nat) (x y : AVal) (H : Heap) : VR0 := match x, y with | .c x, .c y => evApp H sz bytes x y | _, _ => none
def vAppZ (sz bytes : Nat) (x y : AVal) (H : Heap) : VR0 := match x, y with
  | .c .nilS, .c y => evApp H sz bytes .nilS y
  | .c (.zer s), .c y => evApp H sz bytes (.zer s) y
  | .c (.slc b s n sz' true), .c y => evApp H sz bytes (.slc b s n sz' true) y
  | _, _ => none
def vIxA (len sz : Nat) (x i : AVal) (H : Heap) : VR0 := match x, i with
  | .c (.ptr b r f), .c (.int _ i) => if 0 ≤ i ∧ i < len then some (.c (.ptr b r (f + i.toNat * sz)), H) else none
  | .c (.fp r f), .c (.int _ i) => if 0 ≤ i ∧ i < len then some (.c (.fp r (f + i.toNat * sz)), H) else none
  | _, _ => none
def vIxV (agg : Bool) (len sz : Nat) (x i : AVal) (H : Heap) : VR0 := match x, i with
  | .agg cs, .c (.int _ i) => if 0 ≤ i ∧ i < len ∧ i.toNat * sz + sz ≤ cs.length then match ofCells agg ((cs.drop (i.toNat * sz)).take sz) with | some v => some (v, H) | none => none else none
  | _, _ => none
def vMake (sz bytes : Nat) (z : List Cell) (l c : AVal) (H : Heap) : VR0 := match l, c with
  | .c (.int _ l), .c (.int _ c) =>
    if 0 ≤ l ∧ l = c ∧ c * bytes ≤ 140737488355328 ∧ l ≤ 9223372036854775807 then some (.c (.slc H.length 0 l.toNat sz (l.toNat == 0)), H ++ [{ sz, rows := List.replicate l.toNat z }]) else none
  | _, _ => none
def vLit (sz len : Nat) (r : Option (List (List Cell))) (H : Heap) : VR0 := match r with
  | some rows => some (.c (.slc H.length 0 len sz (len == 0)), H ++ [{ sz, rows }])
  | none => none
def vSl (sz : Nat) (x : AVal) (e : Env) (lo hi mx : Option Opd) (H : Heap) : VR0 := match x with
  | .c c => if fitsSz sz c then vPure H (evSl c e lo hi mx) else none
  | _ => none
def vSlS (x : AVal) (e : Env) (lo hi : Option Opd) (H : Heap) : VR0 := match x with
  | .c (.str s) => (match evSlS s e lo hi with | some s => some (.c (.str s), H) | none => none)
  | _ => none
def vIxS (x i : AVal) (H : Heap) : VR0 := match x, i with
  | .c (.str s), .c (.int _ i) => if h : 0 ≤ i ∧ i.toNat < s.size then some (.c (.int .u8 ((s[i.toNat]'h.2).toNat : Int)), H) else none
  | _, _ => none
def vClr (sz : Nat) (z : List Cell) (x : AVal) (H : Heap) : VR0 := match x with
  | .c x => evClr H sz z x
  | _ => none
def vCpy (sz : Nat) (x y : AVal) (H : Heap) : VR0 := match x, y with
  | .c x, .c y => evCpy H sz x y
  | _, _ => none
def vB2s (x : AVal) (H : Heap) : VR0 := match x with
  | .c c => match c with
    | .str _ => none
    | c => if fitsSz 1 c then match H.rowsOf c with
      | some rs => match takeBytes rs with | some l => some (.c (.str ⟨l.toArray⟩), H) | none => none
      | none => none else none
  | _ => none

section
variable {G : Prog} {p : Post} {k : List Itm} {d : Bool} {e : Env} {H : Heap} {l : List AInstr} {dst : Option Nat} {x y z : Opd} {lo hi mx : Option Opd} {agg neg sl : Bool} {n off sz bytes : Nat}
theorem step_of {o : AOp} (h : ∀ f a, o ≠ .call f a) {r : VR0} (hr : ev o e H = r) : stepW G p k d false o dst l e H = thenW G p k d r dst l e := by rw [step_ev h, hr]
theorem step_binB : stepW G p k d false (.binB neg x y) dst l e H = thenW G p k d (vBinB neg (x.ev e) (y.ev e) H) dst l e := rfl
theorem step_un {op : UnOp} : stepW G p k d false (.un op x) dst l e H = thenW G p k d (vUn op (x.ev e) H) dst l e := rfl
theorem step_conv {i : IntKind} : stepW G p k d false (.conv i x) dst l e H = thenW G p k d (vConv i (x.ev e) H) dst l e := rfl
theorem step_strId : stepW G p k d false (.strId x) dst l e H = thenW G p k d (vStrId (x.ev e) H) dst l e := rfl
theorem step_mkI : stepW G p k d false (.mkI n x) dst l e H = thenW G p k d (vMkI n (x.ev e) H) dst l e := rfl
theorem step_ext : stepW G p k d false (.ext x n) dst l e H = thenW G p k d (vExt (x.ev e) n H) dst l e := rfl
theorem step_lenS : stepW G p k d false (.lenS x) dst l e H = thenW G p k d (vLenS (x.ev e) H) dst l e := rfl
theorem step_len : stepW G p k d false (.len x) dst l e H = thenW G p k d (vLen (x.ev e) H) dst l e := rfl
theorem step_cap : stepW G p k d false (.cap x) dst l e H = thenW G p k d (vCap (x.ev e) H) dst l e := rfl
theorem step_s2b : stepW G p k d false (.s2b x) dst l e H = thenW G p k d (vS2b (x.ev e) H) dst l e := rfl
theorem step_fld : stepW G p k d false (.fld off x) dst l e H = thenW G p k d (vFld off (x.ev e) H) dst l e := rfl
theorem step_chk : stepW G p k d false (.chk x) dst l e H = thenW G p k d (vChk (x.ev e) H) dst l e := rfl
theorem step_pick2 : stepW G p k d false (.pick x y z) dst l e H = thenW G p k d (vPick2 (x.ev e) (y.ev e) (z.ev e) H) dst l e := rfl
theorem step_fldV : stepW G p k d false (.fldV agg off n x) dst l e H = thenW G p k d (vFldV agg off n (x.ev e) H) dst l e := rfl
theorem step_build {zs : List Cell} {ps : List (Nat × Nat × Opd)} : stepW G p k d false (.build zs ps) dst l e H = thenW G p k d (vBuild (fillA zs e ps) H) dst l e := rfl
theorem step_eqS {ks : List Nat} : stepW G p k d false (.eqS neg ks x y) dst l e H = thenW G p k d (vEqS neg ks (x.ev e) (y.ev e) H) dst l e := rfl
theorem step_eqNil : stepW G p k d false (.eqNil sl neg x y) dst l e H = thenW G p k d (vNil sl neg (x.ev e) (y.ev e) H) dst l e := rfl
theorem step_mkF {xs : List Opd} : stepW G p k d false (.mkF n xs) dst l e H = thenW G p k d (vMkF n (evCaps e xs) H) dst l e := rfl
theorem step_max {xs : List Opd} : stepW G p k d false (.max (x :: xs)) dst l e H = thenW G p k d (vMM maxC e (x.ev e) xs H) dst l e := rfl
theorem step_min {xs : List Opd} : stepW G p k d false (.min (x :: xs)) dst l e H = thenW G p k d (vMM minC e (x.ev e) xs H) dst l e := rfl
theorem step_load : stepW G p k d false (.load agg n x) dst l e H = thenW G p k d (vLoad agg n (x.ev e) H) dst l e := rfl
def vLoadF (agg : Bool) (n : Nat) (a : AVal) (H : Heap) : VR0 := match a with | .c (.fp r f) => vLoadR agg n f (some r) H | _ => none
theorem step_loadF : stepW G p k d false (.loadF agg n x) dst l e H = thenW G p k d (vLoadF agg n (x.ev e) H) dst l e := rfl
theorem vLoadF_fp {agg : Bool} {r : List Cell} {f : Nat} : vLoadF agg n (.c (.fp r f)) H = vLoadR agg n f (some r) H := rfl
theorem step_store : stepW G p k d false (.store n x y) dst l e H = thenW G p k d (vStore n (x.ev e) (y.ev e) H) dst l e := rfl
theorem step_box : stepW G p k d false (.box x) dst l e H = thenW G p k d (vBox (x.ev e) H) dst l e := rfl
theorem step_ix : stepW G p k d false (.ix sz x y) dst l e H = thenW G p k d (vIx sz (x.ev e) (y.ev e) H) dst l e := rfl
theorem step_clr {z : List Cell} : stepW G p k d false (.clr sz z x) dst l e H = thenW G p k d (vClr sz z (x.ev e) H) dst l e := rfl
theorem step_cpy : stepW G p k d false (.cpy sz x y) dst l e H = thenW G p k d (vCpy sz (x.ev e) (y.ev e) H) dst l e := rfl
theorem step_app : stepW G p k d false (.app sz bytes x y) dst l e H = thenW G p k d (vApp sz bytes (x.ev e) (y.ev e) H) dst l e := rfl
theorem step_appZ : stepW G p k d false (.appZ sz bytes x y) dst l e H = thenW G p k d (vAppZ sz bytes (x.ev e) (y.ev e) H) dst l e := rfl
def vAppM (sz bytes : Nat) (z : List Cell) (x n : AVal) (H : Heap) : VR0 := match x, n with
  | .c .nilS, .c (.int _ l) =>
    if 0 < l ∧ l ≤ 9223372036854775807 ∧ l * bytes ≤ 140737488355328 then some (.c (.slc H.length 0 l.toNat sz false), H ++ [{ sz, rows := List.replicate l.toNat z }]) else none
  | _, _ => none
theorem step_appM {zs : List Cell} : stepW G p k d false (.appM sz bytes zs x y) dst l e H = thenW G p k d (vAppM sz bytes zs (x.ev e) (y.ev e) H) dst l e := rfl
theorem step_ixA : stepW G p k d false (.ixA n sz x y) dst l e H = thenW G p k d (vIxA n sz (x.ev e) (y.ev e) H) dst l e := rfl
theorem step_ixV : stepW G p k d false (.ixV agg n sz x y) dst l e H = thenW G p k d (vIxV agg n sz (x.ev e) (y.ev e) H) dst l e := rfl
theorem stepF_new {cs : List Cell} : stepW G p k d true (.new cs) dst l e H = thenF G p k d (mkF H (some (.c (.ptr H.length 0 0), H ++ [{ sz := cs.length, rows := [cs] }]))) dst l e H := rfl
theorem stepF_box : stepW G p k d true (.box x) dst l e H = thenF G p k d (mkF H (vBox (x.ev e) H)) dst l e H := rfl
theorem stepF_lit {zs : List Cell} {ps : List (Nat × Opd)} : stepW G p k d true (.lit sz zs n ps) dst l e H = thenF G p k d (mkF H (vLit sz n (fillR sz (List.replicate n zs) e ps) H)) dst l e H := rfl
theorem stepF_appZ : stepW G p k d true (.appZ sz bytes x y) dst l e H = thenF G p k d (mkF H (vAppZ sz bytes (x.ev e) (y.ev e) H)) dst l e H := rfl
theorem stepF_app : stepW G p k d true (.app sz bytes x y) dst l e H = thenF G p k d (mkF H (vAppZ sz bytes (x.ev e) (y.ev e) H)) dst l e H := rfl
theorem stepF_make {zs : List Cell} : stepW G p k d true (.make sz bytes zs x y) dst l e H = thenF G p k d (mkF H (vMake sz bytes zs (x.ev e) (y.ev e) H)) dst l e H := rfl
theorem step_make {zs : List Cell} : stepW G p k d false (.make sz bytes zs x y) dst l e H = thenW G p k d (vMake sz bytes zs (x.ev e) (y.ev e) H) dst l e := rfl
theorem step_lit {zs : List Cell} {ps : List (Nat × Opd)} : stepW G p k d false (.lit sz zs n ps) dst l e H = thenW G p k d (vLit sz n (fillR sz (List.replicate n zs) e ps) H) dst l e := rfl
theorem step_sl : stepW G p k d false (.sl sz x lo hi mx) dst l e H = thenW G p k d (vSl sz (x.ev e) e lo hi mx H) dst l e := rfl
theorem step_slS : stepW G p k d false (.slS x lo hi) dst l e H = thenW G p k d (vSlS (x.ev e) e lo hi H) dst l e := rfl
theorem step_ixS : stepW G p k d false (.ixS x y) dst l e H = thenW G p k d (vIxS (x.ev e) (y.ev e) H) dst l e := rfl
theorem step_b2s : stepW G p k d false (.b2s x) dst l e H = thenW G p k d (vB2s (x.ev e) H) dst l e := rfl
end

section
variable {H : Heap} {a b : Int} {i j : IntKind} {s t : ByteArray} {n m : Nat} {c : Cell} {cs ds : List Cell}
theorem vBinB_eq {x y : Bool} : vBinB false (.c (.bool x)) (.c (.bool y)) H = some (.c (.bool (x == y)), H) := by simp [vBinB]
theorem vBinB_ne {x y : Bool} : vBinB true (.c (.bool x)) (.c (.bool y)) H = some (.c (.bool (!(x == y))), H) := by simp [vBinB]
theorem vUn_not {x : Bool} : vUn .not (.c (.bool x)) H = some (.c (.bool !x), H) := rfl
theorem vUn_neg : vUn .neg (.c (.int i a)) H = some (.c (.int i (i.wrap (0 - a))), H) := rfl
theorem pick_c {q : Bool} {x y : Cell} : (if q = true then AVal.c x else AVal.c y) = AVal.c (if q = true then x else y) := by cases q <;> rfl
theorem evCaps_nil {e : Env} : evCaps e [] = some [] := rfl
def capsC (x : AVal) (r : Option (List Cell)) : Option (List Cell) := match x, r with | .c c, some cs => some (c :: cs) | _, _ => none
theorem evCaps_cons' {e : Env} {x : Opd} {r : List Opd} : evCaps e (x :: r) = capsC (x.ev e) (evCaps e r) := rfl
theorem capsC_some : capsC (.c c) (some cs) = some (c :: cs) := rfl
theorem ext_0 {x : AVal} {vs : List AVal} : vExt (.tup (x :: vs)) 0 H = some (x, H) := rfl
theorem ext_1 {x y : AVal} {vs : List AVal} : vExt (.tup (x :: y :: vs)) 1 H = some (y, H) := rfl
theorem vConv_int : vConv i (.c (.int j a)) H = some (.c (.int i (i.wrap a)), H) := rfl
theorem vStrId_str : vStrId (.c (.str s)) H = some (.c (.str s), H) := rfl
theorem vExt_tup {vs : List AVal} : vExt (.tup vs) n H = (match vs[n]? with | some v => some (v, H) | none => none) := rfl
theorem vLenS_str : vLenS (.c (.str s)) H = some (.c (.int .i64 s.size), H) := rfl
theorem vLen_nil : vLen (.c .nilS) H = some (.c (.int .i64 0), H) := rfl
theorem vLen_slc {q r sz : Nat} {z : Bool} : vLen (.c (.slc q r n sz z)) H = some (.c (.int .i64 n), H) := rfl
theorem vFld_ptr {q r f off : Nat} : vFld off (.c (.ptr q r f)) H = some (.c (.ptr q r (f + off)), H) := rfl
theorem vChk_ptr {q r f : Nat} : vChk (.c (.ptr q r f)) H = some (.c (.ptr q r f), H) := rfl
theorem vChk_fn {f : Nat} : vChk (.c (.fn f cs)) H = some (.c (.fn f cs), H) := rfl
theorem vPick2_bool {q : Bool} {x y : AVal} : vPick2 (.c (.bool q)) x y H = some (if q = true then x else y, H) := rfl
theorem vFldV_one : vFldV false n 1 (.agg cs) H = (match cs[n]? with | some c => some (.c c, H) | none => none) := by
  simp only [vFldV]
  by_cases h : n + 1 ≤ cs.length
  · have h1 : (cs.drop n).take 1 = [cs[n]] := by rw [List.drop_eq_getElem_cons (by omega)]; rfl
    rw [if_pos h, h1, List.getElem?_eq_getElem (show n < cs.length by omega)]; rfl
  · rw [if_neg h, List.getElem?_eq_none (by omega)]
theorem vFldV_agg {off : Nat} : vFldV true off n (.agg cs) H = if off + n ≤ cs.length then some (.agg ((cs.drop off).take n), H) else none := by
  simp only [vFldV, ofCells, if_true]
theorem vBuild_some : vBuild (some cs) H = some (.agg cs, H) := rfl
theorem vMkF_some {f : Nat} : vMkF f (some cs) H = some (.c (.fn f cs), H) := rfl
theorem vBox_c : vBox (.c c) H = some (.c (.ptr H.length 0 0), H ++ [{ sz := 1, rows := [[c]] }]) := rfl
theorem vBox_agg : vBox (.agg cs) H = some (.c (.ptr H.length 0 0), H ++ [{ sz := cs.length, rows := [cs] }]) := rfl
theorem vLoad_ptr {agg : Bool} {q r f : Nat} : vLoad agg n (.c (.ptr q r f)) H = vLoadR agg n f (H.row q r) H := rfl
theorem vLoadR_one {f : Nat} : vLoadR false 1 f (some cs) H = (match cs[f]? with | some c => some (.c c, H) | none => none) := by
  simp only [vLoadR]
  by_cases h : f + 1 ≤ cs.length
  · have h1 : (cs.drop f).take 1 = [cs[f]] := by rw [List.drop_eq_getElem_cons (by omega)]; rfl
    rw [if_pos h, h1, List.getElem?_eq_getElem (show f < cs.length by omega)]; rfl
  · rw [if_neg h, List.getElem?_eq_none (by omega)]
theorem vLoadR_all : vLoadR true n 0 (some cs) H = if n ≤ cs.length then some (.agg (cs.take n), H) else none := by
  simp only [vLoadR, Nat.zero_add, List.drop_zero, ofCells]; split <;> rfl
theorem vLoadR_aggs {f : Nat} : vLoadR true n f (some cs) H = if f + n ≤ cs.length then some (.agg ((cs.drop f).take n), H) else none := by
  simp only [vLoadR, ofCells, if_true]
theorem vStore_ptr {q r f : Nat} {v : AVal} : vStore n (.c (.ptr q r f)) v H = vStoreR n q r f v.cells (H.mine q) (H.row q r) H := rfl
def vMM2 (f : Cell → Cell → Option Cell) (x y : AVal) (H : Heap) : VR0 := match x, y with | .c x, .c y => vPure H (f x y) | _, _ => none
theorem vMM_two {f : Cell → Cell → Option Cell} {e : Env} {x : AVal} {y : Opd} : vMM f e x [y] H = vMM2 f x (y.ev e) H := by
  cases x with
  | c x =>
    simp only [vMM, foldC, vMM2]
    cases y.ev e with
    | c y => simp only; cases f x y <;> rfl
    | _ => rfl
  | _ => rfl
theorem vMM2_max : vMM2 maxC (.c (.int i a)) (.c (.int i b)) H = some (.c (.int i (if a < b then b else a)), H) := by simp [vMM2, maxC, vPure]
theorem vMM2_min : vMM2 minC (.c (.int i a)) (.c (.int i b)) H = some (.c (.int i (if b < a then b else a)), H) := by simp [vMM2, minC, vPure]
end

theorem initEnv_0 {a : AVal} {l : List AVal} : initEnv (a :: l) 0 = a := rfl
theorem initEnv_1 {a b : AVal} {l : List AVal} : initEnv (a :: b :: l) 1 = b := rfl
theorem initEnv_2 {a b c : AVal} {l : List AVal} : initEnv (a :: b :: c :: l) 2 = c := rfl
theorem initEnv_3 {a b c d : AVal} {l : List AVal} : initEnv (a :: b :: c :: d :: l) 3 = d := rfl
theorem initEnv_4 {a b c d e : AVal} {l : List AVal} : initEnv (a :: b :: c :: d :: e :: l) 4 = e := rfl
theorem initEnv_5 {a b c d e f : AVal} {l : List AVal} : initEnv (a :: b :: c :: d :: e :: f :: l) 5 = f := rfl
theorem initEnv_6 {a b c d e f g : AVal} {l : List AVal} : initEnv (a :: b :: c :: d :: e :: f :: g :: l) 6 = g := rfl
theorem initEnv_7 {a b c d e f g h : AVal} {l : List AVal} : initEnv (a :: b :: c :: d :: e :: f :: g :: h :: l) 7 = h := rfl

/-! ### Rows of a heap -/
theorem row_snoc (H : Heap) (B : Blk) (b i : Nat) : Heap.row (H ++ [B]) b i = if b = H.length then (if B.live then B.rows[i]? else none) else H.row b i := by
  unfold Heap.row
  by_cases h : b = H.length
  · subst h; simp
  · rw [if_neg h]
    by_cases h2 : b < H.length
    · rw [List.getElem?_append_left h2]
    · rw [List.getElem?_eq_none (by simp; omega), List.getElem?_eq_none (by omega)]

end Go.Proofs.YtpjbjdicdjlmeaaGreatDoor.Eng

/- The engine, part 19: stepping, as equalities. No statement of the seat is proved here. -/
namespace Go.Proofs.YtpjbjdicdjlmeaaGreatDoor.Eng
open Go
set_option linter.unusedVariables false
set_option linter.unusedSimpArgs false

variable {G : Prog} {p : Post} {k : List Itm} {d : Bool} {e : Env} {H : Heap} {l : List AInstr} {dst : Option Nat}

theorem Run_skip : Run G p (.code .skip :: k) e H = Run G p k e H := by
  refine propext ⟨?_, run_skip⟩
  rintro ⟨x, e1, H1, h1, h2⟩
  cases h1; exact h2
theorem Run_seq {a b : ACode} : Run G p (.code (.seq a b) :: k) e H = Run G p (.code a :: .code b :: k) e H := by
  refine propext ⟨?_, run_seq⟩
  rintro ⟨x, e1, H1, h1, h2⟩
  cases h1 with
  | seq h3 h4 => exact ⟨_, _, _, h3, _, _, _, h4, h2⟩
  | seqOut hx h3 =>
    cases x with
    | normal => exact absurd rfl hx
    | exit id => exact ⟨_, _, _, h3, h2⟩
    | ret => exact ⟨_, _, _, h3, h2⟩
theorem Run_region : Run G p (.code (.region l d) :: k) e H = WL G p k d l e H := by
  refine propext ⟨?_, run_region⟩
  rintro ⟨x, e1, H1, h1, h2⟩
  cases h1 with
  | region h3 => exact ⟨_, _, h3, h2⟩
theorem Run_cond {c : Opd} {a b : ACode} : Run G p (.code (.cond c a b) :: k) e H = condW G p k (c.ev e) a b e H := by
  refine propext ⟨?_, run_cond⟩
  rintro ⟨x, e1, H1, h1, h2⟩
  cases h1 with
  | cond h3 h4 => exact ⟨_, h3, _, _, _, h4, h2⟩
theorem Run_block {id : Nat} {a : ACode} : Run G p (.code (.block id a) :: k) e H = Run G p (.code a :: .blk id :: k) e H := by
  refine propext ⟨?_, run_block⟩
  rintro ⟨x, e1, H1, h1, h2⟩
  cases h1 with
  | block h3 hx =>
    refine ⟨_, _, _, h3, ?_⟩
    cases x with
    | normal => simpa [After] using h2
    | ret => simpa [After] using h2
    | exit i =>
      simp only [After]
      rw [if_neg (by intro h; subst h; exact hx rfl)]
      exact h2
  | blockExit h3 => exact ⟨_, _, _, h3, by simpa [After] using h2⟩
theorem Run_blk {id : Nat} : Run G p (.blk id :: k) e H = Run G p k e H := by simp [Run, After]
theorem Run_ret : Run G p (.code .ret :: k) e H = p.fin e H := by
  refine propext ⟨?_, run_ret⟩
  rintro ⟨x, e1, H1, h1, h2⟩
  cases h1
  rw [After_ret] at h2; exact h2
def exitW (G : Prog) (p : Post) (k : Option (List Itm)) (e : Env) (H : Heap) : Prop := match k with | some k => Run G p k e H | none => False
theorem exitW_some : exitW G p (some k) e H = Run G p k e H := rfl
theorem After_exit_eq {id : Nat} : ∀ {k : List Itm}, After G p k (.exit id) e H = exitW G p (popTo id k) e H
  | [] => by simp [After, popTo, exitW]
  | .code _ :: k => by simp only [After, popTo]; exact After_exit_eq
  | .loop _ :: k => by simp only [After, popTo]; exact After_exit_eq
  | .blk i :: k => by
    simp only [After, popTo]
    by_cases h : id = i
    · simp [h, exitW, Run]
    · rw [if_neg h, if_neg h]; exact After_exit_eq
theorem Run_exit {id : Nat} : Run G p (.code (.exit id) :: k) e H = exitW G p (popTo id k) e H := by
  refine propext ⟨?_, fun h => ⟨_, _, _, .exit, by rw [After_exit_eq]; exact h⟩⟩
  rintro ⟨x, e1, H1, h1, h2⟩
  cases h1
  rw [After_exit_eq] at h2; exact h2
theorem condW_if {t : Bool} {a b : ACode} : condW G p k (.c (.bool t)) a b e H = if t = true then Run G p (.code a :: k) e H else Run G p (.code b :: k) e H := by
  rw [condW_bool]; cases t <;> simp
theorem condW_true' {a b : ACode} : condW G p k (.c (.bool true)) a b e H = Run G p (.code a :: k) e H := by rw [condW_bool]; simp
theorem condW_false' {a b : ACode} : condW G p k (.c (.bool false)) a b e H = Run G p (.code b :: k) e H := by rw [condW_bool]; simp
theorem guardW_split {q : Prop} [Decidable q] {o : AOp} {fz : Bool} (h1 : q → stepW G p k d fz o dst l e H) (h2 : ¬q → o.isBad = false ∧ WL G p k d l (updO e dst undefA) H) : guardW G p k d (decide q) fz o dst l e H := by
  by_cases hq : q
  · simp only [hq, decide_true]; exact .inl ⟨rfl, h1 hq⟩
  · simp only [hq, decide_false]; exact .inr ⟨rfl, h2 hq⟩
theorem guardW_bool {b : Bool} {o : AOp} {fz : Bool} (h1 : b = true → stepW G p k d fz o dst l e H) (h2 : b = false → o.isBad = false ∧ WL G p k d l (updO e dst undefA) H) : guardW G p k d b fz o dst l e H := by
  cases b
  · exact .inr ⟨rfl, h2 rfl⟩
  · exact .inl ⟨rfl, h1 rfl⟩
theorem guardW_if {g : Bool} {o : AOp} {fz : Bool} : guardW G p k d g fz o dst l e H = if g = true then stepW G p k d fz o dst l e H else (o.isBad = false ∧ WL G p k d l (updO e dst undefA) H) := by
  cases g <;> simp [guardW]
theorem popTo_code {id : Nat} {c : ACode} : popTo id (.code c :: k) = popTo id k := rfl
theorem popTo_loop {id : Nat} {c : ACode} : popTo id (.loop c :: k) = popTo id k := rfl
theorem popTo_blk {id i : Nat} : popTo id (.blk i :: k) = if id = i then some k else popTo id k := rfl

theorem callW_fn {f : Nat} {args : List AVal} (h : WCall G f args H (fun v H1 => (d = true → H <+: H1) ∧ WL G p k d l (updO e dst v) H1)) : callW G p k d (.c (.fn f [])) args dst l e H :=
  callW_of (by simpa using h)

/-! ### The end -/
def resW (e : Env) (H : Heap) (rs : List ARes) (R : AVal → Heap → Prop) : Prop := ∃ v, evRes e H rs = some v ∧ R v H
theorem fin_eq {rs : List ARes} {R : AVal → Heap → Prop} : Post.fin ⟨rs, R⟩ e H = resW e H rs R := rfl
theorem resW_tmp {t : Nat} {R : AVal → Heap → Prop} : resW e H [.tmp t] R = R (e t) H := by
  simp [resW, evRes, evRes1]
theorem resW_tmp2 {t u : Nat} {R : AVal → Heap → Prop} : resW e H [.tmp t, .tmp u] R = R (.tup [e t, e u]) H := by
  simp [resW, evRes, evRes1]
def loadW (r : VR0) (R : AVal → Heap → Prop) (H : Heap) : Prop := ∃ v H', r = some (v, H') ∧ R v H
theorem resW_cell {a n : Nat} {agg : Bool} {R : AVal → Heap → Prop} : resW e H [.cell a agg n] R = loadW (vLoad agg n (e a) H) R H := by
  have : evRes e H [.cell a agg n] = (vLoad agg n (e a) H).map (·.1) := by
    simp only [evRes, evRes1]
    have h : ev (.load agg n (.t a)) e H = vLoad agg n (e a) H := rfl
    rw [h]
    cases vLoad agg n (e a) H with
    | none => rfl
    | some x => rfl
  simp only [resW, loadW, this]
  refine propext ⟨?_, ?_⟩
  · rintro ⟨v, h1, h2⟩
    cases hx : vLoad agg n (e a) H with
    | none => rw [hx] at h1; simp at h1
    | some x => rw [hx] at h1; simp at h1; exact ⟨v, x.2, by rw [← h1], h2⟩
  · rintro ⟨v, H', h1, h2⟩
    exact ⟨v, by rw [h1]; rfl, h2⟩
theorem loadW_some {v : AVal} {H' : Heap} {R : AVal → Heap → Prop} : loadW (some (v, H')) R H = R v H := by
  refine propext ⟨?_, fun h => ⟨_, _, rfl, h⟩⟩
  rintro ⟨v', H2, h1, h2⟩
  injection h1 with h1; injection h1 with h1 _; subst h1; exact h2

/-! ### What is frozen -/
section
variable {n sz b i f : Nat} {rows : List (List Cell)} {row : List Cell} {z : Bool} {agg : Bool} {c : Cell} {cs : List Cell} {j : Int} {ik : IntKind} {x : AVal}
theorem mkF_box {k : Blk} (hk : k.own = true) (hl : k.live = true) : mkF H (some (x, H ++ [k])) = if closedA (x.frz H.length k) = true then some (x.frz H.length k) else none := by
  simp only [mkF, List.drop_left, frzE, hk, hl, Bool.true_and]
theorem mkF_same : mkF H (some (.c c, H)) = (weakC c).map .c := by
  simp only [mkF, List.drop_length, frzE]
theorem mkF_none : mkF H none = none := rfl
theorem weak_zer : weakC (.zer sz) = some (.lst sz []) := rfl
theorem weak_slc : weakC (.slc b i 0 sz z) = some (.lst sz []) := rfl
theorem mapc_some : (some c : Option Cell).map AVal.c = some (.c c) := rfl
theorem frzA_c {k : Blk} : AVal.frz b k (.c c) = .c (c.frz b k) := by simp [AVal.frz]
theorem frz_slc {k : Blk} {s : Nat} (h : s + n ≤ k.rows.length) : Cell.frz b k (.slc b s n sz false) = .lst sz ((k.rows.drop s).take n) := by simp [Cell.frz, h]
theorem frz_slcZ {k : Blk} {s : Nat} (h : s + n ≤ k.rows.length) : Cell.frz b k (.slc b s n sz true) = .zer sz := by simp [Cell.frz, h]
theorem frz_ptr {k : Blk} (h : k.rows[i]? = some row) : Cell.frz b k (.ptr b i f) = .fp row f := by simp [Cell.frz, h]
theorem mkF_lit (hl : rows.length = n) (hc : closedR rows = true) (hn : n ≠ 0) : mkF H (vLit sz n (some rows) H) = some (.c (.lst sz rows)) := by
  simp only [vLit]
  rw [mkF_box rfl rfl, frzA_c, show (n == 0) = false by simpa using hn, frz_slc (by simp [hl])]
  simp [closedA, closedC, ← hl, hc]
theorem mkF_lit0 : mkF H (vLit sz 0 (some rows) H) = some (.c (.zer sz)) := by
  simp only [vLit, beq_self_eq_true]
  rw [mkF_box rfl rfl, frzA_c, frz_slcZ (by simp)]
  simp [closedA, closedC]
theorem mkF_boxc (hc : closedC c = true) : mkF H (vBox (.c c) H) = some (.c (.fp [c] 0)) := by
  simp only [vBox]
  rw [mkF_box rfl rfl, frzA_c, frz_ptr (row := [c]) rfl]
  simp [closedA, closedC, closedCs, hc]
theorem mkF_boxa (hc : closedCs cs = true) : mkF H (vBox (.agg cs) H) = some (.c (.fp cs 0)) := by
  simp only [vBox]
  rw [mkF_box rfl rfl, frzA_c, frz_ptr (row := cs) rfl]
  simp [closedA, closedC, hc]
theorem mkF_new (hc : closedCs cs = true) : mkF H (some (.c (.ptr H.length 0 0), H ++ [{ sz := cs.length, rows := [cs] }])) = some (.c (.fp cs 0)) := by
  rw [mkF_box rfl rfl, frzA_c, frz_ptr (row := cs) rfl]
  simp [closedA, closedC, hc]

/-- An append onto what has no room, of a slice whose rows are known. -/
theorem mkF_appZ {bytes : Nat} {y : Cell} (hr : H.rowsOf y = some rows) (hf : fitsSz sz y = true) (hc : closedR rows = true) (hb : rows.length * bytes ≤ 140737488355328) : mkF H (vAppZ sz bytes (.c (.zer sz)) (.c y) H) = some (.c (.lst sz rows)) := by
  simp only [vAppZ, evApp, hr, hf, if_true]
  by_cases h0 : rows.length = 0
  · rw [if_pos h0, mkF_same, weak_zer]
    have : rows = [] := List.eq_nil_of_length_eq_zero h0
    subst this; rfl
  · rw [if_neg h0, if_pos hb, mkF_box rfl rfl, frzA_c, frz_slc (by simp)]
    simp [closedA, closedC, hc]
theorem mkF_appN {bytes : Nat} {y : Cell} (hr : H.rowsOf y = some rows) (hf : fitsSz sz y = true) (hc : closedR rows = true) (hb : rows.length * bytes ≤ 140737488355328) (h0 : rows ≠ []) : mkF H (vAppZ sz bytes (.c .nilS) (.c y) H) = some (.c (.lst sz rows)) := by
  simp only [vAppZ, evApp, hr, hf, if_true]
  have h0 : rows.length ≠ 0 := fun h => h0 (List.eq_nil_of_length_eq_zero h)
  rw [if_neg h0, if_pos hb, mkF_box rfl rfl, frzA_c, frz_slc (by simp)]
  simp [closedA, closedC, hc]

theorem vLen_lst : vLen (.c (.lst sz rows)) H = some (.c (.int .i64 rows.length), H) := rfl
theorem vLen_zer : vLen (.c (.zer sz)) H = some (.c (.int .i64 0), H) := rfl
theorem vFld_fp {off : Nat} : vFld off (.c (.fp row f)) H = some (.c (.fp row (f + off)), H) := rfl
theorem vChk_fp : vChk (.c (.fp row f)) H = some (.c (.fp row f), H) := rfl
theorem vLoad_fp : vLoad agg n (.c (.fp row f)) H = vLoadR agg n f (some row) H := rfl
theorem vIx_lst {q : Nat} (h : j = q) : vIx sz (.c (.lst sz rows)) (.c (.int ik j)) H = match rows[q]? with | some r => some (.c (.fp r 0), H) | none => none := by
  subst h
  simp [vIx]
  all_goals (cases rows[q]? <;> rfl)
theorem frzEnv_at {k : Blk} {t : Nat} : frzEnv b k e t = (e t).frz b k := rfl
end

end Go.Proofs.YtpjbjdicdjlmeaaGreatDoor.Eng

/- The engine, part 20: slim code that is run, for closed arguments. No statement of the seat is proved here. -/
namespace Go.Proofs.YtpjbjdicdjlmeaaGreatDoor.Eng
open Go
set_option linter.unusedVariables false
set_option linter.unusedSimpArgs false

/-! ### Equality of cells, as a test -/
mutual
def eqC : Cell → Cell → Bool
  | .int k n, .int k' n' => decide (k = k') && decide (n = n')
  | .bool b, .bool b' => b == b'
  | .str s, .str s' => decide (s = s')
  | .nilI, .nilI => true
  | .nilF, .nilF => true
  | .nilS, .nilS => true
  | .nilP, .nilP => true
  | .ptr a b c, .ptr a' b' c' => a == a' && b == b' && c == c'
  | .slc a b c d z, .slc a' b' c' d' z' => a == a' && b == b' && c == c' && d == d' && z == z'
  | .fn f cs, .fn f' cs' => f == f' && eqCs cs cs'
  | .iface t a cs, .iface t' a' cs' => t == t' && a == a' && eqCs cs cs'
  | .lst a rs, .lst a' rs' => a == a' && eqRs rs rs'
  | .zer a, .zer a' => a == a'
  | .emp a, .emp a' => a == a'
  | .fp r f, .fp r' f' => f == f' && eqCs r r'
  | _, _ => false
def eqCs : List Cell → List Cell → Bool
  | [], [] => true
  | x :: r, y :: s => eqC x y && eqCs r s
  | _, _ => false
def eqRs : List (List Cell) → List (List Cell) → Bool
  | [], [] => true
  | x :: r, y :: s => eqCs x y && eqRs r s
  | _, _ => false
end

mutual
theorem eqC_sound : ∀ (x y : Cell), eqC x y = true → x = y
  | x, y, h => by
    cases x <;> cases y <;> simp only [eqC, Bool.and_eq_true, beq_iff_eq, decide_eq_true_eq, reduceCtorEq, Bool.false_eq_true] at h <;> try (first | rfl | (simp only [h]; done))
    case fn.fn f cs f' cs' => rw [h.1, eqCs_sound cs cs' h.2]
    case iface.iface t a cs t' a' cs' => rw [h.1.1, h.1.2, eqCs_sound cs cs' h.2]
    case lst.lst a rs a' rs' => rw [h.1, eqRs_sound rs rs' h.2]
    case fp.fp r f r' f' => rw [h.1, eqCs_sound r r' h.2]
theorem eqCs_sound : ∀ (x y : List Cell), eqCs x y = true → x = y
  | [], [], _ => rfl
  | [], _ :: _, h => by simp [eqCs] at h
  | _ :: _, [], h => by simp [eqCs] at h
  | x :: r, y :: s, h => by
    simp only [eqCs, Bool.and_eq_true] at h
    rw [eqC_sound x y h.1, eqCs_sound r s h.2]
theorem eqRs_sound : ∀ (x y : List (List Cell)), eqRs x y = true → x = y
  | [], [], _ => rfl
  | [], _ :: _, h => by simp [eqRs] at h
  | _ :: _, [], h => by simp [eqRs] at h
  | x :: r, y :: s, h => by
    simp only [eqRs, Bool.and_eq_true] at h
    rw [eqCs_sound x y h.1, eqRs_sound r s h.2]
end

def eqRows : List (List Cell) → List (List Cell) → Bool
  | [], [] => true
  | x :: r, y :: s => eqCs x y && eqRows r s
  | _, _ => false
theorem eqRows_sound : ∀ (x y : List (List Cell)), eqRows x y = true → x = y
  | [], [], _ => rfl
  | [], _ :: _, h => by simp [eqRows] at h
  | _ :: _, [], h => by simp [eqRows] at h
  | x :: r, y :: s, h => by
    simp only [eqRows, Bool.and_eq_true] at h
    rw [eqCs_sound x y h.1, eqRows_sound r s h.2]

def eqBlk (x y : Blk) : Bool := x.sz == y.sz && x.own == y.own && x.live == y.live && eqRows x.rows y.rows
theorem eqBlk_sound (x y : Blk) (h : eqBlk x y = true) : x = y := by
  obtain ⟨a, b, c, d⟩ := x
  obtain ⟨a', b', c', d'⟩ := y
  simp only [eqBlk, Bool.and_eq_true, beq_iff_eq] at h
  obtain ⟨⟨⟨h1, h2⟩, h3⟩, h4⟩ := h
  have := eqRows_sound _ _ h4
  subst h1; subst h2; subst h3; subst this; rfl

def isPre : Heap → Heap → Bool
  | [], _ => true
  | x :: r, y :: s => eqBlk x y && isPre r s
  | _ :: _, [] => false
theorem isPre_sound : ∀ (x y : Heap), isPre x y = true → x <+: y
  | [], _, _ => List.nil_prefix
  | _ :: _, [], h => by simp [isPre] at h
  | x :: r, y :: s, h => by
    simp only [isPre, Bool.and_eq_true] at h
    rw [eqBlk_sound x y h.1]
    exact List.cons_prefix_cons.2 ⟨rfl, isPre_sound r s h.2⟩

/-! ### The run -/
abbrev RunF := Nat → List AVal → Heap → Option (AVal × Heap)
abbrev RunL := ACode → Env → Heap → Option (AExit × Env × Heap)

def runOps (rf : RunF) (d : Bool) : List AInstr → Env → Heap → Option (Env × Heap)
  | [], e, H => some (e, H)
  | i :: l, e, H =>
    if goes i.guard e then
      match i.op with
      | .call fo args =>
        match fo.ev e with
        | .c (.fn f caps) =>
          match rf f (args.map (Opd.ev e) ++ caps.map .c) H with
          | some (v, H1) => if !d || isPre H H1 then runOps rf d l (updO e i.dst v) H1 else none
          | none => none
        | _ => none
      | o =>
        if i.fz then
          match evF o e H with
          | some v => runOps rf d l (updO e i.dst v) H
          | none => none
        else
          match ev o e H with
          | some (v, H1) => runOps rf d l (updO e i.dst v) H1
          | none => none
    else if i.op.isBad then none else runOps rf d l (updO e i.dst undefA) H

def runC (rf : RunF) (rl : RunL) : ACode → Env → Heap → Option (AExit × Env × Heap)
  | .skip, e, H => some (.normal, e, H)
  | .region l d, e, H => match runOps rf d l e H with | some (e', H') => some (.normal, e', H') | none => none
  | .seq a b, e, H => match runC rf rl a e H with
    | some (.normal, e', H') => runC rf rl b e' H'
    | r => r
  | .cond c a b, e, H => match c.ev e with
    | .c (.bool true) => runC rf rl a e H
    | .c (.bool false) => runC rf rl b e H
    | _ => none
  | .block id a, e, H => match runC rf rl a e H with
    | some (.exit i, e', H') => if i = id then some (.normal, e', H') else some (.exit i, e', H')
    | r => r
  | .loop a, e, H => match runC rf rl a e H with
    | some (.normal, e', H') => rl a e' H'
    | r => r
  | .exit id, e, H => some (.exit id, e, H)
  | .ret, e, H => some (.ret, e, H)
  | .bad, _, _ => none
  | .fz t a, e, H => match (e t).blk with
    | some b => match H[b]? with
      | some k => if k.own && k.live then runC rf rl a (frzEnv b k e) (H.kill b) else none
      | none => none
    | none => none

def callOf (T : Nat → Option AFun) (rf : RunF) (rl : RunL) : RunF := fun f args H =>
  match T f with
  | some fn =>
    match runC rf rl fn.body (initEnv args) H with
    | some (.normal, e, H') => (match evRes e H' fn.res with | some v => some (v, H') | none => none)
    | some (.ret, e, H') => (match evRes e H' fn.res with | some v => some (v, H') | none => none)
    | _ => none
  | none => none

def runN (T : Nat → Option AFun) : Nat → RunF × RunL
  | 0 => (fun _ _ _ => none, fun _ _ _ => none)
  | n + 1 => (callOf T (runN T n).1 (runN T n).2, fun a e H => runC (runN T n).1 (runN T n).2 (.loop a) e H)

section
variable {G : Prog} {T : Nat → Option AFun}

def RF (G : Prog) (rf : RunF) : Prop := ∀ f args H v H', rf f args H = some (v, H') → Ev G (.call f args H v H')
def RL (G : Prog) (rl : RunL) : Prop := ∀ a e H x e' H', rl a e H = some (x, e', H') → Ev G (.code (.loop a) e H x e' H')

theorem runOps_sound {rf : RunF} (h : RF G rf) {d : Bool} : ∀ {l : List AInstr} {e : Env} {H : Heap} {e' : Env} {H' : Heap}, runOps rf d l e H = some (e', H') → Ev G (.ops d l e H e' H')
  | [], e, H, e', H', hr => by
    simp only [runOps, Option.some.injEq, Prod.mk.injEq] at hr
    obtain ⟨rfl, rfl⟩ := hr
    exact .nil
  | i :: l, e, H, e', H', hr => by
    simp only [runOps] at hr
    split at hr
    · rename_i hg
      split at hr
      · rename_i fo args hop
        split at hr <;> try (cases hr; done)
        rename_i f caps hfo
        split at hr <;> try (cases hr; done)
        rename_i v H1 hv
        split at hr <;> try (cases hr; done)
        rename_i hp
        refine .opCall hg hop hfo (h _ _ _ _ _ hv) (fun hd => ?_) (runOps_sound h hr)
        subst hd
        exact isPre_sound _ _ (by simpa using hp)
      · split at hr
        · rename_i hz
          split at hr <;> try (cases hr; done)
          rename_i v hv
          exact .opF hg hz hv (runOps_sound h hr)
        · rename_i hz
          split at hr <;> try (cases hr; done)
          rename_i v H1 hv
          exact .op hg (by simpa using hz) hv (runOps_sound h hr)
    · rename_i hg
      split at hr <;> try (cases hr; done)
      rename_i hb
      exact .off (by simpa using hb) (by simpa using hg) (runOps_sound h hr)

theorem runC_sound {rf : RunF} {rl : RunL} (hf : RF G rf) (hl : RL G rl) : ∀ {c : ACode} {e : Env} {H : Heap} {x : AExit} {e' : Env} {H' : Heap}, runC rf rl c e H = some (x, e', H') → Ev G (.code c e H x e' H')
  | .skip, e, H, x, e', H', hr => by
    simp only [runC, Option.some.injEq, Prod.mk.injEq] at hr
    obtain ⟨rfl, rfl, rfl⟩ := hr; exact .skip
  | .region l d, e, H, x, e', H', hr => by
    simp only [runC] at hr
    split at hr <;> try (cases hr; done)
    rename_i e1 H1 h1
    simp only [Option.some.injEq, Prod.mk.injEq] at hr
    obtain ⟨rfl, rfl, rfl⟩ := hr
    exact .region (runOps_sound hf h1)
  | .seq a b, e, H, x, e', H', hr => by
    simp only [runC] at hr
    split at hr
    · rename_i e1 H1 h1
      exact .seq (runC_sound hf hl h1) (runC_sound hf hl hr)
    · rename_i hne
      refine .seqOut (fun hx => ?_) (runC_sound hf hl hr)
      subst hx
      exact hne _ _ hr
  | .cond c a b, e, H, x, e', H', hr => by
    simp only [runC] at hr
    split at hr <;> try (cases hr; done)
    · rename_i hc
      exact .cond hc (by simpa using runC_sound hf hl hr)
    · rename_i hc
      exact .cond hc (by simpa using runC_sound hf hl hr)
  | .block id a, e, H, x, e', H', hr => by
    simp only [runC] at hr
    split at hr
    · rename_i i e1 H1 h1
      split at hr
      · rename_i hi
        simp only [Option.some.injEq, Prod.mk.injEq] at hr
        obtain ⟨rfl, rfl, rfl⟩ := hr
        subst hi
        exact .blockExit (runC_sound hf hl h1)
      · rename_i hi
        simp only [Option.some.injEq, Prod.mk.injEq] at hr
        obtain ⟨rfl, rfl, rfl⟩ := hr
        exact .block (runC_sound hf hl h1) (by intro h; injection h with h; exact hi h)
    · rename_i hne
      refine .block (runC_sound hf hl hr) (fun hx => ?_)
      subst hx
      exact hne _ _ _ hr
  | .loop a, e, H, x, e', H', hr => by
    simp only [runC] at hr
    split at hr
    · rename_i e1 H1 h1
      exact .loop (runC_sound hf hl h1) (hl _ _ _ _ _ _ hr)
    · rename_i hne
      refine .loopOut (fun hx => ?_) (runC_sound hf hl hr)
      subst hx
      exact hne _ _ hr
  | .exit id, e, H, x, e', H', hr => by
    simp only [runC, Option.some.injEq, Prod.mk.injEq] at hr
    obtain ⟨rfl, rfl, rfl⟩ := hr; exact .exit
  | .ret, e, H, x, e', H', hr => by
    simp only [runC, Option.some.injEq, Prod.mk.injEq] at hr
    obtain ⟨rfl, rfl, rfl⟩ := hr; exact .ret
  | .bad, e, H, x, e', H', hr => by simp [runC] at hr
  | .fz t a, e, H, x, e', H', hr => by
    simp only [runC] at hr
    split at hr <;> try (cases hr; done)
    rename_i b hb
    split at hr <;> try (cases hr; done)
    rename_i k hk
    split at hr <;> try (cases hr; done)
    rename_i ho
    simp only [Bool.and_eq_true] at ho
    exact .fz hb hk ho.1 ho.2 (runC_sound hf hl hr)

theorem runN_sound (hT : ∀ f a, T f = some a → G.fn f = some a) : ∀ n, RF G (runN T n).1 ∧ RL G (runN T n).2
  | 0 => ⟨fun f args H v H' h => by simp [runN] at h, fun a e H x e' H' h => by simp [runN] at h⟩
  | n + 1 => by
    obtain ⟨hf, hl⟩ := runN_sound hT n
    refine ⟨fun f args H v H' h => ?_, fun a e H x e' H' h => runC_sound hf hl h⟩
    simp only [runN, callOf] at h
    split at h <;> try (cases h; done)
    rename_i fn hfn
    split at h <;> try (cases h; done)
    all_goals
      rename_i e H1 h1
      split at h <;> try (cases h; done)
      rename_i v1 hv1
      simp only [Option.some.injEq, Prod.mk.injEq] at h
      obtain ⟨rfl, rfl⟩ := h
      exact .call (hT _ _ hfn) (runC_sound hf hl h1) (by first | exact .inl rfl | exact .inr rfl) hv1

/-- A call that was run. -/
theorem wcall_run (hT : ∀ f a, T f = some a → G.fn f = some a) (n : Nat) {f : Nat} {args : List AVal} {H H' : Heap} {v : AVal} {R : AVal → Heap → Prop} (h : (runN T n).1 f args H = some (v, H')) (hR : R v H') : WCall G f args H R :=
  ⟨v, H', (runN_sound hT n).1 _ _ _ _ _ h, hR⟩
end

end Go.Proofs.YtpjbjdicdjlmeaaGreatDoor.Eng

/- The engine, part 21: what a function of closed values comes to, at whatever heap. No statement of the seat is proved here. -/
namespace Go.Proofs.YtpjbjdicdjlmeaaGreatDoor.Eng
open Go
set_option linter.unusedVariables false
set_option linter.unusedSimpArgs false

variable {P : Program} {B : Nat} {m : LMap} {H : Heap} {w : World}

/-- No blocks; what is frozen is given. -/
def flat (z : Nat → Prop) : LMap := ⟨fun _ => none, z⟩
theorem Rel.flat {z : Nat → Prop} {w : World} (hz : ∀ g, z g → g < w.heap.size) (hlib : Lib (flat z) w) : Rel w.heap.size (flat z) [] w :=
  ⟨Nat.le_refl _, fun b L h => (by cases h), hz, fun b L k h => (by cases h), fun b b' L L' k k' h => (by cases h), hlib⟩

/-! ### Plain values: those that name no memory -/
mutual
def plainC : Cell → Bool
  | .ptr _ _ _ => false
  | .slc _ _ _ _ _ => false
  | .fn _ cs => plainCs cs
  | .iface _ _ cs => plainCs cs
  | .lst _ rows => rows.isEmpty
  | .fp _ _ => false
  | _ => true
def plainCs : List Cell → Bool
  | [] => true
  | x :: r => plainC x && plainCs r
end

theorem plainCs_get : ∀ {cs : List Cell}, plainCs cs = true → ∀ {i : Nat} {c : Cell}, cs[i]? = some c → plainC c = true
  | [], _, i, c, h => by simp at h
  | x :: r, hp, i, c, h => by
    simp only [plainCs, Bool.and_eq_true] at hp
    cases i with
    | zero => simp at h; subst h; exact hp.1
    | succ i => exact plainCs_get hp.2 (by simpa using h)

theorem VR.plain {m m' : LMap} {σ σ' : Mem} {c : Cell} {v : Value} (h : VR m σ c v) : plainC c = true → VR m' σ' c v := by
  induction h with
  | int => intro _; exact .int _ _
  | bool => intro _; exact .bool _
  | str => intro _; exact .str _
  | nilI => intro _; exact .nilI
  | nilF => intro _; exact .nilF
  | nilS => intro _; exact .nilS
  | nilP => intro _; exact .nilP
  | ptr => intro hp; simp [plainC] at hp
  | slc => intro hp; simp [plainC] at hp
  | fn hl _ ih =>
    intro hp
    simp only [plainC] at hp
    exact .fn hl fun i c v hc hv => ih i c v hc hv (plainCs_get hp hc)
  | ifaceC _ ih =>
    intro hp
    simp only [plainC, plainCs, Bool.and_true] at hp
    exact .ifaceC (ih hp)
  | ifaceA hl _ ih =>
    intro hp
    simp only [plainC] at hp
    exact .ifaceA hl fun i c v hc hv => ih i c v hc hv (plainCs_get hp hc)
  | zerN => intro _; exact .zerN
  | zerS => intro _; exact .zerS
  | emp h => intro _; exact .emp h
  | lstN => intro _; exact .lstN
  | lst h1 h2 h3 h4 h5 h6 _ =>
    intro hp
    simp only [plainC, List.isEmpty_iff] at hp
    subst hp
    exact VR.lst' (g := 0) (o := 0) (vs := fun _ _ => undef) rfl h1 h2 (fun h => absurd rfl h) (fun i r e => by simp at e) (fun i r f x e => by simp at e) (fun i r f x e => by simp at e)
  | fp => intro hp; simp [plainC] at hp

mutual
def plainA : AVal → Bool
  | .c x => plainC x
  | .agg xs => plainCs xs
  | .tup xs => plainAs xs
def plainAs : List AVal → Bool
  | [] => true
  | x :: r => plainA x && plainAs r
end

theorem plainAs_get : ∀ {cs : List AVal}, plainAs cs = true → ∀ {i : Nat} {c : AVal}, cs[i]? = some c → plainA c = true
  | [], _, i, c, h => by simp at h
  | x :: r, hp, i, c, h => by
    simp only [plainAs, Bool.and_eq_true] at hp
    cases i with
    | zero => simp at h; subst h; exact hp.1
    | succ i => exact plainAs_get hp.2 (by simpa using h)

theorem all2_plain {m m' : LMap} {σ σ' : Mem} : ∀ {cs : List Cell} {vs : List Value}, All2 (VR m σ) cs vs → plainCs cs = true → All2 (VR m' σ') cs vs
  | [], _, h, _ => by cases h; exact .nil
  | c :: cs, _, h, hp => by
    simp only [plainCs, Bool.and_eq_true] at hp
    cases h with
    | cons a b => exact .cons (a.plain hp.1) (all2_plain b hp.2)

theorem VRA.plain {m m' : LMap} {σ σ' : Mem} {x : AVal} {v : Value} (h : VRA m σ x v) : plainA x = true → VRA m' σ' x v := by
  induction h with
  | c h => intro hp; exact .c (h.plain (by simpa [plainA] using hp))
  | agg h => intro hp; exact .agg (all2_plain h (by simpa [plainA] using hp))
  | tup hl _ ih =>
    intro hp
    simp only [plainA] at hp
    exact .tup hl fun i c v hc hv => ih i c v hc hv (plainAs_get hp hc)

/-! ### Views: what a value reads as, if nobody writes -/
section
variable {z : Nat → Prop} (r : Rel B m H w) (hz : ∀ g, m.z g → z g) (hz2 : ∀ b L k, m b = some L → H[b]? = some k → k.live = true → z L.g)
include r hz hz2

theorem viewC_sound {c c' : Cell} (hv : viewC H c = some c') {v : Value} (h : VR m (cellsIn w) c v) : VR (flat z) (cellsIn w) c' v := by
  have closed : ∀ {c c' : Cell} {v : Value}, (if closedC c = true then some c else none) = some c' → VR m (cellsIn w) c v → VR (flat z) (cellsIn w) c' v := by
    intro c c' v hv h
    split at hv <;> try (cases hv; done)
    rename_i hc
    injection hv with hv; subst hv
    exact h.closed hz hc
  have le : m.Le ⟨m.f, fun g => m.z g ∨ z g⟩ := ⟨fun _ _ h => h, fun _ h => .inl h⟩
  have down : ∀ {c : Cell} {v : Value}, VR ⟨m.f, fun g => m.z g ∨ z g⟩ (cellsIn w) c v → closedC c = true → VR (flat z) (cellsIn w) c v := fun h hc => VR.closed (m := ⟨m.f, fun g => m.z g ∨ z g⟩) (m' := flat z) (fun g h => Or.elim h (hz g) id) h hc
  unfold viewC at hv
  split at hv
  · rename_i b s n sz zz
    cases h with
    | @slc _ _ _ _ _ A c h1 h2 h3 h4 =>
      split at hv
      · rename_i hn
        injection hv with hv; subst hv
        subst hn
        exact VR.lst' (g := 0) (o := 0) (vs := fun _ _ => undef) rfl h1 h3 (fun h => absurd rfl h) (fun i r e => by simp at e) (fun i r f x e => by simp at e) (fun i r f x e => by simp at e)
      · rename_i hn
        split at hv <;> try (cases hv; done)
        rename_i k hk
        split at hv <;> try (cases hv; done)
        rename_i hc
        injection hv with hv; subst hv
        obtain ⟨hl, hs, hcl⟩ := hc
        obtain ⟨L, e, ez, h5⟩ := h4
        obtain ⟨k', hk', hat⟩ := r.blk b L e
        rw [hk] at hk'; injection hk' with hk'; subst hk'
        subst ez
        exact down (hat.lst hl le (.inr (hz2 b L k e hk hl)) hs h1 h3 (fun hc => (h5 hc).1)) (by simp [closedC, hcl])
  · rename_i b i f
    cases h with
    | ptr e =>
      split at hv <;> try (cases hv; done)
      rename_i row hrow
      split at hv <;> try (cases hv; done)
      rename_i hcl
      injection hv with hv; subst hv
      obtain ⟨k, hk, hl, hq⟩ := Heap.row_some hrow
      obtain ⟨k', hk', hat⟩ := r.blk b _ e
      rw [hk] at hk'; injection hk' with hk'; subst hk'
      exact down (hat.fp hl le (.inr (hz2 b _ k e hk hl)) hq) (by simp [closedC, hcl])
  · exact closed hv h

theorem viewCs_sound : ∀ {cs ds : List Cell}, viewCs H cs = some ds → cs.length = ds.length ∧ ∀ (i : Nat) d v, ds[i]? = some d → (∀ c, cs[i]? = some c → VR m (cellsIn w) c v) → VR (flat z) (cellsIn w) d v
  | [], ds, h => by simp [viewCs] at h; subst h; exact ⟨rfl, fun i d v e => by simp at e⟩
  | x :: cs, ds, h => by
    simp only [viewCs] at h
    split at h <;> try (cases h; done)
    rename_i y s hy hs
    injection h with h; subst h
    obtain ⟨h1, h2⟩ := viewCs_sound hs
    refine ⟨by simp [h1], fun i d v e hv => ?_⟩
    cases i with
    | zero => simp at e; subst e; exact viewC_sound r hz hz2 hy (hv x rfl)
    | succ i => exact h2 i d v (by simpa using e) fun c hc => hv c (by simpa using hc)

theorem viewFn_sound {c c' : Cell} (hv : viewFn H c = some c') {v : Value} (h : VR m (cellsIn w) c v) : VR (flat z) (cellsIn w) c' v := by
  unfold viewFn at hv
  split at hv
  · rename_i f cs
    split at hv <;> try (cases hv; done)
    rename_i ds hds
    injection hv with hv; subst hv
    obtain ⟨h1, h2⟩ := viewCs_sound r hz hz2 hds
    cases h with
    | fn hl hk => exact .fn (h1.symm.trans hl) fun i d v hd hv => h2 i d v hd fun c hc => hk i c v hc hv
  · rename_i t a cs
    split at hv <;> try (cases hv; done)
    rename_i ds hds
    injection hv with hv; subst hv
    obtain ⟨h1, h2⟩ := viewCs_sound r hz hz2 hds
    cases h with
    | ifaceC hk =>
      cases ds with
      | nil => simp at h1
      | cons d ds =>
        cases ds with
        | cons => simp at h1
        | nil => exact .ifaceC (h2 0 d _ rfl fun c hc => by simp at hc; subst hc; exact hk)
    | ifaceA hl hk => exact .ifaceA (h1.symm.trans hl) fun i d v hd hv => h2 i d v hd fun c hc => hk i c v hc hv
  · exact viewC_sound r hz hz2 hv h

theorem viewFs_sound : ∀ {cs ds : List Cell} {vs : List Value}, viewFs H cs = some ds → All2 (VR m (cellsIn w)) cs vs → All2 (VR (flat z) (cellsIn w)) ds vs
  | [], ds, _, h, ha => by simp [viewFs] at h; subst h; cases ha; exact .nil
  | x :: cs, ds, _, h, ha => by
    simp only [viewFs] at h
    split at h <;> try (cases h; done)
    rename_i y s hy hs
    injection h with h; subst h
    cases ha with
    | cons a b => exact .cons (viewFn_sound r hz hz2 hy a) (viewFs_sound hs b)

end

mutual
theorem viewA_sound {z : Nat → Prop} (r : Rel B m H w) (hz : ∀ g, m.z g → z g) (hz2 : ∀ b L k, m b = some L → H[b]? = some k → k.live = true → z L.g) : ∀ {x y : AVal}, viewA H x = some y → ∀ {v : Value}, VRA m (cellsIn w) x v → VRA (flat z) (cellsIn w) y v
  | .c x, y, hv, v, h => by
    simp only [viewA] at hv
    split at hv <;> try (cases hv; done)
    rename_i d hd
    injection hv with hv; subst hv
    cases h with
    | c h => exact .c (viewFn_sound r hz hz2 hd h)
  | .agg xs, y, hv, v, h => by
    simp only [viewA] at hv
    split at hv <;> try (cases hv; done)
    rename_i d hd
    injection hv with hv; subst hv
    cases h with
    | agg h => exact .agg (viewFs_sound r hz hz2 hd h)
  | .tup xs, y, hv, v, h => by
    simp only [viewA] at hv
    split at hv <;> try (cases hv; done)
    rename_i d hd
    injection hv with hv; subst hv
    cases h with
    | tup hl hk =>
      obtain ⟨h1, h2⟩ := viewAs_sound r hz hz2 hd
      exact .tup (h1.symm.trans hl) fun i x v hx hv => h2 i x v hx fun c hc => hk i c v hc hv
theorem viewAs_sound {z : Nat → Prop} (r : Rel B m H w) (hz : ∀ g, m.z g → z g) (hz2 : ∀ b L k, m b = some L → H[b]? = some k → k.live = true → z L.g) :
    ∀ {xs ys : List AVal}, viewAs H xs = some ys → xs.length = ys.length ∧ ∀ (i : Nat) y v, ys[i]? = some y → (∀ x, xs[i]? = some x → VRA m (cellsIn w) x v) → VRA (flat z) (cellsIn w) y v
  | [], ys, h => by simp [viewAs] at h; subst h; exact ⟨rfl, fun i d v e => by simp at e⟩
  | x :: xs, ys, h => by
    simp only [viewAs] at h
    split at h <;> try (cases h; done)
    rename_i y s hy hs
    injection h with h; subst h
    obtain ⟨h1, h2⟩ := viewAs_sound r hz hz2 hs
    refine ⟨by simp [h1], fun i d v e hv => ?_⟩
    cases i with
    | zero => simp at e; subst e; exact viewA_sound r hz hz2 hy (hv x rfl)
    | succ i => exact h2 i d v (by simpa using e) fun c hc => hv c (by simpa using hc)
end

theorem viewAs_all2 {z : Nat → Prop} (r : Rel B m H w) (hz : ∀ g, m.z g → z g) (hz2 : ∀ b L k, m b = some L → H[b]? = some k → k.live = true → z L.g) {xs ys : List AVal} {vs : List Value} (h : viewAs H xs = some ys) (ha : All2 (VRA m (cellsIn w)) xs vs) : All2 (VRA (flat z) (cellsIn w)) ys vs := by
  obtain ⟨h1, h2⟩ := viewAs_sound r hz hz2 h
  refine All2.of_get (h1.symm.trans ha.length) fun i y v hy hv => h2 i y v hy fun x hx => ?_
  obtain ⟨v', hv', hr⟩ := ha.get hx
  rw [hv] at hv'; injection hv' with hv'; subst hv'
  exact hr

/-! ### Contracts -/
/-- A call of closed values comes to a closed value, at whatever heap, and leaves the heap as it is. -/
def Pure (P : Program) (f : Nat) (args : List AVal) (v : AVal) : Prop := ∀ H, CallSound P f args H v H

theorem CallSound.pure {f : Nat} {args : List AVal} {v v' : AVal} {E : Heap} (h : CallSound P f args [] v E) (ha : closedAs args = true) (hv : viewA E v = some v') : Pure P f args v' := by
  intro H
  refine ⟨h.there, fun B m w vs r hargs => ?_⟩
  have r0 : Rel w.heap.size (flat m.z) [] w := Rel.flat r.zlt r.lib
  refine (h.calls w.heap.size (flat m.z) w vs r0 (all2_closedA (m := m) (m' := flat m.z) (fun _ h => h) hargs ha)).mono ?_
  rintro e w' ⟨u, m1, rfl, hst, hr⟩
  have hbel := hst.below r0
  have himg : ∀ g, ¬ ownImg (flat m.z) [] g := by rintro g ⟨b, L, k, e, _⟩; cases e
  refine ⟨u, ⟨m.f, fun g => m.z g ∨ (w.heap.size ≤ g ∧ g < w'.heap.size)⟩, rfl, St.ofBelow r hbel hst.drawn (fun _ h => .inl h) (fun _ h => h), ?_⟩
  have := viewA_sound hst.rel (z := fun g => m.z g ∨ (w.heap.size ≤ g ∧ g < w'.heap.size)) (fun g hg => ?_) (fun b L k e ek hl => ?_) hv hr
  · exact this.mono (m := flat fun g => m.z g ∨ (w.heap.size ≤ g ∧ g < w'.heap.size)) (m' := ⟨m.f, fun g => m.z g ∨ (w.heap.size ≤ g ∧ g < w'.heap.size)⟩) ⟨fun _ _ h => (by cases h), fun _ _ h => (by cases h), fun _ h => h, fun _ _ _ => rfl⟩
  · rcases hst.zfresh g hg with h1 | h1 | h1
    · exact .inl h1
    · exact .inr ⟨h1, hst.rel.zlt g hg⟩
    · exact absurd h1 (himg g)
  · obtain ⟨k', ek', hat⟩ := hst.rel.blk b L e
    rw [ek] at ek'; injection ek' with ek'; subst ek'
    rcases hst.fresh b L rfl e with h1 | h1
    · exact .inr ⟨h1, hat.lt (.inr hl)⟩
    · exact absurd h1 (himg _)

/-- Arguments are read as they stand; the answer names no memory. -/
theorem Pure.view {f : Nat} {args args' : List AVal} {v : AVal} (h : Pure P f args' v) (ha : viewAs H args = some args') (hv : plainA v = true) : CallSound P f args H v H := by
  refine ⟨(h []).there, fun B m w vs r hargs => ?_⟩
  have r0 : Rel w.heap.size (flat fun g => g < w.heap.size) [] w := Rel.flat (fun _ h => h) fun g c k => ⟨r.zlt g (r.lib g c k).1, (r.lib g c k).2⟩
  have ha' := viewAs_all2 (z := fun g => g < w.heap.size) r r.zlt (fun b L k e ek hl => by
    obtain ⟨k', ek', hat⟩ := r.blk b L e
    rw [ek] at ek'; injection ek' with ek'; subst ek'
    exact hat.lt (.inr hl)) ha hargs
  refine ((h []).calls w.heap.size _ w vs r0 ha').mono ?_
  rintro e w' ⟨u, m1, rfl, hst, hr⟩
  exact ⟨u, ⟨m.f, m.z⟩, rfl, St.ofBelow r (hst.below r0) hst.drawn (fun _ h => h) (fun _ h => .inl h), hr.plain hv⟩

/-! ### An empty slice is as good as nil -/
inductive WkC : Cell → Cell → Prop where
  | same (c) : WkC c c
  | nilS (sz) : WkC .nilS (.lst sz [])
  | zer (sz) : WkC (.zer sz) (.lst sz [])
  | emp (sz) : WkC (.emp sz) (.lst sz [])
  | nilZ (sz) : WkC .nilS (.zer sz)
inductive WkA : AVal → AVal → Prop where
  | same (a) : WkA a a
  | c {x y} : WkC x y → WkA (.c x) (.c y)
  | agg {xs ys} : All2 WkC xs ys → WkA (.agg xs) (.agg ys)
  | tup2 {a b x y} : WkA a x → WkA b y → WkA (.tup [a, b]) (.tup [x, y])

theorem VR.wk {σ : Mem} {c d : Cell} {v : Value} (h : VR m σ c v) (k : WkC c d) : VR m σ d v := by
  cases k with
  | same => exact h
  | nilS => cases h; exact .lstN
  | zer => exact weak_sound rfl h
  | emp => exact weak_sound rfl h
  | nilZ => cases h; exact .zerN
theorem all2_wk {σ : Mem} : ∀ {cs ds : List Cell} {vs : List Value}, All2 WkC cs ds → All2 (VR m σ) cs vs → All2 (VR m σ) ds vs
  | _, _, _, .nil, h => by cases h; exact .nil
  | _, _, _, .cons k ks, h => by
    cases h with
    | cons a b => exact .cons (a.wk k) (all2_wk ks b)
theorem VRA.wk {σ : Mem} {c d : AVal} {v : Value} (h : VRA m σ c v) (k : WkA c d) : VRA m σ d v := by
  induction k generalizing v with
  | same => exact h
  | c k => cases h with | c h => exact .c (h.wk k)
  | agg k => cases h with | agg h => exact .agg (all2_wk k h)
  | tup2 k1 k2 ih1 ih2 =>
    cases h with
    | tup hl hk =>
      refine .tup hl fun i x v hx hv => ?_
      match i with
      | 0 => simp at hx; subst hx; exact ih1 (hk 0 _ v rfl hv)
      | 1 => simp at hx; subst hx; exact ih2 (hk 1 _ v rfl hv)
      | i + 2 => simp at hx
theorem all2_wkA {σ : Mem} : ∀ {cs ds : List AVal} {vs : List Value}, All2 WkA cs ds → All2 (VRA m σ) cs vs → All2 (VRA m σ) ds vs
  | _, _, _, .nil, h => by cases h; exact .nil
  | _, _, _, .cons k ks, h => by
    cases h with
    | cons a b => exact .cons (a.wk k) (all2_wkA ks b)
theorem CallSound.wk {f : Nat} {args args' : List AVal} {H H' : Heap} {v : AVal} (k : All2 WkA args args') (h : CallSound P f args' H v H') : CallSound P f args H v H' :=
  ⟨h.there, fun B m w vs r ha => h.calls B m w vs r (all2_wkA k ha)⟩
theorem Pure.wk {f : Nat} {args args' : List AVal} {v : AVal} (h : Pure P f args' v) (k : All2 WkA args args') : Pure P f args v := fun H => (h H).wk k

/-- An empty slice is nil, or not. -/
theorem CallSound.empty {f : Nat} {pre post : List AVal} {sz : Nat} {H H' : Heap} {v : AVal} (h1 : CallSound P f (pre ++ .c .nilS :: post) H v H') (h2 : CallSound P f (pre ++ .c (.emp sz) :: post) H v H') : CallSound P f (pre ++ .c (.lst sz []) :: post) H v H' := by
  refine ⟨h1.there, fun B m w vs r ha => ?_⟩
  have key : ∀ {pre : List AVal} {vs : List Value}, All2 (VRA m (cellsIn w)) (pre ++ .c (.lst sz []) :: post) vs → All2 (VRA m (cellsIn w)) (pre ++ .c .nilS :: post) vs ∨ All2 (VRA m (cellsIn w)) (pre ++ .c (.emp sz) :: post) vs := by
    intro pre
    induction pre with
    | nil =>
      intro vs h
      cases h with
      | cons a b =>
        cases a with
        | c a =>
          cases a with
          | lstN => exact .inl (.cons (.c .nilS) b)
          | lst h1 h2 => exact .inr (.cons (.c (.emp h2)) b)
    | cons x pre ih =>
      intro vs h
      cases h with
      | cons a b => exact (ih b).imp (.cons a) (.cons a)
  rcases key ha with h | h
  · exact h1.calls B m w vs r h
  · exact h2.calls B m w vs r h

/-- An answer that is nil, told as an empty slice. -/
theorem CallSound.wkr {f : Nat} {args : List AVal} {H H' : Heap} {v v' : AVal} (k : WkA v v') (h : CallSound P f args H v H') : CallSound P f args H v' H' :=
  ⟨h.there, fun B m w vs r ha => (h.calls B m w vs r ha).mono (by rintro e w' ⟨u, m', h1, h2, h3⟩; exact ⟨u, m', h1, h2, h3.wk k⟩)⟩
theorem Pure.wkr {f : Nat} {args : List AVal} {v v' : AVal} (h : Pure P f args v) (k : WkA v v') : Pure P f args v' := fun H => (h H).wkr k

/-! ### The program of a text -/
/-- The slim functions of a text, and whatever call is known to be sound. -/
noncomputable def progT (P : Program) (T : Nat → Option AFun) : Prog := { fn := T, prim := fun f a H v H' => CallSound P f a H v H' }
theorem progT_ok {T : Nat → Option AFun} (hT : ∀ f a, T f = some a → cmpFun P f = some a.erase) (h : P.follows .mixedOrders = true) : GOk P (progT P T) := ⟨hT, fun _ _ _ _ _ h => h, h⟩

def one (f : Nat) (a : AFun) : Nat → Option AFun := fun g => if g = f then some a else none
theorem one_ok {f : Nat} {a : AFun} (h : cmpFun P f = some a.erase) : ∀ g b, one f a g = some b → cmpFun P g = some b.erase := by
  intro g b hb
  unfold one at hb
  split at hb
  · rename_i hg
    injection hb with hb; subst hb; subst hg; exact h
  · cases hb

/-- The program of one function. -/
noncomputable abbrev P1 (P : Program) (f : Nat) (a : AFun) : Prog := progT P (one f a)

theorem sound1 {T : Nat → Option AFun} (hT : ∀ f a, T f = some a → cmpFun P f = some a.erase) (hm : P.follows .mixedOrders = true) {f : Nat} {args : List AVal} {H H' : Heap} {v : AVal} (h : Ev (progT P T) (.call f args H v H')) : CallSound P f args H v H' :=
  sound (progT_ok hT hm) h

/-- What no slice of the machine can be longer than. -/
def lenC : Cell → Prop
  | .lst _ rows => rows.length ≤ maxLen
  | _ => True
def lenA : AVal → Prop
  | .c x => lenC x
  | .agg xs => ∀ x ∈ xs, lenC x
  | .tup _ => True
def lenAs (l : List AVal) : Prop := ∀ a ∈ l, lenA a

theorem VR.lens {σ : Mem} {c : Cell} {v : Value} (h : VR m σ c v) : lenC c := by
  cases h <;> try trivial
  case lstN => exact Nat.zero_le _
  case lst h1 h2 _ _ _ _ => exact Nat.le_trans h1 h2
theorem All2.left_mem {α β : Type} {R : α → β → Prop} {l : List α} {r : List β} (h : All2 R l r) : ∀ a ∈ l, ∃ b, R a b := by
  induction h with
  | nil => intro b h; cases h
  | cons hd _ ih => intro b hb; cases hb with
    | head => exact ⟨_, hd⟩
    | tail _ hb => exact ih b hb
theorem VRA.lens {σ : Mem} {c : AVal} {v : Value} (h : VRA m σ c v) : lenA c := by
  cases h with
  | c h => exact h.lens
  | agg h => intro x hx; obtain ⟨_, hr⟩ := h.left_mem x hx; exact hr.lens
  | tup => trivial

theorem there_of {f : Nat} {a : AFun} (hf : cmpFun P f = some a) : ∃ fn, P.funcs[f]? = some fn ∧ fn.body.isSome = true ∧ (fn.name == "runtime.NumGoroutine") = false := by
  unfold cmpFun at hf
  split at hf <;> try (cases hf; done)
  rename_i fn hfn
  split at hf <;> try (cases hf; done)
  rename_i c rs hbody hrs
  split at hf <;> try (cases hf; done)
  rename_i hname
  exact ⟨fn, hfn, by rw [hbody]; rfl, by simpa using hname⟩

/-- Arguments that no machine has: nothing is to be shown. -/
theorem CallSound.of_lens {f : Nat} {args : List AVal} {H H' : Heap} {v : AVal} (ht : ∃ fn, P.funcs[f]? = some fn ∧ fn.body.isSome = true ∧ (fn.name == "runtime.NumGoroutine") = false) (h : lenAs args → CallSound P f args H v H') : CallSound P f args H v H' := by
  by_cases hl : lenAs args
  · exact h hl
  · refine ⟨ht, fun B m w vs r ha => ?_⟩
    exact absurd (fun a hm => by obtain ⟨_, hr⟩ := ha.left_mem a hm; exact hr.lens) hl

/-- A function's contract out of its body. -/
theorem pure_of (hm : P.follows .mixedOrders = true) {f : Nat} {a : AFun} (hf : cmpFun P f = some a.erase) {args : List AVal} {v : AVal} (ha : closedAs args = true)
    (h : lenAs args → ∀ T, Run (progT P T) ⟨a.res, fun u E => viewA E u = some v⟩ [.code a.body] (initEnv args) []) : Pure P f args v := by
  intro H
  refine CallSound.of_lens (there_of hf) fun hl => ?_
  obtain ⟨u, E, h1, h2⟩ := wcall_of (G := P1 P f a) (f := f) (by simp [P1, progT, one]) (h hl _)
  exact (sound1 (one_ok hf) hm h1).pure ha h2 H

/-- The same, where nil may be told as an empty slice. -/
def viewW (E : Heap) (u v : AVal) : Prop := ∃ x, viewA E u = some x ∧ WkA x v
theorem pure_ofW (hm : P.follows .mixedOrders = true) {f : Nat} {a : AFun} (hf : cmpFun P f = some a.erase) {args : List AVal} {v : AVal} (ha : closedAs args = true)
    (h : lenAs args → ∀ T, Run (progT P T) ⟨a.res, fun u E => viewW E u v⟩ [.code a.body] (initEnv args) []) : Pure P f args v := by
  intro H
  refine CallSound.of_lens (there_of hf) fun hl => ?_
  obtain ⟨u, E, h1, x, h2, h3⟩ := wcall_of (G := P1 P f a) (f := f) (by simp [P1, progT, one]) (h hl _)
  exact ((sound1 (one_ok hf) hm h1).pure ha h2 H).wkr h3

/-- A function's contract at a heap. -/
theorem sound_of (hm : P.follows .mixedOrders = true) {f : Nat} {a : AFun} (hf : cmpFun P f = some a.erase) {args : List AVal} {H H' : Heap} {v : AVal}
    (h : ∀ T, Run (progT P T) ⟨a.res, fun u E => u = v ∧ E = H'⟩ [.code a.body] (initEnv args) H) : CallSound P f args H v H' := by
  obtain ⟨u, E, h1, rfl, rfl⟩ := wcall_of (G := P1 P f a) (f := f) (by simp [P1, progT, one]) (h _)
  exact sound1 (one_ok hf) hm h1

/-- A closed call that was run. -/
theorem pure_run {T : Nat → Option AFun} (hT : ∀ f a, T f = some a → cmpFun P f = some a.erase) (hm : P.follows .mixedOrders = true) (n : Nat) {f : Nat} {args : List AVal} {v v' : AVal} {E : Heap} (h : (runN T n).1 f args [] = some (v, E)) (ha : closedAs args = true) (hv : viewA E v = some v') : Pure P f args v' :=
  (sound1 hT hm ((runN_sound (G := progT P T) (fun _ _ h => h) n).1 _ _ _ _ _ h)).pure ha hv

section
variable {T : Nat → Option AFun} {p : Post} {k : List Itm} {d : Bool} {e : Env} {l : List AInstr} {dst : Option Nat}
/-- A call whose contract is known: closed arguments. -/
theorem callW_pure {f : Nat} {caps : List Cell} {args : List AVal} {v : AVal} (h : Pure P f (args ++ caps.map .c) v) (hw : WL (progT P T) p k d l (updO e dst v) H) : callW (progT P T) p k d (.c (.fn f caps)) args dst l e H :=
  callW_of ⟨v, H, .prim (h H), fun _ => List.prefix_refl _, hw⟩
/-- A call whose contract is known: arguments read as they stand, a plain answer. -/
theorem callW_view {f : Nat} {caps : List Cell} {args args' : List AVal} {v : AVal} (h : Pure P f args' v) (ha : viewAs H (args ++ caps.map .c) = some args') (hv : plainA v = true) (hw : WL (progT P T) p k d l (updO e dst v) H) : callW (progT P T) p k d (.c (.fn f caps)) args dst l e H :=
  callW_of ⟨v, H, .prim (h.view ha hv), fun _ => List.prefix_refl _, hw⟩
/-- A call whose contract at this heap is known. -/
theorem callW_at {f : Nat} {caps : List Cell} {args : List AVal} {v : AVal} {H1 : Heap} (h : CallSound P f (args ++ caps.map .c) H v H1) (hp : d = true → H <+: H1) (hw : WL (progT P T) p k d l (updO e dst v) H1) : callW (progT P T) p k d (.c (.fn f caps)) args dst l e H :=
  callW_of ⟨v, H1, .prim h, hp, hw⟩
end

/-! ### Laws -/
/-- A law's call, out of its contract. -/
theorem Pure.law {f : Nat} {args : List AVal} (h : Pure P f args (.c (.bool true))) {w : World} (hlib : LibW w) {vs : Array Value} (ha : All2 (VRA (flat fun g => g < w.heap.size) (cellsIn w)) args vs.toList) :
    Calls P f vs w fun e w' => e = .returned (.bool true) ∧ RowKit.Below w.heap.size w w' := by
  have r0 : Rel w.heap.size (flat fun g => g < w.heap.size) [] w := Rel.flat (fun _ h => h) fun g c k => ⟨hlib.lt k, hlib g c k⟩
  refine ((h []).calls w.heap.size _ w vs r0 ha).mono ?_
  rintro e w' ⟨u, m1, rfl, hst, hr⟩
  refine ⟨?_, hst.below r0⟩
  cases hr with
  | c hr => cases hr; rfl

end Go.Proofs.YtpjbjdicdjlmeaaGreatDoor.Eng

/- The engine, part 22: arguments in memory. No statement of the seat is proved here. -/
namespace Go.Proofs.YtpjbjdicdjlmeaaGreatDoor.Eng
open Go
set_option linter.unusedVariables false
set_option linter.unusedSimpArgs false

/-- Shapes of arguments: whole numbers, texts, bools, slices, structs. -/
inductive D where
  | bool
  | int (k : IntKind)
  | str
  | slc (e : D)
  | st (l : List D)

mutual
def D.size : D → Nat
  | .st l => D.sizes l
  | _ => 1
def D.sizes : List D → Nat
  | [] => 0
  | x :: r => x.size + D.sizes r
end

/-- What cells stand for, of a shape. -/
inductive TyD : D → List Cell → Prop where
  | bool (b) : TyD .bool [.bool b]
  | int {k n} : k.min ≤ n → n ≤ k.max → TyD (.int k) [.int k n]
  | str {s} : s.size ≤ maxLen → TyD .str [.str s]
  | slc {e} {rows : List (List Cell)} : rows.length ≤ maxLen → (∀ (i : Nat) r, rows[i]? = some r → TyD e r) → TyD (.slc e) [.lst e.size rows]
  | st0 : TyD (.st []) []
  | st {x l cs ds} : TyD x cs → TyD (.st l) ds → TyD (.st (x :: l)) (cs ++ ds)

theorem TyD.length {d : D} {cs : List Cell} (t : TyD d cs) : cs.length = d.size := by
  induction t with
  | st0 => simp [D.size, D.sizes]
  | st _ _ ih1 ih2 => simp only [D.size, D.sizes, List.length_append] at *; omega
  | _ => simp [D.size]

theorem closedCs_append : ∀ {a b : List Cell}, closedCs (a ++ b) = (closedCs a && closedCs b)
  | [], b => by simp [closedCs]
  | x :: a, b => by simp [closedCs, closedCs_append, Bool.and_assoc]
theorem closedR_of : ∀ {rows : List (List Cell)}, (∀ (i : Nat) r, rows[i]? = some r → closedCs r = true) → closedR rows = true
  | [], _ => rfl
  | r :: rows, h => by
    simp only [closedR, Bool.and_eq_true]
    exact ⟨h 0 r rfl, closedR_of fun i q e => h (i + 1) q (by simpa using e)⟩

theorem TyD.closed {d : D} {cs : List Cell} (t : TyD d cs) : closedCs cs = true := by
  induction t with
  | slc _ _ ih => simp [closedCs, closedC, closedR_of ih]
  | st _ _ ih1 ih2 => rw [closedCs_append, ih1, ih2]; rfl
  | _ => simp [closedCs, closedC]

mutual
/-- The shape of a type of the program: 'd' deep. -/
def descOf (P : Program) : Nat → TypeId → Option D
  | 0, _ => none
  | d + 1, t =>
    match P.underlying t with
    | some .bool => if P.cellsOf t = 1 then some .bool else none
    | some (.int k) => if P.cellsOf t = 1 then some (.int k) else none
    | some .string => if P.cellsOf t = 1 then some .str else none
    | some (.slice e) => match descOf P d e with
      | some x => if P.cellsOf e = x.size ∧ 0 < x.size ∧ P.cellsOf t = 1 then some (.slc x) else none
      | none => none
    | some (.struct fs) => match descFs P d 0 fs.toList with
      | some l => if P.cellsOf t = D.sizes l then some (.st l) else none
      | none => none
    | _ => none
def descFs (P : Program) : Nat → Nat → List Field → Option (List D)
  | _, _, [] => some []
  | 0, _, _ => none
  | d + 1, off, f :: r =>
    if f.offset = off then
      match descOf P d f.type with
      | some x => if P.cellsOf f.type = x.size then match descFs P d (off + x.size) r with | some l => some (x :: l) | none => none else none
      | none => none
    else none
end

end Go.Proofs.YtpjbjdicdjlmeaaGreatDoor.Eng

/- The engine, part 23: arguments in memory, read as closed values. No statement of the seat is proved here. -/
namespace Go.Proofs.YtpjbjdicdjlmeaaGreatDoor.Eng
open Go
set_option linter.unusedVariables false
set_option linter.unusedSimpArgs false

variable {P : Program}

theorem mapM_get {α β : Type} {f : α → Option β} : ∀ {l : List α} {r : List β}, l.mapM f = some r → ∀ {i : Nat} {a : α}, l[i]? = some a → ∃ b, f a = some b
  | [], r, h, i, a, hi => by simp at hi
  | x :: l, r, h, i, a, hi => by
    simp only [List.mapM_cons, Option.bind_eq_bind, Option.pure_def] at h
    cases hx : f x with
    | none => simp [hx] at h
    | some y =>
      cases hl : l.mapM f with
      | none => simp [hx, hl] at h
      | some ys =>
        cases i with
        | zero => simp at hi; subst hi; exact ⟨y, hx⟩
        | succ i => exact mapM_get hl (by simpa using hi)

theorem cells_get {w : World} {base : Nat} {a : Addr} {n : Nat} {vs : List Value} (h : w.cells? base a n = some vs) : vs.length = n ∧ ∀ (j : Nat) v, vs[j]? = some v → w.cell? (a.add j) = some v := by
  unfold World.cells? at h
  split at h <;> try (cases h; done)
  have key : ∀ (l : List Nat) (vs : List Value), (l.mapM fun i => w.cell? (a.add i)) = some vs → vs.length = l.length ∧ ∀ (j : Nat) v i, vs[j]? = some v → l[j]? = some i → w.cell? (a.add i) = some v := by
    intro l
    induction l with
    | nil => intro vs h; simp at h; subst h; exact ⟨rfl, fun j v i h => by simp at h⟩
    | cons x l ih =>
      intro vs h
      simp only [List.mapM_cons, Option.bind_eq_bind, Option.pure_def] at h
      cases hx : w.cell? (a.add x) with
      | none => simp [hx] at h
      | some y =>
        cases hl : l.mapM fun i => w.cell? (a.add i) with
        | none => simp [hx, hl] at h
        | some ys =>
          simp [hx, hl] at h
          subst h
          obtain ⟨h1, h2⟩ := ih ys hl
          refine ⟨by simp [h1], fun j v i hv hi => ?_⟩
          cases j with
          | zero => simp at hv hi; subst hv; subst hi; exact hx
          | succ j => exact h2 j v i (by simpa using hv) (by simpa using hi)
  obtain ⟨h1, h2⟩ := key _ _ h
  refine ⟨by simpa using h1, fun j v hv => h2 j v j hv ?_⟩
  have : j < vs.length := (List.getElem?_eq_some_iff.1 hv).1
  rw [h1] at this
  simp at this
  simp [this]

theorem cell_spot {w : World} {a : Addr} {v : Value} (h : w.cell? a = some v) : a.spot = none ∧ a.block < w.heap.size := by
  unfold World.cell? at h
  split at h
  · rename_i c t z hc
    split at h
    · cases h
    · rename_i hs
      refine ⟨by simpa using hs, (Array.getElem?_eq_some_iff.1 hc).1⟩
  · cases h

/-- All memory, as what nobody writes. -/
abbrev allOf (w : World) : LMap := flat fun g => g < w.heap.size

/-- Fields one behind the other. -/
theorem entryFields {w : World} {X : Type} {tr : TypeId → List Value → Option (DataW X × List MemPlace)} {d : Nat}
    (one : ∀ (d' : Nat) (t : TypeId) (s : D), d' ≤ d → descOf P d' t = some s → ∀ (vs : List Value) x, tr t vs = some x → ∃ cs, All2 (VR (allOf w) (cellsIn w)) cs vs ∧ TyD s cs) :
    ∀ (d' : Nat) (fs : List Field) (off : Nat) (l : List D), d' ≤ d + 1 → descFs P d' off fs = some l → ∀ (vs : List Value) ys, vs.length = off + D.sizes l →
      (fs.mapM fun f => tr f.type ((vs.drop f.offset).take (P.cellsOf f.type))) = some ys → ∃ cs, All2 (VR (allOf w) (cellsIn w)) cs (vs.drop off) ∧ TyD (.st l) cs
  | d', [], off, l, hd', hl, vs, ys, hv, hm => by
    have : l = [] := by cases d' <;> (simp [descFs] at hl; exact hl)
    subst this
    refine ⟨[], ?_, .st0⟩
    rw [List.drop_eq_nil_of_le (by simp [hv, D.sizes])]
    exact .nil
  | 0, f :: fs, off, l, hd', hl, vs, ys, hv, hm => by simp [descFs] at hl
  | d' + 1, f :: fs, off, l, hd', hl, vs, ys, hv, hm => by
    unfold descFs at hl
    split at hl <;> try (cases hl; done)
    rename_i hoff
    split at hl <;> try (cases hl; done)
    rename_i x hx
    split at hl <;> try (cases hl; done)
    rename_i hsz
    split at hl <;> try (cases hl; done)
    rename_i l' hl'
    injection hl with hl; subst hl
    simp only [List.mapM_cons, Option.bind_eq_bind, Option.pure_def] at hm
    cases h1 : tr f.type ((vs.drop f.offset).take (P.cellsOf f.type)) with
    | none => simp [h1] at hm
    | some y =>
      cases h2 : fs.mapM fun f => tr f.type ((vs.drop f.offset).take (P.cellsOf f.type)) with
      | none => simp [h1, h2] at hm
      | some ys' =>
        obtain ⟨c1, a1, t1⟩ := one d' f.type x (by omega) hx _ y h1
        obtain ⟨c2, a2, t2⟩ := entryFields one d' fs (off + x.size) l' (by omega) hl' vs ys' (by simp only [D.sizes] at hv; omega) h2
        refine ⟨c1 ++ c2, ?_, .st t1 t2⟩
        have : vs.drop off = (vs.drop f.offset).take (P.cellsOf f.type) ++ vs.drop (off + x.size) := by
          rw [hoff, hsz, ← List.drop_drop, List.take_append_drop]
        rw [this]
        exact a1.append a2

/-- What an argument reads as in memory, as closed cells. -/
theorem entry {w : World} {X : Type} {enc : TypeId × Value → X} : ∀ (fuel d : Nat) (t : TypeId) (s : D), descOf P d t = some s → ∀ (vs : List Value) x, DataW.trod enc P w 0 (fun _ => true) true fuel t vs = some x →
      ∃ cs, All2 (VR (allOf w) (cellsIn w)) cs vs ∧ TyD s cs := by
  intro fuel
  induction fuel with
  | zero => intro d t s hd vs x h; simp [DataW.trod] at h
  | succ fuel ih =>
    intro d t s hd vs x h
    cases d with
    | zero => simp [descOf] at hd
    | succ d =>
      have keep : ∀ (c : Cell) (v : Value), VR (allOf w) (cellsIn w) c v → TyD s [c] → ∃ cs, All2 (VR (allOf w) (cellsIn w)) cs [v] ∧ TyD s cs :=
        fun c v hv ht => ⟨[c], .single hv, ht⟩
      unfold descOf at hd
      unfold DataW.trod at h
      cases hu : P.underlying t with
      | none => simp [hu] at hd
      | some u =>
        cases u <;> simp only [hu] at hd <;> try (cases hd; done)
        all_goals simp only [hu] at h
        case bool =>
          split at hd <;> try (cases hd; done)
          injection hd with hd; subst hd
          rcases vs with _ | ⟨v, _ | ⟨_, _⟩⟩ <;> try (simp at h; done)
          cases v <;> try (simp at h; done)
          exact keep _ _ (.bool _) (.bool _)
        case int k =>
          split at hd <;> try (cases hd; done)
          injection hd with hd; subst hd
          rcases vs with _ | ⟨v, _ | ⟨_, _⟩⟩ <;> try (simp at h; done)
          cases v <;> try (simp at h; done)
          rename_i k' n
          simp only at h
          split at h <;> try (cases h; done)
          rename_i hk
          obtain ⟨rfl, hw⟩ := hk
          have hb : k'.min ≤ n ∧ n ≤ k'.max := by simpa [Lit.wf] using hw
          exact keep _ _ (.int _ _) (.int hb.1 hb.2)
        case string =>
          split at hd <;> try (cases hd; done)
          injection hd with hd; subst hd
          rcases vs with _ | ⟨v, _ | ⟨_, _⟩⟩ <;> try (simp at h; done)
          cases v <;> try (simp at h; done)
          simp only at h
          split at h <;> try (cases h; done)
          rename_i hs
          exact keep _ _ (.str _) (.str hs)
        case struct fs =>
          split at hd <;> try (cases hd; done)
          rename_i l hl
          split at hd <;> try (cases hd; done)
          rename_i hsz
          injection hd with hd; subst hd
          split at h <;> try (cases h; done)
          rename_i hlen
          cases hm : fs.toList.mapM fun f => DataW.trod enc P w 0 (fun _ => true) true fuel f.type ((vs.drop f.offset).take (P.cellsOf f.type)) with
          | none => rw [hm] at h; simp at h
          | some ys =>
            have := entryFields (P := P) (w := w) (tr := DataW.trod enc P w 0 (fun _ => true) true fuel) (d := d) (fun d' t s _ hs vs x hx => ih d' t s hs vs x hx) d fs.toList 0 l (by omega) hl vs ys (by omega) hm
            simpa using this
        case slice e =>
          split at hd <;> try (cases hd; done)
          rename_i y hy
          split at hd <;> try (cases hd; done)
          rename_i hsz
          injection hd with hd; subst hd
          obtain ⟨hs1, hs2, hs3⟩ := hsz
          rcases vs with _ | ⟨v, _ | ⟨_, _⟩⟩ <;> try (simp at h; done)
          cases v <;> try (simp at h; done)
          rename_i base len cap
          cases base with
          | none =>
            rcases len with _ | len <;> rcases cap with _ | cap <;> try (simp at h; done)
            exact keep _ _ .lstN (.slc (Nat.zero_le _) fun i r e => by simp at e)
          | some a =>
            simp only at h
            split at h <;> try (cases h; done)
            rename_i hcap
            obtain ⟨_, hc1, hc2⟩ := hcap
            cases hm : (List.range len).mapM fun i => (w.cells? 0 (a.add (i * P.cellsOf e)) (P.cellsOf e)).bind (DataW.trod enc P w 0 (fun _ => true) true fuel e) with
            | none => simp [hm] at h
            | some elems =>
              have each : ∀ i, ∃ cs : List Cell, i < len → ∃ us, w.cells? 0 (a.add (i * P.cellsOf e)) (P.cellsOf e) = some us ∧ All2 (VR (allOf w) (cellsIn w)) cs us ∧ TyD y cs := by
                intro i
                by_cases hi : i < len
                · obtain ⟨b, hb⟩ := mapM_get hm (i := i) (a := i) (by simp [hi])
                  cases hus : w.cells? 0 (a.add (i * P.cellsOf e)) (P.cellsOf e) with
                  | none => simp [hus] at hb
                  | some us =>
                    simp only [hus, Option.bind_some] at hb
                    obtain ⟨cs, h1, h2⟩ := ih d e y hy us b hb
                    exact ⟨cs, fun _ => ⟨us, rfl, h1, h2⟩⟩
                · exact ⟨[], fun h => absurd h hi⟩
              obtain ⟨f, hf⟩ := Classical.skolem.1 each
              have hget : ∀ (i : Nat) r, ((List.range len).map f)[i]? = some r → i < len ∧ r = f i := by
                intro i r hr
                have hi : i < len := by have := (List.getElem?_eq_some_iff.1 hr).1; simpa using this
                simp [hi] at hr
                exact ⟨hi, hr.symm⟩
              have spot : 0 < len → a.spot = none ∧ a.block < w.heap.size := by
                intro hl
                obtain ⟨us, h1, h2, h3⟩ := hf 0 hl
                obtain ⟨k1, k2⟩ := cells_get h1
                obtain ⟨v, hv⟩ : ∃ v, us[0]? = some v := ⟨us[0]'(by omega), by simp [show 0 < us.length by omega]⟩
                have hc := k2 0 v hv
                have ha : (a.add (0 * P.cellsOf e)).add 0 = a := by simp [Addr.add]
                rw [ha] at hc
                exact cell_spot hc
              obtain ⟨g, o, sp⟩ := a
              refine keep (.lst y.size ((List.range len).map f)) _ (VR.lst' (g := g) (o := o) (vs := fun i j => (w.cell? ⟨g, o + i * y.size + j, none⟩).getD undef) (by simp) hc1 hc2 (fun hr => ?_) (fun i r hr => ?_) (fun i r j x hr hx => ?_) (fun i r j x hr hx => ?_)) (.slc (by simp; omega) fun i r hr => ?_)
              · have hl : 0 < len := by
                  rcases Nat.eq_zero_or_pos len with h0 | h0
                  · subst h0; simp at hr
                  · exact h0
                have := spot hl
                simp only at this
                obtain ⟨h1, h2⟩ := this
                subst h1
                exact ⟨rfl, h2⟩
              · obtain ⟨hi, rfl⟩ := hget i r hr
                obtain ⟨us, h1, h2, h3⟩ := hf i hi
                exact h3.length
              · obtain ⟨hi, rfl⟩ := hget i r hr
                obtain ⟨us, h1, h2, h3⟩ := hf i hi
                have hsp := (spot (by omega)).1
                simp only at hsp
                subst hsp
                obtain ⟨v, hv, hr⟩ := h2.get hx
                have := (cells_get h1).2 j v hv
                rw [addr_add, addr_add, hs1] at this
                rw [cellsIn_cell, this]
                rfl
              · obtain ⟨hi, rfl⟩ := hget i r hr
                obtain ⟨us, h1, h2, h3⟩ := hf i hi
                have hsp := (spot (by omega)).1
                simp only at hsp
                subst hsp
                obtain ⟨v, hv, hr⟩ := h2.get hx
                have := (cells_get h1).2 j v hv
                rw [addr_add, addr_add, hs1] at this
                rw [this]
                exact hr
              · obtain ⟨hi, rfl⟩ := hget i r hr
                obtain ⟨us, h1, h2, h3⟩ := hf i hi
                exact h3

/-! ### Data behind shapes -/
theorem TyD.list {α : Type} {e : D} {f : α → List Cell} (hf : ∀ cs, TyD e cs → ∃ x, cs = f x) {cs : List Cell} (h : TyD (.slc e) cs) : ∃ l : List α, cs = [.lst e.size (l.map f)] ∧ l.length ≤ maxLen := by
  cases h with
  | slc hl h =>
    rename_i rows
    have : ∀ (rows : List (List Cell)), (∀ (i : Nat) r, rows[i]? = some r → TyD e r) → ∃ l : List α, rows = l.map f := by
      intro rows
      induction rows with
      | nil => intro _; exact ⟨[], rfl⟩
      | cons r rows ih =>
        intro h
        obtain ⟨x, hx⟩ := hf r (h 0 r rfl)
        obtain ⟨l, hl⟩ := ih fun i q e => h (i + 1) q (by simpa using e)
        exact ⟨x :: l, by simp [hx, hl]⟩
    obtain ⟨l, rfl⟩ := this rows h
    exact ⟨l, rfl, by simpa using hl⟩

end Go.Proofs.YtpjbjdicdjlmeaaGreatDoor.Eng

/- The engine, part 24: heaps that grow block by block; slices that are built. No statement of the seat is proved here. -/
namespace Go.Proofs.YtpjbjdicdjlmeaaGreatDoor.Eng
open Go
set_option linter.unusedVariables false
set_option linter.unusedSimpArgs false

variable {H : Heap} {b i : Nat} {k : Blk} {r : List Cell}

theorem lt_snoc_self : (H.length < (H ++ [k]).length) = True := by simp
theorem lt_snoc_of (h : b < H.length) : (b < (H ++ [k]).length) = True := by simp; omega
theorem get_last : (H ++ [k])[H.length]? = some k := by simp
theorem get_prev (h : b < H.length) : (H ++ [k])[b]? = H[b]? := List.getElem?_append_left h
theorem row_last {sz : Nat} {rows : List (List Cell)} {o : Bool} : Heap.row (H ++ [{ sz := sz, rows := rows, own := o, live := true }]) H.length i = rows[i]? := by simp [Heap.row]
theorem row_prev (h : b < H.length) : Heap.row (H ++ [k]) b i = Heap.row H b i := by simp only [Heap.row, get_prev h]
theorem mine_last {sz : Nat} {rows : List (List Cell)} : Heap.mine (H ++ [{ sz := sz, rows := rows, own := true, live := true }]) H.length = true := by simp [Heap.mine]
theorem mine_prev (h : b < H.length) : Heap.mine (H ++ [k]) b = Heap.mine H b := by simp only [Heap.mine, get_prev h]
theorem put_last {sz : Nat} {rows : List (List Cell)} {o l : Bool} : Heap.put (H ++ [{ sz := sz, rows := rows, own := o, live := l }]) H.length i r = H ++ [{ sz := sz, rows := rows.set i r, own := o, live := l }] := by
  simp [Heap.put]
theorem put_prev (h : b < H.length) : Heap.put (H ++ [k]) b i r = Heap.put H b i r ++ [k] := by
  unfold Heap.put
  rw [get_prev h]
  cases hk : H[b]? with
  | none => rfl
  | some q => simp [List.set_append, h]
theorem put_len : (Heap.put H b i r).length = H.length := by
  unfold Heap.put
  cases hk : H[b]? <;> simp
theorem set_one {a b : List Cell} : [a].set 0 b = [b] := rfl
theorem get_one {a : List Cell} : [a][0]? = some a := rfl

/-! ### A slice that is built -/
/-- What value a slice has whose rows lie in an own block, first of all: or one without room, as long as it has none. -/
def Acc (sz : Nat) (rows : List (List Cell)) (v : AVal) (H : Heap) : Prop :=
  (rows = [] ∧ (v = .c .nilS ∨ v = .c (.zer sz))) ∨ ∃ b ext, v = .c (.slc b 0 rows.length sz false) ∧ H[b]? = some { sz := sz, rows := rows ++ ext, own := true, live := true }

variable {sz : Nat} {rows new : List (List Cell)} {v : AVal}

theorem Acc.nil : Acc sz [] (.c .nilS) H := .inl ⟨rfl, .inl rfl⟩
theorem Acc.zer : Acc sz [] (.c (.zer sz)) H := .inl ⟨rfl, .inr rfl⟩
theorem Acc.last : Acc sz rows (.c (.slc H.length 0 rows.length sz false)) (H ++ [{ sz := sz, rows := rows }]) := .inr ⟨H.length, [], rfl, by simp⟩
theorem Acc.snoc (h : Acc sz rows v H) : Acc sz rows v (H ++ [k]) := by
  rcases h with h | ⟨b, ext, h1, h2⟩
  · exact .inl h
  · exact .inr ⟨b, ext, h1, by rw [get_prev (List.getElem?_eq_some_iff.1 h2).1]; exact h2⟩
theorem Acc.len (h : Acc sz rows v H) {H' : Heap} : vLen v H' = some (.c (.int .i64 rows.length), H') := by
  rcases h with ⟨rfl, rfl | rfl⟩ | ⟨b, ext, rfl, h2⟩ <;> rfl
theorem Acc.told (h : Acc sz rows v H) (hc : closedR rows = true) : viewW H v (.c (.lst sz rows)) := by
  rcases h with ⟨rfl, rfl | rfl⟩ | ⟨b, ext, rfl, h2⟩
  · exact ⟨_, rfl, .c (.nilS _)⟩
  · exact ⟨_, rfl, .c (.zer _)⟩
  · refine ⟨.c (.lst sz rows), ?_, .same _⟩
    simp only [viewA, viewFn, viewC]
    by_cases h0 : rows.length = 0
    · have : rows = [] := List.eq_nil_of_length_eq_zero h0
      subst this; rfl
    · simp [h0, h2, hc]
/-- One append onto it. -/
theorem Acc.app (h : Acc sz rows v H) {bytes : Nat} {y : Cell} (hr : H.rowsOf y = some new) (hf : fitsSz sz y = true) (hb : (rows.length + new.length) * bytes ≤ 140737488355328) :
    ∃ v' H', vApp sz bytes v (.c y) H = some (v', H') ∧ Acc sz (rows ++ new) v' H' ∧ H.length ≤ H'.length ∧
      (∀ b, (∀ n s z q, v ≠ .c (.slc b s n q z)) → b < H.length → H'[b]? = H[b]?) := by
  rcases h with ⟨rfl, hv⟩ | ⟨b, ext, rfl, h2⟩
  · by_cases h0 : new.length = 0
    · have : new = [] := List.eq_nil_of_length_eq_zero h0
      subst this
      refine ⟨v, H, ?_, .inl ⟨rfl, hv⟩, Nat.le_refl _, fun _ _ _ => rfl⟩
      rcases hv with rfl | rfl <;> simp only [vApp, evApp, hr, hf, if_true, List.length_nil]
    · refine ⟨.c (.slc H.length 0 new.length sz false), H ++ [{ sz := sz, rows := new }], ?_, .last, by simp, fun b _ hb => get_prev hb⟩
      rcases hv with rfl | rfl <;> (simp only [vApp, evApp, hr, hf, if_true]; rw [if_neg h0, if_pos (by simpa using hb)])
  · simp only [vApp, evApp, hr, hf, if_true]
    by_cases h0 : new.length = 0
    · have : new = [] := List.eq_nil_of_length_eq_zero h0
      subst this
      exact ⟨_, H, by simp; rfl, by rw [List.append_nil]; exact .inr ⟨b, ext, rfl, h2⟩, Nat.le_refl _, fun _ _ _ => rfl⟩
    · rw [if_neg h0, if_pos ⟨trivial, hb⟩]
      simp only [h2, Bool.false_eq_true, if_false]
      rw [if_pos ⟨trivial, trivial, trivial, by simp⟩]
      refine ⟨_, _, rfl, .inr ⟨H.length, [], by rw [List.length_append], by simp⟩, by simp, fun b' hne hb' => ?_⟩
      rw [get_prev (by simpa using hb'), List.getElem?_set_ne]
      intro e; subst e; exact hne _ _ _ _ rfl

/-- One append of rows that nobody writes. -/
theorem Acc.appL (h : Acc sz rows v H) {bytes : Nat} (hb : (rows.length + new.length) * bytes ≤ 140737488355328) :
    ∃ v' H', vApp sz bytes v (.c (.lst sz new)) H = some (v', H') ∧ Acc sz (rows ++ new) v' H' := by
  obtain ⟨v', H', h1, h2, _⟩ := h.app (y := .lst sz new) rfl (by simp [fitsSz]) hb
  exact ⟨v', H', h1, h2⟩

/-- Its rows, once it is looked at. -/
theorem Acc.rowsOf (h : Acc sz rows v H) : ∃ c, v = .c c ∧ H.rowsOf c = some rows := by
  rcases h with ⟨rfl, rfl | rfl⟩ | ⟨b, ext, rfl, h2⟩
  · exact ⟨_, rfl, rfl⟩
  · exact ⟨_, rfl, rfl⟩
  · refine ⟨_, rfl, ?_⟩
    simp only [Heap.rowsOf, h2]
    by_cases h0 : rows.length = 0
    · have : rows = [] := List.eq_nil_of_length_eq_zero h0
      subst this; rfl
    · simp [h0]

/-! ### Closed rows -/
theorem closedR_map {α : Type} {f : α → List Cell} (hf : ∀ x, closedCs (f x) = true) : ∀ (l : List α), closedR (l.map f) = true
  | [] => rfl
  | x :: l => by simp [closedR, hf, closedR_map hf l]
theorem closedR_append : ∀ {a b : List (List Cell)}, closedR (a ++ b) = (closedR a && closedR b)
  | [], b => by simp [closedR]
  | x :: a, b => by simp [closedR, closedR_append, Bool.and_assoc]

/-- An int of 64 bits as the program reckons it. -/
abbrev W (n : Int) : Int := IntKind.wrap .i64 n
theorem W_of {n : Int} (h : -9223372036854775808 ≤ n ∧ n ≤ 9223372036854775807) : W n = n := wrap64 h
def I64 (n : Int) : Prop := -9223372036854775808 ≤ n ∧ n ≤ 9223372036854775807

section
variable {H : Heap} {sz : Nat} {a b c d : List Cell}
theorem mkF_lit1 (ha : closedCs a = true) : mkF H (vLit sz 1 (some [a]) H) = some (.c (.lst sz [a])) := mkF_lit rfl (by simp [closedR, ha]) (by omega)
theorem mkF_lit2 (ha : closedCs a = true) (hb : closedCs b = true) : mkF H (vLit sz 2 (some [a, b]) H) = some (.c (.lst sz [a, b])) := mkF_lit rfl (by simp [closedR, ha, hb]) (by omega)
theorem mkF_lit3 (ha : closedCs a = true) (hb : closedCs b = true) (hc : closedCs c = true) : mkF H (vLit sz 3 (some [a, b, c]) H) = some (.c (.lst sz [a, b, c])) := mkF_lit rfl (by simp [closedR, ha, hb, hc]) (by omega)
theorem mkF_lit4 (ha : closedCs a = true) (hb : closedCs b = true) (hc : closedCs c = true) (hd : closedCs d = true) : mkF H (vLit sz 4 (some [a, b, c, d]) H) = some (.c (.lst sz [a, b, c, d])) := mkF_lit rfl (by simp [closedR, ha, hb, hc, hd]) (by omega)
end

/-! ### Rows of a slice, by their places -/
theorem vIx_nat {H : Heap} {sz q : Nat} {rows : List (List Cell)} {ik : IntKind} : vIx sz (.c (.lst sz rows)) (.c (.int ik (q : Int))) H = match rows[q]? with | some r => some (.c (.fp r 0), H) | none => none := vIx_lst rfl
theorem map_at {α : Type} {f : α → List Cell} {pre rest : List α} {x : α} : ((pre ++ x :: rest).map f)[pre.length]? = some (f x) := by simp
theorem map_at' {α : Type} {f : α → List Cell} {l pre rest : List α} {x : α} (h : l = pre ++ x :: rest) : (l.map f)[pre.length]? = some (f x) := by rw [h]; exact map_at
theorem lt_at {α : Type} {f : α → List Cell} {l pre rest : List α} {x : α} (h : l = pre ++ x :: rest) : ((pre.length : Int) < ((l.map f).length : Int)) := by rw [h]; simp; omega
theorem not_lt_at {α : Type} {f : α → List Cell} {l pre : List α} (h : l = pre ++ []) : ¬ ((pre.length : Int) < ((l.map f).length : Int)) := by rw [h]; simp
theorem next_at {α : Type} {l pre rest : List α} {x : α} (h : l = pre ++ x :: rest) (hl : l.length ≤ maxLen) : IntKind.wrap .i64 ((pre.length : Int) + 1) = ((pre ++ [x]).length : Int) := by
  have : pre.length + 1 ≤ maxLen := by rw [h] at hl; simp at hl; omega
  rw [wrap64 (by unfold maxLen at this; omega)]
  simp
theorem prev_at {α : Type} {pre : List α} {x : α} (hl : (pre ++ [x]).length ≤ maxLen) : IntKind.wrap .i64 (((pre ++ [x]).length : Int) - 1) = (pre.length : Int) := by
  have : pre.length + 1 ≤ maxLen := by simpa using hl
  rw [wrap64 (by simp; unfold maxLen at this; omega)]
  simp
theorem nopos_at {α : Type} : ¬ ((0 : Int) < ((([] : List α).length : Nat) : Int)) := by simp
theorem pos_at {α : Type} {pre : List α} {x : α} : (0 : Int) < ((pre ++ [x]).length : Int) := by rw [List.length_append]; simp only [List.length_singleton]; omega

/-! ### Guards and conditions that are told apart -/
section
variable {G : Prog} {p : Post} {k : List Itm} {d : Bool} {e : Env} {H : Heap} {l : List AInstr} {dst : Option Nat}
theorem guardW_nsplit {q : Prop} [Decidable q] {o : AOp} {fz : Bool} (h1 : ¬q → stepW G p k d fz o dst l e H) (h2 : q → o.isBad = false ∧ WL G p k d l (updO e dst undefA) H) : guardW G p k d (!decide q) fz o dst l e H := by
  by_cases hq : q
  · exact .inr ⟨by simp [hq], h2 hq⟩
  · exact .inl ⟨by simp [hq], h1 hq⟩
theorem guardW_nbool {b : Bool} {o : AOp} {fz : Bool} (h1 : b = false → stepW G p k d fz o dst l e H) (h2 : b = true → o.isBad = false ∧ WL G p k d l (updO e dst undefA) H) : guardW G p k d (!b) fz o dst l e H := by
  cases b
  · exact .inl ⟨rfl, h1 rfl⟩
  · exact .inr ⟨rfl, h2 rfl⟩
theorem condW_nsplit {q : Prop} [Decidable q] {a b : ACode} (h1 : ¬q → Run G p (.code a :: k) e H) (h2 : q → Run G p (.code b :: k) e H) : condW G p k (.c (.bool (!decide q))) a b e H := by
  by_cases hq : q
  · have : (!decide q) = false := by simp [hq]
    rw [this]; exact condW_false (h2 hq)
  · have : (!decide q) = true := by simp [hq]
    rw [this]; exact condW_true (h1 hq)
theorem condW_ncases {t : Bool} {a b : ACode} (h1 : t = false → Run G p (.code a :: k) e H) (h2 : t = true → Run G p (.code b :: k) e H) : condW G p k (.c (.bool (!t))) a b e H := by
  cases t
  · exact condW_true (h1 rfl)
  · exact condW_false (h2 rfl)
end

theorem Acc.app_step {G : Prog} {p : Post} {k : List Itm} {d : Bool} {e : Env} {H : Heap} {l : List AInstr} {dst : Option Nat} {sz bytes : Nat} {rows new : List (List Cell)} {v : AVal}
    (h : Acc sz rows v H) (hb : (rows.length + new.length) * bytes ≤ 140737488355328) (hw : ∀ v' H', Acc sz (rows ++ new) v' H' → WL G p k d l (updO e dst v') H') : thenW G p k d (vApp sz bytes v (.c (.lst sz new)) H) dst l e := by
  obtain ⟨v', H', h1, h2⟩ := h.appL (new := new) hb
  exact thenW_of h1 (hw v' H' h2)

/-- The value of one that has rows. -/
theorem Acc.slc {sz : Nat} {rows : List (List Cell)} {v : AVal} {H : Heap} (h : Acc sz rows v H) (h0 : rows ≠ []) : ∃ b ext, v = .c (.slc b 0 rows.length sz false) ∧ b < H.length ∧ H[b]? = some { sz := sz, rows := rows ++ ext, own := true, live := true } := by
  rcases h with ⟨rfl, _⟩ | ⟨b, ext, rfl, h2⟩
  · exact absurd rfl h0
  · exact ⟨b, ext, rfl, (List.getElem?_eq_some_iff.1 h2).1, h2⟩
theorem row_of {H : Heap} {b i : Nat} {k : Blk} (h : H[b]? = some k) (hl : k.live = true) : Heap.row H b i = k.rows[i]? := by simp [Heap.row, h, hl]
theorem mine_of {H : Heap} {b : Nat} {k : Blk} (h : H[b]? = some k) (ho : k.own = true) (hl : k.live = true) : Heap.mine H b = true := by simp [Heap.mine, h, ho, hl]
theorem put_of {H : Heap} {b i : Nat} {k : Blk} {r : List Cell} (h : H[b]? = some k) : Heap.put H b i r = H.set b { k with rows := k.rows.set i r } := by simp [Heap.put, h]
theorem vIx_slc {H : Heap} {b n sz q : Nat} {z : Bool} {ik : IntKind} (h : q < n) : vIx sz (.c (.slc b 0 n sz z)) (.c (.int ik (q : Int))) H = some (.c (.ptr b q 0), H) := by
  simp [vIx, h]
/-- One element is written anew. -/
theorem Acc.put {sz : Nat} {rows : List (List Cell)} {H : Heap} {b i : Nat} {ext : List (List Cell)} {r : List Cell} (h : H[b]? = some { sz := sz, rows := rows ++ ext, own := true, live := true }) (hi : i < rows.length) :
    Acc sz (rows.set i r) (.c (.slc b 0 rows.length sz false)) (Heap.put H b i r) := by
  refine .inr ⟨b, ext, by simp, ?_⟩
  have hb := (List.getElem?_eq_some_iff.1 h).1
  rw [put_of h]
  simp [hb, List.set_append, hi]

/-! ### A built slice that nobody writes any more -/
mutual
theorem frz_closedC {b : Nat} {k : Blk} : ∀ {c : Cell}, closedC c = true → c.frz b k = c := by
  intro c h
  cases c with
  | slc => simp [closedC] at h
  | ptr => simp [closedC] at h
  | fn f cs => simp only [closedC] at h; simp only [Cell.frz, frz_closedCs h]
  | iface t a cs => simp only [closedC] at h; simp only [Cell.frz, frz_closedCs h]
  | _ => simp [Cell.frz]
theorem frz_closedCs {b : Nat} {k : Blk} : ∀ {cs : List Cell}, closedCs cs = true → frzs b k cs = cs
  | [], _ => rfl
  | x :: r, h => by
    simp only [closedCs, Bool.and_eq_true] at h
    simp only [frzs, frz_closedC h.1, frz_closedCs h.2]
end
mutual
theorem frz_closedA {b : Nat} {k : Blk} : ∀ {v : AVal}, closedA v = true → v.frz b k = v
  | .c x, h => by simp only [closedA] at h; simp only [AVal.frz, frz_closedC h]
  | .agg xs, h => by simp only [closedA] at h; simp only [AVal.frz, frz_closedCs h]
  | .tup xs, h => by simp only [closedA] at h; simp only [AVal.frz, frz_closedAs h]
theorem frz_closedAs {b : Nat} {k : Blk} : ∀ {vs : List AVal}, closedAs vs = true → frzAs b k vs = vs
  | [], _ => rfl
  | x :: r, h => by
    simp only [closedAs, Bool.and_eq_true] at h
    simp only [frzAs, frz_closedA h.1, frz_closedAs h.2]
end

/-- It is given up, and is a list from then on. -/
theorem Acc.fz {G : Prog} {p : Post} {k : List Itm} {e : Env} {H : Heap} {sz t : Nat} {rows : List (List Cell)} {c : ACode} (h : Acc sz rows (e t) H)
    (hw : ∀ e' H', e' t = .c (.lst sz rows) → (∀ s v, e s = v → closedA v = true → s ≠ t → e' s = v) → Run G p (.code c :: k) e' H') : Run G p (.code (.fz t c) :: k) e H := by
  rcases h with ⟨rfl, hv⟩ | ⟨b, ext, h1, h2⟩
  · have hs : ∀ y, e t = .c y → (y = .nilS ∨ y = .zer sz) → Run G p (.code (.fz t c) :: k) e H := fun y hy hz =>
      run_fz0 hy hz (hw _ _ (by simp [upd]) fun s v hv _ hst => by simp [upd, hst, hv])
    rcases hv with hv | hv
    · exact hs _ hv (.inl rfl)
    · exact hs _ hv (.inr rfl)
  · refine run_fz ⟨b, _, by rw [h1]; rfl, h2, rfl, rfl, hw _ _ ?_ fun s v hv hc _ => ?_⟩
    · rw [frzEnv_at, h1, frzA_c, frz_slc (by simp)]
      simp
    · rw [frzEnv_at, hv, frz_closedA hc]

/-- A box is given up. -/
theorem run_fzp {G : Prog} {p : Post} {k : List Itm} {e : Env} {H : Heap} {t b i f : Nat} {q : Blk} {row : List Cell} {c : ACode} (h1 : e t = .c (.ptr b i f)) (h2 : H[b]? = some q) (ho : q.own = true) (hl : q.live = true) (hr : q.rows[i]? = some row)
    (hw : ∀ e' H', e' t = .c (.fp row f) → (∀ s v, e s = v → closedA v = true → s ≠ t → e' s = v) → Run G p (.code c :: k) e' H') : Run G p (.code (.fz t c) :: k) e H := by
  refine run_fz ⟨b, q, by rw [h1]; rfl, h2, ho, hl, hw _ _ ?_ fun s v hv hc _ => ?_⟩
  · rw [frzEnv_at, h1, frzA_c, frz_ptr hr]
  · rw [frzEnv_at, hv, frz_closedA hc]

/-! ### Slices of slices -/
section
variable {sz : Nat} {e : Env} {hi lo : Opd} {H : Heap} {ik : IntKind} {q n s b : Nat} {z : Bool} {rows : List (List Cell)}
theorem bound_nat {y : Nat} (h : q ≤ y) : bound (.c (.int ik (q : Int))) y = some q := by
  simp only [bound]
  rw [if_pos (by omega)]
  simp
theorem vSl_nil_hi (h : hi.ev e = .c (.int ik 0)) : vSl sz (.c .nilS) e none (some hi) none H = some (.c .nilS, H) := by
  simp [vSl, fitsSz, evSl, boundO, h, bound, vPure]
theorem vSl_slc_0 (h : hi.ev e = .c (.int ik 0)) : vSl sz (.c (.slc b s n sz z)) e none (some hi) none H = some (.c (.slc b s 0 sz z), H) := by
  simp [vSl, fitsSz, evSl, boundO, h, bound, vPure]
theorem vSl_slc_hi (h : hi.ev e = .c (.int ik (q : Int))) (hq : q ≤ n) : vSl sz (.c (.slc b s n sz z)) e none (some hi) none H = some (.c (.slc b s q sz z), H) := by
  simp [vSl, fitsSz, evSl, boundO, h, bound_nat hq, vPure]
theorem vSl_lst_hi (h : hi.ev e = .c (.int ik (q : Int))) (hq : q ≤ rows.length) : vSl sz (.c (.lst sz rows)) e none (some hi) none H = some (.c (.lst sz (rows.take q)), H) := by
  simp [vSl, fitsSz, evSl, boundO, h, bound_nat hq, vPure]
theorem vSl_lst_lo (h : lo.ev e = .c (.int ik (q : Int))) (hq : q ≤ rows.length) : vSl sz (.c (.lst sz rows)) e (some lo) none none H = some (.c (.lst sz (rows.drop q)), H) := by
  simp only [vSl, fitsSz, evSl, boundO, h, bound_nat hq, vPure, beq_self_eq_true, if_true]
  rw [List.take_of_length_le (by simp)]
end

def resBool (r : Option (AVal × Heap)) : Option Bool := match r with | some (.c (.bool b), _) => some b | _ => none

/-- A closed call that was run: it answers a bool. -/
theorem pure_bool {P : Program} {T : Nat → Option AFun} (hT : ∀ f a, T f = some a → cmpFun P f = some a.erase) (hm : P.follows .mixedOrders = true) (n : Nat) {f : Nat} {args : List AVal} {b : Bool} (ha : closedAs args = true) (h : resBool ((runN T n).1 f args []) = some b) : Pure P f args (.c (.bool b)) := by
  unfold resBool at h
  split at h
  · rename_i b' H' hr
    injection h with h; subst h
    exact pure_run hT hm n hr ha rfl
  · cases h

theorem vLen_emp {H : Heap} {sz : Nat} : vLen (.c (.emp sz)) H = some (.c (.int .i64 0), H) := rfl

attribute [go_sem] step_loadF vLoadF_fp vLen_emp vNil evNil vCap Run_skip Run_seq Run_region Run_cond Run_block Run_blk Run_ret Run_exit Run_nil exitW_some condW_true' condW_false' popTo_code popTo_loop popTo_blk fin_eq resW_tmp resW_tmp2 resW_cell loadW_some gBool_undef WL_cons WL_nil goes_none goes_at gBool_true gBool_false guardW_true guardW_false thenW_some thenF_some updO_some updO_none upd_at opd_t opd_k opd_f AOp.isBad step_mv step_new step_bin step_binB step_un step_conv step_strId step_mkI step_ext step_lenS step_len step_cap step_fld step_chk step_pick2 step_fldV step_build step_eqS step_eqNil step_mkF step_max step_min step_load step_store step_box step_ix step_ixA step_ixV step_cpy step_clr step_app step_appZ step_appM step_make step_lit step_sl step_slS step_ixS step_b2s step_s2b step_call stepF_box stepF_lit stepF_appZ stepF_app stepF_new stepF_make vMM_two vMM2_max vMM2_min List.map_cons List.map_nil vBin_add vBin_sub vBin_mul vBin_quo vBin_rem vBin_eql vBin_neq vBin_lss vBin_leq vBin_gtr vBin_geq vBin_seql vBin_sneq vBin_slss vBin_sgtr vBinB_eq vBinB_ne vUn_not vUn_neg vConv_int vStrId_str vLenS_str vLen_nil vLen_slc vLen_lst vLen_zer vIx_nat vFld_ptr vFld_fp vChk_ptr vChk_fn vChk_fp vPick2_bool vFldV_one vFldV_agg vBuild_some vMkF_some vLoad_ptr vLoad_fp vLoadR_one vLoadR_all vLoadR_aggs vStore_ptr mkF_boxc mkF_boxa mkF_new mkF_lit0 mkF_lit1 mkF_lit2 mkF_lit3 mkF_lit4 evCaps_cons' evCaps_nil capsC_some pick_c ext_0 ext_1 Int.natCast_zero Int.lt_irrefl tt_beq tf_beq ft_beq ff_beq Bool.false_eq_true eq_self ite_true ite_false decide_eq_true_eq Bool.not_eq_true' decide_eq_false_iff_not true_and and_true Bool.not_true Bool.not_false decide_true decide_false initEnv_0 initEnv_1 initEnv_2 initEnv_3 initEnv_4 initEnv_5 initEnv_6 initEnv_7 closedA closedAs closedC closedCs closedR Bool.and_self Bool.and_true Bool.true_and List.getElem?_cons_zero List.getElem?_cons_succ List.length_cons List.length_nil Nat.zero_add List.take_succ_cons List.take_zero List.drop_succ_cons List.drop_zero Nat.le_refl AVal.cells row_last row_prev mine_last mine_prev put_last put_prev lt_snoc_self lt_snoc_of set_one get_one vStoreR List.nil_append List.append_nil List.cons_append fillA fillR List.replicate List.set_cons_zero List.set_cons_succ

end Go.Proofs.YtpjbjdicdjlmeaaGreatDoor.Eng

/- The engine, part 25: a law's arguments, as the claim's reader reads them. No statement of the seat is proved here. -/
namespace Go.Proofs.YtpjbjdicdjlmeaaGreatDoor.Eng
open Go
set_option linter.unusedVariables false
set_option linter.unusedSimpArgs false

variable {P : Program} {w : World} {X : Type} {enc : TypeId × Value → X} {t : TypeId} {v : Value} {x : DataW X} {ps : List MemPlace} {s : D}

theorem entry_c (hd : descOf P 30 t = some s) (h : DataW.Trod enc P w 0 (fun _ => true) true t v x ps) (hv : v.cells = #[v]) : ∃ c, VRA (allOf w) (cellsIn w) (.c c) v ∧ TyD s [c] := by
  obtain ⟨fuel, hf⟩ := h
  rw [hv] at hf
  obtain ⟨cs, h1, h2⟩ := entry fuel 30 t s hd [v] _ hf
  cases h1 with
  | cons a b => cases b; exact ⟨_, .c a, h2⟩

theorem entry_st {fs : Array Field} (ht : P.underlying t = some (.struct fs)) (hd : descOf P 30 t = some s) {r : Reach} {b : Nat} (hw : Value.okWide P w r b t v) (h : DataW.Trod enc P w 0 (fun _ => true) true t v x ps) : ∃ cs, VRA (allOf w) (cellsIn w) (.agg cs) v ∧ TyD s cs := by
  obtain ⟨cs, rfl, _⟩ := Go.WideShapes.okWide_struct ht hw
  obtain ⟨fuel, hf⟩ := h
  obtain ⟨ds, h1, h2⟩ := entry fuel 30 t s hd cs.toList _ hf
  exact ⟨ds, .agg h1, h2⟩

theorem entry_slc {e : TypeId} (ht : P.underlying t = some (.slice e)) (hd : descOf P 30 t = some s) {r : Reach} {b : Nat} (hw : Value.okWide P w r b t v) (h : DataW.Trod enc P w 0 (fun _ => true) true t v x ps) : ∃ c, VRA (allOf w) (cellsIn w) (.c c) v ∧ TyD s [c] := by
  obtain ⟨a, len, cap, rfl⟩ := Go.WideShapes.okWide_slice ht hw
  exact entry_c hd h rfl

/-! ### Shapes and what they stand for -/
theorem TyD.ints {k : IntKind} {c : Cell} (h : TyD (.int k) [c]) : ∃ n, c = .int k n ∧ k.min ≤ n ∧ n ≤ k.max := by
  cases h; exact ⟨_, rfl, by assumption, by assumption⟩
theorem TyD.strs {c : Cell} (h : TyD .str [c]) : ∃ s, c = .str s ∧ s.size ≤ maxLen := by
  cases h; exact ⟨_, rfl, by assumption⟩
theorem TyD.bools {c : Cell} (h : TyD .bool [c]) : ∃ b, c = .bool b := by cases h; exact ⟨_, rfl⟩

theorem TyD.one {d : D} {cs : List Cell} (hd : d.size = 1) (h : TyD d cs) : ∃ c, cs = [c] ∧ TyD d [c] := by
  have := h.length
  rw [hd] at this
  obtain ⟨c, rfl⟩ := List.length_eq_one_iff.1 this
  exact ⟨c, rfl, h⟩
theorem TyD.nilF {cs : List Cell} (h : TyD (.st []) cs) : cs = [] := by cases h; rfl
theorem TyD.consF {x : D} {l : List D} {cs : List Cell} (h : TyD (.st (x :: l)) cs) : ∃ a b, cs = a ++ b ∧ TyD x a ∧ TyD (.st l) b := by
  cases h with
  | st h1 h2 => exact ⟨_, _, rfl, h1, h2⟩
theorem TyD.consF1 {x : D} {l : List D} {cs : List Cell} (hd : x.size = 1) (h : TyD (.st (x :: l)) cs) : ∃ c b, cs = c :: b ∧ TyD x [c] ∧ TyD (.st l) b := by
  obtain ⟨a, b, rfl, h1, h2⟩ := h.consF
  obtain ⟨c, rfl, h3⟩ := h1.one hd
  exact ⟨c, b, rfl, h3, h2⟩
theorem TyD.listQ {α : Type} {e : D} {f : α → List Cell} {Q : α → Prop} (hf : ∀ cs, TyD e cs → ∃ x, cs = f x ∧ Q x) {cs : List Cell} (h : TyD (.slc e) cs) : ∃ l : List α, cs = [.lst e.size (l.map f)] ∧ l.length ≤ maxLen ∧ ∀ x ∈ l, Q x := by
  cases h with
  | slc hl h =>
    rename_i rows
    have : ∀ (rows : List (List Cell)), (∀ (i : Nat) r, rows[i]? = some r → TyD e r) → ∃ l : List α, rows = l.map f ∧ ∀ x ∈ l, Q x := by
      intro rows
      induction rows with
      | nil => intro _; exact ⟨[], rfl, by simp⟩
      | cons r rows ih =>
        intro h
        obtain ⟨x, hx, hq⟩ := hf r (h 0 r rfl)
        obtain ⟨l, hl, hqs⟩ := ih fun i q e => h (i + 1) q (by simpa using e)
        exact ⟨x :: l, by simp [hx, hl], by simpa using ⟨hq, hqs⟩⟩
    obtain ⟨l, rfl, hq⟩ := this rows h
    exact ⟨l, rfl, by simpa using hl, hq⟩

end Go.Proofs.YtpjbjdicdjlmeaaGreatDoor.Eng

/- The engine, part 27: boxes at the head of the heap, and the last block behind such. No statement of the seat is proved here. -/
namespace Go.Proofs.YtpjbjdicdjlmeaaGreatDoor.Eng
open Go
set_option linter.unusedVariables false
section
variable {H : Heap} {k k0 k1 k2 k3 k4 k5 k6 k7 : Blk} {sz : Nat} {r q : List Cell} {ow lv : Bool} {rows : List (List Cell)} {i : Nat}
theorem row_h0 : Heap.row ({ sz := sz, rows := [r], own := ow, live := true } :: H) 0 0 = some r := rfl
theorem mine_h0 : Heap.mine ({ sz := sz, rows := rows, own := true, live := true } :: H) 0 = true := rfl
theorem put_h0 : Heap.put ({ sz := sz, rows := [r], own := ow, live := lv } :: H) 0 0 q = { sz := sz, rows := [q], own := ow, live := lv } :: H := rfl
theorem row_h1 : Heap.row (k0 :: { sz := sz, rows := [r], own := ow, live := true } :: H) 1 0 = some r := rfl
theorem mine_h1 : Heap.mine (k0 :: { sz := sz, rows := rows, own := true, live := true } :: H) 1 = true := rfl
theorem put_h1 : Heap.put (k0 :: { sz := sz, rows := [r], own := ow, live := lv } :: H) 1 0 q = k0 :: { sz := sz, rows := [q], own := ow, live := lv } :: H := rfl
theorem row_h2 : Heap.row (k0 :: k1 :: { sz := sz, rows := [r], own := ow, live := true } :: H) 2 0 = some r := rfl
theorem mine_h2 : Heap.mine (k0 :: k1 :: { sz := sz, rows := rows, own := true, live := true } :: H) 2 = true := rfl
theorem put_h2 : Heap.put (k0 :: k1 :: { sz := sz, rows := [r], own := ow, live := lv } :: H) 2 0 q = k0 :: k1 :: { sz := sz, rows := [q], own := ow, live := lv } :: H := rfl
theorem row_h3 : Heap.row (k0 :: k1 :: k2 :: { sz := sz, rows := [r], own := ow, live := true } :: H) 3 0 = some r := rfl
theorem mine_h3 : Heap.mine (k0 :: k1 :: k2 :: { sz := sz, rows := rows, own := true, live := true } :: H) 3 = true := rfl
theorem put_h3 : Heap.put (k0 :: k1 :: k2 :: { sz := sz, rows := [r], own := ow, live := lv } :: H) 3 0 q = k0 :: k1 :: k2 :: { sz := sz, rows := [q], own := ow, live := lv } :: H := rfl
theorem row_h4 : Heap.row (k0 :: k1 :: k2 :: k3 :: { sz := sz, rows := [r], own := ow, live := true } :: H) 4 0 = some r := rfl
theorem mine_h4 : Heap.mine (k0 :: k1 :: k2 :: k3 :: { sz := sz, rows := rows, own := true, live := true } :: H) 4 = true := rfl
theorem put_h4 : Heap.put (k0 :: k1 :: k2 :: k3 :: { sz := sz, rows := [r], own := ow, live := lv } :: H) 4 0 q = k0 :: k1 :: k2 :: k3 :: { sz := sz, rows := [q], own := ow, live := lv } :: H := rfl
theorem row_h5 : Heap.row (k0 :: k1 :: k2 :: k3 :: k4 :: { sz := sz, rows := [r], own := ow, live := true } :: H) 5 0 = some r := rfl
theorem mine_h5 : Heap.mine (k0 :: k1 :: k2 :: k3 :: k4 :: { sz := sz, rows := rows, own := true, live := true } :: H) 5 = true := rfl
theorem put_h5 : Heap.put (k0 :: k1 :: k2 :: k3 :: k4 :: { sz := sz, rows := [r], own := ow, live := lv } :: H) 5 0 q = k0 :: k1 :: k2 :: k3 :: k4 :: { sz := sz, rows := [q], own := ow, live := lv } :: H := rfl
theorem row_h6 : Heap.row (k0 :: k1 :: k2 :: k3 :: k4 :: k5 :: { sz := sz, rows := [r], own := ow, live := true } :: H) 6 0 = some r := rfl
theorem mine_h6 : Heap.mine (k0 :: k1 :: k2 :: k3 :: k4 :: k5 :: { sz := sz, rows := rows, own := true, live := true } :: H) 6 = true := rfl
theorem put_h6 : Heap.put (k0 :: k1 :: k2 :: k3 :: k4 :: k5 :: { sz := sz, rows := [r], own := ow, live := lv } :: H) 6 0 q = k0 :: k1 :: k2 :: k3 :: k4 :: k5 :: { sz := sz, rows := [q], own := ow, live := lv } :: H := rfl
theorem row_h7 : Heap.row (k0 :: k1 :: k2 :: k3 :: k4 :: k5 :: k6 :: { sz := sz, rows := [r], own := ow, live := true } :: H) 7 0 = some r := rfl
theorem mine_h7 : Heap.mine (k0 :: k1 :: k2 :: k3 :: k4 :: k5 :: k6 :: { sz := sz, rows := rows, own := true, live := true } :: H) 7 = true := rfl
theorem put_h7 : Heap.put (k0 :: k1 :: k2 :: k3 :: k4 :: k5 :: k6 :: { sz := sz, rows := [r], own := ow, live := lv } :: H) 7 0 q = k0 :: k1 :: k2 :: k3 :: k4 :: k5 :: k6 :: { sz := sz, rows := [q], own := ow, live := lv } :: H := rfl
theorem row_t1 : Heap.row (k0 :: (H ++ [{ sz := sz, rows := rows, own := ow, live := true }])) (H.length + 1) i = rows[i]? := by simp [Heap.row]
theorem mine_t1 : Heap.mine (k0 :: (H ++ [{ sz := sz, rows := rows, own := true, live := true }])) (H.length + 1) = true := by simp [Heap.mine]
theorem put_t1 : Heap.put (k0 :: (H ++ [{ sz := sz, rows := rows, own := ow, live := lv }])) (H.length + 1) i r = k0 :: (H ++ [{ sz := sz, rows := rows.set i r, own := ow, live := lv }]) := by simp [Heap.put]
theorem row_t2 : Heap.row (k0 :: k1 :: (H ++ [{ sz := sz, rows := rows, own := ow, live := true }])) (H.length + 1 + 1) i = rows[i]? := by simp [Heap.row]
theorem mine_t2 : Heap.mine (k0 :: k1 :: (H ++ [{ sz := sz, rows := rows, own := true, live := true }])) (H.length + 1 + 1) = true := by simp [Heap.mine]
theorem put_t2 : Heap.put (k0 :: k1 :: (H ++ [{ sz := sz, rows := rows, own := ow, live := lv }])) (H.length + 1 + 1) i r = k0 :: k1 :: (H ++ [{ sz := sz, rows := rows.set i r, own := ow, live := lv }]) := by simp [Heap.put]
theorem row_t3 : Heap.row (k0 :: k1 :: k2 :: (H ++ [{ sz := sz, rows := rows, own := ow, live := true }])) (H.length + 1 + 1 + 1) i = rows[i]? := by simp [Heap.row]
theorem mine_t3 : Heap.mine (k0 :: k1 :: k2 :: (H ++ [{ sz := sz, rows := rows, own := true, live := true }])) (H.length + 1 + 1 + 1) = true := by simp [Heap.mine]
theorem put_t3 : Heap.put (k0 :: k1 :: k2 :: (H ++ [{ sz := sz, rows := rows, own := ow, live := lv }])) (H.length + 1 + 1 + 1) i r = k0 :: k1 :: k2 :: (H ++ [{ sz := sz, rows := rows.set i r, own := ow, live := lv }]) := by simp [Heap.put]
theorem row_t4 : Heap.row (k0 :: k1 :: k2 :: k3 :: (H ++ [{ sz := sz, rows := rows, own := ow, live := true }])) (H.length + 1 + 1 + 1 + 1) i = rows[i]? := by simp [Heap.row]
theorem mine_t4 : Heap.mine (k0 :: k1 :: k2 :: k3 :: (H ++ [{ sz := sz, rows := rows, own := true, live := true }])) (H.length + 1 + 1 + 1 + 1) = true := by simp [Heap.mine]
theorem put_t4 : Heap.put (k0 :: k1 :: k2 :: k3 :: (H ++ [{ sz := sz, rows := rows, own := ow, live := lv }])) (H.length + 1 + 1 + 1 + 1) i r = k0 :: k1 :: k2 :: k3 :: (H ++ [{ sz := sz, rows := rows.set i r, own := ow, live := lv }]) := by simp [Heap.put]
theorem row_t5 : Heap.row (k0 :: k1 :: k2 :: k3 :: k4 :: (H ++ [{ sz := sz, rows := rows, own := ow, live := true }])) (H.length + 1 + 1 + 1 + 1 + 1) i = rows[i]? := by simp [Heap.row]
theorem mine_t5 : Heap.mine (k0 :: k1 :: k2 :: k3 :: k4 :: (H ++ [{ sz := sz, rows := rows, own := true, live := true }])) (H.length + 1 + 1 + 1 + 1 + 1) = true := by simp [Heap.mine]
theorem put_t5 : Heap.put (k0 :: k1 :: k2 :: k3 :: k4 :: (H ++ [{ sz := sz, rows := rows, own := ow, live := lv }])) (H.length + 1 + 1 + 1 + 1 + 1) i r = k0 :: k1 :: k2 :: k3 :: k4 :: (H ++ [{ sz := sz, rows := rows.set i r, own := ow, live := lv }]) := by simp [Heap.put]
theorem row_t6 : Heap.row (k0 :: k1 :: k2 :: k3 :: k4 :: k5 :: (H ++ [{ sz := sz, rows := rows, own := ow, live := true }])) (H.length + 1 + 1 + 1 + 1 + 1 + 1) i = rows[i]? := by simp [Heap.row]
theorem mine_t6 : Heap.mine (k0 :: k1 :: k2 :: k3 :: k4 :: k5 :: (H ++ [{ sz := sz, rows := rows, own := true, live := true }])) (H.length + 1 + 1 + 1 + 1 + 1 + 1) = true := by simp [Heap.mine]
theorem put_t6 : Heap.put (k0 :: k1 :: k2 :: k3 :: k4 :: k5 :: (H ++ [{ sz := sz, rows := rows, own := ow, live := lv }])) (H.length + 1 + 1 + 1 + 1 + 1 + 1) i r = k0 :: k1 :: k2 :: k3 :: k4 :: k5 :: (H ++ [{ sz := sz, rows := rows.set i r, own := ow, live := lv }]) := by simp [Heap.put]
theorem row_t7 : Heap.row (k0 :: k1 :: k2 :: k3 :: k4 :: k5 :: k6 :: (H ++ [{ sz := sz, rows := rows, own := ow, live := true }])) (H.length + 1 + 1 + 1 + 1 + 1 + 1 + 1) i = rows[i]? := by simp [Heap.row]
theorem mine_t7 : Heap.mine (k0 :: k1 :: k2 :: k3 :: k4 :: k5 :: k6 :: (H ++ [{ sz := sz, rows := rows, own := true, live := true }])) (H.length + 1 + 1 + 1 + 1 + 1 + 1 + 1) = true := by simp [Heap.mine]
theorem put_t7 : Heap.put (k0 :: k1 :: k2 :: k3 :: k4 :: k5 :: k6 :: (H ++ [{ sz := sz, rows := rows, own := ow, live := lv }])) (H.length + 1 + 1 + 1 + 1 + 1 + 1 + 1) i r = k0 :: k1 :: k2 :: k3 :: k4 :: k5 :: k6 :: (H ++ [{ sz := sz, rows := rows.set i r, own := ow, live := lv }]) := by simp [Heap.put]
end

attribute [go_sem] row_h0 mine_h0 put_h0 row_h1 mine_h1 put_h1 row_h2 mine_h2 put_h2 row_h3 mine_h3 put_h3 row_h4 mine_h4 put_h4 row_h5 mine_h5 put_h5 row_h6 mine_h6 put_h6 row_h7 mine_h7 put_h7 row_t1 mine_t1 put_t1 row_t2 mine_t2 put_t2 row_t3 mine_t3 put_t3 row_t4 mine_t4 put_t4 row_t5 mine_t5 put_t5 row_t6 mine_t6 put_t6 row_t7 mine_t7 put_t7

/-! ### A built slice behind boxes -/
section
variable {G : Prog} {p : Post} {k : List Itm} {d : Bool} {e : Env} {H : Heap} {l : List AInstr} {dst : Option Nat} {sz bytes : Nat} {rows new : List (List Cell)} {v : AVal} {k0 k1 k2 k3 : Blk}
theorem Acc.noblk {b : Nat} {B : Blk} (h : Acc sz rows v H) (hb : H[b]? = some B) (hs : B.sz ≠ sz) : ∀ n s z q, v ≠ .c (.slc b s n q z) := by
  rintro n s z q rfl
  rcases h with ⟨_, h | h⟩ | ⟨b', ext, h, h2⟩
  · cases h
  · cases h
  · injection h with h
    injection h with h1
    subst h1
    rw [hb] at h2
    injection h2 with h2
    subst h2
    exact hs rfl

theorem Acc.app_h1 (h : Acc sz rows v (k0 :: H)) (h0 : k0.sz ≠ sz) (hb : (rows.length + new.length) * bytes ≤ 140737488355328) (hw : ∀ v' H', Acc sz (rows ++ new) v' (k0 :: H') → WL G p k d l (updO e dst v') (k0 :: H')) : thenW G p k d (vApp sz bytes v (.c (.lst sz new)) (k0 :: H)) dst l e := by
  obtain ⟨v', H', a1, a2, a3, a4⟩ := h.app (y := .lst sz new) rfl (by simp [fitsSz]) hb
  have g0 : H'[0]? = some k0 := by rw [a4 0 (h.noblk (b := 0) rfl h0) (by simp)]; rfl
  obtain ⟨H2, rfl⟩ : ∃ H2, H' = k0 :: H2 := by
    match H', g0 with
    | x0 :: R, g0 => exact ⟨R, by simp at g0; simp [*]⟩
  exact thenW_of a1 (hw v' H2 a2)
theorem Acc.set_h1_0 {B : Blk} (h : Acc sz rows v (k0 :: H)) (hs : k0.sz ≠ sz) : Acc sz rows v (B :: H) := by
  rcases h with h | ⟨b, ext, h1, h2⟩
  · exact .inl h
  · refine .inr ⟨b, ext, h1, ?_⟩
    by_cases hb : b = 0
    · subst hb; simp at h2; subst h2; exact (hs rfl).elim
    · have e : B :: H = (k0 :: H).set 0 B := rfl
      rw [e, List.getElem?_set_ne (Ne.symm hb)]; exact h2
theorem Acc.snoc_h1 {B : Blk} (h : Acc sz rows v (k0 :: H)) : Acc sz rows v (k0 :: (H ++ [B])) := h.snoc (k := B)
theorem Acc.app_h2 (h : Acc sz rows v (k0 :: k1 :: H)) (h0 : k0.sz ≠ sz) (h1 : k1.sz ≠ sz) (hb : (rows.length + new.length) * bytes ≤ 140737488355328) (hw : ∀ v' H', Acc sz (rows ++ new) v' (k0 :: k1 :: H') → WL G p k d l (updO e dst v') (k0 :: k1 :: H')) : thenW G p k d (vApp sz bytes v (.c (.lst sz new)) (k0 :: k1 :: H)) dst l e := by
  obtain ⟨v', H', a1, a2, a3, a4⟩ := h.app (y := .lst sz new) rfl (by simp [fitsSz]) hb
  have g0 : H'[0]? = some k0 := by rw [a4 0 (h.noblk (b := 0) rfl h0) (by simp)]; rfl
  have g1 : H'[1]? = some k1 := by rw [a4 1 (h.noblk (b := 1) rfl h1) (by simp)]; rfl
  obtain ⟨H2, rfl⟩ : ∃ H2, H' = k0 :: k1 :: H2 := by
    match H', g0, g1 with
    | x0 :: x1 :: R, g0, g1 => exact ⟨R, by simp at g0 g1; simp [*]⟩
  exact thenW_of a1 (hw v' H2 a2)
theorem Acc.set_h2_0 {B : Blk} (h : Acc sz rows v (k0 :: k1 :: H)) (hs : k0.sz ≠ sz) : Acc sz rows v (B :: k1 :: H) := by
  rcases h with h | ⟨b, ext, h1, h2⟩
  · exact .inl h
  · refine .inr ⟨b, ext, h1, ?_⟩
    by_cases hb : b = 0
    · subst hb; simp at h2; subst h2; exact (hs rfl).elim
    · have e : B :: k1 :: H = (k0 :: k1 :: H).set 0 B := rfl
      rw [e, List.getElem?_set_ne (Ne.symm hb)]; exact h2
theorem Acc.set_h2_1 {B : Blk} (h : Acc sz rows v (k0 :: k1 :: H)) (hs : k1.sz ≠ sz) : Acc sz rows v (k0 :: B :: H) := by
  rcases h with h | ⟨b, ext, h1, h2⟩
  · exact .inl h
  · refine .inr ⟨b, ext, h1, ?_⟩
    by_cases hb : b = 1
    · subst hb; simp at h2; subst h2; exact (hs rfl).elim
    · have e : k0 :: B :: H = (k0 :: k1 :: H).set 1 B := rfl
      rw [e, List.getElem?_set_ne (Ne.symm hb)]; exact h2
theorem Acc.snoc_h2 {B : Blk} (h : Acc sz rows v (k0 :: k1 :: H)) : Acc sz rows v (k0 :: k1 :: (H ++ [B])) := h.snoc (k := B)
theorem Acc.app_h3 (h : Acc sz rows v (k0 :: k1 :: k2 :: H)) (h0 : k0.sz ≠ sz) (h1 : k1.sz ≠ sz) (h2 : k2.sz ≠ sz) (hb : (rows.length + new.length) * bytes ≤ 140737488355328) (hw : ∀ v' H', Acc sz (rows ++ new) v' (k0 :: k1 :: k2 :: H') → WL G p k d l (updO e dst v') (k0 :: k1 :: k2 :: H')) : thenW G p k d (vApp sz bytes v (.c (.lst sz new)) (k0 :: k1 :: k2 :: H)) dst l e := by
  obtain ⟨v', H', a1, a2, a3, a4⟩ := h.app (y := .lst sz new) rfl (by simp [fitsSz]) hb
  have g0 : H'[0]? = some k0 := by rw [a4 0 (h.noblk (b := 0) rfl h0) (by simp)]; rfl
  have g1 : H'[1]? = some k1 := by rw [a4 1 (h.noblk (b := 1) rfl h1) (by simp)]; rfl
  have g2 : H'[2]? = some k2 := by rw [a4 2 (h.noblk (b := 2) rfl h2) (by simp)]; rfl
  obtain ⟨H2, rfl⟩ : ∃ H2, H' = k0 :: k1 :: k2 :: H2 := by
    match H', g0, g1, g2 with
    | x0 :: x1 :: x2 :: R, g0, g1, g2 => exact ⟨R, by simp at g0 g1 g2; simp [*]⟩
  exact thenW_of a1 (hw v' H2 a2)
theorem Acc.set_h3_0 {B : Blk} (h : Acc sz rows v (k0 :: k1 :: k2 :: H)) (hs : k0.sz ≠ sz) : Acc sz rows v (B :: k1 :: k2 :: H) := by
  rcases h with h | ⟨b, ext, h1, h2⟩
  · exact .inl h
  · refine .inr ⟨b, ext, h1, ?_⟩
    by_cases hb : b = 0
    · subst hb; simp at h2; subst h2; exact (hs rfl).elim
    · have e : B :: k1 :: k2 :: H = (k0 :: k1 :: k2 :: H).set 0 B := rfl
      rw [e, List.getElem?_set_ne (Ne.symm hb)]; exact h2
theorem Acc.set_h3_1 {B : Blk} (h : Acc sz rows v (k0 :: k1 :: k2 :: H)) (hs : k1.sz ≠ sz) : Acc sz rows v (k0 :: B :: k2 :: H) := by
  rcases h with h | ⟨b, ext, h1, h2⟩
  · exact .inl h
  · refine .inr ⟨b, ext, h1, ?_⟩
    by_cases hb : b = 1
    · subst hb; simp at h2; subst h2; exact (hs rfl).elim
    · have e : k0 :: B :: k2 :: H = (k0 :: k1 :: k2 :: H).set 1 B := rfl
      rw [e, List.getElem?_set_ne (Ne.symm hb)]; exact h2
theorem Acc.set_h3_2 {B : Blk} (h : Acc sz rows v (k0 :: k1 :: k2 :: H)) (hs : k2.sz ≠ sz) : Acc sz rows v (k0 :: k1 :: B :: H) := by
  rcases h with h | ⟨b, ext, h1, h2⟩
  · exact .inl h
  · refine .inr ⟨b, ext, h1, ?_⟩
    by_cases hb : b = 2
    · subst hb; simp at h2; subst h2; exact (hs rfl).elim
    · have e : k0 :: k1 :: B :: H = (k0 :: k1 :: k2 :: H).set 2 B := rfl
      rw [e, List.getElem?_set_ne (Ne.symm hb)]; exact h2
theorem Acc.snoc_h3 {B : Blk} (h : Acc sz rows v (k0 :: k1 :: k2 :: H)) : Acc sz rows v (k0 :: k1 :: k2 :: (H ++ [B])) := h.snoc (k := B)
theorem Acc.app_h4 (h : Acc sz rows v (k0 :: k1 :: k2 :: k3 :: H)) (h0 : k0.sz ≠ sz) (h1 : k1.sz ≠ sz) (h2 : k2.sz ≠ sz) (h3 : k3.sz ≠ sz) (hb : (rows.length + new.length) * bytes ≤ 140737488355328) (hw : ∀ v' H', Acc sz (rows ++ new) v' (k0 :: k1 :: k2 :: k3 :: H') → WL G p k d l (updO e dst v') (k0 :: k1 :: k2 :: k3 :: H')) : thenW G p k d (vApp sz bytes v (.c (.lst sz new)) (k0 :: k1 :: k2 :: k3 :: H)) dst l e := by
  obtain ⟨v', H', a1, a2, a3, a4⟩ := h.app (y := .lst sz new) rfl (by simp [fitsSz]) hb
  have g0 : H'[0]? = some k0 := by rw [a4 0 (h.noblk (b := 0) rfl h0) (by simp)]; rfl
  have g1 : H'[1]? = some k1 := by rw [a4 1 (h.noblk (b := 1) rfl h1) (by simp)]; rfl
  have g2 : H'[2]? = some k2 := by rw [a4 2 (h.noblk (b := 2) rfl h2) (by simp)]; rfl
  have g3 : H'[3]? = some k3 := by rw [a4 3 (h.noblk (b := 3) rfl h3) (by simp)]; rfl
  obtain ⟨H2, rfl⟩ : ∃ H2, H' = k0 :: k1 :: k2 :: k3 :: H2 := by
    match H', g0, g1, g2, g3 with
    | x0 :: x1 :: x2 :: x3 :: R, g0, g1, g2, g3 => exact ⟨R, by simp at g0 g1 g2 g3; simp [*]⟩
  exact thenW_of a1 (hw v' H2 a2)
theorem Acc.set_h4_0 {B : Blk} (h : Acc sz rows v (k0 :: k1 :: k2 :: k3 :: H)) (hs : k0.sz ≠ sz) : Acc sz rows v (B :: k1 :: k2 :: k3 :: H) := by
  rcases h with h | ⟨b, ext, h1, h2⟩
  · exact .inl h
  · refine .inr ⟨b, ext, h1, ?_⟩
    by_cases hb : b = 0
    · subst hb; simp at h2; subst h2; exact (hs rfl).elim
    · have e : B :: k1 :: k2 :: k3 :: H = (k0 :: k1 :: k2 :: k3 :: H).set 0 B := rfl
      rw [e, List.getElem?_set_ne (Ne.symm hb)]; exact h2
theorem Acc.set_h4_1 {B : Blk} (h : Acc sz rows v (k0 :: k1 :: k2 :: k3 :: H)) (hs : k1.sz ≠ sz) : Acc sz rows v (k0 :: B :: k2 :: k3 :: H) := by
  rcases h with h | ⟨b, ext, h1, h2⟩
  · exact .inl h
  · refine .inr ⟨b, ext, h1, ?_⟩
    by_cases hb : b = 1
    · subst hb; simp at h2; subst h2; exact (hs rfl).elim
    · have e : k0 :: B :: k2 :: k3 :: H = (k0 :: k1 :: k2 :: k3 :: H).set 1 B := rfl
      rw [e, List.getElem?_set_ne (Ne.symm hb)]; exact h2
theorem Acc.set_h4_2 {B : Blk} (h : Acc sz rows v (k0 :: k1 :: k2 :: k3 :: H)) (hs : k2.sz ≠ sz) : Acc sz rows v (k0 :: k1 :: B :: k3 :: H) := by
  rcases h with h | ⟨b, ext, h1, h2⟩
  · exact .inl h
  · refine .inr ⟨b, ext, h1, ?_⟩
    by_cases hb : b = 2
    · subst hb; simp at h2; subst h2; exact (hs rfl).elim
    · have e : k0 :: k1 :: B :: k3 :: H = (k0 :: k1 :: k2 :: k3 :: H).set 2 B := rfl
      rw [e, List.getElem?_set_ne (Ne.symm hb)]; exact h2
theorem Acc.set_h4_3 {B : Blk} (h : Acc sz rows v (k0 :: k1 :: k2 :: k3 :: H)) (hs : k3.sz ≠ sz) : Acc sz rows v (k0 :: k1 :: k2 :: B :: H) := by
  rcases h with h | ⟨b, ext, h1, h2⟩
  · exact .inl h
  · refine .inr ⟨b, ext, h1, ?_⟩
    by_cases hb : b = 3
    · subst hb; simp at h2; subst h2; exact (hs rfl).elim
    · have e : k0 :: k1 :: k2 :: B :: H = (k0 :: k1 :: k2 :: k3 :: H).set 3 B := rfl
      rw [e, List.getElem?_set_ne (Ne.symm hb)]; exact h2
theorem Acc.snoc_h4 {B : Blk} (h : Acc sz rows v (k0 :: k1 :: k2 :: k3 :: H)) : Acc sz rows v (k0 :: k1 :: k2 :: k3 :: (H ++ [B])) := h.snoc (k := B)
end

end Go.Proofs.YtpjbjdicdjlmeaaGreatDoor.Eng

/- What the program's records are, as cells. No statement of the seat is proved here. -/
namespace Go.Proofs.YtpjbjdicdjlmeaaGreatDoor.Eng
open Go
set_option linter.unusedVariables false
set_option linter.unusedSimpArgs false

structure Rn where
  dev : Int
  frm : Int
  to : Int
  deriving DecidableEq, Inhabited
structure Dot where
  dev : Int
  n : Int
  deriving DecidableEq, Inhabited
structure Fact where
  dev : Int
  n : Int
  key : ByteArray
  kind : Int
  item : ByteArray
  num : Int
  deriving DecidableEq, Inhabited

def Rn.cells (r : Rn) : List Cell := [.int .i64 r.dev, .int .i64 r.frm, .int .i64 r.to]
def Dot.cells (d : Dot) : List Cell := [.int .i64 d.dev, .int .i64 d.n]
def Fact.cells (f : Fact) : List Cell := [.int .i64 f.dev, .int .i64 f.n, .str f.key, .int .i64 f.kind, .str f.item, .int .i64 f.num]
theorem Rn.closed (r : Rn) : closedCs r.cells = true := rfl
theorem Dot.closed (r : Dot) : closedCs r.cells = true := rfl
theorem Fact.closed (r : Fact) : closedCs r.cells = true := rfl
def runsC (l : List Rn) : Cell := .lst 3 (l.map Rn.cells)
def dotsC (l : List Dot) : Cell := .lst 2 (l.map Dot.cells)
def factsC (l : List Fact) : Cell := .lst 6 (l.map Fact.cells)
theorem closed_runs (l : List Rn) : closedR (l.map Rn.cells) = true := closedR_map Rn.closed l
theorem closed_dots (l : List Dot) : closedR (l.map Dot.cells) = true := closedR_map Dot.closed l
theorem closed_facts (l : List Fact) : closedR (l.map Fact.cells) = true := closedR_map Fact.closed l
theorem closed_runsC (l : List Rn) : closedC (runsC l) = true := closed_runs l
theorem closed_dotsC (l : List Dot) : closedC (dotsC l) = true := closed_dots l
theorem closed_factsC (l : List Fact) : closedC (factsC l) = true := closed_facts l
structure State where
  seen : List Rn
  facts : List Fact
  deriving DecidableEq, Inhabited
def State.cells (s : State) : List Cell := [runsC s.seen, factsC s.facts]
theorem State.closed (s : State) : closedCs s.cells = true := by simp [State.cells, closedCs, closed_runsC, closed_factsC]
def statesC (l : List State) : Cell := .lst 2 (l.map State.cells)
theorem closed_statesC (l : List State) : closedC (statesC l) = true := closedR_map State.closed l

abbrev iC (n : Int) : AVal := .c (.int .i64 n)
abbrev bC (b : Bool) : AVal := .c (.bool b)
abbrev sC (s : ByteArray) : AVal := .c (.str s)

/-! ### Arguments -/
def in64 (n : Int) : Prop := IntKind.min .i64 ≤ n ∧ n ≤ IntKind.max .i64
theorem in64.of {n : Int} (h : in64 n) : -9223372036854775808 ≤ n ∧ n ≤ 9223372036854775807 := h
def Rn.ok (r : Rn) : Prop := in64 r.dev ∧ in64 r.frm ∧ in64 r.to
def Dot.ok (r : Dot) : Prop := in64 r.dev ∧ in64 r.n
def Fact.ok (f : Fact) : Prop := in64 f.dev ∧ in64 f.n ∧ f.key.size ≤ maxLen ∧ in64 f.kind ∧ f.item.size ≤ maxLen ∧ in64 f.num
def State.ok (s : State) : Prop := (∀ r ∈ s.seen, r.ok) ∧ (∀ f ∈ s.facts, f.ok)
def dRn : D := .st [.int .i64, .int .i64, .int .i64]
def dDot : D := .st [.int .i64, .int .i64]
def dFact : D := .st [dDot, .str, .int .i64, .str, .int .i64]
def dState : D := .st [.slc dRn, .slc dFact]
theorem tyd_rn (cs : List Cell) (h : TyD dRn cs) : ∃ r : Rn, cs = r.cells ∧ r.ok := by
  obtain ⟨a, _, rfl, ha, h⟩ := h.consF1 rfl
  obtain ⟨b, _, rfl, hb, h⟩ := h.consF1 rfl
  obtain ⟨c, _, rfl, hc, h⟩ := h.consF1 rfl
  have := h.nilF; subst this
  obtain ⟨x, rfl, hx⟩ := ha.ints
  obtain ⟨y, rfl, hy⟩ := hb.ints
  obtain ⟨z, rfl, hz⟩ := hc.ints
  exact ⟨⟨x, y, z⟩, rfl, hx, hy, hz⟩
theorem tyd_dot (cs : List Cell) (h : TyD dDot cs) : ∃ r : Dot, cs = r.cells ∧ r.ok := by
  obtain ⟨a, _, rfl, ha, h⟩ := h.consF1 rfl
  obtain ⟨b, _, rfl, hb, h⟩ := h.consF1 rfl
  have := h.nilF; subst this
  obtain ⟨x, rfl, hx⟩ := ha.ints
  obtain ⟨y, rfl, hy⟩ := hb.ints
  exact ⟨⟨x, y⟩, rfl, hx, hy⟩
theorem tyd_fact (cs : List Cell) (h : TyD dFact cs) : ∃ r : Fact, cs = r.cells ∧ r.ok := by
  obtain ⟨d0, r0, rfl, hd, h2⟩ := h.consF
  clear h
  obtain ⟨d, rfl, hd1, hd2⟩ := tyd_dot d0 hd
  obtain ⟨a, _, rfl, ha, h⟩ := h2.consF1 rfl
  obtain ⟨b, _, rfl, hb, h⟩ := h.consF1 rfl
  obtain ⟨c, _, rfl, hc, h⟩ := h.consF1 rfl
  obtain ⟨e, _, rfl, he, h⟩ := h.consF1 rfl
  have := h.nilF; subst this
  obtain ⟨x, rfl, hx⟩ := ha.strs
  obtain ⟨y, rfl, hy⟩ := hb.ints
  obtain ⟨z, rfl, hz⟩ := hc.strs
  obtain ⟨u, rfl, hu⟩ := he.ints
  exact ⟨⟨d.dev, d.n, x, y, z, u⟩, rfl, hd1, hd2, hx, hy, hz, hu⟩
theorem tyd_runs (cs : List Cell) (h : TyD (.slc dRn) cs) : ∃ l : List Rn, cs = [runsC l] ∧ l.length ≤ maxLen ∧ ∀ r ∈ l, r.ok := h.listQ tyd_rn
theorem tyd_dots (cs : List Cell) (h : TyD (.slc dDot) cs) : ∃ l : List Dot, cs = [dotsC l] ∧ l.length ≤ maxLen ∧ ∀ r ∈ l, r.ok := h.listQ tyd_dot
theorem tyd_facts (cs : List Cell) (h : TyD (.slc dFact) cs) : ∃ l : List Fact, cs = [factsC l] ∧ l.length ≤ maxLen ∧ ∀ r ∈ l, r.ok := h.listQ tyd_fact
theorem tyd_state (cs : List Cell) (h : TyD dState cs) : ∃ s : State, cs = s.cells ∧ s.ok := by
  obtain ⟨a, _, rfl, ha, h⟩ := h.consF1 rfl
  obtain ⟨b, _, rfl, hb, h⟩ := h.consF1 rfl
  have := h.nilF; subst this
  obtain ⟨x, hx, _, hx2⟩ := tyd_runs _ ha
  obtain ⟨y, hy, _, hy2⟩ := tyd_facts _ hb
  injection hx with hx; subst hx
  injection hy with hy; subst hy
  exact ⟨⟨x, y⟩, rfl, hx2, hy2⟩
theorem tyd_states (cs : List Cell) (h : TyD (.slc dState) cs) : ∃ l : List State, cs = [statesC l] ∧ l.length ≤ maxLen ∧ ∀ r ∈ l, r.ok := h.listQ tyd_state
/-- A slice of bytes: numbers below 256. -/
def byteC (n : Nat) : List Cell := [.int .u8 (n : Int)]
def bytesC (l : List Nat) : Cell := .lst 1 (l.map byteC)
theorem closed_bytesC (l : List Nat) : closedC (bytesC l) = true := closedR_map (f := byteC) (fun _ => rfl) l
theorem closed_bytes (l : List Nat) : closedR (l.map byteC) = true := closedR_map (f := byteC) (fun _ => rfl) l
theorem tyd_byte (cs : List Cell) (h : TyD (.int .u8) cs) : ∃ n : Nat, cs = byteC n ∧ n < 256 := by
  obtain ⟨c, rfl, h⟩ := h.one rfl
  obtain ⟨n, rfl, h1, h2⟩ := h.ints
  have h1 : 0 ≤ n := h1
  have h2 : n ≤ 255 := h2
  exact ⟨n.toNat, by simp [byteC]; omega, by omega⟩
theorem tyd_bytes (cs : List Cell) (h : TyD (.slc (.int .u8)) cs) : ∃ l : List Nat, cs = [bytesC l] ∧ l.length ≤ maxLen ∧ ∀ r ∈ l, r < 256 := h.listQ tyd_byte

attribute [go_sem] Rn.cells Dot.cells Fact.cells State.cells runsC dotsC factsC statesC closed_runs closed_dots closed_facts closed_bytes bytesC byteC

end Go.Proofs.YtpjbjdicdjlmeaaGreatDoor.Eng

/- Sets of dots as runs: plain lists, no program. No statement of the seat is proved here. -/
namespace Go.Proofs.YtpjbjdicdjlmeaaGreatDoor.Eng
open Go
set_option linter.unusedVariables false
set_option linter.unusedSimpArgs false

def Rn.right (r : Rn) : Bool := decide (0 ≤ r.dev) && decide (r.dev < 8) && decide (1 ≤ r.frm) && decide (r.frm ≤ r.to) && decide (r.to ≤ 4503599627370496)
/-- Whether runs may stand so, behind the run 'p'. -/
def mayFrom (p : Option Rn) : List Rn → Bool
  | [] => true
  | r :: rest => r.right && (match p with | none => true | some q => !(decide (r.dev < q.dev) || decide (r.dev = q.dev) && decide (r.frm ≤ W (q.to + 1)))) && mayFrom (some r) rest
def mayRuns (l : List Rn) : Bool := mayFrom none l
/-- Whether a dot is among runs. -/
def Rn.has (r : Rn) (d : Dot) : Bool := decide (r.dev = d.dev) && decide (r.frm ≤ d.n) && decide (d.n ≤ r.to)
def hasDot (l : List Rn) (d : Dot) : Bool := l.any fun r => r.has d

structure Rn.Right (r : Rn) : Prop where
  d0 : 0 ≤ r.dev
  d8 : r.dev < 8
  f1 : 1 ≤ r.frm
  ft : r.frm ≤ r.to
  tm : r.to ≤ 4503599627370496
theorem Rn.right_iff {r : Rn} : r.right = true ↔ r.Right := by
  simp only [Rn.right, Bool.and_eq_true, decide_eq_true_eq]
  exact ⟨fun ⟨⟨⟨⟨a, b⟩, c⟩, d⟩, e⟩ => ⟨a, b, c, d, e⟩, fun h => ⟨⟨⟨⟨h.d0, h.d8⟩, h.f1⟩, h.ft⟩, h.tm⟩⟩

/-- One run stands apart ahead of another. -/
def Sep (q r : Rn) : Prop := q.dev < r.dev ∨ (q.dev = r.dev ∧ q.to + 1 < r.frm)
theorem Sep.trans {a b c : Rn} (hb : b.Right) (h : Sep a b) (k : Sep b c) : Sep a c := by
  have := hb.ft
  unfold Sep at *; omega

/-- Runs as they should stand. -/
structure Norm (l : List Rn) : Prop where
  right : ∀ r ∈ l, r.Right
  sep : l.Pairwise Sep
theorem Norm.nil : Norm [] := ⟨by simp, .nil⟩
theorem Norm.tail {r : Rn} {l : List Rn} (h : Norm (r :: l)) : Norm l := ⟨fun x hx => h.right x (by simp [hx]), (List.pairwise_cons.1 h.sep).2⟩
theorem Norm.head {r : Rn} {l : List Rn} (h : Norm (r :: l)) : r.Right := h.right r (by simp)

theorem mayFrom_iff : ∀ {l : List Rn} {p : Option Rn}, (∀ q, p = some q → q.Right) → (mayFrom p l = true ↔ Norm l ∧ ∀ q, p = some q → ∀ r ∈ l, Sep q r)
  | [], p, hp => by simp [mayFrom, Norm.nil]
  | r :: l, p, hp => by
    simp only [mayFrom, Bool.and_eq_true, Rn.right_iff]
    constructor
    · rintro ⟨⟨hr, hq⟩, hm⟩
      obtain ⟨hn, hs⟩ := (mayFrom_iff (p := some r) (by intro q h; injection h with h; subst h; exact hr)).1 hm
      have hsr := hs r rfl
      refine ⟨⟨fun x hx => by rcases List.mem_cons.1 hx with rfl | hx; exact hr; exact hn.right x hx, List.pairwise_cons.2 ⟨hsr, hn.sep⟩⟩, ?_⟩
      intro q hq'
      subst hq'
      have hqr : Sep q r := by
        have hqR := hp q rfl
        have hw : W (q.to + 1) = q.to + 1 := W_of (by have := hqR.tm; have := hqR.f1; have := hqR.ft; omega)
        simp only [hw] at hq
        simp at hq
        unfold Sep
        omega
      intro x hx
      rcases List.mem_cons.1 hx with rfl | hx
      · exact hqr
      · exact hqr.trans hr (hsr x hx)
    · rintro ⟨hn, hq⟩
      refine ⟨⟨hn.head, ?_⟩, (mayFrom_iff (p := some r) (by intro q h; injection h with h; subst h; exact hn.head)).2 ⟨hn.tail, fun q h => by injection h with h; subst h; exact (List.pairwise_cons.1 hn.sep).1⟩⟩
      cases p with
      | none => rfl
      | some q =>
        have hqr := hq q rfl r (by simp)
        have hqR := hp q rfl
        have hw : W (q.to + 1) = q.to + 1 := W_of (by have := hqR.tm; have := hqR.f1; have := hqR.ft; omega)
        simp only [hw]
        unfold Sep at hqr
        simp
        omega

theorem mayRuns_iff {l : List Rn} : mayRuns l = true ↔ Norm l := by
  unfold mayRuns
  rw [mayFrom_iff (by simp)]
  simp

theorem Rn.has_iff {r : Rn} {d : Dot} : r.has d = true ↔ r.dev = d.dev ∧ r.frm ≤ d.n ∧ d.n ≤ r.to := by
  simp [Rn.has, and_assoc]
theorem hasDot_iff {l : List Rn} {d : Dot} : hasDot l d = true ↔ ∃ r ∈ l, r.dev = d.dev ∧ r.frm ≤ d.n ∧ d.n ≤ r.to := by
  simp [hasDot, Rn.has_iff]
theorem hasDot_nil {d : Dot} : hasDot [] d = false := rfl
theorem hasDot_cons {r : Rn} {l : List Rn} {d : Dot} : hasDot (r :: l) d = (r.has d || hasDot l d) := by simp [hasDot]
theorem hasDot_append {a b : List Rn} {d : Dot} : hasDot (a ++ b) d = (hasDot a d || hasDot b d) := by simp [hasDot]

/-- Runs that have the same dots are the same. -/
theorem Norm.ext : ∀ {a b : List Rn}, Norm a → Norm b → (∀ d, hasDot a d = hasDot b d) → a = b
  | [], [], _, _, _ => rfl
  | [], r :: b, _, hb, h => by
    have := h ⟨r.dev, r.frm⟩
    rw [hasDot_nil, hasDot_cons] at this
    have hr : r.has ⟨r.dev, r.frm⟩ = true := Rn.has_iff.2 ⟨rfl, Int.le_refl _, hb.head.ft⟩
    rw [hr] at this; cases this
  | r :: a, [], ha, _, h => by
    have := h ⟨r.dev, r.frm⟩
    rw [hasDot_nil, hasDot_cons] at this
    have hr : r.has ⟨r.dev, r.frm⟩ = true := Rn.has_iff.2 ⟨rfl, Int.le_refl _, ha.head.ft⟩
    rw [hr] at this; cases this
  | r :: a, q :: b, ha, hb, h => by
    have har := ha.head
    have hbq := hb.head
    have sa := (List.pairwise_cons.1 ha.sep).1
    have sb := (List.pairwise_cons.1 hb.sep).1
    -- what the first run of one begins with the other has, too
    have first : ∀ {r q : Rn} {a b : List Rn}, r.Right → (∀ x ∈ b, Sep q x) → (∀ d, hasDot (r :: a) d = hasDot (q :: b) d) → (∀ x ∈ b, x.Right) → q.Right → q.dev < r.dev ∨ (q.dev = r.dev ∧ q.frm ≤ r.frm) := by
      intro r q a b hr hs h hR hq
      have h1 : hasDot (r :: a) ⟨r.dev, r.frm⟩ = true := hasDot_iff.2 ⟨r, by simp, rfl, Int.le_refl _, hr.ft⟩
      rw [h] at h1
      obtain ⟨x, hx, e1, e2, e3⟩ := hasDot_iff.1 h1
      simp only at e1 e2 e3
      rcases List.mem_cons.1 hx with rfl | hx
      · omega
      · have := hs x hx
        have := hq.ft
        unfold Sep at *
        omega
    have f1 := first (r := r) (q := q) (a := a) (b := b) har sb h hb.tail.right hbq
    have f2 := first (r := q) (q := r) (a := b) (b := a) hbq sa (fun d => (h d).symm) ha.tail.right har
    have hdev : r.dev = q.dev := by omega
    have hfrm : r.frm = q.frm := by omega
    -- and where it ends the other one ends
    have last : ∀ {r q : Rn} {a b : List Rn}, r.Right → (∀ x ∈ a, Sep r x) → (∀ d, hasDot (r :: a) d = hasDot (q :: b) d) → r.dev = q.dev → r.frm = q.frm → q.Right → q.to ≤ r.to := by
      intro r q a b hr hs h hd hf hq
      apply Decidable.byContradiction
      intro hlt
      have h1 : hasDot (q :: b) ⟨r.dev, r.to + 1⟩ = true := hasDot_iff.2 ⟨q, by simp, hd.symm, by have := hr.ft; simp only; omega, by simp only; omega⟩
      rw [← h] at h1
      obtain ⟨x, hx, e1, e2, e3⟩ := hasDot_iff.1 h1
      simp only at e1 e2 e3
      rcases List.mem_cons.1 hx with rfl | hx
      · omega
      · have := hs x hx
        unfold Sep at *
        omega
    have l1 := last (r := r) (q := q) (a := a) (b := b) har sa h hdev hfrm hbq
    have l2 := last (r := q) (q := r) (a := b) (b := a) hbq sb (fun d => (h d).symm) hdev.symm hfrm.symm har
    have hrq : r = q := by
      obtain ⟨x, y, z⟩ := r
      obtain ⟨x', y', z'⟩ := q
      simp only at hdev hfrm l1 l2
      have : z = z' := by omega
      subst hdev; subst hfrm; subst this; rfl
    subst hrq
    have ht : ∀ d, hasDot a d = hasDot b d := by
      intro d
      have hd := h d
      rw [hasDot_cons, hasDot_cons] at hd
      have apart : ∀ {a : List Rn}, (∀ x ∈ a, Sep r x) → r.has d = true → hasDot a d = false := by
        intro a sa hr
        cases hx : hasDot a d with
        | false => rfl
        | true =>
          exfalso
          obtain ⟨x, hx, e1, e2, e3⟩ := hasDot_iff.1 hx
          have := sa x hx
          have := Rn.has_iff.1 hr
          unfold Sep at *
          omega
      cases hr : r.has d with
      | false => simpa [hr] using hd
      | true => rw [apart sa hr, apart sb hr]
    rw [Norm.ext ha.tail hb.tail ht]

end Go.Proofs.YtpjbjdicdjlmeaaGreatDoor.Eng

/- Words for contracts at this seat's program. No statement of the seat is proved here. -/
namespace Go.Proofs.YtpjbjdicdjlmeaaGreatDoor.Eng
open Go

theorem mixed : Tryz.prog.follows .mixedOrders = true := Checked.mixed Tryz.checked
abbrev Pr (f : Nat) (args : List AVal) (v : AVal) : Prop := Pure Tryz.prog f args v

end Go.Proofs.YtpjbjdicdjlmeaaGreatDoor.Eng

/- The engine, part 29: answers of two, of which what is empty may be nil. No statement of the seat is proved here. -/
namespace Go.Proofs.YtpjbjdicdjlmeaaGreatDoor.Eng
open Go

theorem viewW_tup2 {E : Heap} {a b x y : AVal} (h1 : viewW E a x) (h2 : viewW E b y) : viewW E (.tup [a, b]) (.tup [x, y]) := by
  obtain ⟨p, a1, b1⟩ := h1
  obtain ⟨q, a2, b2⟩ := h2
  exact ⟨.tup [p, q], by simp [viewA, viewAs, a1, a2], .tup2 b1 b2⟩

end Go.Proofs.YtpjbjdicdjlmeaaGreatDoor.Eng

/- The engine, part 28: interface values made; answers of two, of which one lies in a cell. No statement of the seat is proved here. -/
namespace Go.Proofs.YtpjbjdicdjlmeaaGreatDoor.Eng
open Go
set_option linter.unusedVariables false
set_option linter.unusedSimpArgs false

theorem vMkI_c {t : Nat} {c : Cell} {H : Heap} : vMkI t (.c c) H = some (.c (.iface t false [c]), H) := rfl
theorem vMkI_agg {t : Nat} {cs : List Cell} {H : Heap} : vMkI t (.agg cs) H = some (.c (.iface t true cs), H) := rfl
theorem resW_ct {e : Env} {H : Heap} {a n t : Nat} {agg : Bool} {R : AVal → Heap → Prop} : resW e H [.cell a agg n, .tmp t] R = loadW (vLoad agg n (e a) H) (fun v E => R (.tup [v, e t]) E) H := by
  have h : ev (.load agg n (.t a)) e H = vLoad agg n (e a) H := rfl
  have : evRes e H [.cell a agg n, .tmp t] = (vLoad agg n (e a) H).map (fun r => AVal.tup [r.1, e t]) := by
    simp only [evRes, List.mapM_cons, List.mapM_nil, evRes1, h]
    cases vLoad agg n (e a) H with
    | none => rfl
    | some r => rfl
  simp only [resW, loadW, this]
  cases vLoad agg n (e a) H with
  | none => simp
  | some r =>
    simp
    exact ⟨fun h => ⟨_, ⟨_, rfl⟩, h⟩, fun ⟨v, ⟨x, e⟩, h⟩ => by subst e; exact h⟩
theorem resW_tc {e : Env} {H : Heap} {a n t : Nat} {agg : Bool} {R : AVal → Heap → Prop} : resW e H [.tmp t, .cell a agg n] R = loadW (vLoad agg n (e a) H) (fun v E => R (.tup [e t, v]) E) H := by
  have h : ev (.load agg n (.t a)) e H = vLoad agg n (e a) H := rfl
  have : evRes e H [.tmp t, .cell a agg n] = (vLoad agg n (e a) H).map (fun r => AVal.tup [e t, r.1]) := by
    simp only [evRes, List.mapM_cons, List.mapM_nil, evRes1, h]
    cases vLoad agg n (e a) H with
    | none => rfl
    | some r => rfl
  simp only [resW, loadW, this]
  cases vLoad agg n (e a) H with
  | none => simp
  | some r =>
    simp
    exact ⟨fun h => ⟨_, ⟨_, rfl⟩, h⟩, fun ⟨v, ⟨x, e⟩, h⟩ => by subst e; exact h⟩
attribute [go_sem] vMkI_c vMkI_agg resW_ct resW_tc

section
variable {H : Heap} {k0 k1 k2 k3 k4 k5 k6 k7 k8 k9 k10 k11 k12 : Blk} {sz : Nat} {r q : List Cell} {ow lv : Bool} {rows : List (List Cell)}
theorem row_h8 : Heap.row (k0 :: k1 :: k2 :: k3 :: k4 :: k5 :: k6 :: k7 :: { sz := sz, rows := [r], own := ow, live := true } :: H) 8 0 = some r := rfl
theorem mine_h8 : Heap.mine (k0 :: k1 :: k2 :: k3 :: k4 :: k5 :: k6 :: k7 :: { sz := sz, rows := rows, own := true, live := true } :: H) 8 = true := rfl
theorem put_h8 : Heap.put (k0 :: k1 :: k2 :: k3 :: k4 :: k5 :: k6 :: k7 :: { sz := sz, rows := [r], own := ow, live := lv } :: H) 8 0 q = k0 :: k1 :: k2 :: k3 :: k4 :: k5 :: k6 :: k7 :: { sz := sz, rows := [q], own := ow, live := lv } :: H := rfl
theorem row_h9 : Heap.row (k0 :: k1 :: k2 :: k3 :: k4 :: k5 :: k6 :: k7 :: k8 :: { sz := sz, rows := [r], own := ow, live := true } :: H) 9 0 = some r := rfl
theorem mine_h9 : Heap.mine (k0 :: k1 :: k2 :: k3 :: k4 :: k5 :: k6 :: k7 :: k8 :: { sz := sz, rows := rows, own := true, live := true } :: H) 9 = true := rfl
theorem put_h9 : Heap.put (k0 :: k1 :: k2 :: k3 :: k4 :: k5 :: k6 :: k7 :: k8 :: { sz := sz, rows := [r], own := ow, live := lv } :: H) 9 0 q = k0 :: k1 :: k2 :: k3 :: k4 :: k5 :: k6 :: k7 :: k8 :: { sz := sz, rows := [q], own := ow, live := lv } :: H := rfl
theorem row_h10 : Heap.row (k0 :: k1 :: k2 :: k3 :: k4 :: k5 :: k6 :: k7 :: k8 :: k9 :: { sz := sz, rows := [r], own := ow, live := true } :: H) 10 0 = some r := rfl
theorem mine_h10 : Heap.mine (k0 :: k1 :: k2 :: k3 :: k4 :: k5 :: k6 :: k7 :: k8 :: k9 :: { sz := sz, rows := rows, own := true, live := true } :: H) 10 = true := rfl
theorem put_h10 : Heap.put (k0 :: k1 :: k2 :: k3 :: k4 :: k5 :: k6 :: k7 :: k8 :: k9 :: { sz := sz, rows := [r], own := ow, live := lv } :: H) 10 0 q = k0 :: k1 :: k2 :: k3 :: k4 :: k5 :: k6 :: k7 :: k8 :: k9 :: { sz := sz, rows := [q], own := ow, live := lv } :: H := rfl
theorem row_h11 : Heap.row (k0 :: k1 :: k2 :: k3 :: k4 :: k5 :: k6 :: k7 :: k8 :: k9 :: k10 :: { sz := sz, rows := [r], own := ow, live := true } :: H) 11 0 = some r := rfl
theorem mine_h11 : Heap.mine (k0 :: k1 :: k2 :: k3 :: k4 :: k5 :: k6 :: k7 :: k8 :: k9 :: k10 :: { sz := sz, rows := rows, own := true, live := true } :: H) 11 = true := rfl
theorem put_h11 : Heap.put (k0 :: k1 :: k2 :: k3 :: k4 :: k5 :: k6 :: k7 :: k8 :: k9 :: k10 :: { sz := sz, rows := [r], own := ow, live := lv } :: H) 11 0 q = k0 :: k1 :: k2 :: k3 :: k4 :: k5 :: k6 :: k7 :: k8 :: k9 :: k10 :: { sz := sz, rows := [q], own := ow, live := lv } :: H := rfl
theorem row_h12 : Heap.row (k0 :: k1 :: k2 :: k3 :: k4 :: k5 :: k6 :: k7 :: k8 :: k9 :: k10 :: k11 :: { sz := sz, rows := [r], own := ow, live := true } :: H) 12 0 = some r := rfl
theorem mine_h12 : Heap.mine (k0 :: k1 :: k2 :: k3 :: k4 :: k5 :: k6 :: k7 :: k8 :: k9 :: k10 :: k11 :: { sz := sz, rows := rows, own := true, live := true } :: H) 12 = true := rfl
theorem put_h12 : Heap.put (k0 :: k1 :: k2 :: k3 :: k4 :: k5 :: k6 :: k7 :: k8 :: k9 :: k10 :: k11 :: { sz := sz, rows := [r], own := ow, live := lv } :: H) 12 0 q = k0 :: k1 :: k2 :: k3 :: k4 :: k5 :: k6 :: k7 :: k8 :: k9 :: k10 :: k11 :: { sz := sz, rows := [q], own := ow, live := lv } :: H := rfl
theorem row_h13 : Heap.row (k0 :: k1 :: k2 :: k3 :: k4 :: k5 :: k6 :: k7 :: k8 :: k9 :: k10 :: k11 :: k12 :: { sz := sz, rows := [r], own := ow, live := true } :: H) 13 0 = some r := rfl
theorem mine_h13 : Heap.mine (k0 :: k1 :: k2 :: k3 :: k4 :: k5 :: k6 :: k7 :: k8 :: k9 :: k10 :: k11 :: k12 :: { sz := sz, rows := rows, own := true, live := true } :: H) 13 = true := rfl
theorem put_h13 : Heap.put (k0 :: k1 :: k2 :: k3 :: k4 :: k5 :: k6 :: k7 :: k8 :: k9 :: k10 :: k11 :: k12 :: { sz := sz, rows := [r], own := ow, live := lv } :: H) 13 0 q = k0 :: k1 :: k2 :: k3 :: k4 :: k5 :: k6 :: k7 :: k8 :: k9 :: k10 :: k11 :: k12 :: { sz := sz, rows := [q], own := ow, live := lv } :: H := rfl
end
attribute [go_sem] row_h8 mine_h8 put_h8 row_h9 mine_h9 put_h9 row_h10 mine_h10 put_h10 row_h11 mine_h11 put_h11 row_h12 mine_h12 put_h12 row_h13 mine_h13 put_h13

end Go.Proofs.YtpjbjdicdjlmeaaGreatDoor.Eng
