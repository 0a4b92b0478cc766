/- Parts of this claim's proof, joined. No statement of the seat is proved here. -/
import Derived.Test.YticmfblfghdkbaaGreatDoorV21
import Derived.WalkKit
import Derived.LaidEql
import Derived.Stop.Asserts
import Derived.RowKitTokens
set_option linter.unusedVariables false
set_option linter.unusedSimpArgs false
namespace Go.Proofs.YticmfblfghdkbaaGreatDoor.Eng
open Go
variable {secret master : ByteArray} {log : List Rec} {kind dev : Int}
theorem Zt0 (f : Int → Wrp) (hf : ∀ m,(f m).dev = m) (hb : ∀ m,(f m).box.size ≤ 200) : ∀ (l : List Int) (p : Option Int),l.Pairwise (· < ·) → (∀ m ∈ l,0 ≤ m ∧ m < 8) → (∀ q,p = some q → ∀ m ∈ l,q < m) → Zcn p (l.map f) = true
 | [],_,_,_,_ => rfl
 | m :: l,p,h1,h2,h3 => by
  rw [List.pairwise_cons] at h1
  have hm := h2 m (by simp)
  simp only [List.map_cons,Zcn,hf]
  have e1 : decide (0 ≤ m ∧ m < 8 ∧ (f m).box.size ≤ 200) = true := decide_eq_true ⟨hm.1,hm.2,hb m⟩
  rw [e1,Zt0 f hf hb l (some m) h1.2 (fun x hx => h2 x (by simp [hx])) (fun q hq x hx => by injection hq with hq; subst hq; exact h1.1 x hx)]
  cases p with
  | none => rfl
  | some q => simpa using h3 q rfl m (by simp)
theorem Zzv (log : List Rec) (e : Int) : (Zb3 log e).Pairwise (· < ·) := by
 unfold Zb3
 exact List.Pairwise.filter _ (by decide)
theorem Zvm {log : List Rec} {e m : Int} (h : m ∈ Zb3 log e) : 0 ≤ m ∧ m < 8 := by
 have := Zpi.1 h
 unfold memL at this
 simp only [Bool.and_eq_true,decide_eq_true_eq] at this
 exact this.2
theorem Zys (secret master ad : ByteArray) (n m : Int) : Zld (Zdf (ownK master m)) (Zc6 n) (Zce secret n).size := ⟨Zy0 _,Z7b _,by rw [Zik]; omega⟩
theorem Zn5 (r : Rec) (m : Int) : (Zd8 secret master r m).box.size = 48 := by
 unfold Zd8
 rw [Zyo (Zys secret master (Zcr r) _ _),Zik]
theorem Z51 {log : List Rec} (h : log.length ≠ 0) : (Zbe log).size = 32 := by
 unfold Zbe
 cases hl : log.getLast? with
 | none => simp at hl; simp [hl] at h
 | some r => exact Z76 r
theorem Z0p {r : Rec} (h1 : 1 ≤ r.seq ∧ r.seq ≤ 1048576) (h2 : r.prev.size = 32 ∨ r.seq = 1 ∧ r.prev = Zz) (h3 : r.kind = 1 ∨ r.kind = 2) (h4 : 0 ≤ r.dev ∧ r.dev < 8) (h5 : r.tag.size = 16 ∨ r.tag = Zz) (h6 : Zcn none r.wraps = true) : Z5 r = true := by
 unfold Z5
 rw [decide_eq_true h1,decide_eq_true h2,decide_eq_true h3,decide_eq_true h4,decide_eq_true h5,h6]
 rfl
theorem Zbcc {r : Rec} (h : Z5 r = true) : Zcn none r.wraps = true := by
 unfold Z5 at h
 simp only [Bool.and_eq_true] at h
 exact h.2
theorem Zwv {r s : Rec} (h : Z5 r = true) (e1 : s.seq = r.seq) (e2 : s.prev = r.prev) (e3 : s.kind = r.kind) (e4 : s.dev = r.dev) (h5 : s.tag.size = 16 ∨ s.tag = Zz) (h6 : Zcn none s.wraps = true) : Z5 s = true := by
 unfold Z5 at h
 simp only [Bool.and_eq_true,decide_eq_true_eq] at h
 obtain ⟨⟨⟨⟨⟨h1,h2⟩,h3⟩,h4⟩,_⟩,_⟩ := h
 exact Z0p (by rw [e1]; exact h1) (by rw [e1,e2]; exact h2) (by rw [e3]; exact h3) (by rw [e4]; exact h4) h5 h6
theorem Zgj (h : Zbm log kind dev = 0) : (kind = 1 ∨ kind = 2) ∧ (0 ≤ dev ∧ dev < 8) ∧ Zdj log = true ∧ ¬ (log.length = 0 ∧ (kind ≠ 1 ∨ dev ≠ 0)) ∧ ¬ (kind = 2 ∧ dev = 0) ∧ ¬ (kind = 1 ∧ memL log log.length dev = true) ∧ ¬ (kind = 2 ∧ memL log log.length dev = false) ∧ log.length < 40 := by
 unfold Zbm at h
 split at h
 ·omega
 rename_i h1
 split at h
 ·omega
 rename_i h2
 split at h
 ·omega
 rename_i h3
 split at h
 ·omega
 rename_i h4
 refine ⟨?_,?_,?_,fun h => h1 (.inr (.inr (.inr (.inr (.inl h))))),fun h => h1 (.inr (.inr (.inr (.inr (.inr h))))),h2,h3,by omega⟩
 ·by_cases k1 : kind = 1
  ·exact .inl k1
  ·by_cases k2 : kind = 2
   ·exact .inr k2
   ·exact absurd (.inl ⟨k1,k2⟩) h1
 ·constructor
  ·refine Int.not_lt.1 fun h => h1 (.inr (.inl h))
  ·refine Int.not_le.1 fun h => h1 (.inr (.inr (.inl h)))
 ·cases hc : Zdj log with
  | true => rfl
  | false => exact absurd (.inr (.inr (.inr (.inl hc)))) h1
theorem Zq0 (h : Zbm log kind dev = 0) : Z5 (Zbj log kind dev) = true := by
 obtain ⟨h1,h2,h3,h4,h5,h6,h7,h8⟩ := Zgj h
 refine Z0p ?_ ?_ h1 h2 (.inr rfl) rfl
 ·show 1 ≤ (log.length : Int) + 1 ∧ (log.length : Int) + 1 ≤ 1048576
  omega
 ·by_cases h0 : log.length = 0
  ·refine .inr ⟨?_,?_⟩
   ·show (log.length : Int) + 1 = 1
    omega
   ·have : log = [] := List.eq_nil_of_length_eq_zero h0
    subst this
    rfl
  ·exact .inl (Z51 h0)
theorem Z62 (h : Zbm log kind dev = 0) : Z5 (Zdu secret master log kind dev) = true :=
 Zwv (Zq0 h) rfl rfl rfl rfl (.inr rfl) (Zt0 _ (fun _ => rfl) (fun m => by rw [Zn5]; omega) _ none (Zzv _ _) (fun m hm => Zvm hm) (fun q hq => by cases hq))
theorem Zbar {key : ByteArray} {r : Rec} (h : Z5 r = true) : (tagR key r).size = 16 := by
 unfold tagR
 rw [if_pos h,ByteArray.size_extract,Zee]
 omega
theorem Zg2 : (Zb1 secret master log kind dev).seq = (log.length : Int) + 1 ∧ (Zb1 secret master log kind dev).prev = Zbe log ∧ (Zb1 secret master log kind dev).kind = kind ∧ (Zb1 secret master log kind dev).dev = dev ∧ (Zb1 secret master log kind dev).wraps = (Zdu secret master log kind dev).wraps := by
 unfold Zb1
 split <;> exact ⟨rfl,rfl,rfl,rfl,rfl⟩
theorem Z41 (h : Zbm log kind dev = 0) : Z5 (Zb1 secret master log kind dev) = true := by
 have hw := Z62 (secret := secret) (master := master) h
 unfold Zb1
 split
 ·exact hw
 ·exact Zwv hw rfl rfl rfl rfl (.inl (Zbar hw)) (show Zcn none (Zdu secret master log kind dev).wraps = true from Zbcc hw)
theorem Zbaj {r s : Rec} (e1 : s.seq = r.seq) (e3 : s.kind = r.kind) (e4 : s.dev = r.dev) (e d : Int) (b : Bool) : memF e d b s = memF e d b r := by
 unfold memF
 rw [e1,e3,e4]
theorem Zbgb {r s : Rec} (e1 : s.seq = r.seq) (e3 : s.kind = r.kind) (e4 : s.dev = r.dev) (e d : Int) : memL (log ++ [s]) e d = memL (log ++ [r]) e d := by
 unfold memL
 rw [Zjm,Zjm,Zbaj e1 e3 e4]
theorem Z4r {r s : Rec} (e1 : s.seq = r.seq) (e3 : s.kind = r.kind) (e4 : s.dev = r.dev) (e : Int) : Zb3 (log ++ [s]) e = Zb3 (log ++ [r]) e := by
 unfold Zb3
 congr 1
 funext d
 exact Zbgb e1 e3 e4 e d
theorem Zq1 : (Zb1 secret master log kind dev).wraps = (Zb3 (log ++ [Zb1 secret master log kind dev]) ((log.length : Int) + 1)).map (Zd8 secret master (Zbj log kind dev)) := by
 obtain ⟨h1,h2,h3,h4,h5⟩ := Zg2 (secret := secret) (master := master) (log := log) (kind := kind) (dev := dev)
 rw [h5]
 unfold Zdu
 show List.map _ _ = _
 rw [Z4r (r := Zbj log kind dev) (s := Zb1 secret master log kind dev) h1 h3 h4]
theorem Z1g {r s : Rec} (hr : Z5 r = true) (hs : Z5 s = true) (e1 : s.seq = r.seq) (e2 : s.prev = r.prev) (e3 : s.kind = r.kind) (e4 : s.dev = r.dev) : Zcr s = Zcr r := by
 unfold Zcr Ze6
 rw [hr,hs,e1,e2,e3,e4]
theorem Zbcv (h : Zbm log kind dev = 0) : Zcr (Zb1 secret master log kind dev) = Zcr (Zbj log kind dev) := by
 obtain ⟨h1,h2,h3,h4,h5⟩ := Zg2 (secret := secret) (master := master) (log := log) (kind := kind) (dev := dev)
 exact Z1g (Zq0 h) (Z41 h) h1 h2 h3 h4
theorem Zbcw (h : Zbm log kind dev = 0) : Zed log (Zb1 secret master log kind dev) = true := by
 obtain ⟨h1,h2,h3,h4,h5,h6,h7,h8⟩ := Zgj h
 obtain ⟨f1,f2,f3,f4,f5⟩ := Zg2 (secret := secret) (master := master) (log := log) (kind := kind) (dev := dev)
 unfold Zed
 rw [Z41 h,f1,f2,f3,f4]
 have e1 : (decide (log.length = 0) && (decide (kind ≠ 1) || decide (dev ≠ 0))) = false := by
  rw [Bool.and_eq_false_iff]
  by_cases a : log.length = 0
  ·right
   rw [Bool.or_eq_false_iff]
   refine ⟨decide_eq_false fun hk => h4 ⟨a,.inl hk⟩,decide_eq_false fun hd => h4 ⟨a,.inr hd⟩⟩
  ·left; exact decide_eq_false a
 have e2 : (decide (kind = 1) && memL log log.length dev || decide (kind = 2) && (!memL log log.length dev || decide (dev = 0))) = false := by
  rw [Bool.or_eq_false_iff,Bool.and_eq_false_iff,Bool.and_eq_false_iff]
  constructor
  ·by_cases k : kind = 1
   ·right
    cases hm : memL log log.length dev with
    | false => rfl
    | true => exact absurd ⟨k,hm⟩ h6
   ·left; exact decide_eq_false k
  ·by_cases k : kind = 2
   ·right
    rw [Bool.or_eq_false_iff]
    refine ⟨?_,decide_eq_false fun hd => h5 ⟨k,hd⟩⟩
    cases hm : memL log log.length dev with
    | true => rfl
    | false => exact absurd ⟨k,hm⟩ h7
   ·left; exact decide_eq_false k
 rw [e1,e2]
 simp
theorem Zxb (h : Zbm log kind dev = 0) : Zdj (log ++ [Zb1 secret master log kind dev]) = true := by
 obtain ⟨h1,h2,h3,h4,h5,h6,h7,h8⟩ := Zgj h
 unfold Zdj at h3 ⊢
 simp only [Bool.and_eq_true,decide_eq_true_eq] at h3 ⊢
 refine ⟨by rw [List.length_append]; simp; omega,?_⟩
 rw [Zwx,h3.2,List.nil_append,Zbcw h]
 rfl
theorem Ztw (f : Int → Wrp) (hf : ∀ m,(f m).dev = m) (d : Int) : ∀ l : List Int,(l.map f).find? (fun w => decide (w.dev = d)) = if d ∈ l then some (f d) else none
 | [] => rfl
 | m :: l => by
  rw [List.map_cons,List.find?_cons,hf]
  by_cases h : m = d
  ·subst h
   rw [decide_eq_true rfl]
   simp
  ·rw [decide_eq_false h]
   simp only [Ztw f hf d l,List.mem_cons,Ne.symm h,false_or,show ¬ (d = m) from fun e => h e.symm]
theorem Zbez {own : ByteArray} {r : Rec} {d : Int} {w : Wrp} {k : ByteArray} (h1 : r.wraps.find? (fun w => decide (w.dev = d)) = some w) (h2 : Zfs (Zdf own) (Zc6 r.seq) (Zcr r) w.box = some k) (h3 : k.size = 32) : Zmc own r d = some k := by
 unfold Zmc
 rw [h1]
 simp only
 rw [h2]
 simp only
 rw [if_pos h3]
theorem Zyz {own : ByteArray} {r : Rec} {d : Int} (h1 : r.wraps.find? (fun w => decide (w.dev = d)) = none) : Zmc own r d = none := by
 unfold Zmc
 rw [h1]
theorem Z6p (r : Rec) (m : Int) : (Zd8 secret master r m).box = Zc2 (Zdf (ownK master m)) (Zc6 r.seq) (Zcr r) (Zce secret r.seq) := rfl
theorem Zbe7 : (Zbj log kind dev).seq = (log.length : Int) + 1 := rfl
theorem Zba6 (h : Zbm log kind dev = 0) (d : Int) : Zmc (ownK master d) (Zb1 secret master log kind dev) d =
  if memL (log ++ [Zb1 secret master log kind dev]) ((log.length : Int) + 1) d = true then some (Zce secret ((log.length : Int) + 1)) else none := by
 obtain ⟨f1,f2,f3,f4,f5⟩ := Zg2 (secret := secret) (master := master) (log := log) (kind := kind) (dev := dev)
 have hw := Zq1 (secret := secret) (master := master) (log := log) (kind := kind) (dev := dev)
 have hh := Zbcv (secret := secret) (master := master) h
 have hmm := Zpi (log := log ++ [Zb1 secret master log kind dev]) (epoch := (log.length : Int) + 1) (d := d)
 generalize Zb1 secret master log kind dev = R at *
 have hf : R.wraps.find? (fun w => decide (w.dev = d)) = if d ∈ Zb3 (log ++ [R]) ((log.length : Int) + 1) then some (Zd8 secret master (Zbj log kind dev) d) else none := by
  rw [hw]
  exact Ztw _ (fun _ => rfl) d _
 by_cases hm : d ∈ Zb3 (log ++ [R]) ((log.length : Int) + 1)
 ·rw [if_pos hm] at hf
  rw [if_pos (hmm.1 hm)]
  refine Zbez hf ?_ (Zik _ _)
  rw [f1,hh,Z6p,Zbe7]
  exact Zbdb (Zys secret master Zz ((log.length : Int) + 1) d)
 ·rw [if_neg hm] at hf
  rw [if_neg (fun e => hm (hmm.2 e))]
  exact Zyz hf
inductive Chain (secret master : ByteArray) : List Rec → Prop
 | nil : Chain secret master []
 | snoc {log : List Rec} {kind dev : Int} : Chain secret master log → Zbm log kind dev = 0 → Chain secret master (log ++ [Zb1 secret master log kind dev])
theorem Chain.check (h : Chain secret master log) : Zdj log = true := by
 cases h with
 | nil => rfl
 | snoc _ h => exact Zxb h
theorem Chain.at (h : Chain secret master log) : ∀ i,i < log.length → ∃ kind dev,Chain secret master (log.take i) ∧ Zbm (log.take i) kind dev = 0 ∧ log[i]? = some (Zb1 secret master (log.take i) kind dev) := by
 induction h with
 | nil => intro i hi; simp at hi
 | @snoc log kind dev hc hm ih =>
  intro i hi
  rw [List.length_append,List.length_singleton] at hi
  by_cases h : i < log.length
  ·obtain ⟨k,d,h1,h2,h3⟩ := ih i h
   refine ⟨k,d,?_,?_,?_⟩
   ·rwa [List.take_append_of_le_length (by omega)]
   ·rwa [List.take_append_of_le_length (by omega)]
   ·rw [List.take_append_of_le_length (by omega),List.getElem?_append_left h]; exact h3
  ·have : i = log.length := by omega
   subst this
   refine ⟨kind,dev,?_,?_,?_⟩
   ·rwa [List.take_left]
   ·rwa [List.take_left]
   ·rw [List.take_left,List.getElem?_append_right (Nat.le_refl _)]; simp
theorem Zbcd (h : Zdj log = true) {i : Nat} {r : Rec} (hr : log[i]? = some r) : r.seq = (i : Int) + 1 ∧ Z5 r = true := by
 unfold Zdj at h
 simp only [Bool.and_eq_true] at h
 have := Zzx log [] h.2 i r hr
 simpa using this
theorem Z2b (h : Zdj log = true) {r : Rec} (hr : r ∈ log) : 1 ≤ r.seq ∧ r.seq ≤ log.length := by
 obtain ⟨i,hi⟩ := List.mem_iff_getElem?.1 hr
 have h1 := (Zbcd h hi).1
 have h2 := (List.getElem?_eq_some_iff.1 hi).1
 omega
theorem Z43 {r : Rec} (h : Zdj log = true) (hs : r.seq = (log.length : Int) + 1) (hk : r.kind = 1 ∨ r.kind = 2) (d : Int) : memL (log ++ [r]) ((log.length : Int) + 1) d = if r.dev = d then decide (r.kind = 1) && decide (0 ≤ d ∧ d < 8) else memL log log.length d := by
 unfold memL
 rw [Zjm]
 have hm : memB log ((log.length : Int) + 1) d = memB log log.length d := Zs4 log false _ _ d fun x hx => by
  have := Z2b h hx
  omega
 rw [hm]
 unfold memF
 by_cases hd : r.dev = d
 ·rw [if_pos ⟨by omega,hd,hk⟩,if_pos hd]
 ·rw [if_neg (fun h => hd h.2.1),if_neg hd]
theorem Chain.zero (h : Chain secret master log) (h0 : log ≠ []) : memL log log.length 0 = true := by
 induction h with
 | nil => exact absurd rfl h0
 | @snoc log kind dev hc hm ih =>
  obtain ⟨f1,f2,f3,f4,f5⟩ := Zg2 (secret := secret) (master := master) (log := log) (kind := kind) (dev := dev)
  obtain ⟨h1,h2,h3,h4,h5,h6,h7,h8⟩ := Zgj hm
  have e : ((log ++ [Zb1 secret master log kind dev]).length : Int) = (log.length : Int) + 1 := by simp
  rw [e,Z43 h3 f1 (by rw [f3]; exact h1),f3,f4]
  by_cases hd : dev = 0
  ·rw [if_pos hd]
   have : kind = 1 := h1.resolve_right fun h => h5 ⟨h,hd⟩
   subst this
   rfl
  ·rw [if_neg hd]
   refine ih fun hl => h4 ⟨by rw [hl]; rfl,.inr hd⟩
def Zha (n : UInt8) : Int := 1 + (n.toNat % 4 : Nat)
def Zp1 (log : List Rec) (d : Int) : Int := if memL log log.length d = true then 2 else 1
def Zk7 (secret master : ByteArray) : List Rec → List UInt8 → List Rec
 | log,[] => log
 | log,n :: ns => if log.length < 8 then Zk7 secret master (log ++ [Zb9 secret master log (Zp1 log (Zha n)) (Zha n)]) ns else log
def Zut (secret master : ByteArray) (ns : List UInt8) : List Rec := Zk7 secret master [Zb9 secret master [] 1 0] ns
theorem Zh2 : Zbm [] 1 0 = 0 := by decide
theorem Z6q (secret master : ByteArray) : Chain secret master [Zb9 secret master [] 1 0] := by
 have : Zb9 secret master [] 1 0 = Zb1 secret master [] 1 0 := by unfold Zb9; rw [if_pos Zh2]
 rw [this]
 exact .snoc .nil Zh2
theorem Zbja (n : UInt8) : 1 ≤ Zha n ∧ Zha n ≤ 4 := by unfold Zha; omega
theorem Zbbd (h : Chain secret master log) (h0 : log ≠ []) (hl : log.length < 8) (n : UInt8) : Zbm log (Zp1 log (Zha n)) (Zha n) = 0 := by
 have hd := Zbja n
 have hn : log.length ≠ 0 := fun e => h0 (List.eq_nil_of_length_eq_zero e)
 have hc := h.check
 unfold Zbm Zp1
 cases hm : memL log log.length (Zha n) with
 | true =>
  simp only [if_true]
  rw [if_neg (by simp [hc,hn]; omega),if_neg (by omega),if_neg (by simp),if_neg (by omega)]
 | false =>
  simp only [Bool.false_eq_true,if_false]
  rw [if_neg (by simp [hc,hn]; omega),if_neg (by simp),if_neg (by omega),if_neg (by omega)]
theorem Zvq : ∀ (ns : List UInt8) (log : List Rec),Chain secret master log → log ≠ [] → log.length ≤ 8 → Chain secret master (Zk7 secret master log ns) ∧ Zk7 secret master log ns ≠ [] ∧ (Zk7 secret master log ns).length ≤ 8
 | [],log,h,h0,h8 => ⟨h,h0,h8⟩
 | n :: ns,log,h,h0,h8 => by
  unfold Zk7
  split
  ·rename_i hl
   have hz := Zbbd h h0 hl n
   have e : Zb9 secret master log (Zp1 log (Zha n)) (Zha n) = Zb1 secret master log (Zp1 log (Zha n)) (Zha n) := by unfold Zb9; rw [if_pos hz]
   rw [e]
   exact Zvq ns _ (.snoc h hz) (by simp) (by simp; omega)
  ·exact ⟨h,h0,h8⟩
theorem Z50 (secret master : ByteArray) (ns : List UInt8) : Chain secret master (Zut secret master ns) ∧ Zut secret master ns ≠ [] ∧ (Zut secret master ns).length ≤ 8 :=
 Zvq ns _ (Z6q secret master) (by simp) (by simp)
def InsOk (ins : List Int) (done : List Rec) : Prop := ∀ d,0 ≤ d → d < 8 → (d ∈ ins ↔ memL done done.length d = true)
theorem InsOk.nil : InsOk [] [] := fun d _ _ => by simp [memL,memB]
def Z0c (ins : List Int) (r : Rec) : List Int := if r.kind = 1 then ins ++ [r.dev] else ins.filter fun n => decide (n ≠ r.dev)
def Zmr (ins : List Int) (done : List Rec) (r : Rec) : Bool :=
 Z5 r && (decide (r.seq = (done.length : Int) + 1) && decide (r.prev = Zbe done)) && !(decide (done.length = 0) && (decide (r.kind ≠ 1) || decide (r.dev ≠ 0)) || decide (r.kind = 2) && decide (r.dev = 0) || (decide (r.dev ∈ ins) != decide (r.kind = 2)))
theorem Zqr {r : Rec} (h : Z5 r = true) : (r.kind = 1 ∨ r.kind = 2) ∧ 0 ≤ r.dev ∧ r.dev < 8 := by
 unfold Z5 at h
 simp only [Bool.and_eq_true,decide_eq_true_eq] at h
 obtain ⟨⟨⟨⟨⟨h1,h2⟩,h3⟩,h4⟩,_⟩,_⟩ := h
 exact ⟨h3,h4⟩
theorem Zbfm {ins : List Int} {done : List Rec} (hi : InsOk ins done) (r : Rec) : Zmr ins done r = Zed done r := by
 unfold Zmr Zed
 cases hm : Z5 r with
 | false => rfl
 | true =>
  obtain ⟨hk,h0,h8⟩ := Zqr hm
  have hd : decide (r.dev ∈ ins) = memL done done.length r.dev := by
   rw [Bool.eq_iff_iff,decide_eq_true_eq]
   exact hi r.dev h0 h8
  rw [hd]
  generalize memL done done.length r.dev = b
  generalize decide (r.seq = (done.length : Int) + 1) = c1
  generalize decide (r.prev = Zbe done) = c2
  rcases hk with hk | hk
  ·simp only [hk]
   cases b <;> cases c1 <;> cases c2 <;> simp
  ·simp only [hk]
   cases b <;> cases c1 <;> cases c2 <;> simp
   all_goals (by_cases h1 : done = [] <;> by_cases h2 : r.dev = 0 <;> simp [h1,h2])
theorem InsOk.next {ins : List Int} {done : List Rec} {r : Rec} (hi : InsOk ins done) (hc : chk [] done = true) (hs : Zed done r = true) : InsOk (Z0c ins r) (done ++ [r]) := by
 intro d h0 h8
 unfold Zed at hs
 simp only [Bool.and_eq_true,decide_eq_true_eq] at hs
 obtain ⟨⟨⟨⟨hm,hq⟩,_⟩,_⟩,_⟩ := hs
 obtain ⟨hk,_,_⟩ := Zqr hm
 have e : ((done ++ [r]).length : Int) = (done.length : Int) + 1 := by simp
 have hnext : memL (done ++ [r]) ((done.length : Int) + 1) d = if r.dev = d then decide (r.kind = 1) && decide (0 ≤ d ∧ d < 8) else memL done done.length d := by
  unfold memL
  rw [Zjm]
  have hm : memB done ((done.length : Int) + 1) d = memB done done.length d := Zs4 done false _ _ d fun x hx => by
   obtain ⟨i,hi⟩ := List.mem_iff_getElem?.1 hx
   have h1 := (Zzx done [] hc i x hi).1
   have h2 := (List.getElem?_eq_some_iff.1 hi).1
   simp at h1
   omega
  rw [hm]
  unfold memF
  by_cases hd : r.dev = d
  ·rw [if_pos ⟨by omega,hd,hk⟩,if_pos hd]
  ·rw [if_neg (fun h => hd h.2.1),if_neg hd]
 rw [e,hnext]
 unfold Z0c
 have hid := hi d h0 h8
 rcases hk with hk | hk
 ·simp only [hk,if_true]
  by_cases hd : r.dev = d
  ·simp [hd,h0,h8]
  ·rw [if_neg hd,List.mem_append,List.mem_singleton]
   constructor
   ·rintro (h | h)
    ·exact hid.1 h
    ·exact absurd h.symm hd
   ·exact fun h => .inl (hid.2 h)
 ·simp only [hk,show ¬ ((2 : Int) = 1) by omega,if_false,List.mem_filter,decide_eq_true_eq]
  by_cases hd : r.dev = d
  ·simp [hd]
  ·rw [if_neg hd]
   constructor
   ·exact fun h => hid.1 h.1
   ·exact fun h => ⟨hid.2 h,fun e => hd e.symm⟩
end Go.Proofs.YticmfblfghdkbaaGreatDoor.Eng
namespace Go.Proofs.YticmfblfghdkbaaGreatDoor.Eng
open Go Go.RowKit Go.Extern.Stop Go.Stop Go.Extern
def cmpM : TypeId → Sem Value := fun t => do Extern.Rtype.noPackHeld "Comparable" t; pure (.bool (← typeInfo t).comparable)
theorem Zfq (v : Value) (w : World) : (Go.method 437 235 v "Comparable").run Tryz.prog w = .ok (274,v) w := by kernel_rfl
theorem Zir {P : Program} (w : World) {t tx : TypeId} {ms : Array (String × TypeId)} (a b : ByteArray)
  (ht : P.underlying t = some (.interface ms)) (hc : (P.info? tx).map (·.comparable) = some true) (hx : P.underlying tx = some .string) :
  (binOp .eql t (.iface tx (.string a)) (.iface tx (.string b))).run P w = .ok (.bool (a == b)) w := by
 cases hi : P.info? tx with
 | none => simp [hi] at hc
 | some i =>
  have hcc : i.comparable = true := by simpa [hi] using hc
  have h : ∀ d : Nat,(Op.equalIn (d + 2) t (.iface tx (.string a)) (.iface tx (.string b))).run P w = .ok (a == b) w := fun d => by
   simp [Op.equalIn,run_underlying ht,run_underlying hx,typeInfo,hi,hcc]
  simp only [binOp]
  simp [Op.equal,Op.maxDepth,h 9998]
theorem Zxe (a b : ByteArray) : (a == b) = decide (a = b) := by
 obtain ⟨x⟩ := a
 obtain ⟨y⟩ := b
 have h : ((⟨x⟩ : ByteArray) == ⟨y⟩) = (x == y) := rfl
 rw [h,Bool.eq_iff_iff,beq_iff_eq,decide_eq_true_eq,ByteArray.mk.injEq]
end Go.Proofs.YticmfblfghdkbaaGreatDoor.Eng
namespace Go.Proofs.YticmfblfghdkbaaGreatDoor.Eng
open Go Go.RowKit Go.Extern.Stop Go.Stop Go.Extern
theorem Zo8 (v : Value) (w : World) : (Extern.ReflectliteType.typeOf #[.iface 190 v]).run Tryz.prog w = .ok (.iface 235 (.agg #[.pointer (some ⟨7,190,none⟩)])) w := by kernel_rfl
theorem Zkf (w : World) : (Extern.ReflectliteType.method cmpM #[.agg #[.pointer (some ⟨7,190,none⟩)]]).run Tryz.prog w = .ok (.bool true) w := by kernel_rfl
theorem Z8s (a : ByteArray) (w : World) : (binOp .eql 98 (.iface 190 (.string a)) (.iface 190 (.string a))).run Tryz.prog w = .ok (.bool true) w := by
 rw [Zir w a a Tryz.underlying98 (by kernel_rfl) Tryz.underlying190,Zxe,decide_eq_true rfl]
theorem Z8c {a b : ByteArray} (h : a ≠ b) (w : World) : (binOp .eql 98 (.iface 190 (.string a)) (.iface 190 (.string b))).run Tryz.prog w = .ok (.bool false) w := by
 rw [Zir w a b Tryz.underlying98 (by kernel_rfl) Tryz.underlying190,Zxe,decide_eq_false h]
theorem Zuc (v : Value) (xT : TypeId) (w : World) : (Instr.typeAssert (.iface 246 v) xT 237 true).run Tryz.prog w = .ok (.tuple #[.nilIface,.bool false]) w := run_typeAssert_lacksB Tryz.underlying237 (by kernel_rfl) (by kernel_rfl) v xT w
theorem Z42 (v : Value) (xT : TypeId) (w : World) : (Instr.typeAssert (.iface 190 v) xT 237 true).run Tryz.prog w = .ok (.tuple #[.nilIface,.bool false]) w := run_typeAssert_lacksB Tryz.underlying237 (by kernel_rfl) (by kernel_rfl) v xT w
theorem Z5k (v : Value) (xT : TypeId) (w : World) : (Instr.typeAssert (.iface 190 v) xT 240 true).run Tryz.prog w = .ok (.tuple #[.nilIface,.bool false]) w := run_typeAssert_lacksB Tryz.underlying240 (by kernel_rfl) (by kernel_rfl) v xT w
theorem Z2o (v : Value) (xT : TypeId) (w : World) : (Instr.typeAssert (.iface 190 v) xT 242 true).run Tryz.prog w = .ok (.tuple #[.nilIface,.bool false]) w := run_typeAssert_lacksB Tryz.underlying242 (by kernel_rfl) (by kernel_rfl) v xT w
theorem Zsl (v : Value) (xT : TypeId) (w : World) : (Instr.typeAssert (.iface 246 v) xT 240 true).run Tryz.prog w = .ok (.tuple #[.iface 246 v,.bool true]) w := run_typeAssert_hasB Tryz.underlying240 (by kernel_rfl) v xT w
theorem Zo6 (v : Value) (w : World) : (Go.method 437 246 v "Unwrap").run Tryz.prog w = .ok (284,v) w := by kernel_rfl
theorem Z2d (v : Value) (w : World) :
  Calls Tryz.prog 94 #[.nilIface,.iface 190 v] w fun e w' => e = .returned (.bool false) ∧ w' = w := by
 have hn := run_eql_iface_nil_left (P := Tryz.prog) w 190 v Tryz.underlying98
 go_enter Tryz.func94,Tryz.ntmps94
 go_wp2
 go_ret
 exact ⟨rfl,rfl⟩
theorem Z2f (x0 : Int) (a : ByteArray) (w : World) :
  Calls Tryz.prog 94 #[.iface 246 (.agg #[.int .i64 x0,.iface 190 (.string a)]),.iface 190 (.string a)] w fun e w' => e = .returned (.bool true) ∧ Below w.heap.size w w' ∧ w.drawn ≤ w'.drawn := by
 have h8 := @run_callFunc_extern Tryz.prog 139 _ Extern.ReflectliteType.typeOf Tryz.func139 (by kernel_rfl) (by kernel_rfl) (by kernel_rfl) (by kernel_rfl)
 have h32 := @run_callFunc_extern Tryz.prog 274 _ (Extern.ReflectliteType.method cmpM) Tryz.func274 (by kernel_rfl) (by kernel_rfl) (by kernel_rfl) (by kernel_rfl)
 have tT := Zo8
 have cT := Zkf
 have mR := Zfq
 have nE := Zuc
 have uW := Zsl
 have mU := Zo6
 have heq := Z8s a
 have hty := run_eql_iface_types (P := Tryz.prog) 246 190 (.agg #[.int .i64 x0,.iface 190 (.string a)]) (.string a) Tryz.underlying98 (by decide)
 go_enter Tryz.func94,Tryz.ntmps94
 go_wp2
 refine wp_loop_rounds 2 ?_
 rw [rounds_succ]
 go_wp2
 rw [rounds_succ]
 go_wp2
 go_ret
 exact ⟨rfl,(Below.refl _ w).alloc (Nat.le_refl _) _,Nat.le_refl _⟩
theorem Zzp (x0 : Int) {a b : ByteArray} (hab : a ≠ b) (w : World) :
  Calls Tryz.prog 94 #[.iface 246 (.agg #[.int .i64 x0,.iface 190 (.string a)]),.iface 190 (.string b)] w fun e w' => e = .returned (.bool false) ∧ Below w.heap.size w w' ∧ w.drawn ≤ w'.drawn := by
 have h8 := @run_callFunc_extern Tryz.prog 139 _ Extern.ReflectliteType.typeOf Tryz.func139 (by kernel_rfl) (by kernel_rfl) (by kernel_rfl) (by kernel_rfl)
 have h32 := @run_callFunc_extern Tryz.prog 274 _ (Extern.ReflectliteType.method cmpM) Tryz.func274 (by kernel_rfl) (by kernel_rfl) (by kernel_rfl) (by kernel_rfl)
 have tT := Zo8
 have cT := Zkf
 have mR := Zfq
 have nE := Zuc
 have nR := Z42
 have uW := Zsl
 have uR := Z5k
 have uS := Z2o
 have mU := Zo6
 have heq := Z8c hab
 have hty := run_eql_iface_types (P := Tryz.prog) 246 190 (.agg #[.int .i64 x0,.iface 190 (.string a)]) (.string b) Tryz.underlying98 (by decide)
 go_enter Tryz.func94,Tryz.ntmps94
 go_wp2
 refine wp_loop_rounds 2 ?_
 rw [rounds_succ]
 go_wp2
 rw [rounds_succ]
 go_wp2
 go_ret
 exact ⟨rfl,(Below.refl _ w).alloc (Nat.le_refl _) _,Nat.le_refl _⟩
abbrev Zrb (a : ByteArray) : Cell := .iface 190 false [.str a]
abbrev Zfx (x0 : Int) (a : ByteArray) : Cell := .iface 246 true [.int .i64 x0,Zrb a]
theorem Zpm {m : LMap} {σ : Mem} {a : ByteArray} {v : Value} (h : VR m σ (Zrb a) v) : v = .iface 190 (.string a) := by
 cases h with
 | ifaceC h => cases h; rfl
theorem Z69 {m : LMap} {σ : Mem} {x0 : Int} {a : ByteArray} {v : Value} (h : VR m σ (Zfx x0 a) v) : v = .iface 246 (.agg #[.int .i64 x0,.iface 190 (.string a)]) := by
 cases h with
 | ifaceA hl ha =>
  rename_i vs
  obtain ⟨vs⟩ := vs
  match vs,hl,ha with
  | [y0,y1],_,ha =>
   have h0 := ha 0 _ y0 rfl rfl
   have h1 := Zpm (ha 1 _ y1 rfl rfl)
   cases h0
   subst h1
   rfl
theorem Zlv (a : ByteArray) : Pr 94 [.c .nilI,.c (Zrb a)] (bC false) := by
 intro H
 refine ⟨⟨_,Tryz.func94,rfl,rfl⟩,fun B m w vs r ha => ?_⟩
 obtain ⟨vs⟩ := vs
 cases ha with
 | cons a1 a2 =>
  cases a2 with
  | cons a2 a3 =>
   cases a3
   cases a1 with
   | c a1 =>
    cases a1
    cases a2 with
    | c a2 =>
     obtain rfl := Zpm a2
     refine (Z2d _ w).mono ?_
     rintro e w' ⟨rfl,rfl⟩
     exact ⟨_,m,rfl,St.refl r,.c (.bool _)⟩
theorem Zjh (x0 : Int) (a b : ByteArray) : Pr 94 [.c (Zfx x0 a),.c (Zrb b)] (bC (decide (a = b))) := by
 intro H
 refine ⟨⟨_,Tryz.func94,rfl,rfl⟩,fun B m w vs r ha => ?_⟩
 obtain ⟨vs⟩ := vs
 cases ha with
 | cons a1 a2 =>
  cases a2 with
  | cons a2 a3 =>
   cases a3
   cases a1 with
   | c a1 =>
    obtain rfl := Z69 a1
    cases a2 with
    | c a2 =>
     obtain rfl := Zpm a2
     by_cases hab : a = b
     ·subst hab
      rw [decide_eq_true rfl]
      refine (Z2f x0 a w).mono ?_
      rintro e w' ⟨rfl,hb,hd⟩
      exact ⟨_,⟨m.f,m.z⟩,rfl,St.ofBelow r hb (Or.inr hd) (fun _ h => h) (fun _ h => .inl h),.c (.bool _)⟩
     ·rw [decide_eq_false hab]
      refine (Zzp x0 hab w).mono ?_
      rintro e w' ⟨rfl,hb,hd⟩
      exact ⟨_,⟨m.f,m.z⟩,rfl,St.ofBelow r hb (Or.inr hd) (fun _ h => h) (fun _ h => .inl h),.c (.bool _)⟩
theorem Zea {G : Prog} {p : Post} {k : List Itm} {e : Env} {H : Heap} {a b : ACode} {P : Env → Heap → Prop} (h1 : ∀ K : List Itm,(∀ e' H',P e' H' → Run G p K e' H') → Run G p (.code a :: K) e H) (h2 : ∀ e' H',P e' H' → Run G p (.code b :: k) e' H') : Run G p (.code (.seq a b) :: k) e H := by
 rw [Zuy]
 exact h1 _ h2
abbrev Zh1 : ByteArray := ⟨#[110,111,32,114,101,99,111,114,100]⟩
abbrev Zh7 : ByteArray := ⟨#[97,110,111,116,104,101,114,32,114,101,99,111,114,100,32,97,104,101,97,100]⟩
abbrev Zh8 : ByteArray := ⟨#[97,32,109,101,109,98,101,114,32,116,104,97,116,32,105,115,32,110,111,110,101,44,32,111,114,32,110,111,110,101,32,116,104,97,116,32,105,115,32,111,110,101]⟩
def c2B (done : List Rec) (r : Rec) : Bool := decide (r.seq = (done.length : Int) + 1) && decide (r.prev = Zbe done)
def c3B (ins : List Int) (done : List Rec) (r : Rec) : Bool := decide (done.length = 0) && (decide (r.kind ≠ 1) || decide (r.dev ≠ 0)) || decide (r.kind = 2) && decide (r.dev = 0) || (decide (r.dev ∈ ins) != decide (r.kind = 2))
def Zhd (ins : List Int) (done : List Rec) (r : Rec) : AVal :=
 if Z5 r = false then .c (Zfx done.length Zh1)
 else if c2B done r = false then .c (Zfx done.length Zh7)
 else if c3B ins done r = true then .c (Zfx done.length Zh8)
 else .c .nilI
theorem Zvr {ins : List Int} {done : List Rec} {r : Rec} (h : Zmr ins done r = true) : Zhd ins done r = .c .nilI := by
 unfold Zmr at h
 rw [show (decide (r.seq = (done.length : Int) + 1) && decide (r.prev = Zbe done)) = c2B done r from rfl] at h
 rw [show (decide (done.length = 0) && (decide (r.kind ≠ 1) || decide (r.dev ≠ 0)) || decide (r.kind = 2) && decide (r.dev = 0) || (decide (r.dev ∈ ins) != decide (r.kind = 2))) = c3B ins done r from rfl] at h
 simp only [Bool.and_eq_true,Bool.not_eq_true'] at h
 unfold Zhd
 simp [h.1.1,h.1.2,h.2]
theorem Zvl {ins : List Int} {done : List Rec} {r : Rec} (h : Zmr ins done r = false) : ∃ a,(a = Zh1 ∨ a = Zh7 ∨ a = Zh8) ∧ Zhd ins done r = .c (Zfx done.length a) := by
 unfold Zmr at h
 rw [show (decide (r.seq = (done.length : Int) + 1) && decide (r.prev = Zbe done)) = c2B done r from rfl] at h
 rw [show (decide (done.length = 0) && (decide (r.kind ≠ 1) || decide (r.dev ≠ 0)) || decide (r.kind = 2) && decide (r.dev = 0) || (decide (r.dev ∈ ins) != decide (r.kind = 2))) = c3B ins done r from rfl] at h
 unfold Zhd
 cases h1 : Z5 r with
 | false => exact ⟨Zh1,.inl rfl,by simp⟩
 | true =>
  cases h2 : c2B done r with
  | false => exact ⟨Zh7,.inr (.inl rfl),by simp⟩
  | true =>
   cases h3 : c3B ins done r with
   | true => exact ⟨Zh8,.inr (.inr rfl),by simp⟩
   | false => rw [h1,h2,h3] at h; cases h
set_option maxHeartbeats 2000000 in
theorem Zu7 (done : List Rec) (r : Rec) (rest : List Rec) (ins : List Int) (hd : done.length ≤ 40) :
  Pr 141 [.c (Z2 (done ++ r :: rest)),iC done.length,.c (Zd3 ins)] (Zhd ins done r) := by
 have hmay := Zi2 r
 obtain ⟨v,hv⟩ : ∃ v,v = Zhd ins done r := ⟨_,rfl⟩
 rw [← hv]
 have hcon := Zie ins r.dev
 have hr : ((done ++ r :: rest).map Rec.cells)[done.length]? = some r.cells := Zeh (f := Rec.cells) rfl
 have hprev : done ≠ [] → ∃ l : Rec,((done ++ r :: rest).map Rec.cells)[done.length - 1]? = some l.cells ∧ Zjv l = Zbe done := fun h => by
  have hl : 0 < done.length := List.length_pos_iff.2 h
  refine ⟨done[done.length - 1]'(by omega),?_,?_⟩
  ·rw [List.getElem?_map,List.getElem?_append_left (by omega),List.getElem?_eq_getElem (by omega)]
   rfl
  ·unfold Zbe
   rw [List.getLast?_eq_getElem?,List.getElem?_eq_getElem (by omega)]
 have hprev0 : done = [] → Zbe done = Zz := fun h => by rw [h]; rfl
 obtain ⟨recs,hrecs⟩ : ∃ recs,recs = (done ++ r :: rest).map Rec.cells := ⟨_,rfl⟩
 have hrc : closedR recs = true := by rw [hrecs]; exact Zb5 _
 have hR : Z2 (done ++ r :: rest) = .lst 6 recs := by rw [hrecs]; rfl
 rw [hR]
 rw [← hrecs] at hr hprev
 clear hrecs hR
 have hcI : ∀ (n : Int) (a : ByteArray),Zc (Zfx n a) = true := fun _ _ => rfl
 refine Zl mixed Zu3 (by simp [Zq,Zp,Zc,Zd3,hrc,Zey]) fun hl T => ?_
 have hmd := Zqr (r := r)
 have hc2 : c2B done r = (decide (r.seq = (done.length : Int) + 1) && decide (r.prev = Zbe done)) := rfl
 have hc3 : c3B ins done r = (decide ((done.length : Int) = 0) && (decide (r.kind ≠ 1) || decide (r.dev ≠ 0)) || decide (r.kind = 2) && decide (r.dev = 0) || (decide (r.dev ∈ ins) != decide (r.kind = 2))) := by
  unfold c3B
  simp only [Int.natCast_eq_zero]
 have hv' : v = if Z5 r = false then .c (Zfx done.length Zh1) else if c2B done r = false then .c (Zfx done.length Zh7) else if c3B ins done r = true then .c (Zfx done.length Zh8) else .c .nilI := hv
 rw [hc2,hc3] at hv'
 clear hv hc2 hc3
 have hw1 : IntKind.wrap .i64 ((done.length : Int) - 1) = (done.length : Int) - 1 := Zn (by omega)
 have hw2 : IntKind.wrap .i64 ((done.length : Int) + 1) = (done.length : Int) + 1 := Zn (by omega)
 generalize Zbe done = pv at hprev hprev0 hv'
 generalize Z5 r = mb at hmay hmd hv'
 obtain ⟨seq,prev,kind,dv,wraps,tag⟩ := r
 simp only at hcon hmd hv'
 generalize decide (dv ∈ ins) = ib at hcon hv'
 simp only [Rec.cells] at hr hmay
 generalize Zv wraps = W at hr hmay
 generalize Zd3 ins = I at hcon ⊢
 obtain ⟨row,hrow⟩ : ∃ row : List Cell,row = [.int .i64 seq,.str prev,.int .i64 kind,.int .i64 dv,W,.str tag] := ⟨_,rfl⟩
 unfold Zng
 refine Zea (P := fun e H => e 0 = .c (.lst 6 recs) ∧ e 1 = iC done.length ∧ e 2 = .c I ∧ H = []) (fun K hK => ?_) fun e H ⟨h0,h1,h2,hH⟩ => ?_
 ·simp only [go_sem,simprocAttr]
  refine hK _ _ ⟨?_,?_,?_,rfl⟩ <;> simp only [go_sem,simprocAttr]
 refine Zea (P := fun e H => e 0 = .c (.lst 6 recs) ∧ e 1 = iC done.length ∧ e 2 = .c I ∧ e 7 = .c (.ptr 0 0 0) ∧ H = [{ sz := 6,rows := [row],own := true,live := true }]) (fun K hK => ?_) fun e H ⟨h0,h1,h2,h7,hH⟩ => ?_
 ·subst hH
  simp only [go_sem,simprocAttr,h0,h1,hr]
  refine hK _ _ ⟨?_,?_,?_,?_,by rw [hrow]⟩ <;> simp only [go_sem,simprocAttr,h0,h1,h2]
 refine Zea (P := fun e H => e 0 = .c (.lst 6 recs) ∧ e 1 = iC done.length ∧ e 2 = .c I ∧ e 7 = .c (.ptr 0 0 0) ∧ e 8 = sC Zz ∧ H = [{ sz := 6,rows := [row],own := true,live := true }]) (fun K hK => ?_) fun e H ⟨h0,h1,h2,h7,h8,hH⟩ => ?_
 ·simp only [go_sem,simprocAttr]
  refine hK _ _ ⟨?_,?_,?_,?_,?_,hH⟩ <;> simp only [go_sem,simprocAttr,h0,h1,h2,h7]
 refine Zea (P := fun e H => e 0 = .c (.lst 6 recs) ∧ e 1 = iC done.length ∧ e 2 = .c I ∧ e 7 = .c (.ptr 0 0 0) ∧ e 8 = sC pv ∧ H = [{ sz := 6,rows := [row],own := true,live := true }]) (fun K hK => ?_) fun e H ⟨h0,h1,h2,h7,h8,hH⟩ => ?_
 ·by_cases hz : done = []
  ·have hpos : ¬ ((0 : Int) < (done.length : Int)) := by rw [hz]; simp
   simp only [go_sem,simprocAttr,h0,h1,hpos]
   rw [hprev0 hz] at hK
   refine hK _ _ ⟨?_,?_,?_,?_,?_,hH⟩ <;> simp only [go_sem,simprocAttr,h0,h1,h2,h7,h8]
  ·obtain ⟨l,hl1,hl2⟩ := hprev hz
   have hpos : (0 : Int) < (done.length : Int) := by have := List.length_pos_iff.2 hz; omega
   have hti : ((done.length : Int) - 1).toNat = done.length - 1 := by omega
   have hge : (0 : Int) ≤ (done.length : Int) - 1 := by omega
   have hhash := Zqi l
   rw [hl2] at hhash
   have hlen6 : ∀ l : Rec,l.cells.length = 6 := fun _ => rfl
   have htk6 : ∀ l : Rec,l.cells.take 6 = l.cells := fun _ => rfl
   have hix : ∀ H : Heap,vIx 6 (.c (.lst 6 recs)) (iC ((done.length : Int) - 1)) H = some (.c (.fp l.cells 0),H) := fun H => by
    simp only [vIx]
    rw [if_pos ⟨trivial,hge⟩,hti,hl1]
   simp only [go_sem,simprocAttr,h0,h1,hpos,hw1,hix,hlen6,htk6]
   refine Za hhash ?_
   simp only [go_sem,simprocAttr]
   refine hK _ _ ⟨?_,?_,?_,?_,?_,hH⟩ <;> simp only [go_sem,simprocAttr,h0,h1,h2,h7,h8]
 refine Zea (P := fun e H => e 0 = .c (.lst 6 recs) ∧ e 1 = iC done.length ∧ e 2 = .c I ∧ e 7 = .c (.ptr 0 0 0) ∧ e 8 = sC pv ∧ e 9 = bC ib ∧ H = [{ sz := 6,rows := [row],own := true,live := true }]) (fun K hK => ?_) fun e H ⟨h0,h1,h2,h7,h8,h9,hH⟩ => ?_
 ·have hHH := hH
  rw [hrow] at hHH
  subst hHH
  simp only [go_sem,simprocAttr,h2,h7]
  refine Za hcon ?_
  simp only [go_sem,simprocAttr]
  refine hK _ _ ⟨?_,?_,?_,?_,?_,?_,hH⟩ <;> simp only [go_sem,simprocAttr,h0,h1,h2,h7,h8]
 rw [hrow] at hH
 subst hH
 cases mb with
 | false =>
  simp only [go_sem,simprocAttr,h1,h7]
  refine Za hmay ?_
  simp only [go_sem,simprocAttr,h1]
  simp [Zf,Ze,Zk,Zg,Zh,Zd,Zc,Zb,hv']
 | true =>
  obtain ⟨hkind,hdv0,hdv8⟩ := hmd rfl
  by_cases s1 : seq = (done.length : Int) + 1
  ·by_cases s2 : prev = pv
   ·have b1 : (true != false) = true := rfl
    have b2 : (false != true) = true := rfl
    have b3 : (true != true) = false := rfl
    have b4 : (false != false) = false := rfl
    have q21 : ¬ ((2 : Int) = 1) := by omega
    have q12 : ¬ ((1 : Int) = 2) := by omega
    by_cases i0 : (done.length : Int) = 0
    ·have i1 := eq_true i0
     have i2 : (done = []) = True := eq_true (List.eq_nil_of_length_eq_zero (by omega))
     rcases hkind with k1 | k1
     ·by_cases d0 : dv = 0
      ·cases ib with
       | false =>
        simp only [go_sem,simprocAttr,h1,h7]
        refine Za hmay ?_
        simp only [go_sem,simprocAttr,h1,h7,h8,h9,hw2,s1,s2,i1,k1,d0,b1,b2,b3,b4,q21,q12]
        simp [Zf,Ze,Zk,Zg,Zh,Zd,Zc,Zb,hv',s1,s2,i1,i2,k1,d0,b1,b2,b3,b4,q21,q12]
       | true =>
        simp only [go_sem,simprocAttr,h1,h7]
        refine Za hmay ?_
        simp only [go_sem,simprocAttr,h1,h7,h8,h9,hw2,s1,s2,i1,k1,d0,b1,b2,b3,b4,q21,q12]
        simp [Zf,Ze,Zk,Zg,Zh,Zd,Zc,Zb,hv',s1,s2,i1,i2,k1,d0,b1,b2,b3,b4,q21,q12]
      ·cases ib with
       | false =>
        simp only [go_sem,simprocAttr,h1,h7]
        refine Za hmay ?_
        simp only [go_sem,simprocAttr,h1,h7,h8,h9,hw2,s1,s2,i1,k1,d0,b1,b2,b3,b4,q21,q12]
        simp [Zf,Ze,Zk,Zg,Zh,Zd,Zc,Zb,hv',s1,s2,i1,i2,k1,d0,b1,b2,b3,b4,q21,q12]
       | true =>
        simp only [go_sem,simprocAttr,h1,h7]
        refine Za hmay ?_
        simp only [go_sem,simprocAttr,h1,h7,h8,h9,hw2,s1,s2,i1,k1,d0,b1,b2,b3,b4,q21,q12]
        simp [Zf,Ze,Zk,Zg,Zh,Zd,Zc,Zb,hv',s1,s2,i1,i2,k1,d0,b1,b2,b3,b4,q21,q12]
     ·by_cases d0 : dv = 0
      ·cases ib with
       | false =>
        simp only [go_sem,simprocAttr,h1,h7]
        refine Za hmay ?_
        simp only [go_sem,simprocAttr,h1,h7,h8,h9,hw2,s1,s2,i1,k1,d0,b1,b2,b3,b4,q21,q12]
        simp [Zf,Ze,Zk,Zg,Zh,Zd,Zc,Zb,hv',s1,s2,i1,i2,k1,d0,b1,b2,b3,b4,q21,q12]
       | true =>
        simp only [go_sem,simprocAttr,h1,h7]
        refine Za hmay ?_
        simp only [go_sem,simprocAttr,h1,h7,h8,h9,hw2,s1,s2,i1,k1,d0,b1,b2,b3,b4,q21,q12]
        simp [Zf,Ze,Zk,Zg,Zh,Zd,Zc,Zb,hv',s1,s2,i1,i2,k1,d0,b1,b2,b3,b4,q21,q12]
      ·cases ib with
       | false =>
        simp only [go_sem,simprocAttr,h1,h7]
        refine Za hmay ?_
        simp only [go_sem,simprocAttr,h1,h7,h8,h9,hw2,s1,s2,i1,k1,d0,b1,b2,b3,b4,q21,q12]
        simp [Zf,Ze,Zk,Zg,Zh,Zd,Zc,Zb,hv',s1,s2,i1,i2,k1,d0,b1,b2,b3,b4,q21,q12]
       | true =>
        simp only [go_sem,simprocAttr,h1,h7]
        refine Za hmay ?_
        simp only [go_sem,simprocAttr,h1,h7,h8,h9,hw2,s1,s2,i1,k1,d0,b1,b2,b3,b4,q21,q12]
        simp [Zf,Ze,Zk,Zg,Zh,Zd,Zc,Zb,hv',s1,s2,i1,i2,k1,d0,b1,b2,b3,b4,q21,q12]
    ·have i1 := eq_false i0
     have i2 : (done = []) = False := eq_false (fun h => i0 (by rw [h]; rfl))
     rcases hkind with k1 | k1
     ·by_cases d0 : dv = 0
      ·cases ib with
       | false =>
        simp only [go_sem,simprocAttr,h1,h7]
        refine Za hmay ?_
        simp only [go_sem,simprocAttr,h1,h7,h8,h9,hw2,s1,s2,i1,k1,d0,b1,b2,b3,b4,q21,q12]
        simp [Zf,Ze,Zk,Zg,Zh,Zd,Zc,Zb,hv',s1,s2,i1,i2,k1,d0,b1,b2,b3,b4,q21,q12]
       | true =>
        simp only [go_sem,simprocAttr,h1,h7]
        refine Za hmay ?_
        simp only [go_sem,simprocAttr,h1,h7,h8,h9,hw2,s1,s2,i1,k1,d0,b1,b2,b3,b4,q21,q12]
        simp [Zf,Ze,Zk,Zg,Zh,Zd,Zc,Zb,hv',s1,s2,i1,i2,k1,d0,b1,b2,b3,b4,q21,q12]
      ·cases ib with
       | false =>
        simp only [go_sem,simprocAttr,h1,h7]
        refine Za hmay ?_
        simp only [go_sem,simprocAttr,h1,h7,h8,h9,hw2,s1,s2,i1,k1,d0,b1,b2,b3,b4,q21,q12]
        simp [Zf,Ze,Zk,Zg,Zh,Zd,Zc,Zb,hv',s1,s2,i1,i2,k1,d0,b1,b2,b3,b4,q21,q12]
       | true =>
        simp only [go_sem,simprocAttr,h1,h7]
        refine Za hmay ?_
        simp only [go_sem,simprocAttr,h1,h7,h8,h9,hw2,s1,s2,i1,k1,d0,b1,b2,b3,b4,q21,q12]
        simp [Zf,Ze,Zk,Zg,Zh,Zd,Zc,Zb,hv',s1,s2,i1,i2,k1,d0,b1,b2,b3,b4,q21,q12]
     ·by_cases d0 : dv = 0
      ·cases ib with
       | false =>
        simp only [go_sem,simprocAttr,h1,h7]
        refine Za hmay ?_
        simp only [go_sem,simprocAttr,h1,h7,h8,h9,hw2,s1,s2,i1,k1,d0,b1,b2,b3,b4,q21,q12]
        simp [Zf,Ze,Zk,Zg,Zh,Zd,Zc,Zb,hv',s1,s2,i1,i2,k1,d0,b1,b2,b3,b4,q21,q12]
       | true =>
        simp only [go_sem,simprocAttr,h1,h7]
        refine Za hmay ?_
        simp only [go_sem,simprocAttr,h1,h7,h8,h9,hw2,s1,s2,i1,k1,d0,b1,b2,b3,b4,q21,q12]
        simp [Zf,Ze,Zk,Zg,Zh,Zd,Zc,Zb,hv',s1,s2,i1,i2,k1,d0,b1,b2,b3,b4,q21,q12]
      ·cases ib with
       | false =>
        simp only [go_sem,simprocAttr,h1,h7]
        refine Za hmay ?_
        simp only [go_sem,simprocAttr,h1,h7,h8,h9,hw2,s1,s2,i1,k1,d0,b1,b2,b3,b4,q21,q12]
        simp [Zf,Ze,Zk,Zg,Zh,Zd,Zc,Zb,hv',s1,s2,i1,i2,k1,d0,b1,b2,b3,b4,q21,q12]
       | true =>
        simp only [go_sem,simprocAttr,h1,h7]
        refine Za hmay ?_
        simp only [go_sem,simprocAttr,h1,h7,h8,h9,hw2,s1,s2,i1,k1,d0,b1,b2,b3,b4,q21,q12]
        simp [Zf,Ze,Zk,Zg,Zh,Zd,Zc,Zb,hv',s1,s2,i1,i2,k1,d0,b1,b2,b3,b4,q21,q12]
   ·simp only [go_sem,simprocAttr,h1,h7]
    refine Za hmay ?_
    simp only [go_sem,simprocAttr,h1,h7,h8,hw2,s1,s2]
    simp [Zf,Ze,Zk,Zg,Zh,Zd,Zc,Zb,hv',s1,s2]
  ·simp only [go_sem,simprocAttr,h1,h7]
   refine Za hmay ?_
   simp only [go_sem,simprocAttr,h1,h7,hw2,s1]
   simp [Zf,Ze,Zk,Zg,Zh,Zd,Zc,Zb,hv',s1]
theorem Zbjd {G : Prog} {p : Post} {k : List Itm} {e : Env} {H : Heap} {c : ACode} {t s b sz q : Nat} {row : List Cell} {rows : List (List Cell)} (ht : e t = .c (.ptr b 0 0)) (hb : H[b]? = some { sz := sz,rows := [row],own := true,live := true }) (ha : Acc q rows (e s) H) (hn : NB (e s) b)
  (hw : ∀ e' H',e' t = .c (.fp row 0) → (∀ u v,e u = v → Zp v = true → e' u = v) → Acc q rows (e' s) H' → Run G p (.code c :: k) e' H') : Run G p (.code (.fz t c) :: k) e H := by
 refine Zxh ⟨b,_,by rw [ht]; rfl,hb,rfl,rfl,hw _ _ ?_ (fun u v hv hc => ?_) ?_⟩
 ·rw [Zef,ht,Zgv,Zqf rfl]
 ·rw [Zef,hv,Zfv hc]
 ·rcases ha with ⟨h0,hv⟩ | ⟨b',ext,h1,h2⟩
  ·refine .inl ⟨h0,?_⟩
   rw [Zef]
   rcases hv with hv | hv
   ·left; rw [hv]; exact Zfv rfl
   ·right; rw [hv]; exact Zfv rfl
  ·have hne : b' ≠ b := fun h => by subst h; exact hn _ _ _ _ h1
   refine .inr ⟨b',ext,?_,Z5g h2 hne⟩
   rw [Zef,h1,Zgv]
   simp [Cell.frz,hne]
theorem Zu2 (r : Rec) (n : Int) : Pr 143 [iC n,.c (.fp r.cells 0)] (bC (decide (n = r.dev))) := by
 have hcl := Rec.closed r
 refine Zl mixed Zu4 (by simp [Zq,Zp,Zc,hcl]) fun hl T => ?_
 unfold Zn1
 obtain ⟨seq,prev,kind,dv,wraps,tag⟩ := r
 simp only [Rec.cells]
 by_cases h : n = dv
 ·simp only [go_sem,simprocAttr,h]
  simp [Zf,Ze,Zk,Zg,Zh,Zd,Zc,Zb]
 ·simp only [go_sem,simprocAttr,h]
  simp [Zf,Ze,Zk,Zg,Zh,Zd,Zc,Zb,h]
theorem Z19 (ins : List Int) (done : List Rec) (r : Rec) : Zjn (Zhd ins done r) = true := by
 cases h : Zmr ins done r with
 | true => rw [Zvr h]; rfl
 | false => obtain ⟨a,_,h⟩ := Zvl h; rw [h]; rfl
theorem Zbbf (ins : List Int) (d : Int) : (ins.filter fun f => !decide (f = d)) = ins.filter fun n => decide (n ≠ d) := by
 refine List.filter_congr fun x _ => ?_
 by_cases h : x = d <;> simp [h]
set_option maxHeartbeats 2000000 in
theorem Zzd (log : List Rec) : Pr 96 [.c (Z2 log)] (bC (Zdj log)) := by
 refine Zl mixed Zzj (by simp [Zq,Zp,Zc,Z2,Zb5]) fun hl T => ?_
 have hlen : log.length ≤ maxLen := by simp [Zgh,lenA,lenC,Z2] at hl; exact hl
 unfold Zp4
 obtain ⟨v,hv⟩ : ∃ v,v = Zdj log := ⟨_,rfl⟩
 rw [← hv]
 unfold Zdj at hv
 have hml : (log.map Rec.cells).length = log.length := by simp
 by_cases h40 : log.length ≤ 40
 ·have h40' : ¬ ((40 : Int) < (log.length : Int)) := by omega
  rw [decide_eq_true h40,Bool.true_and] at hv
  have hrc : closedR (log.map Rec.cells) = true := Zb5 log
  have loop : ∀ (rest done : List Rec) (ins : List Int) (e : Env) (H : Heap),log = done ++ rest → InsOk ins done → chk [] done = true → ins.length ≤ done.length → e 0 = .c (.lst 6 (log.map Rec.cells)) → e 10 = .c (.lst 6 (log.map Rec.cells)) → e 11 = iC (log.map Rec.cells).length → e 12 = iC done.length → Acc 1 (ins.map iRow) (e 3) H → v = chk done rest →
    Run (Zt Tryz.prog T) ⟨[.tmp 2],fun u E => Zf E u = some (bC v)⟩ [.loop Zhc,.blk 0,.code Zj9] e H := by
   intro rest
   induction rest with
   | nil =>
    intro done ins e H hp hi hcd hil h0 h10 h11 h12 ha hvv
    have hc := Zdm (f := Rec.cells) hp
    refine Zi ?_
    conv => enter [3,1]; unfold Zhc
    simp only [go_sem,simprocAttr,h11,h12,hc]
    unfold Zj9
    simp only [go_sem,simprocAttr]
    simp only [chk] at hvv
    simp [Zf,Ze,Zk,Zg,Zh,Zd,Zc,Zb,hvv]
   | cons r rest ih =>
    intro done ins e H hp hi hcd hil h0 h10 h11 h12 ha hvv
    have hc := Zh0 (f := Rec.cells) hp
    have hr := Zeh (f := Rec.cells) hp
    have hn := Zcy hp hlen
    have hdl : done.length ≤ 40 := by rw [hp] at h40; simp at h40; omega
    have hch := Zu7 done r rest ins hdl
    rw [← hp] at hch
    obtain ⟨vi,hvi,hwi⟩ := (ha.snoc (k := { sz := 6,rows := [r.cells],own := true,live := true })).told (Zey ins)
    have hch2 : Pr 141 [.c (.lst 6 (log.map Rec.cells)),iC done.length,vi] (Zhd ins done r) := hch.wk (.cons (.same _) (.cons (.same _) (.cons hwi .nil)))
    have hva : Zd (H ++ [{ sz := 6,rows := [r.cells],own := true,live := true }]) ([.c (.lst 6 (log.map Rec.cells)),iC done.length,e 3] ++ List.map AVal.c []) = some [.c (.lst 6 (log.map Rec.cells)),iC done.length,vi] := by
     simp [Zd,Zf,Ze,Zk,Zc,hrc,hvi]
    obtain ⟨G,hG⟩ : ∃ G : Heap,G = H ++ [{ sz := 6,rows := [r.cells],own := true,live := true }] := ⟨_,rfl⟩
    have gl : G[H.length]? = some { sz := 6,rows := [r.cells],own := true,live := true } := by rw [hG]; exact Zkl
    have haG : Acc 1 (ins.map iRow) (e 3) G := by rw [hG]; exact ha.snoc
    have hnb : NB (e 3) H.length := ha.nb_ge (Nat.le_refl _)
    rw [← hG] at hva
    have hst := Zbfm hi r
    have hlen6 : r.cells.length = 6 := rfl
    have htk6 : r.cells.take 6 = r.cells := rfl
    have hdr6 : r.cells.drop 6 = [] := rfl
    have hpl := Z19 ins done r
    refine Zi ?_
    conv => enter [3,1]; unfold Zhc
    simp only [go_sem,simprocAttr,h0,h10,h11,h12,hc,hr,hlen6,htk6,hdr6]
    rw [← hG]
    refine Zfp hch2 hva hpl ?_
    have hrow : Heap.row G H.length 0 = some r.cells := Zu gl
    have hkk : r.cells = [.int .i64 r.seq,.str r.prev,.int .i64 r.kind,.int .i64 r.dev,Zv r.wraps,.str r.tag] := rfl
    have chk1 : chk done (r :: rest) = (Zed done r && chk (done ++ [r]) rest) := rfl
    rw [chk1] at hvv
    cases hs : Zmr ins done r with
    | false =>
     rw [← hst,hs,Bool.false_and] at hvv
     obtain ⟨a,hA,hca⟩ := Zvl hs
     rw [hca]
     have d11 : decide (Zh1 = Zh1) = true := decide_eq_true rfl
     have d21 : decide (Zh7 = Zh1) = false := by decide
     have d31 : decide (Zh8 = Zh1) = false := by decide
     have d22 : decide (Zh7 = Zh7) = true := decide_eq_true rfl
     have d32 : decide (Zh8 = Zh7) = false := by decide
     have d33 : decide (Zh8 = Zh8) = true := decide_eq_true rfl
     rcases hA with rfl | rfl | rfl
     ·have q1 := Zjh done.length Zh1 Zh1
      rw [d11] at q1
      simp only [go_sem,simprocAttr]
      refine Za q1 ?_
      simp only [go_sem,simprocAttr]
      simp [Zf,Ze,Zk,Zg,Zh,Zd,Zc,Zb,hvv]
     ·have q1 := Zjh done.length Zh7 Zh1
      have q2 := Zjh done.length Zh7 Zh7
      rw [d21] at q1
      rw [d22] at q2
      simp only [go_sem,simprocAttr]
      refine Za q1 ?_
      simp only [go_sem,simprocAttr]
      refine Za q2 ?_
      simp only [go_sem,simprocAttr]
      simp [Zf,Ze,Zk,Zg,Zh,Zd,Zc,Zb,hvv]
     ·have q1 := Zjh done.length Zh8 Zh1
      have q2 := Zjh done.length Zh8 Zh7
      have q3 := Zjh done.length Zh8 Zh8
      rw [d31] at q1
      rw [d32] at q2
      rw [d33] at q3
      simp only [go_sem,simprocAttr]
      refine Za q1 ?_
      simp only [go_sem,simprocAttr]
      refine Za q2 ?_
      simp only [go_sem,simprocAttr]
      refine Za q3 ?_
      simp only [go_sem,simprocAttr]
      simp [Zf,Ze,Zk,Zg,Zh,Zd,Zc,Zb,hvv]
    | true =>
     have hok : Zed done r = true := by rw [← hst,hs]
     rw [hok,Bool.true_and] at hvv
     rw [Zvr hs]
     have hcd' : chk [] (done ++ [r]) = true := by rw [Zwx,hcd,List.nil_append,hok]; rfl
     have hin := hi.next hcd hok
     simp only [go_sem,simprocAttr]
     refine Za (Zlv Zh1) ?_
     simp only [go_sem,simprocAttr]
     refine Za (Zlv Zh7) ?_
     simp only [go_sem,simprocAttr]
     refine Za (Zlv Zh8) ?_
     have f2 : r.cells[2]? = some (.int .i64 r.kind) := rfl
     have f3 : r.cells[3]? = some (.int .i64 r.dev) := rfl
     have hdl1 : (done ++ [r]).length = done.length + 1 := by simp
     have hp' : log = (done ++ [r]) ++ rest := by rw [hp]; simp
     unfold Z0c at hin
     by_cases hk : r.kind = 1
     ·rw [if_pos hk] at hin
      rw [hk] at f2
      simp only [go_sem,simprocAttr,hrow,f2,f3,h12,hn]
      refine Acc.app_step haG (by simp; omega) fun v' H' ha' => ?_
      simp only [go_sem,simprocAttr,h12,hn]
      refine ih (done ++ [r]) (ins ++ [r.dev]) _ _ hp' hin hcd' (by simp; omega) ?_ ?_ ?_ ?_ ?_ hvv
      ·simp only [go_sem,simprocAttr,h0]
      ·simp only [go_sem,simprocAttr,h10]
      ·simp only [go_sem,simprocAttr,h11]
      ·simp only [go_sem,simprocAttr,hn]
      ·simp only [go_sem,simprocAttr]
       rw [List.map_append]
       exact ha'
     ·rw [if_neg hk] at hin
      simp only [go_sem,simprocAttr,hrow,f2,f3,hk]
      have hne : ins.map iRow ≠ [] := by
       intro h
       have h1 : ins = [] := by simpa using h
       have h2 : r.kind = 2 := ((Zqr (by unfold Zed at hok; simp only [Bool.and_eq_true] at hok; exact hok.1.1.1.1)).1).resolve_left hk
       unfold Zmr at hs
       rw [h1,h2] at hs
       simp at hs
      refine Zbjd (s := 3) (b := H.length) (sz := 6) (row := r.cells) (rows := ins.map iRow) (q := 1) (by simp only [go_sem,simprocAttr]) gl (by simp only [go_sem,simprocAttr]; exact haG) (by simp only [go_sem,simprocAttr]; exact hnb) fun e' H' k5 kc k3 => ?_
      have g0 := kc 0 (.c (.lst 6 (log.map Rec.cells))) (by simp only [go_sem,simprocAttr,h0]) hrc
      have g10 := kc 10 (.c (.lst 6 (log.map Rec.cells))) (by simp only [go_sem,simprocAttr,h10]) hrc
      have g11 := kc 11 (iC (log.map Rec.cells).length) (by simp only [go_sem,simprocAttr,h11]) rfl
      have g12 := kc 12 (iC done.length) (by simp only [go_sem,simprocAttr,h12]) rfl
      obtain ⟨b,ext,hb1,hb2,hb3⟩ := k3.slc hne
      have hil' : (ins.map iRow).length = ins.length := by simp
      rw [hil'] at hb1
      obtain ⟨v',H'',hcs,hac⟩ := Zkn mixed Zm3 (args := [.c (.slc b 0 ins.length 1 false),.c (.fn 143 [.fp r.cells 0])]) (H := H') (R := fun v' G' => Acc 1 ((ins.filter fun f => !decide (f = r.dev)).map iRow) v' G') fun T =>
       Zl2 ins ext b 143 [.fp r.cells 0] (fun f => decide (f = r.dev)) (by simp [Zb,Zc,Rec.closed r]) (by omega) (fun f => Zu2 r f) hb3 T _ fun v G h => h
      rw [Zbbf] at hac
      simp only [go_sem,simprocAttr,k5,hb1]
      refine Z3 hcs (fun h => by cases h) ?_
      simp only [go_sem,simprocAttr,g12,hn]
      refine ih (done ++ [r]) (ins.filter fun n => decide (n ≠ r.dev)) _ _ hp' hin hcd' (by have := List.length_filter_le (fun n => decide (n ≠ r.dev)) ins; rw [hdl1]; omega) ?_ ?_ ?_ ?_ ?_ hvv
      ·simp only [go_sem,simprocAttr,g0]
      ·simp only [go_sem,simprocAttr,g10]
      ·simp only [go_sem,simprocAttr,g11]
      ·simp only [go_sem,simprocAttr,hn]
      ·simp only [go_sem,simprocAttr]
       exact hac
  simp only [go_sem,simprocAttr,Z2,hml,h40']
  refine loop log [] [] _ _ rfl InsOk.nil rfl (Nat.le_refl _) ?_ ?_ ?_ ?_ ?_ hv
  ·simp only [go_sem,simprocAttr]
  ·simp only [go_sem,simprocAttr]
  ·simp only [go_sem,simprocAttr,hml]
  ·simp only [go_sem,simprocAttr,List.length_nil,Int.natCast_zero]
  ·simp only [go_sem,simprocAttr]; exact .nil
 ·have h40' : (40 : Int) < (log.length : Int) := by omega
  rw [decide_eq_false h40,Bool.false_and] at hv
  simp only [go_sem,simprocAttr,Z2,hml,h40']
  simp [Zf,Ze,Zk,Zg,Zh,Zd,Zc,Zb,hv]
end Go.Proofs.YticmfblfghdkbaaGreatDoor.Eng
