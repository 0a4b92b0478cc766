/- Parts of this claim's proof, joined. No statement of the seat is proved here. -/
import Derived.Test.YticmfblfghdkbaaGreatDoorV3
set_option linter.unusedVariables false
set_option linter.unusedSimpArgs false
namespace Go.Proofs.YticmfblfghdkbaaGreatDoor.Eng
open Go
variable {P : Program} {B : Nat} {m : LMap} {H : Heap} {w : World} {σ : Mem}
theorem Zmy {t : TypeId} {g : Bool} {n off : Nat} (hg : Zdk P t = some g) (hn : Zbk P t = some n) (hgn : g = true ∨ n = 1) {cs : List Cell} {vs : Array Value} (h : All2 (VR m σ) cs vs.toList) {v : AVal} (hl : off + n ≤ cs.length) (hv : Zcl g ((cs.drop off).take n) = some v) :
    ∃ u,(part t vs off).run P w = .ok u w ∧ VRA m σ v u := by
  have h2 : All2 (VR m σ) ((cs.drop off).take n) ((vs.toList.drop off).take n) := (h.drop off).take n
  rcases Zl0 hv h2 with ⟨rfl,hr⟩ | ⟨rfl,u,hu,hr⟩
  · have he : vs.extract off (off + n) = ((vs.toList.drop off).take n).toArray := by
      apply Array.ext'
      simp [Array.toList_extract,List.extract_eq_take_drop]
    rw [← he] at hr
    exact ⟨_,by simp [part,Zid hg,Zck hn],hr⟩
  · have hn1 : n = 1 := hgn.resolve_left (by simp)
    subst hn1
    have h0 : vs[off]? = some u := by
      have : ((vs.toList.drop off).take 1)[0]? = some u := by rw [hu]; rfl
      rw [List.getElem?_take,if_pos (by omega),List.getElem?_drop] at this
      simpa using this
    exact ⟨u,by simp [part,Zid hg,h0],hr⟩
theorem Zbh7 (s : ByteArray) {t : TypeId} (ht : P.underlying t = some .string) (k : IntKind) (i : Int) (h : 0 ≤ i ∧ i.toNat < s.size) :
    (Instr.index t (.string s) (.int k i)).run P w = .ok (.int .u8 ((s[i.toNat]'h.2).toNat : Int)) w := by
  have : s[i.toNat]? = some (s[i.toNat]'h.2) := by
    rw [getElem?_pos]
  simp [Instr.index,asIntOf,run_underlying ht,h.1,this]
theorem Z9i {x y c : Cell} (h : maxC x y = some c) {vx vy : Value} (hx : VR m σ x vx) (hy : VR m σ y vy) : ∃ v,(Builtin.max2 vx vy).run P w = .ok v w ∧ VR m σ c v := by
  cases hx <;> cases hy <;> simp only [maxC] at h <;> first
    | (cases h; done)
    | (split at h
       · injection h with h; subst h; rename_i hk; subst hk; exact ⟨_,rfl,.int _ _⟩
       · cases h)
theorem Z8b {x y c : Cell} (h : minC x y = some c) {vx vy : Value} (hx : VR m σ x vx) (hy : VR m σ y vy) : ∃ v,(Builtin.min2 vx vy).run P w = .ok v w ∧ VR m σ c v := by
  cases hx <;> cases hy <;> simp only [minC] at h <;> first
    | (cases h; done)
    | (split at h
       · injection h with h; subst h; rename_i hk; subst hk; exact ⟨_,rfl,.int _ _⟩
       · cases h)
theorem Zrc {f : Cell → Cell → Option Cell} {F : Value → Value → Sem Value} (hF : ∀ {x y c : Cell},f x y = some c → ∀ {vx vy : Value},VR m σ x vx → VR m σ y vy → ∃ v,(F vx vy).run P w = .ok v w ∧ VR m σ c v) {e : Env} :
    ∀ {ys : List Opd} {vs : List Value} {x c : Cell} {vx : Value},All2 (fun y v => VRA m σ (y.ev e) v) ys vs → VR m σ x vx → Zom f e x ys = some c → ∃ v,(vs.foldlM F vx).run P w = .ok v w ∧ VR m σ c v
  | [],_,x,c,vx,h,hx,hc => by
    cases h
    simp [Zom] at hc
    subst hc
    exact ⟨vx,by simp,hx⟩
  | y :: ys,_,x,c,vx,h,hx,hc => by
    cases h with
    | cons hy ht =>
      simp only [Zom] at hc
      split at hc
      · rename_i yc hyc
        split at hc
        · rename_i z hz
          rw [hyc] at hy
          cases hy with
          | c hy =>
            obtain ⟨v,h1,h2⟩ := hF hz hx hy
            obtain ⟨v',h3,h4⟩ := Zrc hF ht h2 hc
            exact ⟨v',by simp [List.foldlM_cons,h1,h3],h4⟩
        · cases hc
      · cases hc
theorem Zzr {k : Nat} {x y : Cell} {b : Bool} (h : Zw8 k x y = some b) {vx vy : Value} (hx : VR m σ x vx) (hy : VR m σ y vy) (d : Nat) {t : TypeId} (ht : (k = 0 ∧ ∃ q,P.underlying t = some (.int q)) ∨ (k = 1 ∧ P.underlying t = some .string) ∨ (k = 2 ∧ P.underlying t = some .bool)) :
    (Op.equalIn (d + 1) t vx vy).run P w = .ok b w := by
  rcases ht with ⟨rfl,q,ht⟩ | ⟨rfl,ht⟩ | ⟨rfl,ht⟩ <;> cases hx <;> cases hy <;> simp only [Zw8] at h <;> first
    | (cases h; done)
    | (split at h
       · injection h with h; subst h; rename_i hk; subst hk; exact run_equalIn_int w d t _ q _ _ ht
       · cases h)
    | (injection h with h; subst h; first
        | exact run_equalIn_bool' w d t _ _ ht
        | (rw [run_equalIn_string w d t _ _ ht,Z7p]))
theorem Zis : ∀ {ks : List Nat} {xs ys : List Cell} {b : Bool},Zbw ks xs ys = some b → xs.length = ks.length ∧ ys.length = ks.length
  | [],[],[],_,_ => ⟨rfl,rfl⟩
  | k :: ks,x :: xs,y :: ys,b,h => by
    simp only [Zbw] at h
    split at h
    · split at h
      · rename_i h2
        obtain ⟨a,c⟩ := Zis h2
        simp [a,c]
      · cases h
    · cases h
  | [],[],_ :: _,_,h => by simp [Zbw] at h
  | [],_ :: _,_,_,h => by simp [Zbw] at h
  | _ :: _,[],_,_,h => by simp [Zbw] at h
  | _ :: _,_ :: _,[],_,h => by simp [Zbw] at h
theorem Zn4 : ∀ {ks ls : List Nat} {xs ys : List Cell} {b : Bool},Zbw (ks ++ ls) xs ys = some b → ∃ b1 b2,Zbw ks (xs.take ks.length) (ys.take ks.length) = some b1 ∧ Zbw ls (xs.drop ks.length) (ys.drop ks.length) = some b2 ∧ b = (b1 && b2)
  | [],ls,xs,ys,b,h => ⟨true,b,by simp [Zbw],by simpa using h,by simp⟩
  | k :: ks,ls,xs,ys,b,h => by
    cases xs with
    | nil => simp [Zbw] at h
    | cons x xs => cases ys with
      | nil => simp [Zbw] at h
      | cons y ys =>
        simp only [List.cons_append,Zbw] at h
        split at h
        · rename_i b0 h0
          split at h
          · rename_i r hr
            injection h with h
            obtain ⟨b1,b2,e1,e2,e3⟩ := Zn4 hr
            exact ⟨b0 && b1,b2,by simp [Zbw,h0,e1],by simpa using e2,by rw [← h,e3,Bool.and_assoc]⟩
          · cases h
        · cases h
def Zhp (P : Program) (d : Nat) (acc : Option (List Nat)) (f : Field) : Option (List Nat) :=
  match acc with
  | some l => if f.name ≠ "_" ∧ f.offset = l.length then
      match Zgs P d f.type with
      | some r => if Zbk P f.type = some r.length then some (l ++ r) else none
      | none => none
    else none
  | none => none
theorem Zrw (P : Program) (d : Nat) (fs : List Field) : fs.foldl (Zhp P d) none = none := by
  induction fs with
  | nil => rfl
  | cons f fs ih => simp [Zhp,ih]
theorem Zqe (P : Program) (d : Nat) : ∀ (fs : List Field) (l ks : List Nat),fs.foldl (Zhp P d) (some l) = some ks → ∃ r,ks = l ++ r
  | [],l,ks,h => ⟨[],by simp at h; simp [h]⟩
  | f :: fs,l,ks,h => by
    simp only [List.foldl_cons] at h
    cases hs : Zhp P d (some l) f with
    | none => rw [hs,Zrw] at h; cases h
    | some l' =>
      rw [hs] at h
      obtain ⟨r,hr⟩ := Zqe P d fs l' ks h
      simp only [Zhp] at hs
      split at hs
      · split at hs
        · split at hs
          · injection hs with hs
            subst hs
            exact ⟨_,by rw [hr,List.append_assoc]⟩
          · cases hs
        · cases hs
      · cases hs
theorem Z1n : ∀ (d : Nat) {t : TypeId} {ks : List Nat},Zgs P d t = some ks → ∀ (D : Nat),d ≤ D →
    ∀ (xs ys : List Cell) (b : Bool) (vx vy : Value),Zbw ks xs ys = some b → (Zdk P t = some true → ∃ us vs,vx = .agg us ∧ vy = .agg vs ∧ All2 (VR m σ) xs us.toList ∧ All2 (VR m σ) ys vs.toList) →
      (Zdk P t = some false → ∃ x y,xs = [x] ∧ ys = [y] ∧ VR m σ x vx ∧ VR m σ y vy) → (Op.equalIn D t vx vy).run P w = .ok b w
  | 0,t,ks,h,_,_ => by simp [Zgs] at h
  | d + 1,t,ks,h,D,hD => by
    intro xs ys b vx vy he hagg hone
    obtain ⟨D,rfl⟩ : ∃ E,D = E + 1 := ⟨D - 1,by omega⟩
    simp only [Zgs] at h
    split at h
    · rename_i ht
      injection h with h; subst h
      obtain ⟨x,y,rfl,rfl,hx,hy⟩ := hone (by simp [Zdk,ht])
      simp only [Zbw] at he
      split at he
      · rename_i b' hb'
        injection he with he
        simp at he
        subst he
        exact Zzr hb' hx hy D (.inr (.inr ⟨rfl,ht⟩))
      · cases he
    · rename_i q ht
      injection h with h; subst h
      obtain ⟨x,y,rfl,rfl,hx,hy⟩ := hone (by simp [Zdk,ht])
      simp only [Zbw] at he
      split at he
      · rename_i b' hb'
        injection he with he
        simp at he
        subst he
        exact Zzr hb' hx hy D (.inl ⟨rfl,q,ht⟩)
      · cases he
    · rename_i ht
      injection h with h; subst h
      obtain ⟨x,y,rfl,rfl,hx,hy⟩ := hone (by simp [Zdk,ht])
      simp only [Zbw] at he
      split at he
      · rename_i b' hb'
        injection he with he
        simp at he
        subst he
        exact Zzr hb' hx hy D (.inr (.inl ⟨rfl,ht⟩))
      · cases he
    · rename_i fs ht
      split at h
      · cases h
      · rename_i hst
        have hfs : P.fieldsOf t = fs := by simp [Program.fieldsOf,ht]
        obtain ⟨us,vs,rfl,rfl,hx,hy⟩ := hagg (by simp [Zdk,ht])
        rw [run_equalIn_struct w D t us vs (by rw [hfs]; exact ht) (by simpa using hst),hfs]
        have key : ∀ (gs : List Field) (l : List Nat) (ks : List Nat),gs.foldl (Zhp P d) (some l) = some ks → xs.length = ks.length → ys.length = ks.length → ∀ (b : Bool),Zbw (ks.drop l.length) (xs.drop l.length) (ys.drop l.length) = some b →
            (Op.eqFields D us vs gs).run P w = .ok b w := by
          intro gs
          induction gs with
          | nil =>
            intro l ks hk hxl hyl b hb
            simp at hk
            subst hk
            have hl := Zis hb
            simp at hl
            have h1 : xs.drop l.length = [] := List.drop_eq_nil_of_le (by omega)
            have h2 : ys.drop l.length = [] := List.drop_eq_nil_of_le (by omega)
            rw [h1,h2] at hb
            simp [Zbw] at hb
            subst hb
            simp [Op.eqFields]
          | cons f gs ih =>
            intro l ks hk hxl hyl b hb
            simp only [List.foldl_cons] at hk
            cases hs : Zhp P d (some l) f with
            | none => rw [hs,Zrw] at hk; cases hk
            | some l' =>
              rw [hs] at hk
              obtain ⟨r2,hr2⟩ := Zqe P d gs l' ks hk
              simp only [Zhp] at hs
              split at hs
              · rename_i hname
                split at hs
                · rename_i r hr
                  split at hs
                  · rename_i hsz
                    injection hs with hs
                    subst hs
                    rw [hr2,List.append_assoc,List.drop_left] at hb
                    obtain ⟨b1,b2,e1,e2,e3⟩ := Zn4 hb
                    subst e3
                    have hkl : ks.length = l.length + r.length + r2.length := by rw [hr2]; simp; omega
                    have hoff : f.offset + r.length ≤ xs.length := by rw [hname.2]; omega
                    have hoff2 : f.offset + r.length ≤ ys.length := by rw [hname.2]; omega
                    cases hga : Zdk P f.type with
                    | none =>
                      exfalso
                      cases d with
                      | zero => simp [Zgs] at hr
                      | succ d =>
                        simp only [Zgs] at hr
                        unfold Zdk at hga
                        cases hu : P.underlying f.type with
                        | none => simp [hu] at hr
                        | some dd => cases dd <;> simp [hu] at hga
                    | some ga =>
                      have hofx : ∃ vx,Zcl ga ((xs.drop f.offset).take r.length) = some vx ∧ (ga = true → vx = .agg ((xs.drop f.offset).take r.length)) ∧ (ga = false → ∃ c,(xs.drop f.offset).take r.length = [c] ∧ vx = .c c) := by
                        cases ga with
                        | true => exact ⟨_,by simp [Zcl],fun _ => rfl,fun h => by cases h⟩
                        | false =>
                          have hr1 : r.length = 1 := by
                            cases d with
                            | zero => simp [Zgs] at hr
                            | succ d =>
                              simp only [Zgs] at hr
                              unfold Zdk at hga
                              split at hr <;> first
                                | (injection hr with hr; subst hr; rfl)
                                | (rename_i hu; simp [hu] at hga)
                                | cases hr
                          have hl1 : ((xs.drop f.offset).take r.length).length = 1 := by simp; omega
                          obtain ⟨c,hc⟩ := List.length_eq_one_iff.1 hl1
                          exact ⟨.c c,by simp [Zcl,hc],(fun h => by cases h),fun _ => ⟨c,hc,rfl⟩⟩
                      have hofy : ∃ vy,Zcl ga ((ys.drop f.offset).take r.length) = some vy ∧ (ga = true → vy = .agg ((ys.drop f.offset).take r.length)) ∧ (ga = false → ∃ c,(ys.drop f.offset).take r.length = [c] ∧ vy = .c c) := by
                        cases ga with
                        | true => exact ⟨_,by simp [Zcl],fun _ => rfl,fun h => by cases h⟩
                        | false =>
                          obtain ⟨_,_,_,hq⟩ := hofx
                          obtain ⟨c0,hc0,_⟩ := hq rfl
                          have hl0 : ((xs.drop f.offset).take r.length).length = 1 := by rw [hc0]; rfl
                          have hl1 : ((ys.drop f.offset).take r.length).length = 1 := by simp at hl0 ⊢; omega
                          obtain ⟨c,hc⟩ := List.length_eq_one_iff.1 hl1
                          exact ⟨.c c,by simp [Zcl,hc],(fun h => by cases h),fun _ => ⟨c,hc,rfl⟩⟩
                      obtain ⟨ax,hax,hax1,hax2⟩ := hofx
                      obtain ⟨ay,hay,hay1,hay2⟩ := hofy
                      have hgn : ga = true ∨ r.length = 1 := by
                        cases ga with
                        | true => exact .inl rfl
                        | false =>
                          obtain ⟨c,hc,_⟩ := hax2 rfl
                          have : ((xs.drop f.offset).take r.length).length = 1 := by rw [hc]; rfl
                          right
                          simp at this
                          omega
                      obtain ⟨ux,p1,q1⟩ := Zmy (P := P) (w := w) hga hsz hgn hx hoff hax
                      obtain ⟨uy,p2,q2⟩ := Zmy (P := P) (w := w) hga hsz hgn hy hoff2 hay
                      have hrec := Z1n d hr D (by omega) ((xs.drop f.offset).take r.length) ((ys.drop f.offset).take r.length) b1 ux uy (by rw [hname.2]; exact e1)
                        (fun hg1 => by
                          rw [hga] at hg1; injection hg1 with hg1
                          rw [hax1 hg1] at q1; rw [hay1 hg1] at q2
                          cases q1 with
                          | agg q1 => cases q2 with
                            | agg q2 => exact ⟨_,_,rfl,rfl,q1,q2⟩)
                        (fun hg1 => by
                          rw [hga] at hg1; injection hg1 with hg1
                          obtain ⟨c1,hc1,hv1⟩ := hax2 hg1
                          obtain ⟨c2,hc2,hv2⟩ := hay2 hg1
                          rw [hv1] at q1; rw [hv2] at q2
                          cases q1 with
                          | c q1 => cases q2 with
                            | c q2 => exact ⟨c1,c2,hc1,hc2,q1,q2⟩)
                      have hih := ih (l ++ r) ks hk hxl hyl b2 (by rw [hr2,List.drop_left]; simpa [List.drop_drop] using e2)
                      simp only [Op.eqFields]
                      rw [if_pos hname.1]
                      simp only [Sem.run_bind,p1,p2,hrec,Result.andThen_ok]
                      cases b1 with
                      | true => simpa using hih
                      | false => simp
                  · cases hs
                · cases hs
              · cases hs
        exact key fs.toList [] ks h (Zis he).1 (Zis he).2 b (by simpa using he)
    · cases h
theorem Zbda {neg : Bool} {ks : List Nat} {xs ys : List Cell} {b : Bool} (he : Zbw ks xs ys = some b) {t : TypeId} {fs : Array Field} (ht : P.underlying t = some (.struct fs)) (hk : Zgs P 8 t = some ks) (hgd : P.eqGuardType P.depth t = false)
    {us vs : Array Value} (hx : All2 (VR m σ) xs us.toList) (hy : All2 (VR m σ) ys vs.toList) (o1 o2 : Operand) (op : BinOp) (hop : op = if neg then .neq else .eql) :
    (do eqGuard op t o1 o2 (.agg us) (.agg vs); binOp op t (.agg us) (.agg vs) : Sem Value).run P w = .ok (.bool (neg != b)) w := by
  have h := Z1n (m := m) (σ := σ) (w := w) 8 hk 10000 (by omega) xs ys b _ _ he (fun _ => ⟨us,vs,rfl,rfl,hx,hy⟩) (fun h => by simp [Zdk,ht] at h)
  rw [Sem.run_bind,run_eqGuard_agg w op t o1 o2 us vs hgd,Result.andThen_ok]
  cases neg <;> subst hop
  · simp only [Bool.false_eq_true,if_false]
    rw [run_eql_struct,h]
    simp
  · simp only [if_true]
    rw [run_neq_struct,h]
    simp
end Go.Proofs.YticmfblfghdkbaaGreatDoor.Eng
