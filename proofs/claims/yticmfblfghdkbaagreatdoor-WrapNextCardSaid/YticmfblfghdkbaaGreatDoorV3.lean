/- Parts of this claim's proof, joined. No statement of the seat is proved here. -/
import Derived.Test.YticmfblfghdkbaaGreatDoorV2
set_option linter.unusedVariables false
set_option linter.unusedSimpArgs false
namespace Go.Proofs.YticmfblfghdkbaaGreatDoor.Eng
open Go
variable {P : Program} {B : Nat} {m : LMap} {H : Heap} {w : World}
theorem Zd9 (a : Addr) (w : World) : (loadCells a 0).run P w = .ok #[] w := by simp [loadCells,loadCellsFrom]
theorem Zn3 (r : Rel B m H w) {y : Cell} {vy : Value} (hy : VR m (Zj w) y vy) {sz : Nat} (h0 : 0 < sz) (hf : Zbh sz y = true) {new : List (List Cell)} (hn : H.rowsOf y = some new) :
    ∃ news : List Value,news.length = new.length * sz ∧ RowsIn m (Zj w) sz new news.toArray ∧ (∀ u ∈ news,u.oneCell' = true) ∧ (Builtin.lenOf vy).run P w = .ok new.length w ∧
      (∀ w',w'.heap = w.heap → (Builtin.firstCells sz new.length vy).run P w' = .ok news.toArray w') := by
  have none_ : new = [] → (∃ base,vy = .slice base 0 0) → ∃ news : List Value,news.length = new.length * sz ∧ RowsIn m (Zj w) sz new news.toArray ∧ (∀ u ∈ news,u.oneCell' = true) ∧ (Builtin.lenOf vy).run P w = .ok new.length w ∧
      (∀ w',w'.heap = w.heap → (Builtin.firstCells sz new.length vy).run P w' = .ok news.toArray w') := by
    rintro rfl ⟨base,rfl⟩
    refine ⟨[],by simp,(fun i r e => by simp at e),by simp,by simp [Builtin.lenOf],fun w' _ => ?_⟩
    cases base <;> simp [Builtin.firstCells,Zd9]
  have mem : ∀ (A : Addr) (c n : Nat),new.length = n → (∀ (i : Nat) q,new[i]? = some q → q.length = sz ∧ ∀ (f : Nat) x,q[f]? = some x → ∃ v,w.cell? (A.add (i * sz + f)) = some v ∧ VR m (Zj w) x v) → vy = .slice (some A) n c →
      ∃ news : List Value,news.length = new.length * sz ∧ RowsIn m (Zj w) sz new news.toArray ∧ (∀ u ∈ news,u.oneCell' = true) ∧ (Builtin.lenOf vy).run P w = .ok new.length w ∧
      (∀ w',w'.heap = w.heap → (Builtin.firstCells sz new.length vy).run P w' = .ok news.toArray w') := by
    rintro A c n hlen hrow rfl
    have hcell : ∀ j,j < n * sz → ∃ v,w.cell? (A.add j) = some v ∧ v.oneCell' = true := by
      intro j hj
      have hi : j / sz < n := Nat.div_lt_of_lt_mul (by rw [Nat.mul_comm]; exact hj)
      obtain ⟨g1,g2⟩ := hrow (j / sz) _ (List.getElem?_eq_getElem (by omega))
      have hfm : j % sz < sz := Nat.mod_lt _ h0
      obtain ⟨v,k1,k2⟩ := g2 (j % sz) _ (List.getElem?_eq_getElem (by rw [g1]; exact hfm))
      refine ⟨v,?_,k2.oneCell⟩
      rw [← k1]
      congr 2
      have := Nat.div_add_mod j sz
      rw [Nat.mul_comm] at this
      omega
    refine ⟨(List.range (n * sz)).map fun j => (w.cell? (A.add j)).getD undef,by rw [List.length_map,List.length_range,hlen],?_,?_,by simp only [Builtin.lenOf,Sem.run_pure,hlen],?_⟩
    · intro i q e
      obtain ⟨g1,g2⟩ := hrow i q e
      have hi : i < n := by have := (List.getElem?_eq_some_iff.1 e).1; omega
      refine ⟨g1,fun f c' ef => ?_⟩
      obtain ⟨v,k1,k2⟩ := g2 f c' ef
      refine ⟨v,?_,k2⟩
      have hfs : f < sz := by have := (List.getElem?_eq_some_iff.1 ef).1; omega
      have hlt := Zet hi hfs
      simp [hlt,k1]
    · intro u hu
      simp at hu
      obtain ⟨j,hj,rfl⟩ := hu
      obtain ⟨v,k1,k2⟩ := hcell j hj
      simp [k1,k2]
    · intro w' hw'
      rw [hlen]
      have hc' : ∀ a,w'.cell? a = w.cell? a := fun a => by simp [World.cell?,hw']
      refine run_firstCells_some (P := P) w' sz n A n c _ (by simp) (fun j v hj => ?_)
      have hj' : j < n * sz := by have := (List.getElem?_eq_some_iff.1 hj).1; simpa using this
      obtain ⟨v',k1,_⟩ := hcell j hj'
      rw [hc',k1]
      simp [hj',k1] at hj
      rw [hj]
  cases hy with
  | nilS =>
    simp [Heap.rowsOf] at hn
    exact none_ hn ⟨_,rfl⟩
  | zerN =>
    simp [Heap.rowsOf] at hn
    exact none_ hn ⟨_,rfl⟩
  | zerS =>
    simp [Heap.rowsOf] at hn
    exact none_ hn ⟨_,rfl⟩
  | emp hc =>
    rename_i sz' A c
    simp [Heap.rowsOf] at hn
    subst hn
    exact mem A c 0 rfl (fun i q e => by simp at e) rfl
  | lstN =>
    simp [Heap.rowsOf] at hn
    exact none_ hn ⟨_,rfl⟩
  | lst g1 g2 g3 g4 g5 g6 =>
    rename_i sz' A c g o rows vs
    have hsz : sz' = sz := by simpa [Zbh] using hf
    subst hsz
    simp [Heap.rowsOf] at hn
    subst hn
    refine mem A c _ rfl (fun i q e => ⟨g4 i q e,fun f x ef => ?_⟩) rfl
    have ha := (g3 (by intro h; subst h; simp at e)).1
    refine ⟨vs i f,?_,g6 i q f x e ef⟩
    rw [ha,Zcg,← Nat.add_assoc]
    exact g5 i q f x e ef
  | str s =>
    simp [Heap.rowsOf] at hn
    subst hn
    have hs1 : sz = 1 := by simpa [Zbh] using hf
    subst hs1
    refine ⟨s.data.toList.map fun b => .int .u8 (b.toNat : Int),by simp [Zcu],?_,?_,by simp [Builtin.lenOf,Zcu],?_⟩
    · intro i r e
      simp only [Zcu,List.map_map,List.getElem?_map] at e
      cases hb : s.data.toList[i]? with
      | none => rw [hb] at e; cases e
      | some b =>
        rw [hb] at e
        simp at e
        subst e
        refine ⟨rfl,fun f c ef => ?_⟩
        cases f with
        | succ f => simp at ef
        | zero =>
          simp at ef
          subst ef
          exact ⟨.int .u8 (b.toNat : Int),by simp only [Nat.mul_one,Nat.add_zero,List.getElem?_toArray,List.getElem?_map,hb,Option.map_some],.int _ _⟩
    · intro u hu
      simp at hu
      obtain ⟨b,_,rfl⟩ := hu
      rfl
    · intro w' _
      have hl : ((Zcu s).map fun c => [c]).length = s.size := by simp [Zcu]
      rw [hl]
      simp only [Builtin.firstCells,Sem.run_pure]
      congr 1
      have hx : (s.extract 0 s.size).data = s.data := by
        rw [ByteArray.data_extract]
        exact Array.extract_size
      rw [hx]
      apply Array.ext'
      simp
  | slc h1 h2 h3 h4 =>
    rename_i b s n sz' z A c
    have hsz : sz' = sz := by simpa [Zbh] using hf
    subst hsz
    simp only [Heap.rowsOf] at hn
    by_cases hn0 : n = 0
    · rw [if_pos hn0] at hn
      injection hn with hn
      subst hn
      subst hn0
      exact ⟨[],by simp,(fun i r e => by simp at e),by simp,by simp [Builtin.lenOf],fun w' _ => by simp [Builtin.firstCells,Zd9]⟩
    · rw [if_neg hn0] at hn
      obtain ⟨L,e1,ez,h5⟩ := h4
      obtain ⟨ea,eo⟩ := h5 (by omega)
      cases hk : H[b]? with
      | none => simp [hk] at hn
      | some k =>
        simp only [hk] at hn
        split at hn
        · rename_i hc
          obtain ⟨hl,hle⟩ := hc
          injection hn with hn
          subst hn
          obtain ⟨k',hk',hat⟩ := r.blk b L e1
          rw [hk] at hk'; injection hk' with hk'; subst hk'
          refine mem A c n (by simp; omega) (fun i q e => ?_) rfl
          rw [List.getElem?_take] at e
          split at e
          · rw [List.getElem?_drop] at e
            obtain ⟨g1,g2⟩ := hat.rows hl _ q e
            refine ⟨g1.trans ez,fun f x ef => ?_⟩
            obtain ⟨v,k1,k2⟩ := g2 f x ef
            refine ⟨v,?_,k2⟩
            rw [ea,Zcg,← k1]
            congr 2
            rw [ez,Nat.add_mul]
            omega
          · cases e
        · cases hn
  | _ => simp [Heap.rowsOf] at hn
theorem Zbka {e : TypeId} {d : TypeDesc} (h : Zku e d = true) : (match d with | .int _ => true | _ => false) = false := by
  cases d <;> simp [Zku] at h ⊢
theorem Z4z (w : World) {t u ty e : TypeId} {i : TypeInfo} {d : TypeDesc} (ht : P.underlying t = some (.slice e)) (hu : P.underlying u = some d) (hd : Zku e d = true) (hi : P.info? e = some i)
    (g sLen sCap n : Nat) (cur : Array Value) {ct : TypeId} {z : Nat × Nat} (hg : w.heap[g]? = some (.cells cur ct z)) (hth : Thaw cur.size z) (vy : Value) (news : List Value) (hl : (Builtin.lenOf vy).run P w = .ok n w) (hf : (Builtin.firstCells i.size n vy).run P w = .ok news.toArray w) (h1 : ∀ u ∈ news,u.oneCell' = true)
    (hroom : sLen + n ≤ sCap) (hfit : sLen * i.size + news.length ≤ cur.size) :
    (Builtin.append_ #[t,u] ty #[.slice (some ⟨g,0,none⟩) sLen sCap,vy]).run P w =
      .ok (.slice (some ⟨g,0,none⟩) (sLen + n) sCap) (w.setRow g (cur.toList.take (sLen * i.size) ++ news ++ cur.toList.drop (sLen * i.size + news.length)).toArray) := by
  have hst := Zdx P g (sLen * i.size) ct z news 0 cur w hg hth (by simpa using hfit) h1
  simp only [Nat.add_zero] at hst
  have hz := Zbka hd
  cases d <;> simp [Zku] at hd <;>
    simp [Builtin.append_,run_underlying ht,run_underlying hu,sizeOf,typeInfo,hi,hl,hroom,hf,Zcg,hst]
theorem Z3d (w : World) {t u ty e : TypeId} {i : TypeInfo} {d : TypeDesc} {z : Value} (ht : P.underlying t = some (.slice e)) (hu : P.underlying u = some d) (hd : Zku e d = true) (hi : P.info? e = some i) (hz : i.zero = some z)
    (base : Option Addr) (sLen sCap n : Nat) (olds news : List Value) (vy : Value) (hfo : (Builtin.firstCells i.size sLen (.slice base sLen sCap)).run P w.drew = .ok olds.toArray w.drew)
    (hl : (Builtin.lenOf vy).run P w = .ok n w) (hf : (Builtin.firstCells i.size n vy).run P w.drew = .ok news.toArray w.drew)
    (hg : sCap < sLen + n) (h63 : ((sLen + n : Nat) : Int) ≤ 9223372036854775807) (hfit : Builtin.nextslicecap (sLen + n) sCap * i.bytes ≤ 281474976710656) :
    (Builtin.append_ #[t,u] ty #[.slice base sLen sCap,vy]).run P w =
      .ok (.slice (some ⟨w.heap.size,0,none⟩) (sLen + n) (grownCap w (sLen + n) sCap e))
        (w.drew.alloc (.cells (olds.toArray ++ news.toArray ++ Builtin.zeroCells z.cells (grownCap w (sLen + n) sCap e - (sLen + n))) e)) := by
  have hn : ¬ (sLen + n ≤ sCap) := by omega
  have h63' : ¬ (9223372036854775807 < ((sLen : Int) + (n : Int))) := by omega
  have h48' : ¬ (281474976710656 < Builtin.nextslicecap (sLen + n) sCap * i.bytes) := by omega
  cases d <;> simp [Zku] at hd <;>
    (simp [Builtin.append_,run_underlying ht,run_underlying hu,sizeOf,typeInfo,zeroValue,hi,hz,hl,hn,h63',h48',Question.forced,hf,hfo,newRow,grownCap]
     congr 2
     apply Array.ext'
     simp [List.append_assoc])
theorem Z3a (w : World) {t u ty e : TypeId} {i : TypeInfo} {d : TypeDesc} (ht : P.underlying t = some (.slice e)) (hu : P.underlying u = some d) (hd : Zku e d = true) (hi : P.info? e = some i)
    (base : Option Addr) (sLen sCap : Nat) (hle : sLen ≤ sCap) (vy : Value) (hl : (Builtin.lenOf vy).run P w = .ok 0 w) (hf : (Builtin.firstCells i.size 0 vy).run P w = .ok #[] w) :
    (Builtin.append_ #[t,u] ty #[.slice base sLen sCap,vy]).run P w = .ok (.slice base sLen sCap) w := by
  cases d <;> simp [Zku] at hd <;> cases base <;>
    simp [Builtin.append_,run_underlying ht,run_underlying hu,sizeOf,typeInfo,hi,hl,hf,hle,storeCells]
theorem RowsIn.append {σ : Mem} {sz : Nat} {rows new : List (List Cell)} {olds news rest : List Value} (h : RowsIn m σ sz rows olds.toArray) (hl : olds.length = rows.length * sz) (k : RowsIn m σ sz new news.toArray) (hk : news.length = new.length * sz) :
    RowsIn m σ sz (rows ++ new) (olds ++ news ++ rest).toArray := by
  intro i r e
  by_cases hi : i < rows.length
  · rw [List.getElem?_append_left hi] at e
    obtain ⟨g1,g2⟩ := h i r e
    refine ⟨g1,fun f c ef => ?_⟩
    obtain ⟨v,e1,e2⟩ := g2 f c ef
    refine ⟨v,?_,e2⟩
    have hf : f < sz := by rw [← g1]; exact (List.getElem?_eq_some_iff.1 ef).1
    have := Zet hi hf
    simp only [List.getElem?_toArray] at e1 ⊢
    rw [List.append_assoc,List.getElem?_append_left (by omega)]
    exact e1
  · rw [List.getElem?_append_right (by omega)] at e
    obtain ⟨g1,g2⟩ := k _ r e
    refine ⟨g1,fun f c ef => ?_⟩
    obtain ⟨v,e1,e2⟩ := g2 f c ef
    refine ⟨v,?_,e2⟩
    have hf : f < sz := by rw [← g1]; exact (List.getElem?_eq_some_iff.1 ef).1
    have hj : i - rows.length < new.length := (List.getElem?_eq_some_iff.1 e).1
    have hlt := Zet hj hf
    simp only [List.getElem?_toArray] at e1 ⊢
    have hsub : i * sz + f - olds.length = (i - rows.length) * sz + f := by
      rw [hl,Nat.sub_mul]
      have : rows.length * sz ≤ i * sz := Nat.mul_le_mul_right sz (by omega)
      omega
    have hge : olds.length ≤ i * sz + f := by
      rw [hl]
      have : rows.length * sz ≤ i * sz := Nat.mul_le_mul_right sz (by omega)
      omega
    rw [List.append_assoc,List.getElem?_append_right hge,hsub,List.getElem?_append_left (by omega)]
    exact e1
theorem RowsIn.take {σ : Mem} {sz : Nat} {rows : List (List Cell)} {vs : List Value} (h : RowsIn m σ sz rows vs.toArray) (n : Nat) : RowsIn m σ sz (rows.take n) (vs.take (n * sz)).toArray := by
  intro i r e
  rw [List.getElem?_take] at e
  split at e
  · rename_i hi
    obtain ⟨g1,g2⟩ := h i r e
    refine ⟨g1,fun f c ef => ?_⟩
    obtain ⟨v,e1,e2⟩ := g2 f c ef
    refine ⟨v,?_,e2⟩
    have hf : f < sz := by rw [← g1]; exact (List.getElem?_eq_some_iff.1 ef).1
    have := Zet hi hf
    simp only [List.getElem?_toArray] at e1 ⊢
    rw [List.getElem?_take,if_pos this]
    exact e1
  · cases e
theorem St.adopts {B H m w H1 w1} (s : St B H m w H1 m w1) {g sz : Nat} {k : Blk} (hr : Rel B (Zeq m H1.length ⟨g,0,sz,true⟩) (H1 ++ [k]) w1) (hext : ∀ b L,m b = some L → Zeq m H1.length ⟨g,0,sz,true⟩ b = some L) (hi : Zhq m H g) :
    St B H m w (H1 ++ [k]) (Zeq m H1.length ⟨g,0,sz,true⟩) w1 where
  ext := hext
  dom := fun b L h h' => by
    by_cases e : b = H1.length
    · subst e; exact s.hle.len
    · rw [Zcj e,h] at h'; cases h'
  rel := hr
  frame := s.frame
  fresh := fun b L h h' => by
    by_cases e : b = H1.length
    · subst e
      rw [Zc1] at h'
      injection h' with h'
      subst h'
      exact .inr hi
    · rw [Zcj e,h] at h'; cases h'
  size := s.size
  szs := s.szs
  os := s.os
  tape := s.tape
  output := s.output
  hle := s.hle.trans (HLe.append _ _)
  zext := s.zext
  zfresh := s.zfresh
  drawn := s.drawn
theorem RowsIn.drop {σ : Mem} {sz : Nat} {rows : List (List Cell)} {vs : List Value} (h : RowsIn m σ sz rows vs.toArray) (n : Nat) : RowsIn m σ sz (rows.drop n) (vs.drop (n * sz)).toArray := by
  intro i r e
  rw [List.getElem?_drop] at e
  obtain ⟨g1,g2⟩ := h _ r e
  refine ⟨g1,fun f c ef => ?_⟩
  obtain ⟨v,e1,e2⟩ := g2 f c ef
  refine ⟨v,?_,e2⟩
  simp only [List.getElem?_toArray] at e1 ⊢
  rw [List.getElem?_drop,← e1]
  congr 1
  rw [Nat.add_mul]
  omega
theorem Zbcu (r : Rel B m H w) {t u ty e : TypeId} {sz : Nat} (ht : P.underlying t = some (.slice e)) (hn : Zbk P e = some sz) (h0 : 0 < sz) {x y : Cell} {vx vy : Value} (hx : VR m (Zj w) x vx) (hy : VR m (Zj w) y vy)
    {v : AVal} {H' : Heap} (h : Zx0 H sz x y = some (v,H')) :
    ∃ w' m' u',(Builtin.copy_ #[t,u] ty #[vx,vy]).run P w = .ok u' w' ∧ St B H m w H' m' w' ∧ VRA m' (Zj w') v u' := by
  unfold Zx0 at h
  cases hx with
  | slc h1 h2 h3 h4 =>
    rename_i b o n sz' z A c
    simp only at h
    cases hrs : H.rowsOf y with
    | none => simp [hrs] at h
    | some rs =>
      cases hk : H[b]? with
      | none => simp [hrs,hk] at h
      | some k =>
        simp only [hrs,hk] at h
        split at h
        case isFalse => cases h
        case isTrue hc =>
          obtain ⟨rfl,hfit,hown,hl,hn0,hle,hlen⟩ := hc
          injection h with h
          injection h with hv hh
          subst hv; subst hh
          obtain ⟨news,n1,n2,n3,n4,n5⟩ := Zn3 (P := P) r hy h0 hfit hrs
          obtain ⟨L,e1,ez,h5⟩ := h4
          obtain ⟨ea,eo⟩ := h5 (by omega)
          obtain ⟨k',hk',hat⟩ := r.blk b L e1
          rw [hk] at hk'; injection hk' with hk'; subst hk'
          have ho : L.own = true := by rw [← hat.own]; exact hown
          have hLo : L.o = 0 := (hat.ours ho).2
          obtain ⟨cur,ct,fz,hg,hth⟩ := hat.row ho hl
          have hrows := Zlj r e1 hk ho hl hg
          rw [ez] at hrows
          have hcur : (o + c) * sz' = cur.size := by have := eo ho; rw [Zco hg] at this; exact this
          have hA : A = ⟨L.g,o * sz',none⟩ := by rw [ea,hLo]; simp
          subst hA
          have hmul : o * sz' + rs.length * sz' ≤ cur.size := by
            rw [← hcur,← Nat.add_mul]
            exact Nat.mul_le_mul_right sz' (by omega)
          have hst := Zdx P L.g (o * sz') ct fz news 0 cur w hg hth (by simp; omega) n3
          simp only [Nat.add_zero] at hst
          obtain ⟨i,hi,hin⟩ := Zfi hn
          have hmin : Nat.min rs.length n = rs.length := Nat.min_eq_left hle
          have n5' := n5 w rfl
          have hrun : (Builtin.copy_ #[t,u] ty #[.slice (some ⟨L.g,o * sz',none⟩) n c,vy]).run P w = .ok (goInt rs.length) (w.setRow L.g (cur.toList.take (o * sz') ++ news ++ cur.toList.drop (o * sz' + news.length)).toArray) := by
            simp [Builtin.copy_,run_underlying ht,sizeOf,typeInfo,hi,hin,n4,hmin,n5',hst]
          have hin2 : k.rows.length * sz' ≤ cur.size := by
            have hp : k.rows.length - 1 < k.rows.length := by omega
            obtain ⟨g1,g2⟩ := hrows (k.rows.length - 1) _ (List.getElem?_eq_getElem hp)
            obtain ⟨v,k1,_⟩ := g2 (sz' - 1) _ (List.getElem?_eq_getElem (by omega))
            have := (Array.getElem?_eq_some_iff.1 k1).1
            have e2 : k.rows.length * sz' = (k.rows.length - 1) * sz' + sz' := by
              rw [← Nat.succ_mul]
              congr 1
              omega
            omega
          have hcl : cur.toList.toArray = cur := by simp
          have hr0 : RowsIn m (Zj w) sz' k.rows cur.toList.toArray := by rw [hcl]; exact hrows
          have p1 := hr0.take o
          have p3 := hr0.drop (o + rs.length)
          have l1 : (cur.toList.take (o * sz')).length = (k.rows.take o).length * sz' := by
            have hoo : (k.rows.take o).length = o := by rw [List.length_take]; omega
            rw [hoo,List.length_take,Array.length_toList]; omega
          have p2 := RowsIn.append (rest := []) p1 l1 n2 n1
          rw [List.append_nil] at p2
          have l2 : (cur.toList.take (o * sz') ++ news).length = (k.rows.take o ++ rs).length * sz' := by
            rw [List.length_append,List.length_append,Nat.add_mul,l1,n1]
          have e3 : (k.rows.drop (o + rs.length)).length * sz' = k.rows.length * sz' - (o + rs.length) * sz' := by rw [List.length_drop,Nat.sub_mul]
          have e4 : (o + rs.length) * sz' = o * sz' + rs.length * sz' := Nat.add_mul _ _ _
          have p4 := p3.take (k.rows.drop (o + rs.length)).length
          rw [List.take_length] at p4
          have l3 : ((cur.toList.drop ((o + rs.length) * sz')).take ((k.rows.drop (o + rs.length)).length * sz')).length = (k.rows.drop (o + rs.length)).length * sz' := by
            rw [List.length_take]
            refine Nat.min_eq_left ?_
            rw [e3]
            simp only [List.length_drop (l := cur.toList),Array.length_toList]
            exact Nat.sub_le_sub_right hin2 _
          have p5 := RowsIn.append (rest := (cur.toList.drop ((o + rs.length) * sz')).drop ((k.rows.drop (o + rs.length)).length * sz')) p2 l2 p4 l3
          rw [List.append_assoc (cur.toList.take (o * sz') ++ news),List.take_append_drop] at p5
          have hcs : (cur.toList.take (o * sz') ++ news ++ cur.toList.drop (o * sz' + news.length)).toArray.size = cur.size := by
            simp only [List.size_toArray,List.length_append,List.length_take,List.length_drop,Array.length_toList]
            omega
          have st := St.turn r e1 hk ho hl hg hth (cur.toList.take (o * sz') ++ news ++ cur.toList.drop (o * sz' + news.length)).toArray hcs (k' := { k with rows := k.rows.take o ++ rs ++ k.rows.drop (o + rs.length) }) rfl rfl (fun _ => by rw [ez,n1,← e4]; exact p5)
          exact ⟨_,m,_,hrun,st,.c (.int _ _)⟩
  | _ => simp at h
theorem Zbco (r : Rel B m H w) {t ty e : TypeId} {sz : Nat} {z : List Cell} (ht : P.underlying t = some (.slice e)) (hn : Zbk P e = some sz) (hz : Zdv P e = some z) (h0 : 0 < sz) (hzl : z.length = sz) {x : Cell} {vx : Value} (hx : VR m (Zj w) x vx)
    {v : AVal} {H' : Heap} (h : Zye H sz z x = some (v,H')) :
    ∃ w' m' u',(Builtin.clear_ #[t] ty #[vx]).run P w = .ok u' w' ∧ St B H m w H' m' w' ∧ VRA m' (Zj w') v u' := by
  unfold Zye at h
  cases hx with
  | nilS =>
    injection h with h
    injection h with hv hh
    subst hv; subst hh
    exact ⟨w,m,.tuple #[],by simp [Builtin.clear_,run_underlying ht],St.refl r,.tup rfl (fun i x v h => by simp at h)⟩
  | slc h1 h2 h3 h4 =>
    rename_i b o n sz' z' A c
    simp only at h
    by_cases hn0 : n = 0
    · rw [if_pos hn0] at h
      injection h with h
      injection h with hv hh
      subst hv; subst hh; subst hn0
      exact ⟨w,m,.tuple #[],by simp [Builtin.clear_,run_underlying ht],St.refl r,.tup rfl (fun i x v h => by simp at h)⟩
    · rw [if_neg hn0] at h
      cases hk : H[b]? with
      | none => simp [hk] at h
      | some k =>
        simp only [hk] at h
        split at h
        case isFalse => cases h
        case isTrue hc =>
          obtain ⟨rfl,hown,hl,hlen⟩ := hc
          injection h with h
          injection h with hv hh
          subst hv; subst hh
          obtain ⟨zv,hzr,hzv⟩ := Ztb hz
          have hzs : zv.cells.size = sz' := by have := (hzv m (Zj w)).length; simp at this; omega
          have hmade := RowsIn.made (hzv m (Zj w)) n (by omega)
          rw [hzl] at hmade
          have n1 : (Builtin.zeroCells zv.cells n).toList.length = (List.replicate n z).length * sz' := by simp [Builtin.zeroCells,hzs]
          have n2 : RowsIn m (Zj w) sz' (List.replicate n z) (Builtin.zeroCells zv.cells n).toList.toArray := by
            have e : Builtin.zeroCells zv.cells n = (Array.range (n * sz')).map (zv.cells[· % zv.cells.size]!) := by simp [Builtin.zeroCells,hzs]
            rw [e,Array.toArray_toList]; exact hmade
          have n3 : ∀ v ∈ (Builtin.zeroCells zv.cells n).toList,v.oneCell' = true := fun v hv => by
            simp only [Builtin.zeroCells,Array.toList_map,List.mem_map] at hv
            obtain ⟨i,_,rfl⟩ := hv
            have hi : i % zv.cells.size < zv.cells.size := Nat.mod_lt _ (by omega)
            rw [getElem!_pos zv.cells _ hi]
            obtain ⟨c,_,hr⟩ := (hzv m (Zj w)).right_mem _ (Array.getElem_mem_toList hi)
            exact hr.oneCell
          generalize hnews : (Builtin.zeroCells zv.cells n).toList = news at n1 n2 n3
          have hrl : (List.replicate n z).length = n := by simp
          generalize List.replicate n z = rs at n1 n2 hrl
          obtain ⟨L,e1,ez,h5⟩ := h4
          obtain ⟨ea,eo⟩ := h5 (by omega)
          obtain ⟨k',hk',hat⟩ := r.blk b L e1
          rw [hk] at hk'; injection hk' with hk'; subst hk'
          have ho : L.own = true := by rw [← hat.own]; exact hown
          have hLo : L.o = 0 := (hat.ours ho).2
          obtain ⟨cur,ct,fz,hg,hth⟩ := hat.row ho hl
          have hrows := Zlj r e1 hk ho hl hg
          rw [ez] at hrows
          have hcur : (o + c) * sz' = cur.size := by have := eo ho; rw [Zco hg] at this; exact this
          have hA : A = ⟨L.g,o * sz',none⟩ := by rw [ea,hLo]; simp
          subst hA
          have hmul : o * sz' + rs.length * sz' ≤ cur.size := by
            rw [← hcur,← Nat.add_mul]
            exact Nat.mul_le_mul_right sz' (by omega)
          have hst := Zdx P L.g (o * sz') ct fz news 0 cur w hg hth (by simp; omega) n3
          simp only [Nat.add_zero] at hst
          have hrun : (Builtin.clear_ #[t] ty #[.slice (some ⟨L.g,o * sz',none⟩) n c]).run P w = .ok (.tuple #[]) (w.setRow L.g (cur.toList.take (o * sz') ++ news ++ cur.toList.drop (o * sz' + news.length)).toArray) := by
            obtain ⟨n,rfl⟩ : ∃ q,n = q + 1 := ⟨n - 1,by omega⟩
            simp [Builtin.clear_,run_underlying ht,hzr,hnews,hst]
          have hin2 : k.rows.length * sz' ≤ cur.size := by
            have hp : k.rows.length - 1 < k.rows.length := by omega
            obtain ⟨g1,g2⟩ := hrows (k.rows.length - 1) _ (List.getElem?_eq_getElem hp)
            obtain ⟨v,k1,_⟩ := g2 (sz' - 1) _ (List.getElem?_eq_getElem (by omega))
            have := (Array.getElem?_eq_some_iff.1 k1).1
            have e2 : k.rows.length * sz' = (k.rows.length - 1) * sz' + sz' := by
              rw [← Nat.succ_mul]
              congr 1
              omega
            omega
          have hcl : cur.toList.toArray = cur := by simp
          have hr0 : RowsIn m (Zj w) sz' k.rows cur.toList.toArray := by rw [hcl]; exact hrows
          have p1 := hr0.take o
          have p3 := hr0.drop (o + rs.length)
          have l1 : (cur.toList.take (o * sz')).length = (k.rows.take o).length * sz' := by
            have hoo : (k.rows.take o).length = o := by rw [List.length_take]; omega
            rw [hoo,List.length_take,Array.length_toList]; omega
          have p2 := RowsIn.append (rest := []) p1 l1 n2 n1
          rw [List.append_nil] at p2
          have l2 : (cur.toList.take (o * sz') ++ news).length = (k.rows.take o ++ rs).length * sz' := by
            rw [List.length_append,List.length_append,Nat.add_mul,l1,n1]
          have e3 : (k.rows.drop (o + rs.length)).length * sz' = k.rows.length * sz' - (o + rs.length) * sz' := by rw [List.length_drop,Nat.sub_mul]
          have e4 : (o + rs.length) * sz' = o * sz' + rs.length * sz' := Nat.add_mul _ _ _
          have p4 := p3.take (k.rows.drop (o + rs.length)).length
          rw [List.take_length] at p4
          have l3 : ((cur.toList.drop ((o + rs.length) * sz')).take ((k.rows.drop (o + rs.length)).length * sz')).length = (k.rows.drop (o + rs.length)).length * sz' := by
            rw [List.length_take]
            refine Nat.min_eq_left ?_
            rw [e3]
            simp only [List.length_drop (l := cur.toList),Array.length_toList]
            exact Nat.sub_le_sub_right hin2 _
          have p5 := RowsIn.append (rest := (cur.toList.drop ((o + rs.length) * sz')).drop ((k.rows.drop (o + rs.length)).length * sz')) p2 l2 p4 l3
          rw [List.append_assoc (cur.toList.take (o * sz') ++ news),List.take_append_drop] at p5
          have hcs : (cur.toList.take (o * sz') ++ news ++ cur.toList.drop (o * sz' + news.length)).toArray.size = cur.size := by
            simp only [List.size_toArray,List.length_append,List.length_take,List.length_drop,Array.length_toList]
            omega
          have st := St.turn r e1 hk ho hl hg hth (cur.toList.take (o * sz') ++ news ++ cur.toList.drop (o * sz' + news.length)).toArray hcs (k' := { k with rows := k.rows.take o ++ rs ++ k.rows.drop (o + n) }) rfl rfl (fun _ => by rw [ez,n1,← e4,← hrl]; exact p5)
          exact ⟨_,m,_,hrun,st,.tup rfl (fun i x v h => by simp at h)⟩
  | _ => simp at h
theorem Zbcn (r : Rel B m H w) {t u ty e : TypeId} {d : TypeDesc} {sz by_ : Nat} {z : List Cell} (ht : P.underlying t = some (.slice e)) (hu : P.underlying u = some d) (hd : Zku e d = true) (hn : Zbk P e = some sz) (hb : Zim P e = some by_) (hz : Zdv P e = some z)
    (h0 : 0 < sz) (hb0 : 0 < by_) (hzl : z.length = sz) {x y : Cell} {vx vy : Value} (hx : VR m (Zj w) x vx) (hy : VR m (Zj w) y vy) {v : AVal} {H' : Heap} (h : Zc3 H sz by_ x y = some (v,H')) :
    ∃ w' m' u',(Builtin.append_ #[t,u] ty #[vx,vy]).run P w = .ok u' w' ∧ St B H m w H' m' w' ∧ VRA m' (Zj w') v u' := by
  obtain ⟨i,hi,hin⟩ := Zfi hn
  unfold Zim at hb
  simp [hi] at hb
  unfold Zdv at hz
  cases hzv : i.zero with
  | none => simp [hi,hzv] at hz
  | some zv =>
    simp [hi,hzv] at hz
    have hzs : zv.cells.size = sz := by have := (Zde (m := m) (σ := Zj w) hz).length; simp at this; omega
    unfold Zc3 at h
    cases hnew : H.rowsOf y with
    | none => simp [hnew] at h
    | some new =>
      simp only [hnew] at h
      split at h
      case isFalse => cases h
      case isTrue hfit =>
        obtain ⟨news,n1,n2,n3,n4,n5⟩ := Zn3 (P := P) r hy h0 hfit hnew
        have grown : ∀ (H1 : Heap) (r1 : Rel B m H1 w) (s1 : St B H m w H1 m w) (base : Option Addr) (n c : Nat) (rows : List (List Cell)) (olds : List Value),vx = .slice base n c → c < n + new.length → (n + new.length) * by_ ≤ 140737488355328 → rows.length = n →
            olds.length = n * sz → RowsIn m (Zj w) sz rows olds.toArray → (Builtin.firstCells sz n (.slice base n c)).run P w.drew = .ok olds.toArray w.drew →
            ∃ w' m' u',(Builtin.append_ #[t,u] ty #[vx,vy]).run P w = .ok u' w' ∧ St B H m w (H1 ++ [{ sz := sz,rows := rows ++ new }]) m' w' ∧ VRA m' (Zj w') (.c (.slc H1.length 0 (n + new.length) sz false)) u' := by
          intro H1 r1 s1 base n c rows olds hvx hlt hbytes hrl hol hor hfo
          subst hvx
          have hsmall : n + new.length ≤ 140737488355328 := Nat.le_trans (Nat.le_mul_of_pos_right _ hb0) hbytes
          have hrun := Z3d (P := P) w ht hu hd hi hzv (ty := ty) base n c new.length olds news vy (by rw [hin]; exact hfo) n4 (by rw [hin]; exact n5 w.drew rfl) hlt (by omega) (growslice_fits hlt (by rw [hb]; exact hbytes))
          have sd := St.drew r1
          have hrows : RowsIn m (Zj w.drew) sz (rows ++ new) (olds.toArray ++ news.toArray ++ Builtin.zeroCells zv.cells (grownCap w (n + new.length) c e - (n + new.length))) := by
            have := RowsIn.append (rest := (Builtin.zeroCells zv.cells (grownCap w (n + new.length) c e - (n + new.length))).toList) hor (by rw [hol,hrl]) n2 n1
            have heq : (olds ++ news ++ (Builtin.zeroCells zv.cells (grownCap w (n + new.length) c e - (n + new.length))).toList).toArray = olds.toArray ++ news.toArray ++ Builtin.zeroCells zv.cells (grownCap w (n + new.length) c e - (n + new.length)) := by
              apply Array.ext'; simp
            rw [heq] at this
            exact this
          have sn := St.new sd.rel e { sz := sz,rows := rows ++ new } _ rfl hrows
          have hge := grownCap_ge w (n + new.length) c e
          have hcells : Zj (w.drew.alloc (.cells (olds.toArray ++ news.toArray ++ Builtin.zeroCells zv.cells (grownCap w (n + new.length) c e - (n + new.length))) e)) w.heap.size = grownCap w (n + new.length) c e * sz := by
            show Zj _ w.drew.heap.size = _
            rw [Zco (heap_alloc_new w.drew _)]
            simp only [Array.size_append,List.size_toArray,size_zeroCells,hzs,hol,n1,← Nat.add_mul]
            congr 1
            omega
          refine ⟨_,_,_,hrun,(s1.trans r (sd.trans r1 sn)),Zjk _ _ _ _ _ _ hge (fun h => by cases h) ?_ hcells.symm⟩
          exact grownCap_le_maxLen w _ c e (by unfold maxLen; omega)
        have hnil : (∀ n c base,vx = .slice base n c → n ≤ c → new.length = 0 → (Builtin.append_ #[t,u] ty #[vx,vy]).run P w = .ok vx w) := by
          intro n c base hvx hle hn0
          subst hvx
          have hnews : news = [] := List.eq_nil_of_length_eq_zero (by rw [n1,hn0]; simp)
          subst hnews
          rw [hn0] at n4 n5
          exact Z3a w ht hu hd hi base n c hle vy n4 (by rw [hin]; exact n5 w rfl)
        have hnewpos : new.length ≠ 0 → 0 < new.length := fun h => by omega
        cases hx with
        | nilS =>
          simp only at h
          split at h
          · rename_i hn0
            injection h with h
            injection h with hv hh
            subst hv; subst hh
            exact ⟨w,m,_,hnil 0 0 none rfl (Nat.le_refl _) hn0,St.refl r,.c .nilS⟩
          · rename_i hn0
            split at h
            · rename_i hbytes
              injection h with h
              injection h with hv hh
              subst hv; subst hh
              have := grown H r (St.refl r) none 0 0 [] [] rfl (by omega) (by rw [Nat.zero_add]; exact hbytes) rfl (by simp) (fun i r e => by simp at e) (by simp [Builtin.firstCells])
              simpa using this
            · cases h
        | zerN =>
          simp only at h
          split at h
          · rename_i hn0
            injection h with h
            injection h with hv hh
            subst hv; subst hh
            exact ⟨w,m,_,hnil 0 0 _ rfl (Nat.le_refl _) hn0,St.refl r,.c .zerN⟩
          · rename_i hn0
            split at h
            · rename_i hbytes
              injection h with h
              injection h with hv hh
              subst hv; subst hh
              have := grown H r (St.refl r) _ 0 0 [] [] rfl (by omega) (by rw [Nat.zero_add]; exact hbytes) rfl (by simp) (fun i r e => by simp at e) (by simp [Builtin.firstCells,Zd9])
              simpa using this
            · cases h
        | zerS =>
          simp only at h
          split at h
          · rename_i hn0
            injection h with h
            injection h with hv hh
            subst hv; subst hh
            exact ⟨w,m,_,hnil 0 0 _ rfl (Nat.le_refl _) hn0,St.refl r,.c .zerS⟩
          · rename_i hn0
            split at h
            · rename_i hbytes
              injection h with h
              injection h with hv hh
              subst hv; subst hh
              have := grown H r (St.refl r) _ 0 0 [] [] rfl (by omega) (by rw [Nat.zero_add]; exact hbytes) rfl (by simp) (fun i r e => by simp at e) (by simp [Builtin.firstCells,Zd9])
              simpa using this
            · cases h
        | emp hcc =>
          simp only at h
          split at h <;> try (cases h; done)
          rename_i hn0
          injection h with h
          injection h with hv hh
          subst hv; subst hh
          exact ⟨w,m,_,hnil _ _ _ rfl (Nat.zero_le _) hn0,St.refl r,.c (.emp hcc)⟩
        | lstN =>
          simp only at h
          split at h <;> try (cases h; done)
          rename_i hn0
          injection h with h
          injection h with hv hh
          subst hv; subst hh
          exact ⟨w,m,_,hnil 0 0 _ rfl (Nat.le_refl _) hn0,St.refl r,.c .lstN⟩
        | lst g1 g2 g3 g4 g5 g6 =>
          simp only at h
          split at h <;> try (cases h; done)
          rename_i hn0
          injection h with h
          injection h with hv hh
          subst hv; subst hh
          exact ⟨w,m,_,hnil _ _ _ rfl g1 hn0,St.refl r,.c (.lst g1 g2 g3 g4 g5 g6)⟩
        | slc h1 h2 h3 h4 =>
          rename_i b s n sz' zz A c
          simp only at h
          split at h
          · rename_i hn0
            injection h with h
            injection h with hv hh
            subst hv; subst hh
            exact ⟨w,m,_,hnil n c (some A) rfl h1 hn0,St.refl r,.c (.slc h1 h2 h3 h4)⟩
          · rename_i hn0
            split at h
            case isFalse => cases h
            case isTrue hc =>
              obtain ⟨hszz,hbytes⟩ := hc
              subst hszz
              split at h
              · rename_i hzz
                split at h
                · rename_i hn00
                  subst hn00
                  injection h with h
                  injection h with hv hh
                  subst hv; subst hh
                  have hc0 := h2 hzz
                  subst hc0
                  have := grown H r (St.refl r) (some A) 0 0 [] [] rfl (by omega) hbytes rfl (by simp) (fun i r e => by simp at e) (by simp [Builtin.firstCells,Zd9])
                  simpa using this
                · cases h
              · rename_i hzz
                cases hk : H[b]? with
                | none => simp [hk] at h
                | some k =>
                  simp only [hk] at h
                  split at h
                  case isFalse => cases h
                  case isTrue hcond =>
                    obtain ⟨hown,hlive,hs0,hnle⟩ := hcond
                    subst hs0
                    injection h with h
                    injection h with hv hh
                    subst hv; subst hh
                    have sdrop := St.drop r hk
                    have hlen1 : (H.set b { k with live := false }).length = H.length := by simp
                    by_cases hc0 : c = 0
                    · subst hc0
                      have hn00 : n = 0 := by omega
                      subst hn00
                      have := grown _ sdrop.rel sdrop (some A) 0 0 [] [] rfl (by omega) hbytes rfl (by simp) (fun i r e => by simp at e) (by simp [Builtin.firstCells,Zd9])
                      simp only [hlen1] at this
                      simpa using this
                    · obtain ⟨L,e1,ez,h5⟩ := h4
                      obtain ⟨ea,eo⟩ := h5 hc0
                      obtain ⟨k',hk',hat⟩ := r.blk b L e1
                      rw [hk] at hk'; injection hk' with hk'; subst hk'
                      have ho : L.own = true := by rw [← hat.own]; exact hown
                      obtain ⟨cur,ct,fz,hg,hth⟩ := hat.row ho hlive
                      have hLo : L.o = 0 := (hat.ours ho).2
                      have hrows := Zlj r e1 hk ho hlive hg
                      rw [ez] at hrows
                      have hA : A = ⟨L.g,0,none⟩ := by rw [ea,hLo]; simp
                      subst hA
                      have hcap : c * sz' = cur.size := by have := eo ho; rw [Zco hg] at this; simpa using this
                      have hnc : n * sz' ≤ cur.size := by rw [← hcap]; exact Nat.mul_le_mul_right _ h1
                      have hol : (cur.toList.take (n * sz')).length = n * sz' := by simp; omega
                      have hor : RowsIn m (Zj w) sz' (k.rows.take n) (cur.toList.take (n * sz')).toArray := RowsIn.take (by simpa using hrows) n
                      by_cases hroom : n + new.length ≤ c
                      · have hfit2 : n * i.size + news.length ≤ cur.size := by
                          rw [hin,n1,← Nat.add_mul,← hcap]
                          exact Nat.mul_le_mul_right _ hroom
                        have hrun := Z4z (P := P) w (ty := ty) ht hu hd hi L.g n c new.length cur hg hth vy news n4 (by rw [hin]; exact n5 w rfl) n3 hroom hfit2
                        rw [hin] at hrun hfit2
                        have hsize : (cur.toList.take (n * sz') ++ news ++ cur.toList.drop (n * sz' + news.length)).toArray.size = cur.size := by
                          simp only [List.size_toArray,List.length_append,List.length_take,List.length_drop,Array.length_toList]
                          omega
                        have st := St.turn r e1 hk ho hlive hg hth _ hsize (k' := { k with live := false }) rfl rfl (fun h => by cases h)
                        have hg1 := setRow_heap w L.g cur (cur.toList.take (n * sz') ++ news ++ cur.toList.drop (n * sz' + news.length)).toArray ct fz hg
                        have hb1 : (H.set b { k with live := false })[b]? = some { k with live := false } := by simp [r.lt e1]
                        have hrows1 : RowsIn m (Zj (w.setRow L.g (cur.toList.take (n * sz') ++ news ++ cur.toList.drop (n * sz' + news.length)).toArray)) L.sz (k.rows.take n ++ new) (cur.toList.take (n * sz') ++ news ++ cur.toList.drop (n * sz' + news.length)).toArray := by
                          rw [ez]
                          exact (RowsIn.append hor (by rw [hol,List.length_take,Nat.min_eq_left hnle]) n2 n1).mono (st.mle r)
                        have had := St.adopt st.rel (k := { sz := sz',rows := k.rows.take n ++ new }) e1 hb1 rfl ho rfl ez.symm hg1 (by rw [hsize]; exact hth) hrows1 (by
                          intro b' L' q' hm' ho' hq' hl' hgg
                          by_cases hbb : b = b'
                          · subst hbb
                            rw [hb1] at hq'; injection hq' with hq'; subst hq'
                            cases hl'
                          · rw [List.getElem?_set_ne hbb] at hq'
                            exact hbb (r.inj b b' L L' k q' e1 hm' ho ho' hk hq' hlive hl' hgg.symm)) (r.zown b L k e1 ho hk hlive)
                        have sad := st.adopts had.1 had.2 ⟨b,L,k,e1,ho,rfl,hk,hlive⟩
                        refine ⟨_,_,_,hrun,sad,?_⟩
                        have := Zjk (m := m) (σ' := Zj (w.setRow L.g (cur.toList.take (n * sz') ++ news ++ cur.toList.drop (n * sz' + news.length)).toArray)) L.g (H.set b { k with live := false }).length (n + new.length) L.sz c false hroom (fun h => by cases h) h3 (by rw [Zco hg1,hsize,ez,hcap])
                        rw [hlen1,ez] at this
                        rw [hlen1,ez]
                        exact this
                      · have := grown _ sdrop.rel sdrop (some ⟨L.g,0,none⟩) n c (k.rows.take n) (cur.toList.take (n * sz')) rfl (by omega) hbytes (by simp; omega) hol hor (by
                          refine run_firstCells_some (P := P) w.drew sz' n ⟨L.g,0,none⟩ n c _ hol (fun j v hj => ?_)
                          rw [Zcg,Nat.zero_add,World.cell?_drew,cell_of_row _ _ _ _ _ _ hg]
                          rw [List.getElem?_take] at hj
                          split at hj
                          · simpa using hj
                          · cases hj)
                        simp only [hlen1] at this
                        simpa using this
        | _ => simp only at h; cases h
theorem Z9a (r : Rel B m H w) {t u ty e : TypeId} {k : IntKind} {sz by_ : Nat} {z : List Cell} (ht : P.underlying t = some (.slice e)) (hu : P.underlying u = some (.int k)) (hn : Zbk P e = some sz) (hb : Zim P e = some by_) (hz : Zdv P e = some z)
    (h0 : 0 < sz) (hb0 : 0 < by_) (hzl : z.length = sz) {k' : IntKind} {l : Int} (hl0 : 0 < l) (hl1 : l ≤ 9223372036854775807) (hl2 : l * by_ ≤ 140737488355328) :
    ∃ w' m' u',(Builtin.append_ #[t,u] ty #[.slice none 0 0,.int k' l]).run P w = .ok u' w' ∧ St B H m w (H ++ [{ sz := sz,rows := List.replicate l.toNat z }]) m' w' ∧ VRA m' (Zj w') (.c (.slc H.length 0 l.toNat sz false)) u' := by
  obtain ⟨i,hi,hin⟩ := Zfi hn
  unfold Zim at hb
  simp [hi] at hb
  unfold Zdv at hz
  cases hzv : i.zero with
  | none => simp [hi,hzv] at hz
  | some zv =>
    simp [hi,hzv] at hz
    have hzs : All2 (VR m (Zj w)) z zv.cells.toList := Zde hz
    have hzsz : zv.cells.size = sz := by have := hzs.length; simp at this; omega
    have hw : IntKind.i64.wrap l = l := by
      unfold IntKind.wrap
      simp [IntKind.bits,IntKind.signed,IntKind.min,IntKind.max]
      omega
    have hbytes : l.toNat * by_ ≤ 140737488355328 := by
      have h1 : ((l.toNat * by_ : Nat) : Int) = l * by_ := by rw [Int.natCast_mul,Int.toNat_of_nonneg (by omega)]
      omega
    have hsmall : l.toNat ≤ 140737488355328 := Nat.le_trans (Nat.le_mul_of_pos_right _ hb0) hbytes
    have hge := grownCap_ge w l.toNat 0 e
    have hfit := growslice_fits (old := 0) (bytes := i.bytes) (show 0 < l.toNat by omega) (by rw [hb]; exact hbytes)
    have h48 : ¬ (281474976710656 < Builtin.nextslicecap l.toNat 0 * i.bytes) := by omega
    have h48' : ¬ (281474976710656 < l * (i.bytes : Int)) := by rw [hb]; omega
    have h63 : ¬ (9223372036854775807 < l) := by omega
    have hpos : ¬ (l < 0) := by omega
    have hne : ¬ (l.toNat = 0) := by omega
    have hle : ¬ (l ≤ 0) := by omega
    have hmax : ¬ (9223372036854775807 < max l 0) := by omega
    have hsz : ¬ (l.toNat * i.size = 0) := by rw [hin]; exact Nat.mul_ne_zero hne (by omega)
    have hrun : (Builtin.append_ #[t,u] ty #[.slice none 0 0,.int k' l]).run P w =
        .ok (.slice (some ⟨w.heap.size,0,none⟩) l.toNat (grownCap w l.toNat 0 e)) (w.drew.alloc (.cells (Builtin.zeroCells zv.cells l.toNat ++ Builtin.zeroCells zv.cells (grownCap w l.toNat 0 e - l.toNat)) e)) := by
      simp [Builtin.append_,run_underlying ht,run_underlying hu,sizeOf,typeInfo,zeroValue,asInt,asIntOf,hi,hzv,hw,hpos,hle,hmax,h48,h48',h63,hne,hsz,Builtin.firstCells,Question.forced,newRow,grownCap]
    have sd := St.drew r
    have hmade := RowsIn.made hzs l.toNat (by omega)
    rw [hzl] at hmade
    have hrows : RowsIn m (Zj w.drew) sz (List.replicate l.toNat z) (Builtin.zeroCells zv.cells l.toNat ++ Builtin.zeroCells zv.cells (grownCap w l.toNat 0 e - l.toNat)) := by
      intro q row eq
      obtain ⟨g1,g2⟩ := hmade q row eq
      refine ⟨g1,fun f c ec => ?_⟩
      obtain ⟨v,e1,e2⟩ := g2 f c ec
      refine ⟨v,?_,e2⟩
      have hlt : q * sz + f < (Builtin.zeroCells zv.cells l.toNat).size := by
        have hq : q < l.toNat := by have := (List.getElem?_eq_some_iff.1 eq).1; simpa using this
        have hf : f < sz := by rw [← g1]; exact (List.getElem?_eq_some_iff.1 ec).1
        rw [size_zeroCells,hzsz]
        exact Zet hq hf
      rw [Array.getElem?_append_left hlt]
      unfold Builtin.zeroCells
      rw [hzsz]
      rw [hzsz] at e1
      exact e1
    have sn := St.new sd.rel e { sz := sz,rows := List.replicate l.toNat z } _ rfl hrows
    have hcells : Zj (w.drew.alloc (.cells (Builtin.zeroCells zv.cells l.toNat ++ Builtin.zeroCells zv.cells (grownCap w l.toNat 0 e - l.toNat)) e)) w.heap.size = grownCap w l.toNat 0 e * sz := by
      show Zj _ w.drew.heap.size = _
      rw [Zco (heap_alloc_new w.drew _)]
      simp only [Array.size_append,size_zeroCells,hzsz,← Nat.add_mul]
      congr 1
      omega
    exact ⟨_,_,_,hrun,sd.trans r sn,Zjk _ _ _ _ _ _ hge (fun h => by cases h) (grownCap_le_maxLen w _ 0 e (by unfold maxLen; omega)) hcells.symm⟩
theorem Z2p (w : World) {t u ty e : TypeId} {k k' : IntKind} {i : TypeInfo} {z : Value} {l : Int} (ht : P.underlying t = some (.slice e)) (hu : P.underlying u = some (.int k)) (hi : P.info? e = some i) (hz : i.zero = some z) (hl0 : 0 < l) (hl1 : l ≤ 9223372036854775807)
    (h48 : l * (i.bytes : Int) ≤ 281474976710656) (hs0 : 0 < i.size) (g sLen sCap : Nat) (cur : Array Value) {ct : TypeId} {zf : Nat × Nat} (hg : w.heap[g]? = some (.cells cur ct zf)) (hth : Thaw cur.size zf) (h1 : ∀ u ∈ (Builtin.zeroCells z.cells l.toNat).toList,u.oneCell' = true)
    (hroom : sLen + l.toNat ≤ sCap) (hfit : sLen * i.size + (Builtin.zeroCells z.cells l.toNat).toList.length ≤ cur.size) :
    (Builtin.append_ #[t,u] ty #[.slice (some ⟨g,0,none⟩) sLen sCap,.int k' l]).run P w =
      .ok (.slice (some ⟨g,0,none⟩) (sLen + l.toNat) sCap) (w.setRow g (cur.toList.take (sLen * i.size) ++ (Builtin.zeroCells z.cells l.toNat).toList ++ cur.toList.drop (sLen * i.size + (Builtin.zeroCells z.cells l.toNat).toList.length)).toArray) := by
  have hst := Zdx P g (sLen * i.size) ct zf _ 0 cur w hg hth (by simpa using hfit) h1
  simp only [Nat.add_zero] at hst
  have hw : IntKind.i64.wrap l = l := by
    unfold IntKind.wrap
    simp [IntKind.bits,IntKind.signed,IntKind.min,IntKind.max]
    omega
  have h48' : ¬ (281474976710656 < l * (i.bytes : Int)) := by omega
  have hpos : ¬ (l < 0) := by omega
  have hne : ¬ (l.toNat = 0) := by omega
  have hle : ¬ (l ≤ 0) := by omega
  have hsz0 : ¬ (l.toNat * i.size = 0) := Nat.mul_ne_zero hne (by omega)
  generalize hzc : Builtin.zeroCells z.cells l.toNat = zc at *
  simp [Builtin.append_,run_underlying ht,run_underlying hu,sizeOf,typeInfo,zeroValue,asInt,asIntOf,hi,hz,hw,hpos,hle,hne,hsz0,h48',hroom,Zcg,hzc,hst]
theorem Z1s (w : World) {t u ty e : TypeId} {k k' : IntKind} {i : TypeInfo} {z : Value} {l : Int} (ht : P.underlying t = some (.slice e)) (hu : P.underlying u = some (.int k)) (hi : P.info? e = some i) (hz : i.zero = some z) (hl0 : 0 < l) (hl1 : l ≤ 9223372036854775807)
    (h48 : l * (i.bytes : Int) ≤ 281474976710656) (hs0 : 0 < i.size) (base : Option Addr) (sLen sCap : Nat) (olds : List Value) (hfo : (Builtin.firstCells i.size sLen (.slice base sLen sCap)).run P w.drew = .ok olds.toArray w.drew)
    (hg : sCap < sLen + l.toNat) (h63 : ((sLen + l.toNat : Nat) : Int) ≤ 9223372036854775807) (hfit : Builtin.nextslicecap (sLen + l.toNat) sCap * i.bytes ≤ 281474976710656) :
    (Builtin.append_ #[t,u] ty #[.slice base sLen sCap,.int k' l]).run P w =
      .ok (.slice (some ⟨w.heap.size,0,none⟩) (sLen + l.toNat) (grownCap w (sLen + l.toNat) sCap e))
        (w.drew.alloc (.cells (olds.toArray ++ Builtin.zeroCells z.cells l.toNat ++ Builtin.zeroCells z.cells (grownCap w (sLen + l.toNat) sCap e - (sLen + l.toNat))) e)) := by
  have hw : IntKind.i64.wrap l = l := by
    unfold IntKind.wrap
    simp [IntKind.bits,IntKind.signed,IntKind.min,IntKind.max]
    omega
  have h48' : ¬ (281474976710656 < l * (i.bytes : Int)) := by omega
  have hpos : ¬ (l < 0) := by omega
  have hne : ¬ (l.toNat = 0) := by omega
  have hle : ¬ (l ≤ 0) := by omega
  have hsz0 : ¬ (l.toNat * i.size = 0) := Nat.mul_ne_zero hne (by omega)
  have hn : ¬ (sLen + l.toNat ≤ sCap) := by omega
  have h63' : ¬ (9223372036854775807 < ((sLen : Int) + max l 0)) := by omega
  have h63'' : ¬ (9223372036854775807 < ((sLen : Int) + ((l.toNat : Nat) : Int))) := by omega
  have hcap : ¬ (281474976710656 < Builtin.nextslicecap (sLen + l.toNat) sCap * i.bytes) := by omega
  simp [Builtin.append_,run_underlying ht,run_underlying hu,sizeOf,typeInfo,zeroValue,asInt,asIntOf,hi,hz,hw,hpos,hle,hne,hsz0,h48',hn,h63',h63'',hcap,Question.forced,hfo,newRow,grownCap]
theorem Zben (r : Rel B m H w) {t u ty e : TypeId} {k : IntKind} {sz by_ : Nat} {z : List Cell} (ht : P.underlying t = some (.slice e)) (hu : P.underlying u = some (.int k)) (hn : Zbk P e = some sz) (hb : Zim P e = some by_) (hz : Zdv P e = some z)
    (h0 : 0 < sz) (hb0 : 0 < by_) (hzl : z.length = sz) {k' : IntKind} {l : Int} (hl0 : 0 < l) (hl1 : l ≤ 9223372036854775807) (hl2 : l * by_ ≤ 140737488355328) {b n : Nat} {vx : Value} (hx : VR m (Zj w) (.slc b 0 n sz false) vx) {v : AVal} {H' : Heap}
    (h : Zze H sz by_ b n (List.replicate l.toNat z) = some (v,H')) :
    ∃ w' m' u',(Builtin.append_ #[t,u] ty #[vx,.int k' l]).run P w = .ok u' w' ∧ St B H m w H' m' w' ∧ VRA m' (Zj w') v u' := by
  obtain ⟨i,hi,hin⟩ := Zfi hn
  unfold Zim at hb
  simp [hi] at hb
  unfold Zdv at hz
  cases hzv : i.zero with
  | none => simp [hi,hzv] at hz
  | some zv =>
    simp [hi,hzv] at hz
    have hzs' : All2 (VR m (Zj w)) z zv.cells.toList := Zde hz
    have hzs : zv.cells.size = sz := by have := hzs'.length; simp at this; omega
    have h48 : l * (i.bytes : Int) ≤ 281474976710656 := by rw [hb]; omega
    have hs0 : 0 < i.size := by omega
    obtain ⟨new,hnew⟩ : ∃ q,q = List.replicate l.toNat z := ⟨_,rfl⟩
    have hnl : new.length = l.toNat := by rw [hnew,List.length_replicate]
    rw [← hnew] at h
    obtain ⟨news,hnews⟩ : ∃ q,q = (Builtin.zeroCells zv.cells l.toNat).toList := ⟨_,rfl⟩
    have hna : news.toArray = Builtin.zeroCells zv.cells l.toNat := by rw [hnews,Array.toArray_toList]
    have n1 : news.length = new.length * sz := by rw [hnews,Array.length_toList,size_zeroCells,hzs,hnl]
    have n2 : RowsIn m (Zj w) sz new news.toArray := by
      have hmade := RowsIn.made hzs' l.toNat (by omega)
      rw [hzl] at hmade
      have e0 : Builtin.zeroCells zv.cells l.toNat = (Array.range (l.toNat * sz)).map (zv.cells[· % zv.cells.size]!) := by simp [Builtin.zeroCells,hzs]
      rw [hna,hnew,e0]
      exact hmade
    have n3 : ∀ v ∈ news,v.oneCell' = true := fun v hv => by
      rw [hnews] at hv
      simp only [Builtin.zeroCells,Array.toList_map,List.mem_map] at hv
      obtain ⟨i,_,rfl⟩ := hv
      have hi : i % zv.cells.size < zv.cells.size := Nat.mod_lt _ (by omega)
      rw [getElem!_pos zv.cells _ hi]
      obtain ⟨c,_,hr⟩ := hzs'.right_mem _ (Array.getElem_mem_toList hi)
      exact hr.oneCell
    unfold Zze at h
    split at h
    case isFalse => cases h
    case isTrue hbytes =>
      cases hx with
      | slc h1 h2 h3 h4 =>
        rename_i A c
        cases hk : H[b]? with
        | none => simp [hk] at h
        | some k =>
          simp only [hk] at h
          split at h
          case isFalse => cases h
          case isTrue hcond =>
            obtain ⟨hown,hlive,hnle⟩ := hcond
            injection h with h
            injection h with hv hh
            subst hv; subst hh
            have sdrop := St.drop r hk
            have hlen1 : (H.set b { k with live := false }).length = H.length := by simp
            have hge := grownCap_ge w (n + new.length) c e
            have grown : ∀ (base : Option Addr) (olds : List Value),c < n + new.length → olds.length = n * sz → RowsIn m (Zj w) sz (k.rows.take n) olds.toArray → (Builtin.firstCells sz n (.slice base n c)).run P w.drew = .ok olds.toArray w.drew →
                ∃ w' m' u',(Builtin.append_ #[t,u] ty #[.slice base n c,.int k' l]).run P w = .ok u' w' ∧ St B H m w ((H.set b { k with live := false }) ++ [{ sz := sz,rows := k.rows.take n ++ new }]) m' w' ∧ VRA m' (Zj w') (.c (.slc H.length 0 (n + new.length) sz false)) u' := by
              intro base olds hlt hol hor hfo
              have hsmall : n + new.length ≤ 140737488355328 := Nat.le_trans (Nat.le_mul_of_pos_right _ hb0) hbytes
              have hrl : (k.rows.take n).length = n := by rw [List.length_take]; omega
              have hrun := Z1s (P := P) w ht hu hi hzv hl0 hl1 h48 hs0 (ty := ty) (k' := k') base n c olds (by rw [hin]; exact hfo) (by rw [← hnl]; exact hlt) (by rw [← hnl]; omega) (by rw [← hnl]; exact growslice_fits hlt (by rw [hb]; exact hbytes))
              rw [← hnl] at hrun
              rw [hnl,← hna,← hnl] at hrun
              have sd := St.drew sdrop.rel
              have hrows : RowsIn m (Zj w.drew) sz (k.rows.take n ++ new) (olds.toArray ++ news.toArray ++ Builtin.zeroCells zv.cells (grownCap w (n + new.length) c e - (n + new.length))) := by
                have := RowsIn.append (rest := (Builtin.zeroCells zv.cells (grownCap w (n + new.length) c e - (n + new.length))).toList) hor (by rw [hol,hrl]) n2 n1
                have heq : (olds ++ news ++ (Builtin.zeroCells zv.cells (grownCap w (n + new.length) c e - (n + new.length))).toList).toArray = olds.toArray ++ news.toArray ++ Builtin.zeroCells zv.cells (grownCap w (n + new.length) c e - (n + new.length)) := by
                  apply Array.ext'; simp
                rw [heq] at this
                exact this
              have sn := St.new sd.rel e { sz := sz,rows := k.rows.take n ++ new } _ rfl hrows
              have hcells : Zj (w.drew.alloc (.cells (olds.toArray ++ news.toArray ++ Builtin.zeroCells zv.cells (grownCap w (n + new.length) c e - (n + new.length))) e)) w.heap.size = grownCap w (n + new.length) c e * sz := by
                show Zj _ w.drew.heap.size = _
                rw [Zco (heap_alloc_new w.drew _)]
                simp only [Array.size_append,List.size_toArray,size_zeroCells,hzs,hol,n1,← Nat.add_mul]
                congr 1
                omega
              refine ⟨_,_,_,hrun,(sdrop.trans r (sd.trans sdrop.rel sn)),?_⟩
              rw [← hlen1]
              refine Zjk _ _ _ _ _ _ hge (fun h => by cases h) ?_ hcells.symm
              exact grownCap_le_maxLen w _ c e (by unfold maxLen; omega)
            have hnewpos : 0 < new.length := by rw [hnl]; omega
            by_cases hc0 : c = 0
            · subst hc0
              have hn00 : n = 0 := by omega
              subst hn00
              exact grown (some A) [] (by omega) (by simp) (fun i r e => by simp at e) (by simp [Builtin.firstCells,Zd9])
            · obtain ⟨L,e1,ez,h5⟩ := h4
              obtain ⟨ea,eo⟩ := h5 hc0
              obtain ⟨k0,hk0,hat⟩ := r.blk b L e1
              rw [hk] at hk0; injection hk0 with hk0; subst hk0
              have ho : L.own = true := by rw [← hat.own]; exact hown
              obtain ⟨cur,ct,fz,hg,hth⟩ := hat.row ho hlive
              have hLo : L.o = 0 := (hat.ours ho).2
              have hrows := Zlj r e1 hk ho hlive hg
              rw [ez] at hrows
              have hA : A = ⟨L.g,0,none⟩ := by rw [ea,hLo]; simp
              subst hA
              have hcap : c * sz = cur.size := by have := eo ho; rw [Zco hg] at this; simpa using this
              have hnc : n * sz ≤ cur.size := by rw [← hcap]; exact Nat.mul_le_mul_right _ h1
              have hol : (cur.toList.take (n * sz)).length = n * sz := by simp; omega
              have hor : RowsIn m (Zj w) sz (k.rows.take n) (cur.toList.take (n * sz)).toArray := RowsIn.take (by simpa using hrows) n
              by_cases hroom : n + new.length ≤ c
              · have hfit2 : n * i.size + news.length ≤ cur.size := by
                  rw [hin,n1,← Nat.add_mul,← hcap]
                  exact Nat.mul_le_mul_right _ hroom
                have hrun := Z2p (P := P) w (ty := ty) (k' := k') ht hu hi hzv hl0 hl1 h48 hs0 L.g n c cur hg hth (by rw [← hnews]; exact n3) (by rw [← hnl]; exact hroom) (by rw [← hnews]; exact hfit2)
                rw [← hnews,← hnl] at hrun
                rw [hin] at hrun hfit2
                have hsize : (cur.toList.take (n * sz) ++ news ++ cur.toList.drop (n * sz + news.length)).toArray.size = cur.size := by
                  simp only [List.size_toArray,List.length_append,List.length_take,List.length_drop,Array.length_toList]
                  omega
                have st := St.turn r e1 hk ho hlive hg hth _ hsize (k' := { k with live := false }) rfl rfl (fun h => by cases h)
                have hg1 := setRow_heap w L.g cur (cur.toList.take (n * sz) ++ news ++ cur.toList.drop (n * sz + news.length)).toArray ct fz hg
                have hb1 : (H.set b { k with live := false })[b]? = some { k with live := false } := by simp [r.lt e1]
                have hrows1 : RowsIn m (Zj (w.setRow L.g (cur.toList.take (n * sz) ++ news ++ cur.toList.drop (n * sz + news.length)).toArray)) L.sz (k.rows.take n ++ new) (cur.toList.take (n * sz) ++ news ++ cur.toList.drop (n * sz + news.length)).toArray := by
                  rw [ez]
                  exact (RowsIn.append hor (by rw [hol,List.length_take,Nat.min_eq_left hnle]) n2 n1).mono (st.mle r)
                have had := St.adopt st.rel (k := { sz := sz,rows := k.rows.take n ++ new }) e1 hb1 rfl ho rfl ez.symm hg1 (by rw [hsize]; exact hth) hrows1 (by
                  intro b' L' q' hm' ho' hq' hl' hgg
                  by_cases hbb : b = b'
                  · subst hbb
                    rw [hb1] at hq'; injection hq' with hq'; subst hq'
                    cases hl'
                  · rw [List.getElem?_set_ne hbb] at hq'
                    exact hbb (r.inj b b' L L' k q' e1 hm' ho ho' hk hq' hlive hl' hgg.symm)) (r.zown b L k e1 ho hk hlive)
                have sad := st.adopts had.1 had.2 ⟨b,L,k,e1,ho,rfl,hk,hlive⟩
                refine ⟨_,_,_,hrun,sad,?_⟩
                have := Zjk (m := m) (σ' := Zj (w.setRow L.g (cur.toList.take (n * sz) ++ news ++ cur.toList.drop (n * sz + news.length)).toArray)) L.g (H.set b { k with live := false }).length (n + new.length) L.sz c false hroom (fun h => by cases h) h3 (by rw [Zco hg1,hsize,ez,hcap])
                rw [hlen1,ez] at this
                rw [hlen1,ez]
                exact this
              · exact grown (some ⟨L.g,0,none⟩) (cur.toList.take (n * sz)) (by omega) hol hor (by
                  refine run_firstCells_some (P := P) w.drew sz n ⟨L.g,0,none⟩ n c _ hol (fun j v hj => ?_)
                  rw [Zcg,Nat.zero_add,World.cell?_drew,cell_of_row _ _ _ _ _ _ hg]
                  rw [List.getElem?_take] at hj
                  split at hj
                  · simpa using hj
                  · cases hj)
end Go.Proofs.YticmfblfghdkbaaGreatDoor.Eng
