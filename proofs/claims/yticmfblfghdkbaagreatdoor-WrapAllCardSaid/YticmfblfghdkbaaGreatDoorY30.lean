/- The law WrapAllCard, for every input that its row lets in: it answers true, and its arguments read as they did. What stands ahead of it in this folder are its parts. -/
import Derived.Test.YticmfblfghdkbaaGreatDoorY29
import Derived.Test.YticmfblfghdkbaaGreatDoorRows
import Derived.ProofKit
import Derived.OpenShut
import Derived.ShutString
import Derived.ChangeOld
import Derived.Carry
import Derived.SizedLaws
import Derived.LaidLaws
import Derived.LaidHandle
import Derived.ChangeSame
import Derived.ChangeVars
import Derived.JoinedOf
import Derived.SevenTiedAt
import Derived.Stop.Joined
import Derived.Lay
import Derived.Test.YticmfblfghdkbaaGreatDoorTie
import Derived.Test.YticmfblfghdkbaaGreatDoorCards
set_option linter.unusedVariables false
set_option linter.unusedSimpArgs false
namespace Go.Proofs.YticmfblfghdkbaaGreatDoor.Eng
open Go
theorem Zbbw {H : Heap} {a b c : AVal} : vExt (.tup [a,b,c]) 2 H = some (c,H) := rfl
set_option maxHeartbeats 4000000 in
theorem Z18 (secret : ByteArray) (_ : secret.size ≤ maxLen) (master : ByteArray) (_ : master.size ≤ maxLen) (log : List Rec) (_ : log.length ≤ maxLen) (_ : ∀ r ∈ log,r.ok) (kind : Int) (_ : IntKind.min .i64 ≤ kind ∧ kind ≤ IntKind.max .i64) (dev : Int) (_ : IntKind.min .i64 ≤ dev ∧ dev ≤ IntKind.max .i64)
  (own : ByteArray) (_ : own.size ≤ maxLen) (r : Rec) (_ : r.ok) (keys : List EKey) (hkm : keys.length ≤ maxLen) (_ : ∀ k ∈ keys,k.ok) (id : Int) (_ : IntKind.min .i64 ≤ id ∧ id ≤ IntKind.max .i64) :
  Pr 6 [sC secret,sC master,.c (Zw log),iC kind,iC dev,sC own,.agg r.cells,.c (Zbj keys),iC id] (bC true) := by
 have hgl := Z7o log
 have hgr := Zvz r
 have haw := Z6s
 have hcl := Rec.closed r
 refine Zl mixed Z2p (by simp [Zo,Zn,Zc,Zw,Z4,Zbj,Zcm,hcl]) fun hl T => ?_
 clear hl
 unfold Zt3
 have hbx : ∀ H : Heap,mkF H (vBox (.agg r.cells) H) = some (.c (.fp r.cells 0)) := fun H => Zbs hcl
 have hl6 : r.cells.length = 6 := rfl
 have ht6 : r.cells.take 6 = r.cells := rfl
 have hkl : ((keys.map EKey.cells).length : Int) = (keys.length : Int) := by simp
 simp only [Zw,Zbj] at hgl ⊢
 simp only [go_sem,simprocAttr,hbx]
 refine Za hgl ?_
 cases hb1 : Zsf log with
 | true =>
  simp only [go_sem,simprocAttr]
  refine Za haw ?_
  simp only [go_sem,simprocAttr]
  simp [Zf,Ze,Zi,Zg,Zh,Zd,Zc,Zb]
 | false =>
 simp only [go_sem,simprocAttr,hl6,ht6]
 refine Za hgr ?_
 cases hb2 : Zjq r with
 | true =>
  simp only [go_sem,simprocAttr]
  refine Za haw ?_
  simp only [go_sem,simprocAttr]
  simp [Zf,Ze,Zi,Zg,Zh,Zd,Zc,Zb]
 | false =>
 obtain ⟨l44,lgr⟩ := Z73 hb1
 obtain ⟨rb,_,_,_⟩ := Zyt hb2
 by_cases c1 : (100 : Int) < (secret.size : Int)
 ·simp only [go_sem,simprocAttr,c1]
  refine Za haw ?_
  simp only [go_sem,simprocAttr]
  simp [Zf,Ze,Zi,Zg,Zh,Zd,Zc,Zb]
 by_cases c2 : (100 : Int) < (master.size : Int)
 ·simp only [go_sem,simprocAttr,c1,c2]
  refine Za haw ?_
  simp only [go_sem,simprocAttr]
  simp [Zf,Ze,Zi,Zg,Zh,Zd,Zc,Zb]
 by_cases c3 : (100 : Int) < (own.size : Int)
 ·simp only [go_sem,simprocAttr,c1,c2,c3]
  refine Za haw ?_
  simp only [go_sem,simprocAttr]
  simp [Zf,Ze,Zi,Zg,Zh,Zd,Zc,Zb]
 by_cases c4 : (45 : Int) < (keys.length : Int)
 ·simp only [go_sem,simprocAttr,c1,c2,c3,hkl,c4]
  refine Za haw ?_
  simp only [go_sem,simprocAttr]
  simp [Zf,Ze,Zi,Zg,Zh,Zd,Zc,Zb]
 have loop : ∀ (rest pre : List EKey) (e : Env),keys = pre ++ rest → (∀ k ∈ pre,k.key.size ≤ 100) → e 0 = sC secret → e 1 = sC master → e 2 = .c (.lst 6 (log.map Rec.cells)) → e 3 = iC kind → e 4 = iC dev → e 5 = sC own → e 7 = .c (.lst 2 (keys.map EKey.cells)) → e 8 = iC id → e 15 = .c (.fp r.cells 0) → e 19 = iC pre.length →
   Run (Zu Tryz.prog T) ⟨[.tmp 18],fun u E => Zf E u = some (bC true)⟩ [.loop Ziw,.blk 0,.code Zl5] e [] := by
  intro rest
  induction rest with
  | nil =>
   intro pre e hp hks h0 h1 h2 h3 h4 h5 h7 h8 h15 h19
   have hc : ¬ ((pre.length : Int) < (keys.length : Int)) := by rw [hp]; simp
   rw [List.append_nil] at hp
   rw [← hp] at hks
   refine Zj ?_
   conv => enter [3,1]; unfold Ziw
   simp only [go_sem,simprocAttr,h7,h19,hkl,hc]
   unfold Zl5
   have m1 := Zpg secret master log kind dev (by omega) (by omega) (by omega)
   have m2 := Z9l secret master log kind dev (by omega) (by omega) (by omega)
   have o1 := Zph own r dev (by omega) (fun w hw => by have := rb w hw; omega)
   have o2 := Zt1 own r dev (by omega) (fun w hw => by have := rb w hw; omega)
   have t1 := Z6z log keys own id r (fun k hk => by have := hks k hk; omega) (by omega) (by omega) (by omega) (fun x hx => by have := (Zyt (lgr x hx)).2.1; omega) (fun w hw => by have := rb w hw; omega)
   have t2 := Z9i log keys own id r (fun k hk => by have := hks k hk; omega) (by omega) (by omega) (by omega) (fun w hw => by have := rb w hw; omega)
   have g1 := Zrd secret r (by omega)
   have g2 := Ztq secret r (by omega)
   have s1 := fun x : Rec => Zjj x x
   have s2 : Pr 36 [.c (lstZ 6 ((Zf7 log keys own id r).map Rec.cells)),.c (Zw (Zf7 log keys own id r))] (bC (decide (Zf7 log keys own id r = Zf7 log keys own id r))) := (Z2f _ _).wk (.cons (Zbar _ _) (.cons (.same _) .nil))
   have s3 : Pr 37 [.c (lstZ 2 ((Ze5 log keys own id r).map EKey.cells)),.c (Zbj (Ze5 log keys own id r))] (bC (decide (Ze5 log keys own id r = Ze5 log keys own id r))) := (Z1h _ _).wk (.cons (Zbar _ _) (.cons (.same _) .nil))
   rw [decide_eq_true rfl] at s2 s3
   have n1 := Zqp (Zcv log kind dev)
   have n2 := Zqp (Zld log keys own id r)
   generalize Zld log keys own id r = TE at *
   generalize lstZ 6 ((Zf7 log keys own id r).map Rec.cells) = ZL at *
   generalize lstZ 2 ((Ze5 log keys own id r).map EKey.cells) = ZK at *
   generalize Zw (Zf7 log keys own id r) = TL at *
   generalize Zbj (Ze5 log keys own id r) = TK at *
   generalize tagR secret r = TG at *
   generalize Zfz own r dev = OR at *
   generalize Zcv log kind dev = ME at *
   generalize Ze3 secret master log kind dev = MR at *
   have s1' := s1 MR
   rw [decide_eq_true rfl] at s1'
   clear s1 hgl hgr lgr rb hb1 hb2
   simp only [Zw,Zbj,Z8n] at m1 m2 t1 t2
   obtain ⟨seq,prev,kd,dv,wraps,tag⟩ := MR
   simp only [Rec.cells,List.cons_append,List.nil_append] at m1 m2 s1'
   generalize Zx wraps = W at *
   simp only [go_sem,simprocAttr,h0,h1,h2,h3,h4]
   refine Za m1 ?_
   simp only [go_sem,simprocAttr,h0,h1,h2,h3,h4]
   refine Za m2 ?_
   simp only [go_sem,simprocAttr,h4,h5,h15,hl6,ht6]
   refine Za o1 ?_
   simp only [go_sem,simprocAttr,h4,h5,h15,hl6,ht6]
   refine Za o2 ?_
   simp only [go_sem,simprocAttr,h2,h5,h7,h8,h15,hl6,ht6]
   refine Za t1 ?_
   simp only [go_sem,simprocAttr,Zbbw,h2,h5,h7,h8,h15,hl6,ht6]
   refine Za t2 ?_
   simp only [go_sem,simprocAttr]
   refine Za s1' ?_
   simp only [go_sem,simprocAttr]
   refine Za n1 ?_
   simp only [go_sem,simprocAttr,h0,h15,hl6,ht6,beq_self_eq_true]
   refine Za g1 ?_
   simp only [go_sem,simprocAttr,h0,h15,hl6,ht6]
   refine Za g2 ?_
   simp only [go_sem,simprocAttr]
   refine Za s2 ?_
   simp only [go_sem,simprocAttr]
   refine Za s3 ?_
   simp only [go_sem,simprocAttr]
   refine Za n2 ?_
   simp only [go_sem,simprocAttr]
   refine Za haw ?_
   simp only [go_sem,simprocAttr]
   simp [Zf,Ze,Zi,Zg,Zh,Zd,Zc,Zb]
  | cons x rest ih =>
   intro pre e hp hks h0 h1 h2 h3 h4 h5 h7 h8 h15 h19
   have hc : ((pre.length : Int) < (keys.length : Int)) := by rw [hp]; simp; omega
   have hr := Zb6 (f := EKey.cells) hp
   have hn := Zbt hp hkm
   obtain ⟨xe,xk⟩ := x
   simp only [EKey.cells] at hr
   refine Zj ?_
   conv => enter [3,1]; unfold Ziw
   by_cases cb : (100 : Int) < (xk.size : Int)
   ·simp only [go_sem,simprocAttr,h7,h19,hkl,hc,hr,cb]
    refine Za haw ?_
    simp only [go_sem,simprocAttr]
    simp [Zf,Ze,Zi,Zg,Zh,Zd,Zc,Zb]
   ·simp only [go_sem,simprocAttr,h7,h19,hkl,hc,hr,cb,hn]
    refine ih (pre ++ [⟨xe,xk⟩]) _ (by rw [hp]; simp) (fun k hk => ?_) ?_ ?_ ?_ ?_ ?_ ?_ ?_ ?_ ?_ ?_
    ·rcases List.mem_append.1 hk with hk | hk
     ·exact hks k hk
     ·simp only [List.mem_cons,List.not_mem_nil,or_false] at hk
      subst hk
      show xk.size ≤ 100
      omega
    all_goals simp only [go_sem,simprocAttr,h0,h1,h2,h3,h4,h5,h7,h8,h15,hn]
 simp only [go_sem,simprocAttr,c1,c2,c3,hkl,c4]
 refine loop keys [] _ rfl (fun k hk => by simp at hk) ?_ ?_ ?_ ?_ ?_ ?_ ?_ ?_ ?_ ?_
 all_goals first | (simp only [go_sem,simprocAttr,List.length_nil,Int.natCast_zero]; done) | (simp only [go_sem,simprocAttr]; rfl)
end Go.Proofs.YticmfblfghdkbaaGreatDoor.Eng
namespace Go.Proofs.YticmfblfghdkbaaGreatDoor.wrapAllE
open Go.ChangeShapes Go.WideShapes Go.ChangeAt Go.RowKit
open Go.ChangeMaps (open_string shut_string)
theorem own : ownKnob Tryz.prog.godebug = none := by kernel_rfl
theorem Zja : laidOutB Tryz.prog = true := by kernel_rfl
theorem et : Tryz.prog.globalNamed "errors.errorType" = some 0 := by kernel_rfl
theorem rt : (Tryz.prog.cutTypes.find? (·.1 == "internal/reflectlite.rtype")).map (·.2) = some 235 := by kernel_rfl
theorem Zbnv : ((List.range 337).filter fun t => Tryz.prog.rowNamed t [101,114,114,111,114]) = [98] := by kernel_rfl
theorem size : Tryz.prog.types.size = 337 := by kernel_rfl
noncomputable def Znv : List (String × DataW Unit) := [("math/bits.deBruijn32tab",Rows.laid_math_bits_deBruijn32tab),("math/bits.deBruijn64tab",Rows.laid_math_bits_deBruijn64tab),("internal/strconv.uint64pow10",Rows.laid_internal_strconv_uint64pow10)]
theorem Zbay : (Rows.wrapAllRow.laid.filter fun x => x.2.handleName?.isNone) = Znv := by kernel_rfl
theorem Zbco : (Rows.wrapAllRow.laid.filter fun x => x.2.handleName?.isSome) = [("errors.errorType",Rows.laid_errors_errorType)] := by kernel_rfl
theorem Zbn0 {W : World} (h : laidMetH Tryz.prog Rows.wrapAllRow.laid W) : handlesMet Tryz.prog [("errors.errorType",Rows.laid_errors_errorType)] W := by
 unfold laidMetH at h
 rw [Zbco] at h
 exact h.2
theorem handle {W : World} (h : laidMetH Tryz.prog Rows.wrapAllRow.laid W) : W.cell? ⟨0,0,none⟩ = some (.iface 235 (.agg #[.pointer (some ⟨7,98,none⟩)])) := by
 have h' := Zbn0 h
 obtain ⟨name,u,ty,e1,e2,e3,e4,e5⟩ := h' _ (List.mem_singleton.2 rfl)
 have en : name = [101,114,114,111,114] := (Option.some.inj e1).symm
 subst en
 obtain rfl := Option.some.inj (rt.symm.trans e2)
 have hm : ty ∈ (List.range 337).filter fun t => Tryz.prog.rowNamed t [101,114,114,111,114] := List.mem_filter.2 ⟨List.mem_range.2 (by rw [← size]; exact e3),e4⟩
 rw [Zbnv] at hm
 obtain rfl := List.mem_singleton.1 hm
 have hh : typeHandle Tryz.prog 98 = .pointer (some ⟨7,98,none⟩) := by kernel_rfl
 rw [hh] at e5
 simpa using World.var?_cell et e5 0
noncomputable def Z7f (os : Os) : World :=
 let w0 := World.holding Tryz.prog os ⟨#[],#[],[]⟩
 { w0 with heap := w0.heap.modify 0 fun
   | .cells _ t frozen => .cells #[.iface 235 (.agg #[.pointer (some ⟨7,98,none⟩)])] t frozen
   | o => o }
noncomputable def Zqx (os : Os) : World := (Z7f os).layVars Tryz.prog Znv
theorem Z7k (os : Os) : (Zqx os).os = os := World.layVars_os _ _ _
theorem Z22 (os : Os) : laidMet Tryz.prog Znv (Zqx os) := by
 have e1 : (Znv.filter fun x => (Znv.map (·.1)).contains x.1) = Znv := List.filter_eq_self.2 fun x hx => List.contains_iff_mem.2 (List.mem_map.2 ⟨x,hx,rfl⟩)
 have e2 : (Znv.filter fun x => !(Znv.map (·.1)).contains x.1) = [] := List.filter_eq_nil_iff.2 fun x hx => by rw [List.contains_iff_mem.2 (List.mem_map.2 ⟨x,hx,rfl⟩)]; simp
 exact laidMet_layVars (w0 := Z7f os) (Znv.map (·.1)) [] (by rw [e1]; rfl) (by rw [e1]; kernel_rfl) (by rw [e1]; kernel_rfl) (by rw [e2]; exact LaidIn.none)
theorem Z49 (os : Os) (args : Array Value) : laidMetH Tryz.prog Rows.wrapAllRow.laid ((Zqx os).forCall (fun _ _ => 0) ⟨#[],args,[]⟩).memory :=
 laidMetH_of_parts (by rw [Zbay]; exact (Z22 os).of_heap (by simp [World.memory,World.forCall,Input.heap])) (by kernel_rfl)
set_option maxRecDepth 100000 in
theorem Zbmn (os : Os) (started : os.Started) (H : Type) (enc : TypeId × Value → H) :
  ReturnsInHanded {} Tryz.checked os 6 .any (fun w args => (Rows.wrapAllSpec.pre enc Tryz.prog Tryz.f6 Rows.wrapAllRow.domain false w args ∧ laidMetH Tryz.prog Rows.wrapAllRow.laid w) ∧ sizedMet enc Tryz.prog Tryz.f6 (OpenSpec.ofChange Rows.wrapAllSpec) false w args)
   (Rows.wrapAllSpec.post enc Tryz.prog Tryz.f6 false true false false) := by
 refine returnsInHanded_of_change_and (C := Tryz.checked) (X := fun w _ => laidMetH Tryz.prog Rows.wrapAllRow.laid w) (fun _ _ _ hh h => h.of_heap hh) own started (by kernel_rfl) Tryz.func6
  (ChangeSpec.witness_at (enc := enc) (C := Tryz.checked) (os := os) (X := fun w _ => laidMetH Tryz.prog Rows.wrapAllRow.laid w) false (Zqx os) #[.string ByteArray.empty,.string ByteArray.empty,.slice none 0 0,.int .i64 0,.int .i64 0,.string ByteArray.empty,.agg #[.int .i64 0,.string ByteArray.empty,.int .i64 0,.int .i64 0,.slice none 0 0,.string ByteArray.empty],.slice none 0 0,.int .i64 0] 8 (Z7k os) (by kernel_rfl) (by kernel_rfl) (by kernel_rfl) (by kernel_rfl) (by kernel_rfl) (Z49 os _)) ?_
 intro W base args ds gs before hval0 hW hcnd hsz0 hL _
 have hval : ∀ (j : Nat) t v,Tryz.f6.params[j]? = some t → args[j]? = some v → Value.okWide Tryz.prog W .any base t v := hval0
 have hW' := hW
 obtain ⟨p,q,hA0,hV,rfl,hfz,hnd⟩ := hW
 have hA : DataW.TrodAll enc Tryz.prog W 0 (fun _ => true) true Tryz.f6.params.toList args.toList ds p := hA0
 rw [Tryz.params6] at hA hval
 obtain ⟨v0,vs0,d0,ds0,p0,q0,hargs,rfl,rfl,h0,r0⟩ := trodAll_cons hA
 obtain ⟨v1,vs1,d1,ds1,p1,q1,rfl,rfl,rfl,h1,r1⟩ := trodAll_cons r0
 obtain ⟨v2,vs2,d2,ds2,p2,q2,rfl,rfl,rfl,h2,r2⟩ := trodAll_cons r1
 obtain ⟨v3,vs3,d3,ds3,p3,q3,rfl,rfl,rfl,h3,r3⟩ := trodAll_cons r2
 obtain ⟨v4,vs4,d4,ds4,p4,q4,rfl,rfl,rfl,h4,r4⟩ := trodAll_cons r3
 obtain ⟨v5,vs5,d5,ds5,p5,q5,rfl,rfl,rfl,h5,r5⟩ := trodAll_cons r4
 obtain ⟨v6,vs6,d6,ds6,p6,q6,rfl,rfl,rfl,h6,r6⟩ := trodAll_cons r5
 obtain ⟨v7,vs7,d7,ds7,p7,q7,rfl,rfl,rfl,h7,r7⟩ := trodAll_cons r6
 obtain ⟨v8,vs8,d8,ds8,p8,q8,rfl,rfl,rfl,h8,r8⟩ := trodAll_cons r7
 obtain ⟨rfl,rfl,rfl⟩ := trodAll_nil r8
 obtain rfl : args = #[v0,v1,v2,v3,v4,v5,v6,v7,v8] := by cases args; simp_all
 obtain ⟨rfl,rfl⟩ := trodVars_none hV
 have k0 := h0
 have lt0 : ∀ x ∈ p0,x.block < W.heap.size := by obtain ⟨m,hm⟩ := k0; exact DataW.trod_lt m _ _ _ hm
 obtain ⟨a0,rfl,rfl,rfl,y0⟩ := open_string Tryz.underlying9 (hval 0 9 v0 rfl rfl) h0
 have k1 := h1
 have lt1 : ∀ x ∈ p1,x.block < W.heap.size := by obtain ⟨m,hm⟩ := k1; exact DataW.trod_lt m _ _ _ hm
 obtain ⟨a1,rfl,rfl,rfl,y1⟩ := open_string Tryz.underlying9 (hval 1 9 v1 rfl rfl) h1
 have k2 := h2
 have lt2 : ∀ x ∈ p2,x.block < W.heap.size := by obtain ⟨m,hm⟩ := k2; exact DataW.trod_lt m _ _ _ hm
 obtain ⟨c2,e2,t2⟩ := Eng.Z4i (s := (.slc Eng.dRec)) Tryz.underlying24 (by kernel_rfl) (hval 2 24 v2 rfl rfl) h2
 obtain ⟨a2,u2,z2,w2⟩ := Eng.Zbg0 _ t2
 injection u2 with u2; subst u2
 have k3 := h3
 have lt3 : ∀ x ∈ p3,x.block < W.heap.size := by obtain ⟨m,hm⟩ := k3; exact DataW.trod_lt m _ _ _ hm
 obtain ⟨a3,rfl,rfl,rfl,w3⟩ := open_int Tryz.underlying3 (hval 3 3 v3 rfl rfl) h3
 have w3 : IntKind.min .i64 ≤ a3 ∧ a3 ≤ IntKind.max .i64 := by simpa [Lit.wf] using w3
 have k4 := h4
 have lt4 : ∀ x ∈ p4,x.block < W.heap.size := by obtain ⟨m,hm⟩ := k4; exact DataW.trod_lt m _ _ _ hm
 obtain ⟨a4,rfl,rfl,rfl,w4⟩ := open_int Tryz.underlying3 (hval 4 3 v4 rfl rfl) h4
 have w4 : IntKind.min .i64 ≤ a4 ∧ a4 ≤ IntKind.max .i64 := by simpa [Lit.wf] using w4
 have k5 := h5
 have lt5 : ∀ x ∈ p5,x.block < W.heap.size := by obtain ⟨m,hm⟩ := k5; exact DataW.trod_lt m _ _ _ hm
 obtain ⟨a5,rfl,rfl,rfl,y5⟩ := open_string Tryz.underlying9 (hval 5 9 v5 rfl rfl) h5
 have k6 := h6
 have lt6 : ∀ x ∈ p6,x.block < W.heap.size := by obtain ⟨m,hm⟩ := k6; exact DataW.trod_lt m _ _ _ hm
 obtain ⟨c6,e6,t6⟩ := Eng.Zbgv (s := Eng.dRec) Tryz.underlying28 (by kernel_rfl) (hval 6 28 v6 rfl rfl) h6
 obtain ⟨a6,rfl,w6⟩ := Eng.Zbaq _ t6
 have k7 := h7
 have lt7 : ∀ x ∈ p7,x.block < W.heap.size := by obtain ⟨m,hm⟩ := k7; exact DataW.trod_lt m _ _ _ hm
 obtain ⟨c7,e7,t7⟩ := Eng.Z4i (s := (.slc Eng.Zbcv)) Tryz.underlying46 (by kernel_rfl) (hval 7 46 v7 rfl rfl) h7
 obtain ⟨a7,u7,z7,w7⟩ := Eng.Zbfb _ t7
 injection u7 with u7; subst u7
 have k8 := h8
 have lt8 : ∀ x ∈ p8,x.block < W.heap.size := by obtain ⟨m,hm⟩ := k8; exact DataW.trod_lt m _ _ _ hm
 obtain ⟨a8,rfl,rfl,rfl,w8⟩ := open_int Tryz.underlying3 (hval 8 3 v8 rfl rfl) h8
 have w8 : IntKind.min .i64 ≤ a8 ∧ a8 ≤ IntKind.max .i64 := by simpa [Lit.wf] using w8
 clear hA0 hval0 hsz0
 refine (Eng.Pure.law (Eng.Z18 a0 y0 a1 y1 a2 z2 w2 a3 w3 a4 w4 a5 y5 a6 w6 a7 z7 w7 a8 w8) (w := W) (fun g c k => by obtain ⟨hg,hc⟩ : g = 0 ∧ c = _ := k; subst hg; subst hc; exact handle hL) (.cons (.c (.str _)) (.cons (.c (.str _)) (.cons e2 (.cons (.c (.int _ _)) (.cons (.c (.int _ _)) (.cons (.c (.str _)) (.cons e6 (.cons e7 (.cons (.c (.int _ _)) .nil)))))))))).mono fun e W' ⟨he,bel⟩ => ?_
 subst he
 exact ⟨_,rfl,_,_,_,[],_,[],hW',trodAll_mk1 (shut_bool Tryz.underlying4 _),(trodAll_cons_mk (Below.trod Zja (by kernel_rfl) (of_decide_eq_true (by kernel_rfl)) k0 bel lt0) (trodAll_cons_mk (Below.trod Zja (by kernel_rfl) (of_decide_eq_true (by kernel_rfl)) k1 bel lt1) (trodAll_cons_mk (Below.trod Zja (by kernel_rfl) (of_decide_eq_true (by kernel_rfl)) k2 bel lt2) (trodAll_cons_mk (Below.trod Zja (by kernel_rfl) (of_decide_eq_true (by kernel_rfl)) k3 bel lt3) (trodAll_cons_mk (Below.trod Zja (by kernel_rfl) (of_decide_eq_true (by kernel_rfl)) k4 bel lt4) (trodAll_cons_mk (Below.trod Zja (by kernel_rfl) (of_decide_eq_true (by kernel_rfl)) k5 bel lt5) (trodAll_cons_mk (Below.trod Zja (by kernel_rfl) (of_decide_eq_true (by kernel_rfl)) k6 bel lt6) (trodAll_cons_mk (Below.trod Zja (by kernel_rfl) (of_decide_eq_true (by kernel_rfl)) k7 bel lt7) (trodAll_cons_mk (Below.trod Zja (by kernel_rfl) (of_decide_eq_true (by kernel_rfl)) k8 bel lt8) trodAll_mk0))))))))),rfl,bel.frame _,fun h => by cases h⟩
theorem Zbdq : Rows.wrapAllRow.inPlace = Tryz.prog.inPlace 6 := by kernel_rfl
theorem Z7q : Rows.wrapAllRow.unfollowed = Tryz.prog.unfollowed 6 := by kernel_rfl
theorem Zbbb : Rows.wrapAllRow.recurses = Tryz.prog.recurses 6 := by kernel_rfl
theorem Zblg : Rows.wrapAllRow.named = Tryz.prog.varsNamed 6 := by kernel_rfl
theorem q_goes : false = Rows.wrapAllRow.goesBy Tryz.prog := by kernel_rfl
theorem Zblu : joinedFacts Tryz.prog 6 Tryz.f6 Rows.wrapAllSpec Rows.wrapAllRow = true := by
 unfold joinedFacts
 rw [← Zbdq,← Z7q,← Zbbb,← Zblg]
 kernel_rfl
theorem over : Rows.wrapAllRow.holds Tryz.pinned (OpenSpec.ofChange Rows.wrapAllSpec) :=
 OpenClaim.holds_of_wide 6 Tryz.f6 rfl rfl rfl rfl rfl rfl rfl ⟨rfl,rfl,rfl,rfl,rfl⟩ rfl rfl rfl rfl rfl (by kernel_rfl) Tryz.func6 Zblu
  (of_decide_eq_true (by kernel_rfl)) (by unfold Func.isWrapper; first | (rw [if_pos (by decide +kernel)]; kernel_rfl) | (rw [if_neg (by decide +kernel)]; exact ⟨rfl,rfl⟩))
  (fun os started H enc _ => Zbmn os started H enc)
end Go.Proofs.YticmfblfghdkbaaGreatDoor.wrapAllE
namespace Go.Proofs.YticmfblfghdkbaaGreatDoor
theorem Z4l : Rows.WrapAllSaid := wrapAllE.over
theorem wrapAllCard_holds : Rows.WrapAllCardSaid :=
 Claim7.holds_tied_plain_at .later [] [.data,.data,.data,.handle] true (true, "c59088a88fd41f01395ebcbcd764b675b9a1bf24f8cca687b2284cea51dbddea") true
  Z4l (fun _ h => by cases h) (by kernel_rfl) (fun _ h => by cases h) wrapAll_row_tie rfl ⟨rfl,rfl⟩ (by kernel_rfl) rfl
  (fun f fn hf hfn => by
   obtain rfl : f = 6 := Option.some.inj ((show Tryz.prog.funcNamed "deaddrop/deaddroplaw17.WrapAll" = some 6 by kernel_rfl).symm.trans hf) |>.symm
   obtain rfl : fn = Tryz.f6 := (Option.some.inj (Tryz.func6.symm.trans hfn)).symm
   exact ⟨by kernel_rfl,fun j t ht => by
    rw [Tryz.params6] at ht
    have hm : t ∈ [9,9,24,3,3,9,28,46,3] := by simpa using Array.mem_of_getElem? ht
    have hall : ([9,9,24,3,3,9,28,46,3].all fun u => !Tryz.prog.wantsStandIn u) = true := by kernel_rfl
    exact (show Tryz.prog.wantsStandIn t = false by simpa using List.all_eq_true.1 hall t hm)⟩)
  wrapAllE.q_goes
end Go.Proofs.YticmfblfghdkbaaGreatDoor
