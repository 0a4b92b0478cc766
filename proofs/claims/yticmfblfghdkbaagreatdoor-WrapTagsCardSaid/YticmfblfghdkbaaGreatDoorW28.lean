/- The law WrapTagsCard, for every input that its row lets in: it answers true, and its arguments read as they did. What stands ahead of it in this folder are its parts. -/
import Derived.Test.YticmfblfghdkbaaGreatDoorW27
import Derived.Test.YticmfblfghdkbaaGreatDoorRows
import Derived.ProofKit
import Derived.OpenShut
import Derived.ShutString
import Derived.ChangeOld
import Derived.Carry
import Derived.SizedLaws
import Derived.LaidLaws
import Derived.LaidHandle
import Derived.ChangeSame
import Derived.ChangeVars
import Derived.JoinedOf
import Derived.SevenTiedAt
import Derived.Stop.Joined
import Derived.Lay
import Derived.Test.YticmfblfghdkbaaGreatDoorTie
import Derived.Test.YticmfblfghdkbaaGreatDoorCards
set_option linter.unusedVariables false
set_option linter.unusedSimpArgs false
namespace Go.Proofs.YticmfblfghdkbaaGreatDoor.Eng
open Go
theorem Zbb2 {secret master : ByteArray} {log : List Rec} {k dev : Int} (hz : Zbn log k dev = 0) (hne : log ≠ []) : (Z1 secret master log k dev).tag.size = 16 ∧ tagR (Zbu secret log.length) (Z1 secret master log k dev) = (Z1 secret master log k dev).tag ∧
  tagR (Zbu secret log.length) { Z1 secret master log k dev with tag := Zv } = (Z1 secret master log k dev).tag ∧ (Z1 secret master log k dev).prev = Z4 log := by
 have hn : log.length ≠ 0 := fun e => hne (List.eq_nil_of_length_eq_zero e)
 have hm := Zws (secret := secret) (master := master) hz
 have ht := Zbfp (secret := secret) (master := master) hz hn
 refine ⟨?_,ht.symm,?_,(Zfy (secret := secret) (master := master)).2.1⟩
 ·rw [ht]; exact Ztq hm
 ·rw [Z7d hm (.inr rfl)]; exact ht.symm
set_option maxHeartbeats 4000000 in
theorem Zw7 (ns : List Nat) (hn0 : ns.length ≤ maxLen) (hnb : ∀ n ∈ ns,n < 256) (a : Int) (ha : IntKind.min .u8 ≤ a ∧ a ≤ IntKind.max .u8) (b : Int) (hb : IntKind.min .u8 ≤ b ∧ b ≤ IntKind.max .u8) :
  Pr 5 [.c (Ztr ns),.c (.int .u8 a),.c (.int .u8 b)] (bC true) := by
 rw [Zbar hnb]
 have hnl := Zbht ns
 generalize u8s ns = un at hnl
 have ha0 : 0 ≤ a := ha.1
 have ha1 : a ≤ 255 := ha.2
 have hb0 : 0 ≤ b := hb.1
 have hb1 : b ≤ 255 := hb.2
 obtain ⟨a,rfl⟩ : ∃ k : Nat,a = k := ⟨a.toNat,by omega⟩
 obtain ⟨b,rfl⟩ : ∃ k : Nat,b = k := ⟨b.toNat,by omega⟩
 have haw := Z40
 have hlog := Z85 secS masS un (by decide) (by decide)
 obtain ⟨log,hle,hch,hne,h8⟩ := Zba9 secS masS un
 rw [← hle] at hlog
 clear hle
 have hpos : 0 < log.length := List.length_pos_iff.2 hne
 obtain ⟨k,hkk⟩ : ∃ k : Int,k = 1 + ((a % 2 : Nat) : Int) := ⟨_,rfl⟩
 obtain ⟨dev,hdd⟩ : ∃ k : Int,k = 1 + ((b % 4 : Nat) : Int) := ⟨_,rfl⟩
 have hk : k = 1 ∨ k = 2 := by omega
 have hrm : (a : Int).tmod 2 = ((a % 2 : Nat) : Int) := Zw1 a 2
 have hrb : (b : Int).tmod 4 = ((b % 4 : Nat) : Int) := Zw1 b 4
 have hmk := Zj0 secS masS log k dev (by decide) (by decide) (by omega)
 have hnE := Zn8 (Zbn log k dev)
 have hclR := Rec.closed (Zb5 secS masS log k dev)
 have hep := Zka secS log.length (by decide) (by omega)
 obtain ⟨last,hlast,hlp⟩ := Zwv hne
 have hhash := Zpm last
 rw [hlp] at hhash
 have hz0 : Zbn [] 1 0 = 0 := by decide
 have hm0 : Zb5 secS masS [] 1 0 = Z1 secS masS [] 1 0 := by unfold Zb5; rw [if_pos hz0]
 have hmk0 := Zj0 secS masS [] 1 0 (by decide) (by decide) (by simp)
 have hcl0 := Rec.closed (Z1 secS masS [] 1 0)
 have ht0 := Zbb4 (secret := secS) (master := masS) (log := []) (kind := 1) (dev := 0) rfl
 have hp0 : (Z1 secS masS [] 1 0).prev = Zv := (Zfy (secret := secS) (master := masS) (log := []) (kind := 1) (dev := 0)).2.1
 rw [hz0,hm0] at hmk0
 generalize Z1 secS masS [] 1 0 = R0 at hmk0 hcl0 ht0 hp0
 have num0 := Zn8 0
 obtain ⟨E,hE⟩ : ∃ E,E = Zbn log k dev := ⟨_,rfl⟩
 obtain ⟨R,hR⟩ : ∃ R,R = Zb5 secS masS log k dev := ⟨_,rfl⟩
 rw [← hE] at hmk hnE
 rw [← hR] at hmk hclR
 have hq0 : E ≠ 0 → R.cells = [.int .i64 0,.str ⟨#[]⟩,.int .i64 0,.int .i64 0,.lst 2 [],.str ⟨#[]⟩] := fun h => by rw [hR]; exact Zbbx (by rw [← hE]; exact h)
 have hq1 : E = 0 → R.tag.size = 16 ∧ tagR (Zbu secS log.length) R = R.tag ∧ tagR (Zbu secS log.length) { R with tag := Zv } = R.tag ∧ R.prev = Z4 log := fun h => by
  have hz : Zbn log k dev = 0 := hE.symm.trans h
  have hmr : Zb5 secS masS log k dev = Z1 secS masS log k dev := by unfold Zb5; rw [if_pos hz]
  rw [hR,hmr]
  exact Zbb2 hz hne
 have htg := Zpc (Zbu secS log.length) R (by rw [Zfw]; omega)
 have htg0 := Zpc (Zbu secS log.length) { R with tag := Zv } (by rw [Zfw]; omega)
 clear hR hE hm0 hz0
 generalize Z4 log = pv at *
 generalize Zbu secS log.length = ek at *
 generalize tagR ek R = g1 at htg hq1
 generalize tagR ek { R with tag := Zv } = g2 at htg0 hq1
 obtain ⟨seq,prev,kd,dv,wraps,tag⟩ := R
 obtain ⟨seq0,prev0,kd0,dv0,wraps0,tag0⟩ := R0
 simp only at ht0 hp0 hq1
 subst ht0 hp0
 simp only [Z9] at hlog hmk hmk0
 simp only [Rec.cells] at hmk hmk0 hclR hcl0 hq0 htg htg0
 have hmk0' : Pr 17 [sC secS,sC masS,.c .nilS,iC 1,iC 0] _ := hmk0.wk (.cons (.same _) (.cons (.same _) (.cons (.c (.nilS _)) (.cons (.same _) (.cons (.same _) .nil)))))
 refine Zl mixed Zy3 (by simp [Zr,Zp,Zc,Zyi]) fun hl T => ?_
 clear hl
 unfold Zp6
 have hul : ((un.map Zs).length : Int) = (ns.length : Int) := by rw [List.length_map,hnl]
 by_cases c8 : (7 : Int) < (ns.length : Int)
 ·simp only [go_sem,simprocAttr,hul,c8]
  refine Za haw ?_
  simp only [go_sem,simprocAttr]
  simp [Zf,Ze,Zk,Zg,Zh,Zd,Zc,Zb]
 have hwa : IntKind.wrap .i64 (a : Int) = (a : Int) := Zn (by omega)
 have hwb : IntKind.wrap .i64 (b : Int) = (b : Int) := Zn (by omega)
 have hwr : IntKind.wrap .i64 (1 + ((a % 2 : Nat) : Int)) = k := by rw [hkk]; exact Zn (by omega)
 have hwd : IntKind.wrap .i64 (1 + ((b % 4 : Nat) : Int)) = dev := by rw [hdd]; exact Zn (by omega)
 have hll : ((log.map Rec.cells).length : Int) = (log.length : Int) := by simp
 have hw1 : IntKind.wrap .i64 ((log.length : Int) - 1) = (log.length : Int) - 1 := Zn (by omega)
 have hge : (0 : Int) ≤ (log.length : Int) - 1 := by omega
 have hti : ((log.length : Int) - 1).toNat = log.length - 1 := by omega
 have hlen6 : last.cells.length = 6 := rfl
 have htk6 : last.cells.take 6 = last.cells := rfl
 have hix : ∀ H : Heap,vIx 6 (.c (.lst 6 (log.map Rec.cells))) (iC ((log.length : Int) - 1)) H = some (.c (.fp last.cells 0),H) := fun H => by
  simp only [vIx]
  rw [if_pos ⟨trivial,hge⟩,hti,hlast]
 clear hkk hdd
 simp only [go_sem,simprocAttr,hul,c8]
 refine Za hlog ?_
 simp only [go_sem,simprocAttr,hwa,hrm,hwr,hwb,hrb,hwd]
 refine Za hmk ?_
 simp only [go_sem,simprocAttr]
 refine Za hnE ?_
 by_cases hz : E = 0
 ·subst hz
  obtain ⟨q1,q2,q3,q4⟩ := hq1 rfl
  have q1' : (tag.size : Int) = 16 := by omega
  simp only [go_sem,simprocAttr]
  refine Za hmk0' ?_
  simp only [go_sem,simprocAttr,q1',hll]
  refine Za hep ?_
  simp only [go_sem,simprocAttr]
  refine Za htg0 ?_
  simp only [go_sem,simprocAttr,q3,hll]
  refine Za hep ?_
  simp only [go_sem,simprocAttr]
  refine Za htg ?_
  simp only [go_sem,simprocAttr,q2,hll,hw1,hix,hlen6,htk6]
  refine Za hhash ?_
  simp only [go_sem,simprocAttr,q4]
  refine Za num0 ?_
  simp only [go_sem,simprocAttr]
  refine Za haw ?_
  simp only [go_sem,simprocAttr]
  simp [Zf,Ze,Zk,Zg,Zh,Zd,Zc,Zb]
 ·have hc := hq0 hz
  rw [hc]
  simp only [go_sem,simprocAttr,hz]
  refine Za haw ?_
  simp only [go_sem,simprocAttr]
  simp [Zf,Ze,Zk,Zg,Zh,Zd,Zc,Zb]
end Go.Proofs.YticmfblfghdkbaaGreatDoor.Eng
namespace Go.Proofs.YticmfblfghdkbaaGreatDoor.wrapTagsE
open Go.ChangeShapes Go.WideShapes Go.ChangeAt Go.RowKit
open Go.ChangeMaps (open_string shut_string)
theorem own : ownKnob Tryz.prog.godebug = none := by kernel_rfl
theorem Zzn : laidOutB Tryz.prog = true := by kernel_rfl
theorem et : Tryz.prog.globalNamed "errors.errorType" = some 0 := by kernel_rfl
theorem rt : (Tryz.prog.cutTypes.find? (·.1 == "internal/reflectlite.rtype")).map (·.2) = some 235 := by kernel_rfl
theorem Zbka : ((List.range 337).filter fun t => Tryz.prog.rowNamed t [101,114,114,111,114]) = [98] := by kernel_rfl
theorem size : Tryz.prog.types.size = 337 := by kernel_rfl
noncomputable def Zmk : List (String × DataW Unit) := [("math/bits.deBruijn32tab",Rows.laid_math_bits_deBruijn32tab),("math/bits.deBruijn64tab",Rows.laid_math_bits_deBruijn64tab),("internal/strconv.uint64pow10",Rows.laid_internal_strconv_uint64pow10)]
theorem Z88 : (Rows.wrapTagsRow.laid.filter fun x => x.2.handleName?.isNone) = Zmk := by kernel_rfl
theorem Z77 : (Rows.wrapTagsRow.laid.filter fun x => x.2.handleName?.isSome) = [("errors.errorType",Rows.laid_errors_errorType)] := by kernel_rfl
theorem Zbkz {W : World} (h : laidMetH Tryz.prog Rows.wrapTagsRow.laid W) : handlesMet Tryz.prog [("errors.errorType",Rows.laid_errors_errorType)] W := by
 unfold laidMetH at h
 rw [Z77] at h
 exact h.2
theorem handle {W : World} (h : laidMetH Tryz.prog Rows.wrapTagsRow.laid W) : W.cell? ⟨0,0,none⟩ = some (.iface 235 (.agg #[.pointer (some ⟨7,98,none⟩)])) := by
 have h' := Zbkz h
 obtain ⟨name,u,ty,e1,e2,e3,e4,e5⟩ := h' _ (List.mem_singleton.2 rfl)
 have en : name = [101,114,114,111,114] := (Option.some.inj e1).symm
 subst en
 obtain rfl := Option.some.inj (rt.symm.trans e2)
 have hm : ty ∈ (List.range 337).filter fun t => Tryz.prog.rowNamed t [101,114,114,111,114] := List.mem_filter.2 ⟨List.mem_range.2 (by rw [← size]; exact e3),e4⟩
 rw [Zbka] at hm
 obtain rfl := List.mem_singleton.1 hm
 have hh : typeHandle Tryz.prog 98 = .pointer (some ⟨7,98,none⟩) := by kernel_rfl
 rw [hh] at e5
 simpa using World.var?_cell et e5 0
noncomputable def Z49 (os : Os) : World :=
 let w0 := World.holding Tryz.prog os ⟨#[],#[],[]⟩
 { w0 with heap := w0.heap.modify 0 fun
   | .cells _ t frozen => .cells #[.iface 235 (.agg #[.pointer (some ⟨7,98,none⟩)])] t frozen
   | o => o }
noncomputable def Zoq (os : Os) : World := (Z49 os).layVars Tryz.prog Zmk
theorem Z3e (os : Os) : (Zoq os).os = os := World.layVars_os _ _ _
theorem Zzu (os : Os) : laidMet Tryz.prog Zmk (Zoq os) := by
 have e1 : (Zmk.filter fun x => (Zmk.map (·.1)).contains x.1) = Zmk := List.filter_eq_self.2 fun x hx => List.contains_iff_mem.2 (List.mem_map.2 ⟨x,hx,rfl⟩)
 have e2 : (Zmk.filter fun x => !(Zmk.map (·.1)).contains x.1) = [] := List.filter_eq_nil_iff.2 fun x hx => by rw [List.contains_iff_mem.2 (List.mem_map.2 ⟨x,hx,rfl⟩)]; simp
 exact laidMet_layVars (w0 := Z49 os) (Zmk.map (·.1)) [] (by rw [e1]; rfl) (by rw [e1]; kernel_rfl) (by rw [e1]; kernel_rfl) (by rw [e2]; exact LaidIn.none)
theorem Z2o (os : Os) (args : Array Value) : laidMetH Tryz.prog Rows.wrapTagsRow.laid ((Zoq os).forCall (fun _ _ => 0) ⟨#[],args,[]⟩).memory :=
 laidMetH_of_parts (by rw [Z88]; exact (Zzu os).of_heap (by simp [World.memory,World.forCall,Input.heap])) (by kernel_rfl)
set_option maxRecDepth 100000 in
theorem Zbjc (os : Os) (started : os.Started) (H : Type) (enc : TypeId × Value → H) :
  ReturnsInHanded {} Tryz.checked os 5 .any (fun w args => (Rows.wrapTagsSpec.pre enc Tryz.prog Tryz.f5 Rows.wrapTagsRow.domain false w args ∧ laidMetH Tryz.prog Rows.wrapTagsRow.laid w) ∧ sizedMet enc Tryz.prog Tryz.f5 (OpenSpec.ofChange Rows.wrapTagsSpec) false w args)
   (Rows.wrapTagsSpec.post enc Tryz.prog Tryz.f5 false true false false) := by
 refine returnsInHanded_of_change_and (C := Tryz.checked) (X := fun w _ => laidMetH Tryz.prog Rows.wrapTagsRow.laid w) (fun _ _ _ hh h => h.of_heap hh) own started (by kernel_rfl) Tryz.func5
  (ChangeSpec.witness_at (enc := enc) (C := Tryz.checked) (os := os) (X := fun w _ => laidMetH Tryz.prog Rows.wrapTagsRow.laid w) false (Zoq os) #[.slice none 0 0,.int .u8 0,.int .u8 0] 8 (Z3e os) (by kernel_rfl) (by kernel_rfl) (by kernel_rfl) (by kernel_rfl) (by kernel_rfl) (Z2o os _)) ?_
 intro W base args ds gs before hval0 hW hcnd hsz0 hL _
 have hval : ∀ (j : Nat) t v,Tryz.f5.params[j]? = some t → args[j]? = some v → Value.okWide Tryz.prog W .any base t v := hval0
 have hW' := hW
 obtain ⟨p,q,hA0,hV,rfl,hfz,hnd⟩ := hW
 have hA : DataW.TrodAll enc Tryz.prog W 0 (fun _ => true) true Tryz.f5.params.toList args.toList ds p := hA0
 rw [Tryz.params5] at hA hval
 obtain ⟨v0,vs0,d0,ds0,p0,q0,hargs,rfl,rfl,h0,r0⟩ := trodAll_cons hA
 obtain ⟨v1,vs1,d1,ds1,p1,q1,rfl,rfl,rfl,h1,r1⟩ := trodAll_cons r0
 obtain ⟨v2,vs2,d2,ds2,p2,q2,rfl,rfl,rfl,h2,r2⟩ := trodAll_cons r1
 obtain ⟨rfl,rfl,rfl⟩ := trodAll_nil r2
 obtain rfl : args = #[v0,v1,v2] := by cases args; simp_all
 obtain ⟨rfl,rfl⟩ := trodVars_none hV
 have k0 := h0
 have lt0 : ∀ x ∈ p0,x.block < W.heap.size := by obtain ⟨m,hm⟩ := k0; exact DataW.trod_lt m _ _ _ hm
 obtain ⟨c0,e0,t0⟩ := Eng.Zbbn (s := (.slc (.int .u8))) Tryz.underlying22 (by kernel_rfl) (hval 0 22 v0 rfl rfl) h0
 obtain ⟨a0,u0,z0,w0⟩ := Eng.Zbat _ t0
 injection u0 with u0; subst u0
 have k1 := h1
 have lt1 : ∀ x ∈ p1,x.block < W.heap.size := by obtain ⟨m,hm⟩ := k1; exact DataW.trod_lt m _ _ _ hm
 obtain ⟨a1,rfl,rfl,rfl,w1⟩ := open_int Tryz.underlying5 (hval 1 5 v1 rfl rfl) h1
 have w1 : IntKind.min .u8 ≤ a1 ∧ a1 ≤ IntKind.max .u8 := by simpa [Lit.wf] using w1
 have k2 := h2
 have lt2 : ∀ x ∈ p2,x.block < W.heap.size := by obtain ⟨m,hm⟩ := k2; exact DataW.trod_lt m _ _ _ hm
 obtain ⟨a2,rfl,rfl,rfl,w2⟩ := open_int Tryz.underlying5 (hval 2 5 v2 rfl rfl) h2
 have w2 : IntKind.min .u8 ≤ a2 ∧ a2 ≤ IntKind.max .u8 := by simpa [Lit.wf] using w2
 clear hA0 hval0 hsz0
 refine (Eng.Pure.law (Eng.Zw7 a0 z0 w0 a1 w1 a2 w2) (w := W) (fun g c k => by obtain ⟨hg,hc⟩ : g = 0 ∧ c = _ := k; subst hg; subst hc; exact handle hL) (.cons e0 (.cons (.c (.int _ _)) (.cons (.c (.int _ _)) .nil)))).mono fun e W' ⟨he,bel⟩ => ?_
 subst he
 exact ⟨_,rfl,_,_,_,[],_,[],hW',trodAll_mk1 (shut_bool Tryz.underlying4 _),(trodAll_cons_mk (Below.trod Zzn (by kernel_rfl) (of_decide_eq_true (by kernel_rfl)) k0 bel lt0) (trodAll_cons_mk (Below.trod Zzn (by kernel_rfl) (of_decide_eq_true (by kernel_rfl)) k1 bel lt1) (trodAll_cons_mk (Below.trod Zzn (by kernel_rfl) (of_decide_eq_true (by kernel_rfl)) k2 bel lt2) trodAll_mk0))),rfl,bel.frame _,fun h => by cases h⟩
theorem Zbbz : Rows.wrapTagsRow.inPlace = Tryz.prog.inPlace 5 := by kernel_rfl
theorem Z4a : Rows.wrapTagsRow.unfollowed = Tryz.prog.unfollowed 5 := by kernel_rfl
theorem Z84 : Rows.wrapTagsRow.recurses = Tryz.prog.recurses 5 := by kernel_rfl
theorem Zbh0 : Rows.wrapTagsRow.named = Tryz.prog.varsNamed 5 := by kernel_rfl
theorem q_goes : false = Rows.wrapTagsRow.goesBy Tryz.prog := by kernel_rfl
theorem Zbha : joinedFacts Tryz.prog 5 Tryz.f5 Rows.wrapTagsSpec Rows.wrapTagsRow = true := by
 unfold joinedFacts
 rw [← Zbbz,← Z4a,← Z84,← Zbh0]
 kernel_rfl
theorem over : Rows.wrapTagsRow.holds Tryz.pinned (OpenSpec.ofChange Rows.wrapTagsSpec) :=
 OpenClaim.holds_of_wide 5 Tryz.f5 rfl rfl rfl rfl rfl rfl rfl ⟨rfl,rfl,rfl,rfl,rfl⟩ rfl rfl rfl rfl rfl (by kernel_rfl) Tryz.func5 Zbha
  (of_decide_eq_true (by kernel_rfl)) (by unfold Func.isWrapper; first | (rw [if_pos (by decide +kernel)]; kernel_rfl) | (rw [if_neg (by decide +kernel)]; exact ⟨rfl,rfl⟩))
  (fun os started H enc _ => Zbjc os started H enc)
end Go.Proofs.YticmfblfghdkbaaGreatDoor.wrapTagsE
namespace Go.Proofs.YticmfblfghdkbaaGreatDoor
theorem Z0a : Rows.WrapTagsSaid := wrapTagsE.over
theorem wrapTagsCard_holds : Rows.WrapTagsCardSaid :=
 Claim7.holds_tied_plain_at .later [] [.data,.data,.data,.handle] true (true, "c59088a88fd41f01395ebcbcd764b675b9a1bf24f8cca687b2284cea51dbddea") true
  Z0a (fun _ h => by cases h) (by kernel_rfl) (fun _ h => by cases h) wrapTags_row_tie rfl ⟨rfl,rfl⟩ (by kernel_rfl) rfl
  (fun f fn hf hfn => by
   obtain rfl : f = 5 := Option.some.inj ((show Tryz.prog.funcNamed "deaddrop/deaddroplaw17.WrapTags" = some 5 by kernel_rfl).symm.trans hf) |>.symm
   obtain rfl : fn = Tryz.f5 := (Option.some.inj (Tryz.func5.symm.trans hfn)).symm
   exact ⟨by kernel_rfl,fun j t ht => by
    rw [Tryz.params5] at ht
    have hm : t ∈ [22,5,5] := by simpa using Array.mem_of_getElem? ht
    have hall : ([22,5,5].all fun u => !Tryz.prog.wantsStandIn u) = true := by kernel_rfl
    exact (show Tryz.prog.wantsStandIn t = false by simpa using List.all_eq_true.1 hall t hm)⟩)
  wrapTagsE.q_goes
end Go.Proofs.YticmfblfghdkbaaGreatDoor
