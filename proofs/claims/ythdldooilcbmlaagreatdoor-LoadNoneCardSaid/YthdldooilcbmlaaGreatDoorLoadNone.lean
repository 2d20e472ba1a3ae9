/-
  The law LoadNone answers true for every locale and path: a loader that holds nothing answers nothing. Condition: the two tables hold what their initialisers lay.
-/
import Derived.Test.YthdldooilcbmlaaGreatDoorRows
import Derived.Test.YthdldooilcbmlaaGreatDoorCards
import Derived.Test.YthdldooilcbmlaaGreatDoorTie
import Derived.Deep.DeepHandedRow
import Derived.Deep.DeepWitnessRowRef
import Derived.Lib.LaidIn
import Derived.Lib.LaidU8
import Derived.PinnedBridge
import Derived.Test.YthdldooilcbmlaaGreatDoorK18
import Derived.Test.YthdldooilcbmlaaGreatDoorK19
import Derived.WalkKit
import Derived.Outline
import Derived.ProofKit
import Derived.OpenShut
import Derived.ShutString
import Derived.ChangeOld
import Derived.Below
import Derived.Deep.CondSized
namespace Go.Proofs.YthdldooilcbmlaaGreatDoor.loadNone
open Go.ChangeShapes Go.WideShapes Go.ChangeAt Go.RowKit
open Go.ChangeMaps (open_string shut_string)
set_option linter.unusedVariables false

theorem own:ownKnob Tryz.prog.godebug=none:=by kernel_rfl
theorem laidOut:laidOutB Tryz.prog=true:=by kernel_rfl

set_option maxRecDepth 100000 in
set_option maxHeartbeats 8000000 in
theorem none_walk (a0 a1:ByteArray)(w:World)(h1:a1.size≤140737488351232) :
  Calls Tryz.prog 4 #[.string a0,.string a1] w fun en w'=>en=.returned (.bool true)∧Below w.heap.size w w':=by
 obtain ⟨W0,hW0⟩:∃ W0,w.alloc (.cells #[.bool false] 4)=W0:=⟨_,rfl⟩
 have HB0:=Lib.hid (show Below w.heap.size w W0 from by rw [←hW0];exact (Below.refl _ w).alloc (Nat.le_refl _) _)
 have HG0:=Lib.hid (show Boxed W0 w.heap.size 4 (.bool false) from by rw [←hW0];exact Boxed.new w _ _)
 have HZ0:=Lib.hid (show W0.heap.size=w.heap.size+1 from by rw [←hW0];simp)
 refine (callsIn_wide (n:=9)).1 ?_
 refine callsIn_of_wp_marks Tryz.func4 rfl trivial ?_ rfl
 simp only [Tryz.ntmps4,List.size_toArray,List.length_cons,List.length_nil,Nat.reduceAdd,Nat.reduceSub,Array.replicate_succ,Array.replicate_zero,List.push_toArray,List.append_toArray,List.nil_append,List.cons_append]
 gi_wp2_with fail
 (try rw [hW0])
 refine ⟨trivial,?_⟩
 clear hW0
 refine (callsIn_wide.2 (lwakes_any W0)).mono ?_
 rintro e w1 ⟨rfl,hb1⟩
 have HB1:=Lib.hid hb1
 clear hb1
 gi_wp2_with fail
 refine ⟨trivial,?_⟩
 refine (callsIn_wide.2 (lvalue_nil a0 a1 w1 (by omega))).mono ?_
 rintro e w2 ⟨rfl,hb2⟩
 have HB2:=Lib.hid (HB1.out.trans (hb2.mono HB1.out.size))
 clear hb2 HB1
 gi_wp2_with fail
 refine ⟨trivial,?_⟩
 refine (callsIn_wide.2 (direct_nil a0 a1 w2)).mono ?_
 rintro e w3 ⟨rfl,hb3⟩
 have HB3:=Lib.hid (HB2.out.trans (hb3.mono HB2.out.size))
 clear hb3 HB2
 gi_wp2_with fail
 refine ⟨trivial,?_⟩
 refine (callsIn_wide.2 (lall_any none a0 w3)).mono ?_
 rintro e w4 ⟨rfl,hw4⟩
 have hb4:Below w3.heap.size w3 w4:=by rw [hw4];exact ((Below.refl _ w3).alloc (Nat.le_refl _) _).alloc (by simp) _
 have bA:w4.cell? ⟨w3.heap.size,0,none⟩=some (.pointer none):=by
  rw [hw4]
  exact ((Boxed.new w3 29 (.pointer none)).alloc _).cell
 have bN:Blk w4 (w3.heap.size+1) 9 #[.string a0]:=by
  have:=Blk.new (w3.alloc (.cells #[.pointer none] 29)) 9 #[.string a0]
  rw [World.size_alloc] at this
  rw [hw4]
  exact this
 have HB4:=Lib.hid (HB3.out.trans (hb4.mono HB3.out.size))
 have HR4:=Lib.hid (show Boxed w4 w.heap.size 4 (.bool false) from (HB4.out.block _ (by have:=HZ0.out;omega)).trans HG0.out)
 have HBX:=Lib.hid (HB0.out.trans (HB4.out.mono HB0.out.size))
 have hz4:w3.heap.size+2=w4.heap.size:=by rw [hw4];simp
 clear hw4 hb4 HB3 HB4 HG0 HB0
 obtain ⟨r3,hr3⟩:∃ r3,w3.heap.size=r3:=⟨_,rfl⟩
 rw [hr3] at bA bN hz4 ⊢
 clear hr3
 have HBA:=Lib.hid bA
 have HBN:=Lib.hid bN
 have HZ4:=Lib.hid hz4
 clear bA bN hz4
 obtain ⟨r0,hr0⟩:∃ r0,w.heap.size=r0:=⟨_,rfl⟩
 rw [hr0] at HR4 HBX HZ0 ⊢
 gi_wp2_with fail
 refine wpIn_rangeFunc_ownH rfl (by decide) (gf:=39) (lb:=#[.pointer (some ⟨r3,0,none⟩),.pointer (some ⟨r3+1,0,none⟩)]) rfl trivial (enters_of Tryz.func39 (by kernel_rfl) rfl)
  (all1_stops 8 (by decide) r3 (r3+1) r3 none a0 [] w4 HBA.out HBN.out (by have:=HZ4.out;omega) (by omega) (fun W _=>lbundle_nil W) (by simp) (fun b h=>by cases h)) cellsFrom_t (fun W l o o' _ h hc _=>cellsFrom_b W l o o' h hc) (Below.refl _ _) (fun _=>rfl)
  (fun pre W=>Below w4.heap.size w4 W)
  (fun cd pre W=>True)
  (ownFrom_below (Nat.le_refl _) (Nat.le_refl _))
  (fun cd=>ownFrom_pure _ _)
  (Below.refl _ _)
  (fun i a' W=>True)
  (fun i a'=>ownFrom_pure _ _)
  ?assign ?body ?done ?stop
 case assign =>
  rintro lp pre i W K hI hK
  exact absurd i.isLt (Nat.not_lt_zero _)
 case body =>
  rintro lp pre i a' W hl _ hI _ hlt
  exact absurd hlt (Nat.not_lt_zero _)
 case stop =>
  rintro D cd pre W hD ⟨_,hDs⟩ _ hK
  exact absurd (show 0<0 from by
   match pre,hDs with
   | x::_,_=>exact absurd x.isLt (Nat.not_lt_zero _)) (Nat.lt_irrefl _)
 case done =>
  rintro D xs W hD _ hB hK
  have HD:=Lib.hid hD
  have HB5:=Lib.hid hB
  have HK:=Lib.hid hK
  clear hD hB hK
  have hfl:=fun (A:Option Addr) (c:Nat) (W:World)=>(show (Instr.field 24 (.agg #[.slice A 0 c]) 0).run Tryz.prog W=.ok (.slice A 0 c) W from by kernel_rfl)
  gi_wp2_with fail
  refine ⟨trivial,?_⟩
  refine (callsIn_wide.2 (locales_nil W)).mono ?_
  rintro e w5 ⟨rfl,hb5⟩
  have HC5:=Lib.hid hb5
  clear hb5
  gi_wp2_with fail
  refine ⟨trivial,?_⟩
  refine (callsIn_wide.2 (has_nil a0 w5)).mono ?_
  rintro e w6 ⟨rfl,hb6⟩
  have HC6:=Lib.hid (HC5.out.trans (hb6.mono HC5.out.size))
  clear hb6 HC5
  gi_wp2_with fail
  refine ⟨trivial,?_⟩
  refine (callsIn_wide.2 (lbundle_nil w6)).mono ?_
  rintro e w7 ⟨A7,c7,us7,rfl,-,hb7⟩
  simp only [List.length_nil]
  have HC7:=Lib.hid (HC6.out.trans (hb7.mono HC6.out.size))
  clear hb7 HC6
  gi_wp2_with fail
  refine ⟨trivial,?_⟩
  refine (callsIn_wide.2 (probes_nil a0 a1 w7)).mono ?_
  rintro e w8 ⟨rfl,hb8⟩
  have HC8:=Lib.hid (HC7.out.trans (hb8.mono HC7.out.size))
  clear hb8 HC7
  have HW8:=Lib.hid (HB5.out.trans (HC8.out.mono HB5.out.size))
  have HR8:=Lib.hid (show Boxed w8 r0 4 (.bool false) from (HW8.out.block _ (World.block_lt_of_cell? _ _ HR4.out.cell)).trans HR4.out)
  have hK8:w8.heap[D]?=some (.deferred (some [])):=(HC8.out.block D (Array.getElem?_eq_some_iff.1 HK.out).1).trans HK.out
  have HK8:=Lib.hid hK8
  have q6:=HR8.out.cell
  have f6:=HR8.out.frozen
  clear hK8
  gi_wp2
  have hK1:=(KeepsOthers.setCell w8 ⟨r0,0,none⟩ (.bool true)).same D _ HK8.out rfl
  refine ⟨by simp,.inl ⟨_,_,rfl,run_takeDeferred hK1,?_⟩⟩
  have hc6:=cell_kept (HR8.out.set (.bool true)).cell (grownBy_putObj' _ D (.deferred none)) (fun r e=>by cases e;exact ⟨_,hK1,rfl⟩)
  refine ⟨.bool true,?_,rfl,?_⟩
  ·simp [results,Tryz.f4,go_sem,hc6]
  ·rw [hr0]
   exact ((HBX.out.trans (HW8.out.mono (by have:=HBX.out.size;omega))).setCell (p:=⟨r0,0,none⟩) (Nat.le_refl _) _).trans (belowK_b (w:=w) (by rw [hr0];exact Nat.le_refl _) _ D _ _ (by have:=HBX.out.size;have:=HD.out;omega) hK1 rfl rfl)
set_option maxRecDepth 100000 in
theorem walk (a0:ByteArray)(a1:ByteArray)(w:World)(w0:a0.size≤140737488351232)(w1:a1.size≤140737488351232) :
  Calls Tryz.prog 4 #[.string a0,.string a1] w fun e w'=>e=.returned (.bool true)∧Below w.heap.size w w':=by
 exact none_walk a0 a1 w w1

set_option maxRecDepth 100000 in
theorem contract (H:Type)(enc:TypeId×Value→H)(W:World)(base:Nat)(args:Array Value)(ds gs:List (DataW H))(before:List MemPlace)
  (hval0:∀(j:Nat) t v,Tryz.f4.params[j]?=some t→args[j]?=some v→Value.okWide Tryz.prog W .any base t v)
  (hW:DataW.Whole enc Tryz.prog Tryz.f4.params.toList Rows.loadNoneSpec.vars false W args.toList ds gs before)
  (hsz0:(DataW.weightsEach Tryz.prog (Tryz.f4.params.toList++Rows.loadNoneSpec.plain.varTypes Tryz.prog) (ds++gs)).all (·≤reachBytes)=true)(hL:laidMetH Tryz.prog Rows.loadNoneRow.laid W) :
  Calls Tryz.prog 4 args W fun e W'=>∃ v,e=.returned v∧Rows.loadNoneSpec.post enc Tryz.prog Tryz.f4 false true false false W args v W':=by
 have hval:∀(j:Nat) t v,Tryz.f4.params[j]?=some t→args[j]?=some v→Value.okWide Tryz.prog W .any base t v:=hval0
 have hsz:(DataW.weightsEach Tryz.prog (Tryz.f4.params.toList++Rows.loadNoneSpec.plain.varTypes Tryz.prog) (ds++gs)).all (·≤reachBytes)=true:=hsz0
 have hW':=hW
 obtain ⟨p,q,hA0,hV,rfl,hfz,hnd⟩:=hW
 have hA:DataW.TrodAll enc Tryz.prog W 0 (fun _=>true) true Tryz.f4.params.toList args.toList ds p:=hA0
 rw [Tryz.params4] at hA hval hsz
 obtain ⟨v0,vs0,d0,ds0,p0,q0,hargs,rfl,rfl,h0,r0⟩:=trodAll_cons hA
 obtain ⟨v1,vs1,d1,ds1,p1,q1,rfl,rfl,rfl,h1,r1⟩:=trodAll_cons r0
 obtain ⟨rfl,rfl,rfl⟩:=trodAll_nil r1
 obtain rfl:args=#[v0,v1]:=by cases args;simp_all
 obtain ⟨rfl,rfl⟩:=trodVars_none hV
 obtain ⟨a0,rfl,rfl,rfl,wm0⟩:=open_string Tryz.underlying9 (hval 0 9 v0 rfl rfl) h0
 have w0:a0.size≤140737488351232:=by
  have:=sized_string hsz (j:=0) (t:=9) rfl rfl
  simpa [reachBytes] using this
 obtain ⟨a1,rfl,rfl,rfl,wm1⟩:=open_string Tryz.underlying9 (hval 1 9 v1 rfl rfl) h1
 have w1:a1.size≤140737488351232:=by
  have:=sized_string hsz (j:=1) (t:=9) rfl rfl
  simpa [reachBytes] using this
 clear hA0 hval0
 refine (walk a0 a1 W w0 w1).mono fun e W' ⟨he,bel⟩=>?_
 subst he
 exact ⟨_,rfl,_,_,_,[],_,[],hW',trodAll_mk1 (shut_bool Tryz.underlying4 _),(trodAll_cons_mk (shut_string Tryz.underlying9 wm0) (trodAll_cons_mk (shut_string Tryz.underlying9 wm1) trodAll_mk0)),rfl,bel.frame _,fun h=>by cases h⟩

/-- The witness: the settled world, the two tables holding what their initialisers lay. -/
noncomputable def laidWorld (os:Os):World :=
 let w0:=World.holding Tryz.prog os ⟨#[],#[],[]⟩
 let put (h:Array Obj) (g:Nat) (cs:Array Value):Array Obj:=h.modify g fun
  | .cells _ t frozen=>.cells cs t frozen
  | o=>o
 let h1:=put w0.heap 1 (Lib.firstTab.map fun z=>Value.int .u8 z).toArray
 let h2:=put h1 2 ((List.range 16).flatMap fun i=>[Value.int .u8 (Lib.accLo i),Value.int .u8 (Lib.accHi i)]).toArray
 { w0 with heap:=h2 }
theorem laid_met (os:Os):laidMet Tryz.prog Rows.loadNoneRow.laid ((laidWorld os).forCall (fun _ _=>0) ⟨#[],#[.string ByteArray.empty,.string ByteArray.empty],[]⟩).memory:=by
 have h:laidMet Tryz.prog [("unicode/utf8.acceptRanges",Lib.acceptData),("unicode/utf8.first",Lib.firstData)] ((laidWorld os).forCall (fun _ _=>0) ⟨#[],#[.string ByteArray.empty,.string ByteArray.empty],[]⟩).memory :=
  (LaidIn.of_run (l:=[("unicode/utf8.acceptRanges",Lib.acceptData),("unicode/utf8.first",Lib.firstData)]) [2,1] 8 (by kernel_rfl) (by kernel_rfl) (by kernel_rfl) (by kernel_rfl)).met
 have e:Rows.loadNoneRow.laid=[("unicode/utf8.acceptRanges",Lib.acceptData),("unicode/utf8.first",Lib.firstData)]:=by
  rw [←Pinned.utf8First_eq,show Lib.acceptData=Rows.laid_unicode_utf8_acceptRanges from by kernel_rfl]
  rfl
 rw [e]
 exact h
theorem witness_row (os:Os){H:Type}(enc:TypeId×Value→H) :
  (OpenSpec.ofChange Rows.loadNoneSpec).preRow enc Tryz.prog Tryz.f4 Rows.loadNoneRow.domain false Rows.loadNoneRow.laid ((laidWorld os).forCall (fun _ _=>0) ⟨#[],#[.string ByteArray.empty,.string ByteArray.empty],[]⟩).memory #[.string ByteArray.empty,.string ByteArray.empty]:=by
 have hw:(DataW.whole enc Tryz.prog ((laidWorld os).forCall (fun _ _=>0) ⟨#[],#[.string ByteArray.empty,.string ByteArray.empty],[]⟩).memory Tryz.f4.params.toList (OpenSpec.ofChange Rows.loadNoneSpec).vars false (#[.string ByteArray.empty,.string ByteArray.empty]:Array Value).toList 8).map (fun x=>(x.1,x.2.1)) =
   some ([.lit (.string []),.lit (.string [])],[]):=by kernel_rfl
 obtain ⟨⟨x1,x2,x3⟩,hx,hx1⟩:=Option.map_eq_some_iff.1 hw
 simp only [Prod.mk.injEq] at hx1
 obtain ⟨rfl,rfl⟩:=hx1
 exact OpenSpec.preRow_of_cond 8 hx (by kernel_rfl) (fun k hk=>by cases hk) (by kernel_rfl) (laid_met os)
set_option maxRecDepth 100000 in
theorem lifted (os:Os)(started:os.Started)(H:Type)(enc:TypeId×Value→H)(F:Stop.Interp) :
  ReturnsInHanded {} Tryz.checked os 4 .any ((OpenSpec.ofChange Rows.loadNoneSpec).preRow enc Tryz.prog Tryz.f4 Rows.loadNoneRow.domain false Rows.loadNoneRow.laid) (((OpenSpec.ofChange Rows.loadNoneSpec).at F).post enc Tryz.prog Tryz.f4 false true false false):=by
 refine returnsInHanded_of_row (C:=Tryz.checked) (s:=OpenSpec.ofChange Rows.loadNoneSpec) own started (by kernel_rfl) Tryz.func4
  (witness_row_atRef (enc:=enc) (C:=Tryz.checked) false (laidWorld os) #[.string ByteArray.empty,.string ByteArray.empty] rfl (by kernel_rfl) (by kernel_rfl) (by kernel_rfl) (witness_row os enc)) ?_
 intro W base args ds gs before hval hW _ hk hsz hL _ _
 exact contract H enc W base args ds gs before hval hW hsz hL
theorem said:Rows.loadNoneRow.holds Tryz.pinned (OpenSpec.ofChange Rows.loadNoneSpec) :=
 OpenClaim.holds_of_cond 4 Tryz.f4 rfl rfl rfl rfl rfl rfl rfl ⟨rfl,rfl,rfl,rfl,rfl⟩ rfl rfl rfl rfl rfl (by kernel_rfl) Tryz.func4 (by kernel_rfl)
  (of_decide_eq_true (by kernel_rfl)) (by unfold Func.isWrapper;first | (rw [if_pos (by decide +kernel)];kernel_rfl) | (rw [if_neg (by decide +kernel)];exact ⟨rfl,rfl⟩))
  (fun os started H enc _ F=>by rw [OpenClaim.pre_eq_preRow];exact lifted os started H enc F)
/-- No parameter wants a stand-in; the program's own looks are off. -/
theorem plain (f:FuncId) (fn:Func) (hf:Tryz.pinned.checked.prog.funcNamed "vernacular/vernacularlaw23.LoadNone"=some f) (hfn:Tryz.pinned.checked.prog.funcs[f]?=some fn) :
  false=Tryz.pinned.checked.prog.looks []∧∀(j:Nat) t,fn.params[j]?=some t→Tryz.pinned.checked.prog.wantsStandIn t=false:=by
 obtain rfl:f=4:=Option.some.inj ((show Tryz.prog.funcNamed "vernacular/vernacularlaw23.LoadNone"=some 4 by kernel_rfl).symm.trans hf) |>.symm
 obtain rfl:fn=Tryz.f4:=(Option.some.inj (Tryz.func4.symm.trans hfn)).symm
 refine ⟨by kernel_rfl,fun j t ht=>?_⟩
 rw [Tryz.params4] at ht
 have hm:=Array.mem_of_getElem? ht
 have hall:(#[9,9]:Array TypeId).all (fun t=>Tryz.prog.wantsStandIn t == false)=true:=by kernel_rfl
 have:=Array.all_eq_true_iff_forall_mem.1 hall t hm
 exact eq_of_beq this
theorem over:Rows.LoadNoneCardSaid :=
 Claim7.holds_tied_plain_at .later [] _ _ _ _ said (fun _ h=>by cases h) (by kernel_rfl) (fun _ h=>by cases h) loadNone_row_tie rfl ⟨rfl,rfl⟩ (by kernel_rfl) rfl plain (by kernel_rfl)

/-- The statement. -/
theorem proved:Rows.LoadNoneCardSaid:=over
#print axioms proved
end Go.Proofs.YthdldooilcbmlaaGreatDoor.loadNone
