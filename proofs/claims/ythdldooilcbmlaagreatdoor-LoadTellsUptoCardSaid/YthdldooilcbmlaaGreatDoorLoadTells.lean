/-
  The law LoadTells answers true for every bundle, locale and path whose reading and bytes are no more than 1048576. Condition: that one.
-/
import Derived.Test.YthdldooilcbmlaaGreatDoorRows
import Derived.Test.YthdldooilcbmlaaGreatDoorCards
import Derived.Test.YthdldooilcbmlaaGreatDoorTie
import Derived.Deep.DeepHandedRow
import Derived.Deep.DeepWitnessRowRef
import Derived.Lib.LaidIn
import Derived.Lib.LaidU8
import Derived.PinnedBridge
import Derived.Test.YthdldooilcbmlaaGreatDoorK20
import Derived.Test.YthdldooilcbmlaaGreatDoorK18
import Derived.WalkKit
import Derived.Outline
import Derived.ProofKit
import Derived.OpenShut
import Derived.ShutString
import Derived.ChangeOld
import Derived.Below
import Derived.Deep.CondSized
namespace Go.Proofs.YthdldooilcbmlaaGreatDoor.loadTells
open Go.ChangeShapes Go.WideShapes Go.ChangeAt Go.RowKit
open Go.ChangeMaps (open_string shut_string)
set_option linter.unusedVariables false

theorem own:ownKnob Tryz.prog.godebug=none:=by kernel_rfl
theorem laidOut:laidOutB Tryz.prog=true:=by kernel_rfl

theorem names_at {r:List PStep}{j:Nat}{b:PStep}(h:r[j]?=some b)(hb:b.1≠ByteArray.empty):(namesL r)[(namesL (r.take j)).length]?=some b.1:=by
 have h1:=namesL_next h
 rw [if_neg hb] at h1
 have h2:namesL r=namesL (r.take (j+1))++namesL (r.drop (j+1)):=by
  unfold namesL
  rw [←List.filter_append,←List.map_append,List.take_append_drop]
 rw [h2,h1,List.append_assoc,List.getElem?_append_right (Nat.le_refl _),Nat.sub_self]
 rfl
theorem rise_filter {L:List PStep}(hr:RiseL (fun x y=>bl x.1 y.1) L){k:Nat}{b:PStep}(hb:L[k]?=some b):L.filter (fun x=>decide (x.1=b.1))=[b]:=by
 induction L generalizing k with
 | nil=>cases hb
 | cons a r ih =>
  obtain ⟨h1,h2⟩:=List.pairwise_cons.1 hr
  cases k with
  | zero =>
   cases hb
   rw [List.filter_cons_of_pos (by simp),List.filter_eq_nil_iff.2 fun x hx=>by simpa using fun e=>blT.ne (h1 x hx) (Eq.symm e)]
  | succ k =>
   rw [List.getElem?_cons_succ] at hb
   have h3:=h1 b (List.mem_of_getElem? hb)
   rw [List.filter_cons_of_neg (by simpa using blT.ne h3)]
   exact ih h2 hb
theorem allL_one {L:List PStep}(hr:RiseL (fun x y=>bl x.1 y.1) L){k:Nat}{b:PStep}(hb:L[k]?=some b):allL L b.1=b.2:=by
 unfold allL
 rw [rise_filter hr hb]
 simp
theorem FindsR.on {w W:World}{v:Value}{r:List PStep}(h:FindsR w v r)(hb:Below w.heap.size w W):FindsR W v r:=fun W' n p hW=>h W' n p (hb.trans (hW.mono hb.size))
set_option maxRecDepth 100000 in
set_option maxHeartbeats 8000000 in
theorem tells_walk (v:Value)(l:List PStep)(vs:List Value)(n p:ByteArray)(w:World)(h:StepsR w v l vs)(hin:BunIn l)(hp:p.size≤1048576) :
  Calls Tryz.prog 3 #[.agg #[v],.string n,.string p] w fun en w'=>en=.returned (.bool true)∧Below w.heap.size w w':=by
 have HS:=Lib.hid h
 have HIN:=Lib.hid hin
 obtain ⟨A,c,rfl,-,-,-,-,-⟩:=h
 obtain ⟨n0,hn⟩:∃ n,l.length=n:=⟨_,rfl⟩
 rw [hn] at HS ⊢
 clear hn hin
 obtain ⟨W0,hW0⟩:∃ W0,w.alloc (.cells #[.slice A n0 c] 24)=W0:=⟨_,rfl⟩
 have hb0:Below w.heap.size w W0:=by rw [←hW0];exact (Below.refl _ w).alloc (Nat.le_refl _) _
 have b0:Blk W0 w.heap.size 24 #[.slice A n0 c]:=by rw [←hW0];exact Blk.new w _ _
 have HWK:=Lib.hid (lwakes_any W0)
 have HB0:=Lib.hid hb0
 have HG0:=Lib.hid b0
 clear hb0 b0
 go_enter Tryz.func3,Tryz.ntmps3
 go_wp2_with fail
 (try rw [hW0])
 refine HWK.out.mono ?_
 rintro en w1 ⟨rfl,hb1⟩
 have HB1:=Lib.hid (HB0.out.trans (hb1.mono HB0.out.size))
 have x0:w1.cell? ⟨w.heap.size,0,none⟩=some (.slice A n0 c):=(HG0.out.below hb1 HG0.out.lt).cell 0
 have HSO:=Lib.hid (some_any (.slice A n0 c) l vs w1 (HS.out.more HB1.out) HIN.out)
 clear hb1 hW0 HWK HB0 HG0
 go_wp2_with fail
 refine HSO.out.mono ?_
 rintro en w2 ⟨hb2,⟨A1,n1,c1,A2,n2,c2,rfl⟩ | ⟨Ar,cr,r,us,Bo,d,rfl,hck,hfit,hown,hby⟩⟩
 ·have HB2:=Lib.hid (HB1.out.trans (hb2.mono HB1.out.size))
  clear hb2 x0 HSO
  go_wp2
  go_ret
  exact ⟨rfl,HB2.out.alloc HB2.out.size _⟩
 ·have HB2:=Lib.hid (HB1.out.trans (hb2.mono HB1.out.size))
  have HCK:=Lib.hid (And.intro hck hfit)
  have hba:=(Below.refl w2.heap.size w2).alloc (Nat.le_refl _) (.cells #[.slice Ar r.length cr] 24)
  obtain ⟨w3,hw3⟩:∃ w3,w2.alloc (.cells #[.slice Ar r.length cr] 24)=w3:=⟨_,rfl⟩
  have HG3:=Lib.hid (show Blk w3 w2.heap.size 24 #[.slice Ar r.length cr] from by rw [←hw3];exact Blk.new w2 _ _)
  rw [hw3] at hba
  have HB3:=Lib.hid (HB2.out.trans (hba.mono HB2.out.size))
  have HOW:=Lib.hid ((hown.on hba))
  obtain ⟨Ab,cb,eb,hb1,hb2c,hb3⟩:=OB.form (show OB w3 _ _ _ _ from own_more hby hba)
  have hBo:Ab=Bo:=by injection eb with h1 h2 h3;exact h1.symm
  have hdo:cb=d:=by injection eb with h1 h2 h3;exact h3.symm
  subst hBo hdo
  clear eb
  obtain ⟨nr,hnr⟩:∃ nr,r.length=nr:=⟨_,rfl⟩
  obtain ⟨no,hno⟩:∃ no,(bytesB r).length=no:=⟨_,rfl⟩
  have HLD:=Lib.hid (load_any Ab no cb (bytesB r) w3 hb3 hno (by rw [←hno];exact hb1) hb2c)
  have HNR:=Lib.hid hnr
  rw [hnr] at HG3 hw3
  rw [hnr,hno]
  obtain ⟨gs,hgs⟩:∃ gs,w2.heap.size=gs:=⟨_,rfl⟩
  rw [hgs] at HG3
  clear hb2 x0 HSO hby hck hfit hown hba HB2 hb1 hb2c hb3 hno hnr
  go_upto_region 4 with (fail)
  (try rw [hgs])
  (try rw [hw3])
  clear hw3 hgs
  go_wp2_with fail
  refine HLD.out.mono ?_
  rintro en w4 h4
  obtain ⟨hb4,g,rfl,hl4,-⟩:=load_one HCK.out.1 rfl HCK.out.2 h4
  have HB4:=Lib.hid (HB3.out.trans (hb4.mono HB3.out.size))
  have HL4:=Lib.hid hl4
  have HG4:=Lib.hid (HG3.out.below hb4 HG3.out.lt)
  have HO4:=Lib.hid (HOW.out.on hb4)
  have HFS:=Lib.hid (finds_r (HOW.out.on hb4).steps HCK.out.1)
  rw [HNR.out] at HFS
  obtain ⟨fx,hfx⟩:∃ fx,findB r n p=fx:=⟨_,rfl⟩
  have HFD:=Lib.hid (HFS.out w4 n p (Below.refl _ _))
  have HDR:=Lib.hid (fun W (hW:Below w4.heap.size w4 W)=>direct_any (HL4.out.on hW) n p (by omega))
  unfold DirPost at HDR
  rw [hfx] at HFD HDR
  obtain ⟨ft,fo⟩:=fx
  simp only at HFD HDR
  have y0:w4.cell? ⟨gs,0,none⟩=some (.slice Ar nr cr):=HG4.out.cell 0
  have hff:(ft.toList == ft.toList)=true:=by simp
  have hoo:(fo == fo)=true:=by simp
  clear h4 hb4 hl4 HLD HG3 HOW hfx
  go_wp2_with fail
  refine HFD.out.mono ?_
  rintro en w5 ⟨rfl,hb5⟩
  have HD5:=Lib.hid (HDR.out w5 hb5)
  have HB5:=Lib.hid hb5
  clear hb5 HFD HDR y0
  go_wp2_with fail
  refine HD5.out.mono ?_
  rintro en w6 ⟨rfl,hb6⟩
  have HB6:=Lib.hid (HB5.out.trans (hb6.mono HB5.out.size))
  have HVA:=Lib.hid (values_any (HL4.out.on HB6.out) (FindsR.on HFS.out HB6.out) n p (by omega))
  have y0:w6.cell? ⟨gs,0,none⟩=some (.slice Ar nr cr):=(HG4.out.below HB6.out HG4.out.lt).cell 0
  clear hb6 HD5 HB5
  cases fo <;> (
   go_wp2_with fail
   refine HVA.out.mono ?_
   rintro en w7 ⟨rfl,hb7⟩
   have HB7:=Lib.hid (HB6.out.trans (hb7.mono HB6.out.size))
   have HLC:=Lib.hid (locales_any (HL4.out.on HB7.out))
   clear hb7 HVA y0 HB6
   go_wp2_with fail
   refine HLC.out.mono ?_
   rintro en w8 ⟨⟨An,cn,rfl,hon⟩,hb8⟩
   obtain ⟨nn,hnn⟩:∃ nn,(namesL r).length=nn:=⟨_,rfl⟩
   rw [hnn] at hon ⊢
   have HNN:=Lib.hid hnn
   have HON:=Lib.hid hon
   have HB8:=Lib.hid (HB7.out.trans (hb8.mono HB7.out.size))
   have x0:w8.cell? ⟨gs,0,none⟩=some (.slice Ar nr cr):=(HG4.out.below HB8.out HG4.out.lt).cell 0
   have hnr9:(nr:Int)≤513:=by have:=(checkB_ok HCK.out.1).1;have:=HNR.out;omega
   have hnn9:nn≤nr:=by
    rw [←hnn,←HNR.out]
    unfold namesL
    have h1:=List.length_filter_le (fun x:ByteArray=>decide (x≠ByteArray.empty)) (r.map Prod.fst)
    rw [List.length_map] at h1
    exact h1
   have HBA:=Lib.hid (HB4.out.trans (HB8.out.mono HB4.out.size))
   have HLL:=Lib.hid (HL4.out.on HB8.out)
   have HOO:=Lib.hid (HO4.out.on HB8.out)
   clear hnn hon hb8 HLC HB7 HB8 HG4 HL4 HO4 HFS
   go_wp2_with fail
   clear x0
   go_loopw [16,73] (fun av iv W=>∃ j m:Nat,av=.int .i64 (m:Int)∧iv=.int .i64 (j:Int)∧j≤nr∧m=(namesL (r.take j)).length∧m≤j∧Below w8.heap.size w8 W) (fun _ iv _=>nr-(Lib.intOf iv).toNat)
   case atStart=>exact ⟨0,0,rfl,rfl,Nat.zero_le _,rfl,Nat.zero_le _,Below.refl _ _⟩
   case round =>
    obtain ⟨j,m,rfl,rfl,hj,hm,hmj,hb⟩:=hrel
    have HB:=Lib.hid hb
    have HM:=Lib.hid hm
    clear hb hm
    by_cases hlt:j<nr
    ·have hq1:(j:Int)<(nr:Int):=by omega
     have hq0:(0:Int)≤(j:Int):=by omega
     obtain ⟨b,hb⟩:∃ b,r[j]?=some b:=⟨_,List.getElem?_eq_getElem (by rw [HNR.out];exact hlt)⟩
     obtain ⟨kv,hkv⟩:∃ kv,us[j]?=some kv:=⟨_,List.getElem?_eq_getElem (by rw [HOO.out.2.1,HNR.out];exact hlt)⟩
     have hvo:=HOO.out.2.2 j b kv hb hkv
     obtain ⟨Av,cv,rfl,-,-,hvr⟩:=own_form hvo
     have hso:=HOO.out.1
     rw [HNR.out] at hso
     obtain ⟨As,cs,es,-,-,hsr⟩:=own_form hso
     have hAs:As=Ar:=by injection es with h1 h2 h3;exact h1.symm
     subst hAs
     clear es hso
     obtain ⟨bk,ok,rfl,hbk,hcl⟩:=(Reads.below hsr HB.out).spot (by omega) (by omega)
     have hst:=stepCells_at r us j b _ hb hkv
     have z0:wr.cell? ⟨bk,ok+j*2,none⟩=some (.string b.1):=hcl _ _ hst.1
     have z1:wr.cell? ⟨bk,ok+j*2+1,none⟩=some (.slice Av b.2.length cv):=hcl _ _ hst.2
     have HAL:=Lib.hid (allL_one (checkB_ok HCK.out.1).2.1 hb)
     have HHB:=Lib.hid (show hasB r b.1=true from List.any_eq_true.2 ⟨b,List.mem_of_getElem? hb,by simp⟩)
     have HNA:=Lib.hid (names_at hb)
     have HNX:=Lib.hid (namesL_next hb)
     have hnv9:b.2.length≤16384:=check_few HCK.out.1 b (List.mem_of_getElem? hb)
     obtain ⟨nv,hnv⟩:∃ nv,b.2.length=nv:=⟨_,rfl⟩
     have HNV:=Lib.hid hnv
     have HVR:=Lib.hid hvr
     rw [hnv] at z1 HVR hnv9
     obtain ⟨nm,hnm⟩:∃ nm,b.1=nm:=⟨_,rfl⟩
     rw [hnm] at z0 HAL HHB HNA HNX
     have hba:=(Below.refl wr.heap.size wr).alloc (Nat.le_refl _) (.cells #[.string nm,.slice Av nv cv] 41)
     have HBB:=Lib.hid (HB.out.trans (hba.mono HB.out.size))
     have HGK:=Lib.hid (Blk.new wr 41 #[.string nm,.slice Av nv cv])
     clear hb hkv hvo hsr hcl hst hnv hnm hvr hba hbk
     go_upto_region 18 with (fail)
     clear z0 z1 HB
     generalize wr.alloc (.cells #[.string nm,.slice Av nv cv] 41)=w11 at *
     obtain ⟨gk,hgk⟩:∃ gk,wr.heap.size=gk:=⟨_,rfl⟩
     rw [hgk] at HGK
     (try rw [hgk])
     clear hgk
     have HHS:=Lib.hid (has_any (HLL.out.on HBB.out) nm)
     rw [HHB.out] at HHS
     have y0:w11.cell? ⟨gk,0,none⟩=some (.string nm):=HGK.out.cell 0
     have y1:w11.cell? ⟨gk,1,none⟩=some (.slice Av nv cv):=HGK.out.cell 1
     go_wp2_with fail
     refine HHS.out.mono ?_
     rintro en w12 ⟨rfl,hb12⟩
     have HB12:=Lib.hid (HBB.out.trans (hb12.mono HBB.out.size))
     have HGK12:=Lib.hid (HGK.out.below hb12 HGK.out.lt)
     have HSM:=Lib.hid (lall_same (HLL.out.on HB12.out) nm b.2 Av cv nv HNV.out (Reads.more (Reads.below HVR.out HB12.out) HB12.out.size) HAL.out hnv9)
     clear y0 y1 hb12 HHS HGK HBB
     have y0:w12.cell? ⟨gk,0,none⟩=some (.string nm):=HGK12.out.cell 0
     have y1:w12.cell? ⟨gk,1,none⟩=some (.slice Av nv cv):=HGK12.out.cell 1
     go_wp2_with fail
     refine HSM.out.mono ?_
     rintro en w13 ⟨rfl,hb13⟩
     have HB13:=Lib.hid (HB12.out.trans (hb13.mono HB12.out.size))
     have HGK13:=Lib.hid (HGK12.out.below hb13 HGK12.out.lt)
     clear y0 y1 hb13 HSM HGK12 HB12
     have y0:w13.cell? ⟨gk,0,none⟩=some (.string nm):=HGK13.out.cell 0
     by_cases he:nm=ByteArray.empty
     ·have heq:(nm.toList == [])=true:=by rw [he];simp
      rw [if_pos he] at HNX
      clear he
      go_wp2
      go_roundw
      case rel=>exact ⟨j+1,m,rfl,by go_num,hlt,by rw [HNX.out,List.append_nil];exact HM.out,by omega,HB13.out⟩
      case measure=>simp [Lib.intOf] <;> omega
     ·have heq:(nm.toList == [])=false:=by
       rw [show ([]:List UInt8)=ByteArray.empty.toList from by kernel_rfl,ba_beq]
       simpa using he
      rw [if_neg he] at HNX
      have hna:=HNA.out he
      rw [←HM.out] at hna
      have hmn:m<nn:=by rw [←HNN.out];exact (List.getElem?_eq_some_iff.1 hna).1
      obtain ⟨bn,rfl,hbn1,hbn2⟩:=own_spot HON.out (show 0<nn by omega)
      have y2:w13.cell? ⟨bn,m,none⟩=some (.string nm):=(HB13.out.cell (p:=⟨bn,m,none⟩) hbn2).trans (own_cell HON.out m _ (by unfold strsV;rw [List.getElem?_map,hna];rfl))
      have hr1:(m:Int)<(nn:Int):=by omega
      have hr0:(0:Int)≤(m:Int):=by omega
      have hr2:¬ (nn:Int)≤(m:Int):=by omega
      have hm9:(m:Int)≤513:=by omega
      have hnn2:(nm.toList == nm.toList)=true:=by simp
      clear he hna
      go_wp2
      go_quiet (fail)
      go_wp2
      go_roundw
      case rel=>exact ⟨j+1,m+1,by go_num,by go_num,hlt,by rw [HNX.out,List.length_append,←HM.out];rfl,by omega,HB13.out.trans ((below_drawsK _ _).mono HB13.out.size)⟩
      case measure=>simp [Lib.intOf] <;> omega
    ·obtain rfl:nr=j:=by omega
     have hq:¬ (nr:Int)<(nr:Int):=by omega
     have hmn:m=nn:=by
      have h1:=HM.out
      rw [←HNR.out,List.take_length,HNN.out] at h1
      exact h1
     subst hmn
     have hmm:((m:Int) == (m:Int))=true:=by simp
     have HPR:=Lib.hid (probes_any (HLL.out.on HB.out) n p hp)
     go_wp2_with fail
     refine HPR.out.mono ?_
     rintro en w14 ⟨⟨k,rfl,hk1,hk2⟩,hb14⟩
     have HB14:=Lib.hid (HB.out.trans (hb14.mono HB.out.size))
     have hk3:(1:Int)≤(k:Int):=by omega
     have hk4:(k:Int)≤120:=by omega
     clear hb14 HPR
     go_wp2
     go_ret
     exact ⟨by (try simp);(try rfl),HBA.out.trans (HB14.out.mono HBA.out.size)⟩)
set_option maxRecDepth 100000 in
theorem walk {H:Type}{enc:TypeId×Value→H}(v0:Value)(d0:DataW H)(p0:List MemPlace)(base0:Nat)(a1:ByteArray)(a2:ByteArray)(w:World)(hv0:Value.okWide Tryz.prog w .any base0 24 v0)(w0:DataW.Trod enc Tryz.prog w 0 (fun _=>true) true 24 v0 d0 p0)(hwt0:∀ n∈d0.weights Tryz.prog 24,n≤140737488351232)(w1:a1.size≤140737488351232)(w2:a2.size≤140737488351232)(hbulk:Rows.uptoBulk d0+(a1.size+1)+(a2.size+1)≤1048576) :
  Calls Tryz.prog 3 #[v0,.string a1,.string a2] w fun e w'=>e=.returned (.bool true)∧Below w.heap.size w w':=by
 obtain ⟨u0,l0,vs0,rfl,hs0,hi0⟩:=open_bundle hv0 w0 hwt0
 exact tells_walk u0 l0 vs0 a1 a2 w hs0 hi0 (by omega)

set_option maxRecDepth 100000 in
theorem contract (H:Type)(enc:TypeId×Value→H)(W:World)(base:Nat)(args:Array Value)(ds gs:List (DataW H))(before:List MemPlace)
  (hval0:∀(j:Nat) t v,Tryz.f3.params[j]?=some t→args[j]?=some v→Value.okWide Tryz.prog W .any base t v)
  (hW:DataW.Whole enc Tryz.prog Tryz.f3.params.toList Rows.loadTellsSpec.vars false W args.toList ds gs before)
  (hsz0:(DataW.weightsEach Tryz.prog (Tryz.f3.params.toList++Rows.loadTellsSpec.plain.varTypes Tryz.prog) (ds++gs)).all (·≤reachBytes)=true)(hL:laidMetH Tryz.prog Rows.loadTellsUptoRow.laid W)(hk:Rows.uptoSmall H (ds++gs)=true) :
  Calls Tryz.prog 3 args W fun e W'=>∃ v,e=.returned v∧Rows.loadTellsSpec.post enc Tryz.prog Tryz.f3 false true false false W args v W':=by
 have hval:∀(j:Nat) t v,Tryz.f3.params[j]?=some t→args[j]?=some v→Value.okWide Tryz.prog W .any base t v:=hval0
 have hsz:(DataW.weightsEach Tryz.prog (Tryz.f3.params.toList++Rows.loadTellsSpec.plain.varTypes Tryz.prog) (ds++gs)).all (·≤reachBytes)=true:=hsz0
 have hW':=hW
 obtain ⟨p,q,hA0,hV,rfl,hfz,hnd⟩:=hW
 have hA:DataW.TrodAll enc Tryz.prog W 0 (fun _=>true) true Tryz.f3.params.toList args.toList ds p:=hA0
 rw [Tryz.params3] at hA hval hsz
 obtain ⟨v0,vs0,d0,ds0,p0,q0,hargs,rfl,rfl,h0,r0⟩:=trodAll_cons hA
 obtain ⟨v1,vs1,d1,ds1,p1,q1,rfl,rfl,rfl,h1,r1⟩:=trodAll_cons r0
 obtain ⟨v2,vs2,d2,ds2,p2,q2,rfl,rfl,rfl,h2,r2⟩:=trodAll_cons r1
 obtain ⟨rfl,rfl,rfl⟩:=trodAll_nil r2
 obtain rfl:args=#[v0,v1,v2]:=by cases args;simp_all
 obtain ⟨rfl,rfl⟩:=trodVars_none hV
 have k0:=h0
 have lt0:∀ x∈p0,x.block<W.heap.size:=by obtain ⟨m,hm⟩:=k0;exact DataW.trod_lt m _ _ _ hm
 have hwt0:∀ n∈d0.weights Tryz.prog 24,n≤140737488351232:=fun n hn=>by
  have:=of_decide_eq_true (List.all_eq_true.1 hsz _ (DataW.weights_mem_each (j:=0) (t:=24) rfl rfl n hn))
  simpa [reachBytes] using this
 obtain ⟨a1,rfl,rfl,rfl,wm1⟩:=open_string Tryz.underlying9 (hval 1 9 v1 rfl rfl) h1
 have w1:a1.size≤140737488351232:=by
  have:=sized_string hsz (j:=1) (t:=9) rfl rfl
  simpa [reachBytes] using this
 obtain ⟨a2,rfl,rfl,rfl,wm2⟩:=open_string Tryz.underlying9 (hval 2 9 v2 rfl rfl) h2
 have w2:a2.size≤140737488351232:=by
  have:=sized_string hsz (j:=2) (t:=9) rfl rfl
  simpa [reachBytes] using this
 have hbulk:Rows.uptoBulk d0+(a1.size+1)+(a2.size+1)≤1048576:=by
  have hb:=of_decide_eq_true hk
  simp only [List.append_nil,Rows.uptoBulkAll] at hb
  try simp only [Rows.uptoBulk,Array.length_toList,ByteArray.size_data] at hb
  omega
 clear hA0 hval0
 refine (walk v0 d0 p0 base a1 a2 W (hval 0 24 v0 rfl rfl) h0 hwt0 w1 w2 hbulk).mono fun e W' ⟨he,bel⟩=>?_
 subst he
 exact ⟨_,rfl,_,_,_,[],_,[],hW',trodAll_mk1 (shut_bool Tryz.underlying4 _),(trodAll_cons_mk (Below.trod laidOut (by kernel_rfl) (of_decide_eq_true (by kernel_rfl)) k0 bel lt0) (trodAll_cons_mk (shut_string Tryz.underlying9 wm1) (trodAll_cons_mk (shut_string Tryz.underlying9 wm2) trodAll_mk0))),rfl,bel.frame _,fun h=>by cases h⟩

/-- The witness: the settled world, the two tables holding what their initialisers lay. -/
noncomputable def laidWorld (os:Os):World :=
 let w0:=World.holding Tryz.prog os ⟨#[],#[],[]⟩
 let put (h:Array Obj) (g:Nat) (cs:Array Value):Array Obj:=h.modify g fun
  | .cells _ t frozen=>.cells cs t frozen
  | o=>o
 let h1:=put w0.heap 1 (Lib.firstTab.map fun z=>Value.int .u8 z).toArray
 let h2:=put h1 2 ((List.range 16).flatMap fun i=>[Value.int .u8 (Lib.accLo i),Value.int .u8 (Lib.accHi i)]).toArray
 { w0 with heap:=h2 }
theorem laid_met (os:Os):laidMet Tryz.prog Rows.loadTellsUptoRow.laid ((laidWorld os).forCall (fun _ _=>0) ⟨#[],#[.agg #[.slice none 0 0],.string ByteArray.empty,.string ByteArray.empty],[]⟩).memory:=by
 have h:laidMet Tryz.prog [("unicode/utf8.acceptRanges",Lib.acceptData),("unicode/utf8.first",Lib.firstData)] ((laidWorld os).forCall (fun _ _=>0) ⟨#[],#[.agg #[.slice none 0 0],.string ByteArray.empty,.string ByteArray.empty],[]⟩).memory :=
  (LaidIn.of_run (l:=[("unicode/utf8.acceptRanges",Lib.acceptData),("unicode/utf8.first",Lib.firstData)]) [2,1] 8 (by kernel_rfl) (by kernel_rfl) (by kernel_rfl) (by kernel_rfl)).met
 have e:Rows.loadTellsUptoRow.laid=[("unicode/utf8.acceptRanges",Lib.acceptData),("unicode/utf8.first",Lib.firstData)]:=by
  rw [←Pinned.utf8First_eq,show Lib.acceptData=Rows.laid_unicode_utf8_acceptRanges from by kernel_rfl]
  rfl
 rw [e]
 exact h
theorem witness_row (os:Os){H:Type}(enc:TypeId×Value→H) :
  (Rows.OpenSpec.upto Rows.loadTellsSpec).preRow enc Tryz.prog Tryz.f3 Rows.loadTellsUptoRow.domain false Rows.loadTellsUptoRow.laid ((laidWorld os).forCall (fun _ _=>0) ⟨#[],#[.agg #[.slice none 0 0],.string ByteArray.empty,.string ByteArray.empty],[]⟩).memory #[.agg #[.slice none 0 0],.string ByteArray.empty,.string ByteArray.empty]:=by
 have hw:(DataW.whole enc Tryz.prog ((laidWorld os).forCall (fun _ _=>0) ⟨#[],#[.agg #[.slice none 0 0],.string ByteArray.empty,.string ByteArray.empty],[]⟩).memory Tryz.f3.params.toList (Rows.OpenSpec.upto Rows.loadTellsSpec).vars false (#[.agg #[.slice none 0 0],.string ByteArray.empty,.string ByteArray.empty]:Array Value).toList 8).map (fun x=>(x.1,x.2.1)) =
   some ([.agg [.nil],.lit (.string []),.lit (.string [])],[]):=by kernel_rfl
 obtain ⟨⟨x1,x2,x3⟩,hx,hx1⟩:=Option.map_eq_some_iff.1 hw
 simp only [Prod.mk.injEq] at hx1
 obtain ⟨rfl,rfl⟩:=hx1
 exact OpenSpec.preRow_of_cond 8 hx (by kernel_rfl) (fun k hk=>by cases hk;kernel_rfl) (by kernel_rfl) (laid_met os)
set_option maxRecDepth 100000 in
theorem lifted (os:Os)(started:os.Started)(H:Type)(enc:TypeId×Value→H)(F:Stop.Interp) :
  ReturnsInHanded {} Tryz.checked os 3 .any ((Rows.OpenSpec.upto Rows.loadTellsSpec).preRow enc Tryz.prog Tryz.f3 Rows.loadTellsUptoRow.domain false Rows.loadTellsUptoRow.laid) (((Rows.OpenSpec.upto Rows.loadTellsSpec).at F).post enc Tryz.prog Tryz.f3 false true false false):=by
 refine returnsInHanded_of_row (C:=Tryz.checked) (s:=Rows.OpenSpec.upto Rows.loadTellsSpec) own started (by kernel_rfl) Tryz.func3
  (witness_row_atRef (enc:=enc) (C:=Tryz.checked) false (laidWorld os) #[.agg #[.slice none 0 0],.string ByteArray.empty,.string ByteArray.empty] rfl (by kernel_rfl) (by kernel_rfl) (by kernel_rfl) (witness_row os enc)) ?_
 intro W base args ds gs before hval hW _ hk hsz hL _ _
 exact contract H enc W base args ds gs before hval hW hsz hL (hk _ rfl)
theorem said:Rows.loadTellsUptoRow.holds Tryz.pinned (Rows.OpenSpec.upto Rows.loadTellsSpec) :=
 OpenClaim.holds_of_cond 3 Tryz.f3 rfl rfl rfl rfl rfl rfl rfl ⟨rfl,rfl,rfl,rfl,rfl⟩ rfl rfl rfl rfl rfl (by kernel_rfl) Tryz.func3 (by kernel_rfl)
  (of_decide_eq_true (by kernel_rfl)) (by unfold Func.isWrapper;first | (rw [if_pos (by decide +kernel)];kernel_rfl) | (rw [if_neg (by decide +kernel)];exact ⟨rfl,rfl⟩))
  (fun os started H enc _ F=>by rw [OpenClaim.pre_eq_preRow];exact lifted os started H enc F)
/-- No parameter wants a stand-in; the program's own looks are off. -/
theorem plain (f:FuncId) (fn:Func) (hf:Tryz.pinned.checked.prog.funcNamed "vernacular/vernacularlaw23.LoadTells"=some f) (hfn:Tryz.pinned.checked.prog.funcs[f]?=some fn) :
  false=Tryz.pinned.checked.prog.looks []∧∀(j:Nat) t,fn.params[j]?=some t→Tryz.pinned.checked.prog.wantsStandIn t=false:=by
 obtain rfl:f=3:=Option.some.inj ((show Tryz.prog.funcNamed "vernacular/vernacularlaw23.LoadTells"=some 3 by kernel_rfl).symm.trans hf) |>.symm
 obtain rfl:fn=Tryz.f3:=(Option.some.inj (Tryz.func3.symm.trans hfn)).symm
 refine ⟨by kernel_rfl,fun j t ht=>?_⟩
 rw [Tryz.params3] at ht
 have hm:=Array.mem_of_getElem? ht
 have hall:(#[24,9,9]:Array TypeId).all (fun t=>Tryz.prog.wantsStandIn t == false)=true:=by kernel_rfl
 have:=Array.all_eq_true_iff_forall_mem.1 hall t hm
 exact eq_of_beq this
theorem over:Rows.LoadTellsUptoCardSaid :=
 Claim7.holds_tied_plain_at .later [] _ _ _ _ said (fun _ h=>by cases h) (by kernel_rfl) (fun _ h=>by cases h) loadTellsUpto_row_tie rfl ⟨rfl,rfl⟩ (by kernel_rfl) rfl plain (by kernel_rfl)

/-- The statement. -/
theorem proved:Rows.LoadTellsUptoCardSaid:=over
#print axioms proved
end Go.Proofs.YthdldooilcbmlaaGreatDoor.loadTells
