/-
  Texts of mine, joined: LoadFind, LoadVals, LoadSame, SplitLay, LoadProbes. The conditions stand with each.
-/
import Derived.Test.YthdldooilcbmlaaGreatDoorK15
import Derived.Test.YthdldooilcbmlaaGreatDoorK10
import Derived.Test.YthdldooilcbmlaaGreatDoorK18
import Derived.Shelf.Strings.Split
import Derived.Test.YthdldooilcbmlaaGreatDoorProg
set_option linter.unusedVariables false
set_option linter.unusedSimpArgs false
namespace Go.Proofs.YthdldooilcbmlaaGreatDoor
section
open Go.RowKit Go.Shelf

attribute [local go_sem] Oper.semAt_some
theorem findB_miss {L:List PStep}{n p:ByteArray}(h:∀(i:Nat) (b:PStep),L[i]?=some b→b.1=n→∀(k:Nat) (v:PKey),b.2[k]?=some v→v.1≠p):findB L n p=(ByteArray.empty,false):=by
 unfold findB
 cases hf:L.find? (fun b=>decide (b.1=n)) with
 | none=>rfl
 | some b =>
  have hb:=List.mem_of_find?_eq_some hf
  have hn:b.1=n:=by simpa using List.find?_some hf
  simp only
  obtain ⟨i,hi⟩:=List.mem_iff_getElem?.1 hb
  rw [List.find?_eq_none.2 fun v hv=>by
   obtain ⟨k,hk⟩:=List.mem_iff_getElem?.1 hv
   simpa using h i b hi hn k v hk]
set_option maxRecDepth 100000 in
set_option maxHeartbeats 8000000 in
theorem ffind_any (A:Option Addr)(c:Nat)(L:List PStep)(vs:List Value)(w:World)(h:StepsR w (.slice A L.length c) L vs)(hr:RiseL (fun x y=>bl x.1 y.1) L)(hv:∀ b∈L,RiseL (fun x y=>bl x.1 y.1) b.2)(hl:L.length≤1000000)(hvl:∀ b∈L,b.2.length≤1000000)(n p:ByteArray) :
  Calls Tryz.prog 8 #[.agg #[.slice A L.length c],.string n,.string p] w fun e w'=>e=.returned (.tuple #[.string (findB L n p).1,.bool (findB L n p).2])∧Below w.heap.size w w':=by
 obtain ⟨W0,hW0⟩:∃ W0,w.alloc (.cells #[.slice A L.length c] 24)=W0:=⟨_,rfl⟩
 have hb0:Below w.heap.size w W0:=by rw [←hW0];exact (Below.refl _ w).alloc (Nat.le_refl _) _
 have HB0:=Lib.hid hb0
 obtain ⟨A',c',e',h1,h2,h3,h4,h5⟩:=h.more hb0
 cases e'
 obtain ⟨N,hN⟩:∃ N,L.length=N:=⟨_,rfl⟩
 rw [hN] at h3 h4 hl hW0 ⊢
 have HS:=Lib.hid (And.intro h3 (And.intro h4 h5))
 have HN:=Lib.hid hN
 have HR:=Lib.hid hr
 have HV:=Lib.hid hv
 have HVL:=Lib.hid hvl
 have HMISS:=Lib.hid (findB_miss (L:=L) (n:=n) (p:=p))
 have hl1:(N:Int)≤1000000:=by omega
 have y0:W0.cell? ⟨w.heap.size,0,none⟩=some (.slice A N c):=by rw [←hW0];exact (Blk.new w _ _).cell 0
 clear hN hr hv hvl h hb0 h1 h2 h3 h4 h5
 go_enter Tryz.func8,Tryz.ntmps8
 go_wp2
 (try rw [hW0])
 clear hW0
 go_loopw [8] (fun iv W=>∃ j:Nat,iv=.int .i64 (j:Int)∧j≤N∧(∀(i:Nat) (b:PStep),i<j→L[i]?=some b→b.1=n→∀(k:Nat) (v:PKey),b.2[k]?=some v→v.1≠p)∧W=W0) (fun iv _=>N-(Lib.intOf iv).toNat)
 case atStart=>exact ⟨0,rfl,Nat.zero_le _,fun i b h=>absurd h (Nat.not_lt_zero _),rfl⟩
 case round =>
  obtain ⟨j,rfl,hj,hno,rfl⟩:=hrel
  have HNO:=Lib.hid hno
  clear hno
  by_cases hlt:j<N
  ·have hq1:(j:Int)<(N:Int):=by omega
   have hq0:(0:Int)≤(j:Int):=by omega
   obtain ⟨b,hb⟩:∃ b,L[j]?=some b:=⟨_,List.getElem?_eq_getElem (by rw [HN.out];exact hlt)⟩
   obtain ⟨h3,h4,h5⟩:=HS.out
   obtain ⟨kv,hkv⟩:∃ kv,vs[j]?=some kv:=⟨_,List.getElem?_eq_getElem (by rw [h4];exact hlt)⟩
   obtain ⟨Av,cv,rfl,-,-,hvr⟩:=h5 j b _ hb hkv
   obtain ⟨bs,o,rfl,hbs,hcl⟩:=h3.spot (by omega) (by omega)
   have hst:=stepCells_at L vs j b _ hb hkv
   have z0:wr.cell? ⟨bs,o+j*2,none⟩=some (.string b.1):=hcl _ _ hst.1
   have z1:wr.cell? ⟨bs,o+j*2+1,none⟩=some (.slice Av b.2.length cv):=hcl _ _ hst.2
   have HBB:=Lib.hid hb
   have hvn:=HVL.out b (List.mem_of_getElem? hb)
   have HBV:=Lib.hid (HV.out b (List.mem_of_getElem? hb))
   obtain ⟨nv,hnv⟩:∃ nv,b.2.length=nv:=⟨_,rfl⟩
   rw [hnv] at z1 hvr hvn
   have HNV:=Lib.hid hnv
   have HVR:=Lib.hid hvr
   have hvn1:(nv:Int)≤1000000:=by omega
   obtain ⟨bn,hbn⟩:∃ bn,b.1=bn:=⟨_,rfl⟩
   rw [hbn] at z0
   have HBN:=Lib.hid hbn
   clear hb hkv hvr hst hcl hbs h3 h4 h5 hnv hbn
   by_cases he:bn=n
   ·have heq:(bn.toList == n.toList)=true:=by rw [he];simp
    have HE:=Lib.hid he
    clear he
    go_wp2
    go_loopw [9] (fun iv W=>∃ q:Nat,iv=.int .i64 (q:Int)∧q≤nv∧(∀(k:Nat) (v:PKey),k<q→b.2[k]?=some v→v.1≠p)∧W=wr) (fun iv _=>nv-(Lib.intOf iv).toNat)
    case atStart=>exact ⟨0,rfl,Nat.zero_le _,fun k v h=>absurd h (Nat.not_lt_zero _),rfl⟩
    case round =>
     obtain ⟨q,rfl,hq,hno,rfl⟩:=hrel
     have HNO2:=Lib.hid hno
     clear hno
     by_cases hql:q<nv
     ·have hr1:(q:Int)<(nv:Int):=by omega
      have hr0:(0:Int)≤(q:Int):=by omega
      obtain ⟨x,hx⟩:∃ x,b.2[q]?=some x:=⟨_,List.getElem?_eq_getElem (by rw [HNV.out];exact hql)⟩
      obtain ⟨bv,ov,rfl,hbv,hcv⟩:=HVR.out.spot (by omega) (by omega)
      have hpc:=pairCells_at b.2 q x hx
      have z2:wr.cell? ⟨bv,ov+q*2,none⟩=some (.string x.1):=hcv _ _ hpc.1
      have z3:wr.cell? ⟨bv,ov+q*2+1,none⟩=some (.string x.2):=hcv _ _ hpc.2
      have HX:=Lib.hid hx
      obtain ⟨xp,hxp⟩:∃ xp,x.1=xp:=⟨_,rfl⟩
      obtain ⟨xt,hxt⟩:∃ xt,x.2=xt:=⟨_,rfl⟩
      rw [hxp] at z2
      rw [hxt] at z3
      have HXP:=Lib.hid hxp
      have HXT:=Lib.hid hxt
      clear hx hbv hcv hpc hxp hxt
      by_cases hxe:xp=p
      ·have hxq:(xp.toList == p.toList)=true:=by rw [hxe];simp
       have HF:=Lib.hid (show findB L n p=(xt,true) from by rw [findB_some HR.out HBB.out (HBN.out.trans HE.out) HBV.out HX.out (HXP.out.trans hxe),HXT.out])
       clear hxe
       go_wp2
       (try simp only [Exit.noGoto_ret])
       go_ret2
       exact ⟨by rw [HF.out];try rfl,HB0.out⟩
      ·have hxq:(xp.toList == p.toList)=false:=by rw [ba_beq];simpa using hxe
       have HXE:=Lib.hid hxe
       clear hxe
       go_wp2
       go_roundw
       case rel=>exact ⟨q+1,by go_num,hql,fun k v h1 h2=>by
        rcases Nat.lt_succ_iff_lt_or_eq.1 h1 with h | rfl
        ·exact HNO2.out k v h h2
        ·rw [HX.out] at h2
         cases h2
         rw [HXP.out]
         exact HXE.out,trivial⟩
       case measure=>simp [Lib.intOf] <;> omega
     ·obtain rfl:nv=q:=by omega
      have hr:¬ (nv:Int)<(nv:Int):=by omega
      go_wp2
      go_roundw
      case rel=>exact ⟨j+1,by go_num,hlt,fun i b' h1 h2 h3 k v h4=>by
       rcases Nat.lt_succ_iff_lt_or_eq.1 h1 with h | rfl
       ·exact HNO.out i b' h h2 h3 k v h4
       ·rw [HBB.out] at h2
        cases h2
        exact HNO2.out k v (by rw [←HNV.out];exact (List.getElem?_eq_some_iff.1 h4).1) h4,trivial⟩
      case measure=>simp [Lib.intOf] <;> omega
   ·have heq:(bn.toList == n.toList)=false:=by rw [ba_beq];simpa using he
    have HE:=Lib.hid he
    clear he
    go_wp2
    go_roundw
    case rel=>exact ⟨j+1,by go_num,hlt,fun i b' h1 h2 h3 k v h4=>by
     rcases Nat.lt_succ_iff_lt_or_eq.1 h1 with h | rfl
     ·exact HNO.out i b' h h2 h3 k v h4
     ·rw [HBB.out] at h2
      cases h2
      exact absurd (HBN.out.symm.trans h3) HE.out,trivial⟩
    case measure=>simp [Lib.intOf] <;> omega
  ·obtain rfl:N=j:=by omega
   have hq:¬ (N:Int)<(N:Int):=by omega
   have HF:=Lib.hid (show findB L n p=(ByteArray.empty,false) from HMISS.out fun i b h1=>HNO.out i b (by rw [←HN.out];exact (List.getElem?_eq_some_iff.1 h1).1) h1)
   go_wp2
   (try simp only [Exit.noGoto_ret])
   go_ret2
   exact ⟨by rw [HF.out];try rfl,HB0.out⟩
end
section
open Go.RowKit Go.Shelf

attribute [local go_sem] Oper.semAt_some
/-- The reference's Find, at every later world. -/
def FindsR (w:World)(v:Value)(r:List PStep):Prop:=∀(W:World) (n p:ByteArray),Below w.heap.size w W→Calls Tryz.prog 8 #[.agg #[v],.string n,.string p] W fun e w'=>e=.returned (.tuple #[.string (findB r n p).1,.bool (findB r n p).2])∧Below W.heap.size W w'
theorem finds_r {w:World}{A:Option Addr}{c:Nat}{r:List PStep}{vs:List Value}(h:StepsR w (.slice A r.length c) r vs)(hc:(checkB r).1=0):FindsR w (.slice A r.length c) r:=fun W n p hb=>by
 have h1:=checkB_ok hc
 exact ffind_any A c r vs W (h.more hb) h1.2.1 (fun b hb=>(h1.2.2 b hb).2.1) (by omega) (fun b hb=>by have:=((right_in hc).2 b hb).2.2;omega) n p
set_option maxRecDepth 100000 in
set_option maxHeartbeats 8000000 in
theorem values_any {w:World}{g:Nat}{r:List PStep}(h:LoadedAt w g r){v:Value}(hs:FindsR w v r)(n p:ByteArray)(hp:p.size≤140737488355328) :
  Calls Tryz.prog 10 #[.pointer (some ⟨g,0,none⟩),.agg #[v],.string n,.string p] w fun e w'=>e=.returned (.bool true)∧Below w.heap.size w w':=by
 have HL:=Lib.hid h
 have HFS:=Lib.hid hs
 obtain ⟨W0,hW0⟩:∃ W0,w.alloc (.cells #[v] 24)=W0:=⟨_,rfl⟩
 have hb0:Below w.heap.size w W0:=by rw [←hW0];exact (Below.refl _ w).alloc (Nat.le_refl _) _
 have HB0:=Lib.hid hb0
 have HG0:=Lib.hid (show Blk W0 w.heap.size 24 #[v] from by rw [←hW0];exact Blk.new w _ _)
 have HLV:=Lib.hid (lvalue_any (h.on hb0) n p hp)
 clear h hs hb0
 by_cases hn:n=ByteArray.empty
 ·have HV:=Lib.hid (show valB r n p=findB r n p from by unfold valB;rw [if_pos hn])
  have he:(n.toList == [])=true:=by rw [hn];simp
  obtain ⟨fx,hfx⟩:∃ fx,findB r n p=fx:=⟨_,rfl⟩
  have HFX:=Lib.hid hfx
  rw [HV.out,hfx] at HLV
  obtain ⟨ft,fo⟩:=fx
  simp only at HLV
  have hff:(ft.toList == ft.toList)=true:=by simp
  have hoo:(fo == fo)=true:=by simp
  clear hn hfx HV
  go_enter Tryz.func10,Tryz.ntmps10
  go_wp2_with fail
  (try rw [hW0])
  clear hW0
  refine HLV.out.mono ?_
  rintro en w1 ⟨rfl,hb1⟩
  have HB1:=Lib.hid (HB0.out.trans (hb1.mono HB0.out.size))
  have y0:w1.cell? ⟨w.heap.size,0,none⟩=some v:=(HG0.out.below hb1 HG0.out.lt).cell 0
  have HF1:=Lib.hid (HFS.out w1 n p HB1.out)
  rw [HFX.out] at HF1
  simp only at HF1
  clear hb1 HLV HB0 HG0
  go_wp2_with fail
  refine HF1.out.mono ?_
  rintro en w2 ⟨rfl,hb2⟩
  have HB2:=Lib.hid (HB1.out.trans (hb2.mono HB1.out.size))
  clear hb2 y0 HB1
  go_wp2
  (try simp only [Exit.noGoto_ret])
  go_ret
  exact ⟨by simp,HB2.out⟩
 ·have HV:=Lib.hid (show valB r n p=firstB r n (sideM p) from by unfold valB;rw [if_neg hn])
  have he:(n.toList == [])=false:=by
   rw [show ([]:List UInt8)=ByteArray.empty.toList from by kernel_rfl,ba_beq]
   simpa using hn
  have HSF:=Lib.hid (sideM_few p)
  obtain ⟨qs,hqs⟩:∃ qs,sideM p=qs:=⟨_,rfl⟩
  have HQS:=Lib.hid hqs
  rw [hqs] at HV HSF
  obtain ⟨fx,hfx⟩:∃ fx,firstB r n qs=fx:=⟨_,rfl⟩
  have HFX:=Lib.hid hfx
  rw [HV.out,hfx] at HLV
  obtain ⟨vt,vo⟩:=fx
  simp only at HLV
  clear hn hfx HV hqs
  go_enter Tryz.func10,Tryz.ntmps10
  go_wp2_with fail
  (try rw [hW0])
  clear hW0
  refine HLV.out.mono ?_
  rintro en w1 ⟨rfl,hb1⟩
  have HB1:=Lib.hid (HB0.out.trans (hb1.mono HB0.out.size))
  have HG1:=Lib.hid (HG0.out.below hb1 HG0.out.lt)
  have HSD:=Lib.hid (sideways_any p w1 hp)
  clear hb1 HLV HB0 HG0
  go_wp2_with fail
  (try go_step3)
  (try go_wp2_with fail)
  refine HSD.out.mono ?_
  rintro en w2 ⟨⟨A,c,rfl,ho⟩,hb2⟩
  rw [HQS.out] at ho ⊢
  obtain ⟨nq,hnq⟩:∃ nq,qs.length=nq:=⟨_,rfl⟩
  rw [hnq] at ho ⊢
  have HO:=Lib.hid ho
  have HB2:=Lib.hid (HB1.out.trans (hb2.mono HB1.out.size))
  have HG2:=Lib.hid (HG1.out.below hb2 HG1.out.lt)
  have HNQ:=Lib.hid hnq
  have hq4:(nq:Int)≤4:=by have:=HSF.out.1;omega
  clear ho hb2 hnq HB1 HG1 HSD
  go_wp2
  go_loopw [44] (fun iv W=>∃ j:Nat,iv=.int .i64 (j:Int)∧j≤nq∧firstB r n (qs.drop j)=(vt,vo)∧Below w2.heap.size w2 W) (fun iv _=>nq-(Lib.intOf iv).toNat)
  case atStart=>exact ⟨0,rfl,Nat.zero_le _,HFX.out,Below.refl _ _⟩
  case round =>
   obtain ⟨j,rfl,hj,hf,hb⟩:=hrel
   have HF:=Lib.hid hf
   have HBW:=Lib.hid hb
   clear hf hb
   by_cases hlt:j<nq
   ·have hq1:(j:Int)<(nq:Int):=by omega
    have hq0:(0:Int)≤(j:Int):=by omega
    obtain ⟨q,hq⟩:∃ q,qs[j]?=some q:=⟨_,List.getElem?_eq_getElem (by rw [HNQ.out];exact hlt)⟩
    obtain ⟨bq,rfl,hbq1,hbq2⟩:=own_spot HO.out (show 0<nq by omega)
    have z0:wr.cell? ⟨bq,j,none⟩=some (.string q):=(HBW.out.cell (p:=⟨bq,j,none⟩) hbq2).trans (own_cell HO.out j _ (by unfold strsV;rw [List.getElem?_map,hq];rfl))
    have z1:wr.cell? ⟨w.heap.size,0,none⟩=some v:=(HG2.out.below HBW.out HG2.out.lt).cell 0
    have HD:=Lib.hid (HFS.out wr n q (HB2.out.trans (HBW.out.mono HB2.out.size)))
    have HFD:=Lib.hid (firstB_drop (r:=r) (n:=n) hq)
    obtain ⟨fx,hfx⟩:∃ fx,findB r n q=fx:=⟨_,rfl⟩
    have HFX2:=Lib.hid hfx
    rw [hfx] at HFD
    rw [hfx] at HD
    obtain ⟨ft,fo⟩:=fx
    simp only at HD HFD
    clear hq hfx
    go_upto_region 8 with (fail)
    go_wp2_with fail
    refine HD.out.mono ?_
    rintro en w3 ⟨rfl,hb⟩
    have HB3:=Lib.hid (HBW.out.trans (hb.mono HBW.out.size))
    clear hb z0 z1
    cases fo with
    | true =>
     have h1:=HFD.out
     rw [if_pos rfl,HF.out] at h1
     cases h1
     have hff:(vt.toList == vt.toList)=true:=by simp
     go_wp2
     (try simp only [Exit.noGoto_ret])
     go_ret
     exact ⟨rfl,HB2.out.trans (HB3.out.mono HB2.out.size)⟩
    | false =>
     have h1:=HFD.out
     rw [if_neg (by simp),HF.out] at h1
     have HF2:=Lib.hid h1.symm
     clear h1
     go_wp2
     go_roundw
     case rel=>exact ⟨j+1,by go_num,hlt,HF2.out,HB3.out⟩
     case measure=>simp [Lib.intOf] <;> omega
   ·obtain rfl:nq=j:=by omega
    have hq:¬ (nq:Int)<(nq:Int):=by omega
    have h1:=HF.out
    rw [List.drop_of_length_le (by rw [HNQ.out];exact Nat.le_refl _)] at h1
    cases h1
    go_wp2
    (try simp only [Exit.noGoto_ret])
    go_ret
    exact ⟨rfl,HB2.out.trans (HBW.out.mono HB2.out.size)⟩
end
section
open Go.RowKit Go.Shelf

attribute [local go_sem] Oper.semAt_some
set_option maxRecDepth 100000 in
set_option maxHeartbeats 8000000 in
theorem lall_same {w:World}{g:Nat}{r:List PStep}(h:LoadedAt w g r)(bn:ByteArray)(V:List PKey)(Av:Option Addr)(cv nv:Nat)(hnv:V.length=nv)(hR:Reads w w.heap.size 2 Av nv (pairCells V))(hal:allL r bn=V)(hlen:nv≤16384) :
  Calls Tryz.prog 13 #[.pointer (some ⟨g,0,none⟩),.agg #[.string bn,.slice Av nv cv]] w fun e w'=>e=.returned (.bool true)∧Below w.heap.size w w':=by
 have hc:=h.ld.right
 have hr5:=(checkB_ok hc).1
 have hvl:=check_few hc
 obtain ⟨W0,hW0⟩:∃ W0,((w.alloc (.cells #[.string bn,.slice Av nv cv] 41)).alloc (.cells #[.bool false] 4)).alloc (.cells #[.int .i64 0] 3)=W0:=⟨_,rfl⟩
 have hb0:Below w.heap.size w W0:=by rw [←hW0];exact (((Below.refl _ w).alloc (Nat.le_refl _) _).alloc (by simp) _).alloc (by simp;omega) _
 have hz0:W0.heap.size=w.heap.size+1+1+1:=by rw [←hW0];simp
 have g0:Blk W0 w.heap.size 41 #[.string bn,.slice Av nv cv]:=by
  rw [←hW0]
  exact (Blk.new w _ _).below (((Below.refl _ _).alloc (Nat.le_refl _) _).alloc (by simp) _) (by simp)
 have g1:Boxed W0 (w.heap.size+1) 4 (.bool false):=by
  have:=(Boxed.new (w.alloc (.cells #[.string bn,.slice Av nv cv] 41)) 4 (.bool false)).alloc (.cells #[.int .i64 0] 3)
  rw [World.size_alloc] at this
  rw [←hW0]
  exact this
 have g2:Boxed W0 (w.heap.size+1+1) 3 (.int .i64 0):=by
  have:=Boxed.new ((w.alloc (.cells #[.string bn,.slice Av nv cv] 41)).alloc (.cells #[.bool false] 4)) 3 (.int .i64 0)
  rw [World.size_alloc,World.size_alloc] at this
  rw [←hW0]
  exact this
 have y0:(((w.alloc (.cells #[.string bn,.slice Av nv cv] 41)).alloc (.cells #[.bool false] 4)).alloc (.cells #[.int .i64 0] 3)).cell? ⟨w.heap.size,0,none⟩=some (.string bn):=by
  rw [hW0]
  exact g0.cell 0
 have HW0:=Lib.hid hW0
 clear hW0
 have HA0:=Lib.hid (show Below w.heap.size w W0∧W0.heap.size=w.heap.size+1+1+1∧Blk W0 w.heap.size 41 #[.string bn,.slice Av nv cv]∧Boxed W0 (w.heap.size+1) 4 (.bool false)∧Boxed W0 (w.heap.size+1+1) 3 (.int .i64 0) from ⟨hb0,hz0,g0,g1,g2⟩)
 have HL:=Lib.hid h
 have HRD:=Lib.hid hR
 have HAL:=Lib.hid hal
 have HVV:=Lib.hid hvl
 have HNV:=Lib.hid hnv
 clear h hR hal hvl hnv hb0 hz0 g0 g1 g2
 refine (callsIn_wide (n:=9)).1 ?_
 refine callsIn_of_wp_marks Tryz.func13 rfl trivial ?_ rfl
 simp only [Tryz.ntmps13,List.size_toArray,List.length_cons,List.length_nil,Nat.reduceAdd,Nat.reduceSub,Array.replicate_succ,Array.replicate_zero,List.push_toArray,List.append_toArray,List.nil_append,List.cons_append]
 gi_wp2_with fail
 rw [HW0.out]
 refine ⟨trivial,?_⟩
 clear HW0 y0
 refine (callsIn_wide.2 (lall_any (some ⟨g,0,none⟩) bn W0)).mono ?_
 rintro e w4 ⟨rfl,hw4⟩
 have hb4:Below W0.heap.size W0 w4:=by rw [hw4];exact ((Below.refl _ W0).alloc (Nat.le_refl _) _).alloc (by simp) _
 have bA:w4.cell? ⟨W0.heap.size,0,none⟩=some (.pointer (some ⟨g,0,none⟩)):=by
  rw [hw4]
  exact ((Boxed.new W0 29 (.pointer (some ⟨g,0,none⟩))).alloc _).cell
 have bN:Blk w4 (W0.heap.size+1) 9 #[.string bn]:=by
  have:=Blk.new (W0.alloc (.cells #[.pointer (some ⟨g,0,none⟩)] 29)) 9 #[.string bn]
  rw [World.size_alloc] at this
  rw [hw4]
  exact this
 have hz4:W0.heap.size+2=w4.heap.size:=by rw [hw4];simp
 obtain ⟨ha1,ha2,ha3,ha4,ha5⟩:=HA0.out
 have hbw:Below w.heap.size w w4:=ha1.trans (hb4.mono ha1.size)
 obtain ⟨r0,hr0⟩:∃ r0,w.heap.size=r0:=⟨_,rfl⟩
 obtain ⟨r3,hr3⟩:∃ r3,W0.heap.size=r3:=⟨_,rfl⟩
 have HW4:=Lib.hid (show Below r0 w w4∧r0+1+1+1=r3∧r3+2=w4.heap.size∧Blk w4 r0 41 #[.string bn,.slice Av nv cv]∧Boxed w4 (r0+1) 4 (.bool false)∧Boxed w4 (r0+1+1) 3 (.int .i64 0)∧Reads w4 r0 2 Av nv (pairCells V) from by
  subst hr0 hr3
  exact ⟨hbw,ha2.symm,hz4,ha3.below hb4 (by omega),(hb4.block _ (by omega)).trans ha4,(hb4.block _ (by omega)).trans ha5,HRD.out.below hbw⟩)
 have HST:=Lib.hid (all1_stops 8 (by decide) W0.heap.size (W0.heap.size+1) W0.heap.size (some ⟨g,0,none⟩) bn r w4 bA bN (by omega) (by omega) (fun W hW=>lbundle_any (HL.out.on (hbw.trans (hW.mono hbw.size)))) hr5 HVV.out)
 rw [HAL.out] at HST
 rw [hr3] at HST ⊢
 rw [hr0] at ⊢
 clear hw4 hb4 bA bN hz4 ha1 ha2 ha3 ha4 ha5 hbw hr3 HA0 HL HRD HAL HVV hc
 have hlen2:(nv:Int)≤16384:=by omega
 gi_wp2_with fail
 refine wpIn_rangeFunc_ownH rfl (by decide) (gf:=39) (lb:=#[.pointer (some ⟨r3,0,none⟩),.pointer (some ⟨r3+1,0,none⟩)]) rfl trivial (enters_of Tryz.func39 (by kernel_rfl) rfl)
  HST.out cellsFrom_t (fun W l o o' _ h hc _=>cellsFrom_b W l o o' h hc) (Below.refl _ _) (fun _=>rfl)
  (fun pre W=>Boxed W (r0+1+1) 3 (.int .i64 ((pre.length:Nat):Int))∧Only (r0+1+1) w4 W)
  (fun cd pre W=>¬ Asc V.length pre)
  (OwnFrom.and (Own.from (boxed_own _ _ _) _) ownFrom_only)
  (fun cd=>ownFrom_pure _ _)
  ⟨HW4.out.2.2.2.2.2.1,Only.refl _ _⟩
  (fun i a' W=>a'={ tmps:=#[.pointer (some ⟨g,0,none⟩),.agg #[.string bn,.slice Av nv cv],undef,.pointer (some ⟨r0,0,none⟩),.pointer (some ⟨r0+1,0,none⟩),.pointer (some ⟨r0+1+1,0,none⟩),.string (V.get i).1,.string (V.get i).2,.pointer (some ⟨g,0,none⟩),.pointer (some ⟨r0,0,none⟩),.string bn,.func (.func 39) #[] #[.pointer (some ⟨r3,0,none⟩),.pointer (some ⟨r3+1,0,none⟩)],.string (V.get i).1,.string (V.get i).2,undef,undef,undef,undef,undef,undef,undef,undef,undef,undef,undef,undef,undef,undef,undef,undef,undef,undef,undef,undef,undef,undef,undef],defers:=[] })
  (fun i a'=>ownFrom_pure _ _)
  ?assign ?body ?done ?stop
 case assign =>
  rintro lp pre i W K hI hK
  have HI:=Lib.hid hI
  clear hI
  simp only [nvEnc]
  gi_wp2
  exact hK _ _ (KeepsFrom.refl _ _) (cellsFrom_refl _ _) HI.out rfl
 case stop =>
  rintro D cd pre W hD hDs hn hK
  exact absurd hDs.1 hn
 case body =>
  rintro lp pre i a' W hl ⟨rr,hr⟩ ⟨bk,hO⟩ rfl hlt
  have hbw:Below (r0+1+1) w4 W:=hO.below (Nat.le_refl _) (by have:=HW4.out;omega)
  have f1:W.cell? ⟨r0+1+1,0,none⟩=some (.int .i64 ((pre.length:Nat):Int)):=bk.cell
  have f2:W.frozen? ⟨r0+1+1,0,none⟩=false:=bk.frozen
  have f3:W.cell? ⟨r0,1,none⟩=some (.slice Av nv cv):=(hbw.cell (p:=⟨r0,1,none⟩) (by show r0<r0+1+1;omega)).trans (HW4.out.2.2.2.1.cell 1)
  have f4:W.cell? ⟨r0+1,0,none⟩=some (.bool false):=(hbw.cell (p:=⟨r0+1,0,none⟩) (by show r0+1<r0+1+1;omega)).trans HW4.out.2.2.2.2.1.cell
  have f5:W.frozen? ⟨r0+1,0,none⟩=false:=(hbw.frozen (p:=⟨r0+1,0,none⟩) (by show r0+1<r0+1+1;omega)).trans HW4.out.2.2.2.2.1.frozen
  have HK:=Lib.hid (And.intro bk hO)
  have hlt2:pre.length<nv:=by rw [←HNV.out];exact hlt
  have hq1:(pre.length:Int)<(nv:Int):=by omega
  have hq0:(0:Int)≤(pre.length:Int):=by omega
  have hq2:(pre.length:Int)≤16384:=by omega
  obtain ⟨x,hx⟩:∃ x,V[pre.length]?=some x:=⟨_,List.getElem?_eq_getElem hlt⟩
  obtain ⟨bv,ov,rfl,hbv,hcv⟩:=HW4.out.2.2.2.2.2.2.spot (by omega) (by omega)
  have hpc:=pairCells_at V pre.length x hx
  have hbv2:bv<r0+1+1:=by omega
  have z2:W.cell? ⟨bv,ov+pre.length*2,none⟩=some (.string x.1):=(hbw.cell (p:=⟨bv,ov+pre.length*2,none⟩) hbv2).trans (hcv _ _ hpc.1)
  have z3:W.cell? ⟨bv,ov+pre.length*2+1,none⟩=some (.string x.2):=(hbw.cell (p:=⟨bv,ov+pre.length*2+1,none⟩) hbv2).trans (hcv _ _ hpc.2)
  have HX:=Lib.hid hx
  have HZ:=Lib.hid (show r0+1+1<r3∧r3≤w4.heap.size from by have:=HW4.out;omega)
  obtain ⟨np,hnp⟩:∃ np,pre.length=np:=⟨_,rfl⟩
  have HNP:=Lib.hid hnp
  rw [hnp] at f1 hq1 hq0 hq2 z2 z3
  have hw1:IntKind.i64.wrap ((np:Int)+1)=(np:Int)+1:=by rw [IntKind.wrap_i64];omega
  have HGI:=Lib.hid (show ∀ y,y=V.get i→V[i.val]?=some y from fun y e=>by rw [e];simp)
  generalize hvi:V.get i=vi at *
  have HVI:=Lib.hid (HGI.out vi rfl)
  clear hx hbv hcv hpc hbw bk hO hr hl hlt hlt2 hnp hvi
  obtain ⟨xp,hxp⟩:∃ xp,x.1=xp:=⟨_,rfl⟩
  obtain ⟨xt,hxt⟩:∃ xt,x.2=xt:=⟨_,rfl⟩
  obtain ⟨ip,hip⟩:∃ ip,vi.1=ip:=⟨_,rfl⟩
  obtain ⟨it,hit⟩:∃ it,vi.2=it:=⟨_,rfl⟩
  rw [hxp] at z2
  rw [hxt] at z3
  rw [hip,hit]
  by_cases he:x=vi
  ·have e1:(xp.toList == ip.toList)=true:=by rw [←hxp,←hip,he];simp
   have e2:(xt.toList == it.toList)=true:=by rw [←hxt,←hit,he];simp
   clear he hxp hxt hip hit
   gi_wp2
   refine ⟨(KeepsOthers.setCell _ _ _).from _,cellsFrom_set HZ.out.1 _,?_,HK.out.2.setCell (.inl rfl) _⟩
   have:=HK.out.1.set (.int .i64 ((np:Int)+1))
   simpa [HNP.out] using this
  ·have HNA:=Lib.hid (show ¬ Asc V.length (pre++[i]) from fun ha=>by
    have h1:i.val=pre.length:=ha pre.length i (by simp)
    have h2:=HVI.out
    rw [h1,HX.out] at h2
    exact he (Option.some.inj h2))
   by_cases h1:xp=ip
   ·have e1:(xp.toList == ip.toList)=true:=by rw [h1];simp
    have e2:(xt.toList == it.toList)=false:=by
     rw [ba_beq]
     have:xt≠it:=fun h2=>he (Prod.ext (by rw [hxp,hip];exact h1) (by rw [hxt,hit];exact h2))
     simpa using this
    clear he hxp hxt hip hit h1
    gi_wp2
    exact ⟨(KeepsOthers.setCell _ _ _).from _,HNA.out⟩
   ·have e1:(xp.toList == ip.toList)=false:=by rw [ba_beq];simpa using h1
    clear he hxp hxt hip hit h1
    gi_wp2
    exact ⟨(KeepsOthers.setCell _ _ _).from _,HNA.out⟩
 case done =>
  rintro D xs W hD ⟨hDs,hl2⟩ ⟨bk,hO⟩ hK
  have hbw:Below (r0+1+1) w4 W:=hO.below (Nat.le_refl _) (by have:=HW4.out;omega)
  have hN:xs.length=nv:=hl2.trans HNV.out
  rw [hN] at bk
  have f1:W.cell? ⟨r0+1+1,0,none⟩=some (.int .i64 ((nv:Nat):Int)):=bk.cell
  have f3:W.cell? ⟨r0,1,none⟩=some (.slice Av nv cv):=(hbw.cell (p:=⟨r0,1,none⟩) (by show r0<r0+1+1;omega)).trans (HW4.out.2.2.2.1.cell 1)
  have HBR:=Lib.hid (show Boxed W (r0+1) 4 (.bool false) from (hbw.block _ (by omega)).trans HW4.out.2.2.2.2.1)
  have f4:=HBR.out.cell
  have f5:=HBR.out.frozen
  have HBW:=Lib.hid (show Below r0 w W from HW4.out.1.trans (hbw.mono (by omega) |>.mono (Nat.le_refl _)))
  have HK:=Lib.hid hK
  have HD:=Lib.hid (show r0+1+1<D from by have:=HW4.out;omega)
  clear bk hO hbw hN hl2 hDs hD hK
  gi_wp2
  have hK1:=(KeepsOthers.setCell W ⟨r0+1,0,none⟩ (.bool true)).same D _ HK.out rfl
  refine ⟨by simp,.inl ⟨_,_,rfl,run_takeDeferred hK1,?_⟩⟩
  have hc6:=cell_kept (HBR.out.set (.bool true)).cell (grownBy_putObj' _ D (.deferred none)) (fun r e=>by cases e;exact ⟨_,hK1,rfl⟩)
  refine ⟨.bool true,?_,rfl,?_⟩
  ·simp [results,Tryz.f13,go_sem,hc6]
  ·rw [hr0]
   exact (HBW.out.setCell (p:=⟨r0+1,0,none⟩) (by show r0≤r0+1;omega) _).trans (belowK_b (w:=w) (by omega) _ D _ _ (by have:=HD.out;omega) hK1 rfl rfl)
end
section
open Go.Shelf
def splitL_ren : Go.Shelf.Ren := ⟨fun | 146 => 38 | 221 => 64 | 268 => 86 | 138 => 87 | 143 => 88 | 195 => 127 | 197 => 128 | 218 => 129 | 219 => 130 | 260 => 160 | 217 => 161 | 225 => 162 | 224 => 163 | 267 => 164 | 266 => 182 | 314 => 183 | n => n, fun | 9 => 9 | 31 => 37 | 3 => 3 | 4 => 4 | 0 => 0 | 105 => 207 | 21 => 21 | 5 => 5 | 46 => 99 | 119 => 250 | 139 => 253 | 138 => 252 | 146 => 254 | 51 => 59 | n => n, fun | 1 => 0 | 3 => 1 | 4 => 2 | n => n⟩
theorem splitL : Go.Proofs.Lays.n146 Tryz.prog splitL_ren := {
  mixed := by kernel_rfl
  f138 := Tryz.func87.trans (congrArg some (by kernel_rfl))
  f143 := Tryz.func88.trans (congrArg some (by kernel_rfl))
  f146 := Tryz.func38.trans (congrArg some (by kernel_rfl))
  f195 := Tryz.func127.trans (congrArg some (by kernel_rfl))
  f197 := Tryz.func128.trans (congrArg some (by kernel_rfl))
  f217 := Tryz.func161.trans (congrArg some (by kernel_rfl))
  f218 := Tryz.func129.trans (congrArg some (by kernel_rfl))
  f219 := Tryz.func130.trans (congrArg some (by kernel_rfl))
  f221 := Tryz.func64.trans (congrArg some (by kernel_rfl))
  f224 := Tryz.func163.trans (congrArg some (by kernel_rfl))
  f225 := Tryz.func162.trans (congrArg some (by kernel_rfl))
  f260 := Tryz.func160.trans (congrArg some (by kernel_rfl))
  f266 := Tryz.func182.trans (congrArg some (by kernel_rfl))
  f267 := Tryz.func164.trans (congrArg some (by kernel_rfl))
  f268 := Tryz.func86.trans (congrArg some (by kernel_rfl))
  f314 := Tryz.func183.trans (congrArg some (by kernel_rfl))
  t0 := Tryz.underlying0
  a0 := Tryz.isAgg0
  z0 := Tryz.sizeOf0
  v0 := Tryz.zeroValue0
  t3 := Tryz.underlying3
  a3 := Tryz.isAgg3
  z3 := Tryz.sizeOf3
  v3 := Tryz.zeroValue3
  t4 := Tryz.underlying4
  a4 := Tryz.isAgg4
  z4 := Tryz.sizeOf4
  v4 := Tryz.zeroValue4
  t5 := Tryz.underlying5
  a5 := Tryz.isAgg5
  z5 := Tryz.sizeOf5
  v5 := Tryz.zeroValue5
  t9 := Tryz.underlying9
  a9 := Tryz.isAgg9
  z9 := Tryz.sizeOf9
  v9 := Tryz.zeroValue9
  t21 := Tryz.underlying21
  a21 := Tryz.isAgg21
  z21 := Tryz.sizeOf21
  v21 := Tryz.zeroValue21
  t31 := Tryz.underlying37
  a31 := Tryz.isAgg37
  z31 := Tryz.sizeOf37
  v31 := Tryz.zeroValue37
  t46 := Tryz.underlying99
  a46 := Tryz.isAgg99
  z46 := Tryz.sizeOf99
  v46 := Tryz.zeroValue99
  t51 := Tryz.underlying59
  a51 := Tryz.isAgg59
  z51 := Tryz.sizeOf59
  v51 := Tryz.zeroValue59
  t105 := Tryz.underlying207
  a105 := Tryz.isAgg207
  z105 := Tryz.sizeOf207
  v105 := Tryz.zeroValue207
  t119 := Tryz.underlying250
  a119 := Tryz.isAgg250
  z119 := Tryz.sizeOf250
  t138 := Tryz.underlying252
  a138 := Tryz.isAgg252
  z138 := Tryz.sizeOf252
  v138 := Tryz.zeroValue252
  t139 := Tryz.underlying253
  a139 := Tryz.isAgg253
  z139 := Tryz.sizeOf253
  v139 := Tryz.zeroValue253
  t146 := Tryz.underlying254
  a146 := Tryz.isAgg254
  z146 := Tryz.sizeOf254
  v146 := Tryz.zeroValue254
  g1 := by kernel_rfl
  g3 := by kernel_rfl
  g4 := by kernel_rfl }
end
section
open Go.RowKit Go.Shelf

attribute [local go_sem] Oper.semAt_some
/-- Halving a number of fewer than m bits takes at most m + 1 steps. -/
theorem halving_any (n:Nat)(hn:n<4611686018427387904)(w:World):Calls Tryz.prog 37 #[.int .i64 (n:Int)] w fun e w'=>(∃ k:Nat,e=.returned (.int .i64 (k:Int))∧1≤k∧∀ m,n<2^m→k≤m+1)∧w'=w:=by
 have hn1:(n:Int)<4611686018427387904:=by omega
 go_enter Tryz.func37,Tryz.ntmps37
 go_wp2
 go_loopw [0,3] (fun av kv W=>∃ a j:Nat,av=.int .i64 (a:Int)∧kv=.int .i64 ((j:Int)+1)∧a≤n∧2^j*a≤n∧(j=0∨2^(j-1)≤n)∧j≤62∧W=w) (fun av _ _=>(Lib.intOf av).toNat)
 case atStart=>exact ⟨n,0,rfl,rfl,Nat.le_refl _,by omega,.inl rfl,by omega,rfl⟩
 case round =>
  obtain ⟨a,j,rfl,rfl,ha,hm,hj,hj2,rfl⟩:=hrel
  have HM:=Lib.hid (And.intro hm hj)
  clear hm hj
  have ha1:(a:Int)≤(n:Int):=by omega
  by_cases h0:0<a
  ·have hq:(0:Int)<(a:Int):=by omega
   have hp:2^j≤n:=Nat.le_trans (by have:=Nat.mul_le_mul_left (2^j) h0;simpa using this) HM.out.1
   have hj3:j<62:=by
    have h1:2^j<2^62:=Nat.lt_of_le_of_lt hp (by simpa using hn)
    exact (Nat.pow_lt_pow_iff_right (by decide)).1 h1
   have HN2:=Lib.hid (show 2^(j+1)*(a/2)≤n from Nat.le_trans (by
    rw [Nat.pow_succ,Nat.mul_assoc]
    exact Nat.mul_le_mul_left _ (Nat.mul_div_le a 2)) HM.out.1)
   have HP:=Lib.hid hp
   clear hp
   have ht:Int.tdiv (a:Int) 2=((a/2:Nat):Int):=by
    rw [Int.tdiv_eq_ediv_of_nonneg (by omega)]
    omega
   go_wp2
   go_roundw
   case rel=>exact ⟨a/2,j+1,by go_num,by go_num,by omega,HN2.out,.inr (by rw [Nat.add_sub_cancel];exact HP.out),by omega,trivial⟩
   case measure=>simp [Lib.intOf] <;> omega
  ·have hq:¬ (0:Int)<(a:Int):=by omega
   go_wp2
   go_ret
   exact ⟨⟨j+1,by go_num,by omega,fun m hm=>by
    rcases HM.out.2 with h | h
    ·omega
    ·have h1:2^(j-1)<2^m:=Nat.lt_of_le_of_lt h hm
     have h2:=(Nat.pow_lt_pow_iff_right (a:=2) (by decide)).1 h1
     omega⟩,rfl⟩
def slashS:ByteArray:=⟨#[47]⟩
theorem gensplit_any (p:ByteArray)(w:World)(hp:p.size≤1048576):Calls Tryz.prog 64 #[.string p,.string slashS,.int .i64 0,.int .i64 (-1)] w fun e w' =>
  (∃ n:Nat,e=.returned (.slice (some ⟨w.heap.size,0,none⟩) n n)∧n≤p.size+1)∧Below w.heap.size w w':=by
 have h1:1≤slashS.size:=by decide
 have hle:=Lib.countB_le slashS h1 p.size p (Nat.le_refl _)
 have hlen:=Lib.splitB_all slashS h1 0 _ p rfl
 have c:=Any.strings_genSplit_core { splitL with } (by kernel_rfl) p slashS 0 (-1) (Lib.countB p slashS+1) w (by omega) h1 (Nat.zero_le _)
  (fun x c hx=>by
   have h:=Any.strings_Index_one { splitL with } x 47 (w.alloc (.cells c 9))
   rw [←Lib.index_one] at h
   exact h)
  (by
   have h:=Any.strings_Count_one { splitL with } p 47 w
   have e:Lib.countByte p.data.toList 47=Lib.countB p slashS:=(Lib.count_one 47 p.data.toList).symm
   rw [e] at h
   exact h) (by decide) (by decide) (by rw [if_pos (by decide)];omega)
 rw [Nat.add_sub_cancel,hlen] at c
 refine c.mono ?_
 rintro e w' ⟨rfl,rfl⟩
 exact ⟨⟨_,rfl,by omega⟩,(Below.refl _ w).alloc (Nat.le_refl _) _⟩
theorem split_any (p:ByteArray)(w:World)(hp:p.size≤1048576):Calls Tryz.prog 38 #[.string p,.string slashS] w fun e w' =>
  (∃ n:Nat,e=.returned (.slice (some ⟨w.heap.size,0,none⟩) n n)∧n≤p.size+1)∧Below w.heap.size w w':=by
 have c:=Lib.hid (gensplit_any p w hp)
 go_enter Tryz.func38,Tryz.ntmps38
 go_wp2_with fail
 refine c.out.mono ?_
 rintro e w1 ⟨⟨n,rfl,hn⟩,hb⟩
 have HB:=Lib.hid (And.intro hn hb)
 clear hn hb
 go_wp2
 go_ret
 exact ⟨⟨n,rfl,HB.out.1⟩,HB.out.2⟩
theorem nrows_le {i:IdxM}{gs:List RowI}{q:Nat}{x:RowI}(h:gs[q]?=some x)(hs:rowSum i gs≤16384):nrowsM i x.2.toNat≤16384:=by
 have h1:=rowSum_next (i:=i) h
 have h2:=rowSum_le i gs (q+1)
 omega
set_option maxRecDepth 100000 in
set_option maxHeartbeats 8000000 in
theorem probes_any {w:World}{g:Nat}{r:List PStep}(h:LoadedAt w g r)(n p:ByteArray)(hp:p.size≤1048576) :
  Calls Tryz.prog 14 #[.pointer (some ⟨g,0,none⟩),.string n,.string p] w fun e w'=>(∃ k:Nat,e=.returned (.int .i64 (k:Int))∧1≤k∧k≤120)∧Below w.heap.size w w':=by
 have hL:=h.ld
 generalize bodyB r=l at hL
 generalize idxM l=i at hL
 have HL:=Lib.hid hL
 have HNB:=Lib.hid hL.nb
 obtain ⟨Ak,ck,hK0,hKB⟩:=hL.at_.bks
 have HK0:=Lib.hid hK0
 have k0:=hK0 w (Below.refl _ _)
 have HKB:=Lib.hid hKB
 have hlen:=hL.len
 obtain ⟨nr,hnr⟩:∃ nr,i.books.length=nr:=⟨_,rfl⟩
 have HSP:=Lib.hid (fun W=>split_any p W hp)
 rw [hnr] at k0 HK0
 have HNR:=Lib.hid hnr
 have hnr1:(nr:Int)≤513:=by have:=HNB.out;omega
 clear hL h hK0 hKB hnr hlen
 go_enter Tryz.func14,Tryz.ntmps14
 go_wp2
 clear k0
 go_loopw [8,21] (fun mv iv W=>∃(j m:Nat),mv=.int .i64 (m:Int)∧iv=.int .i64 (j:Int)∧j≤nr∧m≤16384∧Below w.heap.size w W) (fun _ iv _=>nr-(Lib.intOf iv).toNat)
 case atStart=>exact ⟨0,0,rfl,rfl,Nat.zero_le _,Nat.zero_le _,Below.refl _ _⟩
 case round =>
  obtain ⟨j,m,rfl,rfl,hj,hm,hb⟩:=hrel
  have HB:=Lib.hid hb
  clear hb
  by_cases hlt:j<nr
  ·have hq1:(j:Int)<(nr:Int):=by omega
   have hq0:(0:Int)≤(j:Int):=by omega
   obtain ⟨⟨nm,gs⟩,hbk⟩:∃ k,i.books[j]?=some k:=⟨_,List.getElem?_eq_getElem (by rw [HNR.out];exact hlt)⟩
   obtain ⟨bk,ok,Ag,cg,rfl,hgc,hgm,hfar⟩:=HKB.out j _ hbk
   simp only at hgc hfar
   have HMD:=Lib.hid (show rowSum i gs≤16384 from (HL.out.ok.modest _ (List.mem_of_getElem? hbk)).1)
   have HGI:=Lib.hid (show ∀ g∈gs,∃ a b:Nat,g=((a:Int),(b:Int))∧a<i.texts.length∧b<i.tabs.length from (HL.out.ok.books _ (List.mem_of_getElem? hbk)).2)
   obtain ⟨z0,z1,-⟩:=hfar wr HB.out
   have hng9:gs.length≤16777216:=HL.out.bks _ (List.mem_of_getElem? hbk)
   obtain ⟨ng,hng⟩:∃ ng,gs.length=ng:=⟨_,rfl⟩
   rw [hng] at z1 hng9
   have HFR:=Lib.hid (show Reads wr w.heap.size 2 Ag ng (rowCells gs) from by have h2:=(hfar wr HB.out).2.2;rw [hng] at h2;exact h2)
   have HNG:=Lib.hid hng
   have hng1:(ng:Int)≤16777216:=by omega
   have hba:=(Below.refl wr.heap.size wr).alloc (Nat.le_refl _) (.cells #[.int .i64 (nm:Int),.slice Ag ng cg] 76)
   have HB1:=Lib.hid (HB.out.trans (hba.mono HB.out.size))
   have HFR1:=Lib.hid (HFR.out.below (hba.mono HB.out.size))
   have HGB:=Lib.hid (Blk.new wr 76 #[.int .i64 (nm:Int),.slice Ag ng cg])
   clear hbk hfar hba hng hgc hgm
   go_upto_region 8 with (fail)
   clear z0 z1 HB HFR
   generalize wr.alloc (.cells #[.int .i64 (nm:Int),.slice Ag ng cg] 76)=w1 at *
   obtain ⟨gb,hgb⟩:∃ gb,wr.heap.size=gb:=⟨_,rfl⟩
   rw [hgb] at HGB
   (try rw [hgb])
   clear hgb
   have y0:w1.cell? ⟨gb,1,none⟩=some (.slice Ag ng cg):=HGB.out.cell 1
   go_wp2
   clear y0
   go_loopw [8,28] (fun mv iv W=>∃(q m:Nat),mv=.int .i64 (m:Int)∧iv=.int .i64 (q:Int)∧q≤ng∧m≤16384∧Below w1.heap.size w1 W) (fun _ iv _=>ng-(Lib.intOf iv).toNat)
   case atStart=>exact ⟨0,m,rfl,rfl,Nat.zero_le _,hm,Below.refl _ _⟩
   case round =>
    obtain ⟨q,m2,rfl,rfl,hq,hm2,hb⟩:=hrel
    have HBW:=Lib.hid hb
    clear hb
    by_cases hql:q<ng
    ·have hr1:(q:Int)<(ng:Int):=by omega
     have hr0:(0:Int)≤(q:Int):=by omega
     obtain ⟨x,hx⟩:∃ x,gs[q]?=some x:=⟨_,List.getElem?_eq_getElem (by rw [HNG.out];exact hql)⟩
     obtain ⟨ta,tt,rfl,hta,htl⟩:=HGI.out x (List.mem_of_getElem? hx)
     obtain ⟨bg,og,rfl,hbg,hcl⟩:=HFR1.out.spot (by omega) (by omega)
     have hbg2:bg<w1.heap.size:=Nat.lt_of_lt_of_le hbg HB1.out.size
     have hrc:=rowCells_at hx
     have z0:wr.cell? ⟨bg,og+q*2,none⟩=some (.int .u32 (ta:Int)):=(HBW.out.cell (p:=⟨bg,og+q*2,none⟩) hbg2).trans (hcl _ _ hrc.1)
     have z1:wr.cell? ⟨bg,og+q*2+1,none⟩=some (.int .u32 (tt:Int)):=(HBW.out.cell (p:=⟨bg,og+q*2+1,none⟩) hbg2).trans (hcl _ _ hrc.2)
     have HNN0:=nrows_le hx HMD.out
     simp only [Int.toNat_natCast] at HNN0
     have htl9:tt≤16777216:=by have:=HL.out.tab;omega
     have htw:IntKind.i64.wrap (tt:Int)=(tt:Int):=by rw [IntKind.wrap_i64];omega
     have ht1:(tt:Int)≤16777216:=by omega
     have ht0:(0:Int)≤(tt:Int):=by omega
     have hba:=(Below.refl wr.heap.size wr).alloc (Nat.le_refl _) (.cells #[.int .u32 (ta:Int),.int .u32 (tt:Int)] 81)
     have HB2:=Lib.hid (HBW.out.trans (hba.mono HBW.out.size))
     have HGK:=Lib.hid (Blk.new wr 81 #[.int .u32 (ta:Int),.int .u32 (tt:Int)])
     have HTL:=Lib.hid htl
     clear hx hta htl hbg hbg2 hcl hrc hba
     go_upto_region 11 with (fail)
     clear z0 z1
     generalize wr.alloc (.cells #[.int .u32 (ta:Int),.int .u32 (tt:Int)] 81)=w2 at *
     obtain ⟨gk,hgk⟩:∃ gk,wr.heap.size=gk:=⟨_,rfl⟩
     rw [hgk] at HGK
     (try rw [hgk])
     clear hgk
     have y1:w2.cell? ⟨gk,1,none⟩=some (.int .u32 (tt:Int)):=HGK.out.cell 1
     have hd2:=(Below.refl w2.heap.size w2).drew
     have HD2:=Lib.hid hd2
     have HRX:=Lib.hid (rows_any (HL.out.at_.on (HB1.out.trans ((HB2.out.trans (hd2.mono HB2.out.size)).mono HB1.out.size))) HL.out.ok.toIdxIn HTL.out HL.out.few)
     obtain ⟨nn,hnn⟩:∃ nn,nrowsM i tt=nn:=⟨_,rfl⟩
     rw [hnn] at HRX HNN0
     have HNN:=Lib.hid HNN0
     have hnn1:(nn:Int)≤16384:=by omega
     have hm21:(m2:Int)≤16384:=by omega
     clear hd2 hnn HNN0
     refine wp_region_M (fun W=>W.cell? ⟨gk,1,none⟩=some (.int .u32 (tt:Int))) 10 (by kernel_rfl) (by go_keep) (fun hHeld=>?_)
     refine wpAnyM_take (i:=0) (d:=(some 32)) (v:=?_) rfl rfl (by kernel_rfl) (by kernel_rfl) (by kernel_rfl) (by kernel_rfl) (by kernel_rfl) (fun _ _ _ h=>h) (Or.inl ⟨by rfl,?_⟩) (by assumption) ?_
     rotate_left
     ·intro w hSw
      (try dsimp only at hSw)
      go_simp
      (try with_reducible rfl)
     (try simp only [Act.put,List.setIfInBounds_toArray,List.set_cons_zero,List.set_cons_succ])
     refine wpAnyM_take (i:=1) (d:=(some 33)) (v:=?_) rfl rfl (by kernel_rfl) (by kernel_rfl) (by kernel_rfl) (by kernel_rfl) (by kernel_rfl) (fun _ _ _ h=>h) (Or.inl ⟨by rfl,?_⟩) (by assumption) ?_
     rotate_left
     ·intro w hSw
      (try dsimp only at hSw)
      go_simp
      (try with_reducible rfl)
     (try simp only [Act.put,List.setIfInBounds_toArray,List.set_cons_zero,List.set_cons_succ])
     refine wpAnyM_take (i:=2) (d:=(some 34)) (v:=?_) rfl rfl (by kernel_rfl) (by kernel_rfl) (by kernel_rfl) (by kernel_rfl) (by kernel_rfl) (fun _ _ _ h=>h) (Or.inl ⟨by rfl,?_⟩) (by assumption) ?_
     rotate_left
     ·intro w hSw
      (try dsimp only at hSw)
      go_simp
      (try with_reducible rfl)
     (try simp only [Act.put,List.setIfInBounds_toArray,List.set_cons_zero,List.set_cons_succ])
     refine wpAnyM_take (i:=3) (d:=(some 35)) (v:=?_) rfl rfl (by kernel_rfl) (by kernel_rfl) (by kernel_rfl) (by kernel_rfl) (by kernel_rfl) (fun _ _ _ h=>h) (Or.inl ⟨by rfl,?_⟩) (by assumption) ?_
     rotate_left
     ·intro w hSw
      (try dsimp only at hSw)
      go_simp
      (try with_reducible rfl)
     (try simp only [Act.put,List.setIfInBounds_toArray,List.set_cons_zero,List.set_cons_succ])
     refine wpAnyM_take (i:=4) (d:=(some 36)) (v:=?_) rfl rfl (by kernel_rfl) (by kernel_rfl) (by kernel_rfl) (by kernel_rfl) (by kernel_rfl) (fun _ _ _ h=>h) (Or.inl ⟨by rfl,?_⟩) (by assumption) ?_
     rotate_left
     ·intro w hSw
      (try dsimp only at hSw)
      go_simp
      (try with_reducible rfl)
     (try simp only [Act.put,List.setIfInBounds_toArray,List.set_cons_zero,List.set_cons_succ])
     refine wpAnyM_take (i:=5) (d:=(some 37)) (v:=?_) rfl rfl (by kernel_rfl) (by kernel_rfl) (by kernel_rfl) (by kernel_rfl) (by kernel_rfl) (fun _ _ _ h=>h) (Or.inl ⟨by rfl,?_⟩) (by assumption) ?_
     rotate_left
     ·intro w hSw
      (try dsimp only at hSw)
      go_simp
      (try with_reducible rfl)
     (try simp only [Act.put,List.setIfInBounds_toArray,List.set_cons_zero,List.set_cons_succ])
     refine wpAnyM_one (i:=6) (by kernel_rfl) ?_
     refine owe_early (i:=6) (d:=(some 38)) rfl rfl (fun K hK=>?_)
     go_simp
     refine hK.out _ _ (by go_keep) (fun hHeld=>?_)
     clear hK K
     (try simp only [Act.put,List.setIfInBounds_toArray,List.set_cons_zero,List.set_cons_succ])
     refine wpAnyM_one (i:=7) (by kernel_rfl) ?_
     refine owe_early (i:=7) (d:=(some 39)) rfl rfl (fun K hK=>?_)
     go_simp
     refine HRX.out.mono ?_
     rintro en wa ⟨rfl,kd,hwa⟩
     have hda:Below w2.drew.heap.size w2.drew wa:=hwa ▸ below_drawsK w2.drew kd
     have HA:=Lib.hid (HD2.out.trans (hda.mono HD2.out.size))
     have y1:wa.cell? ⟨gk,1,none⟩=some (.int .u32 (tt:Int)):=(HGK.out.below HA.out HGK.out.lt).cell 1
     clear hwa hda
     refine hK.out _ _ (by go_keep) (fun hHeld=>?_)
     clear hK K
     (try simp only [Act.put,List.setIfInBounds_toArray,List.set_cons_zero,List.set_cons_succ])
     refine wpAnyM_take (i:=8) (d:=(some 40)) (v:=?_) rfl rfl (by kernel_rfl) (by kernel_rfl) (by kernel_rfl) (by kernel_rfl) (by kernel_rfl) (fun _ _ _ h=>h) (Or.inl ⟨by rfl,?_⟩) (by assumption) ?_
     rotate_left
     ·intro w hSw
      (try dsimp only at hSw)
      go_simp
      (try with_reducible rfl)
     (try simp only [Act.put,List.setIfInBounds_toArray,List.set_cons_zero,List.set_cons_succ])
     refine wpAnyM_take (i:=9) (d:=(some 8)) (v:=?_) rfl rfl (by kernel_rfl) (by kernel_rfl) (by kernel_rfl) (by kernel_rfl) (by kernel_rfl) (fun _ _ _ h=>h) (Or.inl ⟨by rfl,?_⟩) (by assumption) ?_
     rotate_left
     ·intro w hSw
      (try dsimp only at hSw)
      go_simp
      (try with_reducible rfl)
     (try simp only [Act.put,List.setIfInBounds_toArray,List.set_cons_zero,List.set_cons_succ])
     refine wpAnyM_done (by kernel_rfl) ?_ _
     (try simp only [Act.put,List.setIfInBounds_toArray,List.set_cons_zero,List.set_cons_succ])
     have HB3:=Lib.hid (HB2.out.trans (HA.out.mono HB2.out.size))
     have hmx:max (m2:Int) (nn:Int)=((max m2 nn:Nat):Int):=by omega
     (try rw [hmx])
     go_wp2
     go_roundw
     case rel=>exact ⟨q+1,max m2 nn,by first | rfl | (simp only [hmx]) | go_num,by go_num,hql,by have:=HNN.out;omega,HB3.out⟩
     case measure=>simp [Lib.intOf] <;> omega
    ·obtain rfl:ng=q:=by omega
     have hr:¬ (ng:Int)<(ng:Int):=by omega
     go_wp2
     go_roundw
     case rel=>exact ⟨j+1,m2,rfl,by go_num,hlt,hm2,HB1.out.trans (HBW.out.mono HB1.out.size)⟩
     case measure=>simp [Lib.intOf] <;> omega
  ·obtain rfl:nr=j:=by omega
   have hq:¬ (nr:Int)<(nr:Int):=by omega
   have k1:wr.cell? ⟨g,4,none⟩=some (.slice Ak nr ck):=HK0.out wr HB.out
   have HH1:=Lib.hid (halving_any nr (by omega) wr)
   have hnr2:nr≤513:=by omega
   go_wp2_with fail
   refine HH1.out.mono ?_
   rintro e w3 ⟨⟨ka,rfl,ha1,ha2⟩,rfl⟩
   have ha3:ka≤11:=ha2 10 (by omega)
   clear k1 HH1 ha2
   go_wp2_with fail
   refine (HSP.out _).mono ?_
   rintro e w4 ⟨⟨np,rfl,hnp⟩,hb4⟩
   have HB4:=Lib.hid (HB.out.trans (hb4.mono HB.out.size))
   clear hb4
   have HH2:=Lib.hid (halving_any np (by omega) w4)
   have hnp2:np≤1048577:=by omega
   go_wp2_with fail
   refine HH2.out.mono ?_
   rintro e w5 ⟨⟨kb,rfl,hb1,hb2⟩,rfl⟩
   have hb3:kb≤22:=hb2 21 (by omega)
   clear HH2 hb2
   have HH3:=Lib.hid (halving_any m (by omega) w5)
   go_wp2_with fail
   refine HH3.out.mono ?_
   rintro e w6 ⟨⟨kc,rfl,hc1,hc2⟩,rfl⟩
   have hc3:kc≤16:=hc2 15 (by omega)
   clear HH3 hc2
   go_wp2
   go_ret
   exact ⟨⟨ka+kb+kc,by go_num,by omega,by omega⟩,HB4.out⟩
end
end Go.Proofs.YthdldooilcbmlaaGreatDoor
