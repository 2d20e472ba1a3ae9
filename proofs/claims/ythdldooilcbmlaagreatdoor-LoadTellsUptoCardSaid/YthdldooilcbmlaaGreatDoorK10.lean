/-
  Texts of mine, joined: BunBytes, BunEnc, BunCut, RegM, LoadRd. The conditions stand with each.
-/
import Derived.Test.YthdldooilcbmlaaGreatDoorK08
import Derived.Test.YthdldooilcbmlaaGreatDoorK09
import Derived.Lib.SlBytesConst
import Derived.Test.YthdldooilcbmlaaGreatDoorK04
import Derived.Test.YthdldooilcbmlaaGreatDoorK03
import Derived.SizedLaws
import Derived.Test.YthdldooilcbmlaaGreatDoorK01
import Derived.OrdersHeld
import Derived.Deep.RegionHeld3
import Derived.Test.YthdldooilcbmlaaGreatDoorK06
set_option linter.unusedVariables false
set_option linter.unusedSimpArgs false
namespace Go.Proofs.YthdldooilcbmlaaGreatDoor
section
open Go.RowKit

/-- The number of a text, where it is one of the first n. -/
def numI (L:List ByteArray)(n:Nat):ByteArray→Option Value:=fun s=>if idx L s<n then some (.int .i64 (idx L s:Int)) else none
theorem numI_zero (L:List ByteArray):numI L 0=fun _=>none:=by funext s;simp [numI]
theorem numI_next {L:List ByteArray}(hr:RiseL bl L){i:Nat}{s:ByteArray}(h:L[i]?=some s):putMF (numI L i) s (.int .i64 (i:Int))=numI L (i+1)∧(numI L i s).isSome=false:=by
 have hi:=idx_at hr h
 refine ⟨?_,by simp [numI,hi]⟩
 funext t
 unfold putMF numI
 by_cases e:t=s
 ·rw [if_pos e,e,hi,if_pos (by omega)]
 ·rw [if_neg e]
  by_cases ht:idx L t<i
  ·rw [if_pos ht,if_pos (by omega)]
  ·rw [if_neg ht,if_neg]
   intro h2
   have h3:idx L t=i:=by omega
   have hm:t∈L:=by
    unfold idx at h3
    have hlt:L.findIdx (fun x=>decide (x=t))<L.length:=by rw [h3];exact (List.getElem?_eq_some_iff.1 h).1
    obtain ⟨x,hx,hp⟩:=List.findIdx_lt_length.1 hlt
    have:x=t:=by simpa using hp
    exact this ▸ hx
   have h4:=idx_get hm
   rw [h3,h] at h4
   exact e (Option.some.inj h4).symm
theorem numI_all {L:List ByteArray}{s:ByteArray}(h:s∈L):(numI L L.length s).getD (.int .i64 0)=.int .i64 (idx L s:Int):=by
 unfold numI
 rw [if_pos (idx_lt h)]
 rfl
theorem zero_int (w:World):(zeroValue 3).run Tryz.prog w=.ok (.int .i64 0) w:=by kernel_rfl
/-- The bytes in the variable at gb, above a world. -/
def BW (wM:World)(gb:Nat)(L:List UInt8)(W:World):Prop:=Below wM.heap.size wM W∧BV wM.heap.size W gb L
theorem BW.only {wM W W':World}{gb:Nat}{L L2:List UInt8}(h:BW wM gb L W)(hv:BV wM.heap.size W' gb L2)(ho:Only gb W W'):BW wM gb L2 W':=⟨Below.only h.1 ho h.2.le h.1.size,hv⟩
theorem BW.on {wM W W':World}{gb:Nat}{L:List UInt8}(h:BW wM gb L W)(hb:Below W.heap.size W W'):BW wM gb L W':=⟨h.1.trans (hb.mono h.1.size),h.2.on hb⟩
theorem BW.alloc {wM W:World}{gb:Nat}{L:List UInt8}(h:BW wM gb L W)(o:Obj):BW wM gb L (W.alloc o):=h.on ((Below.refl _ W).alloc (Nat.le_refl _) o)
/-- A text's bytes behind the others. -/
theorem BW.append {wM W W':World}{gb:Nat}{L:List UInt8}{v v':Value}{s:ByteArray}{n:Nat}(h:BW wM gb L W)(hn:L.length=n)(hb:Blk W gb 26 #[v])(ho:W.ownsRow wM.heap.size 5 1 v n (bvs L))(hown:W'.ownsRow wM.heap.size 5 1 v' (n+s.size) (bvs L++Lib.strCells s))(hg:W.grownBy W' v.ownBlock) :
  BW wM gb (L++s.data.toList) (W'.setCell ⟨gb,0,none⟩ v')∧W'.cell? ⟨gb,0,none⟩=some v∧W'.frozen? ⟨gb,0,none⟩=false:=by
 have h2:=blk_stays hb ho (by decide) hg
 obtain ⟨A,c,rfl,-,-,-⟩:=own_form hown
 have e:(L++s.data.toList).length=n+s.size:=by
  rw [List.length_append,hn]
  rfl
 have hbl:Below wM.heap.size wM W':=h.1.grown hg h.1.size (fun k hk=>(ho.lt k hk).1)
 refine ⟨⟨hbl.setCell h.2.le _,⟨A,c,?_,?_,h.2.le⟩⟩,h2.cell 0,h2.frozen 0⟩
 ·rw [e]
  exact h2.set_ 0 _
 ·unfold OB
  rw [e,bvs_append]
  exact own_stays3 hown h2 (by decide) (grown_set W' gb 0 _)
theorem lay_rows {l:List PStep}{qs:List (Value×List RowI)}{W:World}{xv:Value}(hq:qs.map Prod.snd=tabsB l)(h:TabsP W W.heap.size xv qs){p:Nat}{x:Value×List RowI}(hx:qs[p]?=some x):(tabsB l)[p]?=some x.2∧x.2∈tabsB l∧RowsR W W.heap.size x.1 x.2:=by
 have h1:(tabsB l)[p]?=some x.2:=by rw [←hq,List.getElem?_map,hx];rfl
 obtain ⟨A,c,-,-,-,-,h4⟩:=h
 exact ⟨h1,List.mem_of_getElem? h1,h4 x (List.mem_of_getElem? hx)⟩
theorem num_look {W:World}{b nT:Nat}{T:List ByteArray}{s:ByteArray}(hM:MapS W b nT nT (numI T nT))(hn:T.length=nT)(hx:s∈T)(hs:s.size≤maxLen):(Instr.lookup 145 (.map (some b)) (.string s) false).run Tryz.prog W=.ok (.int .i64 (idx T s:Int)) W:=by
 have h:=hM.look law_str Tryz.underlying145 (zero_int W) hs (key_str hs)
 subst hn
 rw [numI_all hx] at h
 exact h
/-- A Book of the layout. -/
theorem bks_at {l:List PStep}{bs:List BkE}(h:BksFin l bs){p:Nat}{en:ByteArray}{eg et:Value}{es:List ByteArray}{ek:List Nat}(he:bs[p]?=some ⟨en,eg,es,et,ek⟩) :
  ∃ b,l[p]?=some b∧en=b.1∧en∈textsP l∧es=groupsB b.2∧(∀ x∈es,x∈textsP l)∧ek.length=es.length∧∀(j:Nat) (x:ByteArray) (t:Nat),es[j]?=some x→ek[j]?=some t→t=tix (tabsB l) (rowsB (textsP l) (pathsP l) b.2 x)∧t<(tabsB l).length:=by
 obtain ⟨b,hb⟩:∃ b,l[p]?=some b:=⟨_,List.getElem?_eq_getElem (by rw [←h.1];exact (List.getElem?_eq_some_iff.1 he).1)⟩
 obtain ⟨h1,h2,h3⟩:=h.2 p _ b he hb
 simp only at h1 h2 h3
 have hbm:=List.mem_of_getElem? hb
 refine ⟨b,hb,h1,?_,h2,fun x hx=>?_,by rw [h3,List.length_map,h2],fun j x t hx ht=>?_⟩
 ·rw [h1]
  exact (poolL_mem _ _).2 (words_name hbm)
 ·rw [h2] at hx
  unfold groupsB at hx
  obtain ⟨v,hv,rfl⟩:=List.mem_map.1 ((poolL_mem _ _).1 hx)
  exact (poolL_mem _ _).2 (words_val hbm hv).1
 ·rw [h2] at hx
  rw [h3,List.getElem?_map,hx] at ht
  simp only [Option.map_some,Option.some.injEq] at ht
  refine ⟨ht.symm,?_⟩
  rw [←ht]
  refine tix_lt ((poolL_mem (lt:=tl) _ _).2 ?_)
  unfold allTabs
  exact List.mem_flatMap.2 ⟨b,hbm,List.mem_map.2 ⟨x,List.mem_of_getElem? hx,rfl⟩⟩
set_option maxHeartbeats 16000000 in
set_option maxRecDepth 100000 in
theorem bbytes_any (l:List PStep)(g:Nat)(w:World)(hc:(checkB l).1=0)(hf:BunFew l)(h:LayAt l g w) :
  Calls Tryz.prog 41 #[.pointer (some ⟨g,0,none⟩)] w (MadeB w 5 (bytesB l)):=by
 have HF:=Lib.hid (few_all hc hf)
 have HW:=Lib.hid (show ∀ W,Below w.heap.size w W→LayAt l g W from fun W hW=>by
  obtain ⟨At,ct,Ap,cp,xv,bv,qs,bs,h1,h2,h3,h4,h5,h6,h7⟩:=h
  exact LayAt.on ⟨At,ct,Ap,cp,xv,bv,qs,bs,h1,h2,h3,h4,h5,h6,h7⟩ hW)
 obtain ⟨At,ct,Ap,cp,xv,bv,qs,bs,h1,h2,h3,h4,h5,h6,h7⟩:=h
 have HG:=Lib.hid (show ∀ W,Below w.heap.size w W→Blk W g 133 #[.slice At (textsP l).length ct,.slice Ap (pathsP l).length cp,xv,bv] from fun W hW=>h1.below hW h1.lt)
 have HT:=Lib.hid (show ∀ W,Below w.heap.size w W→Txts W W.heap.size (.slice At (textsP l).length ct) (textsP l) from fun W hW=>(h2.below hW).more hW.size)
 have HP:=Lib.hid (show ∀ W,Below w.heap.size w W→Txts W W.heap.size (.slice Ap (pathsP l).length cp) (pathsP l) from fun W hW=>(h3.below hW).more hW.size)
 have HX:=Lib.hid (show ∀ W,Below w.heap.size w W→TabsP W W.heap.size xv qs from fun W hW=>(h5.below hW).more hW.size)
 have HK:=Lib.hid (show ∀ W,Below w.heap.size w W→BksR W W.heap.size bv bs from fun W hW=>h6.on hW)
 have HQ:=Lib.hid h4
 have HB:=Lib.hid h7
 obtain ⟨Ax,cx,rfl,-,-,-,-⟩:=h5
 obtain ⟨Ab,cb,rfl,-,-,-,-⟩:=h6
 have hg0:g<w.heap.size:=h1.lt
 clear h1 h2 h3 h4 h7 hc hf HW
 obtain ⟨nT,hnT⟩:∃ nT,(textsP l).length=nT:=⟨_,rfl⟩
 obtain ⟨nP,hnP⟩:∃ nP,(pathsP l).length=nP:=⟨_,rfl⟩
 obtain ⟨nX,hnX⟩:∃ nX,qs.length=nX:=⟨_,rfl⟩
 obtain ⟨nK,hnK⟩:∃ nK,bs.length=nK:=⟨_,rfl⟩
 have HNT:=Lib.hid hnT
 have HNP:=Lib.hid hnP
 have HNX:=Lib.hid hnX
 have HNK:=Lib.hid hnK
 have HNX2:=Lib.hid (show (tabsB l).length=nX from by rw [←HQ.out,List.length_map];exact hnX)
 have HNK2:=Lib.hid (show l.length=nK from by rw [←HB.out.1];exact hnK)
 rw [hnT] at HG HT
 rw [hnP] at HG HP
 rw [hnX] at HG HX
 rw [hnK] at HG HK
 have hnT1:nT≤25740520:=by have:=HF.out.nT;omega
 have hnP1:nP≤8580000:=by have:=HF.out.nP;omega
 have hnX1:nX≤8580000:=by have h1:=HF.out.nX;have h2:=HNX2.out;omega
 have hnK1:nK≤520:=by have h1:=HF.out.few.1;have h2:=HNK2.out;omega
 have jT:(nT:Int)≤25740520:=by omega
 have jP:(nP:Int)≤8580000:=by omega
 have jX:(nX:Int)≤8580000:=by omega
 have jK:(nK:Int)≤520:=by omega
 clear hnT hnP hnX hnK
 have HR:=Lib.hid (show RiseL bl (textsP l) from poolL_rise blT _)
 have HSZ:=Lib.hid (show ∀ x∈textsP l,x.size≤maxLen from fun x hx=>Nat.le_trans (HF.out.sT x hx) (by simp [maxLen]))
 obtain ⟨i0,hi0,hz0,hz1,hz2⟩:=info_parts byte_info
 have hmm:=@run_makeMap Tryz.prog
 have HM0:=Lib.hid (show MapS (w.alloc (.map #[] 0)) w.heap.size 0 0 (numI (textsP l) 0) from by rw [numI_zero];exact MapG.made w Tryz.prog 9 strL strOk)
 have HB0:=Lib.hid ((Below.refl w.heap.size w).alloc (Nat.le_refl _) (.map #[] 0))
 have k0:(w.alloc (.map #[] 0)).cell? ⟨g,0,none⟩=some (.slice At nT ct):=(HG.out _ HB0.out).cell 0
 go_enter Tryz.func41,Tryz.ntmps41
 go_wp2
 clear k0
 go_loopw [26] (fun iv W=>∃ p:Nat,iv=.int .i64 (p:Int)∧p≤nT∧Below w.heap.size w W∧MapS W w.heap.size p p (numI (textsP l) p)) (fun iv _=>nT-(Lib.intOf iv).toNat)
 case atStart=>exact ⟨0,rfl,Nat.zero_le _,HB0.out,HM0.out⟩
 case round =>
  clear HB0 HM0
  obtain ⟨p,rfl,hp,hB,hM⟩:=hrel
  have HBW:=Lib.hid hB
  have HM:=Lib.hid hM
  clear hB hM
  by_cases hpn:p<nT
  ·-- <<b1
   have hq3:(p:Int)<(nT:Int):=by omega
   obtain ⟨x,hx⟩:=at_lt (l:=textsP l) (p:=p) (by rw [HNT.out];exact hpn)
   obtain ⟨Ax',cx',ex,-,-,hRx⟩:=HT.out wr HBW.out
   rw [HNT.out] at ex hRx
   cases ex
   obtain ⟨b1,o1,rfl,hb1,hcl1⟩:=hRx.spot (by omega) (by omega)
   have r0:wr.cell? ⟨b1,o1+p,none⟩=some (.string x):=hcl1 _ _ (str_at hx)
   have hsx:x.size≤maxLen:=HSZ.out x (List.mem_of_getElem? hx)
   have HNI:=Lib.hid (numI_next HR.out hx)
   obtain ⟨w2,hrun,hM2,hg2⟩:=HM.out.store law_str Tryz.underlying145 (by simp only [maxLen];omega) strL_inj hsx (key_str hsx) (.int .i64 (p:Int))
   rw [HNI.out.1,HNI.out.2] at hM2
   have HM2:=Lib.hid hM2
   have HB2:=Lib.hid (HBW.out.grown hg2 HBW.out.size (fun k hk=>by cases hk;exact Nat.le_refl _))
   clear hcl1 hsx hM2 hg2 hx
   go_wp2
   go_roundw
   case rel=>exact ⟨p+1,by go_num,hpn,HB2.out,by simpa using HM2.out⟩
   case measure=>simp [Lib.intOf];omega
  ·obtain rfl:nT=p:=by omega
   have hq3:¬ (nT:Int)<(nT:Int):=by omega
   obtain ⟨wM,hwM⟩:∃ wM,wr=wM:=⟨_,rfl⟩
   rw [hwM] at HBW HM ⊢
   clear hwM
   have HWM:=Lib.hid (show ∀ W,Below wM.heap.size wM W→Below w.heap.size w W from fun W hW=>HBW.out.trans (hW.mono HBW.out.size))
   have HBW2:=Lib.hid HBW.out
   have HMM:=Lib.hid (show ∀ W,Below wM.heap.size wM W→MapS W w.heap.size nT nT (numI (textsP l) nT) from fun W hW=>HM.out.on hW)
   have kc:=fun (w:World) (C:Array Value) (n c:Nat)=>Lib.run_convert_bytes_const (P:=Tryz.prog) w 26 5 C n c Tryz.underlying26 Tryz.underlying5
   have HP16:=Lib.hid (show Calls Tryz.prog 69 #[.slice (some ⟨wM.heap.size,0,none⟩) 4 4,.int .u16 1] (wM.alloc (.cells #[.int .u8 86,.int .u8 82,.int .u8 78,.int .u8 67] 5 (4,5))) (fun e w'=>∃ A2 c2,e=.returned (.slice A2 6 c2)∧OB w' wM.heap.size 5 (.slice A2 6 c2) pre0∧Below wM.heap.size wM w') from by
    have hr:RB (wM.alloc (.cells #[.int .u8 86,.int .u8 82,.int .u8 78,.int .u8 67] 5 (4,5))) (wM.heap.size+1) (some ⟨wM.heap.size,0,none⟩) [86,82,78,67]:=reads_new_mark wM #[.int .u8 86,.int .u8 82,.int .u8 78,.int .u8 67] 5 (4,5) 1 4 rfl
    refine (put16_any [86,82,78,67] 1 (some ⟨wM.heap.size,0,none⟩) 4 (wM.heap.size+1) _ hr (by simp) (by simp) (by omega)).mono ?_
    rintro e w' ⟨v2,rfl,ho2,hb2⟩
    obtain ⟨A2,c2,rfl,-,-,-⟩:=OB.form ho2
    have hb3:=((Below.refl _ wM).alloc (Nat.le_refl _) (.cells #[.int .u8 86,.int .u8 82,.int .u8 78,.int .u8 67] 5 (4,5))).trans (hb2.mono (by simp))
    exact ⟨A2,c2,rfl,ho2.base (by simp),hb3⟩)
   go_upto_region 8 with (go_at_call 69;go_must (refine HP16.out.mono ?_;rintro e w3 ⟨A3,c3,rfl,ho3,hb3⟩;have HO3:=Lib.hid ho3;have HB3:=Lib.hid hb3;clear ho3 hb3))
   clear kc
   have HV:=Lib.hid (show BW wM w3.heap.size pre0 (w3.alloc (.cells #[.slice A3 6 c3] 26)) from ⟨HB3.out.alloc HB3.out.size _,A3,c3,Blk.new w3 _ _,own_more HO3.out ((Below.refl _ w3).alloc (Nat.le_refl _) _),HB3.out.size⟩)
   obtain ⟨gb,hgb⟩:∃ gb,w3.heap.size=gb:=⟨_,rfl⟩
   rw [hgb] at HV ⊢
   have hgg:gb≠g:=by have:=HBW.out.size;have:=HB3.out.size;omega
   clear hgb
   generalize w3.alloc (.cells #[.slice A3 6 c3] 26)=w4 at *
   clear HO3 HB3 HP16 HM HBW
   have HL0:=Lib.hid (HF.out.lenT 0)
   have k0:w4.cell? ⟨g,0,none⟩=some (.slice At nT ct):=(HG.out _ (HWM.out _ HV.out.1)).cell 0
   have HPA:=Lib.hid (put1 nT pre0 wM.heap.size gb w4 HV.out.2 (by omega) (by rw [pre0_len];omega))
   go_upto_region 10 with (go_at_call 70;go_must (refine HPA.out.mono ?_;rintro e w5 ⟨rfl,hv5,ho5⟩;have HV5:=Lib.hid (show BW wM gb (preT l) w5 from HV.out.only (by unfold preT;rw [HNT.out];exact hv5) ho5);clear hv5 ho5))
   clear k0 HPA HV
   have k0:w5.cell? ⟨g,0,none⟩=some (.slice At nT ct):=(HG.out _ (HWM.out _ HV5.out.1)).cell 0
   go_wp2
   clear k0
   go_loopw [52] (fun iv W=>∃ p:Nat,iv=.int .i64 (p:Int)∧p≤nT∧BW wM gb (preT l++((textsP l).take p).flatMap textBy) W) (fun iv _=>nT-(Lib.intOf iv).toNat)
   case atStart=>exact ⟨0,rfl,Nat.zero_le _,by simpa using HV5.out⟩
   case round =>
    clear HV5
    obtain ⟨p,rfl,hp,hV⟩:=hrel
    have HV:=Lib.hid hV
    clear hV
    by_cases hpn:p<nT
    ·-- <<b2
     have hq3:(p:Int)<(nT:Int):=by omega
     obtain ⟨x,hx⟩:=at_lt (l:=textsP l) (p:=p) (by rw [HNT.out];exact hpn)
     have HXX:=Lib.hid hx
     obtain ⟨Ax',cx',ex,-,-,hRx⟩:=HT.out wr (HWM.out _ HV.out.1)
     rw [HNT.out] at ex hRx
     cases ex
     obtain ⟨b1,o1,rfl,hb1,hcl1⟩:=hRx.spot (by omega) (by omega)
     have r0:wr.cell? ⟨b1,o1+p,none⟩=some (.string x):=hcl1 _ _ (str_at hx)
     have hsx:=HF.out.sT x (List.mem_of_getElem? hx)
     obtain ⟨L,hL⟩:∃ L,preT l++((textsP l).take p).flatMap textBy=L:=⟨_,rfl⟩
     have hl1:L.length≤105600000000:=by rw [←hL];exact HF.out.lenT p
     have HLQ:=Lib.hid hL
     rw [hL] at HV
     clear hcl1 hx hL
     have HPA:=Lib.hid (put1 x.size L wM.heap.size gb wr HV.out.2 (by omega) (by omega))
     go_upto_region 14 with (go_at_call 70;go_must (refine HPA.out.mono ?_;rintro e w5 ⟨rfl,hv5,ho5⟩;have HV5:=Lib.hid (HV.out.only hv5 ho5);clear hv5 ho5))
     clear HPA r0
     obtain ⟨hbl,A,c,hbk,hown,hle⟩:=HV5.out
     obtain ⟨m,hm⟩:∃ m,(L++le 4 x.size).length=m:=⟨_,rfl⟩
     have hm1:m≤105700000000:=by rw [←hm,List.length_append,le_len];omega
     have HMQ:=Lib.hid hm
     unfold OB at hown
     rw [hm] at hbk hown
     have HBK:=Lib.hid hbk
     have HOW:=Lib.hid hown
     have HBZ:=Lib.hid hbl.size
     have s0:w5.cell? ⟨gb,0,none⟩=some (.slice A m c):=HBK.out.cell 0
     clear hbl hbk hown hm hle
     go_upto_region 15 with (at_builtin;go_must (refine Lib.wpList_append_own_string _ rfl (.tmp 61) (.tmp 62) _ _ rfl wM.heap.size 5 i0 Tryz.underlying26 Tryz.underlying9 hi0 hz0 hz1 hz2 _ m (bvs (L++le 4 x.size)) rfl HOW.out x rfl (by simp only [maxLen];omega) (by omega) HBZ.out ?_;intro v6 w6 hown6 hg6 _;obtain ⟨A6,c6,rfl,-,-,-⟩:=own_form hown6;have HV6:=Lib.hid (HV5.out.append HMQ.out HBK.out HOW.out hown6 hg6);have s1:=HV6.out.2.1;have s2:=HV6.out.2.2;clear hown6 hg6))
     clear s0 s1 s2
     generalize w6.setCell ⟨gb,0,none⟩ (.slice A6 (m+x.size) c6)=w7 at *
     go_wp2
     go_roundw
     case rel=>exact ⟨p+1,by go_num,hpn,by rw [flat_next HXX.out,←List.append_assoc,HLQ.out];have:=HV6.out.1;unfold textBy;rw [←List.append_assoc];exact this⟩
     case measure=>simp [Lib.intOf];omega
    ·obtain rfl:nT=p:=by omega
     have hq3:¬ (nT:Int)<(nT:Int):=by omega
     have HVE:=Lib.hid (show BW wM gb (preT l++(textsP l).flatMap textBy) wr from by have:=HV.out;rw [List.take_of_length_le (l:=textsP l) (by rw [HNT.out];exact Nat.le_refl _)] at this;exact this)
     obtain ⟨w7,hw7⟩:∃ w7,wr=w7:=⟨_,rfl⟩
     rw [hw7] at HVE ⊢
     clear hw7 HV
     have k0:w7.cell? ⟨g,1,none⟩=some (.slice Ap nP cp):=(HG.out _ (HWM.out _ HVE.out.1)).cell 1
     have HPA:=Lib.hid (put1 nP _ wM.heap.size gb w7 HVE.out.2 (by omega) (by have h:=HF.out.lenT (textsP l).length;rw [List.take_length] at h;omega))
     go_upto_region 17 with (go_at_call 70;go_must (refine HPA.out.mono ?_;rintro e w5 ⟨rfl,hv5,ho5⟩;have HV5:=Lib.hid (show BW wM gb (preP l) w5 from HVE.out.only (by unfold preP;rw [HNP.out];exact hv5) ho5);clear hv5 ho5))
     clear k0 HPA HVE
     have k0:w5.cell? ⟨g,1,none⟩=some (.slice Ap nP cp):=(HG.out _ (HWM.out _ HV5.out.1)).cell 1
     go_wp2
     clear k0
     go_loopw [78] (fun iv W=>∃ p:Nat,iv=.int .i64 (p:Int)∧p≤nP∧BW wM gb (preP l++((pathsP l).take p).flatMap fun s=>le 4 (idx (textsP l) s)) W) (fun iv _=>nP-(Lib.intOf iv).toNat)
     case atStart=>exact ⟨0,rfl,Nat.zero_le _,by simpa using HV5.out⟩
     case round =>
      clear HV5
      obtain ⟨p,rfl,hp,hV⟩:=hrel
      have HV:=Lib.hid hV
      clear hV
      by_cases hpn:p<nP
      ·-- <<b3
       have hq3:(p:Int)<(nP:Int):=by omega
       obtain ⟨x,hx⟩:=at_lt (l:=pathsP l) (p:=p) (by rw [HNP.out];exact hpn)
       have HXX:=Lib.hid hx
       obtain ⟨Ax',cx',ex,-,-,hRx⟩:=HP.out wr (HWM.out _ HV.out.1)
       rw [HNP.out] at ex hRx
       cases ex
       obtain ⟨b1,o1,rfl,hb1,hcl1⟩:=hRx.spot (by omega) (by omega)
       have r0:wr.cell? ⟨b1,o1+p,none⟩=some (.string x):=hcl1 _ _ (str_at hx)
       have hxT:=paths_words (List.mem_of_getElem? hx)
       have hlk:=num_look (HMM.out wr HV.out.1) HNT.out hxT (HSZ.out x hxT)
       have hkl:=idx_lt hxT
       rw [HNT.out] at hkl
       obtain ⟨kx,hkx⟩:∃ kx,idx (textsP l) x=kx:=⟨_,rfl⟩
       have HKX:=Lib.hid hkx
       rw [hkx] at hlk hkl
       obtain ⟨L,hL⟩:∃ L,(preP l++((pathsP l).take p).flatMap fun s=>le 4 (idx (textsP l) s))=L:=⟨_,rfl⟩
       have hl1:L.length≤105700000000:=by rw [←hL];exact HF.out.lenP p
       have HLQ:=Lib.hid hL
       rw [hL] at HV
       clear hcl1 hx hL hxT hkx
       have HPA:=Lib.hid (put1 kx L wM.heap.size gb wr HV.out.2 (by omega) (by omega))
       go_upto_region 21 with (go_at_call 70;go_must (refine HPA.out.mono ?_;rintro e w5 ⟨rfl,hv5,ho5⟩;have HV5:=Lib.hid (HV.out.only hv5 ho5);clear hv5 ho5))
       clear HPA r0 hlk
       go_wp2
       go_roundw
       case rel=>exact ⟨p+1,by go_num,hpn,by rw [flat_next HXX.out,←List.append_assoc,HLQ.out,HKX.out];exact HV5.out⟩
       case measure=>simp [Lib.intOf];omega
      ·obtain rfl:nP=p:=by omega
       have hq3:¬ (nP:Int)<(nP:Int):=by omega
       have HVE:=Lib.hid (show BW wM gb (preP l++(pathsP l).flatMap fun s=>le 4 (idx (textsP l) s)) wr from by have:=HV.out;rw [List.take_of_length_le (l:=pathsP l) (by rw [HNP.out];exact Nat.le_refl _)] at this;exact this)
       obtain ⟨w7,hw7⟩:∃ w7,wr=w7:=⟨_,rfl⟩
       rw [hw7] at HVE ⊢
       clear hw7 HV
       have k0:w7.cell? ⟨g,2,none⟩=some (.slice Ax nX cx):=(HG.out _ (HWM.out _ HVE.out.1)).cell 2
       have HPA:=Lib.hid (put1 nX _ wM.heap.size gb w7 HVE.out.2 (by omega) (by have h:=HF.out.lenP (pathsP l).length;rw [List.take_length] at h;omega))
       go_upto_region 23 with (go_at_call 70;go_must (refine HPA.out.mono ?_;rintro e w5 ⟨rfl,hv5,ho5⟩;have HV5:=Lib.hid (show BW wM gb (preX l) w5 from HVE.out.only (by unfold preX;rw [HNX2.out];exact hv5) ho5);clear hv5 ho5))
       clear k0 HPA HVE
       have k0:w5.cell? ⟨g,2,none⟩=some (.slice Ax nX cx):=(HG.out _ (HWM.out _ HV5.out.1)).cell 2
       go_wp2
       clear k0
       go_loopw [102] (fun iv W=>∃ p:Nat,iv=.int .i64 (p:Int)∧p≤nX∧BW wM gb (preX l++((tabsB l).take p).flatMap tabBy) W) (fun iv _=>nX-(Lib.intOf iv).toNat)
       case atStart=>exact ⟨0,rfl,Nat.zero_le _,by simpa using HV5.out⟩
       case round =>
        clear HV5
        obtain ⟨p,rfl,hp,hV⟩:=hrel
        have HV:=Lib.hid hV
        clear hV
        by_cases hpn:p<nX
        ·-- <<b4
         have hq3:(p:Int)<(nX:Int):=by omega
         obtain ⟨⟨xv,xt⟩,hx⟩:=at_lt (l:=qs) (p:=p) (by rw [HNX.out];exact hpn)
         obtain ⟨Ax',cx',ex,-,-,hRx,-⟩:=HX.out wr (HWM.out _ HV.out.1)
         rw [HNX.out] at ex hRx
         cases ex
         obtain ⟨b1,o1,rfl,hb1,hcl1⟩:=hRx.spot (by omega) (by omega)
         have HRW:=Lib.hid (fun (W:World) (hW:Below w.heap.size w W)=>(lay_rows HQ.out (by have:=HX.out W hW;rw [←HNX.out] at this;exact this) hx).2.2)
         have HTX:=Lib.hid (lay_rows HQ.out (by have:=HX.out wr (HWM.out _ HV.out.1);rw [←HNX.out] at this;exact this) hx).1
         obtain ⟨Ar,cr,er,-,-,-⟩:=HRW.out wr (HWM.out _ HV.out.1)
         simp only at er HTX
         subst er
         have r0:wr.cell? ⟨b1,o1+p,none⟩=some (.slice Ar xt.length cr):=hcl1 _ _ (by rw [List.getElem?_map,hx];rfl)
         have HRX:=Lib.hid (HF.out.rX xt (List.mem_of_getElem? HTX.out))
         have hnr1:=HF.out.sX xt (List.mem_of_getElem? HTX.out)
         obtain ⟨nr,hnr⟩:∃ nr,xt.length=nr:=⟨_,rfl⟩
         have HNR:=Lib.hid hnr
         simp only at HRW
         rw [hnr] at r0 hnr1 HRW
         have hnr2:(nr:Int)≤16500:=by omega
         obtain ⟨L,hL⟩:∃ L,(preX l++((tabsB l).take p).flatMap tabBy)=L:=⟨_,rfl⟩
         have hl1:L.length≤1240000000000:=by rw [←hL];exact HF.out.lenX p
         have HLQ:=Lib.hid hL
         rw [hL] at HV
         clear hcl1 hx hL hnr
         have HPA:=Lib.hid (put1 nr L wM.heap.size gb wr HV.out.2 (by omega) (by omega))
         go_upto_region 27 with (go_at_call 70;go_must (refine HPA.out.mono ?_;rintro e w5 ⟨rfl,hv5,ho5⟩;have HV5:=Lib.hid (HV.out.only hv5 ho5);clear hv5 ho5))
         clear HPA r0 HV
         go_wp2
         go_loopw [113] (fun jv W=>∃ j:Nat,jv=.int .i64 (j:Int)∧j≤nr∧BW wM gb (L++le 4 nr++(xt.take j).flatMap rowBy) W) (fun jv _=>nr-(Lib.intOf jv).toNat)
         case atStart=>exact ⟨0,rfl,Nat.zero_le _,by simpa using HV5.out⟩
         case round =>
          clear HV5
          obtain ⟨j,rfl,hj,hV⟩:=hrel
          have HV:=Lib.hid hV
          clear hV
          by_cases hjn:j<nr
          ·-- <<b5
           have hq4:(j:Int)<(nr:Int):=by omega
           obtain ⟨⟨y1,y2⟩,hy⟩:=at_lt (l:=xt) (p:=j) (by rw [HNR.out];exact hjn)
           have HYY:=Lib.hid hy
           have hyr:=HRX.out _ (List.mem_of_getElem? hy)
           simp only at hyr
           obtain ⟨m1,rfl⟩:∃ m1:Nat,y1=(m1:Int):=⟨y1.toNat,by omega⟩
           obtain ⟨m2,rfl⟩:∃ m2:Nat,y2=(m2:Int):=⟨y2.toNat,by omega⟩
           have hm1:(m1:Int)<4294967296:=hyr.1.2
           have hm2:(m2:Int)<4294967296:=hyr.2.2
           obtain ⟨Ar',cr',er,-,-,hRr⟩:=HRW.out wr (HWM.out _ HV.out.1)
           rw [HNR.out] at er hRr
           cases er
           obtain ⟨b2,o2,rfl,hb2,hcl2⟩:=hRr.spot (by omega) (by omega)
           have hat:=rowCells_at hy
           have z0:wr.cell? ⟨b2,o2+j*2,none⟩=some (.int .u32 (m1:Int)):=hcl2 _ _ hat.1
           have z1:wr.cell? ⟨b2,o2+j*2+1,none⟩=some (.int .u32 (m2:Int)):=hcl2 _ _ hat.2
           obtain ⟨L2,hL2⟩:∃ L2,(L++le 4 nr++(xt.take j).flatMap rowBy)=L2:=⟨_,rfl⟩
           have hl2:L2.length≤1240100000000:=by
            have h3:=flat_le (f:=rowBy) (c:=8) (l:=xt.take j) (fun r _=>by simp [rowBy,le_len])
            rw [List.length_take] at h3
            rw [←hL2,List.length_append,List.length_append,le_len]
            omega
           have HLQ2:=Lib.hid hL2
           rw [hL2] at HV
           clear hcl2 hat hy hL2 hyr
           have HV8:=Lib.hid (HV.out.alloc (.cells #[.int .u32 (m1:Int),.int .u32 (m2:Int)] 81))
           have HZ8:=Lib.hid (Blk.new wr 81 #[.int .u32 (m1:Int),.int .u32 (m2:Int)])
           go_upto_region 30 with (fail)
           generalize wr.alloc (.cells #[.int .u32 (m1:Int),.int .u32 (m2:Int)] 81)=w8 at *
           clear z0 z1
           have u0:w8.cell? ⟨wr.heap.size,0,none⟩=some (.int .u32 (m1:Int)):=HZ8.out.cell 0
           have u1:w8.cell? ⟨wr.heap.size,1,none⟩=some (.int .u32 (m2:Int)):=HZ8.out.cell 1
           have HPA:=Lib.hid (put2 m1 m2 L2 wM.heap.size gb w8 HV8.out.2 (by omega) (by omega) (by omega))
           go_upto_region 31 with (go_at_call 70;go_must (refine HPA.out.mono ?_;rintro e w5 ⟨rfl,hv5,ho5⟩;have HV5:=Lib.hid (HV8.out.only hv5 ho5);clear hv5 ho5))
           clear u0 u1 HPA
           go_wp2
           go_roundw
           case rel=>exact ⟨j+1,by go_num,hjn,by rw [flat_next HYY.out,←List.append_assoc,HLQ2.out];exact HV5.out⟩
           case measure=>simp [Lib.intOf];omega
          ·obtain rfl:nr=j:=by omega
           have hq4:¬ (nr:Int)<(nr:Int):=by omega
           have HVE:=Lib.hid (show BW wM gb (preX l++((tabsB l).take (p+1)).flatMap tabBy) wr from by
            have h:=HV.out
            rw [List.take_of_length_le (l:=xt) (by rw [HNR.out];exact Nat.le_refl _)] at h
            rw [flat_next HTX.out,←List.append_assoc,HLQ.out]
            unfold tabBy
            rw [HNR.out,←List.append_assoc]
            exact h)
           go_wp2
           go_roundw
           case rel=>exact ⟨p+1,by go_num,hpn,HVE.out⟩
           case measure=>simp [Lib.intOf];omega
        ·obtain rfl:nX=p:=by omega
         have hq3:¬ (nX:Int)<(nX:Int):=by omega
         have HVE:=Lib.hid (show BW wM gb (preX l++(tabsB l).flatMap tabBy) wr from by have:=HV.out;rw [List.take_of_length_le (l:=tabsB l) (by rw [HNX2.out];exact Nat.le_refl _)] at this;exact this)
         obtain ⟨w7,hw7⟩:∃ w7,wr=w7:=⟨_,rfl⟩
         rw [hw7] at HVE ⊢
         clear hw7 HV
         have k0:w7.cell? ⟨g,3,none⟩=some (.slice Ab nK cb):=(HG.out _ (HWM.out _ HVE.out.1)).cell 3
         have HPA:=Lib.hid (put1 nK _ wM.heap.size gb w7 HVE.out.2 (by omega) (by have h:=HF.out.lenX (tabsB l).length;rw [List.take_length] at h;omega))
         go_upto_region 34 with (go_at_call 70;go_must (refine HPA.out.mono ?_;rintro e w5 ⟨rfl,hv5,ho5⟩;have HV5:=Lib.hid (show BW wM gb (preK l) w5 from HVE.out.only (by unfold preK;rw [HNK2.out];exact hv5) ho5);clear hv5 ho5))
         clear k0 HPA HVE
         have k0:w5.cell? ⟨g,3,none⟩=some (.slice Ab nK cb):=(HG.out _ (HWM.out _ HV5.out.1)).cell 3
         go_wp2
         clear k0
         go_loopw [141] (fun iv W=>∃ p:Nat,iv=.int .i64 (p:Int)∧p≤nK∧BW wM gb (preK l++(l.take p).flatMap (bookBy (textsP l) (pathsP l) (tabsB l))) W) (fun iv _=>nK-(Lib.intOf iv).toNat)
         case atStart=>exact ⟨0,rfl,Nat.zero_le _,by simpa using HV5.out⟩
         case round =>
          clear HV5
          obtain ⟨p,rfl,hp,hV⟩:=hrel
          have HV:=Lib.hid hV
          clear hV
          by_cases hpn:p<nK
          ·-- <<b6
           have hq3:(p:Int)<(nK:Int):=by omega
           obtain ⟨⟨en,eg,es,et,ek⟩,he⟩:=at_lt (l:=bs) (p:=p) (by rw [HNK.out];exact hpn)
           obtain ⟨b,hb,hen,hnT,hes,hesT,hlk,htix⟩:=bks_at HB.out he
           have HEB:=Lib.hid (And.intro hb (And.intro hen hes))
           have HES:=Lib.hid hesT
           have HTI:=Lib.hid htix
           obtain ⟨Ax',cx',ex,-,-,hRx,-⟩:=HK.out wr (HWM.out _ HV.out.1)
           rw [HNK.out] at ex hRx
           cases ex
           obtain ⟨b1,o1,rfl,hb1,hcl1⟩:=hRx.spot (by omega) (by omega)
           have HEW:=Lib.hid (show ∀ W,Below w.heap.size w W→Txts W W.heap.size eg es∧IntsR W W.heap.size et ek from fun W hW=>by
            obtain ⟨_,_,_,_,_,_,h⟩:=HK.out W hW
            exact h _ (List.mem_of_getElem? he))
           obtain ⟨⟨Ag,cg,rfl,-,-,-⟩,⟨Ae,ce,rfl,-,-,-⟩⟩:=HEW.out wr (HWM.out _ HV.out.1)
           have hat:=bkCells_at _ _ _ he
           have z0:wr.cell? ⟨b1,o1+p*3,none⟩=some (.string en):=hcl1 _ _ hat.1
           have z1:wr.cell? ⟨b1,o1+p*3+1,none⟩=some (.slice Ag es.length cg):=hcl1 _ _ hat.2.1
           have z2:wr.cell? ⟨b1,o1+p*3+2,none⟩=some (.slice Ae ek.length ce):=hcl1 _ _ hat.2.2
           obtain ⟨ng,hng⟩:∃ ng,es.length=ng:=⟨_,rfl⟩
           have HNG:=Lib.hid hng
           have HNE:=Lib.hid (show ek.length=ng from by rw [hlk];exact hng)
           have hng1:ng≤16500:=by rw [←hng,hes];exact HF.out.sK b (List.mem_of_getElem? hb)
           have hng2:(ng:Int)≤16500:=by omega
           rw [HNE.out] at z2 HEW
           rw [hng] at z1 HEW
           obtain ⟨kn,hkn⟩:∃ kn,idx (textsP l) en=kn:=⟨_,rfl⟩
           have HKN:=Lib.hid hkn
           have hkl:=idx_lt hnT
           rw [HNT.out,hkn] at hkl
           have HNL:=Lib.hid (show ∀ W,Below wM.heap.size wM W→(Instr.lookup 145 (.map (some w.heap.size)) (.string en) false).run Tryz.prog W=.ok (.int .i64 (kn:Int)) W from fun W hW=>by
            have h:=num_look (HMM.out W hW) HNT.out hnT (HSZ.out en hnT)
            rw [hkn] at h
            exact h)
           obtain ⟨L,hL⟩:∃ L,(preK l++(l.take p).flatMap (bookBy (textsP l) (pathsP l) (tabsB l)))=L:=⟨_,rfl⟩
           have hl1:L.length≤1250000000000:=by rw [←hL];exact HF.out.lenK p
           have HLQ:=Lib.hid hL
           rw [hL] at HV
           clear hcl1 hat he hb hen hes hesT hnT hlk htix hng hkn hL
           have HV8:=Lib.hid (HV.out.alloc (.cells #[.string en,.slice Ag ng cg,.slice Ae ng ce] 139))
           have HZ8:=Lib.hid (Blk.new wr 139 #[.string en,.slice Ag ng cg,.slice Ae ng ce])
           go_upto_region 37 with (fail)
           generalize wr.alloc (.cells #[.string en,.slice Ag ng cg,.slice Ae ng ce] 139)=w8 at *
           obtain ⟨gz,hgz⟩:∃ gz,wr.heap.size=gz:=⟨_,rfl⟩
           have hgzb:gz≠gb:=by have:=HV.out.2.lt;omega
           rw [hgz] at HZ8 ⊢
           clear hgz z0 z1 z2 HV
           have u0:w8.cell? ⟨gz,0,none⟩=some (.string en):=HZ8.out.cell 0
           have u1:w8.cell? ⟨gz,1,none⟩=some (.slice Ag ng cg):=HZ8.out.cell 1
           have hlk:=HNL.out w8 HV8.out.1
           have HPA:=Lib.hid (put2 kn ng L wM.heap.size gb w8 HV8.out.2 (by omega) (by omega) (by omega))
           go_upto_region 38 with (go_at_call 70;go_must (refine HPA.out.mono ?_;rintro e w5 ⟨rfl,hv5,ho5⟩;have HV5:=Lib.hid (HV8.out.only hv5 ho5);have HZ5:=Lib.hid (HZ8.out.grown ho5 (by simpa using hgzb));clear hv5 ho5))
           clear u0 u1 hlk HPA HV8 HZ8 HNL
           have u1:w5.cell? ⟨gz,1,none⟩=some (.slice Ag ng cg):=HZ5.out.cell 1
           go_wp2
           clear u1
           go_loopw [158] (fun jv W=>∃ j:Nat,jv=.int .i64 (j:Int)∧j≤ng∧BW wM gb (L++(le 4 kn++le 4 ng)++(es.take j).flatMap (grpBy (textsP l) (pathsP l) (tabsB l) b)) W∧Blk W gz 139 #[.string en,.slice Ag ng cg,.slice Ae ng ce]) (fun jv _=>ng-(Lib.intOf jv).toNat)
           case atStart=>exact ⟨0,rfl,Nat.zero_le _,by simpa using HV5.out,HZ5.out⟩
           case round =>
            clear HV5 HZ5
            obtain ⟨j,rfl,hj,hV,hZ⟩:=hrel
            have HV:=Lib.hid hV
            have HZ:=Lib.hid hZ
            clear hV hZ
            by_cases hjn:j<ng
            ·-- <<b7
             have hq4:(j:Int)<(ng:Int):=by omega
             obtain ⟨x,hx⟩:=at_lt (l:=es) (p:=j) (by rw [HNG.out];exact hjn)
             obtain ⟨t,ht⟩:=at_lt (l:=ek) (p:=j) (by rw [HNE.out];exact hjn)
             have HXX:=Lib.hid hx
             have HTT:=Lib.hid ht
             obtain ⟨⟨Ag',cg',eg',-,-,hRg⟩,⟨Ae',ce',ee',-,-,hRe⟩⟩:=HEW.out wr (HWM.out _ HV.out.1)
             rw [HNG.out] at eg' hRg
             rw [HNE.out] at ee' hRe
             cases eg'
             cases ee'
             obtain ⟨b2,o2,rfl,hb2,hcl2⟩:=hRg.spot (by omega) (by omega)
             obtain ⟨b3,o3,rfl,hb3,hcl3⟩:=hRe.spot (by omega) (by omega)
             have r0:wr.cell? ⟨b2,o2+j,none⟩=some (.string x):=hcl2 _ _ (str_at hx)
             have r1:wr.cell? ⟨b3,o3+j,none⟩=some (.int .i64 (t:Int)):=hcl3 _ _ (natsV_at ht)
             obtain ⟨ht1,ht2⟩:=HTI.out j x t hx ht
             have HT1:=Lib.hid ht1
             rw [HNX2.out] at ht2
             have hxT:=HES.out x (List.mem_of_getElem? hx)
             obtain ⟨kx,hkx⟩:∃ kx,idx (textsP l) x=kx:=⟨_,rfl⟩
             have HKX:=Lib.hid hkx
             have hkl2:=idx_lt hxT
             rw [HNT.out,hkx] at hkl2
             have HNL:=Lib.hid (show ∀ W,Below wM.heap.size wM W→(Instr.lookup 145 (.map (some w.heap.size)) (.string x) false).run Tryz.prog W=.ok (.int .i64 (kx:Int)) W from fun W hW=>by
              have h:=num_look (HMM.out W hW) HNT.out hxT (HSZ.out x hxT)
              rw [hkx] at h
              exact h)
             obtain ⟨L2,hL2⟩:∃ L2,(L++(le 4 kn++le 4 ng)++(es.take j).flatMap (grpBy (textsP l) (pathsP l) (tabsB l) b))=L2:=⟨_,rfl⟩
             have hl2:L2.length≤1250100000000:=by
              have h3:=flat_le (f:=grpBy (textsP l) (pathsP l) (tabsB l) b) (c:=8) (l:=es.take j) (fun r _=>by simp [grpBy,le_len])
              rw [List.length_take] at h3
              rw [←hL2,List.length_append,List.length_append,List.length_append,le_len,le_len]
              omega
             have HLQ2:=Lib.hid hL2
             rw [hL2] at HV
             have hcE:∀ W,Below wr.heap.size wr W→W.cell? ⟨b3,o3+j,none⟩=some (.int .i64 (t:Int)):=fun W hW=>(hW.cell (p:=⟨b3,o3+j,none⟩) hb3).trans r1
             clear hcl2 hcl3 hx ht ht1 hL2 hxT hkx
             have HBD:=Lib.hid (((Below.refl wr.heap.size wr).alloc (Nat.le_refl _) (.cells #[.int .i64 (kx:Int),.int .i64 (t:Int)] 3)).drew)
             have HVD:=Lib.hid (HV.out.on HBD.out)
             have HZD:=Lib.hid (HZ.out.below HBD.out HZ.out.lt)
             have HZB:=Lib.hid (show Blk ((wr.alloc (.cells #[.int .i64 (kx:Int),.int .i64 (t:Int)] 3)).drew) wr.heap.size 3 (natsV [kx,t]).toArray from (Blk.new wr 3 #[.int .i64 (kx:Int),.int .i64 (t:Int)]).drew)
             have HPA:=Lib.hid (bput_any [kx,t] L2 wM.heap.size gb wr.heap.size 2 _ rfl HVD.out.2 HZB.out (by simp;omega) (by omega) (by omega))
             have a0:((wr.alloc (.cells #[.int .i64 (kx:Int),.int .i64 (t:Int)] 3)).drew).cell? ⟨gz,2,none⟩=some (.slice (some ⟨b3,o3,none⟩) ng ce):=HZD.out.cell 2
             have a1:=hcE _ HBD.out
             have a2:=HNL.out _ HVD.out.1
             have c0:wr.cell? ⟨gz,2,none⟩=some (.slice (some ⟨b3,o3,none⟩) ng ce):=HZ.out.cell 2
             have c2:=HNL.out _ HV.out.1
             have c3:=HNL.out _ HV.out.1.drew
             have HCE:=Lib.hid hcE
             clear hcE
             go_upto_region 41 with (fail)
             go_region_held3 (fun W=>W.cell? ⟨gz,2,none⟩=some (.slice (some ⟨b3,o3,none⟩) ng ce)∧W.cell? ⟨b3,o3+j,none⟩=some (.int .i64 (t:Int))∧(Instr.lookup 145 (.map (some w.heap.size)) (.string x) false).run Tryz.prog W=.ok (.int .i64 (kx:Int)) W) (first | go_keep | (refine ⟨?_,?_,?_⟩ <;> first | assumption | simp [*])) (first
              | (go_at_call 70;go_must (refine HPA.out.mono ?_;rintro e w5 ⟨rfl,hv5,ho5⟩;have HV5:=Lib.hid (HVD.out.only hv5 ho5);have HZ5:=Lib.hid (HZD.out.grown ho5 (by simpa using hgzb));have e0:=HZ5.out.cell 2;have e1:w5.cell? ⟨b3,o3+j,none⟩=some (.int .i64 (t:Int)):=(by obtain ⟨-,⟨Ae',ce',ee',-,-,hRe⟩⟩:=HEW.out w5 (HWM.out _ HV5.out.1);rw [HNE.out] at ee' hRe;cases ee';obtain ⟨b4,o4,e4,-,hcl4⟩:=hRe.spot (by omega) (by omega);cases e4;exact hcl4 _ _ (natsV_at HTT.out));have e2:=HNL.out _ HV5.out.1;clear hv5 ho5))
              | fail "no arm")
             clear a0 a1 a2 c0 c2 c3 r0 r1 HPA
             go_wp2
             go_roundw
             case rel=>exact ⟨j+1,by go_num,hjn,by
              have h:=HV5.out
              rw [flat_next HXX.out,←List.append_assoc,HLQ2.out]
              unfold grpBy
              rw [HKX.out,←HT1.out]
              simpa using h,HZ5.out⟩
             case measure=>simp [Lib.intOf];omega
            ·obtain rfl:ng=j:=by omega
             have hq4:¬ (ng:Int)<(ng:Int):=by omega
             have HVE:=Lib.hid (show BW wM gb (preK l++(l.take (p+1)).flatMap (bookBy (textsP l) (pathsP l) (tabsB l))) wr from by
              have h:=HV.out
              rw [List.take_of_length_le (l:=es) (by rw [HNG.out];exact Nat.le_refl _)] at h
              rw [flat_next HEB.out.1,←List.append_assoc,HLQ.out]
              unfold bookBy
              rw [←HEB.out.2.2,←HEB.out.2.1,HNG.out,HKN.out,←List.append_assoc]
              exact h)
             go_wp2
             go_roundw
             case rel=>exact ⟨p+1,by go_num,hpn,HVE.out⟩
             case measure=>simp [Lib.intOf];omega
          ·obtain rfl:nK=p:=by omega
           have hq3:¬ (nK:Int)<(nK:Int):=by omega
           have HVE:=Lib.hid (show BW wM gb (bodyB l) wr from by have:=HV.out;rw [List.take_of_length_le (l:=l) (by rw [HNK2.out];exact Nat.le_refl _),←body_pre] at this;exact this)
           have hl1:=HF.out.len
           obtain ⟨L,hL⟩:∃ L,bodyB l=L:=⟨_,rfl⟩
           have HLQ:=Lib.hid hL
           rw [hL] at HVE hl1
           obtain ⟨hbl,A,c,hbk,hown,hle⟩:=HVE.out
           have HBL:=Lib.hid (HBW2.out.trans (hbl.mono HBW2.out.size))
           obtain ⟨A1,c1,e1,-,-,hR⟩:=OB.form hown
           have HRD:=Lib.hid hR
           obtain ⟨m,hm⟩:∃ m,L.length=m:=⟨_,rfl⟩
           have HMQ:=Lib.hid hm
           rw [hm] at e1 hbk hl1
           cases e1
           have HBK:=Lib.hid hbk
           clear hbl hbk hown hle hR hm hL HV
           have s0:wr.cell? ⟨gb,0,none⟩=some (.slice A m c):=HBK.out.cell 0
           have HCRC:=Lib.hid (fun (W:World) (hW:Below wr.heap.size wr W)=>(show Calls Tryz.prog 23 #[.slice A m c] W (fun e w'=>e=.returned (.int .u32 (crc L:Int))∧W=w') from by
            rw [←HMQ.out]
            exact crc_any L A c wr.heap.size W (HRD.out.below hW) (by rw [HMQ.out];simp only [maxLen];omega)))
           have HP32:=Lib.hid (fun (W:World) (hW:Below wr.heap.size wr W)=>(show Calls Tryz.prog 22 #[.slice A m c,.int .u32 (crc L:Int)] W (fun e w'=>∃ A2 m2 c2,e=.returned (.slice A2 m2 c2)∧OB w' wr.heap.size 5 (.slice A2 m2 c2) (L++le 4 (crc L))∧Below wr.heap.size wr w') from by
            rw [←HMQ.out]
            refine (put32_any L (crc L) A c wr.heap.size W (HRD.out.below hW) hW.size (by rw [HMQ.out];omega) (crc_lt L)).mono ?_
            rintro e w' ⟨v2,rfl,ho2,hb2⟩
            obtain ⟨A2,c2,rfl,-,-,-⟩:=OB.form ho2
            exact ⟨A2,_,c2,rfl,ho2.base hW.size,hW.trans (hb2.mono hW.size)⟩))
           obtain ⟨cr,hcr⟩:∃ cr,crc L=cr:=⟨_,rfl⟩
           rw [hcr] at HCRC HP32
           have HCR:=Lib.hid hcr
           clear hcr
           have HBD:=Lib.hid ((Below.refl wr.heap.size wr).drew)
           go_upto_region 44 with (fail)
           go_region_held3 (fun W=>W.cell? ⟨gb,0,none⟩=some (.slice A m c)) (go_keep) (first
            | (go_at_call 23;go_must (refine (HCRC.out _ HBD.out).mono ?_;rintro e w5 ⟨rfl,rfl⟩))
            | (go_at_call 22;go_must (refine (HP32.out _ HBD.out).mono ?_;rintro e w5 ⟨A2,m2,c2,rfl,ho5,hb5⟩;have HO5:=Lib.hid ho5;have HB5:=Lib.hid hb5;have e0:w5.cell? ⟨gb,0,none⟩=some (.slice A m c):=(HBK.out.below hb5 HBK.out.lt).cell 0;clear ho5 hb5))
            | fail "no arm")
           go_wp2
           go_ret
           exact ⟨_,rfl,by unfold bytesB;rw [HLQ.out,HCR.out];exact HO5.out.base HBL.out.size,HBL.out.trans (HB5.out.mono HBL.out.size)⟩
end
section
open Go.RowKit

/-- A bundle that is not large. -/
def InB (l:List PStep):Prop:=l.length≤520∧∀ b∈l,b.1.size≤140737488355328∧(∀ x∈b.2,x.1.size≤140737488355328∧x.2.size≤140737488355328)∧b.2.length≤16500
theorem InB.few {l:List PStep}(h:InB l):BunFew l:=⟨h.1,fun b hb=>(h.2 b hb).2.2⟩
/-- A bundle taken by value, laid out. -/
theorem lay_in {v:Value}{l:List PStep}{vs:List Value}{w:World}(h:StepsR w v l vs)(hin:InB l):∃ A c,v=.slice A l.length c∧∀ n,l.length=n →
  Calls Tryz.prog 40 #[.agg #[.slice A n c]] (w.alloc (.cells #[.slice A n c] 24)) (fun en w'=>((((checkB l).1≠0∧en=.returned (.tuple #[.pointer none,.int .i64 (checkB l).1]))∨((checkB l).1=0∧∃ g:Nat,en=.returned (.tuple #[.pointer (some ⟨g,0,none⟩),.int .i64 0])∧LayAt l g w'))∧Below w.heap.size w w')):=by
 have HS:=Lib.hid h
 obtain ⟨A,c,rfl,-,-,-,-,-⟩:=h
 refine ⟨A,c,rfl,fun n hn=>?_⟩
 subst hn
 have hb:=(Below.refl _ w).alloc (Nat.le_refl _) (.cells #[.slice A l.length c] 24)
 refine (lay_any _ l vs _ (HS.out.more hb) hin.2 hin.1).mono ?_
 rintro en w' ⟨h1,h2⟩
 refine ⟨?_,hb.trans (h2.mono (by simp))⟩
 rcases h1 with h1 | ⟨h1,g,h3,-,h4⟩
 ·exact .inl h1
 ·exact .inr ⟨h1,g,h3,h4⟩
def EncPost (l:List PStep)(w:World)(en:Ending)(w':World):Prop:=(((checkB l).1≠0∧en=.returned (.tuple #[.slice none 0 0,.int .i64 (checkB l).1]))∨((checkB l).1=0∧16777216<(bytesB l).length∧en=.returned (.tuple #[.slice none 0 0,.int .i64 3]))∨((checkB l).1=0∧(bytesB l).length≤16777216∧∃ v,en=.returned (.tuple #[v,.int .i64 0])∧OB w' w.heap.size 5 v (bytesB l)))∧Below w.heap.size w w'
theorem bytes_few {l:List PStep}(h:(checkB l).1=0)(hf:BunFew l):(bytesB l).length≤1250000000004:=by
 have:=(few_all h hf).len
 unfold bytesB
 rw [List.length_append,le_len]
 omega
theorem bytes_own {l:List PStep}{g:Nat}{w:World}(hc:(checkB l).1=0)(hf:BunFew l)(h:LayAt l g w):Calls Tryz.prog 41 #[.pointer (some ⟨g,0,none⟩)] w (fun e w'=>∃ A c,e=.returned (.slice A (bytesB l).length c)∧OB w' w.heap.size 5 (.slice A (bytesB l).length c) (bytesB l)∧Below w.heap.size w w'):=by
 refine (bbytes_any l g w hc hf h).mono ?_
 rintro e w' ⟨v,rfl,ho,hb⟩
 obtain ⟨A,c,rfl,-,-,-⟩:=OB.form ho
 exact ⟨A,c,rfl,ho,hb⟩
set_option maxHeartbeats 4000000 in
set_option maxRecDepth 100000 in
theorem bencode_any (v:Value)(l:List PStep)(vs:List Value)(w:World)(h:StepsR w v l vs)(hin:InB l) :
  Calls Tryz.prog 18 #[.agg #[v]] w (EncPost l w):=by
 obtain ⟨A,c,rfl,hla⟩:=lay_in h hin
 have HF:=Lib.hid hin.few
 obtain ⟨n,hn⟩:∃ n,l.length=n:=⟨_,rfl⟩
 have HLA:=Lib.hid (hla n hn)
 rw [hn]
 clear hla hn h hin
 obtain ⟨e0,he0⟩:∃ e0,(checkB l).1=e0:=⟨_,rfl⟩
 have HE0:=Lib.hid he0
 rw [he0] at HLA
 clear he0
 by_cases hz:e0=0
 ·subst hz
  have HLB:=Lib.hid (HLA.out.mono (R':=fun en w'=>(∃ g:Nat,en=.returned (.tuple #[.pointer (some ⟨g,0,none⟩),.int .i64 0])∧LayAt l g w')∧Below w.heap.size w w') (by
   rintro en w' ⟨h1 | ⟨-,h1⟩,h2⟩
   ·exact absurd rfl h1.1
   ·exact ⟨h1,h2⟩))
  clear HLA
  go_enter Tryz.func18,Tryz.ntmps18
  go_upto_region 4 with (go_at_call 40;go_must (refine HLB.out.mono ?_;rintro en w2 ⟨⟨g,rfl,hla⟩,hb2⟩;have HB2:=Lib.hid hb2;have HLY:=Lib.hid hla;clear hb2 hla))
  have HBY:=Lib.hid (bytes_own HE0.out HF.out HLY.out)
  have hlb:=bytes_few HE0.out HF.out
  obtain ⟨m,hm⟩:∃ m,(bytesB l).length=m:=⟨_,rfl⟩
  have HMQ:=Lib.hid hm
  rw [hm] at HBY hlb
  clear hm
  by_cases hbig:16777216<m
  ·have hbig2:(16777216:Int)<(m:Int):=by omega
   go_wp2_with (go_at_call 41;go_must (refine HBY.out.mono ?_;rintro en w3 ⟨A3,c3,rfl,ho3,hb3⟩;have HB3:=Lib.hid hb3;clear ho3 hb3))
   go_ret2
   exact ⟨.inr (.inl ⟨HE0.out,by rw [HMQ.out];exact hbig,rfl⟩),HB2.out.trans (HB3.out.mono HB2.out.size)⟩
  ·have hbig2:¬ (16777216:Int)<(m:Int):=by omega
   go_wp2_with (go_at_call 41;go_must (refine HBY.out.mono ?_;rintro en w3 ⟨A3,c3,rfl,ho3,hb3⟩;have HB3:=Lib.hid hb3;have HO3:=Lib.hid ho3;clear ho3 hb3))
   go_ret2
   exact ⟨.inr (.inr ⟨HE0.out,by rw [HMQ.out];omega,_,rfl,by rw [←HMQ.out] at HO3 ⊢;exact HO3.out.base HB2.out.size⟩),HB2.out.trans (HB3.out.mono HB2.out.size)⟩
 ·have hz1:(e0 == 0)=false:=by simpa using hz
  have HLB:=Lib.hid (HLA.out.mono (R':=fun en w'=>en=.returned (.tuple #[.pointer none,.int .i64 e0])∧Below w.heap.size w w') (by
   rintro en w' ⟨⟨-,h1⟩ | ⟨h1,-⟩,h2⟩
   ·exact ⟨h1,h2⟩
   ·exact absurd h1 hz))
  have HNO:=Lib.hid (fun (W:World) (hb:Below w.heap.size w W)=>(show EncPost l w (.returned (.tuple #[.slice none 0 0,.int .i64 e0])) W from ⟨.inl ⟨by rw [HE0.out];exact hz,by rw [HE0.out]⟩,hb⟩))
  clear HLA hz HE0
  go_enter Tryz.func18,Tryz.ntmps18
  go_wp2_with (go_at_call 40;go_must (refine HLB.out.mono ?_;rintro en w2 ⟨rfl,hb2⟩;have HB2:=Lib.hid hb2;clear hb2))
  go_ret2
  exact HNO.out _ HB2.out
end
section
open Go.RowKit Go.ChangeShapes Go.WideShapes Go.Deep

theorem pairCells_inv:∀(ps:List PKey) (j:Nat) (u:Value),(pairCells ps)[j]?=some u→∃ i,i<ps.length∧((j=i*2∧u=.string (ps.getD i (ByteArray.empty,ByteArray.empty)).1)∨(j=i*2+1∧u=.string (ps.getD i (ByteArray.empty,ByteArray.empty)).2))
 | [],j,u,h=>by simp [pairCells] at h
 | p::ps,j,u,h=>by
  have hc:pairCells (p::ps)=.string p.1::.string p.2::pairCells ps:=by simp [pairCells]
  rw [hc] at h
  match j,h with
  | 0,h=>exact ⟨0,by simp,.inl ⟨rfl,by simpa using h.symm⟩⟩
  | 1,h=>exact ⟨0,by simp,.inr ⟨rfl,by simpa using h.symm⟩⟩
  | j+2,h =>
   obtain ⟨i,hi,hx⟩:=pairCells_inv ps j u (by simpa using h)
   refine ⟨i+1,by simpa using hi,?_⟩
   rcases hx with ⟨rfl,e⟩ | ⟨rfl,e⟩
   ·exact .inl ⟨by omega,by simpa using e⟩
   ·exact .inr ⟨by omega,by simpa using e⟩
theorem weightsAll_mem {H:Type}{P:Program}{e:TypeId}{n:Nat}{d:DataW H}(hn:n∈d.weights P e):∀(l:List (DataW H)),d∈l→n∈DataW.weightsAll P e l
 | [],h=>by cases h
 | x::l,h=>by
  simp only [DataW.weightsAll,List.mem_append]
  rcases List.mem_cons.1 h with rfl | h
  ·exact .inl hn
  ·exact .inr (weightsAll_mem hn l h)
end
section
open Go.RowKit Go.ChangeShapes Go.WideShapes Go.Deep

/-- A slice of pairs of texts among the cells of something else. -/
theorem keys_of_cs {H:Type}{enc:TypeId×Value→H}{P:Program}{w:World}{t e:TypeId}{f1 f2:Field}{v:Value}{fuel:Nat}{x:DataW H×List MemPlace}
  (ht:P.underlying t=some (.slice e))(he:P.underlying e=some (.struct #[f1,f2]))(hone:oneCellFields P #[f1,f2]=true)(hC:P.cellsOf e=2)(hby:P.bytesOf e=32)
  (h1:P.underlying f1.type=some .string)(h2:P.underlying f2.type=some .string)(hwt:∀ n∈x.1.weights P t,n≤140737488351232)
  (hf:DataW.trod enc P w 0 (fun _=>true) true fuel t [v]=some x) :
  ∃(l:List PKey),KeysAt w w.heap.size v l∧(∀ x∈l,x.1.size≤140737488351232∧x.2.size≤140737488351232)∧l.length*32≤140737488351232:=by
 rcases open_slice_fields ht he hone hC hf with ⟨hcs,_⟩ | ⟨a,len,cap,m,D,Pl,hcs,_,hl,hm,hmm,hx,hi⟩
 ·simp only [List.cons.injEq,and_true] at hcs
  subst hcs
  exact ⟨[],⟨none,0,rfl,by simp,by simp [maxLen],Reads.none_⟩,by simp,by simp⟩
 ·simp only [List.cons.injEq,and_true] at hcs
  subst hcs
  have hmm':m=cap:=by simpa using hmm
  subst hmm'
  have hcell:∀ i,i<m→∃ q:PKey,w.cell? (a.add (i*2))=some (.string q.1)∧w.cell? (a.add (i*2+1))=some (.string q.2)∧(i<len→q.1.size≤140737488351232∧q.2.size≤140737488351232):=by
   intro i him
   obtain ⟨ys,n,hD,_,hyl,hfs⟩:=hi i him
   obtain ⟨v1,y1,hc1,hy1,ht1⟩:=hfs 0 f1 rfl
   obtain ⟨v2,y2,hc2,hy2,ht2⟩:=hfs 1 f2 rfl
   obtain ⟨n1,e1,w1,-⟩:=DataW.trod_string h1 ht1
   obtain ⟨n2,e2,w2,-⟩:=DataW.trod_string h2 ht2
   simp only [List.cons.injEq,and_true] at e1 e2
   subst e1;subst e2;subst w1;subst w2
   refine ⟨(n1,n2),by simpa using hc1,by simpa using hc2,fun hil=>?_⟩
   obtain ⟨a1,a2,rfl⟩:∃ a1 a2,ys=[a1,a2]:=by
    match ys,hyl with
    | [a1,a2],_=>exact ⟨a1,a2,rfl⟩
   simp only [List.getElem?_cons_zero,List.getElem?_cons_succ,Option.some.injEq] at hy1 hy2
   subst hy1;subst hy2
   have hmem:∀ k,k∈(D i).weights P e→k≤140737488351232:=fun k hk=>by
    refine hwt k ?_
    rw [hx]
    simp only [DataW.weights,ht,List.mem_cons,List.mem_append]
    exact .inr (.inl (weightsAll_mem hk _ (List.mem_map.2 ⟨i,List.mem_range.2 hil,rfl⟩)))
   have hw2:(D i).weights P e=[n1.data.toList.length,n2.data.toList.length]:=by
    rw [hD]
    simp only [DataW.weights,he]
    simp [DataW.weightsEach,DataW.weights]
   have g1:=hmem n1.data.toList.length (by rw [hw2];simp)
   have g2:=hmem n2.data.toList.length (by rw [hw2];simp)
   exact ⟨by simpa using g1,by simpa using g2⟩
  obtain ⟨f,hf'⟩:=choose_lt hcell
  have hget:∀ i,i<len→((List.range len).map f).getD i (ByteArray.empty,ByteArray.empty)=f i:=fun i hi'=>by simp [List.getD_eq_getElem?_getD,hi']
  refine ⟨(List.range len).map f,⟨some a,m,by simp,by simpa using hl,hm,⟨by simp [pairCells_len],fun hn=>⟨a,rfl,?_,fun j u hu=>?_⟩⟩⟩,fun q hq=>?_,?_⟩
  ·have hn':0<len:=by simpa using hn
   have:=World.block_lt_of_cell? _ _ (hf' 0 (by omega)).1
   rwa [block_of_add] at this
  ·obtain ⟨i,hi',hju⟩:=pairCells_inv _ j u hu
   have hi2:i<len:=by simpa using hi'
   rw [hget i hi2] at hju
   rcases hju with ⟨rfl,rfl⟩ | ⟨rfl,rfl⟩
   ·exact (hf' i (by omega)).1
   ·exact (hf' i (by omega)).2.1
  ·obtain ⟨i,hi',rfl⟩:=List.mem_map.1 hq
   have:=List.mem_range.1 hi'
   exact (hf' i (by omega)).2.2 this
  ·have hw1:=hwt ((len+(m-len))*P.bytesOf e) (by rw [hx];simp only [DataW.weights,ht,List.length_map,List.length_range];simp)
   rw [hby] at hw1
   simp only [List.length_map,List.length_range]
   omega
theorem stepCells_inv:∀(l:List PStep) (vs:List Value) (j:Nat) (u:Value),vs.length=l.length→(stepCells l vs)[j]?=some u→∃ i,i<l.length∧((j=i*2∧u=.string (l.getD i (ByteArray.empty,[])).1)∨(j=i*2+1∧u=vs.getD i .nilIface))
 | [],[],j,u,_,h=>by simp [stepCells] at h
 | p::l,v::vs,j,u,hl,h=>by
  have hc:stepCells (p::l) (v::vs)=.string p.1::v::stepCells l vs:=rfl
  rw [hc] at h
  match j,h with
  | 0,h=>exact ⟨0,by simp,.inl ⟨rfl,by simpa using h.symm⟩⟩
  | 1,h=>exact ⟨0,by simp,.inr ⟨rfl,by simpa using h.symm⟩⟩
  | j+2,h =>
   obtain ⟨i,hi,hx⟩:=stepCells_inv l vs j u (by simpa using hl) (by simpa using h)
   refine ⟨i+1,by simpa using hi,?_⟩
   rcases hx with ⟨rfl,e⟩ | ⟨rfl,e⟩
   ·exact .inl ⟨by omega,by simpa using e⟩
   ·exact .inr ⟨by omega,by simpa using e⟩
 | [],_::_,_,_,hl,_=>by simp at hl
 | _::_,[],_,_,hl,_=>by simp at hl
/-- What is told of the sizes of a bundle that came in. -/
def BunIn (l:List PStep):Prop:=l.length*40≤140737488351232∧∀ b∈l,b.1.size≤140737488351232∧(∀ x∈b.2,x.1.size≤140737488351232∧x.2.size≤140737488351232)∧b.2.length*32≤140737488351232
/-- A slice of Books. -/
theorem books_of_cs {H:Type}{enc:TypeId×Value→H}{P:Program}{w:World}{t e t2 e2:TypeId}{g1 g2 f1 f2:Field}{v:Value}{fuel:Nat}{x:DataW H×List MemPlace}
  (ht:P.underlying t=some (.slice e))(he:P.underlying e=some (.struct #[g1,g2]))(hone:oneCellFields P #[g1,g2]=true)(hC:P.cellsOf e=2)(hby:P.bytesOf e=40)
  (hg1:P.underlying g1.type=some .string)(hg2:g2.type=t2)(ht2:P.underlying t2=some (.slice e2))(he2:P.underlying e2=some (.struct #[f1,f2]))(hone2:oneCellFields P #[f1,f2]=true)(hC2:P.cellsOf e2=2)(hby2:P.bytesOf e2=32)
  (h1:P.underlying f1.type=some .string)(h2:P.underlying f2.type=some .string)(hwt:∀ n∈x.1.weights P t,n≤140737488351232)
  (hf:DataW.trod enc P w 0 (fun _=>true) true fuel t [v]=some x) :
  ∃(l:List PStep) (vs:List Value),StepsR w v l vs∧BunIn l:=by
 subst hg2
 rcases open_slice_fields ht he hone hC hf with ⟨hcs,_⟩ | ⟨a,len,cap,m,D,Pl,hcs,_,hl,hm,hmm,hx,hi⟩
 ·simp only [List.cons.injEq,and_true] at hcs
  subst hcs
  exact ⟨[],[],⟨none,0,rfl,by simp,by simp [maxLen],Reads.none_,rfl,by simp⟩,by simp,by simp⟩
 ·simp only [List.cons.injEq,and_true] at hcs
  subst hcs
  have hmm':m=cap:=by simpa using hmm
  subst hmm'
  have hcell:∀ i,i<m→∃ q:PStep×Value,w.cell? (a.add (i*2))=some (.string q.1.1)∧w.cell? (a.add (i*2+1))=some q.2∧(i<len→q.1.1.size≤140737488351232∧KeysAt w w.heap.size q.2 q.1.2∧(∀ x∈q.1.2,x.1.size≤140737488351232∧x.2.size≤140737488351232)∧q.1.2.length*32≤140737488351232):=by
   intro i him
   obtain ⟨ys,n,hD,_,hyl,hfs⟩:=hi i him
   obtain ⟨v1,y1,hc1,hy1,ht1⟩:=hfs 0 g1 rfl
   obtain ⟨v2,y2,hc2,hy2,hk2⟩:=hfs 1 g2 rfl
   obtain ⟨n1,e1,w1,-⟩:=DataW.trod_string hg1 ht1
   simp only [List.cons.injEq,and_true] at e1
   subst e1;subst w1
   obtain ⟨a1,a2,rfl⟩:∃ a1 a2,ys=[a1,a2]:=by
    match ys,hyl with
    | [a1,a2],_=>exact ⟨a1,a2,rfl⟩
   simp only [List.getElem?_cons_zero,List.getElem?_cons_succ,Option.some.injEq] at hy1 hy2
   subst hy1;subst hy2
   by_cases hil:i<len
   ·have hmem:∀ k,k∈(D i).weights P e→k≤140737488351232:=fun k hk=>by
     refine hwt k ?_
     rw [hx]
     simp only [DataW.weights,ht,List.mem_cons,List.mem_append]
     exact .inr (.inl (weightsAll_mem hk _ (List.mem_map.2 ⟨i,List.mem_range.2 hil,rfl⟩)))
    have hw2:(D i).weights P e=n1.data.toList.length::a2.1.weights P g2.type:=by
     rw [hD]
     simp only [DataW.weights,he]
     simp [DataW.weightsEach,DataW.weights]
    obtain ⟨lk,hk3,hk4,hk5⟩:=keys_of_cs ht2 he2 hone2 hC2 hby2 h1 h2 (fun k hk=>hmem k (by rw [hw2];exact List.mem_cons_of_mem _ hk)) hk2
    have g1:=hmem n1.data.toList.length (by rw [hw2];simp)
    exact ⟨((n1,lk),v2),by simpa using hc1,by simpa using hc2,fun _=>⟨by simpa using g1,hk3,hk4,hk5⟩⟩
   ·exact ⟨((n1,[]),v2),by simpa using hc1,by simpa using hc2,fun h=>absurd h hil⟩
  obtain ⟨f,hf'⟩:=choose_lt hcell
  have hget:∀ i,i<len→((List.range len).map fun i=>(f i).1).getD i (ByteArray.empty,[])=(f i).1:=fun i hi'=>by simp [List.getD_eq_getElem?_getD,hi']
  have hget2:∀ i,i<len→((List.range len).map fun i=>(f i).2).getD i .nilIface=(f i).2:=fun i hi'=>by simp [List.getD_eq_getElem?_getD,hi']
  refine ⟨(List.range len).map fun i=>(f i).1,(List.range len).map fun i=>(f i).2,⟨some a,m,by simp,by simpa using hl,hm,⟨by rw [stepCells_len _ _ (by simp)],fun hn=>⟨a,rfl,?_,fun j u hu=>?_⟩⟩,by simp,fun i st kv hst hkv=>?_⟩,?_,fun q hq=>?_⟩
  ·have hn':0<len:=by simpa using hn
   have:=World.block_lt_of_cell? _ _ (hf' 0 (by omega)).1
   rwa [block_of_add] at this
  ·obtain ⟨i,hi',hju⟩:=stepCells_inv _ _ j u (by simp) hu
   have hi2:i<len:=by simpa using hi'
   rw [hget i hi2,hget2 i hi2] at hju
   rcases hju with ⟨rfl,rfl⟩ | ⟨rfl,rfl⟩
   ·exact (hf' i (by omega)).1
   ·exact (hf' i (by omega)).2.1
  ·have hi2:i<len:=by simpa using (List.getElem?_eq_some_iff.1 hst).1
   simp [hi2] at hst hkv
   rw [←hst,←hkv]
   exact ((hf' i (by omega)).2.2 hi2).2.1
  ·have hw1:=hwt ((len+(m-len))*P.bytesOf e) (by rw [hx];simp only [DataW.weights,ht,List.length_map,List.length_range];simp)
   rw [hby] at hw1
   simp only [List.length_map,List.length_range]
   omega
  ·obtain ⟨i,hi',rfl⟩:=List.mem_map.1 hq
   have hi2:=List.mem_range.1 hi'
   have:=(hf' i (by omega)).2.2 hi2
   exact ⟨this.1,this.2.2.1,this.2.2.2⟩
/-- A bundle that came in. -/
theorem bundle_of_trod {H:Type}{enc:TypeId×Value→H}{P:Program}{w:World}{b0:Nat}{tb t e t2 e2:TypeId}{k1 g1 g2 f1 f2:Field}{v:Value}{d:DataW H}{p:List MemPlace}
  (htb:P.underlying tb=some (.struct #[k1]))(hk1:k1.type=t)(ho1:k1.offset=0)(hct:P.cellsOf t=1)(hctb:P.cellsOf tb=1)
  (ht:P.underlying t=some (.slice e))(he:P.underlying e=some (.struct #[g1,g2]))(hone:oneCellFields P #[g1,g2]=true)(hC:P.cellsOf e=2)(hby:P.bytesOf e=40)
  (hg1:P.underlying g1.type=some .string)(hg2:g2.type=t2)(ht2:P.underlying t2=some (.slice e2))(he2:P.underlying e2=some (.struct #[f1,f2]))(hone2:oneCellFields P #[f1,f2]=true)(hC2:P.cellsOf e2=2)(hby2:P.bytesOf e2=32)
  (h1:P.underlying f1.type=some .string)(h2:P.underlying f2.type=some .string)(hwt:∀ n∈d.weights P tb,n≤140737488351232)
  (hv:Value.okWide P w .any b0 tb v)(h:DataW.Trod enc P w 0 (fun _=>true) true tb v d p) :
  ∃(u:Value) (l:List PStep) (vs:List Value),v=.agg #[u]∧StepsR w u l vs∧BunIn l:=by
 subst hk1
 unfold Value.okWide at hv
 rw [htb] at hv
 obtain ⟨cs,rfl,-,-⟩:=hv
 obtain ⟨fuel,hf⟩:=h
 obtain ⟨y0,n,hx,hcl,hy⟩:=trod_struct1 htb hf
 rw [hctb] at hcl
 obtain ⟨u,hu⟩:∃ u,(Value.agg cs).cells.toList=[u]:=by
  match hh:(Value.agg cs).cells.toList,hcl with
  | [u],_=>exact ⟨u,rfl⟩
 rw [hu,ho1,hct] at hy
 simp only [Prod.mk.injEq] at hx
 obtain ⟨l,vs,hs,hb⟩:=books_of_cs ht he hone hC hby hg1 hg2 ht2 he2 hone2 hC2 hby2 h1 h2 (x:=y0) (fun k hk=>hwt k (by
  rw [hx.1]
  simp only [DataW.weights,htb]
  simp [DataW.weightsEach,hk])) (by simpa using hy)
 have hcs:cs=#[u]:=Array.toList_inj.1 (show cs.toList=_ from hu)
 exact ⟨u,l,vs,by rw [hcs],hs,hb⟩
end
section
open Go.RowKit

/-- Operation m waits for operation i. -/
def waitsB (ops:Array Oper)(m i:Nat):Bool:=((ops[m]?).map fun o=>o.after.any fun e=>Region.binds .any e && e.on == i).getD false
section
variable {P:Program} {ops:Array Oper} {Q:Exit→Act→World→Prop} {S:World→Prop} {m:Nat}
end
end
section
open Go.RowKit

/-- A bundle in rows of its own. -/
def BunOwn (W:World)(base:Nat)(v:Value)(l:List PStep)(vs:List Value):Prop:=W.ownsRow base 41 2 v l.length (stepCells l vs)∧vs.length=l.length∧∀(i:Nat) (b:PStep) (kv:Value),l[i]?=some b→vs[i]?=some kv→W.ownsRow base 71 2 kv b.2.length (pairCells b.2)
theorem BunOwn.nil (W:World)(base:Nat):BunOwn W base (.slice none 0 0) [] []:=⟨World.ownsRow_nil _ _ _ _,rfl,fun i b kv h=>by simp at h⟩
theorem BunOwn.steps {W:World}{base:Nat}{v:Value}{l:List PStep}{vs:List Value}(h:BunOwn W base v l vs):StepsR W v l vs:=by
 obtain ⟨h1,h2,h3⟩:=h
 obtain ⟨A,c,rfl,a1,a2,a3⟩:=own_form h1
 refine ⟨A,c,rfl,a1,a2,a3,h2,fun i b kv hb hk=>?_⟩
 obtain ⟨A',c',rfl,b1,b2,b3⟩:=own_form (h3 i b kv hb hk)
 exact ⟨A',c',rfl,b1,b2,b3⟩
theorem BunOwn.on {W W':World}{base:Nat}{v:Value}{l:List PStep}{vs:List Value}(h:BunOwn W base v l vs)(hb:Below W.heap.size W W'):BunOwn W' base v l vs:=⟨own_more h.1 hb,h.2.1,fun i b kv h1 h2=>own_more (h.2.2 i b kv h1 h2) hb⟩
theorem BunOwn.base {W:World}{base base':Nat}{v:Value}{l:List PStep}{vs:List Value}(h:BunOwn W base v l vs)(hb:base'≤base):BunOwn W base' v l vs:=⟨own_base h.1 hb,h.2.1,fun i b kv h1 h2=>own_base (h.2.2 i b kv h1 h2) hb⟩
/-- .. and with one Book more. -/
theorem BunOwn.push {W W':World}{base:Nat}{v v':Value}{l:List PStep}{vs:List Value}(h:BunOwn W base v l vs)(b:PStep){kv:Value}{n:Nat}(hn:l.length=n)(hk:W.ownsRow base 71 2 kv b.2.length (pairCells b.2))(hown:W'.ownsRow base 41 2 v' (n+1) (stepCells l vs++[.string b.1,kv]))(hg:W.grownBy W' v.ownBlock):BunOwn W' base v' (l++[b]) (vs++[kv]):=by
 subst hn
 obtain ⟨h1,h2,h3⟩:=h
 refine ⟨by rw [stepCells_append l vs b kv h2,List.length_append];exact hown,by simp [h2],fun i c ku hi hj=>?_⟩
 rcases Nat.lt_or_ge i l.length with hl | hl
 ·rw [List.getElem?_append_left hl] at hi
  rw [List.getElem?_append_left (by omega)] at hj
  exact own_stays (h3 i c ku hi hj) h1 (by decide) hg
 ·rw [List.getElem?_append_right hl] at hi
  rw [List.getElem?_append_right (by omega)] at hj
  have h0:i-l.length=0:=by
   have:=(List.getElem?_eq_some_iff.1 hi).1
   simp at this
   omega
  rw [h0] at hi
  rw [show i-vs.length=0 by omega] at hj
  cases hi
  cases hj
  exact own_stays hk h1 (by decide) hg
theorem bookI:(Tryz.prog.info? 41).map (fun i=>(i.zero,i.size,i.bytes))=some (some (.agg #[.string ByteArray.empty,.slice none 0 0]),2,40):=by kernel_rfl
theorem valueI:(Tryz.prog.info? 71).map (fun i=>(i.zero,i.size,i.bytes))=some (some (.agg #[.string ByteArray.empty,.string ByteArray.empty]),2,32):=by kernel_rfl
theorem bundle_size:(Tryz.prog.info? 24).map (·.size)=some 1:=by kernel_rfl
end
section
open Go.RowKit

/-- All operations from m on wait for operation i. -/
def waitsN (ops:Array Oper):Nat→Nat→Nat→Bool
 | 0,k,i=>waitsB ops k i
 | n+1,k,i=>waitsB ops k i || (List.range ops.size).any fun j=>waitsB ops k j && waitsN ops n j i
def lateB (ops:Array Oper)(m i:Nat):Bool:=(List.range ops.size).all fun k=>decide (k<m) || waitsN ops 3 k i
/-- What a listed operation waits for is listed. -/
def Closed (ops:Array Oper)(listed:Array Bool):Prop:=∀(p:Nat) (o:Oper),ops[p]?=some o→listed.getD p true=true→∀ e∈o.after,Region.binds .any e=true→listed.getD e.on false=true
def closedB (ops:Array Oper)(listed:Array Bool):Bool:=(List.range ops.size).all fun p=>!(listed.getD p true) || ((ops[p]?).map fun o=>o.after.all fun e=>!(Region.binds .any e) || listed.getD e.on false).getD true
theorem closed_of {ops:Array Oper}{listed:Array Bool}(h:closedB ops listed=true):Closed ops listed:=by
 intro p o ho hl e he hb
 have h1:=List.all_eq_true.1 h p (by simpa using (Array.getElem?_eq_some_iff.1 ho).1)
 simp only [ho,hl,Option.map_some,Option.getD_some,Bool.not_true,Bool.false_or,Array.all_eq_true_iff_forall_mem] at h1
 have h2:=h1 e he
 simpa [hb] using h2
theorem waits_dir {ops:Array Oper}{k i:Nat}(h:waitsB ops k i=true):∃ o,ops[k]?=some o∧∃ e∈o.after,Region.binds .any e=true∧e.on=i:=by
 unfold waitsB at h
 cases ho:ops[k]? with
 | none=>rw [ho] at h;cases h
 | some o =>
  rw [ho] at h
  simp only [Option.map_some,Option.getD_some,Array.any_eq_true] at h
  obtain ⟨q,hq,he⟩:=h
  simp only [Bool.and_eq_true,beq_iff_eq] at he
  exact ⟨o,rfl,_,Array.getElem_mem hq,he.1,he.2⟩
theorem waits_listed {ops:Array Oper}{listed:Array Bool}(hc:Closed ops listed):∀(n k i:Nat),(∀ o,ops[k]?=some o→∀ e∈o.after,Region.binds .any e=true→listed.getD e.on false=true)→waitsN ops n k i=true→listed.getD i false=true
 | 0,k,i,hk,h=>by
  obtain ⟨o,ho,e,he,hb,rfl⟩:=waits_dir h
  exact hk o ho e he hb
 | n+1,k,i,hk,h=>by
  simp only [waitsN,Bool.or_eq_true,List.any_eq_true,Bool.and_eq_true] at h
  rcases h with h | ⟨j,-,h1,h2⟩
  ·obtain ⟨o,ho,e,he,hb,rfl⟩:=waits_dir h
   exact hk o ho e he hb
  ·obtain ⟨o,ho,e,he,hb,rfl⟩:=waits_dir h1
   have h3:=hk o ho e he hb
   have h4:listed.getD e.on true=true:=by
    rcases Nat.lt_or_ge e.on listed.size with h' | h'
    ·simp [h'] at h3 ⊢
     exact h3
    ·simp [Array.getElem?_eq_none h'] at h3
   exact waits_listed hc n e.on i (fun o2 ho2=>hc e.on o2 ho2 h4) h2
/-- Whatever order is picked, and S holds behind each operation ahead of m. -/
def wpAnyM (P:Program)(ops:Array Oper)(Q:Exit→Act→World→Prop)(S:World→Prop)(m:Nat):Nat→Array Bool→Act→World→Prop
 | 0,listed,a,w=>Region.ready .any ops listed=[]∧Q .normal a w
 | fuel+1,listed,a,w =>
  (Region.ready .any ops listed=[]→Q .normal a w) ∧
  ∀ i∈Region.ready .any ops listed,wpOp P ops Q i (fun a' w'=>(i<m→S w')∧wpAnyM P ops Q S m fuel (listed.setIfInBounds i true) a' w') a w
section
variable {P:Program} {ops:Array Oper} {Q:Exit→Act→World→Prop} {S:World→Prop} {m:Nat}
theorem wpAny_of_M:∀(fuel:Nat) (listed:Array Bool) (a:Act) (w:World),wpAnyM P ops Q S m fuel listed a w→wpAny P .any ops Q fuel listed a w
 | 0,_,_,_,h=>h
 | fuel+1,_,_,_,h=>⟨h.1,fun i hi=>wpOp_mono (fun a' w' h'=>wpAny_of_M fuel _ a' w' h'.2) (h.2 i hi)⟩
theorem late_lt {i j:Nat}{oj:Oper}{listed:Array Bool}(hw:lateB ops m i=true)(hc:Closed ops listed)(hoj:ops[j]?=some oj)(hall:∀ e∈oj.after,Region.binds .any e=true→listed.getD e.on false=true)(hi:listed.getD i true=false):j<m:=by
 have h1:=List.all_eq_true.1 hw j (by simpa using (Array.getElem?_eq_some_iff.1 hoj).1)
 simp only [Bool.or_eq_true,decide_eq_true_eq] at h1
 rcases h1 with h | h
 ·exact h
 ·have h2:=waits_listed hc 3 j i (fun o ho=>by rw [hoj] at ho;cases ho;exact hall) h
  rcases Nat.lt_or_ge i listed.size with h' | h'
  ·simp [h'] at h2 hi
   rw [h2] at hi
   cases hi
  ·simp [Array.getElem?_eq_none h'] at h2
theorem closed_set {listed:Array Bool}{j:Nat}{oj:Oper}(hc:Closed ops listed)(hoj:ops[j]?=some oj)(hall:∀ e∈oj.after,Region.binds .any e=true→listed.getD e.on false=true):Closed ops (listed.setIfInBounds j true):=by
 intro p o ho hl e he hb
 refine getD_set_true ?_
 by_cases hpj:j=p
 ·subst hpj
  rw [hoj] at ho
  cases ho
  exact hall e he hb
 ·rw [getD_set_ne true hpj] at hl
  exact hc p o ho hl e he hb
theorem wpAnyM_first {i:Nat}{oi:Oper}{v:Value}(hi:ops[i]?=some oi)(hw:lateB ops m i=true)(hsel:∀(j:Nat) (o:Oper) cs b,ops[j]?=some o→o.op≠.select cs b)
  (hQ:∀ c a w,Q (.panic c) (a.put oi.dst v) w→Q (.panic c) a w) :
  ∀(fuel:Nat) (listed:Array Bool) (a:Act) (w:World),Closed ops listed →
   (∀ j oj,ops[j]?=some oj→j≠i→listed.getD j true=false→(∀ e∈oj.after,Region.binds .any e=true→e.on≠i)→oi.apart ops oj=true) →
   i∈Region.ready .any ops listed→YieldsIf P ops S oi v a→S w →
   wpAnyM P ops Q S m fuel (listed.setIfInBounds i true) (a.put oi.dst v) w→wpAnyM P ops Q S m (fuel+1) listed a w:=by
 intro fuel
 induction fuel with
 | zero =>
  intro listed a w _ _ hr hy hS H
  refine ⟨fun h=>(by rw [h] at hr;cases hr),fun j hj=>?_⟩
  by_cases hji:j=i
  ·subst hji;exact hy.wpOp hi hS ⟨fun _=>hS,H⟩
  ·have:=ready_mono hj hji
   rw [H.1] at this
   cases this
 | succ fuel ih =>
  intro listed a w hcl hfree hr hy hS H
  refine ⟨fun h=>(by rw [h] at hr;cases hr),fun j hj=>?_⟩
  by_cases hji:j=i
  ·subst hji;exact hy.wpOp hi hS ⟨fun _=>hS,H⟩
  ·have h1:=H.2 j (ready_mono hj hji)
   obtain ⟨hjun,oj,hoj,hall⟩:=mem_ready.1 hj
   have hnot:∀ e∈oj.after,Region.binds .any e=true→e.on≠i:=fun e he hb heq=>by
    have h1:=hall e he hb
    have h0:=(mem_ready.1 hr).1
    rw [heq] at h1
    rcases Nat.lt_or_ge i listed.size with h' | h'
    ·simp [h'] at h0 h1;rw [h0] at h1;cases h1
    ·simp [Array.getElem?_eq_none h'] at h1
   have hjm:=late_lt hw hcl hoj hall (mem_ready.1 hr).1
   have h2:=wpOp_putIf hoj (hfree j oj hoj hji hjun hnot) (fun cs b=>hsel i oi cs b hi) (fun cs b=>hsel j oj cs b hoj) hQ hy h1
   have hfree':∀ k ok,ops[k]?=some ok→k≠i→(listed.setIfInBounds j true).getD k true=false →
     (∀ e∈ok.after,Region.binds .any e=true→e.on≠i)→oi.apart ops ok=true:=fun k ok hk hki hun hno=>by
    refine hfree k ok hk hki ?_ hno
    by_cases hjk:j=k
    ·subst hjk;exact hjun
    ·rw [getD_set_ne true hjk] at hun;exact hun
   refine wpOp_mono (fun a' w' h3=>⟨h3.2.1,ih (listed.setIfInBounds j true) a' w' (closed_set hcl hoj hall) hfree' (ready_mono hr (Ne.symm hji)) h3.1 (h3.2.1 hjm) ?_⟩) h2
   rw [Array.setIfInBounds_comm _ _ hji]
   exact h3.2.2
theorem wpAnyM_take {i:Nat}{oi:Oper}{d:Option Tmp}{v:Value}{fuel:Nat}{listed:Array Bool}{a:Act}{w:World}(hi:ops[i]?=some oi)(hd:oi.dst=d)(hw:lateB ops m i=true)(hc:closedB ops listed=true)
  (hs:Region.noSelect ops=true)(hf:Region.free .any ops listed i=true)(hr:(Region.ready .any ops listed).contains i=true)
  (hQ:∀ c a w,Q (.panic c) (a.put d v) w→Q (.panic c) a w)(hy:YieldsIf P ops S oi v a)(hS:S w)
  (h:wpAnyM P ops Q S m fuel (listed.setIfInBounds i true) (a.put d v) w):wpAnyM P ops Q S m (fuel+1) listed a w:=by
 subst hd
 exact wpAnyM_first hi hw (Region.noSelect_spec hs) hQ fuel listed a w (closed_of hc) (Region.free_spec hi hf) (by simpa using hr) hy hS h
/-- What is owed where operation i comes up ahead of m; from m on. -/
def OweE (P:Program)(ops:Array Oper)(Q:Exit→Act→World→Prop)(S:World→Prop)(m fuel:Nat)(listed:Array Bool)(a:Act)(w:World)(i:Nat):Prop:=wpOp P ops Q i (fun a' w'=>(i<m→S w')∧wpAnyM P ops Q S m fuel (listed.setIfInBounds i true) a' w') a w
theorem wpAnyM_all {rs:List Nat}{fuel:Nat}{listed:Array Bool}{a:Act}{w:World}(hr:Region.ready .any ops listed=rs)(hne:rs≠[])(h:∀ i∈rs,OweE P ops Q S m fuel listed a w i):wpAnyM P ops Q S m (fuel+1) listed a w :=
 ⟨fun h0=>absurd (hr ▸ h0) hne,fun i hi=>h i (hr ▸ hi)⟩
theorem wpAnyM_one {i:Nat}{fuel:Nat}{listed:Array Bool}{a:Act}{w:World}(hr:Region.ready .any ops listed=[i])(h:OweE P ops Q S m fuel listed a w i):wpAnyM P ops Q S m (fuel+1) listed a w :=
 wpAnyM_all hr (by simp) fun j hj=>by rw [List.mem_singleton.1 hj];exact h
theorem wpAnyM_two {i j:Nat}{fuel:Nat}{listed:Array Bool}{a:Act}{w:World}(hr:Region.ready .any ops listed=[i,j])(h:OweE P ops Q S m fuel listed a w i)(h2:OweE P ops Q S m fuel listed a w j):wpAnyM P ops Q S m (fuel+1) listed a w :=
 wpAnyM_all hr (by simp) fun k hk=>by
  rcases List.mem_cons.1 hk with rfl | hk
  ·exact h
  ·rw [List.mem_singleton.1 hk];exact h2
theorem owe_early {i:Nat}{o:Oper}{d:Option Tmp}{fuel:Nat}{listed:Array Bool}{a:Act}{w:World}(ho:ops[i]?=some o)(hd:o.dst=d)
  (h:∀ K':Act→World→Prop,Shut (∀ v w,S w→(S w→wpAnyM P ops Q S m fuel (listed.setIfInBounds i true) (a.put d v) w)→K' (a.put o.dst v) w)→if Region.wanted o (yielded ops a.tmps)=true then Oper.wp P o a w K' Q else K' (a.put o.dst undef) w):OweE P ops Q S m fuel listed a w i:=by
 subst hd
 exact wpOp_step ho fun K' hK=>h K' fun v w hS hW=>hK _ w ⟨fun _=>hS,hW hS⟩
theorem owe_late {i:Nat}{o:Oper}{d:Option Tmp}{fuel:Nat}{listed:Array Bool}{a:Act}{w:World}(ho:ops[i]?=some o)(hd:o.dst=d)(hm:m≤i)
  (h:∀ K':Act→World→Prop,Shut (∀ v w,wpAnyM P ops Q S m fuel (listed.setIfInBounds i true) (a.put d v) w→K' (a.put o.dst v) w)→if Region.wanted o (yielded ops a.tmps)=true then Oper.wp P o a w K' Q else K' (a.put o.dst undef) w):OweE P ops Q S m fuel listed a w i:=by
 subst hd
 exact wpOp_step ho fun K' hK=>h K' fun v w hW=>hK _ w ⟨fun hi=>absurd hi (Nat.not_lt.2 hm),hW⟩
theorem wpAnyM_done {listed:Array Bool}{a:Act}{w:World}(hr:Region.ready .any ops listed=[])(h:Q .normal a w):∀ fuel,wpAnyM P ops Q S m fuel listed a w
 | 0=>⟨hr,h⟩
 | _+1=>⟨fun _=>h,by rw [hr];simp⟩
theorem wp_region_M {id:Nat}{a:Act}{w:World}(S:World→Prop)(m:Nat)(hm:P.follows .mixedOrders=true)(hS:S w.drew)
  (h:S w.drew→wpAnyM P ops Q S m ops.size (Array.replicate ops.size false) a w.drew):(Code.region id ops true).wp P Q a w :=
 wp_region_any hm (wpAny_of_M _ _ _ _ (h hS))
end
end
section
open Go.RowKit

theorem below_drawsK (w:World)(k:Nat):Below w.heap.size w (w.drewN k):=((Only.refl w.heap.size w).drewN k).below (B:=w.heap.size) (Nat.le_refl _) (Nat.le_refl _)
theorem below_draws (w:World)(k:Nat):Below w.heap.size w (w.drew.drewN k):=((Below.refl _ w).drew).trans (below_drawsK w.drew k)
/-- The reader at block g stands at s. -/
def RdS (w:World)(g:Nat)(A:Option Addr)(c:Nat)(l:List UInt8)(s:RS):Prop:=Rd w g A c l s.1 s.2
theorem RdS.on {w w':World}{g c:Nat}{A:Option Addr}{l:List UInt8}{s:RS}(h:RdS w g A c l s)(hb:Below w.heap.size w w'):RdS w' g A c l s:=after_own h hb
theorem RdS.lt {w:World}{g c:Nat}{A:Option Addr}{l:List UInt8}{s:RS}(h:RdS w g A c l s):g<w.heap.size:=h.blk.lt
theorem RdS.grown {w w':World}{g c:Nat}{A:Option Addr}{l:List UInt8}{s:RS}{row:Option Nat}(h:RdS w g A c l s)(hg:w.grownBy w' row)(hr:∀ k,row=some k→g<k):RdS w' g A c l s:=by
 have hb:Below g w w':=(Below.refl g w).grown hg (Nat.le_of_lt h.blk.lt) (fun k hk=>Nat.le_of_lt (hr k hk))
 exact ⟨h.blk.grown hg (fun e=>by have:=hr _ e.symm;omega),h.rb.below hb,h.lc,h.cm,h.le⟩
theorem ru32 {w:World}{g c:Nat}{A:Option Addr}{l:List UInt8}{s:RS}(h:RdS w g A c l s):Calls Tryz.prog 53 #[.pointer (some ⟨g,0,none⟩)] w fun e w'=>e=.returned (.int .u32 ((rdN l s).1:Int))∧RdS w' g A c l (rdN l s).2∧Only g w w' :=
 (u32_any g c A l s.1 s.2 w h).mono fun _ _ h=>h
theorem rraw {w:World}{g c:Nat}{A:Option Addr}{l:List UInt8}{s:RS}(h:RdS w g A c l s)(hl:l.length≤140737488355328)(n:Int):Calls Tryz.prog 49 #[.pointer (some ⟨g,0,none⟩),.int .i64 n] w fun e w'=>∃ v,e=.returned v∧OB w' w.heap.size 5 v (takeM l s.1 s.2 n).1∧RdS w' g A c l (skN l n s)∧Only g w w' :=
 (raw_any g c A l s.1 s.2 n w h hl).mono fun _ _ h=>h
theorem rleft {w:World}{g c:Nat}{A:Option Addr}{l:List UInt8}{s:RS}(h:RdS w g A c l s):Calls Tryz.prog 55 #[.pointer (some ⟨g,0,none⟩)] w fun e w'=>e=.returned (.int .i64 ((l.length:Int)-s.1))∧∃ k,w.drewN k=w':=left_any g c A l s.1 s.2 w h
theorem rerr {w:World}{g c:Nat}{A:Option Addr}{l:List UInt8}{s:RS}(h:RdS w g A c l s):Calls Tryz.prog 54 #[.pointer (some ⟨g,0,none⟩)] w fun e w'=>e=.returned (.int .i64 s.2)∧w=w':=err_any g c A l s.1 s.2 w h
set_option maxHeartbeats 400000 in
/-- Read: the reader's own bytes lie in a new block. -/
theorem oread_any (l:List UInt8)(A:Option Addr)(c n:Nat)(w:World)(hr:RB w w.heap.size A l)(hn:l.length=n)(hlen:n≤140737488355328) :
  Calls Tryz.prog 48 #[.slice A n c] w fun e w'=>∃ g A' c',e=.returned (.pointer (some ⟨g,0,none⟩))∧RdS w' g A' c' l (0,0)∧(w.heap.size≤g∧∀ a,A'=some a→w.heap.size≤a.block)∧Below w.heap.size w w':=by
 subst hn
 go_enter Tryz.func48,Tryz.ntmps48
 go_wp2_with (go_at_call 47;refine (bclone_any l A c w.heap.size w hr (Nat.le_refl _) hlen).mono ?_;rintro e w1 ⟨v1,rfl,ho1,hb1⟩;obtain ⟨A',c',rfl,hlc,hcm,hrb⟩:=ho1.form)
 go_ret
 exact ⟨w1.heap.size,A',c',rfl,⟨Blk.new _ _ _,Reads.alloc hrb (Nat.le_refl _) _,hlc,hcm,Nat.zero_le _⟩,⟨hb1.size,fun a e=>by subst e;exact (ho1.lt a.block rfl).1⟩,hb1.alloc hb1.size _⟩
set_option maxHeartbeats 400000 in
theorem rat_ {w:World}{g c:Nat}{A:Option Addr}{l:List UInt8}{s:RS}(h:RdS w g A c l s):Calls Tryz.prog 51 #[.pointer (some ⟨g,0,none⟩)] w fun e w'=>e=.returned (.int .i64 (s.1:Int))∧w=w':=by
 have c1:=Rd.c1 h
 have hle:=Rd.le h
 have hlc:=Rd.lc h
 have hcm:=Rd.cm h
 unfold maxLen at hcm
 go_enter Tryz.func51,Tryz.ntmps51
 go_wp2
 go_ret
 exact ⟨rfl,rfl⟩
set_option maxHeartbeats 4000000 in
theorem count_any {w:World}{g c:Nat}{A:Option Addr}{l:List UInt8}{s:RS}(h:RdS w g A c l s)(hl:l.length≤140737488355328)(size:Nat)(hs:0<size)(hs8:size≤8) :
  Calls Tryz.prog 50 #[.agg #[.pointer (some ⟨g,0,none⟩)],.int .i64 (size:Int)] w fun e w'=>e=.returned (.int .i64 ((cntN l size s).1:Int))∧RdS w' g A c l (cntN l size s).2∧Only g w w':=by
 have hba:=(Below.refl w.heap.size w).alloc (Nat.le_refl _) (.cells #[.pointer (some ⟨g,0,none⟩)] 104)
 have HG0:=Lib.hid (Blk.new w 104 #[.pointer (some ⟨g,0,none⟩)])
 have HR0:=Lib.hid (h.on hba)
 have HO0:=Lib.hid (show Only g w (w.alloc (.cells #[.pointer (some ⟨g,0,none⟩)] 104)) from Only.of_below hba)
 have hgl:=h.lt
 have hle0:s.1≤l.length:=Rd.le h
 clear h hba
 have k0:(w.alloc (.cells #[.pointer (some ⟨g,0,none⟩)] 104)).cell? ⟨w.heap.size,0,none⟩=some (.pointer (some ⟨g,0,none⟩)):=HG0.out.cell 0
 obtain ⟨w1,hw1⟩:∃ w1,w.alloc (.cells #[.pointer (some ⟨g,0,none⟩)] 104)=w1:=⟨_,rfl⟩
 have HW1:=Lib.hid hw1
 rw [hw1] at HG0 HR0 HO0 k0
 clear hw1
 obtain ⟨gb,hgb⟩:∃ gb,w.heap.size=gb:=⟨_,rfl⟩
 have HGB:=Lib.hid hgb
 rw [hgb] at HG0 k0 hgl
 clear hgb
 have HU:=Lib.hid (ru32 HR0.out)
 have hn:=rdN_lt l s
 have hp:=rdN_le hle0
 obtain ⟨n,hnn⟩:∃ n,(rdN l s).1=n:=⟨_,rfl⟩
 obtain ⟨s1,hs1⟩:∃ s1,(rdN l s).2=s1:=⟨_,rfl⟩
 have HN:=Lib.hid hnn
 have HS1:=Lib.hid hs1
 rw [hnn,hs1] at HU
 rw [hnn] at hn
 rw [hs1] at hp
 clear hnn hs1
 obtain ⟨q,hq⟩:∃ q,(l.length-s1.1)/size=q:=⟨_,rfl⟩
 have hqd:((l.length:Int)-(s1.1:Int)).tdiv (size:Int)=(q:Int):=by
  rw [←hq,←Int.ofNat_sub hp]
  rfl
 have HQ:=Lib.hid hq
 have hq2:q≤140737488355328:=by rw [←hq];exact Nat.le_trans (Nat.div_le_self _ _) (by omega)
 have hs0:¬ size=0:=by omega
 clear hq
 go_enter Tryz.func50,Tryz.ntmps50
 go_upto_region 1 with (fail)
 rw [HW1.out,HGB.out]
 go_wp2_with fail
 refine HU.out.mono ?_
 rintro en w2 ⟨rfl,hR,hO⟩
 have HR:=Lib.hid hR
 have HO2:=Lib.hid (HO0.out.trans hO)
 have HG:=Lib.hid (HG0.out.grown hO (fun e=>by cases e;omega))
 clear hR hO k0 HU HG0 HR0 HO0
 have k0:w2.cell? ⟨gb,0,none⟩=some (.pointer (some ⟨g,0,none⟩)):=HG.out.cell 0
 have HL0:=Lib.hid (rleft HR.out)
 go_wp2_with fail
 refine HL0.out.mono ?_
 rintro en w2' ⟨rfl,k2,rfl⟩
 have hd:=below_drawsK w2 k2
 have HR2:=Lib.hid (HR.out.on hd)
 have HO3:=Lib.hid (HO2.out.drewN k2)
 have HG2:=Lib.hid (HG.out.below hd HG.out.lt)
 clear k0 HL0 HR HO2 HG hd
 generalize w2.drewN k2=w2 at *
 have k0:w2.cell? ⟨gb,0,none⟩=some (.pointer (some ⟨g,0,none⟩)):=HG2.out.cell 0
 by_cases hc:q<n
 ·have hc2:(q:Int)<(n:Int):=by omega
  have HCN:=Lib.hid (show cntN l size s=(0,skN l (((l.length-s1.1:Nat):Int)+1) s1) from by
   unfold cntN
   rw [HN.out,HS1.out,HQ.out,if_pos hc])
  have HL:=Lib.hid (show ∀ W,Below w2.heap.size w2 W→Calls Tryz.prog 55 #[.pointer (some ⟨g,0,none⟩)] W (fun e w'=>e=.returned (.int .i64 ((l.length:Int)-(s1.1:Int)))∧∃ k,W.drewN k=w') from fun W hW=>rleft (HR2.out.on hW))
  have HRW:=Lib.hid (show ∀ W,Below w2.heap.size w2 W→Calls Tryz.prog 49 #[.pointer (some ⟨g,0,none⟩),.int .i64 ((l.length:Int)-(s1.1:Int)+1)] W (fun e w'=>∃ v,e=.returned v∧OB w' W.heap.size 5 v (takeM l s1.1 s1.2 ((l.length:Int)-(s1.1:Int)+1)).1∧RdS w' g A c l (skN l (((l.length-s1.1:Nat):Int)+1) s1)∧Only g W w') from fun W hW=>by
   rw [Int.ofNat_sub hp]
   exact rraw (HR2.out.on hW) hl _)
  have hw1:IntKind.i64.wrap ((l.length:Int)-(s1.1:Int)+1)=(l.length:Int)-(s1.1:Int)+1:=by rw [IntKind.wrap_i64];omega
  clear hc
  go_upto_region 3 with (fail)
  refine wp_region_M (fun W=>W.cell? ⟨gb,0,none⟩=some (.pointer (some ⟨g,0,none⟩))) 6 (by kernel_rfl) (by go_keep) (fun hHeld=>?_)
  refine wpAnyM_take (i:=0) (d:=(some 17)) (v:=?_) rfl rfl (by kernel_rfl) (by kernel_rfl) (by kernel_rfl) (by kernel_rfl) (by kernel_rfl) (fun _ _ _ h=>h) (Or.inl ⟨by rfl,?_⟩) (by assumption) ?_
  rotate_left
  ·intro w hSw
   (try dsimp only at hSw)
   go_simp
   (try with_reducible rfl)
  (try simp only [Act.put,List.setIfInBounds_toArray,List.set_cons_zero,List.set_cons_succ])
  refine wpAnyM_take (i:=1) (d:=(some 18)) (v:=?_) rfl rfl (by kernel_rfl) (by kernel_rfl) (by kernel_rfl) (by kernel_rfl) (by kernel_rfl) (fun _ _ _ h=>h) (Or.inl ⟨by rfl,?_⟩) (by assumption) ?_
  rotate_left
  ·intro w hSw
   (try dsimp only at hSw)
   go_simp
   (try with_reducible rfl)
  (try simp only [Act.put,List.setIfInBounds_toArray,List.set_cons_zero,List.set_cons_succ])
  refine wpAnyM_take (i:=2) (d:=(some 19)) (v:=?_) rfl rfl (by kernel_rfl) (by kernel_rfl) (by kernel_rfl) (by kernel_rfl) (by kernel_rfl) (fun _ _ _ h=>h) (Or.inl ⟨by rfl,?_⟩) (by assumption) ?_
  rotate_left
  ·intro w hSw
   (try dsimp only at hSw)
   go_simp
   (try with_reducible rfl)
  (try simp only [Act.put,List.setIfInBounds_toArray,List.set_cons_zero,List.set_cons_succ])
  refine wpAnyM_take (i:=3) (d:=(some 20)) (v:=?_) rfl rfl (by kernel_rfl) (by kernel_rfl) (by kernel_rfl) (by kernel_rfl) (by kernel_rfl) (fun _ _ _ h=>h) (Or.inl ⟨by rfl,?_⟩) (by assumption) ?_
  rotate_left
  ·intro w hSw
   (try dsimp only at hSw)
   go_simp
   (try with_reducible rfl)
  (try simp only [Act.put,List.setIfInBounds_toArray,List.set_cons_zero,List.set_cons_succ])
  refine wpAnyM_one (i:=4) (by kernel_rfl) ?_
  refine owe_early (i:=4) (d:=(some 21)) rfl rfl (fun K hK=>?_)
  go_simp
  refine (HL.out _ ((Below.refl _ w2).drew)).mono ?_
  rintro en w3 ⟨rfl,k3,hw3⟩
  have HB3:=Lib.hid (show Below w2.heap.size w2 w3 from hw3 ▸ below_draws w2 k3)
  clear hw3
  have y0:=(HG2.out.below HB3.out HG2.out.lt).cell 0
  refine hK.out _ _ (by go_keep) (fun hHeld=>?_)
  clear hK K
  (try simp only [Act.put,List.setIfInBounds_toArray,List.set_cons_zero,List.set_cons_succ])
  refine wpAnyM_take (i:=5) (d:=(some 22)) (v:=?_) rfl rfl (by kernel_rfl) (by kernel_rfl) (by kernel_rfl) (by kernel_rfl) (by kernel_rfl) (fun _ _ _ h=>h) (Or.inl ⟨by rfl,?_⟩) (by assumption) ?_
  rotate_left
  ·intro w hSw
   (try dsimp only at hSw)
   go_simp
   (try with_reducible rfl)
  (try simp only [Act.put,List.setIfInBounds_toArray,List.set_cons_zero,List.set_cons_succ])
  refine wpAnyM_one (i:=6) (by kernel_rfl) ?_
  refine owe_late (i:=6) (d:=(some 23)) rfl rfl (by decide) (fun K hK=>?_)
  go_simp
  refine (HRW.out _ HB3.out).mono ?_
  rintro en w4 ⟨v4,rfl,ho4,hR4,hO4⟩
  clear ho4
  refine hK.out _ _ ?_
  clear hK K
  (try simp only [Act.put,List.setIfInBounds_toArray,List.set_cons_zero,List.set_cons_succ])
  refine wpAnyM_done (by kernel_rfl) ?_ _
  (try simp only [Act.put,List.setIfInBounds_toArray,List.set_cons_zero,List.set_cons_succ])
  go_wp2
  go_ret
  exact ⟨by rw [HCN.out];rfl,by rw [HCN.out];exact hR4,HO3.out.trans ((Only.of_below HB3.out).trans hO4)⟩
 ·have hc2:¬ (q:Int)<(n:Int):=by omega
  have HCN:=Lib.hid (show cntN l size s=(n,s1) from by
   unfold cntN
   rw [HN.out,HS1.out,HQ.out,if_neg hc,←HN.out,←HS1.out])
  go_wp2
  go_ret
  exact ⟨by rw [HCN.out];rfl,by rw [HCN.out];exact HR2.out,HO3.out⟩
set_option maxHeartbeats 1000000 in
/-- The closure that reads a number: the number, and whether all have been small enough. -/
theorem num_any (gok n most:Nat)(b:Bool)(w:World)(h:Blk w gok 4 #[.bool b])(hn:n<4294967296)(hm:most≤140737488355328) :
  Calls Tryz.prog 52 #[.int .u32 (n:Int),.int .i64 (most:Int),.pointer (some ⟨gok,0,none⟩)] w fun e w'=>e=.returned (.int .i64 (n:Int))∧w.setCell ⟨gok,0,none⟩ (.bool (b && decide (n<most)))=w':=by
 have k0:w.cell? ⟨gok,0,none⟩=some (.bool b):=h.cell 0
 have k1:w.frozen? ⟨gok,0,none⟩=false:=h.frozen 0
 have hn2:(n:Int)<4294967296:=by omega
 have hm2:(most:Int)≤140737488355328:=by omega
 clear h
 cases b with
 | false =>
  go_enter Tryz.func52,Tryz.ntmps52
  go_wp2
  go_ret
  exact ⟨rfl,by simp⟩
 | true =>
  by_cases hlt:n<most
  ·have hl2:(n:Int)<(most:Int):=by omega
   have HD:=Lib.hid (show (true && decide (n<most))=true from by simp [hlt])
   go_enter Tryz.func52,Tryz.ntmps52
   go_wp2
   go_ret
   exact ⟨rfl,by (first | rfl | rw [HD.out])⟩
  ·have hl2:¬ (n:Int)<(most:Int):=by omega
   have HD:=Lib.hid (show (true && decide (n<most))=false from by simp [hlt])
   go_enter Tryz.func52,Tryz.ntmps52
   go_wp2
   go_ret
   exact ⟨rfl,by (first | rfl | rw [HD.out])⟩
end
end Go.Proofs.YthdldooilcbmlaaGreatDoor
