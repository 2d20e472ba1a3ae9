/-
  Texts of mine, joined: LoadRead. The conditions stand with each.
-/
import Derived.Test.YthdldooilcbmlaaGreatDoorK11
import Derived.Test.YthdldooilcbmlaaGreatDoorK12
import Derived.LoopTactic
set_option linter.unusedVariables false
set_option linter.unusedSimpArgs false
namespace Go.Proofs.YthdldooilcbmlaaGreatDoor
section
open Go.RowKit

theorem span_info:(Tryz.prog.info? 108).map (fun i=>(i.zero,i.size,i.bytes))=some (some (.agg #[.int .i64 0,.int .i64 0]),2,16):=by kernel_rfl
theorem int_info:(Tryz.prog.info? 3).map (fun i=>(i.zero,i.size,i.bytes))=some (some (.int .i64 0),1,8):=by kernel_rfl
theorem book_info:(Tryz.prog.info? 76).map (fun i=>(i.zero,i.size,i.bytes))=some (some (.agg #[.int .i64 0,.slice none 0 0]),2,32):=by kernel_rfl
theorem iterT_len (l:List UInt8)(s:RS):∀ n,(iterN (stepT l) n (s,[])).2.length=n
 | 0=>rfl
 | n+1=>by
  have h:(iterN (stepT l) (n+1) (s,[])).2=(iterN (stepT l) n (s,[])).2++[((cntN l 1 (iterN (stepT l) n (s,[])).1).2.1,(cntN l 1 (iterN (stepT l) n (s,[])).1).2.1+(cntN l 1 (iterN (stepT l) n (s,[])).1).1)]:=rfl
  rw [h,List.length_append,iterT_len l s n]
  rfl
theorem iterP_len (l:List UInt8)(nT:Nat)(s:RS)(b:Bool):∀ n,(iterN (stepP l nT) n (s,b,[])).2.2.length=n
 | 0=>rfl
 | n+1=>by
  have h:(iterN (stepP l nT) (n+1) (s,b,[])).2.2=(iterN (stepP l nT) n (s,b,[])).2.2++[(rdN l (iterN (stepP l nT) n (s,b,[])).1).1]:=rfl
  rw [h,List.length_append,iterP_len l nT s b n]
  rfl
theorem iterX_len (l:List UInt8)(nP nT:Nat)(s:RS)(b:Bool):∀ n,(iterN (stepX l nP nT) n (s,b,[])).2.2.length=n
 | 0=>rfl
 | n+1=>by
  have h:(iterN (stepX l nP nT) (n+1) (s,b,[])).2.2=(iterN (stepX l nP nT) n (s,b,[])).2.2++[((cntN l 8 (iterN (stepX l nP nT) n (s,b,[])).1).2.1,(cntN l 8 (iterN (stepX l nP nT) n (s,b,[])).1).2.1+8*(cntN l 8 (iterN (stepX l nP nT) n (s,b,[])).1).1)]:=rfl
  rw [h,List.length_append,iterX_len l nP nT s b n]
  rfl
theorem iterG_len (l:List UInt8)(nT nX:Nat)(s:RS)(b:Bool):∀ n,(iterN (stepG l nT nX) n (s,b,[])).2.2.length=n
 | 0=>rfl
 | n+1=>by
  have h:(iterN (stepG l nT nX) (n+1) (s,b,[])).2.2=(iterN (stepG l nT nX) n (s,b,[])).2.2++[(((rdN l (iterN (stepG l nT nX) n (s,b,[])).1).1:Int),((rdN l (rdN l (iterN (stepG l nT nX) n (s,b,[])).1).2).1:Int))]:=rfl
  rw [h,List.length_append,iterG_len l nT nX s b n]
  rfl
/-- No Book has more groups than there are bytes. -/
theorem iterK_few (l:List UInt8)(nT nX:Nat)(s:RS)(b:Bool):∀ n,∀ k∈(iterN (stepK l nT nX) n (s,b,[])).2.2,k.2.length≤l.length
 | 0=>fun k hk=>by cases hk
 | n+1=>by
  have h:(iterN (stepK l nT nX) (n+1) (s,b,[])).2.2=(iterN (stepK l nT nX) n (s,b,[])).2.2++[((rdN l (iterN (stepK l nT nX) n (s,b,[])).1).1,(bookG l nT nX (iterN (stepK l nT nX) n (s,b,[]))).2.2)]:=rfl
  intro k hk
  rw [h] at hk
  rcases List.mem_append.1 hk with hk | hk
  ·exact iterK_few l nT nX s b n k hk
  ·rw [List.mem_singleton.1 hk]
   have h2:=iterG_len l nT nX (cntN l 8 (rdN l (iterN (stepK l nT nX) n (s,b,[])).1).2).2 ((iterN (stepK l nT nX) n (s,b,[])).2.1 && decide ((rdN l (iterN (stepK l nT nX) n (s,b,[])).1).1<nT)) (cntN l 8 (rdN l (iterN (stepK l nT nX) n (s,b,[])).1).2).1
   have h3:=(cntN_few (l:=l) (s:=(rdN l (iterN (stepK l nT nX) n (s,b,[])).1).2) (size:=8)).1
   have h4:(bookG l nT nX (iterN (stepK l nT nX) n (s,b,[]))).2.2.length=(cntN l 8 (rdN l (iterN (stepK l nT nX) n (s,b,[])).1).2).1:=h2
   simp only
   omega
theorem head_bvs:bvs headB=[.int .u8 86,.int .u8 82,.int .u8 78,.int .u8 67,.int .u8 1,.int .u8 0]:=rfl
theorem skip_head {l:List UInt8}(h:(takeM l 0 0 6).1=headB):skN l 6 (0,0)=(6,0):=by
 have h1:=head_len h
 unfold skN
 simp only
 rw [takeM_zero,if_neg (by decide),if_neg (by omega)]
 rfl
set_option maxHeartbeats 32000000 in
set_option maxRecDepth 100000 in
theorem iread_any (gx:Nat)(A:Option Addr)(n c:Nat)(l:List UInt8)(w:World)(hx:Blk w gx 67 #[.slice none 0 0,.slice none 0 0,.slice none 0 0,.slice none 0 0,.slice none 0 0])(hr:OB w (gx+1) 5 (.slice A n c) l)(hn:l.length=n)(hl:n≤16777216) :
  Calls Tryz.prog 24 #[.pointer (some ⟨gx,0,none⟩),.slice A n c] w (ReadPost gx l w):=by
 have hrb:=hr.form
 obtain ⟨A',c',e,hnc,hcm,hRB⟩:=hrb
 rw [hn] at e hnc
 cases e
 have HRB:=Lib.hid hRB
 have HOB:=Lib.hid hr
 have HX:=Lib.hid hx
 have HN:=Lib.hid hn
 have hl2:l.length≤140737488355328:=by omega
 have hgx:=hx.lt
 clear hr hx hRB
 have HRD:=Lib.hid (oread_any l A c n w HRB.out hn (by omega))
 obtain ⟨iS,hiS,hs0,hs1,hs2⟩:=info_parts span_info
 obtain ⟨iI,hiI,hi0,hi1,hi2⟩:=info_parts int_info
 obtain ⟨iK,hiK,hk0,hk1,hk2⟩:=info_parts book_info
 obtain ⟨iR,hiR,hr0,hr1,hr2⟩:=info_parts row_info
 have kc:=fun (w:World) (C:Array Value) (n c:Nat)=>Lib.run_convert_bytes_const (P:=Tryz.prog) w 26 5 C n c Tryz.underlying26 Tryz.underlying5
 go_enter Tryz.func24,Tryz.ntmps24
 go_upto_region 2 with (go_at_call 48;go_must (refine HRD.out.mono ?_;rintro en w1 ⟨g,A7,c7,rfl,hR,hg,hb⟩;have HR1:=Lib.hid hR;have HG1:=Lib.hid hg;have HB1:=Lib.hid hb;clear hR hg hb))
 clear HRD
 have hba:=(Below.refl w1.heap.size w1).alloc (Nat.le_refl _) (.cells #[.pointer (some ⟨g,0,none⟩)] 104)
 obtain ⟨gr,hgr⟩:∃ gr,w1.heap.size=gr:=⟨_,rfl⟩
 have HL2:=Lib.hid (show LdI w (w1.alloc (.cells #[.pointer (some ⟨g,0,none⟩)] 104)) gx gr g c7 A7 l (0,0) #[.slice none 0 0,.slice none 0 0,.slice none 0 0,.slice none 0 0,.slice none 0 0] from by
  have h1:=Blk.new w1 104 #[.pointer (some ⟨g,0,none⟩)]
  have h2:=HX.out.below HB1.out hgx
  have h3:=HR1.out.lt
  have h4:=HB1.out.size
  rw [hgr] at h1
  exact ⟨⟨(Only.of_below HB1.out).trans (Only.of_below hba),fun a e=>Nat.lt_of_lt_of_le hgx (HG1.out.2 a e)⟩,⟨hgx,HG1.out.1,by omega,by rw [World.size_alloc];omega⟩,h2.below hba h2.lt,HR1.out.on hba,h1⟩)
 (try rw [hgr])
 clear hba hgr HR1 HG1 HB1
 generalize w1.alloc (.cells #[.pointer (some ⟨g,0,none⟩)] 104)=w2 at *
 have k0:w2.cell? ⟨gr,0,none⟩=some (.pointer (some ⟨g,0,none⟩)):=HL2.out.2.2.2.2.cell 0
 have HRW:=Lib.hid (rraw HL2.out.2.2.2.1 hl2 6)
 go_wp2_with fail
 refine HRW.out.mono ?_
 rintro en w3 ⟨v3,rfl,ho3,hR3,hO3⟩
 obtain ⟨A3,c3,rfl,hlc3,hcm3,hr3⟩:=ho3.form
 obtain ⟨hd,hhd⟩:∃ hd,(takeM l 0 0 6).1=hd:=⟨_,rfl⟩
 have HHD:=Lib.hid hhd
 have hhd2:(takeM l (0,0).1 (0,0).2 6).1=hd:=hhd
 rw [hhd2] at hr3 hlc3 ⊢
 obtain ⟨nh,hnh⟩:∃ nh,hd.length=nh:=⟨_,rfl⟩
 have HL3:=Lib.hid (HL2.out.read hO3 hR3)
 have hb6:=(Below.refl w3.heap.size w3).alloc (Nat.le_refl _) (.cells #[.int .u8 86,.int .u8 82,.int .u8 78,.int .u8 67,.int .u8 1,.int .u8 0] 5 (6,7))
 have HL4:=Lib.hid (HL3.out.on hb6)
 have HEQ:=Lib.hid (show Calls Tryz.prog 21 #[.slice A3 nh c3,.slice (some ⟨w3.heap.size,0,none⟩) 6 6] (w3.alloc (.cells #[.int .u8 86,.int .u8 82,.int .u8 78,.int .u8 67,.int .u8 1,.int .u8 0] 5 (6,7))) (fun e w'=>e=.returned (.bool (decide (hd=headB)))∧(w3.alloc (.cells #[.int .u8 86,.int .u8 82,.int .u8 78,.int .u8 67,.int .u8 1,.int .u8 0] 5 (6,7)))=w') from by
  refine beq_any hd headB A3 (some ⟨w3.heap.size,0,none⟩) c3 6 nh 6 _ ?_ ?_ hnh rfl
  ·exact (hr3.below hb6).more (by rw [World.size_alloc];omega)
  ·have h:=reads_new_mark w3 #[.int .u8 86,.int .u8 82,.int .u8 78,.int .u8 67,.int .u8 1,.int .u8 0] 5 (6,7) 1 6 rfl
   unfold RB
   rw [head_bvs]
   rw [World.size_alloc]
   exact h)
 rw [hnh]
 clear k0 HRW hO3 hR3 ho3 hr3 hlc3 hcm3 hhd hhd2 hnh HL2 HL3 hb6
 go_wp2_with fail
 refine HEQ.out.mono ?_
 rintro en w4 ⟨rfl,hw4⟩
 clear kc
 rw [hw4] at HL4
 clear hw4 HEQ
 by_cases hh:hd=headB
 case neg =>
  have hbd:decide (hd=headB)=false:=decide_eq_false hh
  rw [hbd]
  have HNO:=Lib.hid (show readOk l=false from by
   cases h:readOk l with
   | false=>rfl
   | true=>exact absurd (HHD.out.symm.trans (readOk_iff.1 h).1) hh)
  clear hh hbd
  go_wp2
  go_ret
  exact ⟨by rw [HNO.out];rfl,HL4.out.1.1,fun h=>by rw [HNO.out] at h;cases h⟩
 case pos =>
  have hbd:decide (hd=headB)=true:=decide_eq_true hh
  rw [hbd]
  have HHE:=Lib.hid (show (takeM l 0 0 6).1=headB from HHD.out.trans hh)
  have HS6:=Lib.hid (skip_head HHE.out)
  clear hbd hh
  have f0:w4.cell? ⟨gx,0,none⟩=some (.slice none 0 0):=HL4.out.2.2.1.cell 0
  have f1:w4.frozen? ⟨gx,0,none⟩=false:=HL4.out.2.2.1.frozen 0
  have HL5:=Lib.hid (show LdI w (w4.setCell ⟨gx,0,none⟩ (.slice A n c)) gx gr g c7 A7 l (6,0) #[.slice A n c,.slice none 0 0,.slice none 0 0,.slice none 0 0,.slice none 0 0] from by
   have h:=HL4.out.set 0 (.slice A n c)
   rw [HS6.out] at h
   exact h)
  go_upto_region 5 with (fail)
  clear f0 f1 HL4
  generalize w4.setCell ⟨gx,0,none⟩ (.slice A n c)=w5 at *
  have k0:w5.cell? ⟨gr,0,none⟩=some (.pointer (some ⟨g,0,none⟩)):=HL5.out.2.2.2.2.cell 0
  have HCT:=Lib.hid (count_any HL5.out.2.2.2.1 hl2 4 (by omega) (by omega))
  go_wp2_with fail
  refine HCT.out.mono ?_
  rintro en w6 ⟨rfl,hR,hO⟩
  have HL6:=Lib.hid (HL5.out.read hO hR)
  clear k0 hR hO HCT HL5
  have hfew:=cntN_few (l:=l) (s:=(6,0)) (size:=4)
  obtain ⟨cT0,hcT0⟩:∃ x,cntN l 4 (6,0)=x:=⟨_,rfl⟩
  have HCT:=Lib.hid (show cT l=cT0 from hcT0)
  have h4:((4:Nat):Int)=4:=rfl
  rw [hcT0] at HL6 hfew ⊢
  clear hcT0 h4
  obtain ⟨nT,sT⟩:=cT0
  simp only at hfew HL6 ⊢
  have hnT:nT≤4194304:=by omega
  have hnT2:(nT:Int)≤4194304:=by omega
  clear hfew
  go_wp2
  go_loopw [29] (fun iv W=>∃(i:Nat) (x:RS×List (Nat×Nat)) (tv:Value),iv=.int .i64 (i:Int)∧i≤nT∧x=iterN (stepT l) i (sT,[])∧LdI w W gx gr g c7 A7 l x.1 #[.slice A n c,tv,.slice none 0 0,.slice none 0 0,.slice none 0 0]∧W.ownsRow (gr+1) 108 2 tv i (lsCells x.2)) (fun iv _=>nT-(Lib.intOf iv).toNat)
  case atStart=>exact ⟨0,_,_,rfl,Nat.zero_le _,rfl,HL6.out,World.ownsRow_nil _ _ _ _⟩
  case round =>
   clear HL6
   obtain ⟨i,x,tv,rfl,hi,hxx,hL,hO⟩:=hrel
   have HXX:=Lib.hid hxx
   have HL:=Lib.hid hL
   have HO:=Lib.hid hO
   obtain ⟨At,ct,rfl,-,-,-⟩:=own_form hO
   clear hxx hL hO
   have k0:wr.cell? ⟨gr,0,none⟩=some (.pointer (some ⟨g,0,none⟩)):=HL.out.2.2.2.2.cell 0
   by_cases hlt:i<nT
   ·have hq:(i:Int)<(nT:Int):=by omega
    have hi9:(i:Int)≤4194304:=by omega
    have hfew:=cntN_few (l:=l) (s:=x.1) (size:=1)
    have hle:=cntN_le (Rd.le HL.out.2.2.2.1) 1
    have HCT:=Lib.hid (count_any HL.out.2.2.2.1 hl2 1 (by omega) (by omega))
    obtain ⟨p,hp⟩:∃ p,cntN l 1 x.1=p:=⟨_,rfl⟩
    have HPX:=Lib.hid hp
    rw [hp] at HCT hfew hle
    clear hp
    obtain ⟨n1,a1,e1⟩:=p
    simp only at hfew hle HCT
    have HST:=Lib.hid (show stepT l x=(skN l (n1:Int) (a1,e1),x.2++[(a1,a1+n1)]) from by
     unfold stepT
     rw [HPX.out])
    have hn1:(n1:Int)≤140737488355328:=by omega
    have ha1:(a1:Int)≤140737488355328:=by omega
    clear hfew hle
    go_wp2_with fail
    refine HCT.out.mono ?_
    rintro en wa ⟨rfl,hR,hO⟩
    have HLa:=Lib.hid (HL.out.read hO hR)
    have HOa:=Lib.hid (own_stays2 HO.out hO (fun q hq e=>by cases e;have:=(HO.out.lt _ hq).1;have:=HL.out.2.1;omega))
    clear hR hO HCT k0 HL HO
    have k0:wa.cell? ⟨gr,0,none⟩=some (.pointer (some ⟨g,0,none⟩)):=HLa.out.2.2.2.2.cell 0
    have HAT:=Lib.hid (show Calls Tryz.prog 51 #[.pointer (some ⟨g,0,none⟩)] wa (fun e w'=>e=.returned (.int .i64 (a1:Int))∧wa=w') from rat_ HLa.out.2.2.2.1)
    have HRW:=Lib.hid (rraw HLa.out.2.2.2.1 hl2 (n1:Int))
    go_wp2_with (go_at_call 51;go_must (refine HAT.out.mono ?_;rintro en wz ⟨rfl,rfl⟩))
    refine HRW.out.mono ?_
    rintro en wb ⟨vb,rfl,-,hR,hO⟩
    have HLb:=Lib.hid (HLa.out.read hO hR)
    have HOb:=Lib.hid (own_stays2 HOa.out hO (fun q hq e=>by cases e;have:=(HOa.out.lt _ hq).1;have:=HLa.out.2.1;omega))
    clear hR hO HAT HRW k0 HLa HOa
    have f1:wb.cell? ⟨gx,1,none⟩=some (.slice At i ct):=HLb.out.2.2.1.cell 1
    have hba:=(Below.refl wb.heap.size wb).alloc (Nat.le_refl _) (.cells #[.int .i64 (a1:Int),.int .i64 ((a1:Int)+(n1:Int))] 108)
    have HLc:=Lib.hid (HLb.out.on hba)
    have HOc:=Lib.hid (own_more HOb.out hba)
    have HNc:=Lib.hid (reads_new wb #[.int .i64 (a1:Int),.int .i64 ((a1:Int)+(n1:Int))] 108 2 1 rfl)
    clear hba HLb HOb
    go_wp2_with (at_builtin;go_loud (refine wpList_append_any _ rfl (.tmp 44) (.tmp 50) _ rfl (gr+1) 108 iS _ 2 16 Tryz.underlying61 hiS hs0 hs1 hs2 rfl (by omega) _ i (lsCells x.2) rfl HOc.out (wb.heap.size+1) (some ⟨wb.heap.size,0,none⟩) 1 1 [.int .i64 (a1:Int),.int .i64 ((a1:Int)+(n1:Int))] rfl HNc.out (by simp [Value.oneCell']) (by simp only [maxLen];omega) (by omega) (by have:=HLc.out.2.1.2.2.2;exact this) ?_);intro v3 wd hown3 hg3 hat3;obtain ⟨A9,c9,rfl,-,-,-⟩:=own_form hown3;have HOW:=Lib.hid hown3;have HLd:=Lib.hid (HLc.out.turn hg3 (fun k hk=>by have:=(HOc.out.lt k hk).1;omega));have HGD:=Lib.hid hg3;have q0:wd.cell? ⟨gx,1,none⟩=some (.slice At i ct):=HLd.out.2.2.1.cell 1;have q1:wd.frozen? ⟨gx,1,none⟩=false:=HLd.out.2.2.1.frozen 1;clear hown3 hg3 hat3)
    go_roundw
    case rel=>exact ⟨i+1,stepT l x,.slice A9 (i+1) c9,by go_num,hlt,by rw [HXX.out];rfl,by rw [HST.out];exact HLd.out.set 1 (.slice A9 (i+1) c9),by
     rw [HST.out,lsCells_snoc,show (((a1,a1+n1):Nat×Nat).2:Int)=(a1:Int)+(n1:Int) from by simp]
     exact own_stays2 HOW.out (grown_set wd gx 1 _) (fun q hq e=>by cases e;have:=(HOW.out.lt _ hq).1;have:=HLd.out.2.1;omega)⟩
    case measure=>simp [Lib.intOf] <;> omega
   ·obtain rfl:nT=i:=by omega
    have hq:¬ (nT:Int)<(nT:Int):=by omega
    have HTX:=Lib.hid (show textsS l=x from by
     unfold textsS
     rw [HCT.out]
     exact HXX.out.symm)
    obtain ⟨s1,LT⟩:=x
    simp only at HL HO HTX
    have HLT:=Lib.hid (show LT.length=nT from by
     have h:=iterT_len l sT nT
     rw [←HXX.out] at h
     exact h)
    have hba:=(Below.refl wr.heap.size wr).alloc (Nat.le_refl _) (.cells #[.bool true] 4)
    obtain ⟨gok,hgok⟩:∃ gok,wr.heap.size=gok:=⟨_,rfl⟩
    have HT0:=Lib.hid (show LdT w (wr.alloc (.cells #[.bool true] 4)) gx gr g c7 A7 l s1 #[.slice A n c,.slice At nT ct,.slice none 0 0,.slice none 0 0,.slice none 0 0] gok true (.slice At nT ct) nT LT from by
     have h1:=Blk.new wr 4 #[.bool true]
     have h2:=HL.out.2.1.2.2.2
     have h3:RowO wr (gr+1) wr.heap.size 108 2 (.slice At nT ct) nT (lsCells LT):=⟨HO.out,fun k hk=>(HO.out.lt k hk).2⟩
     rw [hgok] at h1 h2 h3
     exact ⟨HL.out.on hba,h3.on hba,h1,h2,by rw [World.size_alloc];omega⟩)
    clear hba k0 HXX HL HO
    go_upto_region 14 with (fail)
    (try rw [hgok])
    clear hgok
    generalize wr.alloc (.cells #[.bool true] 4)=w13 at *
    have k0:w13.cell? ⟨gr,0,none⟩=some (.pointer (some ⟨g,0,none⟩)):=HT0.out.1.2.2.2.2.cell 0
    have HCN:=Lib.hid (count_any HT0.out.1.2.2.2.1 hl2 4 (by omega) (by omega))
    have hfew:=cntN_few (l:=l) (s:=s1) (size:=4)
    obtain ⟨cP0,hcP0⟩:∃ x,cntN l 4 s1=x:=⟨_,rfl⟩
    have HCP:=Lib.hid (show cP l=cP0 from by
     unfold cP
     rw [HTX.out]
     exact hcP0)
    rw [hcP0] at HCN hfew
    clear hcP0
    obtain ⟨nP,sP⟩:=cP0
    simp only at hfew HCN
    have hnP:nP≤4194304:=by omega
    have hnP2:(nP:Int)≤4194304:=by omega
    clear hfew
    go_wp2_with fail
    refine HCN.out.mono ?_
    rintro en w14 ⟨rfl,hR,hO⟩
    have HT1:=Lib.hid (HT0.out.read hO hR)
    clear hR hO HCN k0 HT0 hi
    go_wp2
    go_loopw [58] (fun iv W=>∃(i:Nat) (x:RS×Bool×List Nat) (pv:Value),iv=.int .i64 (i:Int)∧i≤nP∧x=iterN (stepP l nT) i (sP,true,[])∧LdT w W gx gr g c7 A7 l x.1 #[.slice A n c,.slice At nT ct,pv,.slice none 0 0,.slice none 0 0] gok x.2.1 (.slice At nT ct) nT LT∧W.ownsRow (gok+1) 3 1 pv i (liCells x.2.2)) (fun iv _=>nP-(Lib.intOf iv).toNat)
    case atStart=>exact ⟨0,_,_,rfl,Nat.zero_le _,rfl,HT1.out,World.ownsRow_nil _ _ _ _⟩
    case round =>
     clear HT1
     obtain ⟨i,x,pv,rfl,hi,hxx,hL,hO⟩:=hrel
     have HXX:=Lib.hid hxx
     have HL:=Lib.hid hL
     have HO:=Lib.hid hO
     obtain ⟨Ap,cp,rfl,-,-,-⟩:=own_form hO
     clear hxx hL hO
     by_cases hlt:i<nP
     ·have hq:(i:Int)<(nP:Int):=by omega
      have hi9:(i:Int)≤4194304:=by omega
      obtain ⟨p,hp⟩:∃ p,rdN l x.1=p:=⟨_,rfl⟩
      have hlt4:=rdN_lt l x.1
      have HST:=Lib.hid (show stepP l nT x=(p.2,x.2.1 && decide (p.1<nT),x.2.2++[p.1]) from by
       unfold stepP
       rw [hp])
      have hbd:=(Below.refl wr.heap.size wr).drew
      have HLd:=Lib.hid (HL.out.on hbd)
      have HOd:=Lib.hid (own_more HO.out hbd)
      have HU:=Lib.hid (ru32 HLd.out.1.2.2.2.1)
      rw [hp] at HU hlt4
      obtain ⟨n1,s2⟩:=p
      simp only at HU hlt4 HST
      have k0:wr.cell? ⟨gr,0,none⟩=some (.pointer (some ⟨g,0,none⟩)):=HL.out.1.2.2.2.2.cell 0
      have k1:wr.cell? ⟨gx,1,none⟩=some (.slice At nT ct):=HL.out.1.2.2.1.cell 1
      have k2:wr.cell? ⟨gx,2,none⟩=some (.slice Ap i cp):=HL.out.1.2.2.1.cell 2
      have hgl:=HL.out.2.2.2
      clear hp hbd HL HO
      go_upto_region 16 with (fail)
      refine wp_region_M (fun W=>W.cell? ⟨gr,0,none⟩=some (.pointer (some ⟨g,0,none⟩))∧W.cell? ⟨gx,1,none⟩=some (.slice At nT ct)∧W.cell? ⟨gx,2,none⟩=some (.slice Ap i cp)) 19 (by kernel_rfl) (by go_keep) (fun hHeld=>?_)
      refine wpAnyM_take (i:=0) (d:=(some 60)) (v:=?_) rfl rfl (by kernel_rfl) (by kernel_rfl) (by kernel_rfl) (by kernel_rfl) (by kernel_rfl) (fun _ _ _ h=>h) (Or.inl ⟨by rfl,?_⟩) (by assumption) ?_
      rotate_left
      ·intro w hSw
       (try dsimp only at hSw)
       go_simp
       (try with_reducible rfl)
      (try simp only [Act.put,List.setIfInBounds_toArray,List.set_cons_zero,List.set_cons_succ])
      refine wpAnyM_take (i:=1) (d:=(some 61)) (v:=?_) rfl rfl (by kernel_rfl) (by kernel_rfl) (by kernel_rfl) (by kernel_rfl) (by kernel_rfl) (fun _ _ _ h=>h) (Or.inl ⟨by rfl,?_⟩) (by assumption) ?_
      rotate_left
      ·intro w hSw
       (try dsimp only at hSw)
       go_simp
       (try with_reducible rfl)
      (try simp only [Act.put,List.setIfInBounds_toArray,List.set_cons_zero,List.set_cons_succ])
      refine wpAnyM_take (i:=2) (d:=(some 62)) (v:=?_) rfl rfl (by kernel_rfl) (by kernel_rfl) (by kernel_rfl) (by kernel_rfl) (by kernel_rfl) (fun _ _ _ h=>h) (Or.inl ⟨by rfl,?_⟩) (by assumption) ?_
      rotate_left
      ·intro w hSw
       (try dsimp only at hSw)
       go_simp
       (try with_reducible rfl)
      (try simp only [Act.put,List.setIfInBounds_toArray,List.set_cons_zero,List.set_cons_succ])
      refine wpAnyM_take (i:=3) (d:=(some 63)) (v:=?_) rfl rfl (by kernel_rfl) (by kernel_rfl) (by kernel_rfl) (by kernel_rfl) (by kernel_rfl) (fun _ _ _ h=>h) (Or.inl ⟨by rfl,?_⟩) (by assumption) ?_
      rotate_left
      ·intro w hSw
       (try dsimp only at hSw)
       go_simp
       (try with_reducible rfl)
      (try simp only [Act.put,List.setIfInBounds_toArray,List.set_cons_zero,List.set_cons_succ])
      refine wpAnyM_take (i:=4) (d:=(some 64)) (v:=?_) rfl rfl (by kernel_rfl) (by kernel_rfl) (by kernel_rfl) (by kernel_rfl) (by kernel_rfl) (fun _ _ _ h=>h) (Or.inl ⟨by rfl,?_⟩) (by assumption) ?_
      rotate_left
      ·intro w hSw
       (try dsimp only at hSw)
       go_simp
       (try with_reducible rfl)
      (try simp only [Act.put,List.setIfInBounds_toArray,List.set_cons_zero,List.set_cons_succ])
      refine wpAnyM_take (i:=5) (d:=(some 65)) (v:=?_) rfl rfl (by kernel_rfl) (by kernel_rfl) (by kernel_rfl) (by kernel_rfl) (by kernel_rfl) (fun _ _ _ h=>h) (Or.inl ⟨by rfl,?_⟩) (by assumption) ?_
      rotate_left
      ·intro w hSw
       (try dsimp only at hSw)
       go_simp
       (try with_reducible rfl)
      (try simp only [Act.put,List.setIfInBounds_toArray,List.set_cons_zero,List.set_cons_succ])
      refine wpAnyM_take (i:=6) (d:=(some 66)) (v:=?_) rfl rfl (by kernel_rfl) (by kernel_rfl) (by kernel_rfl) (by kernel_rfl) (by kernel_rfl) (fun _ _ _ h=>h) (Or.inl ⟨by rfl,?_⟩) (by assumption) ?_
      rotate_left
      ·intro w hSw
       (try dsimp only at hSw)
       go_simp
       (try with_reducible rfl)
      (try simp only [Act.put,List.setIfInBounds_toArray,List.set_cons_zero,List.set_cons_succ])
      refine wpAnyM_take (i:=7) (d:=(some 67)) (v:=?_) rfl rfl (by kernel_rfl) (by kernel_rfl) (by kernel_rfl) (by kernel_rfl) (by kernel_rfl) (fun _ _ _ h=>h) (Or.inl ⟨by rfl,?_⟩) (by assumption) ?_
      rotate_left
      ·intro w hSw
       (try dsimp only at hSw)
       go_simp
       (try with_reducible rfl)
      (try simp only [Act.put,List.setIfInBounds_toArray,List.set_cons_zero,List.set_cons_succ])
      refine wpAnyM_take (i:=9) (d:=(some 69)) (v:=?_) rfl rfl (by kernel_rfl) (by kernel_rfl) (by kernel_rfl) (by kernel_rfl) (by kernel_rfl) (fun _ _ _ h=>h) (Or.inl ⟨by rfl,?_⟩) (by assumption) ?_
      rotate_left
      ·intro w hSw
       (try dsimp only at hSw)
       go_simp
       (try with_reducible rfl)
      (try simp only [Act.put,List.setIfInBounds_toArray,List.set_cons_zero,List.set_cons_succ])
      refine wpAnyM_take (i:=10) (d:=(some 70)) (v:=?_) rfl rfl (by kernel_rfl) (by kernel_rfl) (by kernel_rfl) (by kernel_rfl) (by kernel_rfl) (fun _ _ _ h=>h) (Or.inl ⟨by rfl,?_⟩) (by assumption) ?_
      rotate_left
      ·intro w hSw
       (try dsimp only at hSw)
       go_simp
       (try with_reducible rfl)
      (try simp only [Act.put,List.setIfInBounds_toArray,List.set_cons_zero,List.set_cons_succ])
      refine wpAnyM_take (i:=11) (d:=(some 71)) (v:=?_) rfl rfl (by kernel_rfl) (by kernel_rfl) (by kernel_rfl) (by kernel_rfl) (by kernel_rfl) (fun _ _ _ h=>h) (Or.inl ⟨by rfl,?_⟩) (by assumption) ?_
      rotate_left
      ·intro w hSw
       (try dsimp only at hSw)
       go_simp
       (try with_reducible rfl)
      (try simp only [Act.put,List.setIfInBounds_toArray,List.set_cons_zero,List.set_cons_succ])
      refine wpAnyM_take (i:=12) (d:=(some 72)) (v:=?_) rfl rfl (by kernel_rfl) (by kernel_rfl) (by kernel_rfl) (by kernel_rfl) (by kernel_rfl) (fun _ _ _ h=>h) (Or.inl ⟨by rfl,?_⟩) (by assumption) ?_
      rotate_left
      ·intro w hSw
       (try dsimp only at hSw)
       go_simp
       (try with_reducible rfl)
      (try simp only [Act.put,List.setIfInBounds_toArray,List.set_cons_zero,List.set_cons_succ])
      refine wpAnyM_take (i:=13) (d:=(some 73)) (v:=?_) rfl rfl (by kernel_rfl) (by kernel_rfl) (by kernel_rfl) (by kernel_rfl) (by kernel_rfl) (fun _ _ _ h=>h) (Or.inl ⟨by rfl,?_⟩) (by assumption) ?_
      rotate_left
      ·intro w hSw
       (try dsimp only at hSw)
       go_simp
       (try with_reducible rfl)
      (try simp only [Act.put,List.setIfInBounds_toArray,List.set_cons_zero,List.set_cons_succ])
      refine wpAnyM_one (i:=8) (by kernel_rfl) ?_
      refine owe_early (i:=8) (d:=(some 68)) rfl rfl (fun K hK=>?_)
      go_simp
      refine HU.out.mono ?_
      rintro en wa ⟨rfl,hR,hO⟩
      have HLa:=Lib.hid (HLd.out.read hO hR)
      have HOa:=Lib.hid (own_stays2 HOd.out hO (fun q hq e=>by cases e;have:=(HOd.out.lt _ hq).1;have:=HLd.out.1.2.1;have:=HLd.out.2.2.2.1;omega))
      clear hR hO
      have k0:wa.cell? ⟨gr,0,none⟩=some (.pointer (some ⟨g,0,none⟩)):=HLa.out.1.2.2.2.2.cell 0
      have k1:wa.cell? ⟨gx,1,none⟩=some (.slice At nT ct):=HLa.out.1.2.2.1.cell 1
      have k2:wa.cell? ⟨gx,2,none⟩=some (.slice Ap i cp):=HLa.out.1.2.2.1.cell 2
      have HNU:=Lib.hid (num_any gok n1 nT x.2.1 wa HLa.out.2.2.1 hlt4 (by omega))
      refine hK.out _ _ (by go_keep) (fun hHeld=>?_)
      clear hK K
      (try simp only [Act.put,List.setIfInBounds_toArray,List.set_cons_zero,List.set_cons_succ])
      refine wpAnyM_one (i:=14) (by kernel_rfl) ?_
      refine owe_early (i:=14) (d:=(some 74)) rfl rfl (fun K hK=>?_)
      go_simp
      refine HNU.out.mono ?_
      rintro en wb ⟨rfl,hwb⟩
      have HLb:=Lib.hid (HLa.out.say (x.2.1 && decide (n1<nT)))
      have HOb:=Lib.hid (own_stays2 HOa.out (grown_set wa gok 0 (.bool (x.2.1 && decide (n1<nT)))) (fun q hq e=>by cases e;have:=(HOa.out.lt _ hq).1;omega))
      rw [hwb] at HLb HOb
      clear hwb
      have k0:wb.cell? ⟨gr,0,none⟩=some (.pointer (some ⟨g,0,none⟩)):=HLb.out.1.2.2.2.2.cell 0
      have k1:wb.cell? ⟨gx,1,none⟩=some (.slice At nT ct):=HLb.out.1.2.2.1.cell 1
      have k2:wb.cell? ⟨gx,2,none⟩=some (.slice Ap i cp):=HLb.out.1.2.2.1.cell 2
      refine hK.out _ _ (by go_keep) (fun hHeld=>?_)
      clear hK K
      (try simp only [Act.put,List.setIfInBounds_toArray,List.set_cons_zero,List.set_cons_succ])
      refine wpAnyM_one (i:=15) (by kernel_rfl) ?_
      refine owe_early (i:=15) (d:=(some 75)) rfl rfl (fun K hK=>?_)
      go_simp
      refine hK.out _ _ (by go_keep) (fun hHeld=>?_)
      clear hK K
      (try simp only [Act.put,List.setIfInBounds_toArray,List.set_cons_zero,List.set_cons_succ])
      refine wpAnyM_one (i:=16) (by kernel_rfl) ?_
      refine owe_early (i:=16) (d:=(some 76)) rfl rfl (fun K hK=>?_)
      have hba:=(Below.refl wb.heap.size wb).alloc (Nat.le_refl _) (.cells #[.int .i64 (n1:Int)] 3)
      have HLc:=Lib.hid (HLb.out.on hba)
      have HOc:=Lib.hid (own_more HOb.out hba)
      have HNc:=Lib.hid (reads_new wb #[.int .i64 (n1:Int)] 3 1 1 rfl)
      clear hba
      refine step_append_any (by rfl) (.tmp 64) (.tmp 75) 62 (by rfl) (gok+1) 3 iI _ 1 8 Tryz.underlying62 hiI hi0 hi1 hi2 rfl (by omega) (.slice Ap i cp) i (liCells x.2.2) (by rfl) HOc.out (wb.heap.size+1) (some ⟨wb.heap.size,0,none⟩) 1 1 [.int .i64 (n1:Int)] (by rfl) HNc.out (by simp [Value.oneCell']) (by simp only [maxLen];omega) (by omega) (by have:=HLb.out.2.2.2.2;simp;omega) ?_
      intro v9 wd hown9 hg9 hat9
      obtain ⟨A9,c9,rfl,-,-,-⟩:=own_form hown9
      have HOW:=Lib.hid hown9
      have HLe:=Lib.hid (HLc.out.turn hg9 (fun k hk=>by have:=(HOc.out.lt k hk).1;omega))
      clear hown9 hg9 hat9
      have k0:wd.cell? ⟨gr,0,none⟩=some (.pointer (some ⟨g,0,none⟩)):=HLe.out.1.2.2.2.2.cell 0
      have k1:wd.cell? ⟨gx,1,none⟩=some (.slice At nT ct):=HLe.out.1.2.2.1.cell 1
      have k2:wd.cell? ⟨gx,2,none⟩=some (.slice Ap i cp):=HLe.out.1.2.2.1.cell 2
      have f2:wd.frozen? ⟨gx,2,none⟩=false:=HLe.out.1.2.2.1.frozen 2
      refine hK.out _ _ (by go_keep) (fun hHeld=>?_)
      clear hK K
      (try simp only [Act.put,List.setIfInBounds_toArray,List.set_cons_zero,List.set_cons_succ])
      refine wpAnyM_take (i:=17) (d:=(some 77)) (v:=?_) rfl rfl (by kernel_rfl) (by kernel_rfl) (by kernel_rfl) (by kernel_rfl) (by kernel_rfl) (fun _ _ _ h=>h) (Or.inl ⟨by rfl,?_⟩) (by assumption) ?_
      rotate_left
      ·intro w hSw
       (try dsimp only at hSw)
       go_simp
       (try with_reducible rfl)
      (try simp only [Act.put,List.setIfInBounds_toArray,List.set_cons_zero,List.set_cons_succ])
      refine wpAnyM_take (i:=18) (d:=(some 78)) (v:=?_) rfl rfl (by kernel_rfl) (by kernel_rfl) (by kernel_rfl) (by kernel_rfl) (by kernel_rfl) (fun _ _ _ h=>h) (Or.inl ⟨by rfl,?_⟩) (by assumption) ?_
      rotate_left
      ·intro w hSw
       (try dsimp only at hSw)
       go_simp
       (try with_reducible rfl)
      (try simp only [Act.put,List.setIfInBounds_toArray,List.set_cons_zero,List.set_cons_succ])
      refine wpAnyM_one (i:=19) (by kernel_rfl) ?_
      refine owe_late (i:=19) (d:=none) rfl rfl (by decide) (fun K hK=>?_)
      go_simp
      refine hK.out undef _ ?_
      clear hK K
      (try simp only [Act.put,List.setIfInBounds_toArray,List.set_cons_zero,List.set_cons_succ])
      refine wpAnyM_done (by kernel_rfl) ?_ _
      (try simp only [Act.put,List.setIfInBounds_toArray,List.set_cons_zero,List.set_cons_succ])
      go_wp2
      go_roundw
      case rel=>exact ⟨i+1,stepP l nT x,.slice A9 (i+1) c9,by go_num,hlt,by rw [HXX.out];rfl,by rw [HST.out];exact HLe.out.set 2 (.slice A9 (i+1) c9),by
       rw [HST.out,liCells_snoc]
       exact own_stays2 HOW.out (grown_set wd gx 2 _) (fun q hq e=>by cases e;have:=(HOW.out.lt _ hq).1;have:=HLe.out.1.2.1;have:=HLe.out.2.2.2.1;omega)⟩
      case measure=>simp [Lib.intOf] <;> omega
     ·obtain rfl:nP=i:=by omega
      have hq:¬ (nP:Int)<(nP:Int):=by omega
      have HPX:=Lib.hid (show pathsS l=x from by
       unfold pathsS
       rw [HCP.out,HTX.out]
       show iterN (stepP l LT.length) nP (sP,true,[])=x
       rw [HLT.out]
       exact HXX.out.symm)
      obtain ⟨s2,b2,LP⟩:=x
      simp only at HL HO HPX
      have HLP:=Lib.hid (show LP.length=nP from by
       have h:=iterP_len l nT sP true nP
       rw [←HXX.out] at h
       exact h)
      obtain ⟨CP,hCP⟩:∃ CP,wr.heap.size=CP:=⟨_,rfl⟩
      have HT0:=Lib.hid (show LdP w wr gx gr g c7 A7 l s2 #[.slice A n c,.slice At nT ct,.slice Ap nP cp,.slice none 0 0,.slice none 0 0] gok b2 (.slice At nT ct) nT LT (.slice Ap nP cp) nP LP CP from ⟨HL.out,⟨HO.out,fun k hk=>by rw [←hCP];exact (HO.out.lt k hk).2⟩,by rw [←hCP];exact HL.out.2.2.2.2,Nat.le_of_eq hCP.symm⟩)
      clear HXX HL HO hi hCP
      have k0:wr.cell? ⟨gr,0,none⟩=some (.pointer (some ⟨g,0,none⟩)):=HT0.out.1.1.2.2.2.2.cell 0
      have HCN:=Lib.hid (count_any HT0.out.1.1.2.2.2.1 hl2 4 (by omega) (by omega))
      have hfew:=cntN_few (l:=l) (s:=s2) (size:=4)
      obtain ⟨c0_,hc0_⟩:∃ x,cntN l 4 s2=x:=⟨_,rfl⟩
      have HnX:=Lib.hid (show cX l=c0_ from by
       unfold cX
       rw [HPX.out]
       exact hc0_)
      rw [hc0_] at HCN hfew
      clear hc0_
      obtain ⟨nX,sX⟩:=c0_
      simp only at hfew HCN
      have hnX:nX≤4194304:=by omega
      have hnX2:(nX:Int)≤4194304:=by omega
      clear hfew
      go_wp2_with fail
      refine HCN.out.mono ?_
      rintro en w18 ⟨rfl,hR,hO⟩
      have HT1:=Lib.hid (HT0.out.read hO hR)
      clear hR hO HCN k0 HT0
      go_wp2
      go_loopw [82,90] (fun iv _ W=>∃(i:Nat) (x:RS×Bool×List (Nat×Nat)) (xv:Value),iv=.int .i64 (i:Int)∧i≤nX∧x=iterN (stepX l nP nT) i (sX,b2,[])∧LdP w W gx gr g c7 A7 l x.1 #[.slice A n c,.slice At nT ct,.slice Ap nP cp,xv,.slice none 0 0] gok x.2.1 (.slice At nT ct) nT LT (.slice Ap nP cp) nP LP CP∧W.ownsRow CP 108 2 xv i (lsCells x.2.2)) (fun iv _ _=>nX-(Lib.intOf iv).toNat)
      case atStart=>exact ⟨0,_,_,rfl,Nat.zero_le _,rfl,HT1.out,World.ownsRow_nil _ _ _ _⟩
      case round =>
       clear HT1
       obtain ⟨i,x,xv,rfl,hi,hxx,hL,hO⟩:=hrel
       have HXX:=Lib.hid hxx
       have HL:=Lib.hid hL
       have HO:=Lib.hid hO
       obtain ⟨Ax,cx,rfl,-,-,-⟩:=own_form hO
       clear hxx hL hO
       by_cases hlt:i<nX
       ·have hq:(i:Int)<(nX:Int):=by omega
        have hi9:(i:Int)≤4194304:=by omega
        have k0:wr.cell? ⟨gr,0,none⟩=some (.pointer (some ⟨g,0,none⟩)):=HL.out.1.1.2.2.2.2.cell 0
        have hfew:=cntN_few (l:=l) (s:=x.1) (size:=8)
        have hle:=cntN_le (Rd.le HL.out.1.1.2.2.2.1) 8
        have HCN:=Lib.hid (count_any HL.out.1.1.2.2.2.1 hl2 8 (by omega) (by omega))
        obtain ⟨p,hp⟩:∃ p,cntN l 8 x.1=p:=⟨_,rfl⟩
        have HPR:=Lib.hid hp
        rw [hp] at HCN hfew hle
        clear hp
        obtain ⟨n1,a1,e1⟩:=p
        simp only at hfew hle HCN
        have HST:=Lib.hid (show stepX l nP nT x=((iterN (stepR l nP nT) n1 ((a1,e1),x.2.1)).1,(iterN (stepR l nP nT) n1 ((a1,e1),x.2.1)).2,x.2.2++[(a1,a1+8*n1)]) from by
         unfold stepX
         rw [HPR.out])
        have hn1:(n1:Int)≤4194304:=by omega
        have hn8:8*(n1:Int)≤140737488355328:=by omega
        have ha1:(a1:Int)≤140737488355328:=by omega
        clear hfew hle
        go_wp2_with fail
        refine HCN.out.mono ?_
        rintro en wa ⟨rfl,hR,hO⟩
        have HLa:=Lib.hid (HL.out.read hO hR)
        have HOa:=Lib.hid (own_stays2 HO.out hO (fun q hq e=>by cases e;have:=(HO.out.lt _ hq).1;have:=HL.out.1.1.2.1;have:=HL.out.1.2.2.2.1;have:=HL.out.2.2.1;omega))
        clear hR hO HCN k0 HL HO
        have k0:wa.cell? ⟨gr,0,none⟩=some (.pointer (some ⟨g,0,none⟩)):=HLa.out.1.1.2.2.2.2.cell 0
        have HAT:=Lib.hid (show Calls Tryz.prog 51 #[.pointer (some ⟨g,0,none⟩)] wa (fun e w'=>e=.returned (.int .i64 (a1:Int))∧wa=w') from rat_ HLa.out.1.1.2.2.2.1)
        go_wp2_with (go_at_call 51;go_must (refine HAT.out.mono ?_;rintro en wz ⟨rfl,rfl⟩))
        clear HAT k0
        obtain ⟨b9,hb9⟩:∃ b9,x.2.1=b9:=⟨_,rfl⟩
        have HB9:=Lib.hid hb9
        rw [hb9] at HLa
        clear hb9
        go_loopw [90] (fun jv W=>∃(j:Nat) (y:RS×Bool),jv=.int .i64 (j:Int)∧j≤n1∧y=iterN (stepR l nP nT) j ((a1,e1),b9)∧LdP w W gx gr g c7 A7 l y.1 #[.slice A n c,.slice At nT ct,.slice Ap nP cp,.slice Ax i cx,.slice none 0 0] gok y.2 (.slice At nT ct) nT LT (.slice Ap nP cp) nP LP CP∧W.ownsRow CP 108 2 (.slice Ax i cx) i (lsCells x.2.2)) (fun jv _=>n1-(Lib.intOf jv).toNat)
        case atStart=>exact ⟨0,_,rfl,Nat.zero_le _,rfl,HLa.out,HOa.out⟩
        case round =>
         clear HLa HOa
         obtain ⟨j,y,rfl,hj,hyy,hL,hO⟩:=hrel
         have HYY:=Lib.hid hyy
         have HL:=Lib.hid hL
         have HO:=Lib.hid hO
         clear hyy hL hO
         by_cases hjt:j<n1
         ·have hq2:(j:Int)<(n1:Int):=by omega
          obtain ⟨p,hp⟩:∃ p,rdN l y.1=p:=⟨_,rfl⟩
          obtain ⟨p2,hp2⟩:∃ p2,rdN l p.2=p2:=⟨_,rfl⟩
          have hlt4:=rdN_lt l y.1
          have hlt5:=rdN_lt l p.2
          have HSR:=Lib.hid (show stepR l nP nT y=(p2.2,(y.2 && decide (p.1<nP)) && decide (p2.1<nT)) from by
           unfold stepR
           rw [hp,hp2])
          have hbd:=(Below.refl wr.heap.size wr).drew
          have HLd:=Lib.hid (HL.out.on hbd)
          have HOd:=Lib.hid (own_more HO.out hbd)
          have HU:=Lib.hid (ru32 HLd.out.1.1.2.2.2.1)
          rw [hp] at HU hlt4
          rw [hp2] at hlt5
          have HP2:=Lib.hid hp2
          obtain ⟨n2,s3⟩:=p
          obtain ⟨n3,s4⟩:=p2
          simp only at HU hlt4 hlt5 HSR HP2
          have k0:wr.cell? ⟨gr,0,none⟩=some (.pointer (some ⟨g,0,none⟩)):=HL.out.1.1.2.2.2.2.cell 0
          have k1:wr.cell? ⟨gx,2,none⟩=some (.slice Ap nP cp):=HL.out.1.1.2.2.1.cell 2
          clear hp hp2 hbd HL HO
          go_upto_region 24 with (fail)
          refine wp_region_M (fun W=>W.cell? ⟨gr,0,none⟩=some (.pointer (some ⟨g,0,none⟩))∧W.cell? ⟨gx,2,none⟩=some (.slice Ap nP cp)) 10 (by kernel_rfl) (by go_keep) (fun hHeld=>?_)
          refine wpAnyM_take (i:=0) (d:=(some 92)) (v:=?_) rfl rfl (by kernel_rfl) (by kernel_rfl) (by kernel_rfl) (by kernel_rfl) (by kernel_rfl) (fun _ _ _ h=>h) (Or.inl ⟨by rfl,?_⟩) (by assumption) ?_
          rotate_left
          ·intro w hSw
           (try dsimp only at hSw)
           go_simp
           (try with_reducible rfl)
          (try simp only [Act.put,List.setIfInBounds_toArray,List.set_cons_zero,List.set_cons_succ])
          refine wpAnyM_take (i:=1) (d:=(some 93)) (v:=?_) rfl rfl (by kernel_rfl) (by kernel_rfl) (by kernel_rfl) (by kernel_rfl) (by kernel_rfl) (fun _ _ _ h=>h) (Or.inl ⟨by rfl,?_⟩) (by assumption) ?_
          rotate_left
          ·intro w hSw
           (try dsimp only at hSw)
           go_simp
           (try with_reducible rfl)
          (try simp only [Act.put,List.setIfInBounds_toArray,List.set_cons_zero,List.set_cons_succ])
          refine wpAnyM_take (i:=2) (d:=(some 94)) (v:=?_) rfl rfl (by kernel_rfl) (by kernel_rfl) (by kernel_rfl) (by kernel_rfl) (by kernel_rfl) (fun _ _ _ h=>h) (Or.inl ⟨by rfl,?_⟩) (by assumption) ?_
          rotate_left
          ·intro w hSw
           (try dsimp only at hSw)
           go_simp
           (try with_reducible rfl)
          (try simp only [Act.put,List.setIfInBounds_toArray,List.set_cons_zero,List.set_cons_succ])
          refine wpAnyM_take (i:=4) (d:=(some 96)) (v:=?_) rfl rfl (by kernel_rfl) (by kernel_rfl) (by kernel_rfl) (by kernel_rfl) (by kernel_rfl) (fun _ _ _ h=>h) (Or.inl ⟨by rfl,?_⟩) (by assumption) ?_
          rotate_left
          ·intro w hSw
           (try dsimp only at hSw)
           go_simp
           (try with_reducible rfl)
          (try simp only [Act.put,List.setIfInBounds_toArray,List.set_cons_zero,List.set_cons_succ])
          refine wpAnyM_take (i:=5) (d:=(some 97)) (v:=?_) rfl rfl (by kernel_rfl) (by kernel_rfl) (by kernel_rfl) (by kernel_rfl) (by kernel_rfl) (fun _ _ _ h=>h) (Or.inl ⟨by rfl,?_⟩) (by assumption) ?_
          rotate_left
          ·intro w hSw
           (try dsimp only at hSw)
           go_simp
           (try with_reducible rfl)
          (try simp only [Act.put,List.setIfInBounds_toArray,List.set_cons_zero,List.set_cons_succ])
          refine wpAnyM_take (i:=6) (d:=(some 98)) (v:=?_) rfl rfl (by kernel_rfl) (by kernel_rfl) (by kernel_rfl) (by kernel_rfl) (by kernel_rfl) (fun _ _ _ h=>h) (Or.inl ⟨by rfl,?_⟩) (by assumption) ?_
          rotate_left
          ·intro w hSw
           (try dsimp only at hSw)
           go_simp
           (try with_reducible rfl)
          (try simp only [Act.put,List.setIfInBounds_toArray,List.set_cons_zero,List.set_cons_succ])
          refine wpAnyM_take (i:=7) (d:=(some 99)) (v:=?_) rfl rfl (by kernel_rfl) (by kernel_rfl) (by kernel_rfl) (by kernel_rfl) (by kernel_rfl) (fun _ _ _ h=>h) (Or.inl ⟨by rfl,?_⟩) (by assumption) ?_
          rotate_left
          ·intro w hSw
           (try dsimp only at hSw)
           go_simp
           (try with_reducible rfl)
          (try simp only [Act.put,List.setIfInBounds_toArray,List.set_cons_zero,List.set_cons_succ])
          refine wpAnyM_take (i:=8) (d:=(some 100)) (v:=?_) rfl rfl (by kernel_rfl) (by kernel_rfl) (by kernel_rfl) (by kernel_rfl) (by kernel_rfl) (fun _ _ _ h=>h) (Or.inl ⟨by rfl,?_⟩) (by assumption) ?_
          rotate_left
          ·intro w hSw
           (try dsimp only at hSw)
           go_simp
           (try with_reducible rfl)
          (try simp only [Act.put,List.setIfInBounds_toArray,List.set_cons_zero,List.set_cons_succ])
          refine wpAnyM_one (i:=3) (by kernel_rfl) ?_
          refine owe_early (i:=3) (d:=(some 95)) rfl rfl (fun K hK=>?_)
          go_simp
          refine HU.out.mono ?_
          rintro en wa ⟨rfl,hR,hO⟩
          have HLa:=Lib.hid (HLd.out.read hO hR)
          have HOa:=Lib.hid (own_stays2 HOd.out hO (fun q hq e=>by cases e;have:=(HOd.out.lt _ hq).1;have:=HLd.out.1.1.2.1;have:=HLd.out.1.2.2.2.1;have:=HLd.out.2.2.1;omega))
          clear hR hO
          have k0:wa.cell? ⟨gr,0,none⟩=some (.pointer (some ⟨g,0,none⟩)):=HLa.out.1.1.2.2.2.2.cell 0
          have k1:wa.cell? ⟨gx,2,none⟩=some (.slice Ap nP cp):=HLa.out.1.1.2.2.1.cell 2
          have HNU:=Lib.hid (num_any gok n2 nP (y.2) wa HLa.out.1.2.2.1 hlt4 (by omega))
          refine hK.out _ _ (by go_keep) (fun hHeld=>?_)
          clear hK K
          (try simp only [Act.put,List.setIfInBounds_toArray,List.set_cons_zero,List.set_cons_succ])
          refine wpAnyM_one (i:=9) (by kernel_rfl) ?_
          refine owe_early (i:=9) (d:=(some 101)) rfl rfl (fun K hK=>?_)
          go_simp
          refine HNU.out.mono ?_
          rintro en wb ⟨rfl,hwb⟩
          have HLb:=Lib.hid (HLa.out.say ((y.2) && decide (n2<nP)))
          have HOb:=Lib.hid (own_stays2 HOa.out (grown_set wa gok 0 (.bool ((y.2) && decide (n2<nP)))) (fun q hq e=>by cases e;have:=(HOa.out.lt _ hq).1;have:=HLa.out.2.2.1;omega))
          rw [hwb] at HLb HOb
          clear hwb
          have k0:wb.cell? ⟨gr,0,none⟩=some (.pointer (some ⟨g,0,none⟩)):=HLb.out.1.1.2.2.2.2.cell 0
          have k1:wb.cell? ⟨gx,2,none⟩=some (.slice Ap nP cp):=HLb.out.1.1.2.2.1.cell 2
          refine hK.out _ _ (by go_keep) (fun hHeld=>?_)
          clear hK K
          (try simp only [Act.put,List.setIfInBounds_toArray,List.set_cons_zero,List.set_cons_succ])
          refine wpAnyM_done (by kernel_rfl) ?_ _
          (try simp only [Act.put,List.setIfInBounds_toArray,List.set_cons_zero,List.set_cons_succ])
          have k0:wb.cell? ⟨gr,0,none⟩=some (.pointer (some ⟨g,0,none⟩)):=HLb.out.1.1.2.2.2.2.cell 0
          have k1:wb.cell? ⟨gx,1,none⟩=some (.slice At nT ct):=HLb.out.1.1.2.2.1.cell 1
          have hbd:=(Below.refl wb.heap.size wb).drew
          have HLd:=Lib.hid (HLb.out.on hbd)
          have HOd:=Lib.hid (own_more HOb.out hbd)
          have HU:=Lib.hid (ru32 HLd.out.1.1.2.2.2.1)
          rw [HP2.out] at HU
          clear hbd HLa HOa HLb HOb HNU
          (try clear hHeld)
          go_upto_region 25 with (fail)
          refine wp_region_M (fun W=>W.cell? ⟨gr,0,none⟩=some (.pointer (some ⟨g,0,none⟩))∧W.cell? ⟨gx,1,none⟩=some (.slice At nT ct)) 10 (by kernel_rfl) (by go_keep) (fun hHeld=>?_)
          refine wpAnyM_take (i:=0) (d:=(some 102)) (v:=?_) rfl rfl (by kernel_rfl) (by kernel_rfl) (by kernel_rfl) (by kernel_rfl) (by kernel_rfl) (fun _ _ _ h=>h) (Or.inl ⟨by rfl,?_⟩) (by assumption) ?_
          rotate_left
          ·intro w hSw
           (try dsimp only at hSw)
           go_simp
           (try with_reducible rfl)
          (try simp only [Act.put,List.setIfInBounds_toArray,List.set_cons_zero,List.set_cons_succ])
          refine wpAnyM_take (i:=1) (d:=(some 103)) (v:=?_) rfl rfl (by kernel_rfl) (by kernel_rfl) (by kernel_rfl) (by kernel_rfl) (by kernel_rfl) (fun _ _ _ h=>h) (Or.inl ⟨by rfl,?_⟩) (by assumption) ?_
          rotate_left
          ·intro w hSw
           (try dsimp only at hSw)
           go_simp
           (try with_reducible rfl)
          (try simp only [Act.put,List.setIfInBounds_toArray,List.set_cons_zero,List.set_cons_succ])
          refine wpAnyM_take (i:=2) (d:=(some 104)) (v:=?_) rfl rfl (by kernel_rfl) (by kernel_rfl) (by kernel_rfl) (by kernel_rfl) (by kernel_rfl) (fun _ _ _ h=>h) (Or.inl ⟨by rfl,?_⟩) (by assumption) ?_
          rotate_left
          ·intro w hSw
           (try dsimp only at hSw)
           go_simp
           (try with_reducible rfl)
          (try simp only [Act.put,List.setIfInBounds_toArray,List.set_cons_zero,List.set_cons_succ])
          refine wpAnyM_take (i:=4) (d:=(some 106)) (v:=?_) rfl rfl (by kernel_rfl) (by kernel_rfl) (by kernel_rfl) (by kernel_rfl) (by kernel_rfl) (fun _ _ _ h=>h) (Or.inl ⟨by rfl,?_⟩) (by assumption) ?_
          rotate_left
          ·intro w hSw
           (try dsimp only at hSw)
           go_simp
           (try with_reducible rfl)
          (try simp only [Act.put,List.setIfInBounds_toArray,List.set_cons_zero,List.set_cons_succ])
          refine wpAnyM_take (i:=5) (d:=(some 107)) (v:=?_) rfl rfl (by kernel_rfl) (by kernel_rfl) (by kernel_rfl) (by kernel_rfl) (by kernel_rfl) (fun _ _ _ h=>h) (Or.inl ⟨by rfl,?_⟩) (by assumption) ?_
          rotate_left
          ·intro w hSw
           (try dsimp only at hSw)
           go_simp
           (try with_reducible rfl)
          (try simp only [Act.put,List.setIfInBounds_toArray,List.set_cons_zero,List.set_cons_succ])
          refine wpAnyM_take (i:=6) (d:=(some 108)) (v:=?_) rfl rfl (by kernel_rfl) (by kernel_rfl) (by kernel_rfl) (by kernel_rfl) (by kernel_rfl) (fun _ _ _ h=>h) (Or.inl ⟨by rfl,?_⟩) (by assumption) ?_
          rotate_left
          ·intro w hSw
           (try dsimp only at hSw)
           go_simp
           (try with_reducible rfl)
          (try simp only [Act.put,List.setIfInBounds_toArray,List.set_cons_zero,List.set_cons_succ])
          refine wpAnyM_take (i:=7) (d:=(some 109)) (v:=?_) rfl rfl (by kernel_rfl) (by kernel_rfl) (by kernel_rfl) (by kernel_rfl) (by kernel_rfl) (fun _ _ _ h=>h) (Or.inl ⟨by rfl,?_⟩) (by assumption) ?_
          rotate_left
          ·intro w hSw
           (try dsimp only at hSw)
           go_simp
           (try with_reducible rfl)
          (try simp only [Act.put,List.setIfInBounds_toArray,List.set_cons_zero,List.set_cons_succ])
          refine wpAnyM_take (i:=8) (d:=(some 110)) (v:=?_) rfl rfl (by kernel_rfl) (by kernel_rfl) (by kernel_rfl) (by kernel_rfl) (by kernel_rfl) (fun _ _ _ h=>h) (Or.inl ⟨by rfl,?_⟩) (by assumption) ?_
          rotate_left
          ·intro w hSw
           (try dsimp only at hSw)
           go_simp
           (try with_reducible rfl)
          (try simp only [Act.put,List.setIfInBounds_toArray,List.set_cons_zero,List.set_cons_succ])
          refine wpAnyM_one (i:=3) (by kernel_rfl) ?_
          refine owe_early (i:=3) (d:=(some 105)) rfl rfl (fun K hK=>?_)
          go_simp
          refine HU.out.mono ?_
          rintro en wc ⟨rfl,hR,hO⟩
          have HLa:=Lib.hid (HLd.out.read hO hR)
          have HOa:=Lib.hid (own_stays2 HOd.out hO (fun q hq e=>by cases e;have:=(HOd.out.lt _ hq).1;have:=HLd.out.1.1.2.1;have:=HLd.out.1.2.2.2.1;have:=HLd.out.2.2.1;omega))
          clear hR hO
          have k0:wc.cell? ⟨gr,0,none⟩=some (.pointer (some ⟨g,0,none⟩)):=HLa.out.1.1.2.2.2.2.cell 0
          have k1:wc.cell? ⟨gx,1,none⟩=some (.slice At nT ct):=HLa.out.1.1.2.2.1.cell 1
          have HNU:=Lib.hid (num_any gok n3 nT (y.2 && decide (n2<nP)) wc HLa.out.1.2.2.1 hlt5 (by omega))
          refine hK.out _ _ (by go_keep) (fun hHeld=>?_)
          clear hK K
          (try simp only [Act.put,List.setIfInBounds_toArray,List.set_cons_zero,List.set_cons_succ])
          refine wpAnyM_one (i:=9) (by kernel_rfl) ?_
          refine owe_early (i:=9) (d:=(some 111)) rfl rfl (fun K hK=>?_)
          go_simp
          refine HNU.out.mono ?_
          rintro en wd ⟨rfl,hwb⟩
          have HLb:=Lib.hid (HLa.out.say ((y.2 && decide (n2<nP)) && decide (n3<nT)))
          have HOb:=Lib.hid (own_stays2 HOa.out (grown_set wc gok 0 (.bool ((y.2 && decide (n2<nP)) && decide (n3<nT)))) (fun q hq e=>by cases e;have:=(HOa.out.lt _ hq).1;have:=HLa.out.2.2.1;omega))
          rw [hwb] at HLb HOb
          clear hwb
          have k0:wd.cell? ⟨gr,0,none⟩=some (.pointer (some ⟨g,0,none⟩)):=HLb.out.1.1.2.2.2.2.cell 0
          have k1:wd.cell? ⟨gx,1,none⟩=some (.slice At nT ct):=HLb.out.1.1.2.2.1.cell 1
          refine hK.out _ _ (by go_keep) (fun hHeld=>?_)
          clear hK K
          (try simp only [Act.put,List.setIfInBounds_toArray,List.set_cons_zero,List.set_cons_succ])
          refine wpAnyM_done (by kernel_rfl) ?_ _
          (try simp only [Act.put,List.setIfInBounds_toArray,List.set_cons_zero,List.set_cons_succ])
          go_wp2
          go_roundw
          case rel=>exact ⟨j+1,stepR l nP nT y,by go_num,hjt,by rw [HYY.out];rfl,by rw [HSR.out];exact HLb.out,HOb.out⟩
          case measure=>simp [Lib.intOf] <;> omega
         ·obtain rfl:n1=j:=by omega
          have hq2:¬ (n1:Int)<(n1:Int):=by omega
          have f1:wr.cell? ⟨gx,3,none⟩=some (.slice Ax i cx):=HL.out.1.1.2.2.1.cell 3
          have hba:=(Below.refl wr.heap.size wr).alloc (Nat.le_refl _) (.cells #[.int .i64 (a1:Int),.int .i64 ((a1:Int)+8*(n1:Int))] 108)
          have HLc:=Lib.hid (HL.out.on hba)
          have HOc:=Lib.hid (own_more HO.out hba)
          have HNc:=Lib.hid (reads_new wr #[.int .i64 (a1:Int),.int .i64 ((a1:Int)+8*(n1:Int))] 108 2 1 rfl)
          clear hba HL HO
          go_wp2_with (at_builtin;go_loud (refine wpList_append_any _ rfl (.tmp 117) (.tmp 124) _ rfl CP 108 iS _ 2 16 Tryz.underlying61 hiS hs0 hs1 hs2 rfl (by omega) _ i (lsCells x.2.2) rfl HOc.out (wr.heap.size+1) (some ⟨wr.heap.size,0,none⟩) 1 1 [.int .i64 (a1:Int),.int .i64 ((a1:Int)+8*(n1:Int))] rfl HNc.out (by simp [Value.oneCell']) (by simp only [maxLen];omega) (by omega) (by have:=HLc.out.2.2.2;simp at this;simp;omega) ?_);intro v3 wd hown3 hg3 hat3;obtain ⟨A9,c9,rfl,-,-,-⟩:=own_form hown3;have HOW:=Lib.hid hown3;have HLd:=Lib.hid (HLc.out.turn hg3 (fun k hk=>by have:=(HOc.out.lt k hk).1;omega));have HGD:=Lib.hid hg3;have q0:wd.cell? ⟨gx,3,none⟩=some (.slice Ax i cx):=HLd.out.1.1.2.2.1.cell 3;have q1:wd.frozen? ⟨gx,3,none⟩=false:=HLd.out.1.1.2.2.1.frozen 3;clear hown3 hg3 hat3)
          go_roundw
          case rel=>exact ⟨i+1,stepX l nP nT x,.slice A9 (i+1) c9,by go_num,hlt,by rw [HXX.out];rfl,by rw [HST.out,HB9.out,←HYY.out];exact HLd.out.set 3 (.slice A9 (i+1) c9),by
           rw [HST.out,lsCells_snoc,show (((a1,a1+8*n1):Nat×Nat).2:Int)=(a1:Int)+8*(n1:Int) from by simp]
           exact own_stays2 HOW.out (grown_set wd gx 3 _) (fun q hq e=>by cases e;have:=(HOW.out.lt _ hq).1;have:=HLd.out.1.1.2.1;have:=HLd.out.1.2.2.2.1;have:=HLd.out.2.2.1;omega)⟩
          case measure=>simp [Lib.intOf] <;> omega
       ·obtain rfl:nX=i:=by omega
        have hq:¬ (nX:Int)<(nX:Int):=by omega
        have HXS:=Lib.hid (show tabsS l=x from by
         unfold tabsS
         rw [HnX.out,HTX.out,HPX.out]
         show iterN (stepX l LP.length LT.length) nX (sX,b2,[])=x
         rw [HLP.out,HLT.out]
         exact HXX.out.symm)
        obtain ⟨s3,b3,LX⟩:=x
        simp only at HL HO HXS
        have HLX:=Lib.hid (show LX.length=nX from by
         have h:=iterX_len l nP nT sX b2 nX
         rw [←HXX.out] at h
         exact h)
        obtain ⟨CX,hCX⟩:∃ CX,wr.heap.size=CX:=⟨_,rfl⟩
        have HT0:=Lib.hid (show LdX w wr gx gr g c7 A7 l s3 #[.slice A n c,.slice At nT ct,.slice Ap nP cp,.slice Ax nX cx,.slice none 0 0] gok b3 (.slice At nT ct) nT LT (.slice Ap nP cp) nP LP CP (.slice Ax nX cx) nX LX CX from ⟨HL.out,⟨HO.out,fun k hk=>by rw [←hCX];exact (HO.out.lt k hk).2⟩,by rw [←hCX];exact HL.out.2.2.2,Nat.le_of_eq hCX.symm⟩)
        clear HXX HL HO hi hCX
        have k0:wr.cell? ⟨gr,0,none⟩=some (.pointer (some ⟨g,0,none⟩)):=HT0.out.1.1.1.2.2.2.2.cell 0
        have HCN:=Lib.hid (count_any HT0.out.1.1.1.2.2.2.1 hl2 8 (by omega) (by omega))
        have hfew:=cntN_few (l:=l) (s:=s3) (size:=8)
        obtain ⟨c0_,hc0_⟩:∃ x,cntN l 8 s3=x:=⟨_,rfl⟩
        have HnK:=Lib.hid (show cK l=c0_ from by
         unfold cK
         rw [HXS.out]
         exact hc0_)
        rw [hc0_] at HCN hfew
        clear hc0_
        obtain ⟨nK,sK⟩:=c0_
        simp only at hfew HCN
        have hnK:nK≤2097152:=by omega
        have hnK2:(nK:Int)≤2097152:=by omega
        clear hfew
        go_wp2_with fail
        refine HCN.out.mono ?_
        rintro en w29 ⟨rfl,hR,hO⟩
        have HT1:=Lib.hid (HT0.out.read hO hR)
        clear hR hO HCN k0 HT0
        go_wp2
        go_loopw [131,146] (fun iv _ W=>∃(i:Nat) (x:RS×Bool×List (Nat×List RowI)) (bv:Value) (vs:List Value),iv=.int .i64 (i:Int)∧i≤nK∧x=iterN (stepK l nT nX) i (sK,b3,[])∧LdX w W gx gr g c7 A7 l x.1 #[.slice A n c,.slice At nT ct,.slice Ap nP cp,.slice Ax nX cx,bv] gok x.2.1 (.slice At nT ct) nT LT (.slice Ap nP cp) nP LP CP (.slice Ax nX cx) nX LX CX∧BksO W CX W.heap.size bv x.2.2 vs∧x.2.2.length=i) (fun iv _ _=>nK-(Lib.intOf iv).toNat)
        case atStart=>exact ⟨0,_,_,[],rfl,Nat.zero_le _,rfl,HT1.out,BksO.nil _ _ _,rfl⟩
        case round =>
         clear HT1
         obtain ⟨i,x,bv,vs,rfl,hi,hxx,hL,hO,hln⟩:=hrel
         have HXX:=Lib.hid hxx
         have HL:=Lib.hid hL
         have HO:=Lib.hid hO
         have HLN:=Lib.hid hln
         obtain ⟨Ak,ck,ebv,-,-,-⟩:=own_form hO.1.1
         rw [hln] at ebv
         subst ebv
         clear hxx hL hO hln
         by_cases hlt:i<nK
         ·have hq:(i:Int)<(nK:Int):=by omega
          have hi9:(i:Int)≤2097152:=by omega
          obtain ⟨p,hp⟩:∃ p,rdN l x.1=p:=⟨_,rfl⟩
          have hlt4:=rdN_lt l x.1
          have HRN:=Lib.hid hp
          rw [hp] at hlt4
          clear hp
          obtain ⟨n1,s4⟩:=p
          simp only at hlt4
          obtain ⟨C,hC⟩:∃ C,wr.heap.size=C:=⟨_,rfl⟩
          have hbd:=(Below.refl wr.heap.size wr).drew
          have HC:=Lib.hid (show LdK w wr.drew gx gr g c7 A7 l x.1 #[.slice A n c,.slice At nT ct,.slice Ap nP cp,.slice Ax nX cx,.slice Ak i ck] gok x.2.1 (.slice At nT ct) nT LT (.slice Ap nP cp) nP LP CP (.slice Ax nX cx) nX LX CX (.slice Ak i ck) x.2.2 vs C none from by
           have h1:=HO.out
           have h2:=HL.out.2.2.2
           rw [hC] at h1 h2
           exact ⟨HL.out.on hbd,h1.on hbd,trivial,h2,by rw [←hC];exact hbd.size⟩)
          have k0:wr.cell? ⟨gr,0,none⟩=some (.pointer (some ⟨g,0,none⟩)):=HL.out.1.1.1.2.2.2.2.cell 0
          have k1:wr.cell? ⟨gx,1,none⟩=some (.slice At nT ct):=HL.out.1.1.1.2.2.1.cell 1
          clear hbd hC HL HO
          go_upto_region 31 with (fail)
          go_cut [12] from 133 to 143 (fun v W=>∃ gbk:Nat,v=.pointer (some ⟨gbk,0,none⟩)∧LdX w W gx gr g c7 A7 l s4 #[.slice A n c,.slice At nT ct,.slice Ap nP cp,.slice Ax nX cx,.slice Ak i ck] gok (x.2.1 && decide (n1<nT)) (.slice At nT ct) nT LT (.slice Ap nP cp) nP LP CP (.slice Ax nX cx) nX LX CX∧BksO W CX C (.slice Ak i ck) x.2.2 vs∧Blk W gbk 76 #[.int .i64 (n1:Int),.slice none 0 0]∧CX≤C∧C≤gbk)
          case first =>
           refine wp_region_M (fun W=>W.cell? ⟨gr,0,none⟩=some (.pointer (some ⟨g,0,none⟩))∧W.cell? ⟨gx,1,none⟩=some (.slice At nT ct)) 12 (by kernel_rfl) (by go_keep) (fun hHeld=>?_)
           generalize wr.drew=W0 at *
           refine wpAnyM_take (i:=0) (d:=(some 133)) (v:=?_) rfl rfl (by kernel_rfl) (by kernel_rfl) (by kernel_rfl) (by kernel_rfl) (by kernel_rfl) (fun _ _ _ h=>h) (Or.inl ⟨by rfl,?_⟩) (by assumption) ?_
           rotate_left
           ·intro w hSw
            (try dsimp only at hSw)
            go_simp
            (try with_reducible rfl)
           (try simp only [Act.put,List.setIfInBounds_toArray,List.set_cons_zero,List.set_cons_succ])
           refine wpAnyM_take (i:=1) (d:=(some 134)) (v:=?_) rfl rfl (by kernel_rfl) (by kernel_rfl) (by kernel_rfl) (by kernel_rfl) (by kernel_rfl) (fun _ _ _ h=>h) (Or.inl ⟨by rfl,?_⟩) (by assumption) ?_
           rotate_left
           ·intro w hSw
            (try dsimp only at hSw)
            go_simp
            (try with_reducible rfl)
           (try simp only [Act.put,List.setIfInBounds_toArray,List.set_cons_zero,List.set_cons_succ])
           refine wpAnyM_take (i:=2) (d:=(some 135)) (v:=?_) rfl rfl (by kernel_rfl) (by kernel_rfl) (by kernel_rfl) (by kernel_rfl) (by kernel_rfl) (fun _ _ _ h=>h) (Or.inl ⟨by rfl,?_⟩) (by assumption) ?_
           rotate_left
           ·intro w hSw
            (try dsimp only at hSw)
            go_simp
            (try with_reducible rfl)
           (try simp only [Act.put,List.setIfInBounds_toArray,List.set_cons_zero,List.set_cons_succ])
           refine wpAnyM_take (i:=4) (d:=(some 137)) (v:=?_) rfl rfl (by kernel_rfl) (by kernel_rfl) (by kernel_rfl) (by kernel_rfl) (by kernel_rfl) (fun _ _ _ h=>h) (Or.inl ⟨by rfl,?_⟩) (by assumption) ?_
           rotate_left
           ·intro w hSw
            (try dsimp only at hSw)
            go_simp
            (try with_reducible rfl)
           (try simp only [Act.put,List.setIfInBounds_toArray,List.set_cons_zero,List.set_cons_succ])
           refine wpAnyM_take (i:=5) (d:=(some 138)) (v:=?_) rfl rfl (by kernel_rfl) (by kernel_rfl) (by kernel_rfl) (by kernel_rfl) (by kernel_rfl) (fun _ _ _ h=>h) (Or.inl ⟨by rfl,?_⟩) (by assumption) ?_
           rotate_left
           ·intro w hSw
            (try dsimp only at hSw)
            go_simp
            (try with_reducible rfl)
           (try simp only [Act.put,List.setIfInBounds_toArray,List.set_cons_zero,List.set_cons_succ])
           refine wpAnyM_take (i:=6) (d:=(some 139)) (v:=?_) rfl rfl (by kernel_rfl) (by kernel_rfl) (by kernel_rfl) (by kernel_rfl) (by kernel_rfl) (fun _ _ _ h=>h) (Or.inl ⟨by rfl,?_⟩) (by assumption) ?_
           rotate_left
           ·intro w hSw
            (try dsimp only at hSw)
            go_simp
            (try with_reducible rfl)
           (try simp only [Act.put,List.setIfInBounds_toArray,List.set_cons_zero,List.set_cons_succ])
           refine wpAnyM_take (i:=7) (d:=(some 140)) (v:=?_) rfl rfl (by kernel_rfl) (by kernel_rfl) (by kernel_rfl) (by kernel_rfl) (by kernel_rfl) (fun _ _ _ h=>h) (Or.inl ⟨by rfl,?_⟩) (by assumption) ?_
           rotate_left
           ·intro w hSw
            (try dsimp only at hSw)
            go_simp
            (try with_reducible rfl)
           (try simp only [Act.put,List.setIfInBounds_toArray,List.set_cons_zero,List.set_cons_succ])
           refine wpAnyM_take (i:=8) (d:=(some 141)) (v:=?_) rfl rfl (by kernel_rfl) (by kernel_rfl) (by kernel_rfl) (by kernel_rfl) (by kernel_rfl) (fun _ _ _ h=>h) (Or.inl ⟨by rfl,?_⟩) (by assumption) ?_
           rotate_left
           ·intro w hSw
            (try dsimp only at hSw)
            go_simp
            (try with_reducible rfl)
           (try simp only [Act.put,List.setIfInBounds_toArray,List.set_cons_zero,List.set_cons_succ])
           refine wpAnyM_two (i:=3) (j:=11) (by kernel_rfl) ?_ ?_
           ·refine owe_early (i:=3) (d:=(some 136)) rfl rfl (fun K hK=>?_)
            go_simp
            have hu:=ru32 HC.out.1.1.1.1.2.2.2.1
            rw [HRN.out] at hu
            refine hu.mono ?_
            clear hu
            rintro en wz ⟨rfl,hR,hO⟩
            have HC:=Lib.hid (HC.out.read hO hR)
            clear hR hO
            have k0:wz.cell? ⟨gr,0,none⟩=some (.pointer (some ⟨g,0,none⟩)):=HC.out.1.1.1.1.2.2.2.2.cell 0
            have k1:wz.cell? ⟨gx,1,none⟩=some (.slice At nT ct):=HC.out.1.1.1.1.2.2.1.cell 1
            (try obtain ⟨b0,b1,b2,b3⟩:=HC.out.2.2.1.cells)
            refine hK.out _ _ (by go_keep) (fun hHeld=>?_)
            clear hK K
            (try simp only [Act.put,List.setIfInBounds_toArray,List.set_cons_zero,List.set_cons_succ])
            refine wpAnyM_two (i:=9) (j:=11) (by kernel_rfl) ?_ ?_
            ·refine owe_early (i:=9) (d:=(some 142)) rfl rfl (fun K hK=>?_)
             go_simp
             refine (num_any gok n1 nT x.2.1 _ HC.out.1.1.1.2.2.1 hlt4 (by omega)).mono ?_
             rintro en wz ⟨rfl,hwz⟩
             have HC:=Lib.hid (HC.out.say (x.2.1 && decide (n1<nT)))
             rw [hwz] at HC
             clear hwz
             have k0:wz.cell? ⟨gr,0,none⟩=some (.pointer (some ⟨g,0,none⟩)):=HC.out.1.1.1.1.2.2.2.2.cell 0
             have k1:wz.cell? ⟨gx,1,none⟩=some (.slice At nT ct):=HC.out.1.1.1.1.2.2.1.cell 1
             (try obtain ⟨b0,b1,b2,b3⟩:=HC.out.2.2.1.cells)
             refine hK.out _ _ (by go_keep) (fun hHeld=>?_)
             clear hK K
             (try simp only [Act.put,List.setIfInBounds_toArray,List.set_cons_zero,List.set_cons_succ])
             refine wpAnyM_take (i:=10) (d:=(some 143)) (v:=?_) rfl rfl (by kernel_rfl) (by kernel_rfl) (by kernel_rfl) (by kernel_rfl) (by kernel_rfl) (fun _ _ _ h=>h) (Or.inl ⟨by rfl,?_⟩) (by assumption) ?_
             rotate_left
             ·intro w hSw
              (try dsimp only at hSw)
              go_simp
              (try with_reducible rfl)
             (try simp only [Act.put,List.setIfInBounds_toArray,List.set_cons_zero,List.set_cons_succ])
             refine wpAnyM_one (i:=11) (by kernel_rfl) ?_
             refine owe_early (i:=11) (d:=(some 12)) rfl rfl (fun K hK=>?_)
             go_simp
             have HC0:=HC
             have HC:=Lib.hid HC.out.made
             refine hK.out _ _ (by go_keep) (fun hHeld=>?_)
             clear hK K
             (try simp only [Act.put,List.setIfInBounds_toArray,List.set_cons_zero,List.set_cons_succ])
             refine wpAnyM_one (i:=12) (by kernel_rfl) ?_
             refine owe_late (i:=12) (d:=none) rfl rfl (by decide) (fun K hK=>?_)
             go_simp
             refine hK.out undef _ ?_
             clear hK K
             (try simp only [Act.put,List.setIfInBounds_toArray,List.set_cons_zero,List.set_cons_succ])
             refine wpAnyM_done (by kernel_rfl) ?_ _
             (try simp only [Act.put,List.setIfInBounds_toArray,List.set_cons_zero,List.set_cons_succ])
             go_wp2_with fail
             go_meet
             first | exact ⟨_,rfl,HC0.out.new _⟩ | exact ⟨_,rfl,HC.out.put _⟩
            ·refine owe_early (i:=11) (d:=(some 12)) rfl rfl (fun K hK=>?_)
             go_simp
             have HC0:=HC
             have HC:=Lib.hid HC.out.made
             refine hK.out _ _ (by go_keep) (fun hHeld=>?_)
             clear hK K
             (try simp only [Act.put,List.setIfInBounds_toArray,List.set_cons_zero,List.set_cons_succ])
             refine wpAnyM_one (i:=9) (by kernel_rfl) ?_
             refine owe_early (i:=9) (d:=(some 142)) rfl rfl (fun K hK=>?_)
             go_simp
             refine (num_any gok n1 nT x.2.1 _ HC.out.1.1.1.2.2.1 hlt4 (by omega)).mono ?_
             rintro en wz ⟨rfl,hwz⟩
             have HC:=Lib.hid (HC.out.say (x.2.1 && decide (n1<nT)))
             rw [hwz] at HC
             clear hwz
             have k0:wz.cell? ⟨gr,0,none⟩=some (.pointer (some ⟨g,0,none⟩)):=HC.out.1.1.1.1.2.2.2.2.cell 0
             have k1:wz.cell? ⟨gx,1,none⟩=some (.slice At nT ct):=HC.out.1.1.1.1.2.2.1.cell 1
             (try obtain ⟨b0,b1,b2,b3⟩:=HC.out.2.2.1.cells)
             refine hK.out _ _ (by go_keep) (fun hHeld=>?_)
             clear hK K
             (try simp only [Act.put,List.setIfInBounds_toArray,List.set_cons_zero,List.set_cons_succ])
             refine wpAnyM_take (i:=10) (d:=(some 143)) (v:=?_) rfl rfl (by kernel_rfl) (by kernel_rfl) (by kernel_rfl) (by kernel_rfl) (by kernel_rfl) (fun _ _ _ h=>h) (Or.inl ⟨by rfl,?_⟩) (by assumption) ?_
             rotate_left
             ·intro w hSw
              (try dsimp only at hSw)
              go_simp
              (try with_reducible rfl)
             (try simp only [Act.put,List.setIfInBounds_toArray,List.set_cons_zero,List.set_cons_succ])
             refine wpAnyM_one (i:=12) (by kernel_rfl) ?_
             refine owe_late (i:=12) (d:=none) rfl rfl (by decide) (fun K hK=>?_)
             go_simp
             refine hK.out undef _ ?_
             clear hK K
             (try simp only [Act.put,List.setIfInBounds_toArray,List.set_cons_zero,List.set_cons_succ])
             refine wpAnyM_done (by kernel_rfl) ?_ _
             (try simp only [Act.put,List.setIfInBounds_toArray,List.set_cons_zero,List.set_cons_succ])
             go_wp2_with fail
             go_meet
             first | exact ⟨_,rfl,HC0.out.new _⟩ | exact ⟨_,rfl,HC.out.put _⟩
           ·refine owe_early (i:=11) (d:=(some 12)) rfl rfl (fun K hK=>?_)
            go_simp
            have HC0:=HC
            have HC:=Lib.hid HC.out.made
            refine hK.out _ _ (by go_keep) (fun hHeld=>?_)
            clear hK K
            (try simp only [Act.put,List.setIfInBounds_toArray,List.set_cons_zero,List.set_cons_succ])
            refine wpAnyM_one (i:=3) (by kernel_rfl) ?_
            refine owe_early (i:=3) (d:=(some 136)) rfl rfl (fun K hK=>?_)
            go_simp
            have hu:=ru32 HC.out.1.1.1.1.2.2.2.1
            rw [HRN.out] at hu
            refine hu.mono ?_
            clear hu
            rintro en wz ⟨rfl,hR,hO⟩
            have HC:=Lib.hid (HC.out.read hO hR)
            clear hR hO
            have k0:wz.cell? ⟨gr,0,none⟩=some (.pointer (some ⟨g,0,none⟩)):=HC.out.1.1.1.1.2.2.2.2.cell 0
            have k1:wz.cell? ⟨gx,1,none⟩=some (.slice At nT ct):=HC.out.1.1.1.1.2.2.1.cell 1
            (try obtain ⟨b0,b1,b2,b3⟩:=HC.out.2.2.1.cells)
            refine hK.out _ _ (by go_keep) (fun hHeld=>?_)
            clear hK K
            (try simp only [Act.put,List.setIfInBounds_toArray,List.set_cons_zero,List.set_cons_succ])
            refine wpAnyM_one (i:=9) (by kernel_rfl) ?_
            refine owe_early (i:=9) (d:=(some 142)) rfl rfl (fun K hK=>?_)
            go_simp
            refine (num_any gok n1 nT x.2.1 _ HC.out.1.1.1.2.2.1 hlt4 (by omega)).mono ?_
            rintro en wz ⟨rfl,hwz⟩
            have HC:=Lib.hid (HC.out.say (x.2.1 && decide (n1<nT)))
            rw [hwz] at HC
            clear hwz
            have k0:wz.cell? ⟨gr,0,none⟩=some (.pointer (some ⟨g,0,none⟩)):=HC.out.1.1.1.1.2.2.2.2.cell 0
            have k1:wz.cell? ⟨gx,1,none⟩=some (.slice At nT ct):=HC.out.1.1.1.1.2.2.1.cell 1
            (try obtain ⟨b0,b1,b2,b3⟩:=HC.out.2.2.1.cells)
            refine hK.out _ _ (by go_keep) (fun hHeld=>?_)
            clear hK K
            (try simp only [Act.put,List.setIfInBounds_toArray,List.set_cons_zero,List.set_cons_succ])
            refine wpAnyM_take (i:=10) (d:=(some 143)) (v:=?_) rfl rfl (by kernel_rfl) (by kernel_rfl) (by kernel_rfl) (by kernel_rfl) (by kernel_rfl) (fun _ _ _ h=>h) (Or.inl ⟨by rfl,?_⟩) (by assumption) ?_
            rotate_left
            ·intro w hSw
             (try dsimp only at hSw)
             go_simp
             (try with_reducible rfl)
            (try simp only [Act.put,List.setIfInBounds_toArray,List.set_cons_zero,List.set_cons_succ])
            refine wpAnyM_one (i:=12) (by kernel_rfl) ?_
            refine owe_late (i:=12) (d:=none) rfl rfl (by decide) (fun K hK=>?_)
            go_simp
            refine hK.out undef _ ?_
            clear hK K
            (try simp only [Act.put,List.setIfInBounds_toArray,List.set_cons_zero,List.set_cons_succ])
            refine wpAnyM_done (by kernel_rfl) ?_ _
            (try simp only [Act.put,List.setIfInBounds_toArray,List.set_cons_zero,List.set_cons_succ])
            go_wp2_with fail
            go_meet
            first | exact ⟨_,rfl,HC0.out.new _⟩ | exact ⟨_,rfl,HC.out.put _⟩
          case rest =>
           obtain ⟨gbk,rfl,hL,hO,hK,hC⟩:=hcut
           have HG0:=Lib.hid (show LdG w wc gx gr g c7 A7 l s4 #[.slice A n c,.slice At nT ct,.slice Ap nP cp,.slice Ax nX cx,.slice Ak i ck] gok (x.2.1 && decide (n1<nT)) (.slice At nT ct) nT LT (.slice Ap nP cp) nP LP CP (.slice Ax nX cx) nX LX CX (.slice Ak i ck) x.2.2 vs C gbk (.int .i64 (n1:Int)) (.slice none 0 0) 0 [] from ⟨hL,hO,hK,World.ownsRow_nil _ _ _ _,hC⟩)
           clear hL hO hK hC k0 k1 HC
           have k0:wc.cell? ⟨gr,0,none⟩=some (.pointer (some ⟨g,0,none⟩)):=HG0.out.1.1.1.1.2.2.2.2.cell 0
           have hfew:=cntN_few (l:=l) (s:=s4) (size:=8)
           have HCN:=Lib.hid (count_any HG0.out.1.1.1.1.2.2.2.1 hl2 8 (by omega) (by omega))
           obtain ⟨p,hp⟩:∃ p,cntN l 8 s4=p:=⟨_,rfl⟩
           have HPG:=Lib.hid hp
           rw [hp] at HCN hfew
           clear hp
           obtain ⟨n2,s5⟩:=p
           simp only at hfew HCN
           have hn2:(n2:Int)≤2097152:=by omega
           have hn2b:n2≤2097152:=by omega
           clear hfew
           go_wp2_with fail
           refine HCN.out.mono ?_
           rintro en wd ⟨rfl,hR,hO⟩
           have HG1:=Lib.hid (HG0.out.read hO hR)
           obtain ⟨b4,hb4⟩:∃ b4,(x.2.1 && decide (n1<nT))=b4:=⟨_,rfl⟩
           have HB4:=Lib.hid hb4
           rw [hb4] at HG1
           clear hb4 hR hO HCN k0 HG0
           go_wp2
           go_loopw [146] (fun jv W=>∃(j:Nat) (y:RS×Bool×List RowI) (gv:Value),jv=.int .i64 (j:Int)∧j≤n2∧y=iterN (stepG l nT nX) j (s5,b4,[])∧y.2.2.length=j∧LdG w W gx gr g c7 A7 l y.1 #[.slice A n c,.slice At nT ct,.slice Ap nP cp,.slice Ax nX cx,.slice Ak i ck] gok y.2.1 (.slice At nT ct) nT LT (.slice Ap nP cp) nP LP CP (.slice Ax nX cx) nX LX CX (.slice Ak i ck) x.2.2 vs C gbk (.int .i64 (n1:Int)) (gv) j y.2.2) (fun jv _=>n2-(Lib.intOf jv).toNat)
           case atStart=>exact ⟨0,_,_,rfl,Nat.zero_le _,rfl,rfl,HG1.out⟩
           case round =>
            clear HG1
            obtain ⟨j,y,gv,rfl,hj,hyy,hyl,hG⟩:=hrel
            have HYY:=Lib.hid hyy
            have HYL:=Lib.hid hyl
            have HG:=Lib.hid hG
            obtain ⟨Ag,cg,rfl,-,-,-⟩:=own_form hG.2.2.2.1
            clear hyy hyl hG
            by_cases hjt:j<n2
            ·have hq2:(j:Int)<(n2:Int):=by omega
             have hj9:(j:Int)≤2097152:=by omega
             obtain ⟨p,hp⟩:∃ p,rdN l y.1=p:=⟨_,rfl⟩
             obtain ⟨p2,hp2⟩:∃ p2,rdN l p.2=p2:=⟨_,rfl⟩
             have hlt5:=rdN_lt l y.1
             have hlt6:=rdN_lt l p.2
             have HSG:=Lib.hid (show stepG l nT nX y=(p2.2,(y.2.1 && decide (p.1<nT)) && decide (p2.1<nX),y.2.2++[((p.1:Int),(p2.1:Int))]) from by
              unfold stepG
              rw [hp,hp2])
             have HP3:=Lib.hid hp
             rw [hp] at hlt5
             rw [hp2] at hlt6
             have HP2:=Lib.hid hp2
             obtain ⟨n3,s6⟩:=p
             obtain ⟨n4,s7⟩:=p2
             simp only at hlt5 hlt6 HSG HP2
             have hlt7:(n3:Int)<4294967296:=by omega
             have hlt8:(n4:Int)<4294967296:=by omega
             have hw3:IntKind.u32.wrap (n3:Int)=(n3:Int):=by rw [IntKind.wrap_u32];omega
             have hw4:IntKind.u32.wrap (n4:Int)=(n4:Int):=by rw [IntKind.wrap_u32];omega
             have HC:=Lib.hid (HG.out.on ((Below.refl wr.heap.size wr).drew))
             have k0:wr.cell? ⟨gr,0,none⟩=some (.pointer (some ⟨g,0,none⟩)):=HG.out.1.1.1.1.2.2.2.2.cell 0
             have k1:wr.cell? ⟨gx,1,none⟩=some (.slice At nT ct):=HG.out.1.1.1.1.2.2.1.cell 1
             have k2:wr.cell? ⟨gx,3,none⟩=some (.slice Ax nX cx):=HG.out.1.1.1.1.2.2.1.cell 3
             have k3:wr.cell? ⟨gbk,1,none⟩=some (.slice Ag j cg):=HG.out.2.2.1.cell 1
             clear hp hp2 HG
             go_upto_region 34 with (fail)
             refine wp_region_M (fun W=>W.cell? ⟨gr,0,none⟩=some (.pointer (some ⟨g,0,none⟩))∧W.cell? ⟨gx,1,none⟩=some (.slice At nT ct)∧W.cell? ⟨gx,3,none⟩=some (.slice Ax nX cx)∧W.cell? ⟨gbk,1,none⟩=some (.slice Ag j cg)) 28 (by kernel_rfl) (by go_keep) (fun hHeld=>?_)
             refine wpAnyM_take (i:=0) (d:=(some 148)) (v:=?_) rfl rfl (by kernel_rfl) (by kernel_rfl) (by kernel_rfl) (by kernel_rfl) (by kernel_rfl) (fun _ _ _ h=>h) (Or.inl ⟨by rfl,?_⟩) (by assumption) ?_
             rotate_left
             ·intro w hSw
              (try dsimp only at hSw)
              go_simp
              (try with_reducible rfl)
             (try simp only [Act.put,List.setIfInBounds_toArray,List.set_cons_zero,List.set_cons_succ])
             refine wpAnyM_take (i:=1) (d:=(some 149)) (v:=?_) rfl rfl (by kernel_rfl) (by kernel_rfl) (by kernel_rfl) (by kernel_rfl) (by kernel_rfl) (fun _ _ _ h=>h) (Or.inl ⟨by rfl,?_⟩) (by assumption) ?_
             rotate_left
             ·intro w hSw
              (try dsimp only at hSw)
              go_simp
              (try with_reducible rfl)
             (try simp only [Act.put,List.setIfInBounds_toArray,List.set_cons_zero,List.set_cons_succ])
             refine wpAnyM_take (i:=2) (d:=(some 150)) (v:=?_) rfl rfl (by kernel_rfl) (by kernel_rfl) (by kernel_rfl) (by kernel_rfl) (by kernel_rfl) (fun _ _ _ h=>h) (Or.inl ⟨by rfl,?_⟩) (by assumption) ?_
             rotate_left
             ·intro w hSw
              (try dsimp only at hSw)
              go_simp
              (try with_reducible rfl)
             (try simp only [Act.put,List.setIfInBounds_toArray,List.set_cons_zero,List.set_cons_succ])
             refine wpAnyM_take (i:=3) (d:=(some 151)) (v:=?_) rfl rfl (by kernel_rfl) (by kernel_rfl) (by kernel_rfl) (by kernel_rfl) (by kernel_rfl) (fun _ _ _ h=>h) (Or.inl ⟨by rfl,?_⟩) (by assumption) ?_
             rotate_left
             ·intro w hSw
              (try dsimp only at hSw)
              go_simp
              (try with_reducible rfl)
             (try simp only [Act.put,List.setIfInBounds_toArray,List.set_cons_zero,List.set_cons_succ])
             refine wpAnyM_take (i:=4) (d:=(some 152)) (v:=?_) rfl rfl (by kernel_rfl) (by kernel_rfl) (by kernel_rfl) (by kernel_rfl) (by kernel_rfl) (fun _ _ _ h=>h) (Or.inl ⟨by rfl,?_⟩) (by assumption) ?_
             rotate_left
             ·intro w hSw
              (try dsimp only at hSw)
              go_simp
              (try with_reducible rfl)
             (try simp only [Act.put,List.setIfInBounds_toArray,List.set_cons_zero,List.set_cons_succ])
             refine wpAnyM_take (i:=6) (d:=(some 154)) (v:=?_) rfl rfl (by kernel_rfl) (by kernel_rfl) (by kernel_rfl) (by kernel_rfl) (by kernel_rfl) (fun _ _ _ h=>h) (Or.inl ⟨by rfl,?_⟩) (by assumption) ?_
             rotate_left
             ·intro w hSw
              (try dsimp only at hSw)
              go_simp
              (try with_reducible rfl)
             (try simp only [Act.put,List.setIfInBounds_toArray,List.set_cons_zero,List.set_cons_succ])
             refine wpAnyM_take (i:=7) (d:=(some 155)) (v:=?_) rfl rfl (by kernel_rfl) (by kernel_rfl) (by kernel_rfl) (by kernel_rfl) (by kernel_rfl) (fun _ _ _ h=>h) (Or.inl ⟨by rfl,?_⟩) (by assumption) ?_
             rotate_left
             ·intro w hSw
              (try dsimp only at hSw)
              go_simp
              (try with_reducible rfl)
             (try simp only [Act.put,List.setIfInBounds_toArray,List.set_cons_zero,List.set_cons_succ])
             refine wpAnyM_take (i:=8) (d:=(some 156)) (v:=?_) rfl rfl (by kernel_rfl) (by kernel_rfl) (by kernel_rfl) (by kernel_rfl) (by kernel_rfl) (fun _ _ _ h=>h) (Or.inl ⟨by rfl,?_⟩) (by assumption) ?_
             rotate_left
             ·intro w hSw
              (try dsimp only at hSw)
              go_simp
              (try with_reducible rfl)
             (try simp only [Act.put,List.setIfInBounds_toArray,List.set_cons_zero,List.set_cons_succ])
             refine wpAnyM_take (i:=9) (d:=(some 157)) (v:=?_) rfl rfl (by kernel_rfl) (by kernel_rfl) (by kernel_rfl) (by kernel_rfl) (by kernel_rfl) (fun _ _ _ h=>h) (Or.inl ⟨by rfl,?_⟩) (by assumption) ?_
             rotate_left
             ·intro w hSw
              (try dsimp only at hSw)
              go_simp
              (try with_reducible rfl)
             (try simp only [Act.put,List.setIfInBounds_toArray,List.set_cons_zero,List.set_cons_succ])
             refine wpAnyM_take (i:=10) (d:=(some 158)) (v:=?_) rfl rfl (by kernel_rfl) (by kernel_rfl) (by kernel_rfl) (by kernel_rfl) (by kernel_rfl) (fun _ _ _ h=>h) (Or.inl ⟨by rfl,?_⟩) (by assumption) ?_
             rotate_left
             ·intro w hSw
              (try dsimp only at hSw)
              go_simp
              (try with_reducible rfl)
             (try simp only [Act.put,List.setIfInBounds_toArray,List.set_cons_zero,List.set_cons_succ])
             refine wpAnyM_take (i:=13) (d:=(some 161)) (v:=?_) rfl rfl (by kernel_rfl) (by kernel_rfl) (by kernel_rfl) (by kernel_rfl) (by kernel_rfl) (fun _ _ _ h=>h) (Or.inl ⟨by rfl,?_⟩) (by assumption) ?_
             rotate_left
             ·intro w hSw
              (try dsimp only at hSw)
              go_simp
              (try with_reducible rfl)
             (try simp only [Act.put,List.setIfInBounds_toArray,List.set_cons_zero,List.set_cons_succ])
             refine wpAnyM_take (i:=14) (d:=(some 162)) (v:=?_) rfl rfl (by kernel_rfl) (by kernel_rfl) (by kernel_rfl) (by kernel_rfl) (by kernel_rfl) (fun _ _ _ h=>h) (Or.inl ⟨by rfl,?_⟩) (by assumption) ?_
             rotate_left
             ·intro w hSw
              (try dsimp only at hSw)
              go_simp
              (try with_reducible rfl)
             (try simp only [Act.put,List.setIfInBounds_toArray,List.set_cons_zero,List.set_cons_succ])
             refine wpAnyM_take (i:=15) (d:=(some 163)) (v:=?_) rfl rfl (by kernel_rfl) (by kernel_rfl) (by kernel_rfl) (by kernel_rfl) (by kernel_rfl) (fun _ _ _ h=>h) (Or.inl ⟨by rfl,?_⟩) (by assumption) ?_
             rotate_left
             ·intro w hSw
              (try dsimp only at hSw)
              go_simp
              (try with_reducible rfl)
             (try simp only [Act.put,List.setIfInBounds_toArray,List.set_cons_zero,List.set_cons_succ])
             refine wpAnyM_take (i:=17) (d:=(some 165)) (v:=?_) rfl rfl (by kernel_rfl) (by kernel_rfl) (by kernel_rfl) (by kernel_rfl) (by kernel_rfl) (fun _ _ _ h=>h) (Or.inl ⟨by rfl,?_⟩) (by assumption) ?_
             rotate_left
             ·intro w hSw
              (try dsimp only at hSw)
              go_simp
              (try with_reducible rfl)
             (try simp only [Act.put,List.setIfInBounds_toArray,List.set_cons_zero,List.set_cons_succ])
             refine wpAnyM_take (i:=18) (d:=(some 166)) (v:=?_) rfl rfl (by kernel_rfl) (by kernel_rfl) (by kernel_rfl) (by kernel_rfl) (by kernel_rfl) (fun _ _ _ h=>h) (Or.inl ⟨by rfl,?_⟩) (by assumption) ?_
             rotate_left
             ·intro w hSw
              (try dsimp only at hSw)
              go_simp
              (try with_reducible rfl)
             (try simp only [Act.put,List.setIfInBounds_toArray,List.set_cons_zero,List.set_cons_succ])
             refine wpAnyM_take (i:=19) (d:=(some 167)) (v:=?_) rfl rfl (by kernel_rfl) (by kernel_rfl) (by kernel_rfl) (by kernel_rfl) (by kernel_rfl) (fun _ _ _ h=>h) (Or.inl ⟨by rfl,?_⟩) (by assumption) ?_
             rotate_left
             ·intro w hSw
              (try dsimp only at hSw)
              go_simp
              (try with_reducible rfl)
             (try simp only [Act.put,List.setIfInBounds_toArray,List.set_cons_zero,List.set_cons_succ])
             refine wpAnyM_take (i:=20) (d:=(some 168)) (v:=?_) rfl rfl (by kernel_rfl) (by kernel_rfl) (by kernel_rfl) (by kernel_rfl) (by kernel_rfl) (fun _ _ _ h=>h) (Or.inl ⟨by rfl,?_⟩) (by assumption) ?_
             rotate_left
             ·intro w hSw
              (try dsimp only at hSw)
              go_simp
              (try with_reducible rfl)
             (try simp only [Act.put,List.setIfInBounds_toArray,List.set_cons_zero,List.set_cons_succ])
             refine wpAnyM_take (i:=21) (d:=(some 169)) (v:=?_) rfl rfl (by kernel_rfl) (by kernel_rfl) (by kernel_rfl) (by kernel_rfl) (by kernel_rfl) (fun _ _ _ h=>h) (Or.inl ⟨by rfl,?_⟩) (by assumption) ?_
             rotate_left
             ·intro w hSw
              (try dsimp only at hSw)
              go_simp
              (try with_reducible rfl)
             (try simp only [Act.put,List.setIfInBounds_toArray,List.set_cons_zero,List.set_cons_succ])
             refine wpAnyM_one (i:=5) (by kernel_rfl) ?_
             refine owe_early (i:=5) (d:=(some 153)) rfl rfl (fun K hK=>?_)
             go_simp
             have hu:=ru32 HC.out.1.1.1.1.2.2.2.1
             rw [HP3.out] at hu
             refine hu.mono ?_
             clear hu
             rintro en wa ⟨rfl,hR,hO⟩
             have HC:=Lib.hid (HC.out.read hO hR)
             clear hR hO
             have k0:wa.cell? ⟨gr,0,none⟩=some (.pointer (some ⟨g,0,none⟩)):=HC.out.1.1.1.1.2.2.2.2.cell 0
             have k1:wa.cell? ⟨gx,1,none⟩=some (.slice At nT ct):=HC.out.1.1.1.1.2.2.1.cell 1
             have k2:wa.cell? ⟨gx,3,none⟩=some (.slice Ax nX cx):=HC.out.1.1.1.1.2.2.1.cell 3
             have k3:wa.cell? ⟨gbk,1,none⟩=some (.slice Ag j cg):=HC.out.2.2.1.cell 1
             refine hK.out _ _ (by go_keep) (fun hHeld=>?_)
             clear hK K
             (try simp only [Act.put,List.setIfInBounds_toArray,List.set_cons_zero,List.set_cons_succ])
             refine wpAnyM_one (i:=11) (by kernel_rfl) ?_
             refine owe_early (i:=11) (d:=(some 159)) rfl rfl (fun K hK=>?_)
             go_simp
             refine (num_any gok n3 nT (y.2.1) _ HC.out.1.1.1.2.2.1 hlt5 (by omega)).mono ?_
             rintro en wb ⟨rfl,hwz⟩
             have HC:=Lib.hid (HC.out.say ((y.2.1) && decide (n3<nT)))
             rw [hwz] at HC
             clear hwz
             have k0:wb.cell? ⟨gr,0,none⟩=some (.pointer (some ⟨g,0,none⟩)):=HC.out.1.1.1.1.2.2.2.2.cell 0
             have k1:wb.cell? ⟨gx,1,none⟩=some (.slice At nT ct):=HC.out.1.1.1.1.2.2.1.cell 1
             have k2:wb.cell? ⟨gx,3,none⟩=some (.slice Ax nX cx):=HC.out.1.1.1.1.2.2.1.cell 3
             have k3:wb.cell? ⟨gbk,1,none⟩=some (.slice Ag j cg):=HC.out.2.2.1.cell 1
             refine hK.out _ _ (by go_keep) (fun hHeld=>?_)
             clear hK K
             (try simp only [Act.put,List.setIfInBounds_toArray,List.set_cons_zero,List.set_cons_succ])
             refine wpAnyM_take (i:=12) (d:=(some 160)) (v:=?_) rfl rfl (by kernel_rfl) (by kernel_rfl) (by kernel_rfl) (by kernel_rfl) (by kernel_rfl) (fun _ _ _ h=>h) (Or.inl ⟨by rfl,?_⟩) (by assumption) ?_
             rotate_left
             ·intro w hSw
              (try dsimp only at hSw)
              go_simp
              (try with_reducible rfl)
             (try simp only [Act.put,List.setIfInBounds_toArray,List.set_cons_zero,List.set_cons_succ])
             refine wpAnyM_one (i:=16) (by kernel_rfl) ?_
             refine owe_early (i:=16) (d:=(some 164)) rfl rfl (fun K hK=>?_)
             go_simp
             have hu:=ru32 HC.out.1.1.1.1.2.2.2.1
             rw [HP2.out] at hu
             refine hu.mono ?_
             clear hu
             rintro en we ⟨rfl,hR,hO⟩
             have HC:=Lib.hid (HC.out.read hO hR)
             clear hR hO
             have k0:we.cell? ⟨gr,0,none⟩=some (.pointer (some ⟨g,0,none⟩)):=HC.out.1.1.1.1.2.2.2.2.cell 0
             have k1:we.cell? ⟨gx,1,none⟩=some (.slice At nT ct):=HC.out.1.1.1.1.2.2.1.cell 1
             have k2:we.cell? ⟨gx,3,none⟩=some (.slice Ax nX cx):=HC.out.1.1.1.1.2.2.1.cell 3
             have k3:we.cell? ⟨gbk,1,none⟩=some (.slice Ag j cg):=HC.out.2.2.1.cell 1
             refine hK.out _ _ (by go_keep) (fun hHeld=>?_)
             clear hK K
             (try simp only [Act.put,List.setIfInBounds_toArray,List.set_cons_zero,List.set_cons_succ])
             refine wpAnyM_one (i:=22) (by kernel_rfl) ?_
             refine owe_early (i:=22) (d:=(some 170)) rfl rfl (fun K hK=>?_)
             go_simp
             refine (num_any gok n4 nX (y.2.1 && decide (n3<nT)) _ HC.out.1.1.1.2.2.1 hlt6 (by omega)).mono ?_
             rintro en wf ⟨rfl,hwz⟩
             have HC:=Lib.hid (HC.out.say ((y.2.1 && decide (n3<nT)) && decide (n4<nX)))
             rw [hwz] at HC
             clear hwz
             have k0:wf.cell? ⟨gr,0,none⟩=some (.pointer (some ⟨g,0,none⟩)):=HC.out.1.1.1.1.2.2.2.2.cell 0
             have k1:wf.cell? ⟨gx,1,none⟩=some (.slice At nT ct):=HC.out.1.1.1.1.2.2.1.cell 1
             have k2:wf.cell? ⟨gx,3,none⟩=some (.slice Ax nX cx):=HC.out.1.1.1.1.2.2.1.cell 3
             have k3:wf.cell? ⟨gbk,1,none⟩=some (.slice Ag j cg):=HC.out.2.2.1.cell 1
             refine hK.out _ _ (by go_keep) (fun hHeld=>?_)
             clear hK K
             (try simp only [Act.put,List.setIfInBounds_toArray,List.set_cons_zero,List.set_cons_succ])
             refine wpAnyM_take (i:=23) (d:=(some 171)) (v:=?_) rfl rfl (by kernel_rfl) (by kernel_rfl) (by kernel_rfl) (by kernel_rfl) (by kernel_rfl) (fun _ _ _ h=>h) (Or.inl ⟨by rfl,?_⟩) (by assumption) ?_
             rotate_left
             ·intro w hSw
              (try dsimp only at hSw)
              go_simp
              (try with_reducible rfl)
             (try simp only [Act.put,List.setIfInBounds_toArray,List.set_cons_zero,List.set_cons_succ])
             refine wpAnyM_take (i:=24) (d:=(some 172)) (v:=?_) rfl rfl (by kernel_rfl) (by kernel_rfl) (by kernel_rfl) (by kernel_rfl) (by kernel_rfl) (fun _ _ _ h=>h) (Or.inl ⟨by rfl,?_⟩) (by assumption) ?_
             rotate_left
             ·intro w hSw
              (try dsimp only at hSw)
              go_simp
              (try with_reducible rfl)
             (try simp only [Act.put,List.setIfInBounds_toArray,List.set_cons_zero,List.set_cons_succ])
             refine wpAnyM_one (i:=25) (by kernel_rfl) ?_
             refine owe_early (i:=25) (d:=(some 173)) rfl rfl (fun K hK=>?_)
             go_simp
             refine hK.out _ _ (by go_keep) (fun hHeld=>?_)
             clear hK K
             (try simp only [Act.put,List.setIfInBounds_toArray,List.set_cons_zero,List.set_cons_succ])
             refine wpAnyM_one (i:=26) (by kernel_rfl) ?_
             refine owe_early (i:=26) (d:=(some 174)) rfl rfl (fun K hK=>?_)
             have hba:=(Below.refl wf.heap.size wf).alloc (Nat.le_refl _) (.cells #[.int .u32 (n3:Int),.int .u32 (n4:Int)] 81)
             have HC:=Lib.hid (HC.out.on hba)
             have HNc:=Lib.hid (reads_new wf #[.int .u32 (n3:Int),.int .u32 (n4:Int)] 81 2 1 rfl)
             have HOc:=Lib.hid HC.out.2.2.2.1
             have HGL:=Lib.hid HC.out.2.2.1.lt
             clear hba
             refine step_append_any (by rfl) (.tmp 149) (.tmp 173) 74 (by rfl) (gbk+1) 81 iR _ 2 8 Tryz.underlying74 hiR hr0 hr1 hr2 rfl (by omega) (.slice Ag j cg) j (rowCells y.2.2) (by rfl) HOc.out (wf.heap.size+1) (some ⟨wf.heap.size,0,none⟩) 1 1 [.int .u32 (n3:Int),.int .u32 (n4:Int)] (by rfl) HNc.out (by simp [Value.oneCell']) (by simp only [maxLen];omega) (by omega) HGL.out ?_
             intro v9 wh hown9 hg9 hat9
             obtain ⟨A9,c9,rfl,-,-,-⟩:=own_form hown9
             have HPT:=Lib.hid (HC.out.put hown9 hg9)
             have HHB:=Lib.hid (HC.out.2.2.1.grown hg9 (fun e=>by have:=(HOc.out.lt gbk e.symm).1;omega))
             have HLE:=Lib.hid (HC.out.1.turn hg9 (fun k hk=>by have:=(HOc.out.lt k hk).1;have:=HC.out.2.2.2.2;omega))
             clear hown9 hg9 hat9
             have k0:wh.cell? ⟨gr,0,none⟩=some (.pointer (some ⟨g,0,none⟩)):=HLE.out.1.1.1.2.2.2.2.cell 0
             have k1:wh.cell? ⟨gx,1,none⟩=some (.slice At nT ct):=HLE.out.1.1.1.2.2.1.cell 1
             have k2:wh.cell? ⟨gx,3,none⟩=some (.slice Ax nX cx):=HLE.out.1.1.1.2.2.1.cell 3
             have k3:wh.cell? ⟨gbk,1,none⟩=some (.slice Ag j cg):=HHB.out.cell 1
             have f3:wh.frozen? ⟨gbk,1,none⟩=false:=HHB.out.frozen 1
             refine hK.out _ _ (by go_keep) (fun hHeld=>?_)
             clear hK K
             (try simp only [Act.put,List.setIfInBounds_toArray,List.set_cons_zero,List.set_cons_succ])
             refine wpAnyM_take (i:=27) (d:=(some 175)) (v:=?_) rfl rfl (by kernel_rfl) (by kernel_rfl) (by kernel_rfl) (by kernel_rfl) (by kernel_rfl) (fun _ _ _ h=>h) (Or.inl ⟨by rfl,?_⟩) (by assumption) ?_
             rotate_left
             ·intro w hSw
              (try dsimp only at hSw)
              go_simp
              (try with_reducible rfl)
             (try simp only [Act.put,List.setIfInBounds_toArray,List.set_cons_zero,List.set_cons_succ])
             refine wpAnyM_one (i:=28) (by kernel_rfl) ?_
             refine owe_late (i:=28) (d:=none) rfl rfl (by decide) (fun K hK=>?_)
             go_simp
             refine hK.out undef _ ?_
             clear hK K
             (try simp only [Act.put,List.setIfInBounds_toArray,List.set_cons_zero,List.set_cons_succ])
             refine wpAnyM_done (by kernel_rfl) ?_ _
             (try simp only [Act.put,List.setIfInBounds_toArray,List.set_cons_zero,List.set_cons_succ])
             go_wp2
             go_roundw
             case rel=>exact ⟨j+1,stepG l nT nX y,.slice A9 (j+1) c9,by go_num,hjt,by rw [HYY.out];rfl,by rw [HSG.out,List.length_append,HYL.out];rfl,by rw [HSG.out];exact HPT.out⟩
             case measure=>simp [Lib.intOf] <;> omega
            ·obtain rfl:n2=j:=by omega
             have hq2:¬ (n2:Int)<(n2:Int):=by omega
             have HBK:=Lib.hid (show bookG l nT nX x=y from by
              unfold bookG
              rw [HRN.out]
              simp only
              rw [HPG.out,HB4.out]
              exact HYY.out.symm)
             have HSK:=Lib.hid (show stepK l nT nX x=(y.1,y.2.1,x.2.2++[(n1,y.2.2)]) from by
              unfold stepK
              rw [HBK.out,HRN.out])
             have k1:wr.cell? ⟨gx,4,none⟩=some (.slice Ak i ck):=HG.out.1.1.1.1.2.2.1.cell 4
             have k2:wr.cell? ⟨gbk,0,none⟩=some (.int .i64 (n1:Int)):=HG.out.2.2.1.cell 0
             have k3:wr.cell? ⟨gbk,1,none⟩=some (.slice Ag n2 cg):=HG.out.2.2.1.cell 1
             have HCX:=Lib.hid (show CX≤wr.heap.size from by have:=HG.out.1.order;omega)
             go_upto_region 36 with (fail)
             refine wp_region_M (fun W=>W.cell? ⟨gx,4,none⟩=some (.slice Ak i ck)∧W.cell? ⟨gbk,0,none⟩=some (.int .i64 (n1:Int))∧W.cell? ⟨gbk,1,none⟩=some (.slice Ag n2 cg)) 8 (by kernel_rfl) (by go_keep) (fun hHeld=>?_)
             refine wpAnyM_take (i:=0) (d:=(some 177)) (v:=?_) rfl rfl (by kernel_rfl) (by kernel_rfl) (by kernel_rfl) (by kernel_rfl) (by kernel_rfl) (fun _ _ _ h=>h) (Or.inl ⟨by rfl,?_⟩) (by assumption) ?_
             rotate_left
             ·intro w hSw
              (try dsimp only at hSw)
              go_simp
              (try with_reducible rfl)
             (try simp only [Act.put,List.setIfInBounds_toArray,List.set_cons_zero,List.set_cons_succ])
             refine wpAnyM_take (i:=1) (d:=(some 178)) (v:=?_) rfl rfl (by kernel_rfl) (by kernel_rfl) (by kernel_rfl) (by kernel_rfl) (by kernel_rfl) (fun _ _ _ h=>h) (Or.inl ⟨by rfl,?_⟩) (by assumption) ?_
             rotate_left
             ·intro w hSw
              (try dsimp only at hSw)
              go_simp
              (try with_reducible rfl)
             (try simp only [Act.put,List.setIfInBounds_toArray,List.set_cons_zero,List.set_cons_succ])
             refine wpAnyM_take (i:=2) (d:=(some 179)) (v:=?_) rfl rfl (by kernel_rfl) (by kernel_rfl) (by kernel_rfl) (by kernel_rfl) (by kernel_rfl) (fun _ _ _ h=>h) (Or.inl ⟨by rfl,?_⟩) (by assumption) ?_
             rotate_left
             ·intro w hSw
              (try dsimp only at hSw)
              go_simp
              (try with_reducible rfl)
             (try simp only [Act.put,List.setIfInBounds_toArray,List.set_cons_zero,List.set_cons_succ])
             refine wpAnyM_take (i:=3) (d:=(some 180)) (v:=?_) rfl rfl (by kernel_rfl) (by kernel_rfl) (by kernel_rfl) (by kernel_rfl) (by kernel_rfl) (fun _ _ _ h=>h) (Or.inl ⟨by rfl,?_⟩) (by assumption) ?_
             rotate_left
             ·intro w hSw
              (try dsimp only at hSw)
              go_simp
              (try with_reducible rfl)
             (try simp only [Act.put,List.setIfInBounds_toArray,List.set_cons_zero,List.set_cons_succ])
             refine wpAnyM_take (i:=4) (d:=(some 181)) (v:=?_) rfl rfl (by kernel_rfl) (by kernel_rfl) (by kernel_rfl) (by kernel_rfl) (by kernel_rfl) (fun _ _ _ h=>h) (Or.inl ⟨by rfl,?_⟩) (by assumption) ?_
             rotate_left
             ·intro w hSw
              (try dsimp only at hSw)
              go_simp
              (try with_reducible rfl)
             (try simp only [Act.put,List.setIfInBounds_toArray,List.set_cons_zero,List.set_cons_succ])
             refine wpAnyM_take (i:=5) (d:=(some 182)) (v:=?_) rfl rfl (by kernel_rfl) (by kernel_rfl) (by kernel_rfl) (by kernel_rfl) (by kernel_rfl) (fun _ _ _ h=>h) (Or.inl ⟨by rfl,?_⟩) (by assumption) ?_
             rotate_left
             ·intro w hSw
              (try dsimp only at hSw)
              go_simp
              (try with_reducible rfl)
             (try simp only [Act.put,List.setIfInBounds_toArray,List.set_cons_zero,List.set_cons_succ])
             refine wpAnyM_one (i:=6) (by kernel_rfl) ?_
             refine owe_early (i:=6) (d:=(some 183)) rfl rfl (fun K hK=>?_)
             go_simp
             refine hK.out _ _ (by go_keep) (fun hHeld=>?_)
             clear hK K
             (try simp only [Act.put,List.setIfInBounds_toArray,List.set_cons_zero,List.set_cons_succ])
             refine wpAnyM_one (i:=7) (by kernel_rfl) ?_
             refine owe_early (i:=7) (d:=(some 184)) rfl rfl (fun K hK=>?_)
             have hba:=((Below.refl wr.heap.size wr).alloc (Nat.le_refl _) (.cells #[.int .i64 (n1:Int),.slice Ag n2 cg] 76)).drew
             have HC:=Lib.hid (HG.out.on hba)
             have HNc:=Lib.hid ((reads_new wr #[.int .i64 (n1:Int),.slice Ag n2 cg] 76 2 1 rfl).drew)
             have HOc:=Lib.hid (show ((wr.alloc (.cells #[.int .i64 (n1:Int),.slice Ag n2 cg] 76)).drew).ownsRow CX 76 2 (.slice Ak i ck) i (lbCells x.2.2 vs) from by have h:=HC.out.2.1.1.1;rw [HLN.out] at h;exact h)
             have HCZ:=Lib.hid (Nat.le_trans HCX.out hba.size)
             clear hba
             refine step_append_any (by rfl) (.tmp 181) (.tmp 183) 63 (by rfl) CX 76 iK _ 2 32 Tryz.underlying63 hiK hk0 hk1 hk2 rfl (by omega) (.slice Ak i ck) i (lbCells x.2.2 vs) (by rfl) HOc.out (wr.heap.size+1) (some ⟨wr.heap.size,0,none⟩) 1 1 [.int .i64 (n1:Int),.slice Ag n2 cg] (by rfl) HNc.out (by simp [Value.oneCell']) (by simp only [maxLen];omega) (by omega) HCZ.out ?_
             intro v9 wh hown9 hg9 hat9
             obtain ⟨A9,c9,rfl,-,-,-⟩:=own_form hown9
             have HDN:=Lib.hid (HC.out.done HLN.out HYL.out hown9 hg9)
             have HHB:=Lib.hid (HC.out.2.2.1.grown hg9 (fun e=>by have:=HC.out.2.1.1.2 gbk e.symm;have:=HC.out.2.2.2.2;omega))
             have f6:wh.cell? ⟨gbk,0,none⟩=some (.int .i64 (n1:Int)):=HHB.out.cell 0
             have f7:wh.cell? ⟨gbk,1,none⟩=some (.slice Ag n2 cg):=HHB.out.cell 1
             have HLE:=Lib.hid (HC.out.1.turn hg9 (fun k hk=>(HOc.out.lt k hk).1))
             clear hown9 hg9 hat9
             have f4:wh.cell? ⟨gx,4,none⟩=some (.slice Ak i ck):=HLE.out.1.1.1.2.2.1.cell 4
             have f5:wh.frozen? ⟨gx,4,none⟩=false:=HLE.out.1.1.1.2.2.1.frozen 4
             refine hK.out _ _ (by go_keep) (fun hHeld=>?_)
             clear hK K
             (try simp only [Act.put,List.setIfInBounds_toArray,List.set_cons_zero,List.set_cons_succ])
             refine wpAnyM_one (i:=8) (by kernel_rfl) ?_
             refine owe_late (i:=8) (d:=(some 185)) rfl rfl (by decide) (fun K hK=>?_)
             go_simp
             refine hK.out _ _ ?_
             clear hK K
             (try simp only [Act.put,List.setIfInBounds_toArray,List.set_cons_zero,List.set_cons_succ])
             refine wpAnyM_one (i:=9) (by kernel_rfl) ?_
             refine owe_late (i:=9) (d:=(some 186)) rfl rfl (by decide) (fun K hK=>?_)
             go_simp
             refine hK.out _ _ ?_
             clear hK K
             (try simp only [Act.put,List.setIfInBounds_toArray,List.set_cons_zero,List.set_cons_succ])
             refine wpAnyM_one (i:=10) (by kernel_rfl) ?_
             refine owe_late (i:=10) (d:=none) rfl rfl (by decide) (fun K hK=>?_)
             go_simp
             refine hK.out undef _ ?_
             clear hK K
             (try simp only [Act.put,List.setIfInBounds_toArray,List.set_cons_zero,List.set_cons_succ])
             refine wpAnyM_done (by kernel_rfl) ?_ _
             (try simp only [Act.put,List.setIfInBounds_toArray,List.set_cons_zero,List.set_cons_succ])
             go_wp2
             go_roundw
             case rel=>exact ⟨i+1,stepK l nT nX x,.slice A9 (i+1) c9,vs++[.slice Ag n2 cg],by go_num,hlt,by rw [HXX.out];rfl,by rw [HSK.out];exact HDN.out.1,by rw [HSK.out];exact HDN.out.2,by rw [HSK.out,List.length_append,HLN.out];rfl⟩
             case measure=>simp [Lib.intOf] <;> omega
         ·obtain rfl:nK=i:=by omega
          have hq:¬ (nK:Int)<(nK:Int):=by omega
          have HBS:=Lib.hid (show booksS l=x from by
           unfold booksS
           rw [HnK.out,HTX.out,HXS.out]
           show iterN (stepK l LT.length LX.length) nK (sK,b3,[])=x
           rw [HLT.out,HLX.out]
           exact HXX.out.symm)
          have HFK:=Lib.hid (show ∀ k∈x.2.2,k.2.length≤l.length from by
           rw [HXX.out]
           exact iterK_few l nT nX sK b3 nK)
          obtain ⟨⟨p5,e5⟩,b5,LB⟩:=x
          simp only at HL HO HLN HBS HFK
          have HIX:=Lib.hid (show idxM l=⟨LT,LP,LX,LB⟩ from by
           unfold idxM
           rw [HTX.out,HPX.out,HXS.out,HBS.out])
          have HIA:=Lib.hid (show IdxAt wr gx l (idxM l) from by
           rw [HIX.out]
           exact HL.out.idx HO.out HOB.out HN.out HLT.out HLP.out HLX.out)
          have HOX:=Lib.hid (show Only gx w wr from HL.out.1.1.1.1.1)
          have HRD:=Lib.hid (show RdS wr g A7 c7 l (p5,e5) from HL.out.1.1.1.2.2.2.1)
          have k0:wr.cell? ⟨gr,0,none⟩=some (.pointer (some ⟨g,0,none⟩)):=HL.out.1.1.1.2.2.2.2.cell 0
          have k1:wr.cell? ⟨gok,0,none⟩=some (.bool b5):=HL.out.1.1.2.2.1.cell 0
          have HNOT:=Lib.hid (show ∀(h:¬ (b5=true∧e5=0∧p5=l.length)),readOk l=false from fun h=>by
           cases hr:readOk l with
           | false=>rfl
           | true =>
            obtain ⟨-,r2,r3,r4,-⟩:=readOk_iff.1 hr
            rw [HBS.out] at r2 r3 r4
            exact absurd ⟨r2,r3,r4⟩ h)
          clear HXX HL HO hi
          cases b5 with
          | false =>
           have HNO:=Lib.hid (HNOT.out (fun h=>by cases h.1))
           go_wp2
           go_ret
           exact ⟨by rw [HNO.out];rfl,HOX.out,fun h=>by rw [HNO.out] at h;cases h⟩
          | true =>
           have HER:=Lib.hid (rerr HRD.out)
           by_cases he:e5=0
           ·subst he
            have HPL:=Lib.hid (show p5≤l.length from Rd.le HRD.out)
            obtain ⟨d5,hd5⟩:∃ d5,l.length-p5=d5:=⟨_,rfl⟩
            have HLF:=Lib.hid (show Calls Tryz.prog 55 #[.pointer (some ⟨g,0,none⟩)] wr (fun e w'=>e=.returned (.int .i64 (d5:Int))∧∃ k,wr.drewN k=w') from by
             have h:=rleft HRD.out
             simp only at h
             rw [show (l.length:Int)-(p5:Int)=(d5:Int) by have:=HPL.out;omega] at h
             exact h)
            have HD5:=Lib.hid hd5
            clear hd5
            by_cases hp:d5=0
            ·subst hp
             obtain rfl:p5=l.length:=by have:=HD5.out;have:=HPL.out;omega
             have HMO:=Lib.hid (show ∀ W,Below wr.heap.size wr W→Calls Tryz.prog 56 #[.pointer (some ⟨gx,0,none⟩)] W (fun e w'=>e=.returned (.bool (modestM (idxM l)))∧Below W.heap.size W w') from fun W hW=>by
              have hb:(booksS l).2.1=true∧(booksS l).1.2=0:=by rw [HBS.out];exact ⟨rfl,rfl⟩
              refine imodest_any (HIA.out.on hW) (read_in HHE.out hb.1 hb.2) (by omega) ?_ ?_ ?_ ?_
              ·rw [HIX.out];show LB.length≤16777216;rw [HLN.out];omega
              ·rw [HIX.out];intro k hk;have:=HFK.out k hk;omega
              ·rw [HIX.out];show LX.length≤16777216;rw [HLX.out];omega
              ·rw [HIX.out];show LT.length≤16777216;rw [HLT.out];omega)
             have HYES:=Lib.hid (show readOk l=modestM (idxM l) from by
              cases hm:modestM (idxM l) with
              | true=>exact readOk_iff.2 ⟨HHE.out,by rw [HBS.out],by rw [HBS.out],by rw [HBS.out],hm⟩
              | false =>
               cases hr:readOk l with
               | false=>rfl
               | true=>rw [(readOk_iff.1 hr).2.2.2.2] at hm;cases hm)
             obtain ⟨bm,hbm⟩:∃ bm,modestM (idxM l)=bm:=⟨_,rfl⟩
             rw [hbm] at HMO HYES
             clear hbm
             go_wp2_with (go_at_call 54;go_must (refine HER.out.mono ?_;rintro en wz ⟨rfl,rfl⟩))
             refine HLF.out.mono ?_
             rintro en wz ⟨rfl,kd,hwz⟩
             have HBZ:=Lib.hid (show Below wr.heap.size wr wz from hwz ▸ below_drawsK wr kd)
             have HMZ:=Lib.hid (HMO.out wz HBZ.out)
             clear hwz
             go_wp2_with fail
             refine HMZ.out.mono ?_
             rintro en wy ⟨rfl,hby⟩
             have HBY:=Lib.hid (HBZ.out.trans (hby.mono HBZ.out.size))
             clear hby
             go_wp2
             go_ret
             exact ⟨by rw [HYES.out];rfl,HOX.out.trans (Only.of_below HBY.out),fun _=>HIA.out.on HBY.out⟩
            ·have HNO:=Lib.hid (HNOT.out (fun h=>hp (by have:=HD5.out;omega)))
             have hz:((d5:Int) == 0)=false:=by simp;omega
             clear hp
             go_wp2_with (go_at_call 54;go_must (refine HER.out.mono ?_;rintro en wz ⟨rfl,rfl⟩))
             refine HLF.out.mono ?_
             rintro en wz ⟨rfl,kd,hwz⟩
             have HBZ:=Lib.hid (show Below wr.heap.size wr wz from hwz ▸ below_drawsK wr kd)
             clear hwz
             go_wp2
             go_ret
             exact ⟨by rw [HNO.out];rfl,HOX.out.trans (Only.of_below HBZ.out),fun h=>by rw [HNO.out] at h;cases h⟩
           ·have HNO:=Lib.hid (HNOT.out (fun h=>he h.2.1))
            have hz:(e5 == 0)=false:=by simpa using he
            go_wp2_with (go_at_call 54;go_must (refine HER.out.mono ?_;rintro en wz ⟨rfl,rfl⟩))
            go_ret
            exact ⟨by rw [HNO.out];rfl,HOX.out,fun h=>by rw [HNO.out] at h;cases h⟩

end
end Go.Proofs.YthdldooilcbmlaaGreatDoor
