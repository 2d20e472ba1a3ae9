/-
  Texts of mine, joined: LoadLoad, LoadSome, LoadDir, LoadSeek. The conditions stand with each.
-/
import Derived.Test.YthdldooilcbmlaaGreatDoorK13
import Derived.Test.YthdldooilcbmlaaGreatDoorK14
import Derived.Test.YthdldooilcbmlaaGreatDoorK10
import Derived.Test.YthdldooilcbmlaaGreatDoorK12
import Derived.Test.YthdldooilcbmlaaGreatDoorK11
import Derived.Shelf.Abstract
import Derived.Shelf.SlSorted.Search
import Derived.LoopTactic
set_option linter.unusedVariables false
set_option linter.unusedSimpArgs false
namespace Go.Proofs.YthdldooilcbmlaaGreatDoor
section
open Go.RowKit

theorem bytes_body {r:List PStep}{l:List UInt8}(h:bytesB r=l):4≤l.length∧l.take (l.length-4)=bodyB r∧l.drop (l.length-4)=le 4 (crc (l.take (l.length-4))):=by
 subst h
 unfold bytesB
 have hl:(bodyB r++le 4 (crc (bodyB r))).length-4=(bodyB r).length:=by rw [List.length_append,le_len];omega
 rw [hl,List.take_left,List.drop_left]
 exact ⟨by rw [List.length_append,le_len];omega,rfl,rfl⟩
/-- Why bytes are not taken. -/
def LoadErr (l:List UInt8)(k:Int):Prop :=
 (16777216<l.length∧k=3)∨(l.length≤16777216∧l.length<4∧k=110) ∨
 (l.length≤16777216∧4≤l.length∧le 4 (crc (l.take (l.length-4)))≠l.drop (l.length-4)∧k=330) ∨
 (l.length≤16777216∧4≤l.length∧le 4 (crc (l.take (l.length-4)))=l.drop (l.length-4)∧(∀ r,(checkB r).1=0→BunSm r→bytesB r≠l)∧k=331)
theorem textM_size (l:List UInt8)(i:IdxM)(n:Nat):(textM l i n).size≤l.length:=by
 unfold textM str
 show (((l.drop _).take _).toArray).size≤_
 rw [List.size_toArray,List.length_take,List.length_drop]
 omega
theorem told_srt {l:List UInt8}{i:IdxM}(h:IdxOk l i)(hl:l.length≤16777216):SrtIn (toldM l i):=by
 have hv:∀ b∈toldM l i,b.2.length≤16384:=fun b hb=>by
  obtain ⟨k,hk,rfl⟩:=List.mem_map.1 hb
  have h1:=(h.modest k hk).1
  have h2:=tellV_len l i k.2 k.2.length
  unfold tellV at h2
  rw [List.take_length] at h2
  unfold toldB
  simp only
  omega
 have hn:(toldM l i).length≤513:=by
  unfold toldM
  rw [List.length_map]
  exact h.few
 refine ⟨by omega,?_,fun b hb=>?_⟩
 ·have h1:=flat_sum_le hv
  have h2:16384*(toldM l i).length≤16384*513:=Nat.mul_le_mul_left _ hn
  omega
 ·obtain ⟨k,hk,rfl⟩:=List.mem_map.1 hb
  refine ⟨Nat.le_trans (textM_size l i k.1) (by omega),fun x hx=>?_⟩
  unfold toldB at hx
  obtain ⟨g,-,hx⟩:=List.mem_flatMap.1 hx
  unfold rowsM at hx
  obtain ⟨q,-,rfl⟩:=List.mem_map.1 hx
  unfold valM
  exact ⟨Nat.le_trans (textM_size l i _) (by omega),Nat.le_trans (textM_size l i _) (by omega)⟩
/-- A right bundle is one that Encode takes. -/
theorem right_in {r:List PStep}(h:(checkB r).1=0):InB r:=by
 obtain ⟨h1,-,h3⟩:=checkB_ok h
 have h2:=check_few h
 have ht:=texts_small h
 refine ⟨by omega,fun b hb=>⟨by have:=(h3 b hb).1;omega,fun x hx=>?_,by have:=h2 b hb;omega⟩⟩
 have h4:=words_val hb hx
 have h5:=ht _ ((poolL_mem (lt:=bl) _ _).2 h4.2.1)
 have h6:=ht _ ((poolL_mem (lt:=bl) _ _).2 h4.2.2)
 omega
theorem right_sm {r:List PStep}(h:(checkB r).1=0):BunSm r:=(few_all h (right_in h).few).small
/-- What was loaded. -/
def LoadedAt (W:World)(g:Nat)(r:List PStep):Prop:=IdxAt W g (bodyB r) (idxM (bodyB r))∧(checkB r).1=0∧(bytesB r).length≤16777216
def LoadPost (l:List UInt8)(w:World)(e:Ending)(w':World):Prop:=Below w.heap.size w w'∧((∃ k,e=.returned (.tuple #[.pointer none,.int .i64 k])∧LoadErr l k)∨∃(g:Nat) (r:List PStep),e=.returned (.tuple #[.pointer (some ⟨g,0,none⟩),.int .i64 0])∧bytesB r=l∧LoadedAt w' g r∧w.heap.size≤g)
/-- If they are some right bundle's bytes, they are read, and the bundle is told. -/
theorem load_told {r:List PStep}{l:List UInt8}(hc:(checkB r).1=0)(h:bytesB r=l):readOk (l.take (l.length-4))=true∧toldM (l.take (l.length-4)) (idxM (l.take (l.length-4)))=gotL r:=by
 rw [(bytes_body h).2.1]
 obtain ⟨h1,-,h3⟩:=read_backL hc (right_sm hc)
 exact ⟨h1,h3⟩
/-- No part of the index is longer than the bytes. -/
theorem idx_few {l:List UInt8}(hl:l.length≤16777216):(∀ k∈(idxM l).books,k.2.length≤16777216)∧(idxM l).texts.length≤16777216∧(idxM l).tabs.length≤16777216∧(idxM l).paths.length≤16777216:=by
 have h1:(textsS l).2.length=(cT l).1:=by unfold textsS;exact iterT_len l (cT l).2 (cT l).1
 have h2:(pathsS l).2.2.length=(cP l).1:=by unfold pathsS;exact iterP_len l (textsS l).2.length (cP l).2 true (cP l).1
 have h3:(tabsS l).2.2.length=(cX l).1:=by unfold tabsS;exact iterX_len l (pathsS l).2.2.length (textsS l).2.length (cX l).2 (pathsS l).2.1 (cX l).1
 have h4:(cT l).1*4≤l.length:=by unfold cT;exact cntN_few.1
 have h5:(cP l).1*4≤l.length:=by unfold cP;exact cntN_few.1
 have h6:(cX l).1*4≤l.length:=by unfold cX;exact cntN_few.1
 have h7:∀ k∈(booksS l).2.2,k.2.length≤l.length:=by unfold booksS;exact iterK_few l (textsS l).2.length (tabsS l).2.2.length (cK l).2 (tabsS l).2.1 (cK l).1
 unfold idxM
 simp only
 generalize (textsS l).2=a1 at *
 generalize (pathsS l).2.2=a2 at *
 generalize (tabsS l).2.2=a3 at *
 generalize (booksS l).2.2=a4 at *
 generalize (cT l).1=b1 at *
 generalize (cP l).1=b2 at *
 generalize (cX l).1=b3 at *
 exact ⟨fun k hk=>Nat.le_trans (h7 k hk) hl,by omega,by omega,by omega⟩
theorem sort_zero {l r:List PStep}{e a:Int}(h:SortIs l r e a)(he:e=0):(checkB r).1=0:=by
 rcases h with ⟨i,-,-,h1,-,-⟩ | ⟨-,⟨h1,-,h2,-⟩ | ⟨h1,rfl,-,-⟩⟩
 ·rw [h1] at he;cases he
 ·exact absurd (h2.symm.trans he) h1
 ·exact h1
/-- If they are some right bundle's bytes, sorting what was told gives that bundle. -/
theorem told_one {l bd:List UInt8}(hb:l.take (l.length-4)=bd){r:List PStep}{e a:Int}(hs:SortIs (toldM bd (idxM bd)) r e a){r':List PStep}(h1:(checkB r').1=0)(h3:bytesB r'=l):r=r'∧e=0:=by
 have h4:=(load_told h1 h3).2
 rw [hb] at h4
 rw [h4] at hs
 exact ⟨(got_sorted h1 hs).1,(got_sorted h1 hs).2.1⟩
theorem two_vars (w:World)(u:Value)(e a:Int):Below w.heap.size w ((w.alloc (.cells #[u] 24)).alloc (.cells #[.int .i64 e,.int .i64 a] 54))∧Blk ((w.alloc (.cells #[u] 24)).alloc (.cells #[.int .i64 e,.int .i64 a] 54)) w.heap.size 24 #[u]∧Blk ((w.alloc (.cells #[u] 24)).alloc (.cells #[.int .i64 e,.int .i64 a] 54)) (w.heap.size+1) 54 #[.int .i64 e,.int .i64 a]:=by
 have h2:=Blk.new (w.alloc (.cells #[u] 24)) 54 #[.int .i64 e,.int .i64 a]
 simp only [World.size_alloc] at h2
 exact ⟨((Below.refl w.heap.size w).alloc (Nat.le_refl _) _).alloc (by simp) _,(Blk.new w _ _).alloc _,h2⟩
set_option maxHeartbeats 32000000 in
set_option maxRecDepth 100000 in
theorem load_any (A:Option Addr)(n c:Nat)(l:List UInt8)(w:World)(hr:RB w w.heap.size A l)(hn:l.length=n)(hnc:n≤c)(hcm:c≤maxLen) :
  Calls Tryz.prog 7 #[.slice A n c] w (LoadPost l w):=by
 have hcm2:=hcm
 unfold maxLen at hcm2
 have HRB:=Lib.hid hr
 have HN:=Lib.hid hn
 clear hr hcm
 by_cases h1:n≤16777216
 case neg =>
  have HER:=Lib.hid (show LoadErr l 3 from .inl ⟨by rw [hn];omega,rfl⟩)
  have h2:(16777216:Int)<(n:Int):=by omega
  clear hn
  go_enter Tryz.func7,Tryz.ntmps7
  go_wp2
  go_ret2
  exact ⟨Below.refl _ _,.inl ⟨3,rfl,HER.out⟩⟩
 case pos =>
  by_cases h4:4≤n
  case neg =>
   have HER:=Lib.hid (show LoadErr l 110 from .inr (.inl ⟨by rw [hn];exact h1,by rw [hn];omega,rfl⟩))
   have h2:¬ (16777216:Int)<(n:Int):=by omega
   have h5:(n:Int)-4<0:=by omega
   clear hn
   go_enter Tryz.func7,Tryz.ntmps7
   go_wp2
   go_ret2
   exact ⟨Below.refl _ _,.inl ⟨110,rfl,HER.out⟩⟩
  case pos =>
   obtain ⟨n4,hn4⟩:∃ n4,n=n4+4:=⟨n-4,by omega⟩
   have HN4:=Lib.hid hn4
   obtain ⟨bd,hbd⟩:∃ bd,l.take n4=bd:=⟨_,rfl⟩
   obtain ⟨tl,htl⟩:∃ tl,l.drop n4=tl:=⟨_,rfl⟩
   have hbl:bd.length=n4:=by rw [←hbd,List.length_take,hn];omega
   have htl4:tl.length=4:=by rw [←htl,List.length_drop,hn];omega
   have HBD:=Lib.hid (show l.take (l.length-4)=bd∧l.drop (l.length-4)=tl from by
    rw [hn,hn4,Nat.add_sub_cancel]
    exact ⟨hbd,htl⟩)
   obtain ⟨zc,hzc⟩:∃ zc,crc bd=zc:=⟨_,rfl⟩
   have HZC:=Lib.hid hzc
   have HBL:=Lib.hid hbl
   have HRS:=Lib.hid (show ∀ W,Below w.heap.size w W→RB W w.heap.size A bd∧RB W w.heap.size (A.map (·.add n4)) tl from fun W hW=>by
    have h5:=HRB.out.below hW
    have h6:=sub_take (a:=0) (d:=n4) (c:=c) h5 (by rw [hn];exact hnc) (by rw [hn];omega)
    have h7:=sub_take (a:=n4) (d:=4) (c:=c) h5 (by rw [hn];exact hnc) (by rw [hn];omega)
    rw [if_neg (by omega)] at h7
    have h8:=Reads.take (k:=n4) h5 (by rw [hn];omega)
    refine ⟨?_,?_⟩
    ·unfold RB
     rw [hbl,←hbd]
     simpa [bvs,List.map_take] using h8
    ·have h9:=h7.1
     rw [htl,List.take_of_length_le (by rw [htl4];exact Nat.le_refl _)] at h9
     exact h9)
   have HCR:=Lib.hid (show ∀ W,Below w.heap.size w W→Calls Tryz.prog 23 #[.slice A n4 c] W (fun e w'=>e=.returned (.int .u32 (zc:Int))∧W=w') from fun W hW=>by
    have h:=crc_any bd A c w.heap.size W (HRS.out W hW).1 (by rw [hbl];simp only [maxLen];omega)
    rw [hbl,hzc] at h
    exact h)
   have HCL:=Lib.hid (show ∀ W k,Below w.heap.size w W→W.heap.size=k→Calls Tryz.prog 25 #[.slice A n4 c] W (fun e w'=>∃ A7 c7,e=.returned (.slice A7 n4 c7)∧OB w' k 5 (.slice A7 n4 c7) bd∧Below k W w') from fun W k hW hk=>by
    subst hk
    have h:=bytesclone_any bd A c w.heap.size W (HRS.out W hW).1 hW.size (by rw [hbl];omega)
    rw [hbl] at h
    refine h.mono ?_
    rintro e w' ⟨v,rfl,ho,hb⟩
    obtain ⟨A7,c7,rfl,-,-,-⟩:=ho.form
    rw [hbl] at ho ⊢
    exact ⟨A7,c7,rfl,ho,hb⟩)
   have hzl:zc<4294967296:=by rw [←hzc];exact crc_lt bd
   have HPU:=Lib.hid (show ∀ W,Below w.heap.size w W→Calls Tryz.prog 22 #[.slice none 0 0,.int .u32 (zc:Int)] W (fun e w'=>∃ A5 c5,e=.returned (.slice A5 4 c5)∧RB w' w'.heap.size A5 (le 4 zc)∧Below w.heap.size w w') from fun W hW=>by
    refine (put32_any [] zc none 0 W.heap.size W Reads.none_ (Nat.le_refl _) (by simp) hzl).mono ?_
    rintro e w' ⟨v,rfl,ho,hb⟩
    obtain ⟨A5,c5,rfl,-,-,h5⟩:=ho.form
    simp only [List.nil_append] at h5
    exact ⟨A5,c5,by simp [le_len],h5,hW.trans (hb.mono hW.size)⟩)
   obtain ⟨ok,hok⟩:∃ ok,decide (le 4 zc=tl)=ok:=⟨_,rfl⟩
   have HOK:=Lib.hid hok
   have HEQF:=Lib.hid (show ∀ W A5 c5,Below w.heap.size w W→RB W W.heap.size A5 (le 4 zc)→Calls Tryz.prog 21 #[.slice A5 4 c5,.slice (A.map (·.add n4)) 4 (c-n4)] W (fun e w'=>e=.returned (.bool ok)∧W=w') from fun W A5 c5 hW h5=>by
    have h:=beq_any (le 4 zc) tl A5 (A.map (·.add n4)) c5 (c-n4) 4 4 W h5 ((HRS.out W hW).2.more hW.size) (le_len 4 zc) htl4
    rw [hok] at h
    exact h)
   have hn9:(n4:Int)≤16777216:=by omega
   have hn0:¬ (n4:Int)<0:=by omega
   have hnc1:(n4:Int)≤(c:Int):=by omega
   have hnc2:¬ c=n4:=by omega
   clear hn hbd htl hzc hok hbl htl4
   subst hn4
   have h2:¬ (16777216:Int)<(n4:Int)+4:=by omega
   have hn5:(n4:Int)≤(n4:Int)+4:=by omega
   clear h1 h4
   go_enter Tryz.func7,Tryz.ntmps7
   go_upto_region 14 with (fail)
   go_upto_region 16 with (fail)
   refine wp_region_M (fun W=>True) 11 (by kernel_rfl) (by trivial) (fun hHeld=>?_)
   refine wpAnyM_take (i:=0) (d:=(some 57)) (v:=?_) rfl rfl (by kernel_rfl) (by kernel_rfl) (by kernel_rfl) (by kernel_rfl) (by kernel_rfl) (fun _ _ _ h=>h) (Or.inl ⟨by rfl,?_⟩) (by assumption) ?_
   rotate_left
   ·intro w hSw
    (try dsimp only at hSw)
    go_simp
    (try with_reducible rfl)
   (try simp only [Act.put,List.setIfInBounds_toArray,List.set_cons_zero,List.set_cons_succ])
   refine wpAnyM_take (i:=1) (d:=(some 58)) (v:=?_) rfl rfl (by kernel_rfl) (by kernel_rfl) (by kernel_rfl) (by kernel_rfl) (by kernel_rfl) (fun _ _ _ h=>h) (Or.inl ⟨by rfl,?_⟩) (by assumption) ?_
   rotate_left
   ·intro w hSw
    (try dsimp only at hSw)
    go_simp
    (try with_reducible rfl)
   (try simp only [Act.put,List.setIfInBounds_toArray,List.set_cons_zero,List.set_cons_succ])
   refine wpAnyM_take (i:=2) (d:=(some 59)) (v:=?_) rfl rfl (by kernel_rfl) (by kernel_rfl) (by kernel_rfl) (by kernel_rfl) (by kernel_rfl) (fun _ _ _ h=>h) (Or.inl ⟨by rfl,?_⟩) (by assumption) ?_
   rotate_left
   ·intro w hSw
    (try dsimp only at hSw)
    go_simp
    (try with_reducible rfl)
   (try simp only [Act.put,List.setIfInBounds_toArray,List.set_cons_zero,List.set_cons_succ])
   refine wpAnyM_take (i:=5) (d:=(some 62)) (v:=?_) rfl rfl (by kernel_rfl) (by kernel_rfl) (by kernel_rfl) (by kernel_rfl) (by kernel_rfl) (fun _ _ _ h=>h) (Or.inl ⟨by rfl,?_⟩) (by assumption) ?_
   rotate_left
   ·intro w hSw
    (try dsimp only at hSw)
    go_simp
    (try with_reducible rfl)
   (try simp only [Act.put,List.setIfInBounds_toArray,List.set_cons_zero,List.set_cons_succ])
   refine wpAnyM_take (i:=6) (d:=(some 63)) (v:=?_) rfl rfl (by kernel_rfl) (by kernel_rfl) (by kernel_rfl) (by kernel_rfl) (by kernel_rfl) (fun _ _ _ h=>h) (Or.inl ⟨by rfl,?_⟩) (by assumption) ?_
   rotate_left
   ·intro w hSw
    (try dsimp only at hSw)
    go_simp
    (try with_reducible rfl)
   (try simp only [Act.put,List.setIfInBounds_toArray,List.set_cons_zero,List.set_cons_succ])
   refine wpAnyM_take (i:=7) (d:=(some 64)) (v:=?_) rfl rfl (by kernel_rfl) (by kernel_rfl) (by kernel_rfl) (by kernel_rfl) (by kernel_rfl) (fun _ _ _ h=>h) (Or.inl ⟨by rfl,?_⟩) (by assumption) ?_
   rotate_left
   ·intro w hSw
    (try dsimp only at hSw)
    go_simp
    (try with_reducible rfl)
   (try simp only [Act.put,List.setIfInBounds_toArray,List.set_cons_zero,List.set_cons_succ])
   refine wpAnyM_one (i:=3) (by kernel_rfl) ?_
   refine owe_early (i:=3) (d:=(some 60)) rfl rfl (fun K hK=>?_)
   go_simp
   refine (HCR.out _ ((Below.refl _ w).drew)).mono ?_
   rintro en wa ⟨rfl,rfl⟩
   refine hK.out _ _ (by trivial) (fun hHeld=>?_)
   clear hK K
   (try simp only [Act.put,List.setIfInBounds_toArray,List.set_cons_zero,List.set_cons_succ])
   refine wpAnyM_one (i:=4) (by kernel_rfl) ?_
   refine owe_early (i:=4) (d:=(some 61)) rfl rfl (fun K hK=>?_)
   go_simp
   refine (HPU.out _ ((Below.refl _ w).drew)).mono ?_
   rintro en wb ⟨A5,c5,rfl,hr5,hb5⟩
   have HB5:=Lib.hid hb5
   have HEQ:=Lib.hid (HEQF.out _ A5 c5 hb5 hr5)
   clear hr5 hb5
   refine hK.out _ _ (by trivial) (fun hHeld=>?_)
   clear hK K
   (try simp only [Act.put,List.setIfInBounds_toArray,List.set_cons_zero,List.set_cons_succ])
   refine wpAnyM_one (i:=8) (by kernel_rfl) ?_
   refine owe_early (i:=8) (d:=(some 65)) rfl rfl (fun K hK=>?_)
   go_simp
   refine HEQ.out.mono ?_
   rintro en wc ⟨rfl,rfl⟩
   refine hK.out _ _ (by trivial) (fun hHeld=>?_)
   clear hK K
   (try simp only [Act.put,List.setIfInBounds_toArray,List.set_cons_zero,List.set_cons_succ])
   refine wpAnyM_take (i:=9) (d:=(some 66)) (v:=?_) rfl rfl (by kernel_rfl) (by kernel_rfl) (by kernel_rfl) (by kernel_rfl) (by kernel_rfl) (fun _ _ _ h=>h) (Or.inl ⟨by rfl,?_⟩) (by assumption) ?_
   rotate_left
   ·intro w hSw
    (try dsimp only at hSw)
    go_simp
    (try with_reducible rfl)
   (try simp only [Act.put,List.setIfInBounds_toArray,List.set_cons_zero,List.set_cons_succ])
   refine wpAnyM_take (i:=10) (d:=(some 56)) (v:=?_) rfl rfl (by kernel_rfl) (by kernel_rfl) (by kernel_rfl) (by kernel_rfl) (by kernel_rfl) (fun _ _ _ h=>h) (Or.inl ⟨by rfl,?_⟩) (by assumption) ?_
   rotate_left
   ·intro w hSw
    (try dsimp only at hSw)
    go_simp
    (try with_reducible rfl)
   (try simp only [Act.put,List.setIfInBounds_toArray,List.set_cons_zero,List.set_cons_succ])
   refine wpAnyM_done (by kernel_rfl) ?_ _
   (try simp only [Act.put,List.setIfInBounds_toArray,List.set_cons_zero,List.set_cons_succ])
   cases ok with
   | false =>
    have HER:=Lib.hid (show LoadErr l 330 from by
     have h:=HN.out
     refine .inr (.inr (.inl ⟨by omega,by omega,?_,rfl⟩))
     rw [HBD.out.1,HBD.out.2,HZC.out]
     exact of_decide_eq_false HOK.out)
    clear HEQ HCR HPU HEQF HRS
    go_wp2
    go_ret2
    exact ⟨HB5.out,.inl ⟨330,rfl,HER.out⟩⟩
   | true =>
    have HTL:=Lib.hid (show le 4 (crc (l.take (l.length-4)))=l.drop (l.length-4) from by
     rw [HBD.out.1,HBD.out.2,HZC.out]
     exact of_decide_eq_true HOK.out)
    clear HEQ HCR HPU HEQF HOK
    go_upto_region 3 with (fail)
    have HBX:=Lib.hid (Blk.new wb 67 #[.slice none 0 0,.slice none 0 0,.slice none 0 0,.slice none 0 0,.slice none 0 0])
    have HW1:=Lib.hid (show Below w.heap.size w (wb.alloc (.cells #[.slice none 0 0,.slice none 0 0,.slice none 0 0,.slice none 0 0,.slice none 0 0] 67))∧(wb.alloc (.cells #[.slice none 0 0,.slice none 0 0,.slice none 0 0,.slice none 0 0,.slice none 0 0] 67)).heap.size=wb.heap.size+1∧w.heap.size≤wb.heap.size from ⟨HB5.out.alloc HB5.out.size _,by rw [World.size_alloc],HB5.out.size⟩)
    generalize wb.alloc (.cells #[.slice none 0 0,.slice none 0 0,.slice none 0 0,.slice none 0 0,.slice none 0 0] 67)=w1 at *
    generalize wb.heap.size=gx at *
    refine wp_region_M (fun W=>True) 9 (by kernel_rfl) (by trivial) (fun hHeld=>?_)
    refine wpAnyM_take (i:=0) (d:=(some 15)) (v:=?_) rfl rfl (by kernel_rfl) (by kernel_rfl) (by kernel_rfl) (by kernel_rfl) (by kernel_rfl) (fun _ _ _ h=>h) (Or.inl ⟨by rfl,?_⟩) (by assumption) ?_
    rotate_left
    ·intro w hSw
     (try dsimp only at hSw)
     go_simp
     (try with_reducible rfl)
    (try simp only [Act.put,List.setIfInBounds_toArray,List.set_cons_zero,List.set_cons_succ])
    refine wpAnyM_take (i:=1) (d:=(some 16)) (v:=?_) rfl rfl (by kernel_rfl) (by kernel_rfl) (by kernel_rfl) (by kernel_rfl) (by kernel_rfl) (fun _ _ _ h=>h) (Or.inl ⟨by rfl,?_⟩) (by assumption) ?_
    rotate_left
    ·intro w hSw
     (try dsimp only at hSw)
     go_simp
     (try with_reducible rfl)
    (try simp only [Act.put,List.setIfInBounds_toArray,List.set_cons_zero,List.set_cons_succ])
    refine wpAnyM_take (i:=2) (d:=(some 17)) (v:=?_) rfl rfl (by kernel_rfl) (by kernel_rfl) (by kernel_rfl) (by kernel_rfl) (by kernel_rfl) (fun _ _ _ h=>h) (Or.inl ⟨by rfl,?_⟩) (by assumption) ?_
    rotate_left
    ·intro w hSw
     (try dsimp only at hSw)
     go_simp
     (try with_reducible rfl)
    (try simp only [Act.put,List.setIfInBounds_toArray,List.set_cons_zero,List.set_cons_succ])
    refine wpAnyM_take (i:=3) (d:=(some 18)) (v:=?_) rfl rfl (by kernel_rfl) (by kernel_rfl) (by kernel_rfl) (by kernel_rfl) (by kernel_rfl) (fun _ _ _ h=>h) (Or.inl ⟨by rfl,?_⟩) (by assumption) ?_
    rotate_left
    ·intro w hSw
     (try dsimp only at hSw)
     go_simp
     (try with_reducible rfl)
    (try simp only [Act.put,List.setIfInBounds_toArray,List.set_cons_zero,List.set_cons_succ])
    refine wpAnyM_take (i:=4) (d:=(some 19)) (v:=?_) rfl rfl (by kernel_rfl) (by kernel_rfl) (by kernel_rfl) (by kernel_rfl) (by kernel_rfl) (fun _ _ _ h=>h) (Or.inl ⟨by rfl,?_⟩) (by assumption) ?_
    rotate_left
    ·intro w hSw
     (try dsimp only at hSw)
     go_simp
     (try with_reducible rfl)
    (try simp only [Act.put,List.setIfInBounds_toArray,List.set_cons_zero,List.set_cons_succ])
    refine wpAnyM_take (i:=5) (d:=(some 20)) (v:=?_) rfl rfl (by kernel_rfl) (by kernel_rfl) (by kernel_rfl) (by kernel_rfl) (by kernel_rfl) (fun _ _ _ h=>h) (Or.inl ⟨by rfl,?_⟩) (by assumption) ?_
    rotate_left
    ·intro w hSw
     (try dsimp only at hSw)
     go_simp
     (try with_reducible rfl)
    (try simp only [Act.put,List.setIfInBounds_toArray,List.set_cons_zero,List.set_cons_succ])
    refine wpAnyM_one (i:=6) (by kernel_rfl) ?_
    refine owe_early (i:=6) (d:=(some 21)) rfl rfl (fun K hK=>?_)
    go_simp
    refine (HCL.out _ (gx+1) (HW1.out.1.drew) HW1.out.2.1).mono ?_
    rintro en w2 ⟨A7,c7,rfl,ho7,hb7⟩
    have HO7:=Lib.hid ho7
    have HB7:=Lib.hid (((Below.refl (gx+1) w1).drew).trans hb7)
    clear ho7 hb7
    refine hK.out _ _ (by trivial) (fun hHeld=>?_)
    clear hK K
    (try simp only [Act.put,List.setIfInBounds_toArray,List.set_cons_zero,List.set_cons_succ])
    refine wpAnyM_one (i:=7) (by kernel_rfl) ?_
    refine owe_early (i:=7) (d:=(some 22)) rfl rfl (fun K hK=>?_)
    go_simp
    refine (iread_any gx A7 n4 c7 bd w2 (HBX.out.below HB7.out (by omega)) HO7.out HBL.out (by omega)).mono ?_
    rintro en w3 ⟨rfl,hO3,hI3⟩
    have HO3:=Lib.hid hO3
    have HI3:=Lib.hid hI3
    clear hO3 hI3
    refine hK.out _ _ (by trivial) (fun hHeld=>?_)
    clear hK K
    (try simp only [Act.put,List.setIfInBounds_toArray,List.set_cons_zero,List.set_cons_succ])
    refine wpAnyM_take (i:=8) (d:=(some 23)) (v:=?_) rfl rfl (by kernel_rfl) (by kernel_rfl) (by kernel_rfl) (by kernel_rfl) (by kernel_rfl) (fun _ _ _ h=>h) (Or.inl ⟨by rfl,?_⟩) (by assumption) ?_
    rotate_left
    ·intro w hSw
     (try dsimp only at hSw)
     go_simp
     (try with_reducible rfl)
    (try simp only [Act.put,List.setIfInBounds_toArray,List.set_cons_zero,List.set_cons_succ])
    refine wpAnyM_done (by kernel_rfl) ?_ _
    (try simp only [Act.put,List.setIfInBounds_toArray,List.set_cons_zero,List.set_cons_succ])
    have HBT:=Lib.hid (show Below w.heap.size w w3 from (HW1.out.1.trans (HB7.out.mono (by have:=HW1.out.2.2;omega))).grown HO3.out (Nat.le_trans HW1.out.2.2 (by have:=HW1.out.2.1;have:=HB7.out.size;omega)) (fun k e=>by cases e;exact HW1.out.2.2))
    cases hok2:readOk bd with
    | false =>
     have HER:=Lib.hid (show LoadErr l 331 from by
      have h:=HN.out
      refine .inr (.inr (.inr ⟨by omega,by omega,HTL.out,fun r h1 h2 h3=>?_,rfl⟩))
      have h4:=(load_told h1 h3).1
      rw [HBD.out.1,hok2] at h4
      cases h4)
     clear HCL HI3 HO3 HO7 HB7 HBX HW1 HRS hok2
     go_wp2
     go_ret2
     exact ⟨HBT.out,.inl ⟨331,rfl,HER.out⟩⟩
    | true =>
     have HIX:=Lib.hid (HI3.out hok2)
     have HGD:=Lib.hid (read_good hok2)
     have HLT:=Lib.hid (show bd.length≤16777216 from by have:=HBL.out;omega)
     clear HCL HI3 HO3 HO7 HB7 HBX hok2
     have HF:=Lib.hid (idx_few HLT.out)
     have HIB:=Lib.hid (ibundle_any HIX.out HGD.out HLT.out HF.out.1 HF.out.2.1 HF.out.2.2.1 HF.out.2.2.2)
     have HST:=Lib.hid (told_srt HGD.out HLT.out)
     clear HF
     go_upto_region 5 with (fail)
     go_upto_region 6 with (first | (go_at_call 26;go_must (refine HIB.out.mono ?_;rintro en w4 ⟨u,us,rfl,ho4,hb4⟩;have HO4:=Lib.hid ho4;have HB4:=Lib.hid hb4;clear ho4 hb4)) | (go_at_call 20;go_must (refine (bsort_any u _ us w4 HO4.out.steps HST.out).mono ?_;rintro en w5 ⟨⟨ur0,r,rs,e1,a1,rfl,hsi,hor⟩,hb5⟩;obtain ⟨Ar,cr,rfl,-,-,-⟩:=own_form hor.1;obtain ⟨nr,hnr⟩:∃ nr,r.length=nr:=⟨_,rfl⟩;rw [hnr] at hor ⊢;have HSI:=Lib.hid hsi;have HOR:=Lib.hid hor;have HBS:=Lib.hid (HB4.out.trans (hb5.mono HB4.out.size));clear hsi hor hb5 hnr)))
     have HTV:=Lib.hid (two_vars w5 (.slice Ar nr cr) e1 a1)
     have HOR6:=Lib.hid (HOR.out.on HTV.out.1)
     have HB6:=Lib.hid (HBS.out.trans (HTV.out.1.mono HBS.out.size))
     clear HOR HBS HO4 HB4 HIB HST
     generalize (w5.alloc (.cells #[.slice Ar nr cr] 24)).alloc (.cells #[.int .i64 e1,.int .i64 a1] 54)=w6 at *
     generalize w5.heap.size=g1 at *
     have k0:w6.cell? ⟨g1,0,none⟩=some (.slice Ar nr cr):=HTV.out.2.1.cell 0
     have k1:w6.cell? ⟨g1+1,0,none⟩=some (.int .i64 e1):=HTV.out.2.2.cell 0
     clear HTV
     by_cases he:e1=0
     case neg =>
      have HER:=Lib.hid (show LoadErr l 331 from by
       have h:=HN.out
       exact .inr (.inr (.inr ⟨by omega,by omega,HTL.out,fun r' h1 h2 h3=>he (told_one HBD.out.1 HSI.out h1 h3).2,rfl⟩)))
      have he2:decide (e1=0)=false:=decide_eq_false he
      have he3:(e1 == 0)=false:=beq_eq_false_iff_ne.2 he
      have he4:(e1 != 0)=true:=bne_iff_ne.2 he
      clear HRS HIX HOR6 HSI
      go_upto_region 7 with (fail)
      all_goals clear k0 k1
      go_wp2
      go_ret2
      exact ⟨HBT.out.trans (HB6.out.mono HBT.out.size),.inl ⟨331,rfl,HER.out⟩⟩
     case pos =>
      have HCK:=Lib.hid (sort_zero HSI.out he)
      have HUN:=Lib.hid (show ∀ r',(checkB r').1=0→bytesB r'=l→r=r' from fun r' h1 h3=>(told_one HBD.out.1 HSI.out h1 h3).1)
      clear HSI
      subst he
      have HEN:=Lib.hid (bencode_any (.slice Ar nr cr) r rs w6 HOR6.out.steps (right_in HCK.out))
      go_upto_region 8 with (fail)
      go_upto_region 9 with (go_at_call 18;go_must (refine HEN.out.mono ?_;rintro en w7 ⟨h7,hb7⟩;have HB7:=Lib.hid (HB6.out.trans (hb7.mono HB6.out.size));rcases h7 with ⟨h1,-⟩ | ⟨-,hz,rfl⟩ | ⟨-,hz,vo,rfl,hov⟩;(exact absurd HCK.out h1)))
      ·have HER:=Lib.hid (show LoadErr l 331 from by
        have h:=HN.out
        refine .inr (.inr (.inr ⟨by omega,by omega,HTL.out,fun r' h1 h2 h3=>?_,rfl⟩))
        have h4:=HUN.out r' h1 h3
        subst h4
        rw [h3] at hz
        omega)
       clear HRS HIX HOR6 HUN hz
       go_wp2
       go_ret2
       exact ⟨HBT.out.trans (HB7.out.mono HBT.out.size),.inl ⟨331,rfl,HER.out⟩⟩
      ·obtain ⟨Ao,co,rfl,-,-,hro⟩:=hov.form
       obtain ⟨no,hno⟩:∃ no,(bytesB r).length=no:=⟨_,rfl⟩
       obtain ⟨okb,hokb⟩:∃ okb,decide (bytesB r=l)=okb:=⟨_,rfl⟩
       have HOKB:=Lib.hid hokb
       have HEQ:=Lib.hid (show Calls Tryz.prog 21 #[.slice Ao no co,.slice A (n4+4) c] w7 (fun e w'=>e=.returned (.bool okb)∧w7=w') from by
        have h:=beq_any (bytesB r) l Ao A co c no (n4+4) w7 hro ((HRB.out.below (HBT.out.trans (HB7.out.mono HBT.out.size))).more (HBT.out.trans (HB7.out.mono HBT.out.size)).size) hno HN.out
        rw [hokb] at h
        exact h)
       have HZ:=Lib.hid hz
       rw [hno]
       clear HRS hz hro hov hno hokb
       cases okb with
       | false =>
        have HER:=Lib.hid (show LoadErr l 331 from by
         have h:=HN.out
         refine .inr (.inr (.inr ⟨by omega,by omega,HTL.out,fun r' h1 h2 h3=>?_,rfl⟩))
         have h4:=HUN.out r' h1 h3
         subst h4
         exact absurd h3 (of_decide_eq_false HOKB.out))
        clear HIX HUN HEN HOR6 HOKB
        go_wp2_with fail
        refine HEQ.out.mono ?_
        rintro en w8 ⟨rfl,rfl⟩
        go_wp2
        go_ret2
        exact ⟨HBT.out.trans (HB7.out.mono HBT.out.size),.inl ⟨331,rfl,HER.out⟩⟩
       | true =>
        have HLD:=Lib.hid (show bytesB r=l∧LoadedAt w7 gx r from by
         have h1:=of_decide_eq_true HOKB.out
         have h2:=(bytes_body h1).2.1
         rw [HBD.out.1] at h2
         refine ⟨h1,?_,HCK.out,HZ.out⟩
         rw [←h2]
         exact HIX.out.on HB7.out)
        clear HIX HUN HEN HOR6 HOKB
        go_wp2_with fail
        refine HEQ.out.mono ?_
        rintro en w8 ⟨rfl,rfl⟩
        go_wp2
        go_ret2
        exact ⟨HBT.out.trans (HB7.out.mono HBT.out.size),.inr ⟨gx,r,rfl,HLD.out.1,HLD.out.2,HW1.out.2.2⟩⟩

end
section
open Go.RowKit

/-- Right bundles of the same bytes are one. -/
theorem bytes_one {a b:List PStep}(ha:(checkB a).1=0)(hb:(checkB b).1=0)(e:bytesB a=bytesB b):a=b:=by
 unfold bytesB at e
 have h1:=List.append_inj' e (by rw [le_len,le_len])
 exact body_inj ha hb (right_sm ha) (right_sm hb) h1.1
/-- A right bundle's bytes are taken. -/
theorem load_ok {r:List PStep}{l:List UInt8}(hc:(checkB r).1=0)(hb:bytesB r=l)(hl:l.length≤16777216){k:Int}:¬ LoadErr l k:=by
 have h4:=bytes_body hb
 rintro (⟨h,-⟩ | ⟨-,h,-⟩ | ⟨-,-,h,-⟩ | ⟨-,-,-,h,-⟩)
 ·omega
 ·omega
 ·exact h h4.2.2.symm
 ·exact h r hc (right_sm hc) hb
/-- .. and are that bundle. -/
theorem load_one {r:List PStep}{l:List UInt8}(hc:(checkB r).1=0)(hb:bytesB r=l)(hl:l.length≤16777216){w w':World}{e:Ending}(h:LoadPost l w e w'):Below w.heap.size w w'∧∃ g:Nat,e=.returned (.tuple #[.pointer (some ⟨g,0,none⟩),.int .i64 0])∧LoadedAt w' g r∧w.heap.size≤g:=by
 obtain ⟨h1,⟨k,-,h2⟩ | ⟨g,r',rfl,h2,h3,h4⟩⟩:=h
 ·exact absurd h2 (load_ok hc hb hl)
 ·have h5:=bytes_one hc h3.2.1 (hb.trans h2.symm)
  subst h5
  exact ⟨h1,g,rfl,h3,h4⟩
/-- The laws' small bundle. -/
def lS:List PStep:=[(⟨#[100,101]⟩,[(⟨#[97,47,120]⟩,⟨#[49]⟩),(⟨#[120,91,99,111,117,110,116,61,111,116,104,101,114,93]⟩,⟨#[111]⟩)]),(⟨#[101,110]⟩,[(⟨#[97,47,120]⟩,⟨#[49]⟩),(⟨#[98]⟩,⟨#[50]⟩)])]
theorem lS_check:(checkB lS).1=0:=by kernel_rfl
theorem lS_fits:(bytesB lS).length≤16777216:=enc_fits lS_check ⟨by decide,fun b hb=>by
 simp only [lS,List.mem_cons,List.not_mem_nil,or_false] at hb
 rcases hb with rfl | rfl <;> decide⟩
theorem reads_blk {W:World}{b n size:Nat}{t:TypeId}{cs:Array Value}(h:Blk W b t cs)(hn:cs.size=n*size):Reads W W.heap.size size (some ⟨b,0,none⟩) n cs.toList:=by
 refine ⟨by simpa using hn,fun _=>⟨_,rfl,h.lt,fun j u hu=>?_⟩⟩
 have hc:=h.cell j
 have ha:(⟨b,0,none⟩:Addr).add j=⟨b,j,none⟩:=by by_cases hj:j=0 <;> simp [Addr.add,hj]
 rw [ha,hc]
 simpa using hu
theorem steps_two {W:World}{b1 b2 b3:Nat}{n1 n2 p1 t1 p2 t2 p3 t3 p4 t4:ByteArray}(h1:Blk W b1 71 #[.string p1,.string t1,.string p2,.string t2])(h2:Blk W b2 71 #[.string p3,.string t3,.string p4,.string t4])(h3:Blk W b3 41 #[.string n1,.slice (some ⟨b1,0,none⟩) 2 2,.string n2,.slice (some ⟨b2,0,none⟩) 2 2]) :
  StepsR W (.slice (some ⟨b3,0,none⟩) 2 2) [(n1,[(p1,t1),(p2,t2)]),(n2,[(p3,t3),(p4,t4)])] [.slice (some ⟨b1,0,none⟩) 2 2,.slice (some ⟨b2,0,none⟩) 2 2]:=by
 refine ⟨_,2,rfl,Nat.le_refl _,by decide,reads_blk h3 rfl,rfl,fun i b kv hb hk=>?_⟩
 match i with
 | 0 =>
  cases hb
  cases hk
  exact ⟨_,2,rfl,Nat.le_refl _,by decide,reads_blk h1 rfl⟩
 | 1 =>
  cases hb
  cases hk
  exact ⟨_,2,rfl,Nat.le_refl _,by decide,reads_blk h2 rfl⟩
 | _+2=>cases hb
theorem sample_result {tmps:Array Value}{w:World}{r0:Nat}{v:Value}(hB:Blk w r0 24 #[v])(hp:tmps.getD 0 undef=.pointer (some ⟨r0,0,none⟩)) :
  (results Tryz.f19 tmps).run Tryz.prog w=.ok (.agg #[v]) w :=
 results_row Tryz.results19 tmps w r0 24 #[v] _ hp hB Tryz.underlying24 rfl (by kernel_rfl)
set_option maxHeartbeats 4000000 in
theorem sample_any (w:World):Calls Tryz.prog 19 #[] w fun e w'=>∃ b vs,e=.returned (.agg #[.slice (some ⟨b,0,none⟩) 2 2])∧StepsR w' (.slice (some ⟨b,0,none⟩) 2 2) lS vs∧Below w.heap.size w w':=by
 obtain ⟨w0,hw0⟩:∃ w0,w.alloc (.cells #[.slice none 0 0] 24)=w0:=⟨_,rfl⟩
 have B0:Blk w0 w.heap.size 24 #[.slice none 0 0]:=by rw [←hw0];exact Blk.new w _ _
 have hb0:Below w.heap.size w w0:=by rw [←hw0];exact (Below.refl _ w).alloc (Nat.le_refl _) _
 obtain ⟨w1,hw1⟩:∃ w1,w0.alloc (.cells #[.string ⟨#[97,47,120]⟩,.string ⟨#[49]⟩,.string ⟨#[120,91,99,111,117,110,116,61,111,116,104,101,114,93]⟩,.string ⟨#[111]⟩] 71)=w1:=⟨_,rfl⟩
 have B1:Blk w1 w0.heap.size 71 #[.string ⟨#[97,47,120]⟩,.string ⟨#[49]⟩,.string ⟨#[120,91,99,111,117,110,116,61,111,116,104,101,114,93]⟩,.string ⟨#[111]⟩]:=by rw [←hw1];exact Blk.new w0 _ _
 have hb1:Below w0.heap.size w0 w1:=by rw [←hw1];exact (Below.refl _ w0).alloc (Nat.le_refl _) _
 obtain ⟨w2,hw2⟩:∃ w2,w1.alloc (.cells #[.string ⟨#[97,47,120]⟩,.string ⟨#[49]⟩,.string ⟨#[98]⟩,.string ⟨#[50]⟩] 71)=w2:=⟨_,rfl⟩
 have B2:Blk w2 w1.heap.size 71 #[.string ⟨#[97,47,120]⟩,.string ⟨#[49]⟩,.string ⟨#[98]⟩,.string ⟨#[50]⟩]:=by rw [←hw2];exact Blk.new w1 _ _
 have hb2:Below w1.heap.size w1 w2:=by rw [←hw2];exact (Below.refl _ w1).alloc (Nat.le_refl _) _
 obtain ⟨w3,hw3⟩:∃ w3,w2.alloc (.cells #[.string ⟨#[100,101]⟩,.slice (some ⟨w0.heap.size,0,none⟩) 2 2,.string ⟨#[101,110]⟩,.slice (some ⟨w1.heap.size,0,none⟩) 2 2] 41)=w3:=⟨_,rfl⟩
 have B3:Blk w3 w2.heap.size 41 #[.string ⟨#[100,101]⟩,.slice (some ⟨w0.heap.size,0,none⟩) 2 2,.string ⟨#[101,110]⟩,.slice (some ⟨w1.heap.size,0,none⟩) 2 2]:=by rw [←hw3];exact Blk.new w2 _ _
 have hb3:Below w2.heap.size w2 w3:=by rw [←hw3];exact (Below.refl _ w2).alloc (Nat.le_refl _) _
 have hl0:w.heap.size<w0.heap.size:=B0.lt
 have hl1:w0.heap.size<w1.heap.size:=B1.lt
 have hl2:w1.heap.size<w2.heap.size:=B2.lt
 have HB:=Lib.hid (show Below w.heap.size w w3 from hb0.trans ((hb1.trans ((hb2.trans (hb3.mono (by omega))).mono (by omega))).mono (by omega)))
 have k0:w3.cell? ⟨w.heap.size,0,none⟩=some (.slice none 0 0):=((((B0.below hb1 hl0).below hb2 (by omega)).below hb3 (by omega))).cell 0
 have k1:w3.frozen? ⟨w.heap.size,0,none⟩=false:=((((B0.below hb1 hl0).below hb2 (by omega)).below hb3 (by omega))).frozen 0
 have HR:=Lib.hid (((((B0.below hb1 hl0).below hb2 (by omega)).below hb3 (by omega))).set_ 0 (.slice (some ⟨w2.heap.size,0,none⟩) 2 2))
 have HS:=Lib.hid (show StepsR (w3.setCell ⟨w.heap.size,0,none⟩ (.slice (some ⟨w2.heap.size,0,none⟩) 2 2)) (.slice (some ⟨w2.heap.size,0,none⟩) 2 2) lS _ from steps_two ((((B1.below hb2 hl1).below hb3 (by omega))).far (by simp;omega) _) ((B2.below hb3 hl2).far (by simp;omega) _) (B3.far (by simp;omega) _))
 clear B0 B1 B2 B3 hb0 hb1 hb2 hb3
 go_enter Tryz.func19,Tryz.ntmps19
 go_upto_region 1 with (fail)
 go_wp2
 (try simp only [Exit.inBlock,Exit.then])
 exact bodyPost_ret (sample_result HR.out rfl) rfl ⟨_,_,rfl,HS.out,HB.out.setCell (p:=⟨w.heap.size,0,none⟩) (Nat.le_refl _) _⟩
theorem some_srt {l:List PStep}(h:BunIn l)(hn:l.length≤20)(hv:∀ b∈l,b.2.length≤100):SrtIn l:=by
 have h1:=flat_sum_le hv
 have h2:100*l.length≤100*20:=Nat.mul_le_mul_left _ hn
 exact ⟨by omega,by omega,fun b hb=>⟨by have:=(h.2 b hb).1;omega,fun x hx=>by have:=(h.2 b hb).2.1 x hx;omega⟩⟩
theorem some_in {l r:List PStep}{e a:Int}(h:SortIs l r e a):InB r:=by
 rcases h with ⟨i,-,-,-,-,rfl⟩ | ⟨-,⟨-,rfl,-⟩ | ⟨h1,rfl,-⟩⟩
 ·exact ⟨by simp,fun b hb=>by cases hb⟩
 ·exact ⟨by simp,fun b hb=>by cases hb⟩
 ·exact right_in h1
/-- What is taken out of a bundle. -/
def SomePost (w:World)(e:Ending)(w':World):Prop:=Below w.heap.size w w'∧((∃ A1 n1 c1 A2 n2 c2,e=.returned (.tuple #[.agg #[.slice A1 n1 c1],.slice A2 n2 c2,.bool false])) ∨
 ∃(A:Option Addr) (c:Nat) (r:List PStep) (us:List Value) (B:Option Addr) (d:Nat),e=.returned (.tuple #[.agg #[.slice A r.length c],.slice B (bytesB r).length d,.bool true])∧(checkB r).1=0∧(bytesB r).length≤16777216∧BunOwn w' w.heap.size (.slice A r.length c) r us∧OB w' w.heap.size 5 (.slice B (bytesB r).length d) (bytesB r))
theorem some_result {tmps:Array Value}{w:World}{r0:Nat}{u v x:Value}(hB:Blk w r0 24 #[u])(hp:tmps.getD 2 undef=.pointer (some ⟨r0,0,none⟩))(hv:tmps.getD 3 undef=v)(hx:tmps.getD 4 undef=x) :
  (results Tryz.f6 tmps).run Tryz.prog w=.ok (.tuple #[.agg #[u],v,x]) w:=by
 have hp':tmps[2]?.getD undef=.pointer (some ⟨r0,0,none⟩):=by simpa using hp
 have hv':tmps[3]?.getD undef=v:=by simpa using hv
 have hx':tmps[4]?.getD undef=x:=by simpa using hx
 have hi:(Tryz.prog.info? 24).map (·.size)=some (#[u]:Array Value).size:=by kernel_rfl
 simp [results,Tryz.results6,hp',hv',hx',asAddr,run_loadVar_row w r0 24 24 #[u] (0,0) _ hB Tryz.underlying24 rfl hi,Result.andThen]
set_option maxHeartbeats 32000000 in
set_option maxRecDepth 100000 in
theorem some_any (v:Value)(l:List PStep)(vs:List Value)(w:World)(h:StepsR w v l vs)(hin:BunIn l) :
  Calls Tryz.prog 6 #[.agg #[v]] w (SomePost w):=by
 have HS:=Lib.hid h
 obtain ⟨A,c,rfl,hc1,hc2,hR,hvl,hks⟩:=h
 have HR:=Lib.hid hR
 have HKS:=Lib.hid hks
 have HVL:=Lib.hid hvl
 have HIN:=Lib.hid hin
 obtain ⟨n,hn⟩:∃ n,l.length=n:=⟨_,rfl⟩
 rw [hn] at HS HR hc1 ⊢
 have HN:=Lib.hid hn
 unfold maxLen at hc2
 have hn9:(n:Int)≤9223372036854775807:=by omega
 obtain ⟨W0,hW0⟩:∃ W0,(w.alloc (.cells #[.slice A n c] 24)).alloc (.cells #[.slice none 0 0] 24)=W0:=⟨_,rfl⟩
 have b0:Blk W0 w.heap.size 24 #[.slice A n c]:=by rw [←hW0];exact (Blk.new w _ _).alloc _
 have b1:Blk W0 (w.heap.size+1) 24 #[.slice none 0 0]:=by
  rw [←hW0]
  have h:=Blk.new (w.alloc (.cells #[.slice A n c] 24)) 24 #[.slice none 0 0]
  rw [World.size_alloc] at h
  exact h
 have hb0:Below w.heap.size w W0:=by rw [←hW0];exact ((Below.refl _ w).alloc (Nat.le_refl _) _).alloc (by simp) _
 have x0:W0.cell? ⟨w.heap.size,0,none⟩=some (.slice A n c):=b0.cell 0
 have HB0:=Lib.hid b0
 have HB1:=Lib.hid b1
 have HBW:=Lib.hid hb0
 obtain ⟨g0,hg0⟩:∃ g0,w.heap.size=g0:=⟨_,rfl⟩
 have HG0:=Lib.hid hg0
 clear hR hks hvl hin hn b0 b1 hb0
 go_enter Tryz.func6,Tryz.ntmps6
 go_upto_region 1 with (fail)
 clear hW0
 rw [hg0] at HB0 HB1 x0
 (try rw [hg0])
 by_cases h20:n≤20
 case neg =>
  have h21:(20:Int)<(n:Int):=by omega
  have y1:W0.cell? ⟨g0+1,0,none⟩=some (.slice none 0 0):=HB1.out.cell 0
  have y2:W0.frozen? ⟨g0+1,0,none⟩=false:=HB1.out.frozen 0
  have HF:=Lib.hid (HB1.out.set_ 0 (.slice none 0 0))
  go_wp2
  (try simp only [Exit.inBlock,Exit.then])
  exact bodyPost_ret (some_result HF.out rfl rfl rfl) rfl ⟨HBW.out.setCell (p:=⟨g0+1,0,none⟩) (by rw [HG0.out];simp) _,.inl ⟨_,_,_,_,_,_,rfl⟩⟩
 case pos =>
  have h21:¬ (20:Int)<(n:Int):=by omega
  have h22:(n:Int)≤20:=by omega
  go_wp2
  clear x0
  go_loopw [19] (fun iv W=>∃ j:Nat,iv=.int .i64 (j:Int)∧j≤n∧(∀(q:Nat) (b:PStep),q<j→l[q]?=some b→b.2.length≤100)∧Below W0.heap.size W0 W) (fun iv _=>n-(Lib.intOf iv).toNat)
  case atStart=>exact ⟨0,rfl,Nat.zero_le _,fun q b hq=>absurd hq (Nat.not_lt_zero _),Below.refl _ _⟩
  case round =>
   obtain ⟨j,rfl,hj,hal,hb⟩:=hrel
   have HAL:=Lib.hid hal
   have HB:=Lib.hid hb
   have HBT:=Lib.hid (HBW.out.trans (hb.mono HBW.out.size))
   clear hal hb
   by_cases hlt:j<n
   ·have hq1:(j:Int)<(n:Int):=by omega
    have hq0:(0:Int)≤(j:Int):=by omega
    obtain ⟨b,hb⟩:∃ b,l[j]?=some b:=⟨_,List.getElem?_eq_getElem (by rw [HN.out];exact hlt)⟩
    obtain ⟨kv,hkv⟩:∃ kv,vs[j]?=some kv:=⟨_,List.getElem?_eq_getElem (by rw [HVL.out,HN.out];exact hlt)⟩
    obtain ⟨Av,cv,rfl,hcv1,hcv2,-⟩:=HKS.out j b kv hb hkv
    obtain ⟨bk,ok,rfl,hbk,hcl⟩:=(HR.out.below HBT.out).spot (by omega) (by omega)
    have hcs:=stepCells_at l vs j b _ hb hkv
    have z0:wr.cell? ⟨bk,ok+j*2,none⟩=some (.string b.1):=hcl _ _ hcs.1
    have z1:wr.cell? ⟨bk,ok+j*2+1,none⟩=some (.slice Av b.2.length cv):=hcl _ _ hcs.2
    have HBB:=Lib.hid hb
    obtain ⟨nv,hnv⟩:∃ nv,b.2.length=nv:=⟨_,rfl⟩
    rw [hnv] at z1 hcv1
    have HNV:=Lib.hid hnv
    unfold maxLen at hcv2
    have hnv9:(nv:Int)≤9223372036854775807:=by omega
    obtain ⟨nm,hnm⟩:∃ nm,b.1=nm:=⟨_,rfl⟩
    rw [hnm] at z0
    have hba:=(Below.refl wr.heap.size wr).alloc (Nat.le_refl _) (.cells #[.string nm,.slice Av nv cv] 41)
    have HBA:=Lib.hid (HB.out.trans (hba.mono HB.out.size))
    have HGK:=Lib.hid (Blk.new wr 41 #[.string nm,.slice Av nv cv])
    clear hb hkv hcl hcs hnv hnm hbk hba hcv2
    go_upto_region 6 with (fail)
    clear z0 z1
    generalize wr.alloc (.cells #[.string nm,.slice Av nv cv] 41)=w1 at *
    obtain ⟨gk,hgk⟩:∃ gk,wr.heap.size=gk:=⟨_,rfl⟩
    rw [hgk] at HGK
    (try rw [hgk])
    clear hgk
    have y0:w1.cell? ⟨gk,1,none⟩=some (.slice Av nv cv):=HGK.out.cell 1
    by_cases hv:nv≤100
    ·have hv1:¬ (100:Int)<(nv:Int):=by omega
     have hv2:(nv:Int)≤100:=by omega
     go_wp2
     go_roundw
     case rel=>exact ⟨j+1,by go_num,hlt,fun q b' hq hb'=>by
      rcases Nat.lt_or_ge q j with h | h
      ·exact HAL.out q b' h hb'
      ·obtain rfl:q=j:=by omega
       rw [HBB.out] at hb'
       cases hb'
       rw [HNV.out]
       exact hv,HBA.out⟩
     case measure=>simp [Lib.intOf] <;> omega
    ·have hv1:(100:Int)<(nv:Int):=by omega
     have HB2:=Lib.hid (HB1.out.below HBA.out HB1.out.lt)
     have y1:w1.cell? ⟨g0+1,0,none⟩=some (.slice none 0 0):=HB2.out.cell 0
     have y2:w1.frozen? ⟨g0+1,0,none⟩=false:=HB2.out.frozen 0
     have HF:=Lib.hid (HB2.out.set_ 0 (.slice none 0 0))
     have HBX:=Lib.hid (HBW.out.trans (HBA.out.mono HBW.out.size))
     go_wp2
     (try simp only [Exit.inBlock,Exit.then])
     exact bodyPost_ret (some_result HF.out rfl rfl rfl) rfl ⟨HBX.out.setCell (p:=⟨g0+1,0,none⟩) (by rw [HG0.out];simp) _,.inl ⟨_,_,_,_,_,_,rfl⟩⟩
   ·obtain rfl:n=j:=by omega
    have hq:¬ (n:Int)<(n:Int):=by omega
    have HSI:=Lib.hid (some_srt HIN.out (by rw [HN.out];exact h20) (fun b hb=>by
     obtain ⟨q,hq,rfl⟩:=List.getElem_of_mem hb
     exact HAL.out q _ (by rw [←HN.out];exact hq) (List.getElem?_eq_getElem hq)))
    have y0:wr.cell? ⟨g0,0,none⟩=some (.slice A n c):=(HB0.out.below HB.out HB0.out.lt).cell 0
    have HSO:=Lib.hid (bsort_any (.slice A n c) l vs wr (HS.out.more HBT.out) HSI.out)
    have HB2:=Lib.hid (HB1.out.below HB.out HB1.out.lt)
    clear HB HB0 HB1 HBW
    go_upto_region 10 with (go_at_call 20;go_must (refine HSO.out.mono ?_;rintro en w5 ⟨⟨ur0,r,rs,e1,a1,rfl,hsi,hor⟩,hb5⟩;obtain ⟨Ar,cr,rfl,-,-,-⟩:=own_form hor.1;obtain ⟨nr,hnr⟩:∃ nr,r.length=nr:=⟨_,rfl⟩;rw [hnr] at hor ⊢;have HNR:=Lib.hid hnr;have HSS:=Lib.hid hsi;have HOR:=Lib.hid hor;have HB5:=Lib.hid (HBT.out.trans (hb5.mono HBT.out.size));have HB25:=Lib.hid (HB2.out.below hb5 HB2.out.lt);clear hsi hor hb5 hnr))
    have HTV:=Lib.hid (two_vars w5 (.slice Ar nr cr) e1 a1)
    have HOR6:=Lib.hid ((HOR.out.on HTV.out.1).base HBT.out.size)
    have HB6:=Lib.hid (HB5.out.trans (HTV.out.1.mono HB5.out.size))
    have HB26:=Lib.hid (HB25.out.below HTV.out.1 HB25.out.lt)
    clear HOR HB5 HB25 HB2 HSO y0
    generalize (w5.alloc (.cells #[.slice Ar nr cr] 24)).alloc (.cells #[.int .i64 e1,.int .i64 a1] 54)=w6 at *
    generalize w5.heap.size=g1 at *
    have k0:w6.cell? ⟨g1,0,none⟩=some (.slice Ar nr cr):=HTV.out.2.1.cell 0
    have HEN:=Lib.hid (bencode_any (.slice Ar nr cr) r rs w6 HOR6.out.steps (some_in HSS.out))
    go_upto_region 11 with (go_at_call 18;go_must (refine HEN.out.mono ?_;rintro en w7 ⟨h7,hb7⟩;have HB7:=Lib.hid (HB6.out.trans (hb7.mono HB6.out.size));have HK7:=Lib.hid (And.intro (HTV.out.2.1.below hb7 HTV.out.2.1.lt) (And.intro (HTV.out.2.2.below hb7 HTV.out.2.2.lt) (HB26.out.below hb7 HB26.out.lt)));have HO7:=Lib.hid (HOR6.out.on hb7);have HZ6:=Lib.hid HB6.out.size;clear hb7;rcases h7 with ⟨h1,rfl⟩ | ⟨h1,hz,rfl⟩ | ⟨h1,hz,vo,rfl,hov⟩))
    all_goals (have m0:w7.cell? ⟨g1,0,none⟩=some (.slice Ar nr cr):=HK7.out.1.cell 0)
    all_goals (have m1:w7.cell? ⟨g1+1,0,none⟩=some (.int .i64 e1):=HK7.out.2.1.cell 0)
    all_goals (have m2:w7.cell? ⟨g0+1,0,none⟩=some (.slice none 0 0):=HK7.out.2.2.cell 0)
    all_goals (have m3:w7.frozen? ⟨g0+1,0,none⟩=false:=HK7.out.2.2.frozen 0)
    all_goals (have HF:=Lib.hid (HK7.out.2.2.set_ 0 (.slice Ar nr cr)))
    all_goals clear k0 HTV HEN HB26
    ·by_cases he:e1=0
     ·exact absurd (sort_zero HSS.out he) h1
     ·have he1:(e1 == 0)=false:=beq_eq_false_iff_ne.2 he
      have he2:decide (e1=0)=false:=decide_eq_false he
      go_wp2
      (try simp only [Exit.inBlock,Exit.then])
      exact bodyPost_ret (some_result HF.out rfl rfl rfl) rfl ⟨HB7.out.setCell (p:=⟨g0+1,0,none⟩) (by rw [HG0.out];simp) _,.inl ⟨_,_,_,_,_,_,rfl⟩⟩
    ·by_cases he:e1=0
     ·subst he
      go_wp2
      (try simp only [Exit.inBlock,Exit.then])
      exact bodyPost_ret (some_result HF.out rfl rfl rfl) rfl ⟨HB7.out.setCell (p:=⟨g0+1,0,none⟩) (by rw [HG0.out];simp) _,.inl ⟨_,_,_,_,_,_,rfl⟩⟩
     ·have he1:(e1 == 0)=false:=beq_eq_false_iff_ne.2 he
      have he2:decide (e1=0)=false:=decide_eq_false he
      go_wp2
      (try simp only [Exit.inBlock,Exit.then])
      exact bodyPost_ret (some_result HF.out rfl rfl rfl) rfl ⟨HB7.out.setCell (p:=⟨g0+1,0,none⟩) (by rw [HG0.out];simp) _,.inl ⟨_,_,_,_,_,_,rfl⟩⟩
    ·obtain ⟨Ao,co,rfl,-,-,-⟩:=hov.form
     have HOV:=Lib.hid hov
     have HCK:=Lib.hid (And.intro h1 hz)
     obtain ⟨no,hno⟩:∃ no,(bytesB r).length=no:=⟨_,rfl⟩
     have HNO:=Lib.hid hno
     rw [hno] at HOV ⊢
     clear h1 hz hov hno
     by_cases he:e1=0
     ·subst he
      go_wp2
      (try simp only [Exit.inBlock,Exit.then])
      have hs:=grown_set w7 (g0+1) 0 (.slice Ar nr cr)
      refine bodyPost_ret (some_result HF.out rfl rfl rfl) rfl ⟨HB7.out.setCell (p:=⟨g0+1,0,none⟩) (by rw [HG0.out];simp) _,.inr ⟨Ar,cr,r,rs,Ao,co,?_,HCK.out.1,HCK.out.2,?_,?_⟩⟩
      ·rw [HNR.out,HNO.out]
       rfl
      ·rw [HNR.out]
       exact bunown_set HK7.out.2.2 HO7.out
      ·rw [HNO.out]
       exact own_base (own_stays3 HOV.out HK7.out.2.2 (by decide) hs) HZ6.out
     ·have he1:(e1 == 0)=false:=beq_eq_false_iff_ne.2 he
      have he2:decide (e1=0)=false:=decide_eq_false he
      go_wp2
      (try simp only [Exit.inBlock,Exit.then])
      exact bodyPost_ret (some_result HF.out rfl rfl rfl) rfl ⟨HB7.out.setCell (p:=⟨g0+1,0,none⟩) (by rw [HG0.out];simp) _,.inl ⟨_,_,_,_,_,_,rfl⟩⟩
end
section
open Go.RowKit

/-- What a search among n texts tells. -/
def HuntIs (f:Nat→ByteArray)(n:Nat)(s:ByteArray)(r:Int):Prop:=(∃ k,k<n∧r=(k:Nat)∧f k=s)∨(r=-1∧∀ k,k<n→f k≠s)
/-- The texts rise. -/
def RiseF (f:Nat→ByteArray)(n:Nat):Prop:=∀ a b,a<b→b<n→bl (f a) (f b)=true
theorem RiseF.mono {f:Nat→ByteArray}{n:Nat}(h:RiseF f n)(s:ByteArray):∀ a b,a≤b→b<n→(!bl (f a) s)=true→(!bl (f b) s)=true:=fun a b hab hb ha=>by
 rcases Nat.lt_or_eq_of_le hab with h1 | rfl
 ·have h2:=h a b h1 hb
  cases h3:bl (f b) s with
  | false=>rfl
  | true =>
   rw [blT.tr _ _ _ h2 h3] at ha
   cases ha
 ·exact ha
theorem seek_hit {f:Nat→ByteArray}{n k:Nat}{s:ByteArray}(hk:k<n)(h:f k=s):HuntIs f n s (k:Int):=.inl ⟨k,hk,rfl,h⟩
theorem seek_miss {f:Nat→ByteArray}{n k:Nat}{s:ByteArray}(hf:RiseF f n)(h1:∀ t,t<k→(!bl (f t) s)=false)(h2:∀ t,k≤t→t<n→(!bl (f t) s)=true)(h:k<n→f k≠s):HuntIs f n s (-1):=by
 refine .inr ⟨rfl,fun t ht e=>?_⟩
 rcases Nat.lt_trichotomy t k with hl | rfl | hg
 ·have h3:=h1 t hl
  rw [e,blT.irr] at h3
  cases h3
 ·exact h ht e
 ·have h3:=hf k t hg ht
  have h4:=h2 k (Nat.le_refl _) (by omega)
  rw [e] at h3
  rw [h3] at h4
  cases h4
/-- What a bundle has at a path for a locale. -/
def findB (L:List PStep)(n p:ByteArray):ByteArray×Bool:=match L.find? fun b=>decide (b.1=n) with
 | none=>(ByteArray.empty,false)
 | some b=>match b.2.find? fun v=>decide (v.1=p) with
  | none=>(ByteArray.empty,false)
  | some v=>(v.2,true)
theorem findB_book {L:List PStep}{n p:ByteArray}(h:∀ b∈L,b.1≠n):findB L n p=(ByteArray.empty,false):=by
 unfold findB
 rw [List.find?_eq_none.2 fun b hb=>by simpa using h b hb]
theorem rise_find {α:Type}{f:α→ByteArray}{L:List α}(hr:RiseL (fun x y=>bl (f x) (f y)) L){k:Nat}{b:α}(hb:L[k]?=some b):L.find? (fun x=>decide (f x=f b))=some b:=by
 induction L generalizing k with
 | nil=>cases hb
 | cons a r ih =>
  obtain ⟨h1,h2⟩:=List.pairwise_cons.1 hr
  cases k with
  | zero =>
   cases hb
   rw [List.find?_cons_of_pos (by simp)]
  | succ k =>
   rw [List.getElem?_cons_succ] at hb
   have h3:=h1 b (List.mem_of_getElem? hb)
   rw [List.find?_cons_of_neg (by simpa using blT.ne h3)]
   exact ih h2 hb
section
variable {L:List PStep} {n p:ByteArray} {b:PStep} {v:PKey} {k:Nat}
theorem findB_none (hr:RiseL (fun x y=>bl x.1 y.1) L)(hb:L[k]?=some b)(hn:b.1=n)(h:∀ v∈b.2,v.1≠p):findB L n p=(ByteArray.empty,false):=by
 subst hn
 unfold findB
 rw [rise_find (f:=Prod.fst) hr hb]
 simp only
 rw [List.find?_eq_none.2 fun v hv=>by simpa using h v hv]
theorem findB_some {q:Nat}(hr:RiseL (fun x y=>bl x.1 y.1) L)(hb:L[k]?=some b)(hn:b.1=n)(hv:RiseL (fun x y=>bl x.1 y.1) b.2)(hq:b.2[q]?=some v)(hp:v.1=p):findB L n p=(v.2,true):=by
 subst hn hp
 unfold findB
 rw [rise_find (f:=Prod.fst) hr hb]
 simp only
 rw [rise_find (f:=Prod.fst) hv hq]
end
/-! The three rows of texts that are searched. -/
section
variable {L:List PStep} {l:List UInt8} {i:IdxM}
/-- A Book's name, a group's name, a row's path; by numbers. -/
def nmF (l:List UInt8)(i:IdxM)(j:Nat):ByteArray:=textM l i (i.books.getD j (0,[])).1
def gpF (l:List UInt8)(i:IdxM)(gs:List RowI)(q:Nat):ByteArray:=textM l i (gs.getD q (0,0)).1.toNat
def ptF (l:List UInt8)(i:IdxM)(t q:Nat):ByteArray:=(valM l i t q).1
theorem IdxIs.nm (h:IdxIs L l i){j:Nat}{b:PStep}(hb:L[j]?=some b):i.books[j]?=some (bookM (textsP L) (pathsP L) (tabsB L) b)∧nmF l i j=b.1:=by
 have h1:i.books[j]?=some (bookM (textsP L) (pathsP L) (tabsB L) b):=by rw [h.books,List.getElem?_map,hb];rfl
 refine ⟨h1,?_⟩
 unfold nmF
 rw [List.getD_eq_getElem?_getD,h1]
 exact h.textOf_idx ((poolL_mem _ _).2 (words_name (List.mem_of_getElem? hb)))
theorem IdxIs.nm_rise (h:IdxIs L l i)(hr:RiseL (fun x y=>bl x.1 y.1) L):RiseF (nmF l i) L.length:=fun a b hab hb=>by
 have h1:L[b]?=some L[b]:=List.getElem?_eq_getElem hb
 have h2:L[a]?=some (L[a]'(by omega)):=List.getElem?_eq_getElem (by omega)
 rw [(h.nm h1).2,(h.nm h2).2]
 exact rise_at hr h2 h1 hab
theorem IdxIs.gp (h:IdxIs L l i){b:PStep}(hb:b∈L){q:Nat}{g:ByteArray}(hg:(groupsB b.2)[q]?=some g):(bookM (textsP L) (pathsP L) (tabsB L) b).2[q]?=some ((idx (textsP L) g:Int),(tix (tabsB L) (rowsB (textsP L) (pathsP L) b.2 g):Int))∧gpF l i (bookM (textsP L) (pathsP L) (tabsB L) b).2 q=g:=by
 have h1:(bookM (textsP L) (pathsP L) (tabsB L) b).2[q]?=some ((idx (textsP L) g:Int),(tix (tabsB L) (rowsB (textsP L) (pathsP L) b.2 g):Int)):=by
  unfold bookM
  simp only
  rw [List.getElem?_map,hg]
  rfl
 refine ⟨h1,?_⟩
 unfold gpF
 rw [List.getD_eq_getElem?_getD,h1]
 simp only [Option.getD_some,Int.toNat_natCast]
 refine h.textOf_idx ?_
 obtain ⟨v,hv,rfl⟩:=List.mem_map.1 ((poolL_mem (lt:=bl) _ _).1 (List.mem_of_getElem? hg))
 exact (poolL_mem _ _).2 (words_val hb hv).1
theorem bookM_len (T P:List ByteArray)(Y:List (List RowI))(b:PStep):(bookM T P Y b).2.length=(groupsB b.2).length:=by unfold bookM;rw [List.length_map]
theorem IdxIs.gp_rise (h:IdxIs L l i){b:PStep}(hb:b∈L):RiseF (gpF l i (bookM (textsP L) (pathsP L) (tabsB L) b).2) (groupsB b.2).length:=fun x y hxy hy=>by
 have h1:(groupsB b.2)[y]?=some (groupsB b.2)[y]:=List.getElem?_eq_getElem hy
 have h2:(groupsB b.2)[x]?=some ((groupsB b.2)[x]'(by omega)):=List.getElem?_eq_getElem (by omega)
 rw [(h.gp hb h1).2,(h.gp hb h2).2]
 exact rise_at (show RiseL bl (groupsB b.2) from poolL_rise blT _) h2 h1 hxy
/-- The values of a Book in a group. -/
def inG (b:PStep)(g:ByteArray):List PKey:=b.2.filter fun v=>decide (grp v.1=g)
theorem IdxIs.row_at (h:IdxIs L l i){b:PStep}(hb:b∈L){g:ByteArray}(hg:g∈groupsB b.2):nrowsM i (tix (tabsB L) (rowsB (textsP L) (pathsP L) b.2 g))=(inG b g).length∧∀(q:Nat) (v:PKey),(inG b g)[q]?=some v→valM l i (tix (tabsB L) (rowsB (textsP L) (pathsP L) b.2 g)) q=v:=by
 have h1:=h.rows hb hg
 have h2:=congrArg List.length h1
 unfold rowsM at h1 h2
 rw [List.length_map,List.length_range] at h2
 refine ⟨h2,fun q v hv=>?_⟩
 have hq:=(List.getElem?_eq_some_iff.1 hv).1
 unfold inG at hv hq
 rw [←h1,List.getElem?_map,List.getElem?_range (by rw [h2];exact hq)] at hv
 exact Option.some.inj hv
theorem in_group {b:PStep}{v:PKey}(hv:v∈b.2):grp v.1∈groupsB b.2:=(poolL_mem _ _).2 (List.mem_map.2 ⟨v,hv,rfl⟩)
theorem in_inG {b:PStep}{v:PKey}(hv:v∈b.2):v∈inG b (grp v.1):=List.mem_filter.2 ⟨hv,by simp⟩
end
end
section
open Go.RowKit Go.Shelf

set_option maxHeartbeats 4000000 in
set_option maxRecDepth 100000 in
theorem search_any (g:Nat)(cb:Array Value)(n:Nat)(p:Nat→Bool)(w:World)(eg:∀ args w,(callFunc g args).run Tryz.prog w=.ok (.enter g args) w)(hn:n≤16777216)
  (hf:∀(W:World) (i:Nat),i<n→Below w.heap.size w W→Calls Tryz.prog g (#[.int .i64 (i:Int)]++cb) W fun e w'=>e=.returned (.bool (p i))∧Below W.heap.size W w')
  (hmono:∀ a b,a≤b→b<n→p a=true→p b=true) :
  Calls Tryz.prog 57 #[.int .i64 (n:Int),.func (.func g) #[] cb] w fun e w'=>(∃ k:Nat,e=.returned (.int .i64 (k:Int))∧k≤n∧(∀ t,t<k→p t=false)∧∀ t,k≤t→t<n→p t=true)∧Below w.heap.size w w':=by
 have HF:=Lib.hid hf
 have HM:=Lib.hid hmono
 have hn2:(n:Int)≤16777216:=by omega
 clear hf hmono
 go_enter Tryz.func57,Tryz.ntmps57
 go_wp2
 go_loopw [5,6] (fun s5 s6 wr=>∃ lo hi:Nat,s5=.int .i64 (lo:Int)∧s6=.int .i64 (hi:Int)∧lo≤hi∧hi≤n∧(∀ t,t<lo→p t=false)∧(∀ t,hi≤t→t<n→p t=true)∧Below w.heap.size w wr) (fun s5 s6 _=>(Lib.intOf s6).toNat-(Lib.intOf s5).toNat)
 case atStart=>exact ⟨0,n,rfl,rfl,Nat.zero_le _,Nat.le_refl _,fun t ht=>absurd ht (Nat.not_lt_zero _),fun t h1 h2=>absurd h1 (by omega),Below.refl _ _⟩
 case round =>
  obtain ⟨lo,hi,rfl,rfl,hlh,hin,h1,h2,hB⟩:=hrel
  have H1:=Lib.hid h1
  have H2:=Lib.hid h2
  have HB:=Lib.hid hB
  clear h1 h2 hB
  by_cases hlt:lo<hi
  ·have hq:(lo:Int)<(hi:Int):=by omega
   have hc:=HF.out wr ((lo+hi)/2) (by omega) HB.out
   rw [show (((lo+hi)/2:Nat):Int)=((lo:Int)+(hi:Int))/2 by omega] at hc
   cases hp:p ((lo+hi)/2) <;> rw [hp] at hc
   ·have HP:=Lib.hid hp
    have HC:=Lib.hid hc
    clear hp hc
    go_wp2_with (go_at_fn g;refine HC.out.mono ?_;rintro e w' ⟨rfl,hb⟩;have HB1:=Lib.hid hb;clear hb)
    go_roundw
    case rel=>exact ⟨(lo+hi)/2+1,hi,by rw [show ((lo:Int)+(hi:Int))/2+1=(((lo+hi)/2+1:Nat):Int) by omega],rfl,by omega,hin,fun t ht=>(by
      cases h:p t with
      | false=>rfl
      | true=>have:=HM.out t ((lo+hi)/2) (by omega) (by omega) h;rw [HP.out] at this;cases this),H2.out,HB.out.trans (HB1.out.mono HB.out.size)⟩
    case measure=>simp [Lib.intOf] <;> omega
   ·have HP:=Lib.hid hp
    have HC:=Lib.hid hc
    clear hp hc
    go_wp2_with (go_at_fn g;refine HC.out.mono ?_;rintro e w' ⟨rfl,hb⟩;have HB1:=Lib.hid hb;clear hb)
    go_roundw
    case rel=>exact ⟨lo,(lo+hi)/2,rfl,by rw [show ((lo:Int)+(hi:Int))/2=(((lo+hi)/2:Nat):Int) by omega],by omega,by omega,H1.out,fun t ht htn=>HM.out ((lo+hi)/2) t ht htn HP.out,HB.out.trans (HB1.out.mono HB.out.size)⟩
    case measure=>simp [Lib.intOf] <;> omega
  ·obtain rfl:hi=lo:=by omega
   have hq:¬ (hi:Int)<(hi:Int):=by omega
   go_wp2
   go_ret
   exact ⟨⟨hi,rfl,hin,H1.out,H2.out⟩,HB.out⟩
/-- A function that tells texts. -/
def Tells (g:Nat)(cb:Array Value)(n:Nat)(f:Nat→ByteArray)(w:World):Prop:=∀(W:World) (i:Nat),i<n→Below w.heap.size w W→Calls Tryz.prog g (#[.int .i64 (i:Int)]++cb) W fun e w'=>e=.returned (.string (f i))∧Below W.heap.size W w'
theorem Tells.on {g:Nat}{cb:Array Value}{n:Nat}{f:Nat→ByteArray}{w w1:World}(h:Tells g cb n f w)(hb:Below w.heap.size w w1):Tells g cb n f w1:=fun W i hi hW=>h W i hi (hb.trans (hW.mono hb.size))
set_option maxHeartbeats 4000000 in
theorem seek1_any (g:Nat)(cb:Array Value)(n ba bs:Nat)(f:Nat→ByteArray)(s:ByteArray)(W:World)(eg:∀ args w,(callFunc g args).run Tryz.prog w=.ok (.enter g args) w)(ha:W.cell? ⟨ba,0,none⟩=some (.func (.func g) #[] cb))(hs:W.cell? ⟨bs,0,none⟩=some (.string s))(hat:Tells g cb n f W)(i:Nat)(hi:i<n) :
  Calls Tryz.prog 58 #[.int .i64 (i:Int),.pointer (some ⟨ba,0,none⟩),.pointer (some ⟨bs,0,none⟩)] W fun e w'=>e=.returned (.bool (!bl (f i) s))∧Below W.heap.size W w':=by
 have hla:=World.block_lt_of_cell? _ _ ha
 have hls:=World.block_lt_of_cell? _ _ hs
 have HK:=Lib.hid (show ∀ W',Below W.heap.size W W'→W'.cell? ⟨ba,0,none⟩=some (.func (.func g) #[] cb)∧W'.cell? ⟨bs,0,none⟩=some (.string s) from fun W' hb=>⟨(hb.cell (p:=⟨ba,0,none⟩) hla).trans ha,(hb.cell (p:=⟨bs,0,none⟩) hls).trans hs⟩)
 have HC:=Lib.hid (hat W.drew i hi (Below.refl _ W).drew)
 have HD:=Lib.hid (Below.refl W.heap.size W).drew
 clear hat
 go_enter Tryz.func58,Tryz.ntmps58
 go_upto_region 1 with (fail)
 refine wp_region_M (fun W'=>W'.cell? ⟨ba,0,none⟩=some (.func (.func g) #[] cb)∧W'.cell? ⟨bs,0,none⟩=some (.string s)) 6 (by kernel_rfl) (by go_keep) (fun hHeld=>?_)
 refine wpAnyM_take (i:=0) (d:=(some 5)) (v:=?_) rfl rfl (by kernel_rfl) (by kernel_rfl) (by kernel_rfl) (by kernel_rfl) (by kernel_rfl) (fun _ _ _ h=>h) (Or.inl ⟨by rfl,?_⟩) (by assumption) ?_
 rotate_left
 ·intro w hSw
  (try dsimp only at hSw)
  go_simp
  (try with_reducible rfl)
 (try simp only [Act.put,List.setIfInBounds_toArray,List.set_cons_zero,List.set_cons_succ])
 refine wpAnyM_take (i:=1) (d:=(some 6)) (v:=?_) rfl rfl (by kernel_rfl) (by kernel_rfl) (by kernel_rfl) (by kernel_rfl) (by kernel_rfl) (fun _ _ _ h=>h) (Or.inl ⟨by rfl,?_⟩) (by assumption) ?_
 rotate_left
 ·intro w hSw
  (try dsimp only at hSw)
  go_simp
  (try with_reducible rfl)
 (try simp only [Act.put,List.setIfInBounds_toArray,List.set_cons_zero,List.set_cons_succ])
 refine wpAnyM_take (i:=3) (d:=(some 8)) (v:=?_) rfl rfl (by kernel_rfl) (by kernel_rfl) (by kernel_rfl) (by kernel_rfl) (by kernel_rfl) (fun _ _ _ h=>h) (Or.inl ⟨by rfl,?_⟩) (by assumption) ?_
 rotate_left
 ·intro w hSw
  (try dsimp only at hSw)
  go_simp
  (try with_reducible rfl)
 (try simp only [Act.put,List.setIfInBounds_toArray,List.set_cons_zero,List.set_cons_succ])
 refine wpAnyM_one (i:=2) (by kernel_rfl) ?_
 refine owe_early (i:=2) (d:=(some 7)) rfl rfl (fun K hK=>?_)
 go_simp
 refine HC.out.mono ?_
 rintro en wa ⟨rfl,hb⟩
 have HA:=Lib.hid (HD.out.trans (hb.mono HD.out.size))
 obtain ⟨q0,q1⟩:=HK.out wa HA.out
 clear hb
 refine hK.out _ _ (by go_keep) (fun hHeld=>?_)
 clear hK K
 (try simp only [Act.put,List.setIfInBounds_toArray,List.set_cons_zero,List.set_cons_succ])
 refine wpAnyM_take (i:=4) (d:=(some 9)) (v:=?_) rfl rfl (by kernel_rfl) (by kernel_rfl) (by kernel_rfl) (by kernel_rfl) (by kernel_rfl) (fun _ _ _ h=>h) (Or.inl ⟨by rfl,?_⟩) (by assumption) ?_
 rotate_left
 ·intro w hSw
  (try dsimp only at hSw)
  go_simp
  (try with_reducible rfl)
 (try simp only [Act.put,List.setIfInBounds_toArray,List.set_cons_zero,List.set_cons_succ])
 refine wpAnyM_take (i:=5) (d:=(some 4)) (v:=?_) rfl rfl (by kernel_rfl) (by kernel_rfl) (by kernel_rfl) (by kernel_rfl) (by kernel_rfl) (fun _ _ _ h=>h) (Or.inl ⟨by rfl,?_⟩) (by assumption) ?_
 rotate_left
 ·intro w hSw
  (try dsimp only at hSw)
  go_simp
  (try with_reducible rfl)
 (try simp only [Act.put,List.setIfInBounds_toArray,List.set_cons_zero,List.set_cons_succ])
 refine wpAnyM_done (by kernel_rfl) ?_ _
 (try simp only [Act.put,List.setIfInBounds_toArray,List.set_cons_zero,List.set_cons_succ])
 go_wp2
 go_ret
 exact ⟨rfl,HA.out⟩
/-- What the loader's search tells. -/
def HuntPost (f:Nat→ByteArray)(n:Nat)(s:ByteArray)(w:World)(e:Ending)(w':World):Prop:=(∃ r,e=.returned (.int .i64 r)∧HuntIs f n s r)∧Below w.heap.size w w'
set_option maxHeartbeats 8000000 in
theorem seek_any (g:Nat)(cb:Array Value)(n:Nat)(f:Nat→ByteArray)(s:ByteArray)(w:World)(eg:∀ args w,(callFunc g args).run Tryz.prog w=.ok (.enter g args) w)(hn:n≤16777216)(hat:Tells g cb n f w)(hr:RiseF f n) :
  Calls Tryz.prog 27 #[.int .i64 (n:Int),.func (.func g) #[] cb,.string s] w (HuntPost f n s w):=by
 obtain ⟨W0,hW0⟩:∃ W0,(w.alloc (.cells #[.func (.func g) #[] cb] 73)).alloc (.cells #[.string s] 9)=W0:=⟨_,rfl⟩
 have hb0:Below w.heap.size w W0:=by rw [←hW0];exact ((Below.refl _ w).alloc (Nat.le_refl _) _).alloc (by simp) _
 have b0:Blk W0 w.heap.size 73 #[.func (.func g) #[] cb]:=by rw [←hW0];exact (Blk.new w _ _).alloc _
 have b1:Blk W0 (w.heap.size+1) 9 #[.string s]:=by
  rw [←hW0]
  have h:=Blk.new (w.alloc (.cells #[.func (.func g) #[] cb] 73)) 9 #[.string s]
  simpa using h
 have HS:=Lib.hid (search_any 58 #[.pointer (some ⟨w.heap.size,0,none⟩),.pointer (some ⟨w.heap.size+1,0,none⟩)] n (fun i=>!bl (f i) s) W0 (enters_of Tryz.func58 (by kernel_rfl) rfl) hn (fun W i hi hB=>seek1_any g cb n w.heap.size (w.heap.size+1) f s W eg ((b0.below hB b0.lt).cell 0) ((b1.below hB b1.lt).cell 0) ((hat.on hb0).on hB) i hi) (hr.mono s))
 have HAT:=Lib.hid hat
 have HR:=Lib.hid hr
 have HB0:=Lib.hid hb0
 have HBL:=Lib.hid (And.intro b0 b1)
 clear hat hr hb0 b0 b1
 go_enter Tryz.func27,Tryz.ntmps27
 go_wp2_with fail
 refine HS.out.mono ?_
 rintro en w1 ⟨⟨k,rfl,hk,h1,h2⟩,hb⟩
 have H1:=Lib.hid h1
 have H2:=Lib.hid h2
 have HB1:=Lib.hid (HB0.out.trans (hb.mono HB0.out.size))
 have HBX:=Lib.hid (And.intro (HBL.out.1.below hb HBL.out.1.lt) (HBL.out.2.below hb HBL.out.2.lt))
 clear h1 h2 hb
 go_upto_region 2 with (fail)
 clear hW0 HS HBL
 by_cases hkn:k=n
 ·subst hkn
  have HN:=Lib.hid (seek_miss (k:=k) HR.out H1.out H2.out (fun h=>absurd h (Nat.lt_irrefl _)))
  have hd:decide ((k:Int)=(k:Int))=true:=by simp
  have he:((k:Int) == (k:Int))=true:=by simp
  go_quiet (fail)
  go_wp2
  go_ret
  exact ⟨⟨-1,rfl,HN.out⟩,HB1.out.trans ((below_drawsK w1 nq).mono HB1.out.size)⟩
 ·have hd:decide ((k:Int)=(n:Int))=false:=by simp;omega
  have he:((k:Int) == (n:Int))=false:=by simp;omega
  have hd2:decide (k=n)=false:=by simp;omega
  have hne:¬ (k:Int)=(n:Int):=by omega
  have hkl:k<n:=by omega
  have HC:=Lib.hid (HAT.out w1.drew k hkl (HB1.out.drew))
  have HD:=Lib.hid ((Below.refl w1.heap.size w1).drew)
  have a0:w1.cell? ⟨w.heap.size,0,none⟩=some (.func (.func g) #[] cb):=HBX.out.1.cell 0
  have a1:w1.cell? ⟨w.heap.size+1,0,none⟩=some (.string s):=HBX.out.2.cell 0
  by_cases hfs:f k=s
  ·have HE:=Lib.hid hfs
   have hbe:((f k).toList == s.toList)=true:=by rw [hfs];simp
   have hbn:((f k).toList != s.toList)=false:=by rw [hfs];simp
   refine wp_region_M (fun W'=>W'.cell? ⟨w.heap.size,0,none⟩=some (.func (.func g) #[] cb)∧W'.cell? ⟨w.heap.size+1,0,none⟩=some (.string s)) 10 (by kernel_rfl) (by go_keep) (fun hHeld=>?_)
   refine wpAnyM_take (i:=0) (d:=(some 11)) (v:=?_) rfl rfl (by kernel_rfl) (by kernel_rfl) (by kernel_rfl) (by kernel_rfl) (by kernel_rfl) (fun _ _ _ h=>h) (Or.inl ⟨by rfl,?_⟩) (by assumption) ?_
   rotate_left
   ·intro w hSw
    (try dsimp only at hSw)
    go_simp
    (try with_reducible rfl)
   (try simp only [Act.put,List.setIfInBounds_toArray,List.set_cons_zero,List.set_cons_succ])
   refine wpAnyM_take (i:=1) (d:=(some 12)) (v:=?_) rfl rfl (by kernel_rfl) (by kernel_rfl) (by kernel_rfl) (by kernel_rfl) (by kernel_rfl) (fun _ _ _ h=>h) (Or.inl ⟨by rfl,?_⟩) (by assumption) ?_
   rotate_left
   ·intro w hSw
    (try dsimp only at hSw)
    go_simp
    (try with_reducible rfl)
   (try simp only [Act.put,List.setIfInBounds_toArray,List.set_cons_zero,List.set_cons_succ])
   refine wpAnyM_take (i:=2) (d:=(some 13)) (v:=?_) rfl rfl (by kernel_rfl) (by kernel_rfl) (by kernel_rfl) (by kernel_rfl) (by kernel_rfl) (fun _ _ _ h=>h) (Or.inl ⟨by rfl,?_⟩) (by assumption) ?_
   rotate_left
   ·intro w hSw
    (try dsimp only at hSw)
    go_simp
    (try with_reducible rfl)
   (try simp only [Act.put,List.setIfInBounds_toArray,List.set_cons_zero,List.set_cons_succ])
   refine wpAnyM_take (i:=3) (d:=(some 14)) (v:=?_) rfl rfl (by kernel_rfl) (by kernel_rfl) (by kernel_rfl) (by kernel_rfl) (by kernel_rfl) (fun _ _ _ h=>h) (Or.inl ⟨by rfl,?_⟩) (by assumption) ?_
   rotate_left
   ·intro w hSw
    (try dsimp only at hSw)
    go_simp
    (try with_reducible rfl)
   (try simp only [Act.put,List.setIfInBounds_toArray,List.set_cons_zero,List.set_cons_succ])
   refine wpAnyM_take (i:=4) (d:=(some 15)) (v:=?_) rfl rfl (by kernel_rfl) (by kernel_rfl) (by kernel_rfl) (by kernel_rfl) (by kernel_rfl) (fun _ _ _ h=>h) (Or.inl ⟨by rfl,?_⟩) (by assumption) ?_
   rotate_left
   ·intro w hSw
    (try dsimp only at hSw)
    go_simp
    (try with_reducible rfl)
   (try simp only [Act.put,List.setIfInBounds_toArray,List.set_cons_zero,List.set_cons_succ])
   refine wpAnyM_take (i:=5) (d:=(some 16)) (v:=?_) rfl rfl (by kernel_rfl) (by kernel_rfl) (by kernel_rfl) (by kernel_rfl) (by kernel_rfl) (fun _ _ _ h=>h) (Or.inl ⟨by rfl,?_⟩) (by assumption) ?_
   rotate_left
   ·intro w hSw
    (try dsimp only at hSw)
    go_simp
    (try with_reducible rfl)
   (try simp only [Act.put,List.setIfInBounds_toArray,List.set_cons_zero,List.set_cons_succ])
   refine wpAnyM_take (i:=7) (d:=(some 18)) (v:=?_) rfl rfl (by kernel_rfl) (by kernel_rfl) (by kernel_rfl) (by kernel_rfl) (by kernel_rfl) (fun _ _ _ h=>h) (Or.inl ⟨by rfl,?_⟩) (by assumption) ?_
   rotate_left
   ·intro w hSw
    (try dsimp only at hSw)
    go_simp
    (try with_reducible rfl)
   (try simp only [Act.put,List.setIfInBounds_toArray,List.set_cons_zero,List.set_cons_succ])
   refine wpAnyM_one (i:=6) (by kernel_rfl) ?_
   refine owe_early (i:=6) (d:=(some 17)) rfl rfl (fun K hK=>?_)
   go_simp
   refine HC.out.mono ?_
   rintro en wa ⟨rfl,hb⟩
   have HA:=Lib.hid (HD.out.trans (hb.mono HD.out.size))
   have q0:wa.cell? ⟨w.heap.size,0,none⟩=some (.func (.func g) #[] cb):=(HBX.out.1.below HA.out HBX.out.1.lt).cell 0
   have q1:wa.cell? ⟨w.heap.size+1,0,none⟩=some (.string s):=(HBX.out.2.below HA.out HBX.out.2.lt).cell 0
   clear hb
   refine hK.out _ _ (by go_keep) (fun hHeld=>?_)
   clear hK K
   (try simp only [Act.put,List.setIfInBounds_toArray,List.set_cons_zero,List.set_cons_succ])
   refine wpAnyM_take (i:=8) (d:=(some 19)) (v:=?_) rfl rfl (by kernel_rfl) (by kernel_rfl) (by kernel_rfl) (by kernel_rfl) (by kernel_rfl) (fun _ _ _ h=>h) (Or.inl ⟨by rfl,?_⟩) (by assumption) ?_
   rotate_left
   ·intro w hSw
    (try dsimp only at hSw)
    go_simp
    (try with_reducible rfl)
   (try simp only [Act.put,List.setIfInBounds_toArray,List.set_cons_zero,List.set_cons_succ])
   refine wpAnyM_take (i:=9) (d:=(some 20)) (v:=?_) rfl rfl (by kernel_rfl) (by kernel_rfl) (by kernel_rfl) (by kernel_rfl) (by kernel_rfl) (fun _ _ _ h=>h) (Or.inl ⟨by rfl,?_⟩) (by assumption) ?_
   rotate_left
   ·intro w hSw
    (try dsimp only at hSw)
    go_simp
    (try with_reducible rfl)
   (try simp only [Act.put,List.setIfInBounds_toArray,List.set_cons_zero,List.set_cons_succ])
   refine wpAnyM_done (by kernel_rfl) ?_ _
   (try simp only [Act.put,List.setIfInBounds_toArray,List.set_cons_zero,List.set_cons_succ])
   go_wp2
   go_ret
   exact ⟨⟨k,rfl,seek_hit hkl HE.out⟩,HB1.out.trans (HA.out.mono HB1.out.size)⟩
  ·have HE:=Lib.hid hfs
   have hbe:((f k).toList == s.toList)=false:=by rw [ba_beq];simpa using hfs
   have hbn:((f k).toList != s.toList)=true:=by simp only [bne,hbe];rfl
   refine wp_region_M (fun W'=>W'.cell? ⟨w.heap.size,0,none⟩=some (.func (.func g) #[] cb)∧W'.cell? ⟨w.heap.size+1,0,none⟩=some (.string s)) 10 (by kernel_rfl) (by go_keep) (fun hHeld=>?_)
   refine wpAnyM_take (i:=0) (d:=(some 11)) (v:=?_) rfl rfl (by kernel_rfl) (by kernel_rfl) (by kernel_rfl) (by kernel_rfl) (by kernel_rfl) (fun _ _ _ h=>h) (Or.inl ⟨by rfl,?_⟩) (by assumption) ?_
   rotate_left
   ·intro w hSw
    (try dsimp only at hSw)
    go_simp
    (try with_reducible rfl)
   (try simp only [Act.put,List.setIfInBounds_toArray,List.set_cons_zero,List.set_cons_succ])
   refine wpAnyM_take (i:=1) (d:=(some 12)) (v:=?_) rfl rfl (by kernel_rfl) (by kernel_rfl) (by kernel_rfl) (by kernel_rfl) (by kernel_rfl) (fun _ _ _ h=>h) (Or.inl ⟨by rfl,?_⟩) (by assumption) ?_
   rotate_left
   ·intro w hSw
    (try dsimp only at hSw)
    go_simp
    (try with_reducible rfl)
   (try simp only [Act.put,List.setIfInBounds_toArray,List.set_cons_zero,List.set_cons_succ])
   refine wpAnyM_take (i:=2) (d:=(some 13)) (v:=?_) rfl rfl (by kernel_rfl) (by kernel_rfl) (by kernel_rfl) (by kernel_rfl) (by kernel_rfl) (fun _ _ _ h=>h) (Or.inl ⟨by rfl,?_⟩) (by assumption) ?_
   rotate_left
   ·intro w hSw
    (try dsimp only at hSw)
    go_simp
    (try with_reducible rfl)
   (try simp only [Act.put,List.setIfInBounds_toArray,List.set_cons_zero,List.set_cons_succ])
   refine wpAnyM_take (i:=3) (d:=(some 14)) (v:=?_) rfl rfl (by kernel_rfl) (by kernel_rfl) (by kernel_rfl) (by kernel_rfl) (by kernel_rfl) (fun _ _ _ h=>h) (Or.inl ⟨by rfl,?_⟩) (by assumption) ?_
   rotate_left
   ·intro w hSw
    (try dsimp only at hSw)
    go_simp
    (try with_reducible rfl)
   (try simp only [Act.put,List.setIfInBounds_toArray,List.set_cons_zero,List.set_cons_succ])
   refine wpAnyM_take (i:=4) (d:=(some 15)) (v:=?_) rfl rfl (by kernel_rfl) (by kernel_rfl) (by kernel_rfl) (by kernel_rfl) (by kernel_rfl) (fun _ _ _ h=>h) (Or.inl ⟨by rfl,?_⟩) (by assumption) ?_
   rotate_left
   ·intro w hSw
    (try dsimp only at hSw)
    go_simp
    (try with_reducible rfl)
   (try simp only [Act.put,List.setIfInBounds_toArray,List.set_cons_zero,List.set_cons_succ])
   refine wpAnyM_take (i:=5) (d:=(some 16)) (v:=?_) rfl rfl (by kernel_rfl) (by kernel_rfl) (by kernel_rfl) (by kernel_rfl) (by kernel_rfl) (fun _ _ _ h=>h) (Or.inl ⟨by rfl,?_⟩) (by assumption) ?_
   rotate_left
   ·intro w hSw
    (try dsimp only at hSw)
    go_simp
    (try with_reducible rfl)
   (try simp only [Act.put,List.setIfInBounds_toArray,List.set_cons_zero,List.set_cons_succ])
   refine wpAnyM_take (i:=7) (d:=(some 18)) (v:=?_) rfl rfl (by kernel_rfl) (by kernel_rfl) (by kernel_rfl) (by kernel_rfl) (by kernel_rfl) (fun _ _ _ h=>h) (Or.inl ⟨by rfl,?_⟩) (by assumption) ?_
   rotate_left
   ·intro w hSw
    (try dsimp only at hSw)
    go_simp
    (try with_reducible rfl)
   (try simp only [Act.put,List.setIfInBounds_toArray,List.set_cons_zero,List.set_cons_succ])
   refine wpAnyM_one (i:=6) (by kernel_rfl) ?_
   refine owe_early (i:=6) (d:=(some 17)) rfl rfl (fun K hK=>?_)
   go_simp
   refine HC.out.mono ?_
   rintro en wa ⟨rfl,hb⟩
   have HA:=Lib.hid (HD.out.trans (hb.mono HD.out.size))
   have q0:wa.cell? ⟨w.heap.size,0,none⟩=some (.func (.func g) #[] cb):=(HBX.out.1.below HA.out HBX.out.1.lt).cell 0
   have q1:wa.cell? ⟨w.heap.size+1,0,none⟩=some (.string s):=(HBX.out.2.below HA.out HBX.out.2.lt).cell 0
   clear hb
   refine hK.out _ _ (by go_keep) (fun hHeld=>?_)
   clear hK K
   (try simp only [Act.put,List.setIfInBounds_toArray,List.set_cons_zero,List.set_cons_succ])
   refine wpAnyM_take (i:=8) (d:=(some 19)) (v:=?_) rfl rfl (by kernel_rfl) (by kernel_rfl) (by kernel_rfl) (by kernel_rfl) (by kernel_rfl) (fun _ _ _ h=>h) (Or.inl ⟨by rfl,?_⟩) (by assumption) ?_
   rotate_left
   ·intro w hSw
    (try dsimp only at hSw)
    go_simp
    (try with_reducible rfl)
   (try simp only [Act.put,List.setIfInBounds_toArray,List.set_cons_zero,List.set_cons_succ])
   refine wpAnyM_take (i:=9) (d:=(some 20)) (v:=?_) rfl rfl (by kernel_rfl) (by kernel_rfl) (by kernel_rfl) (by kernel_rfl) (by kernel_rfl) (fun _ _ _ h=>h) (Or.inl ⟨by rfl,?_⟩) (by assumption) ?_
   rotate_left
   ·intro w hSw
    (try dsimp only at hSw)
    go_simp
    (try with_reducible rfl)
   (try simp only [Act.put,List.setIfInBounds_toArray,List.set_cons_zero,List.set_cons_succ])
   refine wpAnyM_done (by kernel_rfl) ?_ _
   (try simp only [Act.put,List.setIfInBounds_toArray,List.set_cons_zero,List.set_cons_succ])
   go_wp2
   go_ret
   exact ⟨⟨-1,rfl,seek_miss (k:=k) HR.out H1.out H2.out (fun _=>HE.out)⟩,HB1.out.trans (HA.out.mono HB1.out.size)⟩
end
end Go.Proofs.YthdldooilcbmlaaGreatDoor
