/-
  Texts of mine, joined: LoadNil. The conditions stand with each.
-/
import Derived.Test.YthdldooilcbmlaaGreatDoorK18
import Derived.Shelf.Abstract
set_option linter.unusedVariables false
set_option linter.unusedSimpArgs false
namespace Go.Proofs.YthdldooilcbmlaaGreatDoor
section
open Go.RowKit Go.Shelf

attribute [local go_sem] Oper.semAt_some
theorem direct_nil (n p:ByteArray)(w:World):Calls Tryz.prog 9 #[.pointer none,.string n,.string p] w fun e w'=>e=.returned (.tuple #[.string ByteArray.empty,.bool false])∧Below w.heap.size w w':=by
 go_enter Tryz.func9,Tryz.ntmps9
 go_wp2
 go_ret2
 exact ⟨rfl,(Below.refl _ w).alloc (Nat.le_refl _) _⟩
theorem locales_nil (w:World):Calls Tryz.prog 11 #[.pointer none] w fun e w'=>e=.returned (.slice none 0 0)∧Below w.heap.size w w':=by
 go_enter Tryz.func11,Tryz.ntmps11
 go_wp2
 go_ret
 exact ⟨rfl,Below.refl _ w⟩
theorem has_nil (n:ByteArray)(w:World):Calls Tryz.prog 12 #[.pointer none,.string n] w fun e w'=>e=.returned (.bool false)∧Below w.heap.size w w':=by
 go_enter Tryz.func12,Tryz.ntmps12
 go_wp2
 go_ret
 exact ⟨rfl,(Below.refl _ w).alloc (Nat.le_refl _) _⟩
theorem probes_nil (n p:ByteArray)(w:World):Calls Tryz.prog 14 #[.pointer none,.string n,.string p] w fun e w'=>e=.returned (.int .i64 0)∧Below w.heap.size w w':=by
 go_enter Tryz.func14,Tryz.ntmps14
 go_wp2
 go_ret
 exact ⟨rfl,Below.refl _ w⟩
theorem lbundle_nil (w:World):Calls Tryz.prog 17 #[.pointer none] w (LBunPost [] w):=by
 have B:=Blk.new w 24 #[.slice none 0 0]
 have HF:=Lib.hid (B.set_ 0 (.slice none 0 0))
 have HB:=Lib.hid ((Below.refl w.heap.size w).alloc (Nat.le_refl _) (.cells #[.slice none 0 0] 24))
 clear B
 go_enter Tryz.func17,Tryz.ntmps17
 go_wp2
 (try simp only [Exit.inBlock,Exit.then])
 first
  | exact bodyPost_ret (lbundle_result (Blk.new w _ _) rfl) rfl ⟨none,0,[],rfl,BunOwn.nil _ _,HB.out⟩
  | exact bodyPost_ret (lbundle_result HF.out rfl) rfl ⟨none,0,[],rfl,BunOwn.nil _ _,HB.out.setCell (p:=⟨w.heap.size,0,none⟩) (Nat.le_refl _) _⟩
set_option maxHeartbeats 8000000 in
set_option maxRecDepth 100000 in
theorem lvalue_nil (n p:ByteArray)(w:World)(hp:p.size≤140737488355328) :
  Calls Tryz.prog 15 #[.pointer none,.string n,.string p] w fun e w'=>e=.returned (.tuple #[.string ByteArray.empty,.bool false])∧Below w.heap.size w w':=by
 by_cases hn:n=ByteArray.empty
 ·have he:(n.toList == [])=true:=by rw [hn];simp
  clear hn
  go_enter Tryz.func15,Tryz.ntmps15
  go_wp2
  go_step3
  go_wp2_with fail
  refine (direct_nil n p w).mono ?_
  rintro en w1 ⟨rfl,hb⟩
  have HB:=Lib.hid hb
  clear hb
  go_wp2
  simp only [Exit.noGoto_ret]
  go_ret2
  exact ⟨rfl,HB.out⟩
 ·have he:(n.toList == [])=false:=by
   rw [show ([]:List UInt8)=ByteArray.empty.toList from by kernel_rfl,ba_beq]
   simpa using hn
  have HSF:=Lib.hid (sideM_few p)
  have HSD:=Lib.hid (sideways_any p w hp)
  obtain ⟨qs,hqs⟩:∃ qs,sideM p=qs:=⟨_,rfl⟩
  rw [hqs] at HSF
  have HQS:=Lib.hid hqs
  clear hn hqs
  go_enter Tryz.func15,Tryz.ntmps15
  go_wp2
  go_step3
  go_wp2_with fail
  go_step3
  go_wp2_with fail
  refine HSD.out.mono ?_
  rintro en w1 ⟨⟨A,c,rfl,ho⟩,hb⟩
  rw [HQS.out] at ho ⊢
  obtain ⟨nq,hnq⟩:∃ nq,qs.length=nq:=⟨_,rfl⟩
  rw [hnq] at ho ⊢
  have HO:=Lib.hid ho
  have HB:=Lib.hid hb
  have HNQ:=Lib.hid hnq
  have hq4:(nq:Int)≤4:=by have:=HSF.out.1;omega
  clear ho hb hnq
  go_wp2
  go_loopw [8,9,23] (fun tv ov iv W=>∃ j:Nat,tv=.string ByteArray.empty∧ov=.bool false∧iv=.int .i64 (j:Int)∧j≤nq∧Below w1.heap.size w1 W) (fun _ _ iv _=>nq-(Lib.intOf iv).toNat)
  case atStart=>exact ⟨0,rfl,rfl,rfl,Nat.zero_le _,Below.refl _ _⟩
  case round =>
   obtain ⟨j,rfl,rfl,rfl,hj,hb⟩:=hrel
   have HBW:=Lib.hid hb
   clear hb
   by_cases hlt:j<nq
   ·have hq1:(j:Int)<(nq:Int):=by omega
    have hq0:(0:Int)≤(j:Int):=by omega
    obtain ⟨q,hq⟩:∃ q,qs[j]?=some q:=⟨_,List.getElem?_eq_getElem (by rw [HNQ.out];exact hlt)⟩
    obtain ⟨bq,rfl,hbq1,hbq2⟩:=own_spot HO.out (show 0<nq by omega)
    have z0:wr.cell? ⟨bq,j,none⟩=some (.string q):=(HBW.out.cell (p:=⟨bq,j,none⟩) hbq2).trans (own_cell HO.out j _ (by unfold strsV;rw [List.getElem?_map,hq];rfl))
    clear hq
    go_upto_region 8 with (fail)
    go_wp2_with fail
    refine (direct_nil n q wr).mono ?_
    rintro en w3 ⟨rfl,hb⟩
    have HB3:=Lib.hid (HBW.out.trans (hb.mono HBW.out.size))
    clear hb z0
    go_wp2
    go_roundw
    case rel=>exact ⟨j+1,rfl,rfl,by go_num,hlt,HB3.out⟩
    case measure=>simp [Lib.intOf] <;> omega
   ·obtain rfl:nq=j:=by omega
    have hq:¬ (nq:Int)<(nq:Int):=by omega
    go_wp2
    (try simp only [Exit.noGoto_ret])
    go_ret2
    exact ⟨rfl,HB.out.trans (HBW.out.mono HB.out.size)⟩
end
end Go.Proofs.YthdldooilcbmlaaGreatDoor
