/-
  Texts of mine, joined: PathParse. The conditions stand with each.
-/
import GoSem.Core.Utf8
import Derived.Laws.RangeAny
import Derived.Test.YthdldooilcbmlaaGreatDoorProg
import Derived.Test.YthdldooilcbmlaaGreatDoorK01
import Derived.Outline
import Derived.Lib.Hide
import Derived.Laws.BitsAllLaws
import Derived.Laws.RangeString
import Derived.Lib.Strings
import Derived.Lib.Walk
import Derived.Lib.Bytealg
import Derived.Deep.QuietTactic
import Derived.BigQuiet
import Derived.Lib.OthersKept
import Derived.Lib.RuneCountTail
import Derived.Lib.AppendStr
import Derived.Laws.Runes
import Derived.Deep.CutBlock
import Derived.Laws.Cover4
import Derived.ScopeJumps
import Derived.WalkMore
import Derived.Laws.ResultCell
import Derived.Laws.Cover1
import Derived.Deep.RegionWith
import Derived.Lib.AppendZeros
set_option linter.unusedVariables false
set_option linter.unusedSimpArgs false
namespace Go.Proofs.YthdldooilcbmlaaGreatDoor
section

def letterB (b:UInt8):Bool:=(97≤b && b≤122) || (65≤b && b≤90)
def digitB (b:UInt8):Bool:=48≤b && b≤57
def startB (b:UInt8):Bool:=letterB b || b == 95
def nameB (b:UInt8):Bool:=startB b || digitB b || b == 45 || b == 46
theorem letter_or (b:UInt8):letterB b=(decide (97≤((b ||| 32).toNat:Int)) && decide (((b ||| 32).toNat:Int)≤122)):=by
 have h:∀ n:Fin 256,letterB (UInt8.ofNat n.val)=(decide (97≤(((UInt8.ofNat n.val) ||| 32).toNat:Int)) && decide ((((UInt8.ofNat n.val) ||| 32).toNat:Int)≤122)):=by decide +kernel
 have:=h ⟨b.toNat,b.toNat_lt⟩
 simpa using this
theorem digit_dec (b:UInt8):digitB b=(decide (48≤(b.toNat:Int)) && decide ((b.toNat:Int)≤57)):=by
 have h:∀ n:Fin 256,digitB (UInt8.ofNat n.val)=(decide (48≤((UInt8.ofNat n.val).toNat:Int)) && decide (((UInt8.ofNat n.val).toNat:Int)≤57)):=by decide +kernel
 have:=h ⟨b.toNat,b.toNat_lt⟩
 simpa using this
theorem beq_dec (b c:UInt8):(b == c)=((b.toNat:Int) == (c.toNat:Int)):=by
 by_cases h:b=c
 ·subst h
  simp
 ·have h2:(b.toNat:Int)≠(c.toNat:Int):=fun e=>h (UInt8.toNat_inj.1 (by omega))
  rw [beq_eq_false_iff_ne.2 h,beq_eq_false_iff_ne.2 h2]
end
section
open Go.RowKit

set_option maxHeartbeats 400000 in
theorem letter_any (b:UInt8)(w:World):Calls Tryz.prog 177 #[.int .u8 (b.toNat:Int)] w fun e w'=>e=.returned (.bool (letterB b))∧w=w':=by
 have hor:bits .or .u8 (b.toNat:Int) 32=((b ||| 32).toNat:Int):=by
  rw [show (32:Int)=((32:Nat):Int) from rfl,u8_or_nat _ _ b.toNat_lt (by omega),UInt8.toNat_or]
  rfl
 have HL:=Lib.hid (letter_or b)
 generalize (b ||| 32).toNat=x at *
 generalize letterB b=y at *
 by_cases h1:97≤(x:Int)
 ·by_cases h2:(x:Int)≤122
  ·go_enter Tryz.func177,Tryz.ntmps177
   go_wp2
   go_ret
   exact ⟨by rw [HL.out];simp [h1,h2],rfl⟩
  ·go_enter Tryz.func177,Tryz.ntmps177
   go_wp2
   go_ret
   exact ⟨by rw [HL.out];simp [h1,h2],rfl⟩
 ·go_enter Tryz.func177,Tryz.ntmps177
  go_wp2
  go_ret
  exact ⟨by rw [HL.out];simp;omega,rfl⟩
set_option maxHeartbeats 400000 in
theorem digit_any (b:UInt8)(w:World):Calls Tryz.prog 178 #[.int .u8 (b.toNat:Int)] w fun e w'=>e=.returned (.bool (digitB b))∧w=w':=by
 have HL:=Lib.hid (digit_dec b)
 generalize b.toNat=x at *
 generalize digitB b=y at *
 by_cases h1:48≤(x:Int)
 ·by_cases h2:(x:Int)≤57
  ·go_enter Tryz.func178,Tryz.ntmps178
   go_wp2
   go_ret
   exact ⟨by rw [HL.out];simp [h1,h2],rfl⟩
  ·go_enter Tryz.func178,Tryz.ntmps178
   go_wp2
   go_ret
   exact ⟨by rw [HL.out];simp [h1,h2],rfl⟩
 ·go_enter Tryz.func178,Tryz.ntmps178
  go_wp2
  go_ret
  exact ⟨by rw [HL.out];simp;omega,rfl⟩
set_option maxHeartbeats 400000 in
theorem start_any (b:UInt8)(w:World):Calls Tryz.prog 150 #[.int .u8 (b.toNat:Int)] w fun e w'=>e=.returned (.bool (startB b))∧w=w':=by
 have hs:startB b=(letterB b || ((b.toNat:Int) == 95)):=by unfold startB;rw [beq_dec];rfl
 have HS:=Lib.hid hs
 clear hs
 generalize hl:letterB b=l at *
 have HC:=Lib.hid (letter_any b w)
 rw [hl] at HC
 clear hl
 generalize startB b=y at *
 generalize b.toNat=x at *
 cases l
 ·go_enter Tryz.func150,Tryz.ntmps150
  go_wp2_with (go_at_call 177;refine HC.out.mono ?_;rintro e w' ⟨rfl,rfl⟩)
  go_ret
  exact ⟨by rw [HS.out];simp,rfl⟩
 ·go_enter Tryz.func150,Tryz.ntmps150
  go_wp2_with (go_at_call 177;refine HC.out.mono ?_;rintro e w' ⟨rfl,rfl⟩)
  go_ret
  exact ⟨by rw [HS.out];simp,rfl⟩
set_option maxHeartbeats 400000 in
theorem nbyte_any (b:UInt8)(w:World):Calls Tryz.prog 151 #[.int .u8 (b.toNat:Int)] w fun e w'=>e=.returned (.bool (nameB b))∧w=w':=by
 have hs:nameB b=(startB b || digitB b || ((b.toNat:Int) == 45) || ((b.toNat:Int) == 46)):=by unfold nameB;rw [beq_dec,beq_dec];rfl
 have HS:=Lib.hid hs
 clear hs
 generalize hl:startB b=l at *
 have HC:=Lib.hid (start_any b w)
 rw [hl] at HC
 clear hl
 generalize hd:digitB b=d at *
 have HD:=Lib.hid (digit_any b w)
 rw [hd] at HD
 clear hd
 generalize nameB b=y at *
 generalize b.toNat=x at *
 have h45:((x:Int) == 45)=true∨((x:Int) == 45)=false:=by cases ((x:Int) == 45) <;> simp
 have h46:((x:Int) == 46)=true∨((x:Int) == 46)=false:=by cases ((x:Int) == 46) <;> simp
 cases l
 ·cases d
  ·rcases h45 with h45 | h45
   ·go_enter Tryz.func151,Tryz.ntmps151
    go_wp2_with (first | (go_at_call 150;refine HC.out.mono ?_;rintro e w' ⟨rfl,rfl⟩) | (go_at_call 178;refine HD.out.mono ?_;rintro e w' ⟨rfl,rfl⟩))
    go_ret
    exact ⟨by rw [HS.out,h45];simp,rfl⟩
   ·rcases h46 with h46 | h46
    ·go_enter Tryz.func151,Tryz.ntmps151
     go_wp2_with (first | (go_at_call 150;refine HC.out.mono ?_;rintro e w' ⟨rfl,rfl⟩) | (go_at_call 178;refine HD.out.mono ?_;rintro e w' ⟨rfl,rfl⟩))
     go_ret
     exact ⟨by rw [HS.out,h46];simp,rfl⟩
    ·go_enter Tryz.func151,Tryz.ntmps151
     go_wp2_with (first | (go_at_call 150;refine HC.out.mono ?_;rintro e w' ⟨rfl,rfl⟩) | (go_at_call 178;refine HD.out.mono ?_;rintro e w' ⟨rfl,rfl⟩))
     go_ret
     exact ⟨by rw [HS.out,h45,h46];rfl,rfl⟩
  ·go_enter Tryz.func151,Tryz.ntmps151
   go_wp2_with (first | (go_at_call 150;refine HC.out.mono ?_;rintro e w' ⟨rfl,rfl⟩) | (go_at_call 178;refine HD.out.mono ?_;rintro e w' ⟨rfl,rfl⟩))
   go_ret
   exact ⟨by rw [HS.out];simp,rfl⟩
 ·go_enter Tryz.func151,Tryz.ntmps151
  go_wp2_with (first | (go_at_call 150;refine HC.out.mono ?_;rintro e w' ⟨rfl,rfl⟩) | (go_at_call 178;refine HD.out.mono ?_;rintro e w' ⟨rfl,rfl⟩))
  go_ret
  exact ⟨by rw [HS.out];simp,rfl⟩
end
section
open Go.RowKit

/-- The first broken byte from p on. -/
def brokenF:Nat→ByteArray→Nat→Option Nat
 | 0,_,_=>none
 | k+1,s,p=>if p<s.size then (if Utf8.decode s p=(65533,1) then some p else brokenF k s (p+(Utf8.decode s p).2)) else none
def broken (s:ByteArray):Option Nat:=brokenF s.size s 0
theorem decode_pos (s:ByteArray)(p:Nat):1≤(Utf8.decode s p).2:=by
 simp only [Utf8.decode]
 repeat' split
 all_goals simp
theorem brokenF_fuel:∀(k:Nat) (s:ByteArray) (p j:Nat),s.size≤p+k→k≤j→brokenF j s p=brokenF k s p
 | 0,s,p,j,h,_=>by
  cases j with
  | zero=>rfl
  | succ j=>simp only [brokenF];rw [if_neg (by omega)]
 | k+1,s,p,0,_,h=>by omega
 | k+1,s,p,j+1,h,hj=>by
  simp only [brokenF]
  have:=decode_pos s p
  rw [brokenF_fuel k s (p+(Utf8.decode s p).2) j (by omega) (by omega)]
/-- What is broken from p on, with fuel enough. -/
def brokenAt (s:ByteArray)(p:Nat):Option Nat:=brokenF (s.size-p) s p
theorem brokenAt_step {s:ByteArray}{p:Nat}(h:p<s.size):brokenAt s p=if Utf8.decode s p=(65533,1) then some p else brokenAt s (p+(Utf8.decode s p).2):=by
 unfold brokenAt
 have:=decode_pos s p
 rw [show s.size-p=(s.size-p-1)+1 by omega]
 simp only [brokenF]
 rw [if_pos h]
 by_cases hb:Utf8.decode s p=(65533,1)
 ·rw [if_pos hb,if_pos hb]
 ·rw [if_neg hb,if_neg hb,brokenF_fuel (s.size-(p+(Utf8.decode s p).2)) s _ _ (by omega) (by omega)]
theorem brokenAt_end {s:ByteArray}{p:Nat}(h:¬ p<s.size):brokenAt s p=none:=by
 unfold brokenAt
 rw [show s.size-p=0 by omega]
 rfl
/-- The Spot that is told. -/
def spotV (e a:Int):Value:=.agg #[.int .i64 e,.int .i64 a]
def checkV (s:ByteArray):Value:=match broken s with | some p=>spotV 6 p | none=>spotV 0 0

/-- Where the loop is. -/
def Ck (s:ByteArray)(last:Nat)(flag:Bool)(pos:Nat):Prop :=
 pos≤s.size∧last≤pos∧((flag=false∧broken s=brokenAt s pos)∨(flag=true∧last<pos∧(Utf8.decode s last).1=65533∧pos=last+(Utf8.decode s last).2∧broken s=brokenAt s last))

theorem ck_start (s:ByteArray):Ck s 0 false 0:=⟨Nat.zero_le _,Nat.le_refl _,.inl ⟨rfl,rfl⟩⟩
theorem decode_in {s:ByteArray}{p:Nat}(h:p<s.size):p+(Utf8.decode s p).2≤s.size:=by
 simp only [Utf8.decode]
 repeat' split
 all_goals simp_all
 all_goals omega
/-- One piece on. -/
theorem ck_next {s:ByteArray}{l p:Nat}{f:Bool}(h:Ck s l f p)(hp:p<s.size)(hf:f=false∨¬ p-l=1):Ck s p (((Utf8.decode s p).1:Int) == 65533) (p+(Utf8.decode s p).2):=by
 obtain ⟨h1,h2,h3⟩:=h
 have hpos:=decode_pos s p
 have hb:broken s=brokenAt s p:=by
  rcases h3 with ⟨_,hb⟩ | ⟨hft,hl,hr,hpn,hb⟩
  ·exact hb
  ·rw [hb,brokenAt_step (by omega),if_neg,←hpn]
   intro e
   rcases hf with hf | hf
   ·rw [hf] at hft;cases hft
   ·rw [e] at hpn;simp at hpn;omega
 refine ⟨decode_in hp,by omega,?_⟩
 by_cases hr:(Utf8.decode s p).1=65533
 ·refine .inr ⟨by rw [hr];rfl,by omega,hr,rfl,hb⟩
 ·refine .inl ⟨by rw [beq_eq_false_iff_ne];omega,?_⟩
  rw [hb,brokenAt_step hp,if_neg]
  intro e
  exact hr (by rw [e])
theorem ck_bad {s:ByteArray}{l p:Nat}(h:Ck s l true p)(hl:p-l=1):checkV s=spotV 6 l:=by
 obtain ⟨h1,h2,h3⟩:=h
 rcases h3 with ⟨hf,_⟩ | ⟨_,hlt,hr,hpn,hb⟩
 ·cases hf
 ·unfold checkV
  rw [hb,brokenAt_step (by omega),if_pos (by
   apply Prod.ext
   ·exact hr
   ·show (Utf8.decode s l).2=1
    omega)]
theorem ck_good {s:ByteArray}{l p:Nat}{f:Bool}(h:Ck s l f p)(hp:¬ p<s.size)(hf:f=false∨¬ s.size-l=1):checkV s=spotV 0 0:=by
 obtain ⟨h1,h2,h3⟩:=h
 obtain rfl:p=s.size:=by omega
 unfold checkV
 rcases h3 with ⟨_,hb⟩ | ⟨hft,hl,hr,hpn,hb⟩
 ·rw [hb,brokenAt_end (by omega)]
 ·rw [hb,brokenAt_step (by omega),if_neg,brokenAt_end (by omega)]
  intro e
  rcases hf with hf | hf
  ·rw [hf] at hft;cases hft
  ·rw [e] at hpn;simp at hpn;omega

theorem below2 (w:World)(o1 o2:Obj):Below w.heap.size w ((w.alloc o1).alloc o2):=((Below.refl _ _).alloc (Nat.le_refl _) _).alloc (by simp only [World.size_alloc];omega) _
set_option maxHeartbeats 2000000 in
theorem check_any (s:ByteArray)(w:World)(hs:s.size≤140737488355328) :
  Calls Tryz.prog 75 #[.string s] w fun e w'=>e=.returned (checkV s)∧Below w.heap.size w w':=by
 go_enter Tryz.func75,Tryz.ntmps75
 go_wp2
 go_loopw [3,4,5,6] (fun lv fv _ _ wr=>∃(l:Nat) (f:Bool) (p:Nat),Ck s l f p∧lv=.int .i64 l∧fv=.bool f∧(w.alloc (.cells #[.int .i64 0,.int .i64 0] 116)).iter s p=wr) (fun _ _ _ _ wr=>s.size-wr.iterPos (w.heap.size+1))
 case atStart=>exact ⟨0,false,0,ck_start s,rfl,rfl,rfl⟩
 case round =>
  obtain ⟨l,f,p,hck,rfl,rfl,rfl⟩:=hrel
  have hp1:=hck.1
  have hp2:=hck.2.1
  have hbel:∀ q,Below w.heap.size w ((w.alloc (.cells #[.int .i64 0,.int .i64 0] 116)).iter s q):=fun q=>below2 w _ _
  have HB:=Lib.hid hbel
  clear hbel
  by_cases hp:p<s.size
  ·have hnx:=fun ty=>run_next_any (P:=Tryz.prog) (w.alloc (.cells #[.int .i64 0,.int .i64 0] 116)) s p ty hp
   simp only [World.size_alloc] at hnx
   have hn1:=decode_pos s p
   have hn2:=decode_in hp
   have HN:=Lib.hid (fun hf=>ck_next hck hp hf)
   have hr:=decode_le s p
   generalize Utf8.decode s p=d at *
   obtain ⟨r,n⟩:=d
   simp only at hnx hn1 hn2 hr
   have hmeas:s.size-(((w.alloc (.cells #[.int .i64 0,.int .i64 0] 116)).iter s (p+n)).iterPos (w.heap.size+1))<s.size-(((w.alloc (.cells #[.int .i64 0,.int .i64 0] 116)).iter s p).iterPos (w.heap.size+1)):=by
    have e:=fun q=>World.iterPos_iter (w.alloc (.cells #[.int .i64 0,.int .i64 0] 116)) s q
    simp only [World.size_alloc] at e
    rw [e,e]
    omega
   have HM:=Lib.hid hmeas
   clear hmeas
   cases f
   ·go_wp2
    go_roundw
    case rel=>exact ⟨p,_,p+n,HN.out (.inl rfl),rfl,rfl,rfl⟩
    case measure=>exact HM.out
   ·by_cases h1:p-l=1
    ·have c0:((w.alloc (.cells #[.int .i64 0,.int .i64 0] 116)).iter s (p+n)).cell? ⟨w.heap.size,0,none⟩=some (.int .i64 0):=((Blk.new w _ _).alloc _).cell 0
     have c1:((w.alloc (.cells #[.int .i64 0,.int .i64 0] 116)).iter s (p+n)).cell? ⟨w.heap.size,1,none⟩=some (.int .i64 0):=((Blk.new w _ _).alloc _).cell 1
     have f0:((w.alloc (.cells #[.int .i64 0,.int .i64 0] 116)).iter s (p+n)).frozen? ⟨w.heap.size,0,none⟩=false:=((Blk.new w _ _).alloc _).frozen 0
     have f1:((w.alloc (.cells #[.int .i64 0,.int .i64 0] 116)).iter s (p+n)).frozen? ⟨w.heap.size,1,none⟩=false:=((Blk.new w _ _).alloc _).frozen 1
     have HC:=Lib.hid (ck_bad hck h1)
     have h1':((p:Int)-(l:Int) == 1)=true:=by rw [beq_iff_eq];omega
     clear h1
     go_wp2
     refine bodyPost_ret (v:=.agg #[.int .i64 6,.int .i64 (l:Int)]) (by simp [results,Tryz.results75,go_sem,World.iter]) rfl ?_
     exact ⟨by rw [HC.out];rfl,((HB.out _).setCell (p:=⟨w.heap.size,0,none⟩) (Nat.le_refl _) _).setCell (p:=⟨w.heap.size,1,none⟩) (Nat.le_refl _) _⟩
    ·have HN1:=Lib.hid (HN.out (.inr h1))
     have h1':((p:Int)-(l:Int) == 1)=false:=by rw [beq_eq_false_iff_ne];omega
     clear h1
     go_wp2
     go_roundw
     case rel=>exact ⟨p,_,p+n,HN1.out,rfl,rfl,rfl⟩
     case measure=>exact HM.out
  ·obtain rfl:p=s.size:=by omega
   have hnx:=fun ty=>run_next_end (P:=Tryz.prog) (w.alloc (.cells #[.int .i64 0,.int .i64 0] 116)) s s.size ty (by omega)
   simp only [World.size_alloc] at hnx
   have c0:((w.alloc (.cells #[.int .i64 0,.int .i64 0] 116)).iter s s.size).cell? ⟨w.heap.size,0,none⟩=some (.int .i64 0):=((Blk.new w _ _).alloc _).cell 0
   have c1:((w.alloc (.cells #[.int .i64 0,.int .i64 0] 116)).iter s s.size).cell? ⟨w.heap.size,1,none⟩=some (.int .i64 0):=((Blk.new w _ _).alloc _).cell 1
   have f0:((w.alloc (.cells #[.int .i64 0,.int .i64 0] 116)).iter s s.size).frozen? ⟨w.heap.size,0,none⟩=false:=((Blk.new w _ _).alloc _).frozen 0
   have f1:((w.alloc (.cells #[.int .i64 0,.int .i64 0] 116)).iter s s.size).frozen? ⟨w.heap.size,1,none⟩=false:=((Blk.new w _ _).alloc _).frozen 1
   cases f
   ·have HC:=Lib.hid (ck_good hck (by omega) (.inl rfl))
    go_wp2
    refine bodyPost_ret (v:=.agg #[.int .i64 0,.int .i64 0]) (by simp [results,Tryz.results75,go_sem,World.iter]) rfl ?_
    exact ⟨by rw [HC.out];rfl,((HB.out _).setCell (p:=⟨w.heap.size,0,none⟩) (Nat.le_refl _) _).setCell (p:=⟨w.heap.size,1,none⟩) (Nat.le_refl _) _⟩
   ·by_cases h1:s.size-l=1
    ·have HC:=Lib.hid (ck_bad hck h1)
     have h1':((s.size:Int)-(l:Int) == 1)=true:=by rw [beq_iff_eq];omega
     clear h1
     go_wp2
     refine bodyPost_ret (v:=.agg #[.int .i64 6,.int .i64 (l:Int)]) (by simp [results,Tryz.results75,go_sem,World.iter]) rfl ?_
     exact ⟨by rw [HC.out];rfl,((HB.out _).setCell (p:=⟨w.heap.size,0,none⟩) (Nat.le_refl _) _).setCell (p:=⟨w.heap.size,1,none⟩) (Nat.le_refl _) _⟩
    ·have HC:=Lib.hid (ck_good hck (by omega) (.inr h1))
     have h1':((s.size:Int)-(l:Int) == 1)=false:=by rw [beq_eq_false_iff_ne];omega
     clear h1
     go_wp2
     refine bodyPost_ret (v:=.agg #[.int .i64 0,.int .i64 0]) (by simp [results,Tryz.results75,go_sem,World.iter]) rfl ?_
     exact ⟨by rw [HC.out];rfl,((HB.out _).setCell (p:=⟨w.heap.size,0,none⟩) (Nat.le_refl _) _).setCell (p:=⟨w.heap.size,1,none⟩) (Nat.le_refl _) _⟩
end
section
open Go.RowKit

set_option maxHeartbeats 1000000 in
set_option maxRecDepth 100000 in
theorem slite_any (s:ByteArray)(c:Int)(w:World) :
  Calls Tryz.prog 161 #[.string s,.int .u8 c] w fun e w'=>e=.returned (.int .i64 (Lib.indexByte s.data.toList c.toNat.toUInt8))∧w=w':=by
 go_enter Tryz.func161,Tryz.ntmps161
 go_wp2
 rw [run_callFunc_extern Tryz.func182 (by kernel_rfl) (by kernel_rfl) (by kernel_rfl) (e:=Extern.BytealgIndexByte.indexByte) (by kernel_rfl),Lib.run_indexByteString]
 simp only [Result.andThen]
 rw [Oper.upon_value]
 go_wp2
 go_ret
 exact ⟨rfl,rfl⟩
set_option maxHeartbeats 1000000 in
theorem indexbyte_any (s:ByteArray)(c:Int)(w:World) :
  Calls Tryz.prog 152 #[.string s,.int .u8 c] w fun e w'=>e=.returned (.int .i64 (Lib.indexByte s.data.toList c.toNat.toUInt8))∧w=w':=by
 go_enter Tryz.func152,Tryz.ntmps152
 go_wp2_with (go_at_call 161;refine (slite_any _ _ _).mono ?_;rintro e w' ⟨rfl,rfl⟩)
 go_ret
 exact ⟨rfl,rfl⟩
/-- Where the byte stands in "[]/=\\". -/
def specialI (c:Int):Int:=Lib.indexByte [91,93,47,61,92] c.toNat.toUInt8
theorem special_any (c:Int)(w:World) :
  Calls Tryz.prog 152 #[.string ⟨#[91,93,47,61,92]⟩,.int .u8 c] w fun e w'=>e=.returned (.int .i64 (specialI c))∧w=w':=indexbyte_any _ c w

/-- May the rune not stand in a value? -/
def controlR (r:Int):Bool:=decide (r<32) || r == 127
set_option maxHeartbeats 1000000 in
theorem control_any (r:Int)(w:World) :
  Calls Tryz.prog 153 #[.int .i32 r] w fun e w'=>e=.returned (.bool (controlR r))∧w=w':=by
 unfold controlR
 by_cases h:r<32
 ·go_enter Tryz.func153,Tryz.ntmps153
  go_wp2
  go_ret
  exact ⟨by simp [h],rfl⟩
 ·go_enter Tryz.func153,Tryz.ntmps153
  go_wp2
  go_ret
  exact ⟨by simp;omega,rfl⟩
end
section
open Go.RowKit

/-- What the reader of a value answers from place q on: the bytes and the place behind the ']', or an error and its place. -/
def valF:Nat→ByteArray→Nat→Nat→Bool→List UInt8→Except (Int×Int) (List UInt8×Nat)
 | 0,s,_,_,_,_=>.error (160,(s.size:Int))
 | k+1,s,fr,q,esc,out =>
  if q<s.size then
   (if esc=true then
    (if (Utf8.decode s q).1<128∧0≤specialI (Utf8.decode s q).1 then valF k s fr (q+(Utf8.decode s q).2) false (out++[(Utf8.decode s q).1.toUInt8])
     else .error (160,(q:Int)))
   else if (Utf8.decode s q).1=92 then valF k s fr (q+(Utf8.decode s q).2) true out
   else if (Utf8.decode s q).1=93 then (if out.length > 64 then .error (3,(fr:Int)) else .ok (out,q+1))
   else if controlR (Utf8.decode s q).1=true∨(Utf8.decode s q).1=91∨(Utf8.decode s q).1=47∨(Utf8.decode s q).1=61 then .error (160,(q:Int))
   else valF k s fr (q+(Utf8.decode s q).2) false (out++(Utf8.encode (Utf8.decode s q).1).data.toList))
  else .error (160,(s.size:Int))
def valAt (s:ByteArray)(fr q:Nat)(esc:Bool)(out:List UInt8):Except (Int×Int) (List UInt8×Nat):=valF (s.size-q) s fr q esc out
theorem valF_fuel (s:ByteArray)(fr:Nat):∀(k:Nat) (q:Nat) (esc:Bool) (out:List UInt8) (j:Nat),s.size≤q+k→k≤j→valF j s fr q esc out=valF k s fr q esc out:=by
 intro k
 induction k with
 | zero =>
  intro q esc out j h1 h2
  cases j with
  | zero=>rfl
  | succ j=>simp only [valF];rw [if_neg (by omega)]
 | succ k ih =>
  intro q esc out j h1 h2
  cases j with
  | zero=>omega
  | succ j =>
   have hp:=decode_pos s q
   simp only [valF]
   rw [ih (q+(Utf8.decode s q).2) false _ j (by omega) (by omega),ih (q+(Utf8.decode s q).2) true _ j (by omega) (by omega),ih (q+(Utf8.decode s q).2) false _ j (by omega) (by omega)]
theorem valAt_step {s:ByteArray}{fr q:Nat}{esc:Bool}{out:List UInt8}(h:q<s.size):valAt s fr q esc out =
   (if esc=true then
    (if (Utf8.decode s q).1<128∧0≤specialI (Utf8.decode s q).1 then valAt s fr (q+(Utf8.decode s q).2) false (out++[(Utf8.decode s q).1.toUInt8])
     else .error (160,(q:Int)))
   else if (Utf8.decode s q).1=92 then valAt s fr (q+(Utf8.decode s q).2) true out
   else if (Utf8.decode s q).1=93 then (if out.length > 64 then .error (3,(fr:Int)) else .ok (out,q+1))
   else if controlR (Utf8.decode s q).1=true∨(Utf8.decode s q).1=91∨(Utf8.decode s q).1=47∨(Utf8.decode s q).1=61 then .error (160,(q:Int))
   else valAt s fr (q+(Utf8.decode s q).2) false (out++(Utf8.encode (Utf8.decode s q).1).data.toList)):=by
 have hp:=decode_pos s q
 unfold valAt
 rw [show s.size-q=(s.size-q-1)+1 by omega]
 simp only [valF]
 rw [if_pos h]
 have e:=fun b o=>(valF_fuel s fr (s.size-(q+(Utf8.decode s q).2)) (q+(Utf8.decode s q).2) b o (s.size-q-1) (by omega) (by omega))
 rw [e false,e true,e false]
theorem valAt_end {s:ByteArray}{fr q:Nat}{esc:Bool}{out:List UInt8}(h:¬ q<s.size):valAt s fr q esc out=.error (160,(s.size:Int)):=by
 unfold valAt
 rw [show s.size-q=0 by omega]
 rfl
section
variable {s:ByteArray} {fr q r n:Nat} {out:List UInt8}
theorem va_esc (h:q<s.size)(hd:Utf8.decode s q=(r,n))(h1:r<128)(h2:0≤specialI r):valAt s fr q true out=valAt s fr (q+n) false (out++[r.toUInt8]):=by
 rw [valAt_step h,hd,if_pos rfl,if_pos ⟨h1,h2⟩]
theorem va_esc_bad (h:q<s.size)(hd:Utf8.decode s q=(r,n))(h1:¬ (r<128∧0≤specialI r)):valAt s fr q true out=.error (160,(q:Int)):=by
 rw [valAt_step h,hd,if_pos rfl,if_neg h1]
theorem va_back (h:q<s.size)(hd:Utf8.decode s q=(r,n))(h1:r=92):valAt s fr q false out=valAt s fr (q+n) true out:=by
 rw [valAt_step h,hd,if_neg (by simp),if_pos h1]
theorem va_shut (h:q<s.size)(hd:Utf8.decode s q=(r,n))(h1:r=93):valAt s fr q false out=if out.length > 64 then .error (3,(fr:Int)) else .ok (out,q+1):=by
 rw [valAt_step h,hd,if_neg (by simp),if_neg (by simp [h1]),if_pos h1]
theorem va_bad (h:q<s.size)(hd:Utf8.decode s q=(r,n))(h1:r≠92)(h2:r≠93)(h3:controlR r=true∨r=91∨r=47∨r=61):valAt s fr q false out=.error (160,(q:Int)):=by
 rw [valAt_step h,hd,if_neg (by simp),if_neg h1,if_neg h2,if_pos h3]
theorem va_go (h:q<s.size)(hd:Utf8.decode s q=(r,n))(h1:r≠92)(h2:r≠93)(h3:¬ (controlR r=true∨r=91∨r=47∨r=61)):valAt s fr q false out=valAt s fr (q+n) false (out++(Utf8.encode r).data.toList):=by
 rw [valAt_step h,hd,if_neg (by simp),if_neg h1,if_neg h2,if_neg h3]
end
end
section
open Go.RowKit

/-- The reader at block g. -/
def PR (w:World)(g:Nat)(s:ByteArray)(at_:Nat)(e a:Int):Prop:=Blk w g 162 #[.string s,.int .i64 (at_:Int),.int .i64 e,.int .i64 a]
theorem PR.c0 {w:World}{g:Nat}{s:ByteArray}{at_:Nat}{e a:Int}(h:PR w g s at_ e a):w.cell? ⟨g,0,none⟩=some (.string s):=Blk.cell h 0
theorem PR.c1 {w:World}{g:Nat}{s:ByteArray}{at_:Nat}{e a:Int}(h:PR w g s at_ e a):w.cell? ⟨g,1,none⟩=some (.int .i64 (at_:Int)):=Blk.cell h 1
theorem PR.c2 {w:World}{g:Nat}{s:ByteArray}{at_:Nat}{e a:Int}(h:PR w g s at_ e a):w.cell? ⟨g,2,none⟩=some (.int .i64 e):=Blk.cell h 2
theorem PR.c3 {w:World}{g:Nat}{s:ByteArray}{at_:Nat}{e a:Int}(h:PR w g s at_ e a):w.cell? ⟨g,3,none⟩=some (.int .i64 a):=Blk.cell h 3
theorem PR.goto_ {w:World}{g:Nat}{s:ByteArray}{at_:Nat}{e a:Int}(h:PR w g s at_ e a)(k:Nat):PR (w.setCell ⟨g,1,none⟩ (.int .i64 (k:Int))) g s k e a:=Blk.set_ h 1 _
theorem PR.fail {w:World}{g:Nat}{s:ByteArray}{at_:Nat}{e a:Int}(h:PR w g s at_ e a)(x y:Int):PR ((w.setCell ⟨g,2,none⟩ (.int .i64 x)).setCell ⟨g,3,none⟩ (.int .i64 y)) g s at_ x y:=Blk.set_ (Blk.set_ h 2 _) 3 _
theorem PR.drewN {w:World}{g:Nat}{s:ByteArray}{at_:Nat}{e a:Int}(h:PR w g s at_ e a)(k:Nat):PR (w.drewN k) g s at_ e a:=Blk.drewN h k

set_option maxHeartbeats 400000 in
theorem fail_any (g at_:Nat)(s:ByteArray)(e a x y:Int)(w:World)(h:PR w g s at_ e a) :
  Calls Tryz.prog 79 #[.pointer (some ⟨g,0,none⟩),.int .i64 x,.int .i64 y] w fun en w'=>en=.returned (.bool false)∧PR w' g s at_ x y∧Only g w w':=by
 have c2:=h.c2
 have c3:=h.c3
 have f2:=Blk.frozen h 2
 have f3:=Blk.frozen h 3
 go_enter Tryz.func79,Tryz.ntmps79
 go_wp2
 go_ret
 exact ⟨rfl,h.fail x y,((Only.refl g w).setCell (.inl rfl) _).setCell (.inl rfl) _⟩

/-- Does this byte stand there? -/
def standsB (s:ByteArray)(at_:Nat)(b:UInt8):Bool:=if h:at_<s.size then s[at_] == b else false
theorem stands_at {s:ByteArray}{at_:Nat}{b:UInt8}(h:standsB s at_ b=true):∃ hl:at_<s.size,s[at_]=b:=by
 unfold standsB at h
 split at h
 ·rename_i hl
  exact ⟨hl,by simpa using h⟩
 ·cases h
set_option maxHeartbeats 1000000 in
theorem next_yes (g at_:Nat)(s:ByteArray)(e a:Int)(b:UInt8)(w:World)(h:PR w g s at_ e a)(hs:s.size≤140737488355328)(hb:standsB s at_ b=true) :
  Calls Tryz.prog 81 #[.pointer (some ⟨g,0,none⟩),.int .u8 (b.toNat:Int)] w fun en w'=>en=.returned (.bool true)∧PR w' g s (at_+1) e a∧Only g w w':=by
 have c0:=h.c0
 have c1:=h.c1
 have f1:=Blk.frozen h 1
 obtain ⟨hlt,hb⟩:=stands_at hb
 have hq:(at_:Int)<(s.size:Int):=by omega
 have hv:((s[at_].toNat:Int) == (b.toNat:Int))=true:=by rw [hb];simp
 clear hb
 go_enter Tryz.func81,Tryz.ntmps81
 go_wp2
 go_quiet (fail)
 go_wp2
 go_ret
 exact ⟨rfl,(h.drewN _).goto_ (at_+1),((Only.refl g w).drewN _).setCell (.inl rfl) _⟩
set_option maxHeartbeats 1000000 in
theorem next_no (g at_:Nat)(s:ByteArray)(e a:Int)(b:UInt8)(w:World)(h:PR w g s at_ e a)(_hs:s.size≤140737488355328)(hb:standsB s at_ b=false) :
  Calls Tryz.prog 81 #[.pointer (some ⟨g,0,none⟩),.int .u8 (b.toNat:Int)] w fun en w'=>en=.returned (.bool false)∧PR w' g s at_ e a∧Only g w w':=by
 have c0:=h.c0
 have c1:=h.c1
 unfold standsB at hb
 by_cases hlt:at_<s.size
 ·rw [dif_pos hlt] at hb
  have hq:(at_:Int)<(s.size:Int):=by omega
  have hv:((s[at_].toNat:Int) == (b.toNat:Int))=false:=by rw [←beq_dec];exact hb
  clear hb
  go_enter Tryz.func81,Tryz.ntmps81
  go_wp2
  go_quiet (fail)
  go_wp2
  go_ret
  exact ⟨rfl,h.drewN _,(Only.refl g w).drewN _⟩
 ·have hq:decide ((at_:Int)<(s.size:Int))=false:=by simp;omega
  clear hb
  go_enter Tryz.func81,Tryz.ntmps81
  go_wp2
  go_quiet (fail)
  go_wp2
  go_ret
  exact ⟨rfl,h.drewN _,(Only.refl g w).drewN _⟩

/-- The end of the bytes of a name. -/
def nameEndF:Nat→ByteArray→Nat→Nat
 | 0,_,p=>p
 | k+1,s,p=>if h:p<s.size then (if nameB s[p]=true then nameEndF k s (p+1) else p) else p
def nameEnd (s:ByteArray)(p:Nat):Nat:=nameEndF (s.size-p) s p
theorem nameEnd_step {s:ByteArray}{p:Nat}(h:p<s.size):nameEnd s p=if nameB s[p]=true then nameEnd s (p+1) else p:=by
 unfold nameEnd
 rw [show s.size-p=(s.size-(p+1))+1 by omega]
 simp only [nameEndF]
 rw [dif_pos h]
theorem nameEnd_end {s:ByteArray}{p:Nat}(h:¬ p<s.size):nameEnd s p=p:=by
 unfold nameEnd
 rw [show s.size-p=0 by omega]
 rfl
theorem nameEnd_ge (s:ByteArray):∀ k p,p≤nameEndF k s p∧(p≤s.size→nameEndF k s p≤s.size):=by
 intro k
 induction k with
 | zero=>intro p;exact ⟨Nat.le_refl _,fun h=>h⟩
 | succ k ih =>
  intro p
  simp only [nameEndF]
  split
  ·split
   ·have:=ih (p+1)
    exact ⟨by omega,fun _=>this.2 (by omega)⟩
   ·exact ⟨Nat.le_refl _,fun h=>h⟩
  ·exact ⟨Nat.le_refl _,fun h=>h⟩
/-- What name leaves: an error, or the name. -/
def nameErr (s:ByteArray)(at_:Nat):Option (Int×Int) :=
 if h:at_<s.size then (if startB s[at_]=true then (if nameEnd s at_-at_ > 64 then some (3,(at_:Int)) else none) else some (160,(at_:Int))) else some (160,(at_:Int))
def NameBad (g at_:Nat)(s:ByteArray)(w:World)(e:Ending)(w':World):Prop:=∃ x y p,nameErr s at_=some (x,y)∧e=.returned (.tuple #[.string ByteArray.empty,.bool false])∧PR w' g s p x y∧Only g w w'
def NameGood (g at_:Nat)(s:ByteArray)(x y:Int)(w:World)(e:Ending)(w':World):Prop:=e=.returned (.tuple #[.string (s.extract at_ (nameEnd s at_)),.bool true])∧PR w' g s (nameEnd s at_) x y∧Only g w w'
set_option maxHeartbeats 2000000 in
theorem name_short (g at_:Nat)(s:ByteArray)(e a:Int)(w:World)(h:PR w g s at_ e a)(hle:at_≤s.size)(hlt:¬ at_<s.size) :
  Calls Tryz.prog 119 #[.pointer (some ⟨g,0,none⟩)] w (NameBad g at_ s w):=by
 have c0:=h.c0
 have c1:=h.c1
 obtain rfl:at_=s.size:=by omega
 have hE:=Lib.hid (show nameErr s s.size=some (160,(s.size:Int)) by unfold nameErr;rw [dif_neg (by omega)])
 have HF:=Lib.hid (fun k=>fail_any g s.size s e a 160 s.size _ (h.drewN k))
 clear hle hlt
 go_enter Tryz.func119,Tryz.ntmps119
 go_wp2
 go_quiet (fail)
 go_wp2_with (go_at_call 79;refine (HF.out _).mono ?_;rintro en w1 ⟨rfl,hR,hO⟩)
 go_ret2
 exact ⟨160,s.size,s.size,hE.out,rfl,hR,((Only.refl g w).drewN _).trans hO⟩
set_option maxHeartbeats 2000000 in
theorem name_nostart (g at_:Nat)(s:ByteArray)(e a:Int)(w:World)(h:PR w g s at_ e a)(hlt:at_<s.size)(hst:startB s[at_]=false) :
  Calls Tryz.prog 119 #[.pointer (some ⟨g,0,none⟩)] w (NameBad g at_ s w):=by
 have c0:=h.c0
 have c1:=h.c1
 have hE:=Lib.hid (show nameErr s at_=some (160,(at_:Int)) by unfold nameErr;rw [dif_pos hlt,hst];rfl)
 have HF:=Lib.hid (fun k=>fail_any g at_ s e a 160 at_ _ (h.drewN k))
 have HS:=Lib.hid (fun W=>start_any s[at_] W)
 rw [hst] at HS
 have hne:((at_:Int) == (s.size:Int))=false:=by rw [beq_eq_false_iff_ne];omega
 have hq:(at_:Int)<(s.size:Int):=by omega
 clear hst
 go_enter Tryz.func119,Tryz.ntmps119
 go_wp2
 go_quiet ((go_at_call 150;exact quiet_left (HS.out _)))
 go_wp2_with (go_at_call 79;refine (HF.out _).mono ?_;rintro en w1 ⟨rfl,hR,hO⟩)
 go_ret2
 exact ⟨160,at_,at_,hE.out,rfl,hR,((Only.refl g w).drewN _).trans hO⟩

/-- Where the reader at block g is. -/
def atOf (g:Nat)(w:World):Nat:=match w.cell? ⟨g,1,none⟩ with | some (.int _ n)=>n.toNat | _=>0
theorem atOf_pr {w:World}{g:Nat}{s:ByteArray}{at_:Nat}{e a:Int}(h:PR w g s at_ e a):atOf g w=at_:=by
 unfold atOf
 rw [h.c1]
 simp
theorem name_measure {w:World}{g:Nat}{s:ByteArray}{p:Nat}{e a:Int}(h:PR w g s p e a)(hp:p<s.size)(k:Nat):s.size-atOf g ((w.drewN k).setCell ⟨g,1,none⟩ (.int .i64 ((p:Int)+1)))<s.size-atOf g w:=by
 have e1:=atOf_pr ((h.drewN k).goto_ (p+1))
 have e2:=atOf_pr h
 rw [show ((p+1:Nat):Int)=(p:Int)+1 by omega] at e1
 rw [e1,e2]
 omega
/-- Where name's loop is. -/
def NameAt (g at_:Nat)(s:ByteArray)(e a:Int)(w:World)(p:Nat)(wr:World):Prop:=PR wr g s p e a∧at_≤p∧p≤s.size∧nameEnd s at_=nameEnd s p∧Only g w wr
def NamePost (g at_:Nat)(s:ByteArray)(e a:Int)(w:World)(en:Ending)(w':World):Prop:=NameBad g at_ s w en w'∨(nameErr s at_=none∧NameGood g at_ s e a w en w')
set_option maxHeartbeats 4000000 in
theorem name_go (g at_:Nat)(s:ByteArray)(e a:Int)(w:World)(h:PR w g s at_ e a)(hlt:at_<s.size)(hst:startB s[at_]=true)(hs:s.size≤140737488355328) :
  Calls Tryz.prog 119 #[.pointer (some ⟨g,0,none⟩)] w (NamePost g at_ s e a w):=by
 have c0:=h.c0
 have c1:=h.c1
 have HS:=Lib.hid (fun W=>start_any s[at_] W)
 rw [hst] at HS
 have hE:=Lib.hid (show nameErr s at_=if nameEnd s at_-at_ > 64 then some (3,(at_:Int)) else none by unfold nameErr;rw [dif_pos hlt,hst];rfl)
 have hne:((at_:Int) == (s.size:Int))=false:=by rw [beq_eq_false_iff_ne];omega
 have hq:(at_:Int)<(s.size:Int):=by omega
 clear hst
 go_enter Tryz.func119,Tryz.ntmps119
 go_wp2
 go_quiet ((go_at_call 150;exact quiet_left (HS.out _)))
 go_wp2
 go_loopw [38] (fun _ wr=>∃ p,NameAt g at_ s e a w p wr) (fun _ wr=>s.size-atOf g wr)
 case atStart=>exact ⟨at_,h.drewN _,Nat.le_refl _,by omega,rfl,(Only.refl g w).drewN _⟩
 case round =>
  clear c0 c1 hne
  obtain ⟨p,hR,hp1,hp2,hpe,hO⟩:=hrel
  have c0:=hR.c0
  have c1:=hR.c1
  have f1:=Blk.frozen hR 1
  have HPE:=Lib.hid hpe
  clear hpe
  by_cases hp:p<s.size
  ·have hq2:(p:Int)<(s.size:Int):=by omega
   have HN:=Lib.hid (fun W=>nbyte_any s[p] W)
   have HE:=Lib.hid (nameEnd_step hp)
   cases hb:nameB s[p]
   ·rw [hb] at HN HE
    have HE2:=Lib.hid (show nameEnd s p=p from HE.out)
    clear HE hb
    have HE:=HE2
    clear HE2
    by_cases hl:p-at_ > 64
    ·have hl1:(64:Int)<(p:Int)-(at_:Int):=by omega
     have HF:=Lib.hid (fun k=>fail_any g p s e a 3 at_ _ (hR.drewN k))
     have HX:=Lib.hid (show nameErr s at_=some (3,(at_:Int)) by rw [hE.out,HPE.out,HE.out,if_pos hl])
     clear hl
     go_wp2
     go_quiet (((go_at_call 151;exact quiet_left (HN.out _))))
     go_wp2_with (go_at_call 79;refine (HF.out _).mono ?_;rintro en w1 ⟨rfl,hR1,hO1⟩)
     go_ret2
     exact .inl ⟨3,at_,p,HX.out,rfl,hR1,(hO.drewN _).trans hO1⟩
    ·have hl1:¬ (64:Int)<(p:Int)-(at_:Int):=by omega
     have HX:=Lib.hid (show nameErr s at_=none by rw [hE.out,HPE.out,HE.out,if_neg hl])
     have HY:=Lib.hid (show nameEnd s at_=p by rw [HPE.out,HE.out])
     have hp3:(at_:Int)≤(p:Int):=by omega
     have hp4:(p:Int)≤(s.size:Int):=by omega
     clear hl
     go_wp2
     go_quiet (((go_at_call 151;exact quiet_left (HN.out _))))
     go_wp2
     go_quiet (fail)
     go_wp2
     go_ret2
     refine .inr ⟨HX.out,?_⟩
     unfold NameGood
     rw [HY.out]
     exact ⟨rfl,(hR.drewN _).drewN _,(hO.drewN _).drewN _⟩
   ·rw [hb] at HN HE
    have HE2:=Lib.hid (show nameEnd s p=nameEnd s (p+1) from HE.out)
    clear HE hb
    go_wp2
    go_quiet ((go_at_call 151;exact quiet_left (HN.out _)))
    go_wp2
    go_roundw
    case rel=>exact ⟨p+1,(hR.drewN _).goto_ (p+1),by omega,by omega,by rw [HPE.out,HE2.out],(hO.drewN _).setCell (.inl rfl) _⟩
    case measure=>exact name_measure hR hp _
  ·have hq2:decide ((p:Int)<(s.size:Int))=false:=by simp;omega
   have HE:=Lib.hid (nameEnd_end hp)
   by_cases hl:p-at_ > 64
   ·have hl1:(64:Int)<(p:Int)-(at_:Int):=by omega
    have HF:=Lib.hid (fun k=>fail_any g p s e a 3 at_ _ (hR.drewN k))
    have HX:=Lib.hid (show nameErr s at_=some (3,(at_:Int)) by rw [hE.out,HPE.out,HE.out,if_pos hl])
    clear hl
    go_wp2
    go_quiet (fail)
    go_wp2_with (go_at_call 79;refine (HF.out _).mono ?_;rintro en w1 ⟨rfl,hR1,hO1⟩)
    go_ret2
    exact .inl ⟨3,at_,p,HX.out,rfl,hR1,(hO.drewN _).trans hO1⟩
   ·have hl1:¬ (64:Int)<(p:Int)-(at_:Int):=by omega
    have HX:=Lib.hid (show nameErr s at_=none by rw [hE.out,HPE.out,HE.out,if_neg hl])
    have HY:=Lib.hid (show nameEnd s at_=p by rw [HPE.out,HE.out])
    have hp3:(at_:Int)≤(p:Int):=by omega
    have hp4:(p:Int)≤(s.size:Int):=by omega
    clear hl
    go_wp2
    go_quiet (fail)
    go_wp2
    go_quiet (fail)
    go_wp2
    go_ret2
    refine .inr ⟨HX.out,?_⟩
    unfold NameGood
    rw [HY.out]
    exact ⟨rfl,(hR.drewN _).drewN _,(hO.drewN _).drewN _⟩
end
section
open Go.RowKit

theorem byte_info:(Tryz.prog.info? 5).map (fun i=>(i.zero,i.size,i.bytes))=some (some (.int .u8 0),1,1):=by kernel_rfl
theorem ba_len (b:ByteArray):b.data.toList.length=b.size:=by
 rw [Array.length_toList]
 rfl
theorem strCells_bvs (s:ByteArray):Lib.strCells s=bvs s.data.toList:=by
 simp [Lib.strCells,bvs,bv]
theorem own_far {w:World}{base:Nat}{e:TypeId}{size:Nat}{v:Value}{n:Nat}{xs:List Value}(h:w.ownsRow base e size v n xs){p:Addr}(hp:p.block<base)(u:Value):(w.setCell p u).ownsRow base e size v n xs:=by
 obtain ⟨h1,h2⟩:=h
 refine ⟨h1,?_⟩
 rcases h2 with h2 | ⟨g,cap,cur,a,b,c,d⟩
 ·exact .inl h2
 ·exact .inr ⟨g,cap,cur,a,b,(Below.heap_setCell w p u g (by omega)).trans c,d⟩
theorem own_iter {w:World}{base:Nat}{e:TypeId}{size:Nat}{v:Value}{n:Nat}{xs:List Value}(h:w.ownsRow base e size v n xs){k:Nat}(hk:k<base)(s:ByteArray)(p:Nat):(w.iterAt k s p).ownsRow base e size v n xs:=by
 obtain ⟨h1,h2⟩:=h
 refine ⟨h1,?_⟩
 rcases h2 with h2 | ⟨g,cap,cur,a,b,c,d⟩
 ·exact .inl h2
 ·exact .inr ⟨g,cap,cur,a,b,by rw [Lib.iterAt_other _ _ _ _ _ (by omega)];exact c,d⟩
theorem Only.grown {g:Nat}{a w w':World}{row:Option Nat}(h:Only g a w)(hg:w.grownBy w' row)(hr:∀ k,row=some k→a.heap.size≤k):Only g a w' :=
 ⟨hg.os.trans h.os,hg.tape.trans h.tape,hg.output.trans h.output,Nat.le_trans h.size hg.size,fun i hi hne=>(hg.block i (Nat.lt_of_lt_of_le hi h.size) (fun e=>by have:=hr i e.symm;omega)).trans (h.block i hi hne)⟩
theorem Only.iterAt {g:Nat}{a w:World}(h:Only g a w){k:Nat}(hk:a.heap.size≤k)(s:ByteArray)(p:Nat):Only g a (w.iterAt k s p) :=
 ⟨h.os,h.tape,h.output,by rw [Lib.iterAt_size];exact h.size,fun i hi hne=>(Lib.iterAt_other w k i s p (by omega)).trans (h.block i hi hne)⟩

/-- Where value's loop is: the iterator stands at p of the rest, the row v holds 'out'. -/
def ValW (g fr:Nat)(s:ByteArray)(e a:Int)(w:World)(v:Value)(p:Nat)(out:List UInt8)(wr:World):Prop :=
 wr.heap[w.heap.size]?=some (.stringIter (s.extract fr s.size) p)∧(∃ q,PR wr g s q e a)∧OB wr (w.heap.size+1) 5 v out∧Only g w wr∧w.heap.size+1≤wr.heap.size
def ValIn (g fr:Nat)(s:ByteArray)(e a:Int)(w:World)(esc:Bool)(v:Value)(p:Nat)(out:List UInt8)(wr:World):Prop :=
 ValW g fr s e a w v p out wr∧out.length≤4*p∧p≤s.size-fr∧valAt s fr fr false []=valAt s fr (fr+p) esc out
section
variable {g fr:Nat} {s:ByteArray} {e a:Int} {w:World} {v:Value} {p:Nat} {out:List UInt8} {wr:World}
theorem ValW.pos (h:ValW g fr s e a w v p out wr):wr.iterPos w.heap.size=p:=by simp [World.iterPos,h.1]
theorem ValW.alloc (h:ValW g fr s e a w v p out wr)(o:Obj):ValW g fr s e a w v p out (wr.alloc o):=by
 obtain ⟨h1,⟨q,h2⟩,h3,h4,h5⟩:=h
 exact ⟨(Below.heap_alloc wr o _ (by omega)).trans h1,⟨q,h2.alloc o⟩,h3.alloc o,h4.alloc o,by simp;omega⟩
theorem ValW.iterAt (h:ValW g fr s e a w v p out wr)(hg:g<w.heap.size)(p':Nat):ValW g fr s e a w v p' out (wr.iterAt w.heap.size (s.extract fr s.size) p'):=by
 obtain ⟨h1,⟨q,h2⟩,h3,h4,h5⟩:=h
 exact ⟨Lib.iterAt_heap _ _ _ _ _ h1,⟨q,(Lib.iterAt_other _ _ _ _ _ (by omega)).trans h2⟩,own_iter h3 (by omega) _ _,h4.iterAt (Nat.le_refl _) _ _,by rw [Lib.iterAt_size];exact h5⟩
theorem ValW.store (h:ValW g fr s e a w v p out wr)(hg:g<w.heap.size)(q:Nat):ValW g fr s e a w v p out (wr.setCell ⟨g,1,none⟩ (.int .i64 (q:Int))):=by
 obtain ⟨h1,⟨q0,h2⟩,h3,h4,h5⟩:=h
 exact ⟨(Below.heap_setCell wr _ _ _ (by simp;omega)).trans h1,⟨q,h2.goto_ q⟩,own_far h3 (by simp;omega) _,h4.setCell (.inl rfl) _,by simpa [World.setCell] using h5⟩
theorem ValW.grown (h:ValW g fr s e a w v p out wr)(hg:g<w.heap.size){v':Value}{out':List UInt8}{w':World}(hv:w'.ownsRow (w.heap.size+1) 5 1 v' out'.length (bvs out'))(hgr:wr.grownBy w' v.ownBlock):ValW g fr s e a w v' p out' w':=by
 obtain ⟨h1,⟨q0,h2⟩,h3,h4,h5⟩:=h
 have hlt:∀ k,v.ownBlock=some k→w.heap.size+1≤k:=fun k hk=>(World.ownsRow.lt h3 k hk).1
 refine ⟨(hgr.block _ (by omega) (fun e=>by have:=hlt _ e.symm;omega)).trans h1,⟨q0,h2.grown hgr (fun e=>by have:=hlt _ e.symm;omega)⟩,hv,h4.grown hgr (fun k hk=>by have:=hlt k hk;omega),?_⟩
 have:=hgr.size
 omega
end
theorem valIn_end {g fr:Nat}{s:ByteArray}{e a:Int}{w wr w4:World}{v:Value}{p q n k:Nat}{esc:Bool}{out out':List UInt8}
  (HP0:wr.iterPos w.heap.size=p)(HM:fr+(p+n)=q+n∧p+n≤s.size-fr∧1≤n∧out.length≤4*p∧p<s.size∧out.length<1000000)
  (hW:ValW g fr s e a w v (p+n) out' w4)(hout:out'.length=out.length+k)(hk:k≤4)(HX:valAt s fr fr false []=valAt s fr (q+n) esc out') :
  (∃(esc2:Bool) (p2:Nat) (out2:List UInt8),Value.bool esc=.bool esc2∧ValIn g fr s e a w esc2 v p2 out2 w4)∧s.size-w4.iterPos w.heap.size<s.size-wr.iterPos w.heap.size:=by
 refine ⟨⟨esc,p+n,out',rfl,hW,by omega,HM.2.1,by rw [HX,HM.1]⟩,?_⟩
 rw [HP0,hW.pos]
 omega
def ValPost (g fr:Nat)(s:ByteArray)(e a:Int)(w:World)(en:Ending)(w':World):Prop :=
 (∃ x y p,valAt s fr fr false []=.error (x,y)∧en=.returned (.tuple #[.string ByteArray.empty,.bool false])∧PR w' g s p x y∧Only g w w') ∨
 (∃ l q,valAt s fr fr false []=.ok (l,q)∧en=.returned (.tuple #[.string (str l),.bool true])∧PR w' g s q e a∧Only g w w')

set_option maxHeartbeats 8000000 in
set_option maxRecDepth 100000 in
theorem value_any (g fr:Nat)(s:ByteArray)(e a:Int)(w:World)(h:PR w g s fr e a)(hfr:fr≤s.size)(hs:s.size≤100000) :
  Calls Tryz.prog 120 #[.pointer (some ⟨g,0,none⟩)] w (ValPost g fr s e a w):=by
 have c0:=h.c0
 have c1:=h.c1
 obtain ⟨i0,hi0,hz0,hz1,hz2⟩:=info_parts byte_info
 have hg:=h.lt
 have hts:(s.extract fr s.size).size=s.size-fr:=by simp
 have hpf1:(0:Int)≤(fr:Int):=by omega
 have hpf2:(fr:Int)≤(s.size:Int):=by omega
 go_enter Tryz.func120,Tryz.ntmps120
 go_wp2
 go_loopw [5,6,7,8] (fun v ev _ _ wr=>∃(esc:Bool) (p:Nat) (out:List UInt8),ev=.bool esc∧ValIn g fr s e a w esc v p out wr) (fun _ _ _ _ wr=>s.size-wr.iterPos w.heap.size)
 case atStart=>exact ⟨false,0,[],rfl,⟨World.iter_heap _ _ _,⟨fr,h.alloc _⟩,World.ownsRow_nil _ _ _ _,(Only.refl g w).alloc _,by simp [World.iter]⟩,by simp,by omega,by simp⟩
 case round =>
  obtain ⟨esc,p,out,rfl,hW,hol,hple,HV⟩:=hrel
  clear c0 c1
  have hit:=hW.1
  have HP0:=Lib.hid hW.pos
  by_cases hp:p<s.size-fr
  ·have hnx:=fun ty=>Lib.run_next_any_at (P:=Tryz.prog) wr w.heap.size (s.extract fr s.size) p ty hit (by omega)
   simp only [Lib.tail_decode] at hnx
   obtain ⟨q,hqe⟩:∃ q,fr+p=q:=⟨_,rfl⟩
   have hqi:(fr:Int)+(p:Int)=(q:Int):=by omega
   have hq:q<s.size:=by omega
   rw [hqe] at hnx HV
   have hd:Utf8.decode s q=((Utf8.decode s q).1,(Utf8.decode s q).2):=rfl
   have hn1:=decode_pos s q
   have hn2:=decode_in hq
   have hr:=decode_le s q
   generalize (Utf8.decode s q).1=r at *
   generalize (Utf8.decode s q).2=n at *
   have hW1:=hW.iterAt hg (p+n)
   generalize wr.iterAt w.heap.size (s.extract fr s.size) (p+n)=w1 at *
   have hR1:∃ q0,PR w1 g s q0 e a:=hW1.2.1
   obtain ⟨q0,hR1⟩:=hR1
   have hO2:=hW1.store hg q
   have hQ2:=hR1.goto_ q
   have c1:=hR1.c1
   have f1:=Blk.frozen hR1 1
   have hqb:(q:Int)<100000:=by omega
   have HM:=Lib.hid (show fr+(p+n)=q+n∧p+n≤s.size-fr∧1≤n∧out.length≤4*p∧p<s.size∧out.length<1000000 by omega)
   have HS:=Lib.hid (And.intro hq (And.intro hfr hs))
   have HD:=Lib.hid hd
   have HVV:=Lib.hid HV
   clear hd HV hn1 hn2 hol hple hqe hq hp hfr hts hpf1 hpf2 hs h hW hW1 hit hR1
   go_upto_block 2 with (fail)
   generalize w1.setCell ⟨g,1,none⟩ (.int .i64 (q:Int))=w2 at *
   clear c1 f1 hqi hqb hnx
   have c0:=hQ2.c0
   have c1:=hQ2.c1
   have HO2:=Lib.hid hO2
   have HQ:=Lib.hid hQ2
   have HSZ:=Lib.hid hO2.2.2.2.2
   have HOS:=Lib.hid (And.intro c0 c1)
   clear hO2 hQ2
   cases esc
   ·by_cases h92:r=92
    ·have HX:=Lib.hid (show valAt s fr fr false []=valAt s fr (q+n) true out by rw [HVV.out];exact va_back HS.out.1 HD.out h92)
     subst h92
     go_wp2
     exact valIn_end (k:=0) HP0.out HM.out HO2.out rfl (by omega) HX.out
    ·by_cases h93:r=93
     ·have HX:=Lib.hid (show valAt s fr fr false []=if out.length > 64 then .error (3,(fr:Int)) else .ok (out,q+1) by rw [HVV.out];exact va_shut HS.out.1 HD.out h93)
      subst h93
      have hqb:(q:Int)<100000:=by have:=HS.out;omega
      have f1:=Blk.frozen HQ.out 1
      have HO3:=HO2.out.store hg (q+1)
      have HQ3:=HQ.out.goto_ (q+1)
      rw [show ((q+1:Nat):Int)=(q:Int)+1 by omega] at HO3 HQ3
      obtain ⟨A,c,hu5,_,_,hRB⟩:=OB.form HO3.2.2.1
      subst hu5
      have hcv:=conv_rb (P:=Tryz.prog) 26 9 5 c Tryz.underlying26 Tryz.underlying5 Tryz.underlying9 hRB
      have HO4:=Lib.hid HO3.2.2.2.1
      have HQ4:=Lib.hid HQ3
      clear HO3 hRB HQ3
      by_cases h64:out.length > 64
      ·have HX2:=Lib.hid (show valAt s fr fr false []=.error (3,(fr:Int)) by rw [HX.out,if_pos h64])
       have h64':(64:Int)<(out.length:Int):=by omega
       have HF:=Lib.hid (fail_any g (q+1) s e a 3 fr _ HQ4.out)
       clear h64
       go_wp2_with (go_at_call 79;go_loud (refine HF.out.mono ?_;rintro en w3 ⟨rfl,hR2,hO2⟩))
       go_ret2
       exact .inl ⟨3,fr,q+1,HX2.out,rfl,hR2,HO4.out.trans hO2⟩
      ·have HX2:=Lib.hid (show valAt s fr fr false []=.ok (out,q+1) by rw [HX.out,if_neg h64])
       have h64':¬ (64:Int)<(out.length:Int):=by omega
       clear h64
       go_wp2
       go_ret2
       exact .inr ⟨out,q+1,HX2.out,rfl,HQ4.out,HO4.out⟩
     ·have h92':((r:Int) == 92)=false:=by rw [beq_eq_false_iff_ne];omega
      have h93':((r:Int) == 93)=false:=by rw [beq_eq_false_iff_ne];omega
      have HF:=Lib.hid (fail_any g q s e a 160 q _ HQ.out)
      have HC:=Lib.hid (fun W=>control_any (r:Int) W)
      by_cases hbad:controlR (r:Int)=true∨r=91∨r=47∨r=61
      ·have HX:=Lib.hid (show valAt s fr fr false []=.error (160,(q:Int)) by rw [HVV.out];exact va_bad HS.out.1 HD.out h92 h93 hbad)
       cases hc:controlR (r:Int)
       ·rw [hc] at HC hbad
        have hbad2:((r:Int) == 91)=true∨(((r:Int) == 91)=false∧((r:Int) == 47)=true)∨(((r:Int) == 91)=false∧((r:Int) == 47)=false∧((r:Int) == 61)=true):=by
         simp only [beq_iff_eq,beq_eq_false_iff_ne]
         have h:r=91∨r=47∨r=61:=by simpa using hbad
         omega
        clear hc hbad h92 h93
        rcases hbad2 with h1 | ⟨h1,h2⟩ | ⟨h1,h2,h3⟩
        ·go_wp2_with (first | (go_at_call 153;refine (HC.out _).mono ?_;rintro en w3 ⟨rfl,rfl⟩) | (go_at_call 79;refine HF.out.mono ?_;rintro en w3 ⟨rfl,hR2,hO2⟩))
         go_ret2
         exact .inl ⟨160,q,q,HX.out,rfl,hR2,HO2.out.2.2.2.1.trans hO2⟩
        ·go_wp2_with (first | (go_at_call 153;refine (HC.out _).mono ?_;rintro en w3 ⟨rfl,rfl⟩) | (go_at_call 79;refine HF.out.mono ?_;rintro en w3 ⟨rfl,hR2,hO2⟩))
         go_ret2
         exact .inl ⟨160,q,q,HX.out,rfl,hR2,HO2.out.2.2.2.1.trans hO2⟩
        ·go_wp2_with (first | (go_at_call 153;refine (HC.out _).mono ?_;rintro en w3 ⟨rfl,rfl⟩) | (go_at_call 79;refine HF.out.mono ?_;rintro en w3 ⟨rfl,hR2,hO2⟩))
         go_ret2
         exact .inl ⟨160,q,q,HX.out,rfl,hR2,HO2.out.2.2.2.1.trans hO2⟩
       ·rw [hc] at HC
        clear hc hbad h92 h93
        go_wp2_with (first | (go_at_call 153;refine (HC.out _).mono ?_;rintro en w3 ⟨rfl,rfl⟩) | (go_at_call 79;refine HF.out.mono ?_;rintro en w3 ⟨rfl,hR2,hO2⟩))
        go_ret2
        exact .inl ⟨160,q,q,HX.out,rfl,hR2,HO2.out.2.2.2.1.trans hO2⟩
      ·have HX:=Lib.hid (show valAt s fr fr false []=valAt s fr (q+n) false (out++(Utf8.encode r).data.toList) by rw [HVV.out];exact va_go HS.out.1 HD.out h92 h93 hbad)
       have hc:controlR (r:Int)=false:=by simpa using fun h=>hbad (.inl h)
       rw [hc] at HC
       have h1:((r:Int) == 91)=false:=by rw [beq_eq_false_iff_ne];omega
       have h2:((r:Int) == 47)=false:=by rw [beq_eq_false_iff_ne];omega
       have h3:((r:Int) == 61)=false:=by rw [beq_eq_false_iff_ne];omega
       have HE:=Lib.hid (encode_size_le (r:Int))
       clear hc hbad h92 h93
       go_wp2_with (first | (go_at_call 153;refine (HC.out _).mono ?_;rintro en w3 ⟨rfl,rfl⟩) | (at_builtin;go_loud (refine Lib.wpList_append_own_string _ rfl (.tmp 30) (.tmp 32) _ _ rfl (w.heap.size+1) 5 i0 Tryz.underlying26 Tryz.underlying9 hi0 hz0 hz1 hz2 u5 out.length (bvs out) rfl HO2.out.2.2.1 (Utf8.encode r) rfl (by have:=HM.out.2.2.2.2.2;have:=HE.out;simp only [maxLen];omega) (by have:=HM.out.2.2.2.2.2;have:=HE.out;omega) (by have:=HSZ.out;omega) ?_);intro v3 w4 hown3 hg3 hat3))
       have hW4:ValW g fr s e a w v3 (p+n) (out++(Utf8.encode r).data.toList) w4:=HO2.out.grown hg (by rw [bvs_append,List.length_append,ba_len,←strCells_bvs];exact hown3) hg3
       exact valIn_end (k:=(Utf8.encode r).size) HP0.out HM.out hW4 (by rw [List.length_append,ba_len]) HE.out HX.out
   ·by_cases h128:r<128
    ·have hrb:(r:Int)<128:=by omega
     by_cases hsp:0≤specialI r
     ·have HX:=Lib.hid (show valAt s fr fr false []=valAt s fr (q+n) false (out++[r.toUInt8]) by rw [HVV.out];exact va_esc HS.out.1 HD.out h128 hsp)
      have HSP:=Lib.hid (fun W=>special_any r W)
      generalize specialI r=sp at *
      have HRD:=Lib.hid (reads_new w2 #[.int .u8 (r:Int)] 5 1 1 rfl)
      clear h128
      go_wp2_with (first | (go_at_call 152;refine (HSP.out _).mono ?_;rintro en w3 ⟨rfl,rfl⟩) | (at_builtin;refine wpList_append_any _ rfl (.tmp 50) (.tmp 53) _ rfl (w.heap.size+1) 5 i0 _ 1 1 Tryz.underlying26 hi0 hz0 hz1 hz2 rfl (by omega) u5 out.length (bvs out) rfl (HO2.out.alloc _).2.2.1 (w2.heap.size+1) (some ⟨w2.heap.size,0,none⟩) 1 1 [.int .u8 (r:Int)] rfl (HRD.out) (by simp [Value.oneCell']) (by have:=HM.out.2.2.2.2.2;simp only [maxLen];omega) (by have:=HM.out.2.2.2.2.2;omega) (by have:=HSZ.out;simp;omega) ?_;intro v3 w4 hown3 hg3 hat3))
      have hb:Value.int .u8 (r:Int)=bv r.toUInt8:=by
       have:r.toUInt8.toNat=r:=by simp;omega
       show Value.int .u8 (r:Int)=.int .u8 ((r.toUInt8.toNat:Nat):Int)
       rw [this]
      have hW4:ValW g fr s e a w v3 (p+n) (out++[r.toUInt8]) w4:=(HO2.out.alloc _).grown hg (by rw [bvs_append,List.length_append];rw [hb] at hown3;exact hown3) hg3
      exact valIn_end (k:=1) HP0.out HM.out hW4 (by simp) (by omega) HX.out
     ·have HX:=Lib.hid (show valAt s fr fr false []=.error (160,(q:Int)) by rw [HVV.out];exact va_esc_bad HS.out.1 HD.out (by omega))
      have HF:=Lib.hid (fail_any g q s e a 160 q _ HQ.out)
      have HSP:=Lib.hid (fun W=>special_any r W)
      generalize specialI r=sp at *
      clear h128
      go_wp2_with (first | (go_at_call 152;refine (HSP.out _).mono ?_;rintro en w3 ⟨rfl,rfl⟩) | (go_at_call 79;refine HF.out.mono ?_;rintro en w3 ⟨rfl,hR2,hO2⟩))
      go_ret2
      exact .inl ⟨160,q,q,HX.out,rfl,hR2,HO2.out.2.2.2.1.trans hO2⟩
    ·have h128':(128:Int)≤(r:Int):=by omega
     have HX:=Lib.hid (show valAt s fr fr false []=.error (160,(q:Int)) by rw [HVV.out];exact va_esc_bad HS.out.1 HD.out (by omega))
     have HF:=Lib.hid (fail_any g q s e a 160 q _ HQ.out)
     clear h128
     go_wp2_with (go_at_call 79;refine HF.out.mono ?_;rintro en w3 ⟨rfl,hR2,hO2⟩)
     go_ret2
     exact .inl ⟨160,q,q,HX.out,rfl,hR2,HO2.out.2.2.2.1.trans hO2⟩
  ·have hnx:=fun ty=>Lib.run_next_end_at (P:=Tryz.prog) wr w.heap.size (s.extract fr s.size) p ty hit (by omega)
   obtain ⟨q0,hR⟩:=hW.2.1
   have hOn:=hW.2.2.2.1
   have HF:=Lib.hid (fail_any g q0 s e a 160 s.size _ hR)
   have c0:=hR.c0
   have HX:=Lib.hid (show valAt s fr fr false []=.error (160,(s.size:Int)) by rw [HV];exact valAt_end (by omega))
   clear HV
   go_wp2_with (go_at_call 79;refine HF.out.mono ?_;rintro en w1 ⟨rfl,hR1,hO1⟩)
   go_ret2
   exact .inl ⟨160,s.size,q0,HX.out,rfl,hR1,hOn.trans hO1⟩
end
section
open Go.RowKit

def allB (s:ByteArray):Bool:=decide (0<s.size) && decide (nameEnd s 0=s.size)
def nameOk (s:ByteArray):Bool:=if h:0<s.size then decide (nameEnd s 0=s.size) && startB s[0] else false

set_option maxHeartbeats 1000000 in
theorem all_any (s:ByteArray)(w:World)(hs:s.size≤140737488355328) :
  Calls Tryz.prog 179 #[.string s,.func (.func 151) #[] #[]] w fun en w'=>en=.returned (.bool (allB s))∧w'=w:=by
 go_enter Tryz.func179,Tryz.ntmps179
 go_wp2
 go_loopw [5,8] (fun _ iv wr=>wr=w∧∃ p:Nat,iv=.int .i64 p∧p≤s.size∧nameEnd s 0=nameEnd s p) (fun _ iv _=>s.size-(Lib.intOf iv).toNat)
 case atStart=>exact ⟨rfl,0,rfl,Nat.zero_le _,rfl⟩
 case round =>
  obtain ⟨rfl,p,rfl,hp,hE⟩:=hrel
  by_cases hlt:p<s.size
  ·have hq:(p:Int)<(s.size:Int):=by omega
   have HN:=Lib.hid (fun W=>nbyte_any s[p] W)
   have HE:=Lib.hid (nameEnd_step hlt)
   cases hb:nameB s[p]
   ·rw [hb] at HN HE
    have HX:=Lib.hid (show allB s=false by unfold allB;rw [hE,HE.out];simp;omega)
    clear HE hE hb
    go_wp2_with (go_at_call 151;refine (HN.out _).mono ?_;rintro en w1 ⟨rfl,rfl⟩)
    go_ret
    exact ⟨by rw [HX.out];rfl,rfl⟩
   ·rw [hb] at HN HE
    have HX:=Lib.hid (show nameEnd s 0=nameEnd s (p+1) by rw [hE,HE.out];rfl)
    clear HE hE hb
    go_wp2_with (go_at_call 151;refine (HN.out _).mono ?_;rintro en w1 ⟨rfl,rfl⟩)
    go_roundw
    case rel=>exact ⟨trivial,p+1,by simp,by omega,HX.out⟩
    case measure=>simp [Lib.intOf];omega
  ·have hq:¬ (p:Int)<(s.size:Int):=by omega
   have hE2:=nameEnd_end hlt
   have HX:=Lib.hid (show allB s=!s.toList.isEmpty by
    unfold allB
    rw [hE,hE2,Lib.toList_data]
    obtain rfl:p=s.size:=by omega
    cases hd:s.data.toList with
    | nil =>
     have:s.size=0:=by rw [←ba_len,hd];rfl
     simp [this]
    | cons _ _ =>
     have:0<s.size:=by rw [←ba_len,hd];simp
     simp [this])
   clear hE hE2
   go_wp2
   go_ret
   exact ⟨by rw [HX.out];rfl,rfl⟩
theorem name_ok (s:ByteArray)(w:World)(hs:s.size≤140737488355328) :
  Calls Tryz.prog 155 #[.string s] w fun en w'=>en=.returned (.bool (nameOk s))∧w'=w:=by
 have HA:=Lib.hid (fun W=>all_any s W hs)
 by_cases h0:0<s.size
 ·have HS:=Lib.hid (fun W=>start_any s[0] W)
  have hq:(0:Int)<(s.size:Int):=by omega
  by_cases he:nameEnd s 0=s.size
  ·have HX:=Lib.hid (show nameOk s=startB s[0] by unfold nameOk;rw [dif_pos h0];simp [he])
   rw [show allB s=true by unfold allB;simp [h0,he]] at HA
   generalize startB s[0]=b at *
   clear he
   go_enter Tryz.func155,Tryz.ntmps155
   go_wp2_with (first | (go_at_call 179;refine (HA.out _).mono ?_;rintro en w1 ⟨rfl,rfl⟩) | (go_at_call 150;refine (HS.out _).mono ?_;rintro en w1 ⟨rfl,rfl⟩))
   go_ret
   exact ⟨by rw [HX.out];rfl,rfl⟩
  ·have HX:=Lib.hid (show nameOk s=false by unfold nameOk;rw [dif_pos h0];simp [he])
   rw [show allB s=false by unfold allB;simp [he]] at HA
   clear he
   go_enter Tryz.func155,Tryz.ntmps155
   go_wp2_with (first | (go_at_call 179;refine (HA.out _).mono ?_;rintro en w1 ⟨rfl,rfl⟩))
   go_ret
   exact ⟨by rw [HX.out];rfl,rfl⟩
 ·have HX:=Lib.hid (show nameOk s=false by unfold nameOk;rw [dif_neg h0])
  rw [show allB s=false by unfold allB;simp;omega] at HA
  clear h0
  go_enter Tryz.func155,Tryz.ntmps155
  go_wp2_with (first | (go_at_call 179;refine (HA.out _).mono ?_;rintro en w1 ⟨rfl,rfl⟩))
  go_ret
  exact ⟨by rw [HX.out];rfl,rfl⟩

/-- Does a control rune stand in it? -/
def ctrlF:Nat→ByteArray→Nat→Bool
 | 0,_,_=>false
 | k+1,s,p=>if p<s.size then (if controlR ((Utf8.decode s p).1:Int)=true then true else ctrlF k s (p+(Utf8.decode s p).2)) else false
def ctrlAt (s:ByteArray)(p:Nat):Bool:=ctrlF (s.size-p) s p
theorem ctrlF_fuel (s:ByteArray):∀(k j p:Nat),s.size≤p+k→k≤j→ctrlF j s p=ctrlF k s p:=by
 intro k
 induction k with
 | zero =>
  intro j p h1 h2
  cases j with
  | zero=>rfl
  | succ j=>simp only [ctrlF];rw [if_neg (by omega)]
 | succ k ih =>
  intro j p h1 h2
  cases j with
  | zero=>omega
  | succ j =>
   have:=decode_pos s p
   simp only [ctrlF]
   rw [ih j _ (by omega) (by omega)]
theorem ctrl_step {s:ByteArray}{p:Nat}(h:p<s.size):ctrlAt s p=if controlR ((Utf8.decode s p).1:Int)=true then true else ctrlAt s (p+(Utf8.decode s p).2):=by
 have hd:=decode_pos s p
 unfold ctrlAt
 rw [show s.size-p=(s.size-p-1)+1 by omega]
 simp only [ctrlF]
 rw [if_pos h]
 split
 ·rfl
 ·exact ctrlF_fuel s _ _ _ (by omega) (by omega)
theorem ctrl_end {s:ByteArray}{p:Nat}(h:¬ p<s.size):ctrlAt s p=false:=by
 unfold ctrlAt
 rw [show s.size-p=0 by omega]
 rfl
set_option maxHeartbeats 2000000 in
theorem indexfunc_any (s:ByteArray)(w:World)(hs:s.size≤140737488355328) :
  Calls Tryz.prog 188 #[.string s,.func (.func 153) #[] #[],.bool true] w fun en w'=>(∃ k:Int,en=.returned (.int .i64 k)∧decide (0≤k)=ctrlAt s 0)∧Below w.heap.size w w':=by
 go_enter Tryz.func188,Tryz.ntmps188
 go_wp2
 go_loopw [6,7,8] (fun _ _ _ wr=>∃ p:Nat,w.iter s p=wr∧p≤s.size∧ctrlAt s 0=ctrlAt s p) (fun _ _ _ wr=>s.size-wr.iterPos w.heap.size)
 case atStart=>exact ⟨0,rfl,Nat.zero_le _,rfl⟩
 case round =>
  obtain ⟨p,rfl,hp0,hE⟩:=hrel
  have HB:=Lib.hid (fun q=>show Below w.heap.size w (w.iter s q) from (Below.refl _ _).alloc (Nat.le_refl _) _)
  by_cases hp:p<s.size
  ·have hnx:=fun ty=>run_next_any (P:=Tryz.prog) w s p ty hp
   have hn1:=decode_pos s p
   have hn2:=decode_in hp
   have HN:=Lib.hid (ctrl_step hp)
   have hr:=decode_le s p
   generalize Utf8.decode s p=d at *
   obtain ⟨r,n⟩:=d
   simp only at hnx hn1 hn2 hr HN
   have HM:=Lib.hid (show s.size-((w.iter s (p+n)).iterPos w.heap.size)<s.size-((w.iter s p).iterPos w.heap.size) by
    rw [World.iterPos_iter,World.iterPos_iter]
    omega)
   have HC:=Lib.hid (fun W=>control_any (r:Int) W)
   cases hc:controlR (r:Int)
   ·rw [hc] at HC HN
    have HX:=Lib.hid (show ctrlAt s 0=ctrlAt s (p+n) by rw [hE,HN.out];rfl)
    clear hE hc HN
    go_wp2_with (go_at_call 153;refine (HC.out _).mono ?_;rintro en w3 ⟨rfl,rfl⟩)
    go_roundw
    case rel=>exact ⟨p+n,rfl,hn2,HX.out⟩
    case measure=>exact HM.out
   ·rw [hc] at HC HN
    have HX:=Lib.hid (show ctrlAt s 0=true by rw [hE,HN.out];rfl)
    clear hE hc HN
    go_wp2_with (go_at_call 153;refine (HC.out _).mono ?_;rintro en w3 ⟨rfl,rfl⟩)
    go_ret
    exact ⟨⟨p,rfl,by rw [HX.out];simp⟩,HB.out _⟩
  ·obtain rfl:p=s.size:=by omega
   have hnx:=fun ty=>run_next_end (P:=Tryz.prog) w s s.size ty (by omega)
   have HX:=Lib.hid (show ctrlAt s 0=false by rw [hE];exact ctrl_end (by omega))
   clear hE
   go_wp2
   go_ret
   exact ⟨⟨-1,rfl,by rw [HX.out];simp⟩,HB.out _⟩
theorem indexfunc2_any (s:ByteArray)(w:World)(hs:s.size≤140737488355328) :
  Calls Tryz.prog 180 #[.string s,.func (.func 153) #[] #[]] w fun en w'=>(∃ k:Int,en=.returned (.int .i64 k)∧decide (0≤k)=ctrlAt s 0)∧Below w.heap.size w w':=by
 have H:=Lib.hid (fun W=>indexfunc_any s W hs)
 go_enter Tryz.func180,Tryz.ntmps180
 go_wp2_with (go_at_call 188;refine (H.out _).mono ?_;rintro en w1 ⟨⟨k,rfl,hk⟩,hb⟩)
 go_ret
 exact ⟨⟨k,rfl,hk⟩,hb⟩
theorem contains_any (s:ByteArray)(w:World)(hs:s.size≤140737488355328) :
  Calls Tryz.prog 156 #[.string s,.func (.func 153) #[] #[]] w fun en w'=>en=.returned (.bool (ctrlAt s 0))∧Below w.heap.size w w':=by
 have H:=Lib.hid (fun W=>indexfunc2_any s W hs)
 go_enter Tryz.func156,Tryz.ntmps156
 go_wp2_with (go_at_call 180;refine (H.out _).mono ?_;rintro en w1 ⟨⟨k,rfl,hk⟩,hb⟩;have HK:=Lib.hid hk;clear hk)
 go_ret
 exact ⟨by rw [←HK.out];rfl,hb⟩
end
section
open Go.RowKit

abbrev PKey:=ByteArray×ByteArray
def nameM (s:ByteArray)(at_:Nat):Except (Int×Int) (ByteArray×Nat):=match nameErr s at_ with
 | some e=>.error e
 | none=>.ok (s.extract at_ (nameEnd s at_),nameEnd s at_)
/-- May this key stand behind those? -/
def risesB (ks:List PKey)(key:ByteArray):Bool:=match ks.getLast? with
 | none=>true
 | some k=>Op.bytesLess k.1.toList key.toList
/-- The keys from place p on. -/
def keysF:Nat→ByteArray→Nat→List PKey→Except (Int×Int) (List PKey×Nat)
 | 0,_,p,ks=>.ok (ks,p)
 | k+1,s,p,ks =>
  if standsB s p 91=true then
   match nameM s (p+1) with
   | .error e=>.error e
   | .ok (key,q) =>
    if risesB ks key=true then
     if standsB s q 61=true then
      match valAt s (q+1) (q+1) false [] with
      | .error e=>.error e
      | .ok (v,q')=>keysF k s q' (ks++[(key,str v)])
     else .error (160,(q:Int))
    else .error (160,((p+1:Nat):Int))
  else .ok (ks,p)
def keysM (s:ByteArray)(p:Nat)(ks:List PKey):Except (Int×Int) (List PKey×Nat):=keysF (s.size+1-p) s p ks
def stepM (s:ByteArray)(p:Nat):Except (Int×Int) ((ByteArray×List PKey)×Nat):=match nameM s p with
 | .error e=>.error e
 | .ok (nm,q)=>match keysM s q [] with
  | .error e=>.error e
  | .ok (ks,r)=>.ok ((nm,ks),r)
theorem nameEnd_le {s:ByteArray}{p:Nat}(h:p≤s.size):p≤nameEnd s p∧nameEnd s p≤s.size:=⟨(nameEnd_ge s _ p).1,(nameEnd_ge s _ p).2 h⟩
theorem nameM_ok {s:ByteArray}{p q:Nat}{nm:ByteArray}(h:nameM s p=.ok (nm,q))(hp:p≤s.size):p≤q∧q≤s.size∧nm=s.extract p q∧q=nameEnd s p∧nameErr s p=none:=by
 unfold nameM at h
 cases hn:nameErr s p with
 | some e=>rw [hn] at h;cases h
 | none =>
  rw [hn] at h
  simp only [Except.ok.injEq,Prod.mk.injEq] at h
  obtain ⟨h1,h2⟩:=h
  subst h2
  exact ⟨(nameEnd_le hp).1,(nameEnd_le hp).2,h1.symm,rfl,rfl⟩
theorem valF_ok (s:ByteArray)(fr:Nat):∀(k q:Nat) (esc:Bool) (out l:List UInt8) (r:Nat),valF k s fr q esc out=.ok (l,r)→q<r∧r≤s.size:=by
 intro k
 induction k with
 | zero=>intro q esc out l r h;cases h
 | succ k ih =>
  intro q esc out l r h
  have hd:=decode_pos s q
  simp only [valF] at h
  split at h
  ·rename_i hq
   split at h
   ·split at h
    ·have:=ih _ _ _ _ _ h;omega
    ·cases h
   ·split at h
    ·have:=ih _ _ _ _ _ h;omega
    ·split at h
     ·split at h
      ·cases h
      ·simp only [Except.ok.injEq,Prod.mk.injEq] at h
       omega
     ·split at h
      ·cases h
      ·have:=ih _ _ _ _ _ h;omega
  ·cases h
theorem valAt_ok {s:ByteArray}{fr q r:Nat}{esc:Bool}{out l:List UInt8}(h:valAt s fr q esc out=.ok (l,r)):q<r∧r≤s.size:=valF_ok s fr _ q esc out l r h
theorem stands_lt {s:ByteArray}{p:Nat}{b:UInt8}(h:standsB s p b=true):p<s.size:=(stands_at h).1
theorem keysF_fuel (s:ByteArray):∀(k p:Nat) (ks:List PKey) (j:Nat),s.size+1≤p+k→p≤s.size→k≤j→keysF j s p ks=keysF k s p ks:=by
 intro k
 induction k with
 | zero=>intro p ks j h1 h2 h3;omega
 | succ k ih =>
  intro p ks j h1 h2 h3
  cases j with
  | zero=>omega
  | succ j =>
   simp only [keysF]
   split
   ·rename_i hb
    have hl:=stands_lt hb
    cases hn:nameM s (p+1) with
    | error e=>rfl
    | ok x =>
     obtain ⟨key,q⟩:=x
     have hq:=nameM_ok hn (by omega)
     simp only
     split
     ·split
      ·cases hv:valAt s (q+1) (q+1) false [] with
       | error e=>rfl
       | ok y =>
        obtain ⟨v,r⟩:=y
        have hr:=valAt_ok hv
        simp only
        exact ih r _ j (by omega) hr.2 (by omega)
      ·rfl
     ·rfl
   ·rfl
section
variable {s:ByteArray} {p:Nat} {ks:List PKey}
theorem keysM_step (hp:p≤s.size):keysM s p ks=if standsB s p 91=true then
   match nameM s (p+1) with
   | .error e=>.error e
   | .ok (key,q) =>
    if risesB ks key=true then
     if standsB s q 61=true then
      match valAt s (q+1) (q+1) false [] with
      | .error e=>.error e
      | .ok (v,q')=>keysM s q' (ks++[(key,str v)])
     else .error (160,(q:Int))
    else .error (160,((p+1:Nat):Int))
  else .ok (ks,p):=by
 unfold keysM
 rw [show s.size+1-p=(s.size-p)+1 by omega]
 simp only [keysF]
 split
 ·rename_i hb
  have hl:=stands_lt hb
  cases hn:nameM s (p+1) with
  | error e=>rfl
  | ok x =>
   obtain ⟨key,q⟩:=x
   have hq:=nameM_ok hn (by omega)
   simp only
   split
   ·split
    ·cases hv:valAt s (q+1) (q+1) false [] with
     | error e=>rfl
     | ok y =>
      obtain ⟨v,r⟩:=y
      have hr:=valAt_ok hv
      simp only
      exact keysF_fuel s _ r _ _ (by omega) hr.2 (by omega)
    ·rfl
   ·rfl
 ·rfl
theorem km_none (hp:p≤s.size)(h:standsB s p 91=false):keysM s p ks=.ok (ks,p):=by
 rw [keysM_step hp,if_neg (by rw [h];simp)]
theorem km_name {e:Int×Int}(hp:p≤s.size)(h:standsB s p 91=true)(hn:nameErr s (p+1)=some e):keysM s p ks=.error e:=by
 rw [keysM_step hp,if_pos h]
 unfold nameM
 rw [hn]
theorem km_falls {key:ByteArray}{q:Nat}(hp:p≤s.size)(h:standsB s p 91=true)(hn:nameM s (p+1)=.ok (key,q))(hr:risesB ks key=false):keysM s p ks=.error (160,((p+1:Nat):Int)):=by
 rw [keysM_step hp,if_pos h,hn]
 simp only
 rw [if_neg (by rw [hr];simp)]
theorem km_noeq {key:ByteArray}{q:Nat}(hp:p≤s.size)(h:standsB s p 91=true)(hn:nameM s (p+1)=.ok (key,q))(hr:risesB ks key=true)(he:standsB s q 61=false):keysM s p ks=.error (160,(q:Int)):=by
 rw [keysM_step hp,if_pos h,hn]
 simp only
 rw [if_pos hr,if_neg (by rw [he];simp)]
theorem km_val {key:ByteArray}{q:Nat}{e:Int×Int}(hp:p≤s.size)(h:standsB s p 91=true)(hn:nameM s (p+1)=.ok (key,q))(hr:risesB ks key=true)(he:standsB s q 61=true)(hv:valAt s (q+1) (q+1) false []=.error e):keysM s p ks=.error e:=by
 rw [keysM_step hp,if_pos h,hn]
 simp only
 rw [if_pos hr,if_pos he,hv]
theorem km_go {key:ByteArray}{q r:Nat}{v:List UInt8}(hp:p≤s.size)(h:standsB s p 91=true)(hn:nameM s (p+1)=.ok (key,q))(hr:risesB ks key=true)(he:standsB s q 61=true)(hv:valAt s (q+1) (q+1) false []=.ok (v,r)):keysM s p ks=keysM s r (ks++[(key,str v)]):=by
 rw [keysM_step hp,if_pos h,hn]
 simp only
 rw [if_pos hr,if_pos he,hv]
end
/-- The cells of keys. -/
def pairCells (ks:List PKey):List Value:=ks.flatMap fun k=>[.string k.1,.string k.2]
theorem pairCells_len (ks:List PKey):(pairCells ks).length=ks.length*2:=by
 induction ks with
 | nil=>rfl
 | cons k ks ih=>simp only [pairCells,List.flatMap_cons,List.length_append] at ih ⊢;rw [ih];simp;omega
theorem pairCells_append (ks ls:List PKey):pairCells (ks++ls)=pairCells ks++pairCells ls:=by simp [pairCells]
theorem pairCells_at (ks:List PKey)(i:Nat)(k:PKey)(h:ks[i]?=some k):(pairCells ks)[i*2]?=some (.string k.1)∧(pairCells ks)[i*2+1]?=some (.string k.2):=by
 induction ks generalizing i with
 | nil=>simp at h
 | cons x ks ih =>
  cases i with
  | zero=>simp at h;subst h;simp [pairCells]
  | succ i =>
   have:=ih i (by simpa using h)
   simp only [pairCells,List.flatMap_cons] at this ⊢
   rw [show (i+1)*2=2+i*2 by omega,show 2+i*2+1=2+(i*2+1) by omega]
   rw [List.getElem?_append_right (by simp),List.getElem?_append_right (by simp)]
   simpa using this
end
section
open Go.RowKit

theorem name_any (g at_:Nat)(s:ByteArray)(e a:Int)(w:World)(h:PR w g s at_ e a)(hle:at_≤s.size)(hs:s.size≤140737488355328) :
  Calls Tryz.prog 119 #[.pointer (some ⟨g,0,none⟩)] w (NamePost g at_ s e a w):=by
 by_cases hlt:at_<s.size
 ·cases hst:startB s[at_]
  ·exact (name_nostart g at_ s e a w h hlt hst).mono fun _ _ h=>.inl h
  ·exact name_go g at_ s e a w h hlt hst hs
 ·exact (name_short g at_ s e a w h hle hlt).mono fun _ _ h=>.inl h
theorem next_any (g at_:Nat)(s:ByteArray)(e a:Int)(b:UInt8)(w:World)(h:PR w g s at_ e a)(hs:s.size≤140737488355328)(B:Bool)(hb:standsB s at_ b=B) :
  Calls Tryz.prog 81 #[.pointer (some ⟨g,0,none⟩),.int .u8 (b.toNat:Int)] w fun en w'=>en=.returned (.bool B)∧PR w' g s (if B then at_+1 else at_) e a∧Only g w w':=by
 cases B
 ·exact next_no g at_ s e a b w h hs hb
 ·exact next_yes g at_ s e a b w h hs hb

theorem wp_skip_seq {P:Program}{a:Act}{w:World}{Q:Exit→Act→World→Prop}{c:Code}(h:c.wp P Q a w):(Code.seq .skip c).wp P Q a w:=wp_seq (wp_skip h)
theorem wp_scope_enter {P:Program}{a:Act}{w:World}{Q:Exit→Act→World→Prop}{c rest:Code}(l:Nat)(J:Act→World→Prop)(μ:Act→World→Nat)(hf:findLabel c l=some (.seq .skip rest))
  (pass:∀ a w,J a w→rest.wp P (Exit.jump l (fun a' w'=>J a' w'∧μ a' w'<μ a w) Q) a w)
  (first:(∀ a w,J a w→rest.wp P (Exit.jump l J Q) a w)→c.wp P (Exit.jump l J Q) a w):(Code.scope c).wp P Q a w :=
 wp_scope_jumps l J μ hf (first fun a w hJ=>wp_mono (pass a w hJ) fun e a' w' h=>by cases e <;> first | exact h | exact ⟨h.1,h.2.1⟩) fun a w hJ=>wp_skip_seq (pass a w hJ)

def StepX (g r0 b0:Nat)(w:World)(nm:ByteArray)(ks:List PKey)(v:Value)(w':World):Prop :=
 Blk w' r0 121 #[.string ByteArray.empty,.slice none 0 0]∧Blk w' b0 121 #[.string nm,v]∧w'.ownsRow (b0+1) 126 2 v ks.length (pairCells ks)∧Only g w w'∧g<w.heap.size∧w.heap.size≤r0∧r0<b0∧b0<w'.heap.size
theorem StepX.only {g r0 b0:Nat}{w w1 w2:World}{nm:ByteArray}{ks:List PKey}{v:Value}(h:StepX g r0 b0 w nm ks v w1)(hO:Only g w1 w2):StepX g r0 b0 w nm ks v w2:=by
 obtain ⟨h1,h2,h3,h4,h5,h6,h7,h8⟩:=h
 refine ⟨(hO.block _ (by omega) (by simp;omega)).trans h1,(hO.block _ (by omega) (by simp;omega)).trans h2,h3.kept hO ?_,h4.trans hO,h5,h6,h7,Nat.lt_of_lt_of_le h8 hO.size⟩
 cases hv:v.ownBlock with
 | none=>exact .inl rfl
 | some k =>
  have:=(h3.lt k hv).1
  exact .inr (by simp;omega)
def stepRest (nm:ByteArray)(r:Except (Int×Int) (List PKey×Nat)):Except (Int×Int) ((ByteArray×List PKey)×Nat):=match r with
 | .error e=>.error e
 | .ok (ks,q)=>.ok ((nm,ks),q)
theorem stepM_rest {s:ByteArray}{p q:Nat}{nm:ByteArray}(h:nameM s p=.ok (nm,q)):stepM s p=stepRest nm (keysM s q []):=by
 unfold stepM
 rw [h]
 rfl
def StepFrame (g r0 b0:Nat)(ok:Bool)(a':Act):Prop:=∃ u:Nat→Value,a'={ tmps:=(Value.pointer (some ⟨g,0,none⟩)::u 1::Value.pointer (some ⟨r0,0,none⟩)::u 3::u 4::Value.bool ok::Value.pointer (some ⟨b0,0,none⟩)::u 7::u 8::u 9::u 10::u 11::u 12::u 13::u 14::u 15::u 16::u 17::u 18::u 19::u 20::u 21::u 22::u 23::u 24::u 25::u 26::u 27::u 28::u 29::u 30::u 31::u 32::u 33::u 34::u 35::u 36::u 37::u 38::u 39::u 40::u 41::u 42::u 43::u 44::u 45::u 46::u 47::u 48::u 49::u 50::u 51::u 52::u 53::u 54::u 55::u 56::u 57::u 58::u 59::u 60::u 61::u 62::u 63::u 64::u 65::u 66::u 67::u 68::u 69::u 70::u 71::u 72::u 73::u 74::u 75::u 76::u 77::u 78::u 79::u 80::u 81::u 82::[]).toArray,defers:=[] }
theorem stepFrame_of {g r0 b0:Nat}{ok:Bool}{a':Act}(u:Nat→Value)(_hu:u=fun i=>a'.tmps.getD i (.string ByteArray.empty))(h:a'={ tmps:=(Value.pointer (some ⟨g,0,none⟩)::u 1::Value.pointer (some ⟨r0,0,none⟩)::u 3::u 4::Value.bool ok::Value.pointer (some ⟨b0,0,none⟩)::u 7::u 8::u 9::u 10::u 11::u 12::u 13::u 14::u 15::u 16::u 17::u 18::u 19::u 20::u 21::u 22::u 23::u 24::u 25::u 26::u 27::u 28::u 29::u 30::u 31::u 32::u 33::u 34::u 35::u 36::u 37::u 38::u 39::u 40::u 41::u 42::u 43::u 44::u 45::u 46::u 47::u 48::u 49::u 50::u 51::u 52::u 53::u 54::u 55::u 56::u 57::u 58::u 59::u 60::u 61::u 62::u 63::u 64::u 65::u 66::u 67::u 68::u 69::u 70::u 71::u 72::u 73::u 74::u 75::u 76::u 77::u 78::u 79::u 80::u 81::u 82::[]).toArray,defers:=[] }):StepFrame g r0 b0 ok a':=⟨u,h⟩
/-- Where the label is. -/
def StepJ (g at_:Nat)(s:ByteArray)(e a:Int)(w:World)(a':Act)(w':World):Prop:=∃(ok:Bool) (r0 b0 p:Nat) (nm:ByteArray) (ks:List PKey) (v:Value),
 StepFrame g r0 b0 ok a'∧StepX g r0 b0 w nm ks v w'∧p≤s.size ∧
  ((ok=true∧PR w' g s p e a∧ks.length≤p∧stepM s at_=stepRest nm (keysM s p ks))∨(ok=false∧∃ x y p',PR w' g s p' x y∧stepM s at_=.error (x,y)))
def stepMu (g:Nat)(s:ByteArray)(a':Act)(w':World):Nat:=match (a'.tmps[5]?:Option Value) with
 | some (Value.bool true)=>s.size+2-atOf g w'
 | _=>0
def StepPost (g at_:Nat)(s:ByteArray)(e a:Int)(w:World)(en:Ending)(w':World):Prop :=
 (∃ x y nm A n c p,stepM s at_=.error (x,y)∧en=.returned (.tuple #[.agg #[.string nm,.slice A n c],.bool false])∧PR w' g s p x y∧Only g w w') ∨
 (∃ nm ks v q,stepM s at_=.ok ((nm,ks),q)∧en=.returned (.tuple #[.agg #[.string nm,v],.bool true])∧w'.ownsRow w.heap.size 126 2 v ks.length (pairCells ks)∧PR w' g s q e a∧Only g w w')

theorem results_row_tmp {fn:Func}{P:Program}{p u:Tmp}{ty:TypeId}(h:fn.results=#[.cell p ty,.tmp u])(tmps:Array Value)(w:World)(g:Nat)(t:TypeId)(cs:Array Value)(d:TypeDesc)
  (hp:tmps.getD p undef=.pointer (some ⟨g,0,none⟩))(hg:Blk w g t cs)
  (hu:P.underlying ty=some d)(hd:(match d with | .struct _ | .array _ _=>true | _=>false)=true)(hi:(P.info? ty).map (·.size)=some cs.size){x:Value}(hx:tmps.getD u undef=x) :
  (results fn tmps).run P w=.ok (.tuple #[.agg cs,x]) w:=by
 rw [results_cell_tmp h,hp]
 simp [asAddr,run_loadVar_row w g t ty cs (0,0) d hg hu hd hi]
 simpa using hx
theorem step_info:(Tryz.prog.info? 121).map (·.size)=some 2:=by kernel_rfl
theorem step_result {tmps:Array Value}{w:World}{r0:Nat}{nm:ByteArray}{v:Value}{b:Bool}(hB:Blk w r0 121 #[.string nm,v])(hp:tmps.getD 2 undef=.pointer (some ⟨r0,0,none⟩))(hu:tmps.getD 3 undef=.bool b) :
  (results Tryz.f80 tmps).run Tryz.prog w=.ok (.tuple #[.agg #[.string nm,v],.bool b]) w :=
 results_row_tmp Tryz.results80 tmps w r0 121 #[.string nm,v] _ hp hB Tryz.underlying121 rfl step_info hu

/-- What a return reads and writes. -/
theorem stepX_ret {g r0 b0:Nat}{w W:World}{nm:ByteArray}{ks:List PKey}{v:Value}(h:StepX g r0 b0 w nm ks v W) :
  W.cell? ⟨b0,0,none⟩=some (.string nm)∧W.cell? ⟨b0,1,none⟩=some v∧W.cell? ⟨r0,0,none⟩=some (.string ByteArray.empty)∧W.frozen? ⟨r0,0,none⟩=false∧W.frozen? ⟨r0,1,none⟩=false∧W.cell? ⟨r0,1,none⟩=some (.slice none 0 0) ∧
  (W.setCell ⟨r0,0,none⟩ (.string nm)).cell? ⟨r0,1,none⟩=some (.slice none 0 0)∧(W.setCell ⟨r0,0,none⟩ (.string nm)).frozen? ⟨r0,1,none⟩=false :=
 ⟨h.2.1.cell 0,h.2.1.cell 1,h.1.cell 0,h.1.frozen 0,h.1.frozen 1,h.1.cell 1,(h.1.set_ 0 (.string nm)).cell 1,(h.1.set_ 0 (.string nm)).frozen 1⟩
theorem stepX_blk {g r0 b0:Nat}{w W:World}{nm:ByteArray}{ks:List PKey}{v:Value}(h:StepX g r0 b0 w nm ks v W):Blk ((W.setCell ⟨r0,0,none⟩ (.string nm)).setCell ⟨r0,1,none⟩ v) r0 121 #[.string nm,v]:=(h.1.set_ 0 (.string nm)).set_ 1 v
theorem stepX_only {g r0 b0:Nat}{w W:World}{nm:ByteArray}{ks:List PKey}{v:Value}(h:StepX g r0 b0 w nm ks v W):Only g w ((W.setCell ⟨r0,0,none⟩ (.string nm)).setCell ⟨r0,1,none⟩ v):=(h.2.2.2.1.setCell (.inr h.2.2.2.2.2.1) _).setCell (.inr h.2.2.2.2.2.1) _
theorem step_bad {g at_ r0 b0 p:Nat}{s:ByteArray}{e a x y:Int}{w W:World}{nm:ByteArray}{ks:List PKey}{v:Value}(h:StepX g r0 b0 w nm ks v W)(hR:PR W g s p x y)(hM:stepM s at_=.error (x,y)) :
  StepPost g at_ s e a w (.returned (.tuple #[.agg #[.string nm,v],.bool false])) ((W.setCell ⟨r0,0,none⟩ (.string nm)).setCell ⟨r0,1,none⟩ v):=by
 obtain ⟨A,c,rfl,-,-,-⟩:=own_form h.2.2.1
 exact .inl ⟨x,y,_,_,_,_,p,hM,rfl,(hR.far (by simp;have:=h.2.2.2.2;omega) _).far (by simp;have:=h.2.2.2.2;omega) _,stepX_only h⟩
theorem step_fine {g at_ r0 b0 p:Nat}{s:ByteArray}{e a:Int}{w W:World}{nm:ByteArray}{ks:List PKey}{v:Value}(h:StepX g r0 b0 w nm ks v W)(hR:PR W g s p e a)(hM:stepM s at_=.ok ((nm,ks),p)) :
  StepPost g at_ s e a w (.returned (.tuple #[.agg #[.string nm,v],.bool true])) ((W.setCell ⟨r0,0,none⟩ (.string nm)).setCell ⟨r0,1,none⟩ v):=by
 refine .inr ⟨nm,ks,v,p,hM,rfl,?_,(hR.far (by simp;have:=h.2.2.2.2;omega) _).far (by simp;have:=h.2.2.2.2;omega) _,stepX_only h⟩
 have hX:=h.2.2.2.2
 exact own_base (own_far (own_far h.2.2.1 (by simp;omega) _) (by simp;omega) _) (by omega)
/-- Behind a value: the pass goes on. -/
theorem step_key {s:ByteArray}{at_:Nat}{nm:ByteArray}{r:Except (Int×Int) (List PKey×Nat)}{e:Int×Int}(h:stepM s at_=stepRest nm r)(hr:r=.error e):stepM s at_=.error e:=by rw [h,hr];rfl

theorem pair_info:(Tryz.prog.info? 126).map (fun i=>(i.zero,i.size,i.bytes))=some (some (.agg #[.string ByteArray.empty,.string ByteArray.empty]),2,32):=by kernel_rfl
theorem stepX_own {g r0 b0:Nat}{w W:World}{nm:ByteArray}{ks:List PKey}{v:Value}(h:StepX g r0 b0 w nm ks v W):∀ k,v.ownBlock=some k→b0+1≤k:=fun k hk=>(h.2.2.1.lt k hk).1
theorem stepX_b0 {g r0 b0:Nat}{w W w8:World}{nm:ByteArray}{ks:List PKey}{v:Value}(h:StepX g r0 b0 w nm ks v W)(hg:W.grownBy w8 v.ownBlock):Blk w8 b0 121 #[.string nm,v]:=h.2.1.grown hg (fun e=>by have:=stepX_own h _ e.symm;omega)
theorem stepX_pr {g r0 b0 p:Nat}{s:ByteArray}{e a:Int}{w W w8:World}{nm:ByteArray}{ks:List PKey}{v u:Value}(h:StepX g r0 b0 w nm ks v W)(hR:PR W g s p e a)(hg:W.grownBy w8 v.ownBlock):PR (w8.setCell ⟨b0,1,none⟩ u) g s p e a :=
 (Blk.grown hR hg (fun e=>by have:=stepX_own h _ e.symm;have:=h.2.2.2.2;omega)).far (by have:=h.2.2.2.2;simp;omega) u
theorem stepX_push {g r0 b0:Nat}{w W w8:World}{nm key val:ByteArray}{ks:List PKey}{v v3:Value}(h:StepX g r0 b0 w nm ks v W)(hg:W.grownBy w8 v.ownBlock)
  (hown:w8.ownsRow (b0+1) 126 2 v3 (ks.length+1) (pairCells ks++[.string key,.string val])):StepX g r0 b0 w nm (ks++[(key,val)]) v3 (w8.setCell ⟨b0,1,none⟩ v3):=by
 have ho:=stepX_own h
 have hX:=h.2.2.2.2
 refine ⟨(h.1.grown hg (fun e=>by have:=ho _ e.symm;omega)).far (by simp;omega) _,(stepX_b0 h hg).set_ 1 v3,?_,(h.2.2.2.1.grown hg (fun k hk=>by have:=ho k hk;omega)).setCell (.inr (by simp;omega)) _,h.2.2.2.2.1,by omega,by omega,by have:=hg.size;simp [World.setCell];omega⟩
 rw [pairCells_append,List.length_append]
 exact own_far hown (by simp) _
/-- The last key, as the row holds it. -/
theorem step_last {g r0 b0:Nat}{w W:World}{nm:ByteArray}{ks:List PKey}{A:Option Addr}{vc:Nat}(h:StepX g r0 b0 w nm ks (.slice A ks.length vc) W)(key:ByteArray) :
  (ks.length=0∧risesB ks key=true)∨(∃(m gb:Nat) (kl:PKey),ks.length=m+1∧A=some ⟨gb,0,none⟩∧W.cell? ⟨gb,m*2,none⟩=some (.string kl.1)∧risesB ks key=Op.bytesLess kl.1.toList key.toList):=by
 rcases List.eq_nil_or_concat ks with rfl | ⟨ks0,kl,rfl⟩
 ·exact .inl ⟨rfl,rfl⟩
 ·obtain ⟨h1,h2⟩:=h.2.2.1
  rcases h2 with ⟨_,h2⟩ | ⟨gb,cap,cur,hv,-⟩
  ·simp at h2
  ·have hA:A=some ⟨gb,0,none⟩:=by simp at hv;exact hv.1
   subst hA
   refine .inr ⟨ks0.length,gb,kl,by simp,rfl,?_,by simp [risesB]⟩
   have hat:=(pairCells_at (ks0.concat kl) ks0.length kl (by simp)).1
   have:=World.ownsRow.cells h.2.2.1 (g:=gb) (by rfl) _ _ hat
   rw [Addr.add_lit] at this
   simpa using this

set_option maxRecDepth 100000 in
set_option maxHeartbeats 4000000 in
theorem step_any (g at_:Nat)(s:ByteArray)(e a:Int)(w:World)(h:PR w g s at_ e a)(hle:at_≤s.size)(hs:s.size≤100000) :
  Calls Tryz.prog 80 #[.pointer (some ⟨g,0,none⟩)] w (StepPost g at_ s e a w):=by
 go_enter Tryz.func80,Tryz.ntmps80
 go_wp2
 refine wp_scope_enter 0 (StepJ g at_ s e a w) (stepMu g s) rfl ?_ ?_
 ·rintro a' w' ⟨ok,r0,b0,p,nm,ks,v,⟨u,rfl⟩,hX,hp,hJ⟩
  obtain ⟨A,vc,rfl,hvc,hvm,hRd⟩:=own_form hX.2.2.1
  have HX:=Lib.hid hX
  clear hX h
  rcases hJ with ⟨rfl,hR,hkp,hM⟩ | ⟨rfl,x,y,p',hR,hM⟩
  ·have HJ:=Lib.hid (And.intro hkp hM)
   have HRd:=Lib.hid hRd
   clear hkp hM hRd
   cases hsb:standsB s p 91
   ·have HNx:=Lib.hid (next_any g p s e a 91 w' hR (by omega) false hsb)
    have HM:=Lib.hid (show stepM s at_=.ok ((nm,ks),p) by rw [HJ.out.2,km_none hp hsb];rfl)
    clear hsb hR
    go_wp2_with (go_at_call 81;go_loud (refine HNx.out.mono ?_;rintro en w1 ⟨rfl,hR1,hO1⟩;obtain ⟨c0,c1,d0,f0,f1,d1,g1,g2⟩:=stepX_ret (HX.out.only hO1);have HX1:=Lib.hid (HX.out.only hO1);clear HX))
    change bodyPost Tryz.prog Tryz.f80 (StepPost g at_ s e a w) Exit.ret _ _
    exact bodyPost_ret (step_result (stepX_blk HX1.out) rfl rfl) rfl (step_fine HX1.out hR1 HM.out)
   ·have HNx:=Lib.hid (next_yes g p s e a 91 w' hR (by omega) hsb)
    obtain ⟨p1,hp1⟩:∃ p1,p+1=p1:=⟨_,rfl⟩
    have hp2:p1≤s.size:=by have:=stands_lt hsb;omega
    rw [hp1] at HNx
    have HSB:=Lib.hid (And.intro hsb (And.intro hp1 (And.intro hp hp2)))
    have HRp:=Lib.hid hR
    clear hsb hR hp1 hp hp2
    have HG:=Lib.hid (show g<w'.heap.size by have:=HX.out.2.2.2.2;omega)
    go_upto_region 8 with (first
     | (
       go_at_call 81
       refine HNx.out.mono ?_
       rintro en w1 ⟨rfl,hR1,hO1⟩
       have k1:=hR1.c1
       have HX1:=Lib.hid (HX.out.only hO1)
       have HR1:=Lib.hid (hR1.alloc (.cells #[.string ByteArray.empty,.string ByteArray.empty] 126))
       have HK1:=Lib.hid (Blk.new w1 126 #[.string ByteArray.empty,.string ByteArray.empty])
       have HG1:=Lib.hid (Nat.lt_of_lt_of_le HG.out hO1.size)
       clear HX HNx hO1 hR1)
     | (
       go_at_call 119
       refine (name_any g p1 s e a _ HR1.out HSB.out.2.2.2 (by omega)).mono ?_
       rintro en w2 (⟨x,y,p',hE,rfl,hR2,hO2⟩ | ⟨hE,rfl,hR2,hO2⟩)
       all_goals
        have hK2:Blk w2 w1.heap.size 126 #[.string ByteArray.empty,.string ByteArray.empty]:=(hO2.block _ (by simp) (by have:=HG1.out;simp;omega)).trans HK1.out
        have HO2:=Lib.hid (((Only.refl g w1).alloc _).trans hO2)
        have k20:w2.cell? ⟨w1.heap.size,0,none⟩=some (.string ByteArray.empty):=hK2.cell 0
        have k21:=hK2.frozen 0
        have HK2:=Lib.hid hK2
        have HE:=Lib.hid hE
        have HR2:=Lib.hid hR2
        clear hK2 hE hR2 hO2 HR1 HK1 k1))
    ·have HO3:=Lib.hid (HO2.out.setCell (p:=⟨w1.heap.size,0,none⟩) (.inr (Nat.le_refl _)) (.string ByteArray.empty))
     have HR3:=Lib.hid (HR2.out.far (p:=⟨w1.heap.size,0,none⟩) (by have:=HG1.out;simp;omega) (.string ByteArray.empty))
     generalize w2.setCell ⟨w1.heap.size,0,none⟩ (.string ByteArray.empty)=w3 at *
     have HX3:=Lib.hid (HX1.out.only HO3.out)
     obtain ⟨c0,c1,d0,f0,f1,d1,g1,g2⟩:=stepX_ret HX3.out
     clear k20 k21 HR2 HO2 HK2
     go_wp2
     change bodyPost Tryz.prog Tryz.f80 (StepPost g at_ s e a w) Exit.ret _ _
     exact bodyPost_ret (step_result (stepX_blk HX3.out) rfl rfl) rfl (step_bad HX3.out HR3.out (step_key HJ.out.2 (km_name HSB.out.2.2.1 HSB.out.1 (by rw [HSB.out.2.1];exact HE.out))))
    ·have HNM:=Lib.hid (show nameM s p1=.ok (s.extract p1 (nameEnd s p1),nameEnd s p1) by unfold nameM;rw [HE.out])
     have HO3:=Lib.hid (HO2.out.setCell (p:=⟨w1.heap.size,0,none⟩) (.inr (Nat.le_refl _)) (.string (s.extract p1 (nameEnd s p1))))
     have HR3:=Lib.hid (HR2.out.far (p:=⟨w1.heap.size,0,none⟩) (by have:=HG1.out;simp;omega) (.string (s.extract p1 (nameEnd s p1))))
     have HK3:=Lib.hid (HK2.out.set_ 0 (.string (s.extract p1 (nameEnd s p1))))
     generalize w2.setCell ⟨w1.heap.size,0,none⟩ (.string (s.extract p1 (nameEnd s p1)))=w3 at *
     clear HE k20 k21 HR2 HO2 HK2
     generalize s.extract p1 (nameEnd s p1)=key at *
     generalize nameEnd s p1=q at *
     have HQ:=Lib.hid (nameM_ok HNM.out HSB.out.2.2.2)
     have HX3:=Lib.hid (HX1.out.only HO3.out)
     obtain ⟨c0,c1,d0,f0,f1,d1,g1,g2⟩:=stepX_ret HX3.out
     have k30:w3.cell? ⟨w1.heap.size,0,none⟩=some (.string key):=HK3.out.cell 0
     have k31:w3.cell? ⟨w1.heap.size,1,none⟩=some (.string ByteArray.empty):=HK3.out.cell 1
     have k32:=HK3.out.frozen 1
     have HF:=Lib.hid (fun W hW=>fail_any g q s e a 160 p1 W hW)
     have HV:=Lib.hid (step_last HX3.out key)
     have HN:=Lib.hid (show ks.length≤100000 by have:=HJ.out.1;have:=HSB.out;omega)
     generalize hN:ks.length=n at *
     have HL:=Lib.hid hN
     clear hN hvc hvm HRd
     rcases HV.out with ⟨rfl,hB⟩ | ⟨m,gb,kl,rfl,rfl,hcell,hB⟩
     ·clear HV
      have HB:=Lib.hid hB
      clear hB
      go_upto_region 11 with (fail)
      go_quiet (fail)
      go_upto_region 13 with (fail)
      have HR4:=Lib.hid (HR3.out.drewN nq)
      have HO4:=Lib.hid (HO3.out.drewN nq)
      have HX4:=Lib.hid (HX3.out.only ((Only.refl g w3).drewN nq))
      have HK4:=Lib.hid (HK3.out.drewN nq)
      clear HX3 HO3 HK3 HR3 k30 k31 k32 c0 c1 d0 d1 f0 f1 g1 g2 HF
      generalize w3.drewN nq=w4 at *
      cases hse:standsB s q 61
      ·have HNx2:=Lib.hid (next_no g q s e a 61 w4 HR4.out (by omega) hse)
       have HM:=Lib.hid (show stepM s at_=.error (160,(q:Int)) by rw [HJ.out.2,km_noeq HSB.out.2.2.1 HSB.out.1 (by rw [HSB.out.2.1];exact HNM.out) HB.out hse];rfl)
       have HF:=Lib.hid (fun W hW=>fail_any g q s e a 160 q W hW)
       clear hse
       go_upto_region 14 with (go_at_call 81;refine HNx2.out.mono ?_;rintro en w5 ⟨rfl,hR5,hO5⟩;have k5:=hR5.c1;have HX5:=Lib.hid (HX4.out.only hO5);obtain ⟨c0,c1,d0,f0,f1,d1,g1,g2⟩:=stepX_ret HX5.out;have HR5:=Lib.hid hR5;clear hR5 hO5 HNx2)
       go_region_with (go_at_call 79;refine (HF.out _ ?_).mono ?_;go_loud (exact HR5.out.drewN _);rintro en w6 ⟨rfl,hR6,hO6⟩;obtain ⟨c50,c51,d50,f50,f51,d51,g51,g52⟩:=stepX_ret (HX5.out.only (((Only.refl g w5).drewN _).trans hO6));have HX6:=Lib.hid (HX5.out.only (((Only.refl g w5).drewN _).trans hO6)))
       all_goals
        go_wp2
        change bodyPost Tryz.prog Tryz.f80 (StepPost g at_ s e a w) Exit.ret _ _
        exact bodyPost_ret (step_result (stepX_blk HX6.out) rfl rfl) rfl (step_bad HX6.out hR6 HM.out)
      ·have HNx2:=Lib.hid (next_yes g q s e a 61 w4 HR4.out (by omega) hse)
       obtain ⟨q1,hq1⟩:∃ q1,q+1=q1:=⟨_,rfl⟩
       rw [hq1] at HNx2
       have HSE:=Lib.hid (show standsB s q 61=true∧q+1=q1∧q1≤s.size from ⟨hse,hq1,by have:=stands_lt hse;omega⟩)
       clear hse hq1
       go_upto_region 16 with (first
        | (
          go_at_call 81
          refine HNx2.out.mono ?_
          rintro en w5 ⟨rfl,hR5,hO5⟩
          have HO5:=Lib.hid (HO4.out.trans hO5)
          have HR5:=Lib.hid hR5
          have HK5:=Lib.hid (show Blk w5 w1.heap.size 126 #[.string key,.string ByteArray.empty] from (hO5.block _ HK4.out.lt (by have:=HG1.out;simp;omega)).trans HK4.out)
          clear HNx2 hR5 hO5 HR4 HO4 HK4 HX4)
        | (
          go_at_call 120
          refine (value_any g q1 s e a _ HR5.out HSE.out.2.2 hs).mono ?_
          rintro en w6 (⟨x,y,p',hE,rfl,hR6,hO6⟩ | ⟨l,q2,hE,rfl,hR6,hO6⟩)
          all_goals
           have hK6:Blk w6 w1.heap.size 126 #[.string key,.string ByteArray.empty]:=(hO6.block _ HK5.out.lt (by have:=HG1.out;simp;omega)).trans HK5.out
           have HO6:=Lib.hid (HO5.out.trans hO6)
           have k60:w6.cell? ⟨w1.heap.size,1,none⟩=some (.string ByteArray.empty):=hK6.cell 1
           have k61:=hK6.frozen 1
           have HK6:=Lib.hid hK6
           have HE:=Lib.hid hE
           have HR6:=Lib.hid hR6
           clear hK6 hE hR6 hO6 HR5 HK5 HO5))
       ·have HO7:=Lib.hid (HO6.out.setCell (p:=⟨w1.heap.size,1,none⟩) (.inr (Nat.le_refl _)) (.string ByteArray.empty))
        have HR7:=Lib.hid (HR6.out.far (p:=⟨w1.heap.size,1,none⟩) (by have:=HG1.out;simp;omega) (.string ByteArray.empty))
        generalize w6.setCell ⟨w1.heap.size,1,none⟩ (.string ByteArray.empty)=w7 at *
        have HX7:=Lib.hid (HX1.out.only HO7.out)
        have HM:=Lib.hid (show stepM s at_=.error (x,y) by rw [HJ.out.2,km_val HSB.out.2.2.1 HSB.out.1 (by rw [HSB.out.2.1];exact HNM.out) HB.out HSE.out.1 (by rw [HSE.out.2.1];exact HE.out)];rfl)
        clear k60 k61 HR6 HO6 HK6
        go_wp2
        refine wp_goto ?_
        refine ⟨rfl,⟨false,r0,b0,p,nm,ks,_,stepFrame_of _ rfl rfl,HX7.out,HSB.out.2.2.1,.inr ⟨rfl,x,y,p',HR7.out,HM.out⟩⟩,?_⟩
        show (0:Nat)<s.size+2-atOf g w'
        rw [atOf_pr HRp.out]
        have:=HSB.out.2.2.1
        omega
       ·have HO7:=Lib.hid (HO6.out.setCell (p:=⟨w1.heap.size,1,none⟩) (.inr (Nat.le_refl _)) (.string (str l)))
        have HR7:=Lib.hid (HR6.out.far (p:=⟨w1.heap.size,1,none⟩) (by have:=HG1.out;simp;omega) (.string (str l)))
        have HK7:=Lib.hid (HK6.out.set_ 1 (.string (str l)))
        generalize w6.setCell ⟨w1.heap.size,1,none⟩ (.string (str l))=w7 at *
        have HX7:=Lib.hid (HX1.out.only HO7.out)
        have HM:=Lib.hid (show stepM s at_=stepRest nm (keysM s q2 (ks++[(key,str l)])) by rw [HJ.out.2,km_go HSB.out.2.2.1 HSB.out.1 (by rw [HSB.out.2.1];exact HNM.out) HB.out HSE.out.1 (by rw [HSE.out.2.1];exact HE.out)])
        have HV2:=Lib.hid (valAt_ok HE.out)
        generalize str l=val at *
        have c0:=HX7.out.2.1.cell 1
        have k70:w7.cell? ⟨w1.heap.size,0,none⟩=some (.string key):=HK7.out.cell 0
        have k71:w7.cell? ⟨w1.heap.size,1,none⟩=some (.string val):=HK7.out.cell 1
        have HXA:=Lib.hid (HX7.out.only ((Only.refl g w7).alloc (.cells #[.string key,.string val] 126)))
        have HRA:=Lib.hid (HR7.out.alloc (.cells #[.string key,.string val] 126))
        have HRD:=Lib.hid (reads_new w7 #[.string key,.string val] 126 2 1 rfl)
        clear k60 k61 HR6 HO6 HK6 HK7 HO7
        obtain ⟨i0,hi0,hz0,hz1,hz2⟩:=info_parts pair_info
        go_upto_region 18 with (at_builtin;go_loud (refine wpList_append_any _ rfl (.tmp 78) (.tmp 80) _ rfl (b0+1) 126 i0 _ 2 32 Tryz.underlying119 hi0 hz0 hz1 hz2 rfl (by omega) _ ks.length (pairCells ks) rfl HXA.out.2.2.1 (w7.heap.size+1) (some ⟨w7.heap.size,0,none⟩) 1 1 [.string key,.string val] rfl (HRD.out) (by simp [Value.oneCell']) (by have:=HL.out;have:=HN.out;simp only [maxLen];omega) (by have:=HL.out;have:=HN.out;omega) (by have:=HXA.out.2.2.2.2;omega) ?_);intro v3 w8 hown3 hg3 hat3;obtain ⟨A3,vc3,rfl,-,-,-⟩:=own_form hown3;have b8:=stepX_b0 HXA.out hg3;have b80:=b8.cell 1;have b81:=b8.frozen 1;have HX8:=Lib.hid (stepX_push HXA.out hg3 hown3);have HR8:=Lib.hid (stepX_pr (u:=.slice A3 (ks.length+1) vc3) HXA.out HRA.out hg3);clear b8 hown3 hg3 hat3)
        refine wp_goto ?_
        refine ⟨rfl,⟨true,r0,b0,q2,nm,ks++[(key,val)],_,stepFrame_of _ rfl rfl,HX8.out,HV2.out.2,.inl ⟨rfl,HR8.out,?_,HM.out⟩⟩,?_⟩
        ·have:=HL.out
         have:=HJ.out.1
         have:=HSB.out.2
         have:=HSE.out.2
         have:=HQ.out.1
         have:=HV2.out
         simp
         omega
        ·show s.size+2-atOf g _<s.size+2-atOf g w'
         rw [atOf_pr HRp.out,atOf_pr HR8.out]
         have:=HSB.out.2
         have:=HSE.out.2
         have:=HQ.out.1
         have:=HV2.out
         omega
     ·clear HV
      have hwr:IntKind.i64.wrap (m:Int)=(m:Int):=by have:=HN.out;rw [IntKind.wrap_i64];omega
      have hm1:(m:Int)<(m:Int)+1:=by omega
      have hm:(m:Int)≤100000:=by have:=HN.out;omega
      cases hb:Op.bytesLess kl.1.toList key.toList
      ·have HB:=Lib.hid (hB.trans hb)
       clear hB
       go_upto_region 11 with (fail)
       go_quiet (fail)
       have HR4:=Lib.hid (HR3.out.drewN nq)
       have HX4:=Lib.hid (HX3.out.only ((Only.refl g w3).drewN nq))
       have HM:=Lib.hid (show stepM s at_=.error (160,(p1:Int)) by rw [HJ.out.2,km_falls HSB.out.2.2.1 HSB.out.1 (by rw [HSB.out.2.1];exact HNM.out) HB.out,HSB.out.2.1];rfl)
       clear hcell hwr hm1 hm hb HB
       generalize w3.drewN nq=w4 at *
       obtain ⟨c0,c1,d0,f0,f1,d1,g1,g2⟩:=stepX_ret HX4.out
       clear HX3 HO3 HK3 HR3 k30 k31 k32
       go_upto_region 12 with (fail)
       go_region_with (go_at_call 79;refine (HF.out _ ?_).mono ?_;go_loud (exact HR4.out.drewN _);rintro en w5 ⟨rfl,hR5,hO5⟩;obtain ⟨c50,c51,d50,f50,f51,d51,g51,g52⟩:=stepX_ret (HX4.out.only (((Only.refl g w4).drewN _).trans hO5));have HX5:=Lib.hid (HX4.out.only (((Only.refl g w4).drewN _).trans hO5)))
       all_goals
        go_wp2
        change bodyPost Tryz.prog Tryz.f80 (StepPost g at_ s e a w) Exit.ret _ _
        exact bodyPost_ret (step_result (stepX_blk HX5.out) rfl rfl) rfl (step_bad HX5.out hR5 HM.out)
      ·have HB:=Lib.hid (hB.trans hb)
       clear hB
       go_upto_region 11 with (fail)
       go_quiet (fail)
       clear hcell hwr hm1 hm hb
       go_upto_region 13 with (fail)
       have HR4:=Lib.hid (HR3.out.drewN nq)
       have HO4:=Lib.hid (HO3.out.drewN nq)
       have HX4:=Lib.hid (HX3.out.only ((Only.refl g w3).drewN nq))
       have HK4:=Lib.hid (HK3.out.drewN nq)
       clear HX3 HO3 HK3 HR3 k30 k31 k32 c0 c1 d0 d1 f0 f1 g1 g2 HF
       generalize w3.drewN nq=w4 at *
       cases hse:standsB s q 61
       ·have HNx2:=Lib.hid (next_no g q s e a 61 w4 HR4.out (by omega) hse)
        have HM:=Lib.hid (show stepM s at_=.error (160,(q:Int)) by rw [HJ.out.2,km_noeq HSB.out.2.2.1 HSB.out.1 (by rw [HSB.out.2.1];exact HNM.out) HB.out hse];rfl)
        have HF:=Lib.hid (fun W hW=>fail_any g q s e a 160 q W hW)
        clear hse
        go_upto_region 14 with (go_at_call 81;refine HNx2.out.mono ?_;rintro en w5 ⟨rfl,hR5,hO5⟩;have k5:=hR5.c1;have HX5:=Lib.hid (HX4.out.only hO5);obtain ⟨c0,c1,d0,f0,f1,d1,g1,g2⟩:=stepX_ret HX5.out;have HR5:=Lib.hid hR5;clear hR5 hO5 HNx2)
        go_region_with (go_at_call 79;refine (HF.out _ ?_).mono ?_;go_loud (exact HR5.out.drewN _);rintro en w6 ⟨rfl,hR6,hO6⟩;obtain ⟨c50,c51,d50,f50,f51,d51,g51,g52⟩:=stepX_ret (HX5.out.only (((Only.refl g w5).drewN _).trans hO6));have HX6:=Lib.hid (HX5.out.only (((Only.refl g w5).drewN _).trans hO6)))
        all_goals
         go_wp2
         change bodyPost Tryz.prog Tryz.f80 (StepPost g at_ s e a w) Exit.ret _ _
         exact bodyPost_ret (step_result (stepX_blk HX6.out) rfl rfl) rfl (step_bad HX6.out hR6 HM.out)
       ·have HNx2:=Lib.hid (next_yes g q s e a 61 w4 HR4.out (by omega) hse)
        obtain ⟨q1,hq1⟩:∃ q1,q+1=q1:=⟨_,rfl⟩
        rw [hq1] at HNx2
        have HSE:=Lib.hid (show standsB s q 61=true∧q+1=q1∧q1≤s.size from ⟨hse,hq1,by have:=stands_lt hse;omega⟩)
        clear hse hq1
        go_upto_region 16 with (first
         | (
           go_at_call 81
           refine HNx2.out.mono ?_
           rintro en w5 ⟨rfl,hR5,hO5⟩
           have HO5:=Lib.hid (HO4.out.trans hO5)
           have HR5:=Lib.hid hR5
           have HK5:=Lib.hid (show Blk w5 w1.heap.size 126 #[.string key,.string ByteArray.empty] from (hO5.block _ HK4.out.lt (by have:=HG1.out;simp;omega)).trans HK4.out)
           clear HNx2 hR5 hO5 HR4 HO4 HK4 HX4)
         | (
           go_at_call 120
           refine (value_any g q1 s e a _ HR5.out HSE.out.2.2 hs).mono ?_
           rintro en w6 (⟨x,y,p',hE,rfl,hR6,hO6⟩ | ⟨l,q2,hE,rfl,hR6,hO6⟩)
           all_goals
            have hK6:Blk w6 w1.heap.size 126 #[.string key,.string ByteArray.empty]:=(hO6.block _ HK5.out.lt (by have:=HG1.out;simp;omega)).trans HK5.out
            have HO6:=Lib.hid (HO5.out.trans hO6)
            have k60:w6.cell? ⟨w1.heap.size,1,none⟩=some (.string ByteArray.empty):=hK6.cell 1
            have k61:=hK6.frozen 1
            have HK6:=Lib.hid hK6
            have HE:=Lib.hid hE
            have HR6:=Lib.hid hR6
            clear hK6 hE hR6 hO6 HR5 HK5 HO5))
        ·have HO7:=Lib.hid (HO6.out.setCell (p:=⟨w1.heap.size,1,none⟩) (.inr (Nat.le_refl _)) (.string ByteArray.empty))
         have HR7:=Lib.hid (HR6.out.far (p:=⟨w1.heap.size,1,none⟩) (by have:=HG1.out;simp;omega) (.string ByteArray.empty))
         generalize w6.setCell ⟨w1.heap.size,1,none⟩ (.string ByteArray.empty)=w7 at *
         have HX7:=Lib.hid (HX1.out.only HO7.out)
         have HM:=Lib.hid (show stepM s at_=.error (x,y) by rw [HJ.out.2,km_val HSB.out.2.2.1 HSB.out.1 (by rw [HSB.out.2.1];exact HNM.out) HB.out HSE.out.1 (by rw [HSE.out.2.1];exact HE.out)];rfl)
         clear k60 k61 HR6 HO6 HK6
         go_wp2
         refine wp_goto ?_
         refine ⟨rfl,⟨false,r0,b0,p,nm,ks,_,stepFrame_of _ rfl rfl,HX7.out,HSB.out.2.2.1,.inr ⟨rfl,x,y,p',HR7.out,HM.out⟩⟩,?_⟩
         show (0:Nat)<s.size+2-atOf g w'
         rw [atOf_pr HRp.out]
         have:=HSB.out.2.2.1
         omega
        ·have HO7:=Lib.hid (HO6.out.setCell (p:=⟨w1.heap.size,1,none⟩) (.inr (Nat.le_refl _)) (.string (str l)))
         have HR7:=Lib.hid (HR6.out.far (p:=⟨w1.heap.size,1,none⟩) (by have:=HG1.out;simp;omega) (.string (str l)))
         have HK7:=Lib.hid (HK6.out.set_ 1 (.string (str l)))
         generalize w6.setCell ⟨w1.heap.size,1,none⟩ (.string (str l))=w7 at *
         have HX7:=Lib.hid (HX1.out.only HO7.out)
         have HM:=Lib.hid (show stepM s at_=stepRest nm (keysM s q2 (ks++[(key,str l)])) by rw [HJ.out.2,km_go HSB.out.2.2.1 HSB.out.1 (by rw [HSB.out.2.1];exact HNM.out) HB.out HSE.out.1 (by rw [HSE.out.2.1];exact HE.out)])
         have HV2:=Lib.hid (valAt_ok HE.out)
         generalize str l=val at *
         have c0:=HX7.out.2.1.cell 1
         have k70:w7.cell? ⟨w1.heap.size,0,none⟩=some (.string key):=HK7.out.cell 0
         have k71:w7.cell? ⟨w1.heap.size,1,none⟩=some (.string val):=HK7.out.cell 1
         have HXA:=Lib.hid (HX7.out.only ((Only.refl g w7).alloc (.cells #[.string key,.string val] 126)))
         have HRA:=Lib.hid (HR7.out.alloc (.cells #[.string key,.string val] 126))
         have HRD:=Lib.hid (reads_new w7 #[.string key,.string val] 126 2 1 rfl)
         clear k60 k61 HR6 HO6 HK6 HK7 HO7
         obtain ⟨i0,hi0,hz0,hz1,hz2⟩:=info_parts pair_info
         go_upto_region 18 with (at_builtin;go_loud (refine wpList_append_any _ rfl (.tmp 78) (.tmp 80) _ rfl (b0+1) 126 i0 _ 2 32 Tryz.underlying119 hi0 hz0 hz1 hz2 rfl (by omega) _ ks.length (pairCells ks) rfl HXA.out.2.2.1 (w7.heap.size+1) (some ⟨w7.heap.size,0,none⟩) 1 1 [.string key,.string val] rfl (HRD.out) (by simp [Value.oneCell']) (by have:=HL.out;have:=HN.out;simp only [maxLen];omega) (by have:=HL.out;have:=HN.out;omega) (by have:=HXA.out.2.2.2.2;omega) ?_);intro v3 w8 hown3 hg3 hat3;obtain ⟨A3,vc3,rfl,-,-,-⟩:=own_form hown3;have b8:=stepX_b0 HXA.out hg3;have b80:=b8.cell 1;have b81:=b8.frozen 1;have HX8:=Lib.hid (stepX_push HXA.out hg3 hown3);have HR8:=Lib.hid (stepX_pr (u:=.slice A3 (ks.length+1) vc3) HXA.out HRA.out hg3);clear b8 hown3 hg3 hat3)
         refine wp_goto ?_
         refine ⟨rfl,⟨true,r0,b0,q2,nm,ks++[(key,val)],_,stepFrame_of _ rfl rfl,HX8.out,HV2.out.2,.inl ⟨rfl,HR8.out,?_,HM.out⟩⟩,?_⟩
         ·have:=HL.out
          have:=HJ.out.1
          have:=HSB.out.2
          have:=HSE.out.2
          have:=HQ.out.1
          have:=HV2.out
          simp
          omega
         ·show s.size+2-atOf g _<s.size+2-atOf g w'
          rw [atOf_pr HRp.out,atOf_pr HR8.out]
          have:=HSB.out.2
          have:=HSE.out.2
          have:=HQ.out.1
          have:=HV2.out
          omega
  ·obtain ⟨c0,c1,d0,f0,f1,d1,g1,g2⟩:=stepX_ret HX.out
   go_wp2
   change bodyPost Tryz.prog Tryz.f80 (StepPost g at_ s e a w) Exit.ret _ _
   exact bodyPost_ret (step_result (stepX_blk HX.out) rfl rfl) rfl (step_bad HX.out hR hM)
 ·intro HF0
  have HF:=Lib.hid HF0
  clear HF0
  have hg:=h.lt
  have HN:=Lib.hid (fun W hW=>name_any g at_ s e a W hW hle (by omega))
  have HP:=Lib.hid (h.alloc (.cells #[.string ByteArray.empty,.slice none 0 0] 121))
  have HB:=Lib.hid (Blk.new w 121 #[.string ByteArray.empty,.slice none 0 0])
  have HO:=Lib.hid ((Only.refl g w).alloc (.cells #[.string ByteArray.empty,.slice none 0 0] 121))
  clear h
  go_upto_block 2 with (go_at_call 119;go_loud (refine (HN.out _ HP.out).mono ?_;rintro en w1 (⟨x,y,p,hE,rfl,hR1,hO1⟩ | ⟨hE,rfl,hR1,hO1⟩)))
  ·have HX:=Lib.hid (show StepX g w.heap.size w1.heap.size w ByteArray.empty [] (.slice none 0 0) (w1.alloc (Obj.cells #[Value.string ByteArray.empty,Value.slice none 0 0] 121)) from
    ⟨((hO1.block _ (by simp) (by simp;omega)).trans HB.out |> fun hB:Blk w1 _ _ _=>hB.alloc _),Blk.new _ _ _,World.ownsRow_nil _ _ _ _,(HO.out.trans hO1).alloc _,hg,Nat.le_refl _,by have:=hO1.size;simp at this;omega,by simp⟩)
   have HR:=Lib.hid (hR1.alloc (Obj.cells #[Value.string ByteArray.empty,Value.slice none 0 0] 121))
   have HS:=Lib.hid (show stepM s at_=.error (x,y) by unfold stepM nameM;rw [hE])
   rename_i K hK
   refine wp_label (hK _ _ ?_)
   refine HF.out _ _ ⟨false,w.heap.size,w1.heap.size,s.size,ByteArray.empty,[],.slice none 0 0,stepFrame_of _ rfl rfl,HX.out,Nat.le_refl _,.inr ⟨rfl,x,y,p,HR.out,HS.out⟩⟩
  ·have HX:=Lib.hid (show StepX g w.heap.size w1.heap.size w (s.extract at_ (nameEnd s at_)) [] (.slice none 0 0) (w1.alloc (Obj.cells #[Value.string (s.extract at_ (nameEnd s at_)),Value.slice none 0 0] 121)) from
    ⟨((hO1.block _ (by simp) (by simp;omega)).trans HB.out |> fun hB:Blk w1 _ _ _=>hB.alloc _),Blk.new _ _ _,World.ownsRow_nil _ _ _ _,(HO.out.trans hO1).alloc _,hg,Nat.le_refl _,by have:=hO1.size;simp at this;omega,by simp⟩)
   have HR:=Lib.hid (hR1.alloc (Obj.cells #[Value.string (s.extract at_ (nameEnd s at_)),Value.slice none 0 0] 121))
   have HS:=Lib.hid (show stepM s at_=stepRest (s.extract at_ (nameEnd s at_)) (keysM s (nameEnd s at_) []) from stepM_rest (by unfold nameM;rw [hE]))
   rename_i K hK
   refine wp_label (hK _ _ ?_)
   exact HF.out _ _ ⟨true,w.heap.size,w1.heap.size,nameEnd s at_,s.extract at_ (nameEnd s at_),[],.slice none 0 0,stepFrame_of _ rfl rfl,HX.out,(nameEnd_le hle).2,.inl ⟨rfl,HR.out,Nat.zero_le _,HS.out⟩⟩
end
section
open Go.RowKit

abbrev PStep:=ByteArray×List PKey
def stepsF:Nat→ByteArray→Nat→List PStep→Except (Int×Int) (List PStep)
 | 0,_,p,_=>.error (3,(p:Int))
 | k+1,s,p,l =>
  if l.length=64 then .error (3,(p:Int)) else
   match stepM s p with
   | .error e=>.error e
   | .ok (st,q)=>if q=s.size then .ok (l++[st]) else if standsB s q 47=true then stepsF k s (q+1) (l++[st]) else .error (160,(q:Int))
def stepsM (s:ByteArray)(p:Nat)(l:List PStep):Except (Int×Int) (List PStep):=stepsF (65-l.length) s p l
def parseM (s:ByteArray):Except (Int×Int) (List PStep) :=
 if s.size > 512 then .error (3,512) else
  match broken s with
  | some k=>.error (6,(k:Int))
  | none=>if s.size=0 then .ok [] else stepsM s 0 []
theorem steps_full {s:ByteArray}{p:Nat}{l:List PStep}(h:l.length=64):stepsM s p l=.error (3,(p:Int)):=by
 unfold stepsM
 rw [h]
 simp [stepsF,h]
section
variable {s:ByteArray} {p:Nat} {l:List PStep}
theorem steps_step (h:l.length<64):stepsM s p l=match stepM s p with
   | .error e=>.error e
   | .ok (st,q)=>if q=s.size then .ok (l++[st]) else if standsB s q 47=true then stepsM s (q+1) (l++[st]) else .error (160,(q:Int)):=by
 unfold stepsM
 rw [show 65-l.length=(64-l.length)+1 by omega]
 simp only [stepsF]
 rw [if_neg (by omega)]
 cases stepM s p with
 | error e=>rfl
 | ok x =>
  obtain ⟨st,q⟩:=x
  simp only [List.length_append,List.length_cons,List.length_nil]
  rw [show 65-(l.length+(0+1))=64-l.length by omega]
theorem steps_err {e:Int×Int}(h:l.length<64)(hs:stepM s p=.error e):stepsM s p l=.error e:=by rw [steps_step h,hs]
theorem steps_end {st:PStep}(h:l.length<64)(hs:stepM s p=.ok (st,s.size)):stepsM s p l=.ok (l++[st]):=by
 rw [steps_step h,hs]
 simp
theorem steps_go {st:PStep}{q:Nat}(h:l.length<64)(hs:stepM s p=.ok (st,q))(hq:q≠s.size)(hb:standsB s q 47=true):stepsM s p l=stepsM s (q+1) (l++[st]):=by
 rw [steps_step h,hs]
 simp [hq,hb]
theorem steps_no {st:PStep}{q:Nat}(h:l.length<64)(hs:stepM s p=.ok (st,q))(hq:q≠s.size)(hb:standsB s q 47=false):stepsM s p l=.error (160,(q:Int)):=by
 rw [steps_step h,hs]
 simp [hq,hb]
end
theorem keysF_ok (s:ByteArray):∀(k p:Nat) (ks l:List PKey) (q:Nat),p≤s.size→keysF k s p ks=.ok (l,q)→p≤q∧q≤s.size:=by
 intro k
 induction k with
 | zero=>intro p ks l q hp h;simp [keysF] at h;omega
 | succ k ih =>
  intro p ks l q hp h
  simp only [keysF] at h
  split at h
  ·rename_i hb
   have hl:=stands_lt hb
   cases hn:nameM s (p+1) with
   | error e=>rw [hn] at h;cases h
   | ok x =>
    obtain ⟨key,q1⟩:=x
    have hq:=nameM_ok hn (by omega)
    rw [hn] at h
    simp only at h
    split at h
    ·split at h
     ·cases hv:valAt s (q1+1) (q1+1) false [] with
      | error e=>rw [hv] at h;cases h
      | ok y =>
       obtain ⟨v,r⟩:=y
       have hr:=valAt_ok hv
       rw [hv] at h
       simp only at h
       have:=ih r _ _ _ hr.2 h
       omega
     ·cases h
    ·cases h
  ·simp at h
   omega
theorem stepM_ok {s:ByteArray}{p q:Nat}{st:PStep}(h:stepM s p=.ok (st,q))(hp:p≤s.size):p≤q∧q≤s.size:=by
 unfold stepM at h
 cases hn:nameM s p with
 | error e=>rw [hn] at h;cases h
 | ok x =>
  obtain ⟨nm,q1⟩:=x
  have hq:=nameM_ok hn hp
  rw [hn] at h
  simp only at h
  cases hk:keysM s q1 [] with
  | error e=>rw [hk] at h;cases h
  | ok y =>
   obtain ⟨ks,r⟩:=y
   rw [hk] at h
   simp at h
   have:=keysF_ok s _ q1 [] ks r hq.2.1 hk
   omega

/-- The cells of a row of steps whose keys are the values vs. -/
def stepCells:List PStep→List Value→List Value
 | st::l,v::vs=>.string st.1::v::stepCells l vs
 | _,_=>[]
theorem stepCells_len:∀(l:List PStep) (vs:List Value),vs.length=l.length→(stepCells l vs).length=l.length*2
 | [],[],_=>rfl
 | st::l,v::vs,h=>by
  have:=stepCells_len l vs (by simpa using h)
  simp [stepCells,this]
  omega
 | [],_::_,h=>by simp at h
 | _::_,[],h=>by simp at h
theorem stepCells_append:∀(l:List PStep) (vs:List Value) (st:PStep) (v:Value),vs.length=l.length→stepCells (l++[st]) (vs++[v])=stepCells l vs++[.string st.1,v]
 | [],[],_,_,_=>rfl
 | st0::l,v0::vs,st,v,h=>by
  have:=stepCells_append l vs st v (by simpa using h)
  simp [stepCells,this]
 | [],_::_,_,_,h=>by simp at h
 | _::_,[],_,_,h=>by simp at h
theorem stepCells_at:∀(l:List PStep) (vs:List Value) (i:Nat) (st:PStep) (v:Value),l[i]?=some st→vs[i]?=some v→(stepCells l vs)[i*2]?=some (.string st.1)∧(stepCells l vs)[i*2+1]?=some v
 | st0::l,v0::vs,0,st,v,h1,h2=>by
  simp at h1 h2
  subst h1 h2
  simp [stepCells]
 | st0::l,v0::vs,i+1,st,v,h1,h2=>by
  have:=stepCells_at l vs i st v (by simpa using h1) (by simpa using h2)
  simp only [stepCells]
  rw [show (i+1)*2=i*2+2 by omega,show i*2+2+1=i*2+1+2 by omega]
  simpa using this
 | [],_,_,_,_,h1,_=>by simp at h1
 | _::_,[],_,_,_,_,h2=>by simp at h2
/-- The rows of keys, rising. -/
def KeysOwn (w:World)(base:Nat)(l:List PStep)(vs:List Value):Prop :=
 (∀(i:Nat) (st:PStep) (kv:Value),l[i]?=some st→vs[i]?=some kv→w.ownsRow base 126 2 kv st.2.length (pairCells st.2)) ∧
 (∀(i j a b:Nat) (kv kv':Value),i<j→vs[i]?=some kv→vs[j]?=some kv'→kv.ownBlock=some a→kv'.ownBlock=some b→a<b)
def StepsIn (w:World)(base:Nat)(v:Value)(l:List PStep)(vs:List Value):Prop :=
 vs.length=l.length∧w.ownsRow base 121 2 v l.length (stepCells l vs)∧KeysOwn w base l vs
def StepsOwn (w:World)(base:Nat)(v:Value)(l:List PStep):Prop:=∃ vs,StepsIn w base v l vs
theorem stepsIn_nil (w:World)(base:Nat):StepsIn w base (.slice none 0 0) [] [] :=
 ⟨rfl,World.ownsRow_nil _ _ _ _,⟨fun i st kv h _=>by simp at h,fun i j a b kv kv' _ h=>by simp at h⟩⟩
theorem KeysOwn.kept {w w':World}{base:Nat}{l:List PStep}{vs:List Value}{row:Option Nat}(h:KeysOwn w base l vs)(_hlen:vs.length=l.length)(hg:w.grownBy w' row)(hne:∀(i:Nat) (kv:Value) (k:Nat),vs[i]?=some kv→kv.ownBlock=some k→row≠some k):KeysOwn w' base l vs:=by
 refine ⟨fun i st kv h1 h2=>(h.1 i st kv h1 h2).kept hg ?_,h.2⟩
 cases hk:kv.ownBlock with
 | none=>exact .inl rfl
 | some k=>exact .inr fun e=>hne i kv k h2 hk e.symm
theorem StepsIn.step {w:World}{base:Nat}{v:Value}{l:List PStep}{vs:List Value}(h:StepsIn w base v l vs){i:Nat}{kv:Value}(hi:vs[i]?=some kv):∃ st,l[i]?=some st:=by
 have:=(List.getElem?_eq_some_iff.1 hi).1
 have:=h.1
 exact ⟨l[i]'(by omega),by simp [show i<l.length by omega]⟩
theorem StepsIn.lt {w:World}{base:Nat}{v:Value}{l:List PStep}{vs:List Value}(h:StepsIn w base v l vs):∀(i:Nat) (kv:Value) (k:Nat),vs[i]?=some kv→kv.ownBlock=some k→base≤k∧k<w.heap.size:=by
 intro i kv k hi hk
 obtain ⟨st,hst⟩:=h.step hi
 exact (h.2.2.1 i st kv hst hi).lt k hk
theorem StepsIn.only {g:Nat}{w w':World}{base:Nat}{v:Value}{l:List PStep}{vs:List Value}(h:StepsIn w base v l vs)(hO:Only g w w')(hg:g<base):StepsIn w' base v l vs:=by
 have hlt:=h.lt
 obtain ⟨h1,h2,h3⟩:=h
 refine ⟨h1,h2.kept hO ?_,h3.kept h1 hO ?_⟩
 ·cases hv:v.ownBlock with
  | none=>exact .inl rfl
  | some k =>
   have:=(h2.lt k hv).1
   exact .inr (by simp;omega)
 ·intro i kv k hi hk e
  have:=(hlt i kv k hi hk).1
  simp at e
  omega
/-- Rows of other types are other rows. -/
theorem own_other {w:World}{base base':Nat}{e e':TypeId}{size size':Nat}{v v':Value}{n n':Nat}{xs xs':List Value}(h:w.ownsRow base e size v n xs)(h':w.ownsRow base' e' size' v' n' xs')(hee:e≠e'):∀ k,v.ownBlock=some k→v'.ownBlock≠some k:=by
 intro k hk hk'
 rcases h.2 with ⟨rfl,_⟩ | ⟨g,cap,cur,rfl,_,hg,_⟩
 ·simp [Value.ownBlock] at hk
 ·rcases h'.2 with ⟨rfl,_⟩ | ⟨g',cap',cur',rfl,_,hg',_⟩
  ·simp [Value.ownBlock] at hk'
  ·simp [Value.ownBlock] at hk hk'
   subst hk hk'
   rw [hg] at hg'
   simp at hg'
   exact hee hg'.2
/-- One step more behind them. -/
theorem StepsIn.push {w w':World}{base B:Nat}{v v' kv:Value}{l:List PStep}{vs:List Value}{st:PStep}(h:StepsIn w base v l vs)(hB:base≤B)(hl:∀(i:Nat) (kv':Value) (k:Nat),vs[i]?=some kv'→kv'.ownBlock=some k→k<B)
  (hk:w.ownsRow B 126 2 kv st.2.length (pairCells st.2))(hg:w.grownBy w' v.ownBlock)
  (hown:w'.ownsRow base 121 2 v' (l.length+1) (stepCells l vs++[.string st.1,kv])):StepsIn w' base v' (l++[st]) (vs++[kv]):=by
 have hst:=fun (i:Nat) (kv':Value) (hi:vs[i]?=some kv')=>h.step hi
 obtain ⟨h1,h2,h3⟩:=h
 have hrow:∀(i:Nat) (kv':Value) (k:Nat),vs[i]?=some kv'→kv'.ownBlock=some k→v.ownBlock≠some k:=by
  intro i kv' k hi hkk
  obtain ⟨st',hst'⟩:=hst i kv' hi
  exact own_other (h3.1 i st' kv' hst' hi) h2 (by decide) k hkk
 have h3':=h3.kept h1 hg hrow
 have hk':w'.ownsRow B 126 2 kv st.2.length (pairCells st.2):=hk.kept hg (by
  cases hkb:kv.ownBlock with
  | none=>exact .inl rfl
  | some k=>exact .inr fun e=>own_other hk h2 (by decide) k hkb e.symm)
 refine ⟨by simp [h1],?_,?_,?_⟩
 ·rw [stepCells_append l vs st kv h1,List.length_append]
  exact hown
 ·intro i st' kv' hi hi'
  rcases Nat.lt_or_ge i l.length with hlt' | hge
  ·rw [List.getElem?_append_left hlt'] at hi
   rw [List.getElem?_append_left (by omega)] at hi'
   exact h3'.1 i st' kv' hi hi'
  ·rw [List.getElem?_append_right hge] at hi
   rw [List.getElem?_append_right (by omega)] at hi'
   have hi0:i-l.length=0:=by
    have:=(List.getElem?_eq_some_iff.1 hi).1
    simp at this
    omega
   rw [hi0] at hi
   rw [show i-vs.length=0 by omega] at hi'
   simp at hi hi'
   subst hi hi'
   exact own_base hk' hB
 ·intro i j a b kv1 kv2 hij hi hj ha hb
  rcases Nat.lt_or_ge j l.length with hlt' | hge
  ·rw [List.getElem?_append_left (by omega)] at hi hj
   exact h3.2 i j a b kv1 kv2 hij hi hj ha hb
  ·rw [List.getElem?_append_right (by omega)] at hj
   have hj0:j-vs.length=0:=by
    have:=(List.getElem?_eq_some_iff.1 hj).1
    simp at this
    omega
   rw [List.getElem?_append_left (by omega)] at hi
   rw [hj0] at hj
   simp at hj
   subst hj
   have:=hl i kv1 a hi ha
   have:=(hk.lt b hb).1
   omega
end
section
open Go.RowKit

def ParsePost (s:ByteArray)(w:World)(en:Ending)(w':World):Prop:=Below w.heap.size w w' ∧
 ((∃ x y,parseM s=.error (x,y)∧en=.returned (.tuple #[.slice none 0 0,spotV x y]))∨(∃ l v,parseM s=.ok l∧en=.returned (.tuple #[v,spotV 0 0])∧StepsOwn w' w.heap.size v l))
theorem results_tmp_row {fn:Func}{P:Program}{p u:Tmp}{ty:TypeId}(h:fn.results=#[.tmp u,.cell p ty])(tmps:Array Value)(w:World)(g:Nat)(t:TypeId)(cs:Array Value)(d:TypeDesc)
  (hp:tmps.getD p undef=.pointer (some ⟨g,0,none⟩))(hg:Blk w g t cs)
  (hu:P.underlying ty=some d)(hd:(match d with | .struct _ | .array _ _=>true | _=>false)=true)(hi:(P.info? ty).map (·.size)=some cs.size){x:Value}(hx:tmps.getD u undef=x) :
  (results fn tmps).run P w=.ok (.tuple #[x,.agg cs]) w:=by
 have hp':tmps[p]?.getD undef=.pointer (some ⟨g,0,none⟩):=by simpa using hp
 have hx':tmps[u]?.getD undef=x:=by simpa using hx
 simp [results,h,hp',hx',asAddr,run_loadVar_row w g t ty cs (0,0) d hg hu hd hi,Result.andThen]
theorem spot_info:(Tryz.prog.info? 116).map (·.size)=some 2:=by kernel_rfl
theorem parse_result {tmps:Array Value}{w:World}{r0:Nat}{x y:Int}{v:Value}(hB:Blk w r0 116 #[.int .i64 x,.int .i64 y])(hp:tmps.getD 3 undef=.pointer (some ⟨r0,0,none⟩))(hu:tmps.getD 2 undef=v) :
  (results Tryz.f60 tmps).run Tryz.prog w=.ok (.tuple #[v,spotV x y]) w :=
 results_tmp_row Tryz.results60 tmps w r0 116 #[.int .i64 x,.int .i64 y] _ hp hB Tryz.underlying116 rfl spot_info hu
/-- A store of two cells: what it reads. -/
theorem Blk.two {w:World}{r:Nat}{t:TypeId}{a b:Value}(h:Blk w r t #[a,b])(x:Value) :
  w.cell? ⟨r,0,none⟩=some a∧w.frozen? ⟨r,0,none⟩=false∧w.cell? ⟨r,1,none⟩=some b∧w.frozen? ⟨r,1,none⟩=false ∧
  (w.setCell ⟨r,0,none⟩ x).cell? ⟨r,1,none⟩=some b∧(w.setCell ⟨r,0,none⟩ x).frozen? ⟨r,1,none⟩=false :=
 ⟨h.cell 0,h.frozen 0,h.cell 1,h.frozen 1,(h.set_ 0 x).cell 1,(h.set_ 0 x).frozen 1⟩
theorem Blk.two_set {w:World}{r:Nat}{t:TypeId}{a b:Value}(h:Blk w r t #[a,b])(x y:Value):Blk ((w.setCell ⟨r,0,none⟩ x).setCell ⟨r,1,none⟩ y) r t #[x,y]:=(h.set_ 0 x).set_ 1 y

theorem own_only {g:Nat}{w w':World}{base:Nat}{e:TypeId}{size:Nat}{v:Value}{n:Nat}{xs:List Value}(h:w.ownsRow base e size v n xs)(hO:Only g w w')(hg:g<base):w'.ownsRow base e size v n xs:=h.kept hO (by
 cases hv:v.ownBlock with
 | none=>exact .inl rfl
 | some k =>
  have:=(h.lt k hv).1
  exact .inr (by simp;omega))
/-- Where Parse's loop is. -/
def ParseAt (g r0:Nat)(s:ByteArray)(wA:World)(v:Value)(p:Nat)(l:List PStep)(vs:List Value)(wr:World):Prop :=
 PR wr g s p 0 0∧Blk wr r0 116 #[.int .i64 0,.int .i64 0]∧Only g wA wr∧StepsIn wr wA.heap.size v l vs∧p≤s.size∧l.length≤p∧l.length≤64∧parseM s=stepsM s p l
theorem StepsIn.base {w:World}{base base':Nat}{v:Value}{l:List PStep}{vs:List Value}(h:StepsIn w base v l vs)(hb:base'≤base):StepsIn w base' v l vs :=
 ⟨h.1,own_base h.2.1 hb,fun i st kv h1 h2=>own_base (h.2.2.1 i st kv h1 h2) hb,h.2.2.2⟩
theorem stepz_info:(Tryz.prog.info? 121).map (fun i=>(i.zero,i.size,i.bytes))=some (some (.agg #[.string ByteArray.empty,.slice none 0 0]),2,40):=by kernel_rfl
/-- The end of a reader that failed. -/
theorem parse_bad {g r0:Nat}{s:ByteArray}{w wA W:World}{x y:Int}(hw:w.heap.size≤r0∧r0<g)(hO:Only g wA W)(hBL:Below w.heap.size w wA)(hgA:g<wA.heap.size)(hM:parseM s=.error (x,y)) :
  ParsePost s w (.returned (.tuple #[.slice none 0 0,spotV x y])) ((W.setCell ⟨r0,0,none⟩ (.int .i64 x)).setCell ⟨r0,1,none⟩ (.int .i64 y)).drew :=
 ⟨(((Below.only hBL hO (by omega) (by omega)).setCell (by simp;omega) _).setCell (by simp;omega) _).drew,.inl ⟨x,y,hM,rfl⟩⟩

set_option maxHeartbeats 4000000 in
theorem parse_any (s:ByteArray)(w:World)(hs:s.size≤140737488355328) :
  Calls Tryz.prog 60 #[.string s] w (ParsePost s w):=by
 by_cases h512:s.size > 512
 ·have hq:(512:Int)<(s.size:Int):=by omega
  have HM:=Lib.hid (show parseM s=.error (3,512) by unfold parseM;rw [if_pos h512])
  go_enter Tryz.func60,Tryz.ntmps60
  go_wp2
  exact bodyPost_ret (parse_result (Blk.new w _ _) rfl rfl) rfl ⟨(Below.refl _ _).alloc (Nat.le_refl _) _,.inl ⟨3,512,HM.out,rfl⟩⟩
 ·have hq:¬ (512:Int)<(s.size:Int):=by omega
  have HC:=Lib.hid (fun W=>check_any s W hs)
  cases hbr:broken s with
  | some k =>
   rw [show checkV s=.agg #[.int .i64 6,.int .i64 k] by unfold checkV;rw [hbr];rfl] at HC
   have HM:=Lib.hid (show parseM s=.error (6,(k:Int)) by unfold parseM;rw [if_neg h512,hbr])
   clear hbr
   go_enter Tryz.func60,Tryz.ntmps60
   go_upto_region 5 with (go_at_call 75;refine (HC.out _).mono ?_;rintro en w1 ⟨rfl,hO1⟩;have hB1:=(Blk.new w 116 #[.int .i64 0,.int .i64 0]).below hO1 (by simp);have HBL:=Lib.hid (((Below.refl _ w).alloc (Nat.le_refl _) _).trans (hO1.mono (by simp)));have HSZ:=Lib.hid hO1.size;obtain ⟨b0,b1,b2,b3,b4,b5⟩:=(hB1.alloc (.cells #[.int .i64 6,.int .i64 k] 116)).two (.int .i64 6);have HB1:=Lib.hid hB1;clear hB1 hO1)
   go_region_with (fail)
   all_goals
    go_wp2
    exact bodyPost_ret (parse_result (((HB1.out.alloc _).two_set _ _).drewN 1) rfl rfl) rfl ⟨(((HBL.out.alloc (by have:=HSZ.out;simp at this;omega) _).setCell (by simp) _).setCell (by simp) _).drew,.inl ⟨6,k,HM.out,rfl⟩⟩
  | none =>
   rw [show checkV s=.agg #[.int .i64 0,.int .i64 0] by unfold checkV;rw [hbr];rfl] at HC
   by_cases h0:s.size=0
   ·obtain rfl:s=ByteArray.empty:=ByteArray.ext (Array.eq_empty_of_size_eq_zero h0)
    have HM:=Lib.hid (show parseM ByteArray.empty=.ok [] by unfold parseM;rw [if_neg h512,hbr];rfl)
    clear hbr
    go_enter Tryz.func60,Tryz.ntmps60
    go_upto_region 5 with (go_at_call 75;refine (HC.out _).mono ?_;rintro en w1 ⟨rfl,hO1⟩;have hB1:=(Blk.new w 116 #[.int .i64 0,.int .i64 0]).below hO1 (by simp);have HBL:=Lib.hid (((Below.refl _ w).alloc (Nat.le_refl _) _).trans (hO1.mono (by simp)));have HSZ:=Lib.hid hO1.size;obtain ⟨b0,b1,b2,b3,b4,b5⟩:=(hB1.alloc (.cells #[.int .i64 0,.int .i64 0] 116)).two (.int .i64 0);have HB1:=Lib.hid hB1;clear hB1 hO1)
    go_region_with (fail)
    all_goals
     go_wp2
     exact bodyPost_ret (parse_result (((HB1.out.alloc _).two_set _ _).drewN 1) rfl rfl) rfl ⟨(((HBL.out.alloc (by have:=HSZ.out;simp at this;omega) _).setCell (by simp) _).setCell (by simp) _).drew,.inr ⟨[],_,HM.out,rfl,[],stepsIn_nil _ _⟩⟩
   ·have hne:s.toList.isEmpty=false:=by
     rw [Lib.toList_data]
     cases hd:s.data.toList with
     | nil=>exact absurd (by rw [←ba_len,hd];rfl) h0
     | cons _ _=>rfl
    have HM:=Lib.hid (show parseM s=stepsM s 0 [] by unfold parseM;rw [if_neg h512,hbr];simp only;rw [if_neg h0])
    have HS:=Lib.hid (show 0<s.size∧s.size≤512 by omega)
    clear hbr h0
    go_enter Tryz.func60,Tryz.ntmps60
    go_wp2_with (go_at_call 75;refine (HC.out _).mono ?_;rintro en w1 ⟨rfl,hO1⟩;have hB1:=(Blk.new w 116 #[.int .i64 0,.int .i64 0]).below hO1 (by simp);have HBL:=Lib.hid (((Below.refl _ w).alloc (Nat.le_refl _) _).trans (hO1.mono (by simp)));have HSZ:=Lib.hid hO1.size;have HB1:=Lib.hid hB1;clear hB1 hO1 HC)
    have HR:=Lib.hid (show PR ((w1.alloc (.cells #[.int .i64 0,.int .i64 0] 116)).alloc (.cells #[.string s,.int .i64 0,.int .i64 0,.int .i64 0] 162)) (w1.heap.size+1) s 0 0 0 from by
     have:=Blk.new (w1.alloc (.cells #[.int .i64 0,.int .i64 0] 116)) 162 #[.string s,.int .i64 0,.int .i64 0,.int .i64 0]
     simpa [PR] using this)
    have HB:=Lib.hid ((HB1.out.alloc (.cells #[.int .i64 0,.int .i64 0] 116)).alloc (.cells #[.string s,.int .i64 0,.int .i64 0,.int .i64 0] 162))
    have HG:=Lib.hid (show w.heap.size<w1.heap.size+1∧w1.heap.size+1<((w1.alloc (.cells #[.int .i64 0,.int .i64 0] 116)).alloc (.cells #[.string s,.int .i64 0,.int .i64 0,.int .i64 0] 162)).heap.size by
     have:=HSZ.out
     simp at this ⊢
     omega)
    have HBA:=Lib.hid ((HBL.out.alloc (by have:=HSZ.out;simp at this;omega) (.cells #[.int .i64 0,.int .i64 0] 116)).alloc (by have:=HSZ.out;simp at this ⊢;omega) (.cells #[.string s,.int .i64 0,.int .i64 0,.int .i64 0] 162))
    clear HBL HSZ HB1
    generalize ((w1.alloc (.cells #[.int .i64 0,.int .i64 0] 116)).alloc (.cells #[.string s,.int .i64 0,.int .i64 0,.int .i64 0] 162))=wA at *
    generalize w1.heap.size+1=g at *
    go_loopw [2,6,7,8] (fun _ v _ _ wr=>∃ p l vs,ParseAt g w.heap.size s wA v p l vs wr) (fun _ _ _ _ wr=>s.size+2-atOf g wr)
    case atStart=>exact ⟨0,[],[],HR.out,HB.out,Only.refl g wA,stepsIn_nil _ _,Nat.zero_le _,Nat.zero_le _,by simp,HM.out⟩
    case round =>
     obtain ⟨p,l,vs,hR,hB,hO,hI,hp,hlp,hl64,hM⟩:=hrel
     obtain ⟨A,c,rfl,-,-,-⟩:=own_form hI.2.1
     clear HM HR HB
     have HM:=Lib.hid hM
     have HI:=Lib.hid hI
     have HO:=Lib.hid hO
     have HB:=Lib.hid hB
     have HR:=Lib.hid hR
     have HP:=Lib.hid (show p≤s.size∧l.length≤p∧l.length≤64 from ⟨hp,hlp,hl64⟩)
     clear hM hI hO hp hlp hB hq
     by_cases h64:l.length=64
     ·have HE:=Lib.hid (show parseM s=.error (3,(p:Int)) by rw [HM.out];exact steps_full h64)
      have h64':((l.length:Int) == 64)=true:=by simp [h64]
      have k1:=hR.c1
      clear h64 hR hl64
      go_upto_region 10 with (go_at_call 79;go_loud (refine (fail_any g p s 0 0 3 p _ HR.out).mono ?_;rintro en w2 ⟨rfl,hR2,hO2⟩;have k2:=hR2.c2;have k3:=hR2.c3;have HB2:=Lib.hid (show Blk w2 _ _ _ from (hO2.block _ HB.out.lt (by have:=HG.out;simp;omega)).trans HB.out);obtain ⟨b0,b1,b2,b3,b4,b5⟩:=HB2.out.two (.int .i64 3);have HO2:=Lib.hid (HO.out.trans hO2);clear hR2 hO2))
      go_region_with (fail)
      all_goals
       go_wp2
       change bodyPost Tryz.prog Tryz.f60 (ParsePost s w) Exit.ret _ _
       exact bodyPost_ret (parse_result ((HB2.out.two_set _ _).drewN 1) rfl rfl) rfl (parse_bad ⟨Nat.le_refl _,HG.out.1⟩ HO2.out HBA.out HG.out.2 HE.out)
     ·have hl:l.length<64:=by omega
      have h64':((l.length:Int) == 64)=false:=by rw [beq_eq_false_iff_ne];omega
      have HL:=Lib.hid hl
      have HSI:=Lib.hid (show s.size≤100000 by have:=HS.out;omega)
      clear h64 hl64 hl hR
      go_upto_region 12 with (go_at_call 80;go_loud (refine (step_any g p s 0 0 wr HR.out HP.out.1 HSI.out).mono ?_;rintro en w2 (⟨x,y,nm,A1,n1,c1,p1,hE,rfl,hR2,hO2⟩ | ⟨nm,ks,kv,q,hE,rfl,hK2,hR2,hO2⟩);rotate_left;obtain ⟨A1,c1,rfl,-,-,-⟩:=own_form hK2;rotate_right))
      ·have HE:=Lib.hid (show parseM s=.error (x,y) by rw [HM.out];exact steps_err HL.out hE)
       have HO3:=Lib.hid (HO.out.trans (hO2.alloc (.cells #[.string nm,.slice A1 n1 c1] 121)))
       have HB3:=Lib.hid (show Blk (w2.alloc (.cells #[.string nm,.slice A1 n1 c1] 121)) _ _ _ from Blk.alloc ((hO2.block _ HB.out.lt (by have:=HG.out;simp;omega)).trans HB.out) _)
       have hR3:PR _ g s p1 x y:=hR2.alloc (.cells #[.string nm,.slice A1 n1 c1] 121)
       have k2:=hR3.c2
       have k3:=hR3.c3
       clear hR2 hO2 hE hR3
       generalize w2.alloc (.cells #[.string nm,.slice A1 n1 c1] 121)=w3 at *
       obtain ⟨b0,b1,b2,b3,b4,b5⟩:=HB3.out.two (.int .i64 x)
       go_upto_region 13 with (fail)
       go_region_with (fail)
       all_goals
        go_wp2
        change bodyPost Tryz.prog Tryz.f60 (ParsePost s w) Exit.ret _ _
        exact bodyPost_ret (parse_result ((HB3.out.two_set _ _).drewN 1) rfl rfl) rfl (parse_bad ⟨Nat.le_refl _,HG.out.1⟩ HO3.out HBA.out HG.out.2 HE.out)
      ·have HE:=Lib.hid hE
       have HQ:=Lib.hid (stepM_ok hE HP.out.1)
       have HW:=Lib.hid (show g<wr.heap.size from HR.out.lt)
       have HK3:=Lib.hid (own_only hK2 (((Only.refl g w2).alloc (.cells #[.string nm,.slice A1 ks.length c1] 121)).alloc (.cells #[.string nm,.slice A1 ks.length c1] 121)) HW.out)
       have HO3:=Lib.hid ((hO2.alloc (.cells #[.string nm,.slice A1 ks.length c1] 121)).alloc (.cells #[.string nm,.slice A1 ks.length c1] 121))
       have HR3:=Lib.hid ((hR2.alloc (.cells #[.string nm,.slice A1 ks.length c1] 121)).alloc (.cells #[.string nm,.slice A1 ks.length c1] 121))
       have hB7:=Blk.new w2 121 #[.string nm,.slice A1 ks.length c1]
       have k70:(w2.alloc (.cells #[.string nm,.slice A1 ks.length c1] 121)).cell? ⟨w2.heap.size,0,none⟩=some (.string nm):=hB7.cell 0
       have k71:(w2.alloc (.cells #[.string nm,.slice A1 ks.length c1] 121)).cell? ⟨w2.heap.size,1,none⟩=some (.slice A1 ks.length c1):=hB7.cell 1
       have HRD:=Lib.hid (reads_new (w2.alloc (.cells #[.string nm,.slice A1 ks.length c1] 121)) #[.string nm,.slice A1 ks.length c1] 121 2 1 rfl)
       have HS3:=Lib.hid (show wr.heap.size≤w2.heap.size from hO2.size)
       clear hE hK2 hR2 hO2 hB7
       have HI3:=Lib.hid (HI.out.only HO3.out HG.out.2)
       generalize w2.alloc (.cells #[.string nm,.slice A1 ks.length c1] 121)=w3 at *
       obtain ⟨i0,hi0,hz0,hz1,hz2⟩:=info_parts stepz_info
       go_upto_region 15 with (at_builtin;go_loud (refine wpList_append_any _ rfl (.tmp 50) (.tmp 52) _ rfl wA.heap.size 121 i0 _ 2 40 Tryz.underlying115 hi0 hz0 hz1 hz2 rfl (by omega) _ l.length (stepCells l vs) rfl HI3.out.2.1 (w3.heap.size+1) (some ⟨w3.heap.size,0,none⟩) 1 1 [.string nm,.slice A1 ks.length c1] rfl (HRD.out) (by simp [Value.oneCell']) (by have:=HL.out;simp only [maxLen];omega) (by have:=HL.out;omega) (by have:=HO.out.size;have:=HO3.out.size;omega) ?_);intro v3 w5 hown3 hg3 hat3)
       have HI5:=Lib.hid (StepsIn.push (st:=(nm,ks)) HI3.out HO.out.size (fun i kv' k hi hk=>(HI.out.lt i kv' k hi hk).2) HK3.out hg3 hown3)
       have hrow:∀ k,(Value.slice A l.length c).ownBlock=some k→wA.heap.size≤k:=fun k hk=>(HI3.out.2.1.lt k hk).1
       have hR5:PR w5 g s q 0 0:=Blk.grown HR3.out hg3 (fun e=>by have:=hrow _ e.symm;have:=HG.out;omega)
       have HO5:=Lib.hid ((HO.out.trans HO3.out).grown hg3 hrow)
       have HB5:=Lib.hid (show Blk w5 w.heap.size 116 #[.int .i64 0,.int .i64 0] from Blk.grown ((HO3.out.block _ HB.out.lt (by have:=HG.out;simp;omega)).trans HB.out) hg3 (fun e=>by have:=hrow _ e.symm;have:=HG.out;omega))
       obtain ⟨A3,c3,rfl,-,-,-⟩:=own_form hown3
       clear hown3 hg3 hat3 hrow HI3 HO3 HK3 HR3 HRD k70 k71
       have k1:=hR5.c1
       have HR5:=Lib.hid hR5
       clear hR5
       by_cases hq:q=s.size
       ·have HM2:=Lib.hid (show parseM s=.ok (l++[(nm,ks)]) by rw [HM.out];exact steps_end HL.out (by rw [←hq];exact HE.out))
        have hq1:((q:Int) == (s.size:Int))=true:=by simp [hq]
        obtain ⟨b0,b1,b2,b3,b4,b5⟩:=HB5.out.two (.int .i64 0)
        clear hq
        go_wp2
        refine bodyPost_ret (parse_result (HB5.out.two_set _ _) rfl rfl) rfl ⟨((Below.only HBA.out HO5.out (by have:=HG.out;omega) (by have:=HG.out;omega)).setCell (by simp) _).setCell (by simp) _,.inr ⟨_,_,HM2.out,rfl,_,StepsIn.base (StepsIn.only (g:=w.heap.size) HI5.out (((Only.refl w.heap.size w5).setCell (.inl rfl) _).setCell (.inl rfl) _) (by have:=HG.out;omega)) (by have:=HG.out;omega)⟩⟩
       ·have hq1:((q:Int) == (s.size:Int))=false:=by rw [beq_eq_false_iff_ne];omega
        have HQN:=Lib.hid hq
        clear hq
        cases hsl:standsB s q 47
        ·have HNx:=Lib.hid (next_no g q s 0 0 47 w5 HR5.out (by have:=HS.out;omega) hsl)
         have HE:=Lib.hid (show parseM s=.error (160,(q:Int)) by rw [HM.out];exact steps_no HL.out HE.out HQN.out hsl)
         clear hsl
         go_upto_region 19 with (first
          | (
            go_at_call 81
            refine HNx.out.mono ?_
            rintro en w6 ⟨rfl,hR6,hO6⟩
            have HO6:=Lib.hid (HO5.out.trans hO6)
            have HB6:=Lib.hid (show Blk w6 _ _ _ from (hO6.block _ HB5.out.lt (by have:=HG.out;simp;omega)).trans HB5.out)
            have k6:=hR6.c1
            have HR6:=Lib.hid hR6
            clear hR6 hO6)
          | (
            go_at_call 79
            refine (fail_any g q s 0 0 160 q _ HR6.out).mono ?_
            rintro en w7 ⟨rfl,hR7,hO7⟩
            have k2:=hR7.c2
            have k3:=hR7.c3
            have HB7:=Lib.hid (show Blk w7 _ _ _ from (hO7.block _ HB6.out.lt (by have:=HG.out;simp;omega)).trans HB6.out)
            obtain ⟨b0,b1,b2,b3,b4,b5⟩:=HB7.out.two (.int .i64 160)
            have HO7:=Lib.hid (HO6.out.trans hO7)
            clear hR7 hO7))
         go_region_with (fail)
         all_goals
          go_wp2
          change bodyPost Tryz.prog Tryz.f60 (ParsePost s w) Exit.ret _ _
          exact bodyPost_ret (parse_result ((HB7.out.two_set _ _).drewN 1) rfl rfl) rfl (parse_bad ⟨Nat.le_refl _,HG.out.1⟩ HO7.out HBA.out HG.out.2 HE.out)
        ·have HNx:=Lib.hid (next_yes g q s 0 0 47 w5 HR5.out (by have:=HS.out;omega) hsl)
         have HM2:=Lib.hid (show parseM s=stepsM s (q+1) (l++[(nm,ks)]) by rw [HM.out];exact steps_go HL.out HE.out HQN.out hsl)
         have HSL:=Lib.hid (stands_lt hsl)
         clear hsl
         go_wp2_with (go_at_call 81;refine HNx.out.mono ?_;rintro en w6 ⟨rfl,hR6,hO6⟩;have HO6:=Lib.hid hO6;have HR6:=Lib.hid hR6;clear hR6 hO6)
         go_roundw
         case rel=>exact ⟨q+1,l++[(nm,ks)],_,HR6.out,(HO6.out.block _ HB5.out.lt (by have:=HG.out;simp;omega)).trans HB5.out,HO5.out.trans HO6.out,HI5.out.only HO6.out HG.out.2,HSL.out,by have:=HP.out;have:=HQ.out;simp;omega,by have:=HL.out;simp;omega,HM2.out⟩
         case measure =>
          rw [atOf_pr HR.out,atOf_pr HR6.out]
          have:=HSL.out
          have:=HQ.out
          omega
end
section
open Go.RowKit

theorem wpList_append_run' {P:Program}(w:World){ops:Array Oper}{rest:List Oper}{o:Oper}{a:Act}{Q:Exit→Act→World→Prop}(hgd:o.guard=none)(s x:Operand)(t tn:TypeId)
  (ho:o.op=.call { callee:=.builtin .append,args:=#[s,x],argTypes:=#[t,tn] })(vs vx:Value)(hs:a.eval s=vs)(hx:a.eval x=vx)
  (v':Value)(w':World)(hr:(Builtin.append_ #[t,tn] o.type #[vs,vx]).run P w=.ok v' w')(h:wpList P ops Q rest (a.put o.dst v') w'):wpList P ops Q (o::rest) a w :=
 Lib.wpList_append_run w hgd s x t tn ho vs vx hs hx v' w' hr h
def GrowPost (w:World)(en:Ending)(w':World):Prop:=∃ v,en=.returned v∧w'.ownsRow w.heap.size 121 2 v 0 []∧w.grownBy w' none
set_option maxRecDepth 100000 in
theorem grow_any (n:Nat)(w:World)(hn:n≤10000000) :
  Calls Tryz.prog 154 #[.slice none 0 0,.int .i64 (n:Int)] w (GrowPost w):=by
 by_cases h0:n=0
 ·subst h0
  go_enter Tryz.func154,Tryz.ntmps154
  go_wp2
  go_ret
  exact ⟨_,rfl,World.ownsRow_nil _ _ _ _,World.grownBy.refl _ _⟩
 ·have hn0:¬ (n:Int)<0:=by omega
  have hn1:(0:Int)<(n:Int):=by omega
  have hn2:(n:Int)≤10000000:=by omega
  obtain ⟨i0,hi0,hz0,hz1,hz2⟩:=info_parts stepz_info
  have HA:=Lib.hid (Lib.run_append_nil_zeros (P:=Tryz.prog) w 115 3 115 121 i0 _ .i64 .i64 Tryz.underlying115 Tryz.underlying3 hi0 hz0 n (by omega) (by omega) (by omega) (by rw [hz2];omega))
  have HO:=Lib.hid (show ∀ cap,cap=grownCap w n 0 121→(w.drew.alloc (.cells (Builtin.zeroCells (Value.agg #[.string ByteArray.empty,.slice none 0 0]).cells n++Builtin.zeroCells (Value.agg #[.string ByteArray.empty,.slice none 0 0]).cells (cap-n)) 121)).ownsRow w.heap.size 121 2 (.slice (some ⟨w.heap.size,0,none⟩) 0 cap) 0 [] from fun cap hc=>by
   have hge:=grownCap_ge w n 0 121
   have hcm:grownCap w n 0 121≤maxLen:=grownCap_le_maxLen w n 0 121 (by simp only [maxLen];omega)
   have hz:(Value.agg #[.string ByteArray.empty,.slice none 0 0]).cells.size=2:=rfl
   refine ⟨rfl,.inr ⟨w.heap.size,cap,_,rfl,Nat.le_refl _,heap_alloc_new w.drew _,Nat.zero_le _,by omega,?_,by simp⟩⟩
   simp only [Array.size_append,size_zeroCells,hz]
   omega)
  have HG:=Lib.hid (show ∀ o,w.grownBy (w.drew.alloc o) none from fun o=>⟨rfl,rfl,rfl,by simp,fun k hk _=>Below.heap_alloc w.drew o k hk⟩)
  generalize grownCap w n 0 121=cap at *
  clear h0
  go_enter Tryz.func154,Tryz.ntmps154
  go_wp2_with (at_builtin;go_loud (refine wpList_append_run' w rfl (.tmp 20) (.tmp 21) _ _ rfl _ _ rfl rfl _ _ HA.out ?_))
  go_ret
  exact ⟨_,rfl,HO.out _ rfl,HG.out _⟩

/-- A row of two-cell elements, read. -/
def RowR (w:World)(B:Nat)(v:Value)(n:Nat)(xs:List Value):Prop:=∃ A c,v=.slice A n c∧n≤c∧c≤maxLen∧Reads w B 2 A n xs
abbrev LRow:=Value×Nat×List Value
def sumL (ls:List LRow):Nat:=(ls.map fun x=>x.2.1).sum
def flatL (ls:List LRow):List Value:=ls.flatMap fun x=>x.2.2
theorem sumL_take (ls:List LRow)(p:Nat)(x:LRow)(h:ls[p]?=some x):sumL (ls.take (p+1))=sumL (ls.take p)+x.2.1:=by
 rw [List.take_add_one,h]
 simp [sumL]
theorem flatL_take (ls:List LRow)(p:Nat)(x:LRow)(h:ls[p]?=some x):flatL (ls.take (p+1))=flatL (ls.take p)++x.2.2:=by
 rw [List.take_add_one,h]
 simp [flatL]
theorem sumL_le (ls:List LRow)(p:Nat):sumL (ls.take p)≤sumL ls:=by
 have:sumL ls=sumL (ls.take p)+sumL (ls.drop p):=by
  conv=>lhs;rw [←List.take_append_drop p ls]
  simp only [sumL,List.map_append,List.sum_append]
 omega
def ConcatPost (ls:List LRow)(w:World)(en:Ending)(w':World):Prop:=∃ v,en=.returned v∧w'.ownsRow w.heap.size 121 2 v (sumL ls) (flatL ls)∧Below w.heap.size w w'
def ListsAt (w:World)(A:Option Addr)(ls:List LRow):Prop :=
 Reads w w.heap.size 1 A ls.length (ls.map fun x=>x.1)∧∀ x∈ls,RowR w w.heap.size x.1 x.2.1 x.2.2∧∀ u∈x.2.2,u.oneCell'=true

set_option maxHeartbeats 4000000 in
theorem concat_any (A:Option Addr)(m c:Nat)(ls:List LRow)(w:World)(hm:ls.length=m)(hl:ListsAt w A ls)(hn:sumL ls≤10000000)(hms:m≤1000) :
  Calls Tryz.prog 123 #[.slice A m c] w (ConcatPost ls w):=by
 have hms2:(m:Int)≤1000:=by omega
 have HL:=Lib.hid hl
 have HM:=Lib.hid hm
 have HN:=Lib.hid hn
 clear hl hm hn
 go_enter Tryz.func123,Tryz.ntmps123
 go_wp2
 go_loopw [3,5,11] (fun sv _ iv wr=>wr=w∧∃ p:Nat,sv=.int .i64 (sumL (ls.take p):Int)∧iv=.int .i64 (p:Int)∧p≤m) (fun _ _ iv _=>m-(Lib.intOf iv).toNat)
 case atStart=>exact ⟨rfl,0,by simp [sumL],rfl,Nat.zero_le _⟩
 case round =>
  obtain ⟨rfl,p,rfl,rfl,hp⟩:=hrel
  by_cases hlt:p<m
  ·obtain ⟨x,hx⟩:∃ x,ls[p]?=some x:=⟨ls[p]'(by have:=HM.out;omega),by have:=HM.out;simp [this,hlt]⟩
   have hq:(p:Int)<(m:Int):=by omega
   have hmem:=HL.out.2 x (List.mem_of_getElem? hx)
   obtain ⟨b,o,rfl,hbo,hcells⟩:=HL.out.1.spot (by have:=HM.out;omega) (by omega)
   have hc0:wr.cell? ⟨b,o+p,none⟩=some x.1:=hcells p _ (by simp [hx])
   obtain ⟨⟨A1,c1,hv,_,_,_⟩,_⟩:=hmem
   rw [hv] at hc0
   have HT:=Lib.hid (sumL_take ls p x hx)
   have hs1:(sumL (ls.take p):Int)+(x.2.1:Int)≤10000000:=by
    have h1:=sumL_le ls (p+1)
    have h2:=HN.out
    rw [HT.out] at h1
    omega
   have hs2:¬ ((sumL (ls.take p):Int)+(x.2.1:Int))<0:=by omega
   generalize sumL (ls.take p)=sp at *
   clear hcells hv
   go_wp2
   go_roundw
   case rel=>exact ⟨trivial,p+1,by rw [HT.out];simp,by simp,hlt⟩
   case measure=>simp [Lib.intOf];omega
  ·obtain rfl:p=m:=by omega
   have hq:¬ (p:Int)<(p:Int):=by omega
   have HT:=Lib.hid (show ls.take p=ls from List.take_of_length_le (by have:=HM.out;omega))
   rw [HT.out]
   have HG:=Lib.hid (grow_any (sumL ls) wr HN.out)
   have hsz:(sumL ls:Int)≤10000000:=by have:=HN.out;omega
   have HF:=Lib.hid (show sumL ls=sumL ls from rfl)
   clear hlt hq
   go_upto_region 10 with (go_at_call 154;go_loud (refine HG.out.mono ?_;rintro en w1 ⟨v1,rfl,hO1,hG1⟩;have HO1:=Lib.hid hO1;have HG1:=Lib.hid hG1;clear hO1 hG1))
   have HBl:=Lib.hid (show Below wr.heap.size wr w1 from ⟨HG1.out.os,HG1.out.tape,HG1.out.output,HG1.out.size,fun k hk=>HG1.out.block k hk (by simp)⟩)
   clear HG HG1
   have HR0:=Lib.hid HL.out.1
   have HR1:=Lib.hid HL.out.2
   clear HL
   generalize hbase:wr.heap.size=base at *
   have HBASE:=Lib.hid hbase
   clear hbase
   go_wp2
   go_loopw [6,8,27] (fun v _ iv W=>∃ q:Nat,iv=.int .i64 (q:Int)∧q≤p∧W.ownsRow base 121 2 v (sumL (ls.take q)) (flatL (ls.take q))∧Below base wr W) (fun _ _ iv _=>p-(Lib.intOf iv).toNat)
   case atStart=>exact ⟨0,rfl,Nat.zero_le _,by simpa [sumL,flatL] using HO1.out,HBl.out⟩
   case round =>
    obtain ⟨q,rfl,hqp,hown,hB⟩:=hrel
    have HO:=Lib.hid hown
    have HB:=Lib.hid hB
    clear hown hB
    by_cases hlt:q<p
    ·obtain ⟨x,hx⟩:∃ x,ls[q]?=some x:=⟨ls[q]'(by have:=HM.out;omega),by have:=HM.out;simp [this,hlt]⟩
     have hq:(q:Int)<(p:Int):=by omega
     have hmem:=HR1.out x (List.mem_of_getElem? hx)
     obtain ⟨b,o,rfl,hbo,hcells⟩:=(HR0.out.below HB.out).spot (by have:=HM.out;omega) (by omega)
     have hc0:wr.cell? ⟨b,o+q,none⟩=some x.1:=hcells q _ (by simp [hx])
     obtain ⟨⟨A1,c1,hv,_,_,hRd⟩,hone⟩:=hmem
     rw [hv] at hc0
     have HT:=Lib.hid (And.intro (sumL_take ls q x hx) (flatL_take ls q x hx))
     have HS:=Lib.hid (show sumL (ls.take q)+x.2.1≤10000000 by
      have h1:=sumL_le ls (q+1)
      have h2:=HN.out
      rw [HT.out.1] at h1
      omega)
     have HRd:=Lib.hid (hRd.below HB.out)
     have HOne:=Lib.hid hone
     obtain ⟨i0,hi0,hz0,hz1,hz2⟩:=info_parts stepz_info
     generalize sumL (ls.take q)=sq at *
     generalize flatL (ls.take q)=fq at *
     clear hcells hv hRd hone
     go_wp2_with (at_builtin;go_loud (refine wpList_append_any _ rfl (.tmp 31) (.tmp 32) _ rfl base 121 i0 _ 2 40 Tryz.underlying115 hi0 hz0 hz1 hz2 rfl (by omega) _ sq fq rfl HO.out base A1 x.2.1 c1 x.2.2 rfl HRd.out HOne.out (by have:=HS.out;simp only [maxLen];omega) (by have:=HS.out;omega) (by have:=HB.out.size;have:=HBASE.out;omega) ?_);intro v3 w5 hown3 hg3 hat3;have HO5:=Lib.hid hown3;have HG5:=Lib.hid hg3;have HA5:=Lib.hid hat3;clear hown3 hg3 hat3)
     go_roundw
     case rel=>exact ⟨q+1,by simp,hlt,by rw [HT.out.1,HT.out.2];exact HO5.out,HB.out.grown HG5.out (by have:=HB.out.size;have:=HBASE.out;omega) (fun k hk=>(HO.out.lt k hk).1)⟩
     case measure=>simp [Lib.intOf];omega
    ·have hq:¬ (q:Int)<(p:Int):=by omega
     have HT2:=Lib.hid (show ls.take q=ls from List.take_of_length_le (by have:=HM.out;omega))
     rw [HT2.out] at HO
     go_wp2
     go_ret
     exact ⟨_,rfl,by rw [HBASE.out];exact HO.out,by rw [HBASE.out];exact HB.out⟩
end
end Go.Proofs.YthdldooilcbmlaaGreatDoor
