/-
  Texts of mine, joined: PathRT, Pairs, PathGet, PathDelete, SideP, PathWithout. The conditions stand with each.
-/
import Derived.Test.YthdldooilcbmlaaGreatDoorK03
import Derived.Test.YthdldooilcbmlaaGreatDoorK04
import Derived.Shelf.SlSortCmp.WholeK
import Derived.Shelf.Small.Strs
import Derived.Test.YthdldooilcbmlaaGreatDoorK06
import Derived.Outline
import Derived.Deep.RegionLaw
import Derived.Lib.SliceRun
import Derived.RangeFuncCalls
import Derived.OrdersIn
import Derived.RegionTactic
import Derived.TacticsIn
import Derived.Test.YthdldooilcbmlaaGreatDoorK01
set_option linter.unusedVariables false
set_option linter.unusedSimpArgs false
namespace Go.Proofs.YthdldooilcbmlaaGreatDoor
section
open Go.RowKit

def scalar (r:Nat):Prop:=r<55296∨(57343<r∧r≤1114111)
abbrev enc (r:Nat):List UInt8:=Lib.encodeRune (r:Int)
theorem u8n (n:Nat)(h:n<256):(n.toUInt8).toNat=n:=by simp;omega
theorem dec_enc {r:Nat}(h:scalar r)(t:List UInt8):Lib.decodeL (enc r++t)=(r,(enc r).length):=by
 unfold scalar at h
 rw [Lib.decodeL_N]
 unfold enc Lib.encodeRune
 by_cases h1:r≤127
 ·rw [Lib.encodeRuneZ_one (by omega) (by omega)]
  have e:((r:Int).toNat.toUInt8).toNat=r:=by rw [Int.toNat_natCast];exact u8n r (by omega)
  simp only [List.map_cons,List.map_nil,List.cons_append,List.nil_append,List.getD_cons_zero,e,List.length_cons,List.length_nil]
  unfold Lib.decodeN
  rw [if_pos (by omega)]
 ·by_cases h2:r≤2047
  ·rw [Lib.encodeRuneZ_two (by omega) (by omega)]
   have e1:(((192:Int)+(r:Int)/64).toNat.toUInt8).toNat=192+r/64:=by rw [show ((192:Int)+(r:Int)/64).toNat=192+r/64 by omega];exact u8n _ (by omega)
   have e2:(((128:Int)+(r:Int)%64).toNat.toUInt8).toNat=128+r%64:=by rw [show ((128:Int)+(r:Int)%64).toNat=128+r%64 by omega];exact u8n _ (by omega)
   simp only [List.map_cons,List.map_nil,List.cons_append,List.nil_append,List.getD_cons_zero,List.getD_cons_succ,e1,e2,List.length_cons,List.length_nil]
   unfold Lib.decodeN
   rw [if_neg (by omega),if_pos (by omega),if_pos (by omega)]
   exact Prod.ext (by simp only;omega) rfl
  ·by_cases h3:r<55296∨(57343<r∧r≤65535)
   ·rw [Lib.encodeRuneZ_three (by omega)]
    have e1:(((224:Int)+(r:Int)/4096).toNat.toUInt8).toNat=224+r/4096:=by rw [show ((224:Int)+(r:Int)/4096).toNat=224+r/4096 by omega];exact u8n _ (by omega)
    have e2:(((128:Int)+(r:Int)/64%64).toNat.toUInt8).toNat=128+r/64%64:=by rw [show ((128:Int)+(r:Int)/64%64).toNat=128+r/64%64 by omega];exact u8n _ (by omega)
    have e3:(((128:Int)+(r:Int)%64).toNat.toUInt8).toNat=128+r%64:=by rw [show ((128:Int)+(r:Int)%64).toNat=128+r%64 by omega];exact u8n _ (by omega)
    simp only [List.map_cons,List.map_nil,List.cons_append,List.nil_append,List.getD_cons_zero,List.getD_cons_succ,e1,e2,e3,List.length_cons,List.length_nil]
    have er:(224+r/4096)%16*4096+(128+r/64%64)%64*64+(128+r%64)%64=r:=by omega
    unfold Lib.decodeN
    rw [if_neg (by omega),if_neg (by omega),if_pos (by omega),er,if_pos (by omega)]
   ·rw [Lib.encodeRuneZ_four (by omega) (by omega)]
    have e1:(((240:Int)+(r:Int)/262144).toNat.toUInt8).toNat=240+r/262144:=by rw [show ((240:Int)+(r:Int)/262144).toNat=240+r/262144 by omega];exact u8n _ (by omega)
    have e2:(((128:Int)+(r:Int)/4096%64).toNat.toUInt8).toNat=128+r/4096%64:=by rw [show ((128:Int)+(r:Int)/4096%64).toNat=128+r/4096%64 by omega];exact u8n _ (by omega)
    have e3:(((128:Int)+(r:Int)/64%64).toNat.toUInt8).toNat=128+r/64%64:=by rw [show ((128:Int)+(r:Int)/64%64).toNat=128+r/64%64 by omega];exact u8n _ (by omega)
    have e4:(((128:Int)+(r:Int)%64).toNat.toUInt8).toNat=128+r%64:=by rw [show ((128:Int)+(r:Int)%64).toNat=128+r%64 by omega];exact u8n _ (by omega)
    simp only [List.map_cons,List.map_nil,List.cons_append,List.nil_append,List.getD_cons_zero,List.getD_cons_succ,e1,e2,e3,e4,List.length_cons,List.length_nil]
    have er:(240+r/262144)%8*262144+(128+r/4096%64)%64*4096+(128+r/64%64)%64*64+(128+r%64)%64=r:=by omega
    unfold Lib.decodeN
    rw [if_neg (by omega),if_neg (by omega),if_neg (by omega),if_pos (by omega),er,if_pos (by omega)]
theorem enc_pos (r:Nat):1≤(enc r).length:=by
 have:=(Lib.encodeRuneZ_length (r:Int)).1
 simpa [enc,Lib.encodeRune] using this
theorem decode_scalar {s:ByteArray}{p:Nat}(hd:Utf8.decode s p≠(65533,1)):scalar (Utf8.decode s p).1:=by
 unfold scalar
 rw [Lib.decode_N] at hd ⊢
 rcases Lib.decodeN_shape (s.data.toList.length-p) (s.data.toList.getD p 0).toNat (s.data.toList.getD (p+1) 0).toNat (s.data.toList.getD (p+2) 0).toNat (s.data.toList.getD (p+3) 0).toNat with h | h | h | h | h
 ·rw [h.2];simp only;omega
 ·rw [h.2.2.2.2]
  have:=(s.data.toList.getD p 0).toNat_lt
  simp only;omega
 ·rw [h.2.2.2.2.2.2]
  simp only;omega
 ·rw [h.2.2.2.2.2.2.2]
  simp only;omega
 ·exact absurd h hd
/-- The tail of a string. -/
def T (s:ByteArray)(p:Nat)(t:List UInt8):Prop:=s.data.toList.drop p=t∧p≤s.size
section
variable {s:ByteArray} {p:Nat} {t:List UInt8}
theorem T.len (h:T s p t):p+t.length=s.size:=by
 have:=congrArg List.length h.1
 rw [List.length_drop,ba_len] at this
 have:=h.2
 omega
theorem T.cons {b:UInt8}(h:T s p (b::t)):∃ hl:p<s.size,s[p]=b∧T s (p+1) t:=by
 have hlen:=h.len
 simp at hlen
 have hl:p<s.size:=by omega
 have hl2:p<s.data.toList.length:=by rw [ba_len];exact hl
 have h1:=h.1
 rw [List.drop_eq_getElem_cons hl2] at h1
 injection h1 with h2 h3
 exact ⟨hl,h2,h3,by omega⟩
theorem T.app {a:List UInt8}(h:T s p (a++t)):T s (p+a.length) t:=by
 refine ⟨?_,by have:=h.len;simp at this;omega⟩
 rw [←List.drop_drop,h.1,List.drop_left]
theorem T.rune {r:Nat}(h:T s p (enc r++t))(hr:scalar r):p<s.size∧Utf8.decode s p=(r,(enc r).length):=by
 have hlen:=h.len
 have:=enc_pos r
 simp at hlen
 refine ⟨by omega,?_⟩
 rw [←Lib.decodeL_drop,h.1]
 exact dec_enc hr t
end
theorem T_zero (l:List UInt8):T (str l) 0 l:=⟨by simp [str],Nat.zero_le _⟩
def Runes (rs:List Nat):Prop:=∀ r∈rs,scalar r
def encL (rs:List Nat):List UInt8:=rs.flatMap enc
/-- Runes' forms are right. -/
theorem runes_right {s:ByteArray}:∀(rs:List Nat) (p:Nat),Runes rs→T s p (encL rs)→brokenAt s p=none∧ctrlAt s p=rs.any fun r=>controlR (r:Int)
 | [],p,_,h=>by
  have hl:=h.len
  simp [encL] at hl
  exact ⟨brokenAt_end (by omega),ctrl_end (by omega)⟩
 | r::rs,p,hr,h=>by
  have h':T s p (enc r++encL rs):=by simpa [encL] using h
  obtain ⟨hlt,hd⟩:=h'.rune (hr r (by simp))
  obtain ⟨i1,i2⟩:=runes_right rs (p+(enc r).length) (fun x hx=>hr x (by simp [hx])) h'.app
  have hne:¬ Utf8.decode s p=(65533,1):=by
   rw [hd]
   intro e
   injection e with e1 e2
   rw [e1] at e2
   revert e2
   decide
  constructor
  ·rw [brokenAt_step hlt,if_neg hne,hd]
   exact i1
  ·rw [ctrl_step hlt,hd]
   simp only [List.any_cons]
   cases hc:controlR (r:Int)
   ·simp [i2]
   ·simp
end
section
open Go.RowKit

/-- A value's runes. -/
def ValR (v:List UInt8)(rs:List Nat):Prop:=v=encL rs∧Runes rs∧∀ r∈rs,controlR (r:Int)=false
theorem encL_append (a b:List Nat):encL (a++b)=encL a++encL b:=by simp [encL]
theorem ValR.snoc {v:List UInt8}{rs:List Nat}(h:ValR v rs){r:Nat}(hr:scalar r)(hc:controlR (r:Int)=false):ValR (v++enc r) (rs++[r]):=by
 refine ⟨by rw [encL_append,h.1];simp [encL],?_,?_⟩
 ·intro x hx
  rcases List.mem_append.1 hx with hx | hx
  ·exact h.2.1 x hx
  ·simp at hx;rw [hx];exact hr
 ·intro x hx
  rcases List.mem_append.1 hx with hx | hx
  ·exact h.2.2 x hx
  ·simp at hx;rw [hx];exact hc
theorem enc_low {r:Nat}(h:r<128):enc r=[r.toUInt8]:=by
 unfold enc Lib.encodeRune
 rw [Lib.encodeRuneZ_one (by omega) (by omega)]
 simp
theorem special_low {r:Nat}(h:0≤specialI (r:Int))(hr:r<128):controlR (r:Int)=false:=by
 have e:=special_iff r.toUInt8
 rw [u8n r (by omega)] at e
 have:=e.1 h
 have hn:r=91∨r=93∨r=47∨r=61∨r=92:=by
  rcases this with h | h | h | h | h
  all_goals
   have:=congrArg UInt8.toNat h
   rw [u8n r (by omega)] at this
   simp at this
   omega
 rcases hn with rfl | rfl | rfl | rfl | rfl <;> decide
theorem valF_runes (s:ByteArray)(fr:Nat):∀(k q:Nat) (esc:Bool) (out l:List UInt8) (r:Nat),valF k s fr q esc out=.ok (l,r)→brokenAt s q=none→(∃ rs,ValR out rs)→∃ rs,ValR l rs:=by
 intro k
 induction k with
 | zero=>intro q esc out l r h;cases h
 | succ k ih =>
  intro q esc out l r h hb hv
  obtain ⟨rs,hv⟩:=hv
  simp only [valF] at h
  split at h
  ·rename_i hq
   have hgo:=brokenAt_go hq hb
   have hd:Utf8.decode s q=((Utf8.decode s q).1,(Utf8.decode s q).2):=rfl
   split at h
   ·split at h
    ·rename_i hsp
     refine ih _ _ _ _ _ h hgo.2 ⟨rs++[(Utf8.decode s q).1],?_⟩
     have:=hv.snoc (r:=(Utf8.decode s q).1) (.inl (by omega)) (special_low hsp.2 hsp.1)
     rw [enc_low hsp.1] at this
     exact this
    ·cases h
   ·split at h
    ·exact ih _ _ _ _ _ h hgo.2 ⟨rs,hv⟩
    ·split at h
     ·split at h
      ·cases h
      ·simp only [Except.ok.injEq,Prod.mk.injEq] at h
       rw [←h.1]
       exact ⟨rs,hv⟩
     ·split at h
      ·cases h
      ·rename_i hbad
       refine ih _ _ _ _ _ h hgo.2 ⟨rs++[(Utf8.decode s q).1],?_⟩
       rw [encode_rune]
       exact hv.snoc (decode_scalar hgo.1) (by
        cases hc:controlR ((Utf8.decode s q).1:Int)
        ·rfl
        ·exact absurd (.inl hc) hbad)
  ·cases h
theorem valR_ok {v:List UInt8}{rs:List Nat}(h:ValR v rs):broken (str v)=none∧ctrlAt (str v) 0=false:=by
 have ht:T (str v) 0 (encL rs):=by rw [←h.1];exact T_zero v
 obtain ⟨h1,h2⟩:=runes_right rs 0 h.2.1 ht
 refine ⟨h1,?_⟩
 rw [h2]
 simp only [List.any_eq_false]
 intro r hr
 simp [h.2.2 r hr]
/-- The last key ahead. -/
def lastOr (ah:ByteArray)(ks:List PKey):ByteArray:=match ks.getLast? with
 | none=>ah
 | some k=>k.1
theorem keysOk_snoc:∀(ks:List PKey) (ah:ByteArray) (k:PKey),keysOk ah (ks++[k])=(keysOk ah ks && keyOk (lastOr ah ks) k)
 | [],ah,k=>by simp [keysOk,lastOr]
 | x::ks,ah,k=>by
  have:=keysOk_snoc ks x.1 k
  simp only [List.cons_append,keysOk,this]
  have e:lastOr x.1 ks=lastOr ah (x::ks):=by
   unfold lastOr
   cases ks with
   | nil=>rfl
   | cons y ys=>simp [List.getLast?_cons_cons];rfl
  rw [e,Bool.and_assoc]
theorem bl_empty {a:List UInt8}(h:a≠[]):Op.bytesLess [] a=true:=by
 cases a with
 | nil=>exact absurd rfl h
 | cons b t=>rfl
theorem nameEndF_all (s:ByteArray):∀ k p,p≤s.size→∀ b∈seg s p (nameEndF k s p),nameB b=true:=by
 intro k
 induction k with
 | zero=>intro p _ b hb;simp [nameEndF,seg_self] at hb
 | succ k ih =>
  intro p hp b hb
  simp only [nameEndF] at hb
  split at hb
  ·rename_i hlt
   split at hb
   ·rename_i hn
    have h1:=(nameEnd_ge s k (p+1)).1
    rw [←seg_append (Nat.le_succ p) h1] at hb
    rcases List.mem_append.1 hb with hb | hb
    ·rw [seg_one hlt] at hb
     simp at hb
     rw [hb]
     exact hn
    ·exact ih (p+1) hlt b hb
   ·simp [seg_self] at hb
  ·simp [seg_self] at hb
def Stop (t:List UInt8):Prop:=t=[]∨∃ b u,t=b::u∧nameB b=false
theorem nameEnd_tail {s:ByteArray}:∀(a t:List UInt8) (p:Nat),T s p (a++t)→(∀ b∈a,nameB b=true)→Stop t→nameEnd s p=p+a.length
 | [],t,p,h,_,hs=>by
  rcases hs with rfl | ⟨b,u,rfl,hb⟩
  ·have:=h.len
   simp at this
   rw [nameEnd_end (by omega)]
   rfl
  ·obtain ⟨hl,he,_⟩:=T.cons (by simpa using h)
   rw [nameEnd_step hl,he,hb]
   rfl
 | b::a,t,p,h,ha,hs=>by
  obtain ⟨hl,he,ht⟩:=T.cons (by simpa using h)
  rw [nameEnd_step hl,he,if_pos (ha b (by simp)),nameEnd_tail a t (p+1) ht (fun x hx=>ha x (by simp [hx])) hs]
  simp
  omega
/-- A name, byte by byte. -/
theorem nameOk_iff {nm:ByteArray}:nameOk nm=true↔∃ b u,nm.data.toList=b::u∧startB b=true∧∀ x∈nm.data.toList,nameB x=true:=by
 constructor
 ·intro h
  unfold nameOk at h
  split at h
  ·rename_i h0
   simp at h
   have hall:=nameEndF_all nm (nm.size-0) 0 (Nat.zero_le _)
   have e:nameEndF (nm.size-0) nm 0=nm.size:=h.1
   rw [e,seg_all] at hall
   cases hd:nm.data.toList with
   | nil=>have:=ba_len nm;rw [hd] at this;simp at this;omega
   | cons b u =>
    refine ⟨b,u,rfl,?_,by rw [←hd];exact hall⟩
    have hb:T nm 0 (b::u):=⟨by rw [List.drop_zero,hd],Nat.zero_le _⟩
    obtain ⟨hl,he,_⟩:=hb.cons
    rw [←he]
    exact h.2
  ·cases h
 ·rintro ⟨b,u,hd,hb,hall⟩
  have hT:T nm 0 (nm.data.toList++[]):=⟨by simp,Nat.zero_le _⟩
  have he:=nameEnd_tail _ [] 0 hT hall (.inl rfl)
  rw [Nat.zero_add,ba_len] at he
  have hT2:T nm 0 (b::u):=⟨by rw [List.drop_zero,hd],Nat.zero_le _⟩
  obtain ⟨hl,hh,_⟩:=hT2.cons
  unfold nameOk
  rw [dif_pos hl]
  simp [he,hh,hb]
theorem nameM_name {s:ByteArray}{p q:Nat}{nm:ByteArray}(h:nameM s p=.ok (nm,q))(hp:p≤s.size):nameOk nm=true:=by
 obtain ⟨h1,h2,rfl,h4,h5⟩:=nameM_ok h hp
 have h6:=(nameM_small h hp).2
 rw [nameOk_iff]
 have hlt:p<s.size:=by omega
 have hst:startB s[p]=true:=by
  unfold nameErr at h5
  rw [dif_pos hlt] at h5
  split at h5
  ·rename_i h;exact h
  ·cases h5
 rw [extract_seg,←seg_append (Nat.le_succ p) (show p+1≤q by omega),seg_one hlt]
 refine ⟨s[p],seg s (p+1) q,rfl,hst,?_⟩
 have hall:=nameEndF_all s (s.size-p) p hp
 have e:nameEndF (s.size-p) s p=q:=h4.symm
 rw [e,←seg_append (Nat.le_succ p) (show p+1≤q by omega),seg_one hlt] at hall
 exact hall
/-- What parses may be. -/
theorem keysF_may (s:ByteArray):∀(k p:Nat) (ks l:List PKey) (q:Nat),p≤s.size→brokenAt s p=none→keysF k s p ks=.ok (l,q)→keysOk ByteArray.empty ks=true→keysOk ByteArray.empty l=true:=by
 intro k
 induction k with
 | zero=>intro p ks l q hp hb h hk;simp [keysF] at h;rw [←h.1];exact hk
 | succ k ih =>
  intro p ks l q hp hb h hk
  simp only [keysF] at h
  split at h
  ·rename_i hbr
   have hlt:=stands_lt hbr
   have hv1:=stands_valid hbr (by decide) hb
   cases hn:nameM s (p+1) with
   | error e=>rw [hn] at h;cases h
   | ok x =>
    obtain ⟨key,q1⟩:=x
    have hq:=nameM_ok hn (by omega)
    have hname:=nameM_name hn (by omega)
    rw [hn] at h
    simp only at h
    split at h
    ·rename_i hr
     split at h
     ·rename_i he
      have hvn:brokenAt s q1=none:=by rw [hq.2.2.2.1];exact nameEndF_valid s _ _ (by omega) hv1.1
      have hv2:=stands_valid he (by decide) hvn
      have hlt2:=stands_lt he
      cases hv:valAt s (q1+1) (q1+1) false [] with
      | error e=>rw [hv] at h;cases h
      | ok y =>
       obtain ⟨v,r⟩:=y
       rw [hv] at h
       simp only at h
       have hvb:=valF_back s (q1+1) _ (q1+1) false [] v r hv hv2.1 (Nat.le_refl _) (by omega) (by simp [tailE,dressL,seg_self])
       obtain ⟨rs,hrs⟩:=valF_runes s (q1+1) _ (q1+1) false [] v r hv hv2.1 ⟨[],rfl,(fun r hr=>(by cases hr)),fun r hr=>(by cases hr)⟩
       have hvo:=valR_ok hrs
       refine ih r _ _ _ hvb.2.2.2 hvb.2.1 h ?_
       rw [keysOk_snoc,hk,Bool.true_and]
       unfold keyOk
       rw [hname,hvo.1,hvo.2]
       have hrise:Op.bytesLess (lastOr ByteArray.empty ks).toList key.toList=true:=by
        unfold risesB at hr
        unfold lastOr
        cases hg:ks.getLast? with
        | none =>
         simp only
         obtain ⟨b,u,hd,_⟩:=nameOk_iff.1 hname
         have e0:ByteArray.empty.toList=[]:=by rw [Lib.toList_data];rfl
         rw [e0]
         exact bl_empty (by rw [Lib.toList_data,hd];simp)
        | some z=>rw [hg] at hr;exact hr
       simp [hrise]
     ·cases h
    ·cases h
  ·simp at h
   rw [←h.1]
   exact hk
theorem stepM_may {s:ByteArray}{p q:Nat}{st:PStep}(h:stepM s p=.ok (st,q))(hp:p≤s.size)(hs:s.size≤512)(hb:brokenAt s p=none):mayM st=(true,true):=by
 have hsm:=stepM_small h hp hs
 unfold stepM at h
 cases hn:nameM s p with
 | error e=>rw [hn] at h;cases h
 | ok x =>
  obtain ⟨nm,q1⟩:=x
  have hq:=nameM_ok hn hp
  have hname:=nameM_name hn hp
  rw [hn] at h
  simp only at h
  cases hk:keysM s q1 [] with
  | error e=>rw [hk] at h;cases h
  | ok y =>
   obtain ⟨ks,r⟩:=y
   rw [hk] at h
   simp at h
   have hvn:brokenAt s q1=none:=by rw [hq.2.2.2.1];exact nameEndF_valid s _ _ hp hb
   have hko:=keysF_may s _ q1 [] ks r hq.2.1 hvn hk rfl
   rw [←h.1] at hsm ⊢
   unfold mayM
   simp only
   rw [if_pos hko,hname]
   have h1:¬ nm.size > 64:=by have:=hsm.1;simp only at this;omega
   have h2:longK ks=false:=by
    unfold longK
    simp only [List.any_eq_false]
    intro k hk
    have:=hsm.2.2 k hk
    simp
    omega
   simp [h1,h2]
theorem stepsF_may (s:ByteArray)(hs:s.size≤512):∀(k p:Nat) (l m:List PStep),p≤s.size→brokenAt s p=none→stepsF k s p l=.ok m→(∀ st∈l,mayM st=(true,true))→∀ st∈m,mayM st=(true,true):=by
 intro k
 induction k with
 | zero=>intro p l m hp hb h;cases h
 | succ k ih =>
  intro p l m hp hb h hl
  simp only [stepsF] at h
  split at h
  ·cases h
  ·cases hn:stepM s p with
   | error e=>rw [hn] at h;cases h
   | ok x =>
    obtain ⟨st,q⟩:=x
    have hst:=stepM_may hn hp hs hb
    obtain ⟨e1,e2,e3,e4⟩:=stepM_back hn hp hb
    rw [hn] at h
    simp only at h
    have hall:∀ x∈l++[st],mayM x=(true,true):=by
     intro x hx
     rcases List.mem_append.1 hx with hx | hx
     ·exact hl x hx
     ·simp at hx;rw [hx];exact hst
    split at h
    ·simp at h
     rw [←h]
     exact hall
    ·split at h
     ·rename_i hbr
      exact ih (q+1) _ _ (stands_lt hbr) (stands_valid hbr (by decide) e2).1 h hall
     ·cases h
theorem parse_may {s:ByteArray}{l:List PStep}(h:parseM s=.ok l):∀ st∈l,mayM st=(true,true):=by
 have hs:=(parseM_small h).2.2.1
 unfold parseM at h
 split at h
 ·cases h
 ·split at h
  ·cases h
  ·rename_i hbr
   split at h
   ·simp at h
    subst h
    exact fun st hst=>(by cases hst)
   ·exact stepsF_may s hs _ 0 [] l (Nat.zero_le _) hbr h (fun st hst=>(by cases hst))

/-! ## What may be is read as it was written. -/
end
section
open Go.RowKit

/-- What put gives. -/
theorem putF_mono:∀(l:List PStep) (sh:Bool) (sz:Nat) (ts:List (List UInt8)) (sh':Bool) (sz':Nat) (ts':List (List UInt8)),putF l sh sz ts=.ok (sh',sz',ts')→sz≤sz'
 | [],sh,sz,ts,sh',sz',ts',h=>by simp [putF] at h;omega
 | st::l,sh,sz,ts,sh',sz',ts',h=>by
  simp only [putF] at h
  split at h
  ·have:=putF_mono l _ _ _ _ _ _ h
   split at this <;> omega
  ·cases h
theorem putF_inv:∀(l:List PStep) (sh:Bool) (sz:Nat) (ts:List (List UInt8)) (sz':Nat) (ts':List (List UInt8)),putF l sh sz ts=.ok (true,sz',ts')→sz'≤513→sh=true∧(∀ st∈l,mayM st=(true,true))∧sz'=sz+sumT (l.map textL)∧ts'=ts++l.map textL
 | [],sh,sz,ts,sz',ts',h,hz=>by
  simp [putF] at h
  exact ⟨h.1,fun st hst=>(by cases hst),by simp [sumT,h.2.1],by simp [h.2.2]⟩
 | st::l,sh,sz,ts,sz',ts',h,hz=>by
  simp only [putF] at h
  split at h
  ·rename_i hok
   have hm:=putF_mono l _ _ _ _ _ _ h
   by_cases h5:sz≤513
   ·rw [if_pos h5] at h hm
    rw [if_pos h5] at h
    obtain ⟨i1,i2,i3,i4⟩:=putF_inv l _ _ _ _ _ h hz
    simp at i1
    refine ⟨i1.1,?_,?_,?_⟩
    ·intro x hx
     rcases List.mem_cons.1 hx with rfl | hx
     ·exact Prod.ext hok i1.2
     ·exact i2 x hx
    ·rw [i3];simp [sumT];omega
    ·rw [i4];simp
   ·rw [if_neg h5] at hm
    omega
  ·cases h
theorem sumT_join {ts:List (List UInt8)}(h:ts≠[]):sumT ts=(Lib.join ts [47]).length+1:=by
 cases ts with
 | nil=>exact absurd rfl h
 | cons x r =>
  rw [Lib.join_cons,List.length_append,joinTail_len]
  simp [sumT]
  omega
theorem putF_go:∀(l:List PStep) (sz:Nat) (ts:List (List UInt8)),(∀ st∈l,mayM st=(true,true))→sz+sumT (l.map textL)≤513→putF l true sz ts=.ok (true,sz+sumT (l.map textL),ts++l.map textL)
 | [],sz,ts,_,_=>by simp [putF,sumT]
 | st::l,sz,ts,hm,hz=>by
  have h1:=hm st (by simp)
  have hz2:sz+((textL st).length+1)+sumT (l.map textL)≤513:=by simp [sumT] at hz ⊢;omega
  have:=putF_go l (sz+((textL st).length+1)) (ts++[textL st]) (fun x hx=>hm x (by simp [hx])) hz2
  simp only [putF]
  rw [h1]
  simp only [Bool.and_self,if_true]
  rw [if_pos (by omega),if_pos (by omega),this]
  simp [sumT]
  omega
theorem putM_inv {l:List PStep}{t:List UInt8}(h:putM l=.ok t):(∀ st∈l,mayM st=(true,true))∧l.length≤64∧t=Lib.join (l.map textL) [47]∧sumT (l.map textL)≤513:=by
 unfold putM at h
 cases hp:putF l (decide (l.length≤64)) 0 [] with
 | error e=>rw [hp] at h;cases h
 | ok x =>
  obtain ⟨sh,sz,ts⟩:=x
  rw [hp] at h
  simp only at h
  split at h
  ·rename_i hc
   obtain ⟨rfl,hz⟩:=hc
   obtain ⟨i1,i2,i3,i4⟩:=putF_inv l _ _ _ _ _ hp hz
   simp at h i1 i3 i4
   exact ⟨i2,i1,by rw [←h,i4],by omega⟩
  ·cases h
theorem putM_go {l:List PStep}(hm:∀ st∈l,mayM st=(true,true))(h64:l.length≤64)(hz:sumT (l.map textL)≤513):putM l=.ok (Lib.join (l.map textL) [47]):=by
 unfold putM
 rw [show decide (l.length≤64)=true by simp [h64],putF_go l 0 [] hm (by omega)]
 simp only
 rw [if_pos ⟨trivial,by omega⟩,List.nil_append]
theorem parse_sum {s:ByteArray}{l:List PStep}(h:parseM s=.ok l):sumT (l.map textL)≤513:=by
 have ht:=parse_text h
 have hs:=(parseM_small h).2.2.1
 by_cases hl:l=[]
 ·subst hl;decide
 ·have:=sumT_join (ts:=l.map textL) (by simpa using hl)
  rw [ht,ba_len] at this
  omega
theorem parse_print {s:ByteArray}{l:List PStep}(h:parseM s=.ok l):putM l=.ok s.data.toList:=by
 rw [putM_go (parse_may h) (parseM_small h).2.1 (parse_sum h),parse_text h]
end
section
open Go.RowKit

def RisesK (ks:List PKey):Prop:=ks.Pairwise (fun x y=>Op.bytesLess x.1.toList y.1.toList=true)
theorem keysOk_rises:∀(ks:List PKey) (ah:ByteArray),keysOk ah ks=true→RisesK ks∧∀ x∈ks,Op.bytesLess ah.toList x.1.toList=true
 | [],_,_=>⟨List.Pairwise.nil,fun _ h=>by cases h⟩
 | k::ks,ah,h=>by
  simp only [keysOk,Bool.and_eq_true] at h
  obtain ⟨h1,h2⟩:=h
  have hk:Op.bytesLess ah.toList k.1.toList=true:=by
   simp only [keyOk,Bool.and_eq_true] at h1
   exact h1.1.1.2
  obtain ⟨r1,r2⟩:=keysOk_rises ks k.1 h2
  refine ⟨List.pairwise_cons.2 ⟨r2,r1⟩,fun x hx=>?_⟩
  rcases List.mem_cons.1 hx with rfl | hx
  ·exact hk
  ·exact bl_trans _ _ _ hk (r2 x hx)
theorem parse_rises {p:ByteArray}{l:List PStep}(h:parseM p=.ok l):∀ st∈l,RisesK st.2:=by
 intro st hst
 have h1:=(putM_inv (parse_print h)).1 st hst
 unfold mayM at h1
 split at h1
 ·rename_i hk
  exact (keysOk_rises _ _ hk).1
 ·cases h1
def dropK (ks:List PKey)(key:ByteArray):List PKey:=ks.filter fun x=>decide (x.1≠key)
theorem own_blk {w:World}{base r g:Nat}{e t:TypeId}{size n:Nat}{v:Value}{xs:List Value}{cs:Array Value}(h:w.ownsRow base e size v n xs)(hB:Blk w r t cs)(hne:e≠t)(hg:v.ownBlock=some g):g≠r:=by
 rintro rfl
 rcases h.2 with ⟨rfl,-⟩ | ⟨g',cap,cur,rfl,_,hh,_⟩
 ·simp [Value.ownBlock] at hg
 ·simp [Value.ownBlock] at hg
  subst hg
  unfold Blk at hB
  rw [hB] at hh
  cases hh
  exact hne rfl
end
section
open Go.RowKit

end
section
open Go.RowKit Go.Shelf Go.Lib Go.Sort

instance inhPairs:Inhabited PKey:=⟨(ByteArray.empty,ByteArray.empty)⟩
abbrev kA (k:PKey):Value:=.string k.1
abbrev kB (k:PKey):Value:=.string k.2
theorem own_spot {w:World}{base:Nat}{e:TypeId}{size n m c:Nat}{A:Option Addr}{xs:List Value}(h:w.ownsRow base e size (.slice A m c) n xs)(hn:0<n):∃ g,A=some ⟨g,0,none⟩∧base≤g∧g<w.heap.size:=by
 obtain ⟨g,cap,hv,h1,h2⟩:=h.form hn
 cases hv
 exact ⟨g,rfl,h1,h2⟩
/-- Where the keys of step i turn, the other rows stay. -/
theorem keys_stay {w W:World}{base:Nat}{v:Value}{l:List PStep}{vs:List Value}{i:Nat}{kv:Value}(hI:StepsIn w base v l vs)(hkv:vs[i]?=some kv)(hg:w.grownBy W kv.ownBlock){j:Nat}(hji:j≠i){st:PStep}{kj:Value}(hst:l[j]?=some st)(hj:vs[j]?=some kj) :
  W.ownsRow base 126 2 kj st.2.length (pairCells st.2):=by
 refine (hI.2.2.1 j st kj hst hj).kept hg ?_
 cases h1:kj.ownBlock with
 | none=>exact .inl rfl
 | some a =>
  refine .inr fun e=>?_
  rcases Nat.lt_or_gt_of_ne hji with h | h
  ·have:=hI.2.2.2 j i a a kj kv h hj hkv h1 e.symm
   omega
  ·have:=hI.2.2.2 i j a a kv kj h hkv hj e.symm h1
   omega
theorem row_stays {w W:World}{base:Nat}{v:Value}{l:List PStep}{vs:List Value}{i:Nat}{kv:Value}{st:PStep}(hI:StepsIn w base v l vs)(hst:l[i]?=some st)(hkv:vs[i]?=some kv)(hg:w.grownBy W kv.ownBlock):W.ownsRow base 121 2 v l.length (stepCells l vs):=by
 refine hI.2.1.kept hg ?_
 cases h1:v.ownBlock with
 | none=>exact .inl rfl
 | some a=>exact .inr fun e=>own_other hI.2.1 (hI.2.2.1 i st kv hst hkv) (by decide) a h1 e.symm
theorem grown_trans {a b c:World}{row row':Option Nat}(h:a.grownBy b row)(k:b.grownBy c row')(hr:∀ i,row'=some i→row=some i∨a.heap.size≤i):a.grownBy c row :=
 ⟨k.os.trans h.os,k.tape.trans h.tape,k.output.trans h.output,Nat.le_trans h.size k.size,fun i hi hne=>(k.block i (Nat.lt_of_lt_of_le hi h.size) (fun e=>by
  rcases hr i e.symm with h1 | h1
  ·exact hne h1.symm
  ·omega)).trans (h.block i hi hne)⟩
end
section
open Go.RowKit Go.Shelf

attribute [local go_sem] Oper.semAt_some

theorem keepsFrom_below {B:Nat}{W W':World}(h:Below W.heap.size W W'):KeepsFrom B W W' :=
 ⟨h.size,fun k _ _ hk _=>(h.block k (Array.getElem?_eq_some_iff.1 hk).1).trans hk⟩
theorem blk_own {β:Type}(B g:Nat)(t:TypeId)(cs:Array Value):OwnFrom B (fun (_:β) W=>Blk W g t cs):=fun _ X _ _ hs hg hrow =>
 hs.grown hg (fun e=>by obtain ⟨-,o,ho,hc⟩:=hrow g e.symm;rw [show X.heap[g]?=_ from hs] at ho;cases ho;cases hc)
theorem ownFrom_ex {β γ:Type}{B:Nat}{I:γ→β→World→Prop}(h:∀ r,OwnFrom B (I r)):OwnFrom B (fun s W=>∃ r,I r s W):=fun s X Y row ⟨r,hs⟩ hg hr=>⟨r,h r s X Y row hs hg hr⟩
theorem find_hit (nm key:ByteArray)(kv:Value)(ks:List PKey)(w:World)(h:KeysAt w w.heap.size kv ks)(hk:ks.length≤1000000){j:Nat}{k:PKey}(h1:ks[j]?=some k)(h2:k.1=key)(h3:∀ k'∈ks.take j,k'.1≠key) :
  Calls Tryz.prog 82 #[.agg #[.string nm,kv],.string key] w fun en w'=>en=.returned (.int .i64 (j:Int))∧Below w.heap.size w w' :=
 (find_any nm key kv ks w h hk).mono fun en w' ⟨⟨r,he,hF⟩,hB⟩=>by
  refine ⟨?_,hB⟩
  rcases hF with ⟨i,k',rfl,g1,g2,g3⟩ | ⟨rfl,hn⟩
  ·rcases Nat.lt_trichotomy j i with h | rfl | h
   ·exact absurd h2 (g3 k (List.mem_iff_getElem?.2 ⟨j,by rw [List.getElem?_take];simp [h,h1]⟩))
   ·exact he
   ·exact absurd g2 (h3 k' (List.mem_iff_getElem?.2 ⟨i,by rw [List.getElem?_take];simp [h,g1]⟩))
  ·exact absurd h2 (hn k (List.mem_of_getElem? h1))
theorem find_miss (nm key:ByteArray)(kv:Value)(ks:List PKey)(w:World)(h:KeysAt w w.heap.size kv ks)(hk:ks.length≤1000000)(h3:∀ k'∈ks,k'.1≠key) :
  Calls Tryz.prog 82 #[.agg #[.string nm,kv],.string key] w fun en w'=>en=.returned (.int .i64 (-1))∧Below w.heap.size w w' :=
 (find_any nm key kv ks w h hk).mono fun en w' ⟨⟨r,he,hF⟩,hB⟩=>by
  refine ⟨?_,hB⟩
  rcases hF with ⟨i,k',rfl,g1,g2,g3⟩ | ⟨rfl,hn⟩
  ·exact absurd g2 (h3 k' (List.mem_of_getElem? g1))
  ·exact he

end
section
open Go.RowKit

/-- Cells written over from a place on. -/
def wrs:List Value→Nat→List Value→List Value
 | xs,_,[]=>xs
 | xs,o,v::r=>wrs (xs.set o v) (o+1) r
theorem wrs_at:∀(vs xs:List Value) (o t:Nat),o+vs.length≤xs.length→(wrs xs o vs)[t]?=if o≤t∧t<o+vs.length then vs[t-o]? else xs[t]?
 | [],xs,o,t,_=>by
  rw [if_neg (by simp only [List.length_nil];omega)]
  rfl
 | v::r,xs,o,t,h=>by
  simp only [List.length_cons] at h
  rw [wrs,wrs_at r (xs.set o v) (o+1) t (by simp;omega)]
  simp only [List.length_cons]
  by_cases h1:o+1≤t∧t<o+1+r.length
  ·rw [if_pos h1,if_pos (by omega),show t-o=(t-(o+1))+1 by omega,List.getElem?_cons_succ]
  ·rw [if_neg h1]
   by_cases h2:t=o
   ·subst h2
    rw [if_pos (by omega),Nat.sub_self,List.getElem?_set_self (by omega)]
    rfl
   ·rw [if_neg (by omega),List.getElem?_set_ne (fun e=>h2 e.symm)]
theorem wrs_len:∀(vs xs:List Value) (o:Nat),(wrs xs o vs).length=xs.length
 | [],_,_=>rfl
 | v::r,xs,o=>by rw [wrs,wrs_len r];simp
theorem own_setCellsD {base g n c size:Nat}{e:TypeId}:∀(vs:List Value) (w:World) (xs:List Value) (o:Nat),w.ownsRow base e size (.slice (some ⟨g,0,none⟩) n c) n xs→(w.setCells g o vs).ownsRow base e size (.slice (some ⟨g,0,none⟩) n c) n (wrs xs o vs)
 | [],_,_,_,h=>h
 | v::r,w,xs,o,h=>own_setCellsD r (w.setCell ⟨g,o,none⟩ v) (xs.set o v) (o+1) (own_set h o v)
theorem setCells_grown (g:Nat):∀(vs:List Value) (w:World) (o:Nat),w.grownBy (w.setCells g o vs) (some g)
 | [],w,_=>Only.refl g w
 | v::r,w,o=>Only.trans (((Only.refl g w).setCell (p:=⟨g,o,none⟩) (.inl rfl) v)) (setCells_grown g r (w.setCell ⟨g,o,none⟩ v) (o+1))
theorem own_shorter {w:World}{base g n c:Nat}{e:TypeId}{xs:List Value}(h:w.ownsRow base e 2 (.slice (some ⟨g,0,none⟩) n c) n xs){k:Nat}(hk:k≤n):w.ownsRow base e 2 (.slice (some ⟨g,0,none⟩) k c) k (xs.take (k*2)):=by
 obtain ⟨h1,h2⟩:=h
 refine ⟨by rw [List.length_take,h1];omega,?_⟩
 rcases h2 with ⟨h2,-⟩ | ⟨g',cap,cur,hv,hb,hh,hn,hm,hcs,hx⟩
 ·cases h2
 ·cases hv
  refine .inr ⟨g,c,cur,rfl,hb,hh,by omega,hm,hcs,?_⟩
  rw [←hx,List.take_take,Nat.min_eq_left (by omega)]
/-- What the moved cells and the cleared ones leave. -/
theorem erase_cells {ks:List PKey}{i:Nat}(hi:i<ks.length)(z:List Value)(hz:z.length=2) :
  (wrs (wrs (pairCells ks) (i*2) (pairCells (ks.drop (i+1)))) ((ks.length-1)*2) z).take ((ks.length-1)*2)=pairCells (ks.eraseIdx i):=by
 have hl:∀ l:List PKey,(pairCells l).length=l.length*2:=fun l=>cells2_len kA kB l
 have e1:ks.eraseIdx i=ks.take i++ks.drop (i+1):=List.eraseIdx_eq_take_drop_succ ..
 have e2:pairCells (ks.take i++ks.drop (i+1))=pairCells (ks.take i)++pairCells (ks.drop (i+1)):=by simp [pairCells]
 have e3:pairCells (ks.take i)=(pairCells ks).take (i*2):=by
  have h:=congrArg (List.take (i*2)) (show pairCells ks=pairCells (ks.take i)++pairCells (ks.drop i) by rw [show pairCells (ks.take i)++pairCells (ks.drop i)=pairCells (ks.take i++ks.drop i) by simp only [pairCells,List.flatMap_append],List.take_append_drop])
  rw [h,List.take_left' (by rw [hl,List.length_take];omega)]
 have hd:(pairCells (ks.drop (i+1))).length=(ks.length-(i+1))*2:=by rw [hl,List.length_drop]
 apply List.ext_getElem?
 intro t
 rw [List.getElem?_take,e1,e2]
 split
 ·rename_i ht
  rw [wrs_at _ _ _ _ (by rw [wrs_len,hl,hz];omega),if_neg (by omega),wrs_at _ _ _ _ (by rw [hd,hl];omega),hd]
  by_cases h:i*2≤t
  ·rw [if_pos (by omega),List.getElem?_append_right (by rw [hl,List.length_take];omega),hl,List.length_take,Nat.min_eq_left (by omega)]
  ·rw [if_neg (by omega),List.getElem?_append_left (by rw [hl,List.length_take];omega),e3,List.getElem?_take,if_pos (by omega)]
 ·rw [List.getElem?_eq_none]
  rw [List.length_append,hl,hd,List.length_take]
  omega
theorem run_clear_pair (w:World)(ty:TypeId)(g o c:Nat)(hc:∀ j,j<2→(w.cell? ⟨g,o+j,none⟩).isSome=true)(hf:∀ j,j<2→w.frozen? ⟨g,o+j,none⟩=false) :
  (Builtin.clear_ #[119] ty #[.slice (some ⟨g,o,none⟩) 1 c]).run Tryz.prog w=.ok (.tuple #[]) (w.setCells g o [.string ByteArray.empty,.string ByteArray.empty]):=by
 have hz:∀ w,(zeroValue 126).run Tryz.prog w=.ok (.agg #[.string ByteArray.empty,.string ByteArray.empty]) w:=fun w=>by kernel_rfl
 have hzc:(Builtin.zeroCells (Value.agg #[.string ByteArray.empty,.string ByteArray.empty]).cells 1).toList=[.string ByteArray.empty,.string ByteArray.empty]:=by kernel_rfl
 have hst:=run_storeCells_cells (P:=Tryz.prog) g o [.string ByteArray.empty,.string ByteArray.empty] 0 w (by simpa using hc) (by simpa using hf) (by simp [Value.oneCell'])
 simp only [Nat.add_zero] at hst
 simp [Builtin.clear_,run_underlying Tryz.underlying119,hz,hzc,hst]
set_option maxHeartbeats 4000000 in
set_option maxRecDepth 1000000 in
theorem delete_any (g c i:Nat)(ks:List PKey)(base:Nat)(w:World)(ho:w.ownsRow base 126 2 (.slice (some ⟨g,0,none⟩) ks.length c) ks.length (pairCells ks))(hi:i<ks.length)(hs:ks.length≤1000000) :
  Calls Tryz.prog 83 #[.slice (some ⟨g,0,none⟩) ks.length c,.int .i64 (i:Int),.int .i64 ((i:Int)+1)] w fun en w'=>en=.returned (.slice (some ⟨g,0,none⟩) (ks.length-1) c) ∧
   w'.ownsRow base 126 2 (.slice (some ⟨g,0,none⟩) (ks.length-1) c) (ks.length-1) (pairCells (ks.eraseIdx i))∧w.grownBy w' (some g):=by
 obtain ⟨A0,c0,e0,hnc,hcm,-⟩:=own_form ho
 cases e0
 have HO:=Lib.hid ho
 generalize hn:ks.length=n at *
 have HN:=Lib.hid hn
 clear hn ho
 have hni:(i:Int)+1≤(n:Int):=by omega
 have hnl:(n:Int)≤(c:Int):=by omega
 have hn6:(n:Int)≤1000000:=by omega
 have hne:((i:Int) == (i:Int)+1)=false:=by rw [beq_eq_false_iff_ne];omega
 obtain ⟨i0,hi0,hz0,hz1,hz2⟩:=info_parts pair_info
 go_enter Tryz.func83,Tryz.ntmps83
 obtain ⟨A,hA,hsrc⟩:∃ A:Addr,(if c=i+1 then some (⟨g,0,none⟩:Addr) else some ⟨g,(i+1)*2,none⟩)=some A∧Hid (∀ t u,(pairCells (ks.drop (i+1)))[t]?=some u→w.drew.cell? (A.add t)=some u):=by
  have hd:pairCells (ks.drop (i+1))=(pairCells ks).drop ((i+1)*2):=by
   have h:=congrArg (List.drop ((i+1)*2)) (show pairCells ks=pairCells (ks.take (i+1))++pairCells (ks.drop (i+1)) by rw [show pairCells (ks.take (i+1))++pairCells (ks.drop (i+1))=pairCells (ks.take (i+1)++ks.drop (i+1)) by simp only [pairCells,List.flatMap_append],List.take_append_drop])
   rw [h,List.drop_left' (by rw [show (pairCells (ks.take (i+1))).length=_ from cells2_len kA kB _,List.length_take];have:=HN.out;omega)]
  by_cases h:c=i+1
  ·refine ⟨⟨g,0,none⟩,by simp [h],fun t u hu=>?_⟩
   have h0:(pairCells (ks.drop (i+1))).length=0:=by rw [show (pairCells (ks.drop (i+1))).length=_ from cells2_len kA kB _,List.length_drop,HN.out];omega
   rw [List.length_eq_zero_iff.1 h0] at hu
   simp at hu
  ·refine ⟨⟨g,(i+1)*2,none⟩,by simp [h],fun t u hu=>?_⟩
   rw [hd,List.getElem?_drop] at hu
   have:=own_cell HO.out _ _ hu
   by_cases ht:t=0
   ·subst ht
    simpa [Addr.add] using this
   ·simpa [Addr.add,ht] using this
 have s1:=Lib.hid (show (pairCells (ks.drop (i+1))).length=(n-(i+1))*2 by rw [show (pairCells (ks.drop (i+1))).length=_ from cells2_len kA kB _,List.length_drop,HN.out])
 have s2:Hid (∀ u∈pairCells (ks.drop (i+1)),u.oneCell'=true):=by
  intro u hu
  obtain ⟨x,_,hx⟩:=List.mem_flatMap.1 hu
  simp at hx
  rcases hx with rfl | rfl <;> rfl
 have s3:Hid (∀ t,t<(pairCells (ks.drop (i+1))).length→(w.drew.cell? ⟨g,0+i*2+t,none⟩).isSome=true∧w.drew.frozen? ⟨g,0+i*2+t,none⟩=false):=by
  intro t ht
  have ht2:=s1.out
  have hlt:i*2+t<(pairCells ks).length:=by rw [show (pairCells ks).length=_ from cells2_len kA kB _,HN.out];omega
  rw [Nat.zero_add]
  refine ⟨?_,own_free HO.out _⟩
  show (w.cell? _).isSome=true
  rw [own_cell HO.out _ _ (List.getElem?_eq_getElem hlt)]
  rfl
 obtain ⟨news,hnews⟩:∃ news,news=pairCells (ks.drop (i+1)):=⟨_,rfl⟩
 rw [←hnews] at hsrc s1 s2 s3
 obtain ⟨W1,hW1⟩:∃ W1,W1=w.drew.setCells g (0+i*2) news:=⟨_,rfl⟩
 have hO1:W1.ownsRow base 126 2 (.slice (some ⟨g,0,none⟩) n c) n (wrs (pairCells ks) (i*2) (pairCells (ks.drop (i+1)))):=by
  rw [hW1,hnews,Nat.zero_add]
  exact own_setCellsD _ w.drew _ _ HO.out
 have HG1:=Lib.hid (show w.grownBy W1 (some g) from by rw [hW1];exact Only.trans ((Only.refl g w).drew) (setCells_grown g news w.drew (0+i*2)))
 have hw1:∀ j,j<2→(W1.cell? ⟨g,(n-1)*2+j,none⟩).isSome=true:=fun j hj=>by
  have hlt:(n-1)*2+j<(wrs (pairCells ks) (i*2) (pairCells (ks.drop (i+1)))).length:=by rw [wrs_len,show (pairCells ks).length=_ from cells2_len kA kB _,HN.out];omega
  rw [own_cell hO1 _ _ (List.getElem?_eq_getElem hlt)]
  rfl
 have hcl:∀ ty cc,(Builtin.clear_ #[119] ty #[.slice (some ⟨g,(n-1)*2,none⟩) 1 cc]).run Tryz.prog W1=.ok (.tuple #[]) (W1.setCells g ((n-1)*2) [.string ByteArray.empty,.string ByteArray.empty]):=fun ty cc=>run_clear_pair W1 ty g _ cc hw1 (fun j hj=>own_free hO1 _)
 have HO1:=Lib.hid hO1
 have HW:=Lib.hid hW1
 have HNW:=Lib.hid hnews
 have hic:(i:Int)≤(c:Int):=by omega
 have hi1:(0:Int)≤(i:Int)+1:=by omega
 clear hW1 hO1 hnews hw1
 go_wp2_with fail
 go_region_law (refine step_append_room rfl (.tmp 22) (.tmp 25) 119 rfl 126 i0 2 Tryz.underlying119 hi0 hz1 g 0 i c (by simp [Act.eval,Act.put]) A (n-(i+1)) (c-(i+1)) news (by simp [Act.eval,Act.put]) s1.out hsrc.out s2.out (by omega) s3.out ?_;rw [←HW.out])
 have hsum:i+(n-(i+1))=n-1:=by omega
 rw [hsum]
 have hm1:((n-1:Nat):Int)≤(n:Int):=by omega
 have hm2:n-(n-1)=1:=by omega
 go_wp2_with fail
 go_ret
 refine ⟨rfl,?_,grown_trans HG1.out (setCells_grown g _ W1 _) (fun k e=>.inl e)⟩
 have h:=own_shorter (own_setCellsD [.string ByteArray.empty,.string ByteArray.empty] W1 _ ((n-1)*2) HO1.out) (k:=n-1) (by omega)
 have he:=erase_cells (ks:=ks) (i:=i) (by rw [HN.out];exact hi) [.string ByteArray.empty,.string ByteArray.empty] rfl
 rw [HN.out] at he
 rw [he] at h
 exact h
end
section
open Go.RowKit Go.Shelf

def HasK (ks:List PKey)(key:ByteArray):Prop:=∃ k∈ks,k.1=key
/-- What is left of the steps without the key. -/
def WoIs (l:List PStep)(key:ByteArray)(r:Option (List PStep)):Prop :=
 (r=none∧∀ st∈l,¬ HasK st.2 key)∨∃(i:Nat) (st:PStep),l[i]?=some st∧HasK st.2 key∧(∀(j:Nat) (st':PStep),i<j→l[j]?=some st'→¬ HasK st'.2 key)∧r=some (l.set i (st.1,dropK st.2 key))
theorem woIs_unique {l:List PStep}{key:ByteArray}{r r':Option (List PStep)}(h:WoIs l key r)(h':WoIs l key r'):r=r':=by
 rcases h with ⟨rfl,hn⟩ | ⟨i,st,hi,hs,hl,rfl⟩
 ·rcases h' with ⟨rfl,-⟩ | ⟨i',st',hi',hs',-,-⟩
  ·rfl
  ·exact absurd hs' (hn st' (List.mem_of_getElem? hi'))
 ·rcases h' with ⟨rfl,hn⟩ | ⟨i',st',hi',hs',hl',rfl⟩
  ·exact absurd hs (hn st (List.mem_of_getElem? hi))
  ·rcases Nat.lt_trichotomy i i' with h | rfl | h
   ·exact absurd hs' (hl i' st' h hi')
   ·rw [hi] at hi'
    cases hi'
    rfl
   ·exact absurd hs (hl' i st h hi)
theorem erase_drop:∀(ks:List PKey) (j:Nat) (k:PKey) (key:ByteArray),RisesK ks→ks[j]?=some k→k.1=key→ks.eraseIdx j=dropK ks key
 | [],_,_,_,_,h,_=>by simp at h
 | x::ks,0,k,key,hr,h,e=>by
  simp at h
  subst h
  have h1:=(List.pairwise_cons.1 hr).1
  simp only [List.eraseIdx_cons_zero,dropK,List.filter_cons,e]
  rw [if_neg (by simp)]
  symm
  rw [List.filter_eq_self]
  intro y hy
  simp only [decide_eq_true_eq]
  intro e2
  have:=h1 y hy
  rw [e,e2,bl_irr] at this
  cases this
 | x::ks,j+1,k,key,hr,h,e=>by
  simp only [List.getElem?_cons_succ] at h
  have h1:=(List.pairwise_cons.1 hr).1 k (List.mem_of_getElem? h)
  have h2:x.1≠key:=fun e2=>by rw [e2,e,bl_irr] at h1;cases h1
  simp only [List.eraseIdx_cons_succ,dropK,List.filter_cons]
  rw [if_pos (by simpa using h2),erase_drop ks j k key (List.pairwise_cons.1 hr).2 h e]
  rfl
theorem stepCells_set:∀(l:List PStep) (vs:List Value) (i:Nat) (st:PStep) (ks:List PKey) (v:Value),l[i]?=some st→vs.length=l.length→stepCells (l.set i (st.1,ks)) (vs.set i v)=(stepCells l vs).set (i*2+1) v
 | [],_,_,_,_,_,h,_=>by simp at h
 | x::l,[],_,_,_,_,_,h=>by simp at h
 | x::l,y::vs,0,st,ks,v,h,_=>by
  simp at h
  subst h
  simp [stepCells]
 | x::l,y::vs,i+1,st,ks,v,h,hl=>by
  simp only [List.getElem?_cons_succ] at h
  have ih:=stepCells_set l vs i st ks v h (by simpa using hl)
  rw [show (i+1)*2+1=i*2+1+1+1 by omega]
  simpa [stepCells] using ih
theorem steps_set {w W:World}{base bs c i:Nat}{l:List PStep}{vs:List Value}{kv v':Value}{st:PStep}{ks':List PKey}(hI:StepsIn w base (.slice (some ⟨bs,0,none⟩) l.length c) l vs)(hst:l[i]?=some st)(hkv:vs[i]?=some kv)
  (hg:w.grownBy W kv.ownBlock)(ho:W.ownsRow base 126 2 v' ks'.length (pairCells ks')) :
  StepsR (W.setCell ⟨bs,i*2+1,none⟩ v') (.slice (some ⟨bs,0,none⟩) l.length c) (l.set i (st.1,ks')) (vs.set i v'):=by
 have hrow:=row_stays hI hst hkv hg
 have hset:=own_set hrow (i*2+1) v'
 rw [←stepCells_set l vs i st ks' v' hst hI.1] at hset
 obtain ⟨A9,c9,e9,g1,g2,g3⟩:=own_form hset
 cases e9
 have hll:(l.set i (st.1,ks')).length=l.length:=by simp
 have hO:W.grownBy (W.setCell ⟨bs,i*2+1,none⟩ v') (some bs):=(Only.refl bs W).setCell (.inl rfl) v'
 have hkeep:∀(u:Value) (ks:List PKey),W.ownsRow base 126 2 u ks.length (pairCells ks)→KeysAt (W.setCell ⟨bs,i*2+1,none⟩ v') (W.setCell ⟨bs,i*2+1,none⟩ v').heap.size u ks:=fun u ks h=>by
  have h9:=h.kept hO (by
   cases hu:u.ownBlock with
   | none=>exact .inl rfl
   | some a=>exact .inr fun e=>own_other h hrow (by decide) a hu (by cases e;rfl))
  obtain ⟨A',c',rfl,a,b,hr⟩:=own_form h9
  exact ⟨A',c',rfl,a,b,hr⟩
 refine ⟨_,c,by rw [hll],by rw [hll];exact g1,g2,by rw [hll];exact g3,by simp [hI.1],fun j st' kj hj hkj=>?_⟩
 by_cases hji:j=i
 ·subst hji
  have hlt:=(List.getElem?_eq_some_iff.1 hst).1
  rw [List.getElem?_set_self hlt] at hj
  rw [List.getElem?_set_self (by rw [hI.1];exact hlt)] at hkj
  cases hj
  cases hkj
  exact hkeep _ _ ho
 ·rw [List.getElem?_set_ne (fun e=>hji e.symm)] at hj hkj
  exact hkeep _ _ (keys_stay hI hkv hg hji hj hkj)
def WithoutPost (p key:ByteArray)(w:World)(en:Ending)(w':World):Prop:=Below w.heap.size w w' ∧
 (((∃ e,parseM p=.error e)∧en=.returned (.tuple #[.string ⟨#[]⟩,.bool false])) ∨
  ∃ l,parseM p=.ok l∧((WoIs l key none∧en=.returned (.tuple #[.string p,.bool false]))∨∃ l',WoIs l key (some l')∧en=.returned (.tuple #[.string (putS (putM l')),.bool true])))
/-- None of these steps has the key. -/
def NoK (l:List PStep)(key:ByteArray)(pre:List (Fin l.length)):Prop:=∀(i:Fin l.length),i∈pre→¬ HasK (l.get i).2 key
def HitK (l:List PStep)(key:ByteArray)(pre:List (Fin l.length))(l':List PStep):Prop:=∃ ini last,pre=ini++[last]∧NoK l key ini∧HasK (l.get last).2 key∧l'=l.set last.val ((l.get last).1,dropK (l.get last).2 key)
theorem hitK_is {l:List PStep}{key:ByteArray}{pre:List (Fin l.length)}{l':List PStep}(hD:Desc l.length pre)(h:HitK l key pre l'):WoIs l key (some l'):=by
 obtain ⟨ini,last,rfl,h1,h2,rfl⟩:=h
 have hl:=hD ini.length last (by simp)
 refine .inr ⟨last.val,l.get last,by simp,h2,?_,rfl⟩
 intro j st' hj hst
 obtain ⟨hlt,rfl⟩:=List.getElem?_eq_some_iff.1 hst
 have hini:Desc l.length ini:=fun a x hx=>hD a x (by rw [List.getElem?_append_left (List.getElem?_eq_some_iff.1 hx).1];exact hx)
 exact h1 ⟨j,hlt⟩ (desc_mem hini (.inl (by simp only;omega)))
theorem noK_is {l:List PStep}{key:ByteArray}{pre:List (Fin l.length)}(hD:Desc l.length pre)(hl:pre.length=l.length)(h:NoK l key pre):WoIs l key none:=by
 refine .inl ⟨rfl,?_⟩
 intro st hst
 obtain ⟨j,hj,rfl⟩:=List.getElem_of_mem hst
 exact h ⟨j,hj⟩ (desc_mem hD (.inl (by simp only;omega)))
end
section
open Go.RowKit

def altT:ByteArray:=⟨#[97,108,116]⟩
def countT:ByteArray:=⟨#[99,111,117,110,116]⟩
def otherT:ByteArray:=⟨#[111,116,104,101,114]⟩
def hasKB (ks:List PKey)(key:ByteArray):Bool:=ks.any fun k=>decide (k.1=key)
theorem hasKB_iff {ks:List PKey}{key:ByteArray}:hasKB ks key=true↔HasK ks key:=by
 unfold hasKB HasK
 rw [List.any_eq_true]
 exact ⟨fun ⟨k,h1,h2⟩=>⟨k,h1,of_decide_eq_true h2⟩,fun ⟨k,h1,h2⟩=>⟨k,h1,decide_eq_true h2⟩⟩
/-- The last step that has a key: what is ahead, it, what is behind. -/
def lastK (key:ByteArray):List PStep→Option Nat
 | []=>none
 | st::r=>match lastK key r with
  | some i=>some (i+1)
  | none=>if hasKB st.2 key=true then some 0 else none
theorem lastK_some {key:ByteArray}:∀ {l:List PStep} {i:Nat},lastK key l=some i→∃ st,l[i]?=some st∧HasK st.2 key∧∀(j:Nat) (st':PStep),i<j→l[j]?=some st'→¬ HasK st'.2 key
 | [],_,h=>by cases h
 | st::r,i,h=>by
  simp only [lastK] at h
  cases hr:lastK key r with
  | some k =>
   rw [hr] at h
   cases h
   obtain ⟨st',h1,h2,h3⟩:=lastK_some hr
   refine ⟨st',by simpa using h1,h2,fun j s hj hs=>?_⟩
   cases j with
   | zero=>omega
   | succ j=>exact h3 j s (by omega) (by simpa using hs)
  | none =>
   rw [hr] at h
   simp only at h
   split at h
   ·rename_i hk
    cases h
    refine ⟨st,rfl,hasKB_iff.1 hk,fun j s hj hs=>?_⟩
    cases j with
    | zero=>omega
    | succ j=>exact lastK_none hr s (List.mem_of_getElem? (by simpa using hs))
   ·cases h
where
 lastK_none {key:ByteArray}:∀ {l:List PStep},lastK key l=none→∀ st∈l,¬ HasK st.2 key
 | [],_=>fun st h=>by cases h
 | st::r,h=>by
  simp only [lastK] at h
  cases hr:lastK key r with
  | some k=>rw [hr] at h;cases h
  | none =>
   rw [hr] at h
   simp only at h
   split at h
   ·cases h
   ·rename_i hk
    intro s hs
    rcases List.mem_cons.1 hs with rfl | hs
    ·exact fun h2=>hk (hasKB_iff.2 h2)
    ·exact lastK_none hr s hs
/-- The steps without a key. -/
def woM (l:List PStep)(key:ByteArray):Option (List PStep):=match lastK key l with
 | none=>none
 | some i=>some (l.set i ((l.getD i (ByteArray.empty,[])).1,dropK (l.getD i (ByteArray.empty,[])).2 key))
theorem woM_is (l:List PStep)(key:ByteArray):WoIs l key (woM l key):=by
 unfold woM
 cases h:lastK key l with
 | none=>exact .inl ⟨rfl,lastK_some.lastK_none h⟩
 | some i =>
  obtain ⟨st,h1,h2,h3⟩:=lastK_some h
  refine .inr ⟨i,st,h1,h2,h3,?_⟩
  simp only
  rw [List.getD_eq_getElem?_getD,h1]
  rfl
theorem woM_eq {l:List PStep}{key:ByteArray}{r:Option (List PStep)}(h:WoIs l key r):woM l key=r:=woIs_unique (woM_is l key) h
/-- The first pair with a key: its place. -/
def keyAt (key:ByteArray)(ks:List PKey):Nat:=ks.findIdx fun k=>decide (k.1=key)
/-- The path with another count, where it stands. -/
def midAt (l:List PStep)(i:Nat)(st:PStep):List ByteArray:=if (st.2.getD (keyAt countT st.2) (ByteArray.empty,ByteArray.empty)).2=otherT then [] else
  match putM (l.set i (st.1,st.2.set (keyAt countT st.2) (countT,otherT))) with
  | .ok t=>[str t]
  | .error _=>[]
def midM (l:List PStep):List ByteArray:=match lastK countT l with
 | none=>[]
 | some i=>midAt l i (l.getD i (ByteArray.empty,[]))
theorem lastK_is {key:ByteArray}{l:List PStep}{i:Nat}{st:PStep}(h1:l[i]?=some st)(h2:HasK st.2 key)(h3:∀(j:Nat) (st':PStep),i<j→l[j]?=some st'→¬ HasK st'.2 key):lastK key l=some i:=by
 cases h:lastK key l with
 | none=>exact absurd h2 (lastK_some.lastK_none h st (List.mem_of_getElem? h1))
 | some k =>
  obtain ⟨st',g1,g2,g3⟩:=lastK_some h
  rcases Nat.lt_trichotomy i k with hl | rfl | hl
  ·exact absurd g2 (h3 k st' hl g1)
  ·rfl
  ·exact absurd h2 (g3 i st hl h1)
/-- The step that was hit. -/
def MidHit (l:List PStep)(pre:List (Fin l.length))(ms:List ByteArray):Prop:=∃ ini last,pre=ini++[last]∧NoK l countT ini∧HasK (l.get last).2 countT∧ms=midAt l last.val (l.get last)
theorem midHit_is {l:List PStep}{pre:List (Fin l.length)}{ms:List ByteArray}(hD:Desc l.length pre)(h:MidHit l pre ms):ms=midM l:=by
 obtain ⟨ini,last,rfl,h1,h2,rfl⟩:=h
 have hl:=hD ini.length last (by simp)
 have hini:Desc l.length ini:=fun a x hx=>hD a x (by rw [List.getElem?_append_left (List.getElem?_eq_some_iff.1 hx).1];exact hx)
 have hk:lastK countT l=some last.val:=lastK_is (st:=l.get last) (by simp) h2 fun j st' hj hst=>by
  obtain ⟨hlt,rfl⟩:=List.getElem?_eq_some_iff.1 hst
  exact h1 ⟨j,hlt⟩ (desc_mem hini (.inl (by simp only;omega)))
 unfold midM
 rw [hk]
 simp only
 rw [List.getD_eq_getElem?_getD,List.getElem?_eq_getElem last.isLt]
 rfl
theorem keyAt_is {key:ByteArray}:∀ {ks:List PKey} {k:Nat} {x:PKey},ks[k]?=some x→x.1=key→(∀(j:Nat) (y:PKey),j<k→ks[j]?=some y→y.1≠key)→keyAt key ks=k
 | [],_,_,h,_,_=>by cases h
 | a::r,0,x,h,e,_=>by
  cases h
  unfold keyAt
  rw [List.findIdx_cons,decide_eq_true e]
  rfl
 | a::r,k+1,x,h,e,hn=>by
  have h0:=hn 0 a (by omega) rfl
  have ih:=keyAt_is (ks:=r) (k:=k) (by simpa using h) e fun j y hj hy=>hn (j+1) y (by omega) (by simpa using hy)
  unfold keyAt at ih ⊢
  rw [List.findIdx_cons,decide_eq_false h0]
  simp [ih]
/-- The paths behind one without an alternative. -/
def sideC (p:ByteArray):List ByteArray:=match parseM p with
 | .error _=>[]
 | .ok l=>match woM l countT with
  | none=>[]
  | some l'=>midM l++[putS (putM l')]
/-- The paths sideways of a path. -/
def sideM (p:ByteArray):List ByteArray:=match parseM p with
 | .error _=>[]
 | .ok l=>match woM l altT with
  | none=>p::sideC p
  | some l'=>p::putS (putM l')::sideC (putS (putM l'))
theorem side_bad {p:ByteArray}{e:Int×Int}(h:parseM p=.error e):sideM p=[]:=by
 unfold sideM
 rw [h]
theorem side_one {p:ByteArray}{l:List PStep}(h:parseM p=.ok l)(h2:WoIs l altT none):sideM p=p::sideC p:=by
 unfold sideM
 rw [h]
 simp only
 rw [woM_eq h2]
theorem side_two {p:ByteArray}{l l':List PStep}(h:parseM p=.ok l)(h2:WoIs l altT (some l')):sideM p=p::putS (putM l')::sideC (putS (putM l')):=by
 unfold sideM
 rw [h]
 simp only
 rw [woM_eq h2]
theorem sideC_bad {p:ByteArray}{e:Int×Int}(h:parseM p=.error e):sideC p=[]:=by
 unfold sideC
 rw [h]
theorem sideC_none {p:ByteArray}{l:List PStep}(h:parseM p=.ok l)(h2:WoIs l countT none):sideC p=[]:=by
 unfold sideC
 rw [h]
 simp only
 rw [woM_eq h2]
theorem sideC_some {p:ByteArray}{l l':List PStep}(h:parseM p=.ok l)(h2:WoIs l countT (some l')):sideC p=midM l++[putS (putM l')]:=by
 unfold sideC
 rw [h]
 simp only
 rw [woM_eq h2]
end
section
open Go.RowKit

theorem oper_in {P:Program}{o:Oper}{a:Act}{K:Act→World→Prop}{Q:Exit→Act→World→Prop}{l n:Nat}{w:World}(hnd:∀ c,o.op≠.defer c)(h:Oper.wp P o a w K Q):Oper.wpIn (Fence.wide.inRound l) n P o a w K Q:=by
 refine ⟨fun _ _=>trivial,?_⟩
 rw [show (Fence.wide.inRound l).round=some l from rfl,Oper.semAt_some l _ _ hnd]
 unfold Oper.wp at h
 cases hr:(execOp a.eval o).run P w with
 | halt x w' =>
  rw [hr] at h
  cases x <;> first | exact h | exact h.elim
 | ok v w' =>
  rw [hr] at h
  cases v with
  | value v=>exact h
  | skip=>exact h
  | defer d=>exact h
  | enter f args=>exact ⟨fun e=>by simp [Fence.wide] at e,CallsIn.inRound l (callsIn_wide.2 h)⟩
  | row row args =>
   refine ⟨fun e=>by simp [Fence.wide] at e,fun c cs _=>?_⟩
   obtain ⟨v,w'',r,s⟩:=h c cs
   exact ⟨v,w'',r,stepsIn_wide.2 s⟩
  | _=>exact h.elim
theorem wpOp_in {P:Program}{ops:Array Oper}{Q:Exit→Act→World→Prop}{i l n:Nat}{K K':Act→World→Prop}{a:Act}{w:World}(hnd:∀(i:Nat) (o:Oper),ops[i]?=some o→∀ c,o.op≠.defer c)(hL:¬ LetsOut Q)(hK:∀ a w,K a w→K' a w)
  (h:wpOp P ops Q i K a w):wpOpIn (Fence.wide.inRound l) n P ops Q i K' a w:=by
 unfold wpOp at h
 unfold wpOpIn
 cases ho:ops[i]? with
 | none=>rw [ho] at h;exact hK _ _ h
 | some o =>
  rw [ho] at h
  simp only at h ⊢
  split
  ·rename_i hw
   rw [if_pos hw] at h
   rcases h with h | h
   ·exact oper_in (hnd i o ho) (Oper.wp_mono hK h)
   ·exact absurd h.2 hL
  ·rename_i hw
   rw [if_neg hw] at h
   exact ⟨fun _ _=>trivial,hK _ _ h⟩
theorem wpAny_in {P:Program}{md:Region.Mode}{ops:Array Oper}{Q:Exit→Act→World→Prop}{l n:Nat}(hnd:∀(i:Nat) (o:Oper),ops[i]?=some o→∀ c,o.op≠.defer c)(hL:¬ LetsOut Q) :
  ∀(fuel:Nat) (listed:Array Bool) (a:Act) (w:World),wpAny P md ops Q fuel listed a w→wpAnyIn (Fence.wide.inRound l) n P md ops Q fuel listed a w
 | 0,_,_,_,h=>h
 | fuel+1,listed,a,w,h=>⟨h.1,fun i hi=>wpOp_in hnd hL (fun a w=>wpAny_in hnd hL fuel _ a w) (h.2 i hi)⟩
def plainOps (ops:Array Oper):Bool:=ops.all fun o=>match o.op with | .defer _=>false | _=>true
theorem plainOps_at {ops:Array Oper}(h:plainOps ops=true):∀(i:Nat) (o:Oper),ops[i]?=some o→∀ c,o.op≠.defer c:=by
 intro i o hi c e
 obtain ⟨hlt,rfl⟩:=Array.getElem?_eq_some_iff.1 hi
 have:=Array.all_eq_true.1 h i hlt
 rw [e] at this
 cases this
/-- The way in. -/
theorem wpIn_region_out {P:Program}{ops:Array Oper}{Q:Exit→Act→World→Prop}{l n id:Nat}{a:Act}{w:World}(hm:P.follows .mixedOrders=true)(hp:plainOps ops=true)(hL:∀ a w,¬ Q .outgrown a w)
  (h:wpAny P .any ops Q ops.size (Array.replicate ops.size false) a w.drew):(Code.region id ops true).wpIn (Fence.wide.inRound l) n P Q a w :=
 wpIn_region_any hm (wpAny_in (plainOps_at hp) (fun ⟨a,w,h⟩=>hL a w h) _ _ _ _ h)
end
section
open Go.RowKit Go.Shelf

attribute [local go_sem] Oper.semAt_some

theorem grown_undrew {w w':World}{row:Option Nat}(h:w.drew.grownBy w' row):w.grownBy w' row:=⟨h.os,h.tape,h.output,h.size,h.block⟩
set_option maxRecDepth 100000 in
set_option maxHeartbeats 8000000 in
theorem without_any (p key:ByteArray)(w:World)(hs:p.size≤140737488355328) :
  Calls Tryz.prog 61 #[.string p,.string key] w (WithoutPost p key w):=by
 have HP:=Lib.hid (fun W=>parse_says p W hs)
 refine (callsIn_wide (n:=9)).1 ?_
 refine callsIn_of_wp_marks Tryz.func61 rfl trivial ?_ rfl
 simp only [Tryz.ntmps61,List.size_toArray,List.length_cons,List.length_nil,Nat.reduceAdd,Nat.reduceSub,Array.replicate_succ,Array.replicate_zero,List.push_toArray,List.append_toArray,List.nil_append,List.cons_append]
 have HBX:=Lib.hid (show ∀ W1,Below (((w.alloc (.cells #[.string key] 9)).alloc (.cells #[.string ⟨#[]⟩] 9)).alloc (.cells #[.bool false] 4)).heap.size (((w.alloc (.cells #[.string key] 9)).alloc (.cells #[.string ⟨#[]⟩] 9)).alloc (.cells #[.bool false] 4)) W1→Boxed W1 w.heap.size 9 (.string key)∧Boxed W1 (w.heap.size+1) 9 (.string ⟨#[]⟩)∧Boxed W1 (w.heap.size+1+1) 4 (.bool false)∧Below w.heap.size w W1∧w.heap.size+3≤W1.heap.size from fun W1 hb=>by
  have z0:=(((Boxed.new w 9 (.string key)).alloc (.cells #[.string ⟨#[]⟩] 9)).alloc (.cells #[.bool false] 4))
  have z1:=((Boxed.new (w.alloc (.cells #[.string key] 9)) 9 (.string ⟨#[]⟩)).alloc (.cells #[.bool false] 4))
  have z2:=(Boxed.new ((w.alloc (.cells #[.string key] 9)).alloc (.cells #[.string ⟨#[]⟩] 9)) 4 (.bool false))
  rw [World.size_alloc] at z1
  rw [World.size_alloc,World.size_alloc] at z2
  refine ⟨(hb.block _ (by simp;omega)).trans z0,(hb.block _ (by simp)).trans z1,(hb.block _ (by simp)).trans z2,((((Below.refl _ w).alloc (Nat.le_refl _) _).alloc (by simp) _).alloc (by simp;omega) _).trans (hb.mono (by simp;omega)),by have:=hb.size;simp at this;omega⟩)
 gi_wp2_with (first
  | (refine ⟨trivial,?_⟩;gi_at_call 60;go_loud (refine (callsIn_wide.2 (HP.out _)).mono ?_;rintro e w1 ⟨hB1,hR1⟩;obtain ⟨e0,e1,e2,e3,e4⟩:=HBX.out _ hB1;have HE:=Lib.hid (And.intro e0 (And.intro e1 (And.intro e2 (And.intro e3 e4))));have q4:=e1.cell;have q5:=e2.cell;have f4:=e1.frozen;have f5:=e2.frozen;have l1:w.heap.size+1<w1.heap.size:=(by omega);have l2:w.heap.size+1+1<w1.heap.size:=(by omega);have l3:w.heap.size+1<w1.heap.size+1:=(by omega);have l4:w.heap.size+1+1<w1.heap.size+1:=(by omega);have l5:w.heap.size<w1.heap.size:=(by omega);have l6:w.heap.size<w1.heap.size+1:=(by omega);clear hB1 e0 e1 e2 e3 e4;rcases hR1 with ⟨x,y,hE,rfl⟩ | ⟨l,v,hE,rfl,vs,hI⟩;(have hx0:(x == 0)=false:=(by rw [beq_eq_false_iff_ne];have:=parseM_err hE;omega));rotate_left;(obtain ⟨A,c,rfl,-,-,-⟩:=own_form hI.2.1);rotate_right;all_goals (have HPE:=Lib.hid hE;clear hE)))
  | (refine ⟨trivial,?_⟩;gi_at_call 62;go_loud (refine (backward_in Fence.wide _ trivial rfl _ _ _ _).mono ?_;rintro e w' ⟨rfl,rfl⟩)))
 ·obtain ⟨e0,e1,e2,e3,e4⟩:=HE.out
  have g1:Boxed ((((w1.setCell ⟨w.heap.size+1,0,none⟩ (.string ⟨#[]⟩)).setCell ⟨w.heap.size+1+1,0,none⟩ (.bool false)).alloc (.cells #[.slice none 0 0] 115)).alloc (.cells #[.int .i64 x,.int .i64 y] 116)) (w.heap.size+1) 9 (.string ⟨#[]⟩):=(((e1.set _).other (by omega) _).alloc _).alloc _
  have g2:Boxed ((((w1.setCell ⟨w.heap.size+1,0,none⟩ (.string ⟨#[]⟩)).setCell ⟨w.heap.size+1+1,0,none⟩ (.bool false)).alloc (.cells #[.slice none 0 0] 115)).alloc (.cells #[.int .i64 x,.int .i64 y] 116)) (w.heap.size+1+1) 4 (.bool false):=(((e2.other (by omega) _).set _).alloc _).alloc _
  refine ⟨.tuple #[.string ⟨#[]⟩,.bool false],?_,((((e3.setCell (p:=⟨w.heap.size+1,0,none⟩) (by simp) _).setCell (p:=⟨w.heap.size+1+1,0,none⟩) (by simp;omega) _).alloc (by simp [World.setCell];omega) _).alloc (by simp [World.setCell];omega) _),.inl ⟨⟨_,HPE.out⟩,rfl⟩⟩
  simp [results,Tryz.f61,go_sem,g1.cell,g2.cell]
 ·have HSM:=Lib.hid (show (∀ st∈l,StepTiny st)∧l.length≤64∧(∀ st∈l,RisesK st.2) from ⟨(parseM_small HPE.out).1,(parseM_small HPE.out).2.1,parse_rises HPE.out⟩)
  obtain ⟨e0,e1,e2,e3,e4⟩:=HE.out
  obtain ⟨W0,hW0⟩:∃ W0,((w1.alloc (.cells #[.slice A l.length c] 115)).alloc (.cells #[.int .i64 0,.int .i64 0] 116)).alloc (.cells #[.slice A l.length c] 115)=W0:=⟨_,rfl⟩
  have hb10:Below w1.heap.size w1 W0:=by rw [←hW0];exact (((Below.refl _ w1).alloc (Nat.le_refl _) _).alloc (by simp) _).alloc (by simp;omega) _
  have hsz0:W0.heap.size=w1.heap.size+3:=by rw [←hW0];simp
  have b0:Boxed W0 w.heap.size 9 (.string key):=(hb10.block _ l5).trans e0
  have b1:Boxed W0 (w.heap.size+1) 9 (.string ⟨#[]⟩):=(hb10.block _ l1).trans e1
  have b2:Boxed W0 (w.heap.size+1+1) 4 (.bool false):=(hb10.block _ l2).trans e2
  have b6:Boxed W0 w1.heap.size 115 (.slice A l.length c):=by rw [←hW0];exact ((Boxed.new w1 _ _).alloc _).alloc _
  have bS:W0.cell? ⟨w1.heap.size+1+1,0,none⟩=some (.slice A l.length c):=by
   rw [←hW0]
   have:=(Boxed.new ((w1.alloc (.cells #[.slice A l.length c] 115)).alloc (.cells #[.int .i64 0,.int .i64 0] 116)) 115 (.slice A l.length c)).cell
   simpa using this
  have hI0:StepsIn W0 (w.heap.size+3) (.slice A l.length c) l vs:=by
   have h:=StepsIn.only (g:=w.heap.size) hI (Only.of_below hb10) (by simp;omega)
   exact h.base (by simp)
  have HI0:=Lib.hid hI0
  have hR0:=hI0.reads
  have hRd:Reads W0 W0.heap.size 2 A l.length (stepCells l vs):=by obtain ⟨_,_,e,_,_,h,_⟩:=hR0;cases e;exact h
  have HB0:=Lib.hid (show Below w.heap.size w W0 from e3.trans (hb10.mono (by omega)))
  have hsl:=hR0.slices
  have HVL:=Lib.hid hI0.1
  have HSL:=Lib.hid hsl
  have h09:=e4
  clear hsl
  rw [hW0]
  clear hW0 hb10 hI0 hR0 e0 e1 e2 e3 e4 HE l1 l2 l3 l4 l5 l6 q4 q5 f4 f5 hI HBX
  generalize hr9:w1.heap.size=r9 at *
  generalize hr0:w.heap.size=r0 at *
  have HRD:=Lib.hid hRd
  clear hRd
  refine wpIn_rangeFunc_ownH rfl (by decide) (gf:=85) (lb:=#[.pointer (some ⟨r9+1+1,0,none⟩)]) rfl trivial (enters_of Tryz.func85 (by kernel_rfl) rfl)
   (backward_stops Fence.wide 8 trivial rfl (by decide) (r9+1+1) W0.heap.size A c l vs HVL.out HSL.out (by have:=HSM.out.2.1;omega) W0 (by omega) (Nat.le_refl _) bS HRD.out) belowK_t (belowK_b (Nat.le_refl _)) (Below.refl _ _) (fun _=>rfl)
   (fun pre W=>(NoK l key pre∧Boxed W r0 9 (.string key))∧Boxed W (r0+1) 9 (.string ⟨#[]⟩)∧Boxed W (r0+1+1) 4 (.bool false)∧Boxed W r9 115 (.slice A l.length c)∧Below W0.heap.size W0 W)
   (fun cd pre W=>∃ l',((cd=Code.ret∧HitK l key pre l')∧Boxed W (r0+1) 9 (.string (putS (putM l'))))∧Boxed W (r0+1+1) 4 (.bool true)∧Below r0 w W)
   (OwnFrom.and (OwnFrom.and (ownFrom_pure _ _) (Own.from (boxed_own _ _ _) _)) (OwnFrom.and (Own.from (boxed_own _ _ _) _) (OwnFrom.and (Own.from (boxed_own _ _ _) _) (OwnFrom.and (Own.from (boxed_own _ _ _) _) (ownFrom_below (Nat.le_refl _) (Nat.le_refl _))))))
   (fun cd=>ownFrom_ex fun r=>OwnFrom.and (OwnFrom.and (ownFrom_pure _ _) (Own.from (boxed_own _ _ _) _)) (OwnFrom.and (Own.from (boxed_own _ _ _) _) (ownFrom_below (by omega) (by omega))))
   ⟨⟨fun i h=>(by cases h),b0⟩,b1,b2,b6,Below.refl _ _⟩
   (fun i a' W=>∃ Bx,W0.heap.size≤Bx∧Blk W Bx 121 #[.string (l.get i).1,.slice (sliceA (vs.getD i.val undef)) (sliceN (vs.getD i.val undef)) (sliceC (vs.getD i.val undef))]∧a'={ tmps:=#[.string p,.string key,undef,.pointer (some ⟨r0,0,none⟩),.pointer (some ⟨r0+1,0,none⟩),.pointer (some ⟨r0+1+1,0,none⟩),.pointer (some ⟨r9,0,none⟩),.pointer (some ⟨r9+1,0,none⟩),.int .i64 (i.val:Int),.pointer (some ⟨Bx,0,none⟩),undef,undef,undef,.tuple #[.slice A l.length c,.agg #[.int .i64 0,.int .i64 0]],.string p,.tuple #[.slice A l.length c,.agg #[.int .i64 0,.int .i64 0]],.slice A l.length c,.agg #[.int .i64 0,.int .i64 0],.pointer (some ⟨r9+1,0,none⟩),.int .i64 0,.bool false,.slice A l.length c,.func (.func 85) #[] #[.pointer (some ⟨r9+1+1,0,none⟩)],.int .i64 (i.val:Int),.agg #[.string (l.get i).1,.slice (sliceA (vs.getD i.val undef)) (sliceN (vs.getD i.val undef)) (sliceC (vs.getD i.val undef))],undef,undef,undef,undef,undef,undef,undef,undef,undef,undef,undef,undef,undef,undef,undef,undef,undef,undef,undef,undef,undef,undef,undef],defers:=[] })
   (fun i a'=>ownFrom_ex fun Bx=>OwnFrom.and (ownFrom_pure _ _) (OwnFrom.and (blk_own _ _ _ _) (ownFrom_pure _ _)))
   ?assign ?body ?done ?stop
  case assign =>
   rintro lp pre i W K ⟨⟨hp,b0⟩,b1,b2,b3,hB⟩ hK
   have HI:=Lib.hid (And.intro hp (And.intro b0 (And.intro b1 (And.intro b2 (And.intro b3 hB)))))
   clear hp b0 b1 b2 b3 hB
   simp only [bkEnc]
   gi_wp2
   obtain ⟨hp,b0,b1,b2,b3,hB⟩:=HI.out
   exact hK _ _ ((KeepsOthers.alloc _ _).from _) ((Below.refl _ W).alloc hB.size _) ⟨⟨hp,b0.alloc _⟩,b1.alloc _,b2.alloc _,b3.alloc _,hB.alloc hB.size _⟩ ⟨W.heap.size,hB.size,Blk.new W _ _,rfl⟩
  case body =>
   rintro lp pre i a' W hl ⟨rr,hr⟩ ⟨⟨hp,b0⟩,b1,b2,b3,hB⟩ ⟨Bx,hBx,bX,rfl⟩ hlt
   have cK:=b0.cell
   obtain ⟨kv,hkv⟩:∃ kv,vs[i.val]?=some kv:=⟨vs[i.val]'(by rw [HVL.out];exact i.isLt),by simp [HVL.out,i.isLt]⟩
   have hst:l[i.val]?=some (l.get i):=by simp
   have hgd:vs.getD i.val undef=kv:=by rw [List.getD_eq_getElem?_getD,hkv];rfl
   have hkl:(l.get i).2.length≤512:=(HSM.out.1 (l.get i) (List.get_mem _ _)).2.1
   have hri:RisesK (l.get i).2:=HSM.out.2.2 (l.get i) (List.get_mem _ _)
   have hIW:StepsIn W (r0+3) (.slice A l.length c) l vs:=HI0.out.only (Only.of_below hB) (g:=r0) (by omega)
   obtain ⟨ka,kc,rfl,hk1,hk2,hk3⟩:=own_form (hIW.2.2.1 i.val (l.get i) kv hst hkv)
   rw [hgd] at bX ⊢
   simp only [sliceA,sliceN,sliceC] at bX ⊢
   have HKA:=Lib.hid (show KeysAt W W.heap.size (.slice ka (l.get i).2.length kc) (l.get i).2 from ⟨ka,kc,rfl,hk1,hk2,hk3⟩)
   have HIW:=Lib.hid hIW
   have HKV:=Lib.hid hkv
   have HST:=Lib.hid hst
   have HP:=Lib.hid hp
   have HW:=Lib.hid (And.intro b0 (And.intro b1 (And.intro b2 (And.intro b3 hB))))
   have HRI:=Lib.hid hri
   clear hgd hkv hr hlt hp hst hk3 hIW hri
   generalize hgi:l.get i=st at *
   have HGI:=Lib.hid hgi
   clear hgi
   obtain ⟨sn,ks⟩:=st
   simp only at *
   have x0:W.cell? ⟨Bx,0,none⟩=some (.string sn):=bX.cell 0
   have x1:W.cell? ⟨Bx,1,none⟩=some (.slice ka ks.length kc):=bX.cell 1
   have HX:=Lib.hid bX
   have HB5:=Lib.hid (show Below r0 w W from HB0.out.trans (hB.mono (by omega)))
   have hWs:W0.heap.size≤W.heap.size:=hB.size
   clear b0 b1 b2 b3 hB bX
   rcases find_cases key ks with ⟨j,k,hj,hk,ht⟩ | hno
   ·have HC:=Lib.hid (find_hit sn key _ ks W HKA.out (by omega) hj hk ht)
    have hjl:(j:Int)<(ks.length:Int):=by have:=(List.getElem?_eq_some_iff.1 hj).1;omega
    have HJ:=Lib.hid (And.intro hj hk)
    clear hj hk ht
    gi_wp2_with (refine ⟨trivial,?_⟩;gi_at_call 82;go_loud (refine (CallsIn.inRound lp (callsIn_wide.2 HC.out)).mono ?_;rintro e w2 ⟨rfl,hB2⟩;have HB2:=Lib.hid hB2;clear hB2))
    obtain ⟨b,rfl,hbw,hbl⟩:=own_spot (HI0.out.2.2.1 i.val (sn,ks) _ HST.out HKV.out) (show 0<ks.length by omega)
    obtain ⟨bs,rfl,hsw,hsl⟩:=own_spot HI0.out.2.1 (Nat.lt_of_le_of_lt (Nat.zero_le _) i.isLt)
    have HI2:=Lib.hid (show StepsIn w2 (r0+3) (.slice (some ⟨bs,0,none⟩) l.length c) l vs from HIW.out.only (Only.of_below HB2.out) (g:=r0) (by omega))
    have HN9:=Lib.hid (show b≠r9 from own_blk (HI2.out.2.2.1 i.val (sn,ks) _ HST.out HKV.out) (show Blk w2 r9 115 #[.slice (some ⟨bs,0,none⟩) l.length c] from (HB2.out.block _ HW.out.2.2.2.1.lt).trans HW.out.2.2.2.1) (by decide) rfl)
    have m6:w2.cell? ⟨r9,0,none⟩=some (.slice (some ⟨bs,0,none⟩) l.length c):=Boxed.cell ((HB2.out.block _ HW.out.2.2.2.1.lt).trans HW.out.2.2.2.1)
    have m9:w2.cell? ⟨Bx,1,none⟩=some (.slice (some ⟨b,0,none⟩) ks.length kc):=(HX.out.below HB2.out HX.out.lt).cell 1
    have hwr:IntKind.i64.wrap ((j:Int)+1)=(j:Int)+1:=by rw [IntKind.wrap_i64];omega
    have hil:((i.val:Nat):Int)<(l.length:Int):=by have:=i.isLt;omega
    have HDEL:=Lib.hid (delete_any b kc j ks (r0+3) w2.drew (HI2.out.2.2.1 i.val (sn,ks) _ HST.out HKV.out) (by omega) (by omega))
    have HK3:=Lib.hid (show ∀ w3:World,w2.drew.grownBy w3 (some b)→w3.cell? ⟨bs,i.val*2+1,none⟩=some (.slice (some ⟨b,0,none⟩) ks.length kc)∧w3.frozen? ⟨bs,i.val*2+1,none⟩=false∧w3.cell? ⟨r9,0,none⟩=some (.slice (some ⟨bs,0,none⟩) l.length c) from fun w3 hg=>by
     have hg':w2.grownBy w3 (Value.slice (some ⟨b,0,none⟩) ks.length kc).ownBlock:=grown_undrew hg
     have hrow:=row_stays HI2.out HST.out HKV.out hg'
     refine ⟨own_cell hrow (i.val*2+1) _ (stepCells_at l vs i.val (sn,ks) _ HST.out HKV.out).2,own_free hrow (i.val*2+1),(World.cell?_of_block (hg'.block r9 (World.block_lt_of_cell? _ _ m6) (fun e=>?_))).trans m6⟩
     have h:some r9=some b:=e
     cases h
     exact HN9.out rfl)
    have HT:=Lib.hid (show ∀ w3:World,w2.drew.grownBy w3 (some b)→w3.ownsRow (r0+3) 126 2 (.slice (some ⟨b,0,none⟩) (ks.length-1) kc) (ks.length-1) (pairCells (ks.eraseIdx j))→∀ W4,w3.setCell ⟨bs,i.val*2+1,none⟩ (.slice (some ⟨b,0,none⟩) (ks.length-1) kc)=W4 →
      StepsR W4 (.slice (some ⟨bs,0,none⟩) l.length c) (l.set i.val (sn,dropK ks key)) (vs.set i.val (.slice (some ⟨b,0,none⟩) (ks.length-1) kc))∧Boxed W4 r9 115 (.slice (some ⟨bs,0,none⟩) l.length c)∧Boxed W4 (r0+1) 9 (.string ⟨#[]⟩)∧Boxed W4 (r0+1+1) 4 (.bool false)∧KeepsFrom W0.heap.size W W4∧Below r0 w W4∧r0≤W4.heap.size from fun w3 hg0 ho W4 hW4=>by
     have hg:w2.grownBy w3 (some b):=grown_undrew hg0
     have hlen:(ks.eraseIdx j).length=ks.length-1:=by rw [List.length_eraseIdx,if_pos (by omega)]
     have hg':w2.grownBy w3 (Value.slice (some ⟨b,0,none⟩) ks.length kc).ownBlock:=hg
     have hrow:=row_stays HI2.out HST.out HKV.out hg'
     have hB9:Boxed w3 r9 115 (.slice (some ⟨bs,0,none⟩) l.length c):=Boxed.kept (show Boxed w2 r9 115 (.slice (some ⟨bs,0,none⟩) l.length c) from (HB2.out.block _ HW.out.2.2.2.1.lt).trans HW.out.2.2.2.1) hg (fun e=>HN9.out (by cases e;rfl))
     have hB1:Boxed w3 (r0+1) 9 (.string ⟨#[]⟩):=Boxed.kept (show Boxed w2 (r0+1) 9 (.string ⟨#[]⟩) from (HB2.out.block _ HW.out.2.1.lt).trans HW.out.2.1) hg (fun e=>by cases e;omega)
     have hB2':Boxed w3 (r0+1+1) 4 (.bool false):=Boxed.kept (show Boxed w2 (r0+1+1) 4 (.bool false) from (HB2.out.block _ HW.out.2.2.1.lt).trans HW.out.2.2.1) hg (fun e=>by cases e;omega)
     have hs9:bs≠r9:=own_blk hrow (show Blk w3 r9 115 #[.slice (some ⟨bs,0,none⟩) l.length c] from hB9) (by decide) rfl
     have hO:Only bs w3 W4:=by rw [←hW4];exact (Only.refl bs w3).setCell (.inl rfl) _
     refine ⟨?_,hB9.kept hO (fun e=>hs9 (by cases e;rfl)),hB1.kept hO (fun e=>by cases e;omega),hB2'.kept hO (fun e=>by cases e;omega),?_,?_,?_⟩
     ·rw [←hW4,←erase_drop ks j k key HRI.out HJ.out.1 HJ.out.2]
      exact steps_set HI2.out HST.out HKV.out hg' (by rw [hlen];exact ho)
     ·refine (keepsFrom_below HB2.out).trans (KeepsFrom.trans (KeepsFrom.of_grownBy (show w2.grownBy w3 (some b) from hg) (fun x e=>by cases e;exact hbl)) ?_)
      rw [←hW4]
      exact (KeepsOthers.setCell _ _ _).from _
     ·have h1:Below r0 w w2:=HB5.out.trans (HB2.out.mono (by have:=hr0;have:=HB5.out.size;omega))
      have h2:Below r0 w w3:=h1.grown (show w2.grownBy w3 (some b) from hg) (by have:=hr0;have:=h1.size;omega) (fun x e=>by cases e;omega)
      rw [←hW4]
      exact h2.setCell (p:=⟨bs,i.val*2+1,none⟩) (by simp;omega) _
     ·have h1:Below r0 w w2:=HB5.out.trans (HB2.out.mono (by have:=hr0;have:=HB5.out.size;omega))
      have:=hr0
      have:=h1.size
      have:=hg'.size
      rw [←hW4]
      simp [World.setCell]
      omega)
    have HHK:=Lib.hid (show HitK l key (pre++[i]) (l.set i.val (sn,dropK ks key)) from ⟨pre,i,rfl,HP.out,by rw [HGI.out];exact ⟨k,List.mem_of_getElem? HJ.out.1,HJ.out.2⟩,by rw [HGI.out]⟩)
    have HSS:=Lib.hid (show (∀ st∈l.set i.val (sn,dropK ks key),StepSmall st)∧(l.set i.val (sn,dropK ks key)).length≤1000 from ⟨fun st h=>by
     rcases List.mem_or_eq_of_mem_set h with h | rfl
     ·exact (HSM.out.1 st h).small
     ·have h0:=(HSM.out.1 (sn,ks) (List.mem_of_getElem? HST.out)).small
      exact ⟨h0.1,Nat.le_trans (List.length_filter_le _ _) h0.2.1,fun x hx=>h0.2.2 x (List.mem_filter.1 hx).1⟩,by rw [List.length_set];have:=HSM.out.2.1;omega⟩)
    refine wpIn_region_out (by kernel_rfl) (by kernel_rfl) (fun _ _ h=>h) ?_
    refine wpAny_take (i:=1) (v:=.int .i64 (i.val:Int)) rfl (by kernel_rfl) (by kernel_rfl) (by kernel_rfl) (fun _ _ _ h=>h) (Or.inl ⟨by rfl,fun w=>by go_simp⟩) ?_
    refine wpAny_take (i:=2) (v:=.pointer (some ⟨Bx,1,none⟩)) rfl (by kernel_rfl) (by kernel_rfl) (by kernel_rfl) (fun _ _ _ h=>h) (Or.inl ⟨by rfl,fun w=>by go_simp⟩) ?_
    refine wpAny_take (i:=4) (v:=.int .i64 (j:Int)) rfl (by kernel_rfl) (by kernel_rfl) (by kernel_rfl) (fun _ _ _ h=>h) (Or.inl ⟨by rfl,fun w=>by go_simp⟩) ?_
    refine wpAny_take (i:=5) (v:=.int .i64 (j:Int)) rfl (by kernel_rfl) (by kernel_rfl) (by kernel_rfl) (fun _ _ _ h=>h) (Or.inl ⟨by rfl,fun w=>by go_simp⟩) ?_
    refine wpAny_take (i:=6) (v:=.int .i64 ((j:Int)+1)) rfl (by kernel_rfl) (by kernel_rfl) (by kernel_rfl) (fun _ _ _ h=>h) (Or.inl ⟨by rfl,fun w=>by go_simp⟩) ?_
    refine wpAny_ready (rs:=[0,3]) (by kernel_rfl) (by simp) ?_
    refine AllReady.cons rfl (fun K hK=>?_) ?_
    ·go_simp
     refine hK _ _ ?_
     clear hK K
     refine wpAny_ready (rs:=[3]) (by kernel_rfl) (by simp) ?_
     refine AllReady.cons rfl (fun K hK=>?_) AllReady.nil
     go_simp
     refine hK _ _ ?_
     clear hK K
     refine wpAny_ready (rs:=[7]) (by kernel_rfl) (by simp) ?_
     refine AllReady.cons rfl (fun K hK=>?_) AllReady.nil
     go_simp
     refine HDEL.out.mono ?_
     rintro e w3 ⟨rfl,ho3,hg3⟩
     obtain ⟨u1,u2,u3⟩:=HK3.out w3 hg3
     have HO3:=Lib.hid ho3
     have HG3:=Lib.hid hg3
     clear ho3 hg3
     refine hK _ _ ?_
     clear hK K
     refine wpAny_take (i:=8) (v:=.pointer (some ⟨bs,i.val*2,none⟩)) rfl (by kernel_rfl) (by kernel_rfl) (by kernel_rfl) (fun _ _ _ h=>h) (Or.inl ⟨by rfl,fun w=>by go_simp⟩) ?_
     refine wpAny_take (i:=9) (v:=.pointer (some ⟨bs,i.val*2+1,none⟩)) rfl (by kernel_rfl) (by kernel_rfl) (by kernel_rfl) (fun _ _ _ h=>h) (Or.inl ⟨by rfl,fun w=>by go_simp⟩) ?_
     refine wpAny_ready (rs:=[10]) (by kernel_rfl) (by simp) ?_
     refine AllReady.cons rfl (fun K hK=>?_) AllReady.nil
     go_simp
     refine hK _ _ ?_
     clear hK K
     refine wpAny_done (by kernel_rfl) ?_ _
     obtain ⟨W4,hW4⟩:∃ W4,w3.setCell ⟨bs,i.val*2+1,none⟩ (.slice (some ⟨b,0,none⟩) (ks.length-1) kc)=W4:=⟨_,rfl⟩
     obtain ⟨s1,s2,s3,s4,s5,s6,s7⟩:=HT.out w3 HG3.out HO3.out W4 hW4
     rw [hW4]
     clear hW4 u1 u2 u3 m6 m9 x0 x1
     have HPUT:=Lib.hid (put_one _ _ _ W4 s1 HSS.out.1 (by have:=HSS.out.2;omega))
     have HS:=Lib.hid (And.intro s2 (And.intro s3 (And.intro s4 (And.intro s5 (And.intro s6 s7)))))
     have v6:=s2.cell
     clear s1 s2 s3 s4 s5 s6 s7
     gi_wp2_with (refine ⟨trivial,?_⟩;gi_at_call 84;go_loud (refine (CallsIn.inRound lp (callsIn_wide.2 HPUT.out)).mono ?_;rintro e w5 ⟨rfl,hB6⟩;obtain ⟨t2,t3,t4,t5,t6,t7⟩:=HS.out;have g1:Boxed w5 (r0+1) 9 (.string ⟨#[]⟩):=(hB6.block _ (by have:=t3.lt;simp;omega)).trans (t3.alloc _);have g2:Boxed w5 (r0+1+1) 4 (.bool false):=(hB6.block _ (by have:=t4.lt;simp;omega)).trans (t4.alloc _);have q1:=g1.cell;have q2:=g2.cell;have f1:=g1.frozen;have f2:=g2.frozen;have HGG:=Lib.hid (And.intro g1 g2);have HB6:=Lib.hid hB6;clear hB6 t2 t3 t4 t5 t6 t7 g1 g2))
     obtain ⟨t2,t3,t4,t5,t6,t7⟩:=HS.out
     refine ⟨t5.trans ((((KeepsOthers.alloc _ _).from _).trans (keepsFrom_below HB6.out)).trans (((KeepsOthers.setCell _ _ _).from _).trans ((KeepsOthers.setCell _ _ _).from _))),_,⟨⟨rfl,HHK.out⟩,(HGG.out.1.set _).other (by omega) _⟩,(HGG.out.2.other (by omega) _).set _,((((t6.alloc t7 _).trans (HB6.out.mono (by simp;omega))).setCell (p:=⟨r0+1,0,none⟩) (by simp) _).setCell (p:=⟨r0+1+1,0,none⟩) (by simp;omega) _)⟩
    refine AllReady.cons rfl (fun K hK=>?_) AllReady.nil
    go_simp
    refine hK _ _ ?_
    clear hK K
    refine wpAny_ready (rs:=[0,7]) (by kernel_rfl) (by simp) ?_
    refine AllReady.cons rfl (fun K hK=>?_) ?_
    ·go_simp
     refine hK _ _ ?_
     clear hK K
     refine wpAny_ready (rs:=[7]) (by kernel_rfl) (by simp) ?_
     refine AllReady.cons rfl (fun K hK=>?_) AllReady.nil
     go_simp
     refine HDEL.out.mono ?_
     rintro e w3 ⟨rfl,ho3,hg3⟩
     obtain ⟨u1,u2,u3⟩:=HK3.out w3 hg3
     have HO3:=Lib.hid ho3
     have HG3:=Lib.hid hg3
     clear ho3 hg3
     refine hK _ _ ?_
     clear hK K
     refine wpAny_take (i:=8) (v:=.pointer (some ⟨bs,i.val*2,none⟩)) rfl (by kernel_rfl) (by kernel_rfl) (by kernel_rfl) (fun _ _ _ h=>h) (Or.inl ⟨by rfl,fun w=>by go_simp⟩) ?_
     refine wpAny_take (i:=9) (v:=.pointer (some ⟨bs,i.val*2+1,none⟩)) rfl (by kernel_rfl) (by kernel_rfl) (by kernel_rfl) (fun _ _ _ h=>h) (Or.inl ⟨by rfl,fun w=>by go_simp⟩) ?_
     refine wpAny_ready (rs:=[10]) (by kernel_rfl) (by simp) ?_
     refine AllReady.cons rfl (fun K hK=>?_) AllReady.nil
     go_simp
     refine hK _ _ ?_
     clear hK K
     refine wpAny_done (by kernel_rfl) ?_ _
     obtain ⟨W4,hW4⟩:∃ W4,w3.setCell ⟨bs,i.val*2+1,none⟩ (.slice (some ⟨b,0,none⟩) (ks.length-1) kc)=W4:=⟨_,rfl⟩
     obtain ⟨s1,s2,s3,s4,s5,s6,s7⟩:=HT.out w3 HG3.out HO3.out W4 hW4
     rw [hW4]
     clear hW4 u1 u2 u3 m6 m9 x0 x1
     have HPUT:=Lib.hid (put_one _ _ _ W4 s1 HSS.out.1 (by have:=HSS.out.2;omega))
     have HS:=Lib.hid (And.intro s2 (And.intro s3 (And.intro s4 (And.intro s5 (And.intro s6 s7)))))
     have v6:=s2.cell
     clear s1 s2 s3 s4 s5 s6 s7
     gi_wp2_with (refine ⟨trivial,?_⟩;gi_at_call 84;go_loud (refine (CallsIn.inRound lp (callsIn_wide.2 HPUT.out)).mono ?_;rintro e w5 ⟨rfl,hB6⟩;obtain ⟨t2,t3,t4,t5,t6,t7⟩:=HS.out;have g1:Boxed w5 (r0+1) 9 (.string ⟨#[]⟩):=(hB6.block _ (by have:=t3.lt;simp;omega)).trans (t3.alloc _);have g2:Boxed w5 (r0+1+1) 4 (.bool false):=(hB6.block _ (by have:=t4.lt;simp;omega)).trans (t4.alloc _);have q1:=g1.cell;have q2:=g2.cell;have f1:=g1.frozen;have f2:=g2.frozen;have HGG:=Lib.hid (And.intro g1 g2);have HB6:=Lib.hid hB6;clear hB6 t2 t3 t4 t5 t6 t7 g1 g2))
     obtain ⟨t2,t3,t4,t5,t6,t7⟩:=HS.out
     refine ⟨t5.trans ((((KeepsOthers.alloc _ _).from _).trans (keepsFrom_below HB6.out)).trans (((KeepsOthers.setCell _ _ _).from _).trans ((KeepsOthers.setCell _ _ _).from _))),_,⟨⟨rfl,HHK.out⟩,(HGG.out.1.set _).other (by omega) _⟩,(HGG.out.2.other (by omega) _).set _,((((t6.alloc t7 _).trans (HB6.out.mono (by simp;omega))).setCell (p:=⟨r0+1,0,none⟩) (by simp) _).setCell (p:=⟨r0+1+1,0,none⟩) (by simp;omega) _)⟩
    refine AllReady.cons rfl (fun K hK=>?_) AllReady.nil
    go_simp
    refine HDEL.out.mono ?_
    rintro e w3 ⟨rfl,ho3,hg3⟩
    obtain ⟨u1,u2,u3⟩:=HK3.out w3 hg3
    have HO3:=Lib.hid ho3
    have HG3:=Lib.hid hg3
    clear ho3 hg3
    refine hK _ _ ?_
    clear hK K
    refine wpAny_ready (rs:=[0]) (by kernel_rfl) (by simp) ?_
    refine AllReady.cons rfl (fun K hK=>?_) AllReady.nil
    go_simp
    refine hK _ _ ?_
    clear hK K
    refine wpAny_take (i:=8) (v:=.pointer (some ⟨bs,i.val*2,none⟩)) rfl (by kernel_rfl) (by kernel_rfl) (by kernel_rfl) (fun _ _ _ h=>h) (Or.inl ⟨by rfl,fun w=>by go_simp⟩) ?_
    refine wpAny_take (i:=9) (v:=.pointer (some ⟨bs,i.val*2+1,none⟩)) rfl (by kernel_rfl) (by kernel_rfl) (by kernel_rfl) (fun _ _ _ h=>h) (Or.inl ⟨by rfl,fun w=>by go_simp⟩) ?_
    refine wpAny_ready (rs:=[10]) (by kernel_rfl) (by simp) ?_
    refine AllReady.cons rfl (fun K hK=>?_) AllReady.nil
    go_simp
    refine hK _ _ ?_
    clear hK K
    refine wpAny_done (by kernel_rfl) ?_ _
    obtain ⟨W4,hW4⟩:∃ W4,w3.setCell ⟨bs,i.val*2+1,none⟩ (.slice (some ⟨b,0,none⟩) (ks.length-1) kc)=W4:=⟨_,rfl⟩
    obtain ⟨s1,s2,s3,s4,s5,s6,s7⟩:=HT.out w3 HG3.out HO3.out W4 hW4
    rw [hW4]
    clear hW4 u1 u2 u3 m6 m9 x0 x1
    have HPUT:=Lib.hid (put_one _ _ _ W4 s1 HSS.out.1 (by have:=HSS.out.2;omega))
    have HS:=Lib.hid (And.intro s2 (And.intro s3 (And.intro s4 (And.intro s5 (And.intro s6 s7)))))
    have v6:=s2.cell
    clear s1 s2 s3 s4 s5 s6 s7
    gi_wp2_with (refine ⟨trivial,?_⟩;gi_at_call 84;go_loud (refine (CallsIn.inRound lp (callsIn_wide.2 HPUT.out)).mono ?_;rintro e w5 ⟨rfl,hB6⟩;obtain ⟨t2,t3,t4,t5,t6,t7⟩:=HS.out;have g1:Boxed w5 (r0+1) 9 (.string ⟨#[]⟩):=(hB6.block _ (by have:=t3.lt;simp;omega)).trans (t3.alloc _);have g2:Boxed w5 (r0+1+1) 4 (.bool false):=(hB6.block _ (by have:=t4.lt;simp;omega)).trans (t4.alloc _);have q1:=g1.cell;have q2:=g2.cell;have f1:=g1.frozen;have f2:=g2.frozen;have HGG:=Lib.hid (And.intro g1 g2);have HB6:=Lib.hid hB6;clear hB6 t2 t3 t4 t5 t6 t7 g1 g2))
    obtain ⟨t2,t3,t4,t5,t6,t7⟩:=HS.out
    refine ⟨t5.trans ((((KeepsOthers.alloc _ _).from _).trans (keepsFrom_below HB6.out)).trans (((KeepsOthers.setCell _ _ _).from _).trans ((KeepsOthers.setCell _ _ _).from _))),_,⟨⟨rfl,HHK.out⟩,(HGG.out.1.set _).other (by omega) _⟩,(HGG.out.2.other (by omega) _).set _,((((t6.alloc t7 _).trans (HB6.out.mono (by simp;omega))).setCell (p:=⟨r0+1,0,none⟩) (by simp) _).setCell (p:=⟨r0+1+1,0,none⟩) (by simp;omega) _)⟩
   ·have HC:=Lib.hid (find_miss sn key _ ks W HKA.out (by omega) hno)
    have HNO:=Lib.hid hno
    clear hno
    gi_wp2_with (refine ⟨trivial,?_⟩;gi_at_call 82;go_loud (refine (CallsIn.inRound lp (callsIn_wide.2 HC.out)).mono ?_;rintro e w2 ⟨rfl,hB2⟩;have HB2:=Lib.hid hB2;clear hB2))
    obtain ⟨g0,g1,g2,g3,g4⟩:=HW.out
    refine ⟨keepsFrom_below HB2.out,HB2.out.mono hWs,⟨?_,(HB2.out.block _ g0.lt).trans g0⟩,(HB2.out.block _ g1.lt).trans g1,(HB2.out.block _ g2.lt).trans g2,(HB2.out.block _ g3.lt).trans g3,g4.trans (HB2.out.mono hWs)⟩
    intro j hj
    rcases List.mem_append.1 hj with h | h
    ·exact HP.out j h
    ·simp at h
     subst h
     rw [HGI.out]
     rintro ⟨k,hk,he⟩
     exact HNO.out k hk he
  case done =>
   rintro D xs W hD ⟨hDs,hlen⟩ ⟨⟨hp,b0⟩,b1,b2,b3,hB⟩ hK
   have HG:=Lib.hid (noK_is hDs hlen hp)
   have HBX:=Lib.hid (show Below w.heap.size w W from by rw [hr0];exact HB0.out.trans (hB.mono (by omega)))
   have q6:=b1.cell
   have q7:=b2.cell
   have f6:=b1.frozen
   have f7:=b2.frozen
   clear hDs hlen hp hB
   gi_wp2
   have hK1:=(KeepsOthers.setCell W ⟨r0+1,0,none⟩ (.string p)).same D _ hK rfl
   have hK2:=(KeepsOthers.setCell _ ⟨r0+1+1,0,none⟩ (.bool false)).same D _ hK1 rfl
   refine ⟨by simp,.inl ⟨_,_,rfl,run_takeDeferred hK2,?_⟩⟩
   have hc6:=cell_kept ((b1.set (.string p)).other (B':=r0+1+1) (by omega) (.bool false)).cell (grownBy_putObj' _ D (.deferred none)) (fun r e=>by cases e;exact ⟨_,hK2,rfl⟩)
   have hc7:=cell_kept ((b2.other (B':=r0+1) (by omega) (.string p)).set (.bool false)).cell (grownBy_putObj' _ D (.deferred none)) (fun r e=>by cases e;exact ⟨_,hK2,rfl⟩)
   refine ⟨.tuple #[.string p,.bool false],?_,((HBX.out.setCell (p:=⟨r0+1,0,none⟩) (by simp;omega) _).setCell (p:=⟨r0+1+1,0,none⟩) (by simp;omega) _).trans (belowK_b (w:=w) (Nat.le_refl _) _ D _ _ (by omega) hK2 rfl rfl),.inr ⟨l,HPE.out,.inl ⟨HG.out,rfl⟩⟩⟩
   simp [results,Tryz.f61,go_sem,hc6,hc7]
  case stop =>
   rintro D cd pre W hD hDs ⟨l',⟨⟨rfl,hH⟩,b2⟩,b3,hB⟩ hK
   have HG:=Lib.hid (hitK_is hDs hH)
   have HBX:=Lib.hid (show Below w.heap.size w W from by rw [hr0];exact hB)
   clear hDs hH hB
   gi_wp2
   refine ⟨by simp,.inl ⟨_,_,rfl,run_takeDeferred hK,?_⟩⟩
   have hc6:=cell_kept b2.cell (grownBy_putObj' _ D (.deferred none)) (fun r e=>by cases e;exact ⟨_,hK,rfl⟩)
   have hc7:=cell_kept b3.cell (grownBy_putObj' _ D (.deferred none)) (fun r e=>by cases e;exact ⟨_,hK,rfl⟩)
   refine ⟨.tuple #[.string (putS (putM l')),.bool true],?_,HBX.out.trans (belowK_b (w:=w) (Nat.le_refl _) _ D _ _ (by omega) hK rfl rfl),.inr ⟨l,HPE.out,.inr ⟨l',HG.out,rfl⟩⟩⟩
   simp [results,Tryz.f61,go_sem,hc6,hc7]
end
end Go.Proofs.YthdldooilcbmlaaGreatDoor
