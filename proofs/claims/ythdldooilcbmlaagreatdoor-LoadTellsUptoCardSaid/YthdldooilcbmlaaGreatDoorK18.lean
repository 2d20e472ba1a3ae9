/-
  Texts of mine, joined: Side, LoadVal, LoadWake, LoadAll. The conditions stand with each.
-/
import Derived.Test.YthdldooilcbmlaaGreatDoorK17
import Derived.Test.YthdldooilcbmlaaGreatDoorK08
import Derived.Test.YthdldooilcbmlaaGreatDoorK16
import Derived.Sort.CutIn
import Derived.WalkMore
import Derived.Test.YthdldooilcbmlaaGreatDoorK15
import Derived.Test.YthdldooilcbmlaaGreatDoorK06
import Derived.Shelf.Abstract
set_option linter.unusedVariables false
set_option linter.unusedSimpArgs false
namespace Go.Proofs.YthdldooilcbmlaaGreatDoor
section
open Go.RowKit Go.Shelf

attribute [local go_sem] Oper.semAt_some
theorem own_one (W:World)(base:Nat)(x:Value)(t:TypeId)(hb:base≤W.heap.size):(W.alloc (.cells #[x] t)).ownsRow base t 1 (.slice (some ⟨W.heap.size,0,none⟩) 1 1) 1 [x] :=
 ⟨rfl,.inr ⟨W.heap.size,1,#[x],rfl,hb,heap_alloc_new W _,Nat.le_refl _,by decide,rfl,rfl⟩⟩
theorem row_own {β:Type}{B base size n:Nat}{e:TypeId}{v:Value}{xs:List Value}:OwnFrom B (fun (_:β) W=>W.ownsRow base e size v n xs):=fun _ X Y row hs hg hr =>
 own_stays2 hs hg fun k hk hrow=>by
  obtain ⟨-,o,ho,hc⟩:=hr k hrow
  rcases hs.2 with ⟨rfl,-⟩ | ⟨g,cap,cur,rfl,-,hh,-⟩
  ·cases hk
  ·cases hk
   rw [hh] at ho
   cases ho
   cases hc
theorem stepCells_same:∀(l:List PStep) (vs:List Value) (i:Nat) (st:PStep) (ks:List PKey),l[i]?=some st→stepCells (l.set i (st.1,ks)) vs=stepCells l vs
 | [],_,_,_,_,h=>by cases h
 | x::l,[],_,_,_,_=>by cases ‹Nat› <;> simp [stepCells]
 | x::l,y::vs,0,st,ks,h=>by
  cases h
  simp [stepCells]
 | x::l,y::vs,i+1,st,ks,h=>by
  have ih:=stepCells_same l vs i st ks (by simpa using h)
  simp only [List.set_cons_succ,stepCells,ih]
theorem pairCells_set:∀(ks:List PKey) (j:Nat) (a b o:ByteArray),ks[j]?=some (a,b)→pairCells (ks.set j (a,o))=(pairCells ks).set (j*2+1) (.string o)
 | [],_,_,_,_,h=>by cases h
 | x::ks,0,a,b,o,h=>by
  cases h
  simp [pairCells]
 | x::ks,j+1,a,b,o,h=>by
  have ih:=pairCells_set ks j a b o (by simpa using h)
  rw [show (j+1)*2+1=j*2+1+1+1 by omega]
  simpa [pairCells] using ih
/-- Another value at a key of a step. -/
theorem steps_key {w:World}{base i j kb kc:Nat}{v:Value}{l:List PStep}{vs:List Value}{st:PStep}{a b o:ByteArray}(hI:StepsIn w base v l vs)(hst:l[i]?=some st)(hkv:vs[i]?=some (.slice (some ⟨kb,0,none⟩) st.2.length kc))(hj:st.2[j]?=some (a,b)) :
  StepsIn (w.setCell ⟨kb,j*2+1,none⟩ (.string o)) base v (l.set i (st.1,st.2.set j (a,o))) vs:=by
 have hO:w.grownBy (w.setCell ⟨kb,j*2+1,none⟩ (.string o)) (some kb):=(Only.refl kb w).setCell (.inl rfl) _
 have hrow:=row_stays hI hst hkv hO
 refine ⟨by rw [List.length_set];exact hI.1,?_,fun q st' kq hq hkq=>?_,hI.2.2.2⟩
 ·rw [List.length_set,stepCells_same l vs i st _ hst]
  exact hrow
 ·by_cases hqi:q=i
  ·subst hqi
   rw [List.getElem?_set_self (List.getElem?_eq_some_iff.1 hst).1] at hq
   cases hq
   rw [hkv] at hkq
   cases hkq
   simp only [List.length_set]
   rw [pairCells_set st.2 j a b o hj]
   exact own_set (hI.2.2.1 q st _ hst hkv) (j*2+1) (.string o)
  ·rw [List.getElem?_set_ne (fun e=>hqi e.symm)] at hq
   exact keys_stay hI hkv hO hqi hq hkq
theorem own_tail {W W':World}{base size n:Nat}{e:TypeId}{v:Value}{xs:List Value}{row:Option Nat}(h:W.ownsRow base e size v n xs)(hg:W.grownBy W' row)(hne:∀ k,row=some k→v.ownBlock≠some k):W'.ownsRow base e size v n xs:=own_stays2 h hg fun k hk e=>hne k e hk
theorem StepsIn.stays {w w':World}{base:Nat}{v:Value}{l:List PStep}{vs:List Value}{row:Option Nat}(h:StepsIn w base v l vs)(hg:w.grownBy w' row)(h1:∀ k,row=some k→v.ownBlock≠some k)(h2:∀(k i:Nat) (kv:Value),row=some k→vs[i]?=some kv→kv.ownBlock≠some k):StepsIn w' base v l vs :=
 ⟨h.1,own_tail h.2.1 hg h1,h.2.2.kept h.1 hg fun i kv k hi hk e=>h2 k i kv e hi hk⟩
theorem StepsIn.key_own {w:World}{base:Nat}{v:Value}{l:List PStep}{vs:List Value}(h:StepsIn w base v l vs){i:Nat}{kv:Value}(hi:vs[i]?=some kv):∃ n xs,w.ownsRow base 126 2 kv n xs:=by
 obtain ⟨st,hst⟩:=h.step hi
 exact ⟨_,_,h.2.2.1 i st kv hst hi⟩
theorem StepsIn.byRow {w w':World}{base b2 size n:Nat}{e:TypeId}{v u:Value}{l:List PStep}{vs xs:List Value}(h:StepsIn w base v l vs)(ho:w.ownsRow b2 e size u n xs)(h1:121≠e)(h2:126≠e)(hg:w.grownBy w' u.ownBlock):StepsIn w' base v l vs :=
 h.stays hg (fun k hk hv=>own_other h.2.1 ho h1 k hv hk) (fun k i kv hk hi hv=>by
  obtain ⟨m,ys,hx⟩:=h.key_own hi
  exact own_other hx ho h2 k hv hk)
theorem StepsIn.byBlk {w w':World}{base b:Nat}{t:TypeId}{cs:Array Value}{v:Value}{l:List PStep}{vs:List Value}(h:StepsIn w base v l vs)(hB:Blk w b t cs)(h1:121≠t)(h2:126≠t)(hg:w.grownBy w' (some b)):StepsIn w' base v l vs :=
 h.stays hg (fun k hk hv=>own_blk h.2.1 hB h1 hv (by cases hk;rfl)) (fun k i kv hk hi hv=>by
  obtain ⟨m,ys,hx⟩:=h.key_own hi
  exact own_blk hx hB h2 hv (by cases hk;rfl))
theorem StepsIn.on {w w':World}{base:Nat}{v:Value}{l:List PStep}{vs:List Value}(h:StepsIn w base v l vs)(hb:Below w.heap.size w w'):StepsIn w' base v l vs:=⟨h.1,own_more h.2.1 hb,fun i st kv h1 h2=>own_more (h.2.2.1 i st kv h1 h2) hb,h.2.2.2⟩
/-- The steps, and the paths told so far, in memory. -/
def SidAt (w W:World)(s0 lb:Nat)(A:Option Addr)(c:Nat)(l:List PStep)(vs:List Value)(Lv:Value)(n:Nat)(hd:List ByteArray):Prop :=
 Below w.heap.size w W∧Blk W s0 115 #[.slice A l.length c]∧Blk W lb 37 #[Lv]∧W.ownsRow w.heap.size 9 1 Lv n (strsV hd)∧StepsIn W w.heap.size (.slice A l.length c) l vs∧w.heap.size≤s0∧w.heap.size≤lb
section
variable {w W W':World} {s0 lb c n:Nat} {A:Option Addr} {l:List PStep} {vs:List Value} {Lv:Value} {hd:List ByteArray}
theorem SidAt.on (h:SidAt w W s0 lb A c l vs Lv n hd)(hb:Below W.heap.size W W'):SidAt w W' s0 lb A c l vs Lv n hd :=
 ⟨h.1.trans (hb.mono h.1.size),h.2.1.below hb h.2.1.lt,h.2.2.1.below hb h.2.2.1.lt,own_more h.2.2.2.1 hb,h.2.2.2.2.1.on hb,h.2.2.2.2.2⟩
theorem SidAt.ne (h:SidAt w W s0 lb A c l vs Lv n hd):s0≠lb:=fun e=>by
 have h1:=h.2.1
 have h2:=h.2.2.1
 rw [e] at h1
 unfold Blk at h1 h2
 rw [h1] at h2
 exact absurd (Obj.cells.inj (Option.some.inj h2)).2.1 (by decide)
/-- A path more. -/
theorem SidAt.push {v:Value}{q:ByteArray}(h:SidAt w W s0 lb A c l vs Lv n hd)(ho:W'.ownsRow w.heap.size 9 1 v (n+1) (strsV hd++[.string q]))(hg:W.grownBy W' Lv.ownBlock):SidAt w (W'.setCell ⟨lb,0,none⟩ v) s0 lb A c l vs v (n+1) (hd++[q]):=by
 have hne:=h.ne
 obtain ⟨h1,h2,h3,h4,h5,h6,h7⟩:=h
 have hs:=grown_set W' lb 0 v
 have b3:=blk_stays h3 h4 (by decide) hg
 refine ⟨(h1.grown hg h1.size (fun k hk=>(h4.lt k hk).1)).setCell (p:=⟨lb,0,none⟩) h7 _,(blk_stays h2 h4 (by decide) hg).far hne _,b3.set_ 0 v,?_,?_,h6,h7⟩
 ·have e:strsV (hd++[q])=strsV hd++[.string q]:=by unfold strsV;rw [List.map_append];rfl
  rw [e]
  exact own_tail ho hs fun k hk hv=>own_blk ho b3 (by decide) hv (by cases hk;rfl)
 ·exact (h5.byRow h4 (by decide) (by decide) hg).byBlk b3 (by decide) (by decide) hs
/-- Other steps. -/
theorem SidAt.turn {A':Option Addr}{c' m:Nat}{l':List PStep}{vs':List Value}(h:SidAt w W s0 lb A c l vs Lv n hd)(hI:StepsIn W w.heap.size (.slice A' l'.length c') l' vs')(hm:l'.length=m):SidAt w (W.setCell ⟨s0,0,none⟩ (.slice A' m c')) s0 lb A' c' l' vs' Lv n hd:=by
 subst hm
 have hne:=h.ne
 obtain ⟨h1,h2,h3,h4,h5,h6,h7⟩:=h
 have hs:=grown_set W s0 0 (.slice A' l'.length c')
 exact ⟨h1.setCell (p:=⟨s0,0,none⟩) h6 _,h2.set_ 0 _,h3.far (fun e=>hne e.symm) _,own_tail h4 hs fun k hk hv=>own_blk h4 h2 (by decide) hv (by cases hk;rfl),hI.byBlk h2 (by decide) (by decide) hs,h6,h7⟩
/-- Another value at a key. -/
theorem SidAt.key {i j kb kc:Nat}{st:PStep}{a b o:ByteArray}(h:SidAt w W s0 lb A c l vs Lv n hd)(hst:l[i]?=some st)(hkv:vs[i]?=some (.slice (some ⟨kb,0,none⟩) st.2.length kc))(hj:st.2[j]?=some (a,b)) :
  SidAt w (W.setCell ⟨kb,j*2+1,none⟩ (.string o)) s0 lb A c (l.set i (st.1,st.2.set j (a,o))) vs Lv n hd:=by
 obtain ⟨h1,h2,h3,h4,h5,h6,h7⟩:=h
 have hk:=h5.2.2.1 i st _ hst hkv
 have hs:=grown_set W kb (j*2+1) (.string o)
 have hkb:=(hk.lt kb rfl).1
 refine ⟨h1.setCell (p:=⟨kb,j*2+1,none⟩) hkb _,?_,?_,own_tail h4 hs fun k hk2 hv=>own_other h4 hk (by decide) k hv (by cases hk2;rfl),?_,h6,h7⟩
 ·rw [List.length_set]
  exact blk_stays h2 hk (by decide) hs
 ·exact blk_stays h3 hk (by decide) hs
 ·have h9:=steps_key (o:=o) h5 hst hkv hj
  rw [List.length_set]
  exact h9
end
theorem new_one (W:World)(x:Value)(t:TypeId):∀(j:Nat) (u:Value),[x][j]?=some u→(W.alloc (.cells #[x] t)).cell? ((⟨W.heap.size,0,none⟩:Addr).add j)=some u:=fun j u hj=>by
 cases j with
 | succ j=>cases hj
 | zero =>
  cases hj
  exact (Blk.new W t #[x]).cell 0
theorem wo_says {p key:ByteArray}{w w':World}{e:Ending}(h:WithoutPost p key w e w'):Below w.heap.size w w'∧∃ q ok,e=.returned (.tuple #[.string q,.bool ok]) ∧
  ((ok=false∧((∃ e,parseM p=.error e)∨(q=p∧∃ l,parseM p=.ok l∧WoIs l key none)))∨(ok=true∧∃ l l',parseM p=.ok l∧WoIs l key (some l')∧q=putS (putM l'))):=by
 obtain ⟨hb,⟨⟨e,he⟩,rfl⟩ | ⟨l,hl,⟨h1,rfl⟩ | ⟨l',h1,rfl⟩⟩⟩:=h
 ·exact ⟨hb,_,_,rfl,.inl ⟨rfl,.inl ⟨e,he⟩⟩⟩
 ·exact ⟨hb,_,_,rfl,.inl ⟨rfl,.inr ⟨rfl,l,hl,h1⟩⟩⟩
 ·exact ⟨hb,_,_,rfl,.inr ⟨rfl,l,l',hl,h1,rfl⟩⟩
theorem putS_size (l:List PStep):(putS (putM l)).size≤513:=by
 cases h:putM l with
 | error e=>exact Nat.zero_le _
 | ok t =>
  obtain ⟨-,-,rfl,h4⟩:=putM_inv h
  have h5:=join_len (l.map textL)
  show (str _).size≤513
  unfold str
  show (List.toArray _).size≤513
  rw [List.size_toArray]
  omega
theorem parse_names {s:ByteArray}{W w1:World}{e:Ending}(h:ParseSays s W e w1):Below W.heap.size W w1∧∃ A c x y vs,e=.returned (.tuple #[.slice A (namesOf s).length c,.agg #[.int .i64 x,.int .i64 y]])∧StepsIn w1 W.heap.size (.slice A (namesOf s).length c) (namesOf s) vs:=by
 obtain ⟨hB,⟨x,y,hE,rfl⟩ | ⟨l,v,hE,rfl,vs,hI⟩⟩:=h
 ·have hl:namesOf s=[]:=by unfold namesOf;rw [hE]
  rw [hl]
  exact ⟨hB,none,0,x,y,[],rfl,stepsIn_nil _ _⟩
 ·have hl:namesOf s=l:=by unfold namesOf;rw [hE]
  rw [hl]
  obtain ⟨A,c,rfl,-,-,-⟩:=own_form hI.2.1
  exact ⟨hB,A,c,0,0,vs,rfl,hI⟩
theorem names_ok {s:ByteArray}{l:List PStep}(h:parseM s=.ok l):namesOf s=l:=by unfold namesOf;rw [h]
theorem sput_err:∀(l:List PStep) (sh:Bool) (sz:Nat) (ts:List (List UInt8)) (e:Int),putF l sh sz ts=.error e→e=160
 | [],_,_,_,_,h=>by cases h
 | st::l,sh,sz,ts,e,h=>by
  unfold putF at h
  split at h
  ·exact sput_err l _ _ _ e h
  ·cases h
   rfl
theorem sputM_err {l:List PStep}{e:Int}(h:putM l=.error e):e≠0:=by
 unfold putM at h
 split at h
 ·rename_i e' h'
  cases h
  have:=sput_err _ _ _ _ _ h'
  omega
 ·split at h
  ·cases h
  ·cases h
   decide
theorem countT_beq (a:ByteArray):(a.toList == [99,111,117,110,116])=decide (a=countT):=by
 rw [show ([99,111,117,110,116]:List UInt8)=countT.toList from by kernel_rfl]
 exact ba_beq a countT
theorem otherT_beq (a:ByteArray):(a.toList == [111,116,104,101,114])=decide (a=otherT):=by
 rw [show ([111,116,104,101,114]:List UInt8)=otherT.toList from by kernel_rfl]
 exact ba_beq a otherT
theorem midAt_other {l:List PStep}{i k:Nat}{sn:ByteArray}{ks:List PKey}(hx:ks[k]?=some (countT,otherT))(hno:∀(j:Nat) (y:PKey),j<k→ks[j]?=some y→y.1≠countT):midAt l i (sn,ks)=[]:=by
 have h:=keyAt_is hx rfl hno
 unfold midAt
 simp only
 rw [h,List.getD_eq_getElem?_getD,hx]
 simp
theorem midAt_put {l:List PStep}{i k:Nat}{sn b:ByteArray}{ks:List PKey}(hx:ks[k]?=some (countT,b))(hb:b≠otherT)(hno:∀(j:Nat) (y:PKey),j<k→ks[j]?=some y→y.1≠countT):midAt l i (sn,ks)=match putM (l.set i (sn,ks.set k (countT,otherT))) with
  | .ok t=>[str t]
  | .error _=>[]:=by
 have h:=keyAt_is hx rfl hno
 unfold midAt
 simp only
 rw [h,List.getD_eq_getElem?_getD,hx]
 simp only [Option.getD_some]
 rw [if_neg hb]
 cases putM (l.set i (sn,ks.set k (countT,otherT))) <;> rfl
theorem mark_row {W W':World}{D base size n:Nat}{e:TypeId}{v:Value}{xs:List Value}(hK:W.heap[D]?=some (.deferred (some [])))(ho:W.ownsRow base e size v n xs)(hg:W.grownBy W' v.ownBlock):W'.heap[D]?=some (.deferred (some [])) :=
 (hg.block D (Array.getElem?_eq_some_iff.1 hK).1 (fun e=>by
  rcases ho.2 with ⟨rfl,-⟩ | ⟨g,cap,cur,rfl,-,hh,-⟩
  ·cases e
  ·cases e
   rw [hh] at hK
   cases hK)).trans hK
/-- What Sideways tells. -/
def SidePost (p:ByteArray)(w:World)(e:Ending)(w':World):Prop:=(∃ A c,e=.returned (.slice A (sideM p).length c)∧w'.ownsRow w.heap.size 9 1 (.slice A (sideM p).length c) (sideM p).length (strsV (sideM p)))∧Below w.heap.size w w'
theorem side_post {p:ByteArray}{w w':World}{v:Value}{L:List ByteArray}{m:Nat}(h:w'.ownsRow w.heap.size 9 1 v m (strsV L))(hm:L.length=m)(hL:sideM p=L)(hb:Below w.heap.size w w'):SidePost p w (.returned v) w':=by
 subst hm hL
 obtain ⟨A,c,rfl,-,-,-⟩:=own_form h
 exact ⟨⟨A,c,rfl,h⟩,hb⟩
set_option maxRecDepth 100000 in
set_option maxHeartbeats 32000000 in
theorem sideways_any (p:ByteArray)(w:World)(hp:p.size≤140737488355328) :
  Calls Tryz.prog 35 #[.string p] w (SidePost p w):=by
 have HP:=Lib.hid (fun W=>parse_says p W hp)
 have HWA:=Lib.hid (fun W=>without_any p altT W hp)
 refine (callsIn_wide (n:=9)).1 ?_
 refine callsIn_of_wp_marks Tryz.func35 rfl trivial ?_ rfl
 simp only [Tryz.ntmps35,List.size_toArray,List.length_cons,List.length_nil,Nat.reduceAdd,Nat.reduceSub,Array.replicate_succ,Array.replicate_zero,List.push_toArray,List.append_toArray,List.nil_append,List.cons_append]
 gi_wp2
 refine wpIn_scope_wide ?_
 gi_upto_if 22 with (refine ⟨trivial,?_⟩;gi_at_call 60;go_loud (refine (callsIn_wide.2 (HP.out _)).mono ?_;rintro e w1 ⟨hB1,hR1⟩;have HB1:=Lib.hid hB1;clear hB1;rcases hR1 with ⟨x,y,hE,rfl⟩ | ⟨l,v,hE,rfl,vs,hI⟩;rotate_left;(obtain ⟨A,c,rfl,-,-,-⟩:=own_form hI.2.1;have HI:=Lib.hid hI;clear hI);rotate_right;all_goals (have HPE:=Lib.hid hE;clear hE)))
 ·have hx:=parseM_err HPE.out
  have hx0:(x == 0)=false:=by rw [beq_eq_false_iff_ne];omega
  have hx1:¬ x=0:=by omega
  have hx2:decide (x=0)=false:=by simp;omega
  have hx3:(x != 0)=true:=by simp;omega
  gi_wp2
  exact ⟨.slice none 0 0,by simp [results,Tryz.f35,go_sem],side_post (L:=[]) (World.ownsRow_nil _ _ _ _) rfl (side_bad HPE.out) ((HB1.out.alloc HB1.out.size _).alloc (by have:=HB1.out.size;simp;omega) _)⟩
 ·gi_upto_region 4 with (fail)
  obtain ⟨W0,hW0⟩:∃ W0,(w1.alloc (.cells #[.slice A l.length c] 115)).alloc (.cells #[.int .i64 0,.int .i64 0] 116)=W0:=⟨_,rfl⟩
  have hb0:Below w1.heap.size w1 W0:=by rw [←hW0];exact ((Below.refl _ w1).alloc (Nat.le_refl _) _).alloc (by simp) _
  have hz0:W0.heap.size=w1.heap.size+2:=by rw [←hW0];simp
  have b0:Blk W0 w1.heap.size 115 #[.slice A l.length c]:=by rw [←hW0];exact (Blk.new w1 _ _).alloc _
  obtain ⟨W1,hW1⟩:∃ W1,W0.alloc (.cells #[.string p] 9)=W1:=⟨_,rfl⟩
  have hO1:W1.ownsRow w.heap.size 9 1 (.slice (some ⟨W0.heap.size,0,none⟩) 1 1) 1 [.string p]:=by rw [←hW1];exact own_one W0 _ _ _ (by have:=HB1.out.size;omega)
  have hb1:Below W0.heap.size W0 W1:=by rw [←hW1];exact (Below.refl _ W0).alloc (Nat.le_refl _) _
  have hz1:W1.heap.size=W0.heap.size+1:=by rw [←hW1];simp
  obtain ⟨W2,hW2⟩:∃ W2,W1.alloc (.cells #[.slice (some ⟨W0.heap.size,0,none⟩) 1 1] 37)=W2:=⟨_,rfl⟩
  have hb2:Below W1.heap.size W1 W2:=by rw [←hW2];exact (Below.refl _ W1).alloc (Nat.le_refl _) _
  have hz2:W2.heap.size=W1.heap.size+1:=by rw [←hW2];simp
  have b2:Blk W2 W1.heap.size 37 #[.slice (some ⟨W0.heap.size,0,none⟩) 1 1]:=by rw [←hW2];exact Blk.new W1 _ _
  have hb02:Below W0.heap.size W0 W2:=hb1.trans (hb2.mono (by omega))
  have hb12:Below w1.heap.size w1 W2:=hb0.trans (hb02.mono (by omega))
  have HS:=Lib.hid (show SidAt w W2 w1.heap.size W1.heap.size A c l vs (.slice (some ⟨W0.heap.size,0,none⟩) 1 1) 1 [p] from ⟨HB1.out.trans (hb12.mono HB1.out.size),b0.below hb02 b0.lt,b2,own_more hO1 hb2,HI.out.on hb12,HB1.out.size,by have:=HB1.out.size;omega⟩)
  have HNO:=Lib.hid (names_ok HPE.out)
  clear hb0 hz0 b0 hO1 hb1 hb2 b2 hb02 hb12 HB1 HI hz1 hz2
  gi_upto_region 5 with (fail)
  clear hW0 hW1 hW2
  generalize w1.heap.size=s0 at *
  generalize W1.heap.size=lb at *
  generalize W0.heap.size=b0 at *
  gi_upto_if 30 with (refine ⟨trivial,?_⟩;gi_at_call 61;go_loud (refine (callsIn_wide.2 (HWA.out _)).mono ?_;rintro e w3 h3;obtain ⟨hb3,q,ok,rfl,hq⟩:=wo_says h3;have HS3:=Lib.hid (HS.out.on hb3);have HQ:=Lib.hid hq;clear h3 hb3 hq))
  gi_cut [0] from 6 (fun v wx=>∃(p1:ByteArray) (hd:List ByteArray) (A1:Option Addr) (c1:Nat) (l1:List PStep) (vs1:List Value) (A2:Option Addr) (n2 c2:Nat),v=.string p1∧sideM p=hd++sideC p1∧namesOf p1=l1∧hd.length=n2∧n2≤2∧p1.size≤140737488355328∧SidAt w wx s0 lb A1 c1 l1 vs1 (.slice A2 n2 c2) n2 hd)
  case first =>
   cases ok with
   | false =>
    have HQ2:=Lib.hid (show sideM p=[p]++sideC p from by
     rcases HQ.out with ⟨-,⟨e,he⟩ | ⟨-,l9,h9,h8⟩⟩ | ⟨h9,-⟩
     ·rw [HPE.out] at he;cases he
     ·exact side_one h9 h8
     ·cases h9)
    gi_wp2
    gi_meet
    exact ⟨p,[p],A,c,l,vs,some ⟨b0,0,none⟩,1,1,rfl,HQ2.out,HNO.out,rfl,by decide,hp,HS3.out⟩
   | true =>
    obtain ⟨l',hl',hqq⟩:∃ l',WoIs l altT (some l')∧q=putS (putM l'):=by
     rcases HQ.out with ⟨h9,-⟩ | ⟨-,l9,l',h9,h8,h7⟩
     ·cases h9
     ·rw [HPE.out] at h9
      cases h9
      exact ⟨l',h8,h7⟩
    have hqs:q.size≤513:=by rw [hqq];exact putS_size l'
    have HQ2:=Lib.hid (show sideM p=[p,q]++sideC q from by rw [hqq];exact side_two HPE.out hl')
    have HPQ:=Lib.hid (fun W=>parse_says q W (by omega))
    clear hl' hqq HQ
    obtain ⟨i0,hi0,hy0,hy1,hy2⟩:=info_parts str_info
    have x0:w3.cell? ⟨lb,0,none⟩=some (.slice (some ⟨b0,0,none⟩) 1 1):=HS3.out.2.2.1.cell 0
    have HS4:=Lib.hid (HS3.out.on ((Below.refl w3.heap.size w3).alloc (Nat.le_refl _) (.cells #[.string q] 9)))
    have x1:lb<w3.heap.size:=HS3.out.2.2.1.lt
    have x2:w.heap.size≤w3.heap.size:=HS3.out.1.size
    gi_upto_region 8 with (gi_at_builtin;refine wpListIn_append_own _ rfl (.tmp 31) (.tmp 33) 37 rfl w.heap.size 9 i0 _ 1 16 Tryz.underlying37 hi0 hy0 hy1 hy2 rfl (by decide) _ 1 [.string p] rfl HS4.out.2.2.2.1 ⟨w3.heap.size,0,none⟩ 1 1 [.string q] rfl rfl (new_one w3 (.string q) 9) (by simp [Value.oneCell']) (by simp only [maxLen];omega) (by omega) (by simp;omega) ?_;intro v7 w7 ho7 hg7 hz7;obtain ⟨A7,c7,rfl,-,-,-⟩:=own_form ho7;have HS5:=Lib.hid (HS4.out.push (hd:=[p]) (q:=q) ho7 hg7);have x3:w7.cell? ⟨lb,0,none⟩=some (.slice (some ⟨b0,0,none⟩) 1 1):=(blk_stays HS4.out.2.2.1 HS4.out.2.2.2.1 (by decide) hg7).cell 0;have x4:w7.frozen? ⟨lb,0,none⟩=false:=(blk_stays HS4.out.2.2.1 HS4.out.2.2.2.1 (by decide) hg7).frozen 0;clear ho7 hg7 hz7)
    clear x0 x1 x3 x4 HS4 HS3
    obtain ⟨W8,hW8⟩:∃ W8,w7.setCell ⟨lb,0,none⟩ (.slice A7 2 c7)=W8:=⟨_,rfl⟩
    rw [hW8]
    have HS6:=Lib.hid (show SidAt w W8 s0 lb A c l vs (.slice A7 2 c7) 2 [p,q] from by rw [←hW8];exact HS5.out)
    clear hW8 HS5
    gi_wp2_with (refine ⟨trivial,?_⟩;gi_at_call 60;go_loud (refine (callsIn_wide.2 (HPQ.out _)).mono ?_;rintro e w9 h9;obtain ⟨hb9,A9,c9,x9,y9,vs9,rfl,hI9⟩:=parse_names h9;have HS9:=Lib.hid (HS6.out.on hb9);have HI9:=Lib.hid hI9;obtain ⟨n9,hn9⟩:∃ n9,(namesOf q).length=n9:=⟨_,rfl⟩;rw [hn9];have HN9:=Lib.hid hn9;have y0:w9.cell? ⟨s0,0,none⟩=some (.slice A l.length c):=HS9.out.2.1.cell 0;have y1:w9.frozen? ⟨s0,0,none⟩=false:=HS9.out.2.1.frozen 0;clear h9 hb9 hI9 hn9))
    gi_meet
    exact ⟨q,[p,q],A9,c9,namesOf q,vs9,A7,2,c7,rfl,HQ2.out,rfl,rfl,Nat.le_refl _,by omega,HS9.out.turn (StepsIn.base HI9.out HS6.out.1.size) HN9.out⟩
  case rest =>
   obtain ⟨p1,hd,A1,c1,l1,vs1,A2,n2,c2,rfl,h1,h2,h3,h4,h5,h6⟩:=hcut
   have HSD:=Lib.hid h1
   have HNO:=Lib.hid h2
   have HHD:=Lib.hid h3
   have HS:=Lib.hid h6
   have HWC:=Lib.hid (fun W=>without_any p1 countT W h5)
   clear h1 h2 h3 h6
   gi_upto_if 47 with (refine ⟨trivial,?_⟩;gi_at_call 61;go_loud (refine (callsIn_wide.2 (HWC.out _)).mono ?_;rintro e w4 h4;obtain ⟨hb4,q2,ok2,rfl,hq4⟩:=wo_says h4;have HS4:=Lib.hid (HS.out.on hb4);have HQ4:=Lib.hid hq4;clear h4 hb4 hq4))
   have y0:w4.cell? ⟨lb,0,none⟩=some (.slice A2 n2 c2):=HS4.out.2.2.1.cell 0
   have y1:w4.cell? ⟨s0,0,none⟩=some (.slice A1 l1.length c1):=HS4.out.2.1.cell 0
   cases ok2 with
   | false =>
    have HSC:=Lib.hid (show sideM p=hd from by
     rw [HSD.out]
     rcases HQ4.out with ⟨-,⟨e,he⟩ | ⟨-,l9,h9,h8⟩⟩ | ⟨h9,-⟩
     ·rw [sideC_bad he,List.append_nil]
     ·rw [sideC_none h9 h8,List.append_nil]
     ·cases h9)
    gi_wp2
    exact ⟨.slice A2 n2 c2,by simp [results,Tryz.f35,go_sem],side_post HS4.out.2.2.2.1 HHD.out HSC.out HS4.out.1⟩
   | true =>
    obtain ⟨l',hp9,hl',hqq⟩:∃ l',parseM p1=.ok l1∧WoIs l1 countT (some l')∧q2=putS (putM l'):=by
     rcases HQ4.out with ⟨h9,-⟩ | ⟨-,l9,l',h9,h8,h7⟩
     ·cases h9
     ·have h10:=names_ok h9
      rw [HNO.out] at h10
      subst h10
      exact ⟨l',h9,h8,h7⟩
    have HSC:=Lib.hid (show sideM p=hd++(midM l1++[q2]) from by rw [HSD.out,sideC_some hp9 hl',hqq])
    have HWO:=Lib.hid hl'
    have HSM:=Lib.hid (show (∀ st∈l1,StepTiny st)∧l1.length≤64 from ⟨(parseM_small hp9).1,(parseM_small hp9).2.1⟩)
    clear hp9 hl' hqq HQ4 HSD HNO HWC
    gi_wp2
    refine wpIn_label ?_
    gi_wp2_with (refine ⟨trivial,?_⟩;gi_at_call 62;go_loud (refine (backward_in Fence.wide _ trivial rfl _ _ _ _).mono ?_;rintro e w' ⟨rfl,rfl⟩))
    obtain ⟨W5,hW5⟩:∃ W5,w4.alloc (.cells #[.slice A1 l1.length c1] 115)=W5:=⟨_,rfl⟩
    have hb5:Below w4.heap.size w4 W5:=by rw [←hW5];exact (Below.refl _ w4).alloc (Nat.le_refl _) _
    have HS5:=Lib.hid (HS4.out.on hb5)
    have bS:W5.cell? ⟨w4.heap.size,0,none⟩=some (.slice A1 l1.length c1):=by rw [←hW5];exact (Blk.new w4 _ _).cell 0
    have hsz5:W5.heap.size=w4.heap.size+1:=by rw [←hW5];simp
    have hR5:=HS5.out.2.2.2.2.1.reads
    have HSL:=Lib.hid hR5.slices
    have HRD:=Lib.hid (show Reads W5 W5.heap.size 2 A1 l1.length (stepCells l1 vs1) from by obtain ⟨_,_,e,_,_,h,_⟩:=hR5;cases e;exact h)
    rw [hW5]
    clear hW5 hb5 HS4 HS hR5 y0 y1
    obtain ⟨bx,hbx⟩:∃ bx,w4.heap.size=bx:=⟨_,rfl⟩
    rw [hbx] at bS hsz5 ⊢
    clear hbx
    have HZ5:=Lib.hid (show bx<W5.heap.size from by omega)
    clear hsz5
    obtain ⟨n1,hn1⟩:∃ n1,l1.length=n1:=⟨_,rfl⟩
    have HN1:=Lib.hid hn1
    have HBS:=Lib.hid bS
    rw [hn1]
    clear hn1 bS
    refine wpIn_both (fun D W=>W5.heap.size≤D∧W.heap[D]?=some (.deferred (some []))∧∃(ms:List ByteArray) (A3:Option Addr) (n3 c3:Nat),(ms=midM l1∧(hd++ms).length=n3)∧Blk W lb 37 #[.slice A3 n3 c3]∧W.ownsRow w.heap.size 9 1 (.slice A3 n3 c3) n3 (strsV (hd++ms))∧Below w.heap.size w W) (fun _ _ h=>h) ?_ ?_
    ·refine wpIn_rangeFunc_ownH rfl (by decide) (gf:=85) (lb:=#[.pointer (some ⟨bx,0,none⟩)]) rfl trivial (enters_of Tryz.func85 (by kernel_rfl) rfl)
      (backward_stops Fence.wide 8 trivial rfl (by decide) bx W5.heap.size A1 c1 l1 vs1 HS5.out.2.2.2.2.1.1 HSL.out (by have:=HSM.out.2;omega) W5 HZ5.out (Nat.le_refl _) HBS.out HRD.out) belowK_t (belowK_b (Nat.le_refl _)) (Below.refl _ _) (fun _=>rfl)
      (fun pre W=>NoK l1 countT pre∧Below W5.heap.size W5 W)
      (fun cd pre W=>∃(ms:List ByteArray) (A3:Option Addr) (n3 c3:Nat),(cd=Code.exit 0∧MidHit l1 pre ms∧(hd++ms).length=n3)∧Blk W lb 37 #[.slice A3 n3 c3]∧W.ownsRow w.heap.size 9 1 (.slice A3 n3 c3) n3 (strsV (hd++ms))∧Below w.heap.size w W)
      (OwnFrom.and (ownFrom_pure _ _) (ownFrom_below (Nat.le_refl _) (Nat.le_refl _)))
      (fun cd=>ownFrom_ex fun ms=>ownFrom_ex fun A3=>ownFrom_ex fun n3=>ownFrom_ex fun c3=>OwnFrom.and (ownFrom_pure _ _) (OwnFrom.and (blk_own _ _ _ _) (OwnFrom.and row_own (ownFrom_below (Nat.le_refl _) HS5.out.1.size))))
      ⟨fun i h=>(by cases h),Below.refl _ _⟩
      (fun i a' W=>∃ Bx,W5.heap.size≤Bx∧Blk W Bx 121 #[.string (l1.get i).1,.slice (sliceA (vs1.getD i.val undef)) (sliceN (vs1.getD i.val undef)) (sliceC (vs1.getD i.val undef))]∧a'={ tmps:=#[.string p1,undef,.slice none 0 0,.pointer (some ⟨s0,0,none⟩),.pointer (some ⟨s0+1,0,none⟩),.pointer (some ⟨lb,0,none⟩),u6,u7,.string q2,.bool true,u10,.pointer (some ⟨Bx,0,none⟩),u12,u13,u14,u15,u16,u17,u18,u19,u20,u21,u22,u23,u24,u25,u26,u27,u28,u29,u30,u31,u32,u33,u34,u35,u36,u37,u38,u39,u40,.tuple #[.string q2,.bool true],.string p1,.tuple #[.string q2,.bool true],.string q2,.bool true,.bool true,.bool false,u48,.slice A1 n1 c1,.func (.func 85) #[] #[.pointer (some ⟨bx,0,none⟩)],.int .i64 (i.val:Int),.agg #[.string (l1.get i).1,.slice (sliceA (vs1.getD i.val undef)) (sliceN (vs1.getD i.val undef)) (sliceC (vs1.getD i.val undef))],u53,u54,u55,u56,u57,u58,u59,u60,u61,u62,u63,u64,u65,u66,u67,u68,u69,u70,u71,u72,u73,u74,u75,u76,u77,u78,u79,u80,u81,u82,u83,u84,u85,u86,u87,u88,u89,u90,u91,u92,u93],defers:=[] })
      (fun i a'=>ownFrom_ex fun Bx=>OwnFrom.and (ownFrom_pure _ _) (OwnFrom.and (blk_own _ _ _ _) (ownFrom_pure _ _)))
      ?assign ?body ?done ?stop
     case assign =>
      rintro lp pre i W K ⟨hp,hB⟩ hK
      have HI:=Lib.hid (And.intro hp hB)
      clear hp hB
      simp only [bkEnc]
      gi_wp2
      obtain ⟨hp,hB⟩:=HI.out
      exact hK _ _ ((KeepsOthers.alloc _ _).from _) ((Below.refl _ W).alloc hB.size _) ⟨hp,hB.alloc hB.size _⟩ ⟨W.heap.size,hB.size,Blk.new W _ _,rfl⟩
     case body =>
      rintro lp pre i a' W hl ⟨rr,hr⟩ ⟨hp,hB⟩ ⟨Bx,hBx,bX,rfl⟩ hlt
      have hHW:=HS5.out.on hB
      obtain ⟨kv,hkv⟩:∃ kv,vs1[i.val]?=some kv:=⟨vs1[i.val]'(by rw [HS5.out.2.2.2.2.1.1];exact i.isLt),by simp [HS5.out.2.2.2.2.1.1,i.isLt]⟩
      have hst:l1[i.val]?=some (l1.get i):=by simp
      have hgd:vs1.getD i.val undef=kv:=by rw [List.getD_eq_getElem?_getD,hkv];rfl
      have hkl:(l1.get i).2.length≤512:=(HSM.out.1 (l1.get i) (List.get_mem _ _)).2.1
      have hown:=hHW.2.2.2.2.1.2.2.1 i.val (l1.get i) kv hst hkv
      obtain ⟨ka,kc,rfl,hk1,hk2,hk3⟩:=own_form hown
      rw [hgd] at bX ⊢
      simp only [sliceA,sliceN,sliceC] at bX ⊢
      have HSW:=Lib.hid hHW
      have HOK:=Lib.hid hown
      have HKV:=Lib.hid hkv
      have HST:=Lib.hid hst
      have HP:=Lib.hid hp
      have HB:=Lib.hid hB
      have hWs:W5.heap.size≤W.heap.size:=hB.size
      clear hgd hkv hr hlt hp hst hk1 hk2 hk3 hB hHW hown
      generalize hgi:l1.get i=st at *
      have HGI:=Lib.hid hgi
      clear hgi
      obtain ⟨sn,ks⟩:=st
      simp only at *
      obtain ⟨nk,hnk⟩:∃ nk,ks.length=nk:=⟨_,rfl⟩
      have HNK:=Lib.hid hnk
      rw [hnk] at hkl HOK HKV bX ⊢
      have x1:W.cell? ⟨Bx,1,none⟩=some (.slice ka nk kc):=bX.cell 1
      have HX:=Lib.hid bX
      have hkl2:(nk:Int)≤512:=by omega
      clear bX hnk
      gi_wp2
      gi_loopw [56] (fun iv wr=>∃ k:Nat,iv=.int .i64 (k:Int)∧k≤nk∧(∀(j:Nat) (y:PKey),j<k→ks[j]?=some y→y.1≠countT)∧wr=W) (fun iv _=>nk-(Lib.intOf iv).toNat)
      case atStart=>exact ⟨0,rfl,Nat.zero_le _,fun j y hj=>absurd hj (Nat.not_lt_zero _),rfl⟩
      case round =>
       obtain ⟨k,rfl,hk,hno,rfl⟩:=hrel
       have HNO2:=Lib.hid hno
       clear hno
       by_cases hlt:k<nk
       ·have hq1:(k:Int)<(nk:Int):=by omega
        have hq0:(0:Int)≤(k:Int):=by omega
        obtain ⟨⟨a,b⟩,hx⟩:∃ x,ks[k]?=some x:=⟨_,List.getElem?_eq_getElem (by rw [HNK.out];exact hlt)⟩
        have HX2:=Lib.hid hx
        obtain ⟨kb,rfl,hkb1,hkb2⟩:=own_spot HOK.out (show 0<nk by omega)
        have hcs:=pairCells_at ks k (a,b) hx
        have y0:wr.cell? ⟨kb,k*2,none⟩=some (.string a):=own_cell HOK.out (k*2) _ hcs.1
        have y1:wr.cell? ⟨kb,k*2+1,none⟩=some (.string b):=own_cell HOK.out (k*2+1) _ hcs.2
        clear hx hcs
        by_cases hac:a=countT
        ·subst hac
         have hac2:((countT).toList == [99,111,117,110,116])=true:=by rw [countT_beq];simp
         have HHK:=Lib.hid (show HasK ks countT from ⟨_,List.mem_of_getElem? HX2.out,rfl⟩)
         by_cases hbo:b=otherT
         ·subst hbo
          have hbo2:((otherT).toList == [111,116,104,101,114])=true:=by rw [otherT_beq];simp
          have HMA:=Lib.hid (midAt_other (l:=l1) (i:=i.val) (sn:=sn) HX2.out HNO2.out)
          gi_wp2
          refine ⟨KeepsFrom.refl _ _,[],A2,n2,c2,⟨rfl,⟨pre,i,rfl,HP.out,by rw [HGI.out];exact HHK.out,by rw [HGI.out];exact HMA.out.symm⟩,by rw [List.append_nil];exact HHD.out⟩,HSW.out.2.2.1,by rw [List.append_nil];exact HSW.out.2.2.2.1,HSW.out.1⟩
         ·have HBO:=Lib.hid hbo
          have hbo2:(b.toList == [111,116,104,101,114])=false:=by rw [otherT_beq];simpa using hbo
          have y2:wr.frozen? ⟨kb,k*2+1,none⟩=false:=own_free HOK.out (k*2+1)
          have HMA:=Lib.hid (midAt_put (l:=l1) (i:=i.val) (sn:=sn) HX2.out hbo HNO2.out)
          have HKB:=Lib.hid (show kb<W5.heap.size∧w.heap.size≤kb from by
           have h1:=HS5.out.2.2.2.2.1.2.2.1 i.val (sn,ks) _ HST.out HKV.out
           exact ⟨(h1.lt kb rfl).2,(h1.lt kb rfl).1⟩)
          clear hbo
          gi_upto_region 21 with (fail)
          have hgk:wr.grownBy (wr.setCell ⟨kb,k*2+1,none⟩ (.string otherT)) (some kb):=grown_set wr kb (k*2+1) (.string otherT)
          have HSK:=Lib.hid (HSW.out.key (o:=otherT) HST.out (by rw [HNK.out];exact HKV.out) HX2.out)
          have HKF:=Lib.hid (KeepsFrom.of_grownBy (B:=W5.heap.size) hgk (fun x e=>by cases e;exact HKB.out.1))
          clear hgk y0 y1 y2 x1
          rw [show (Value.string ⟨#[111,116,104,101,114]⟩)=Value.string otherT from rfl]
          generalize wr.setCell ⟨kb,k*2+1,none⟩ (.string otherT)=Wk at *
          have HLS:=Lib.hid (show (l1.set i.val (sn,ks.set k (countT,otherT))).length=n1 from by rw [List.length_set];exact HN1.out)
          have HSS:=Lib.hid (show ∀ st∈l1.set i.val (sn,ks.set k (countT,otherT)),StepSmall st from fun st h=>by
           rcases List.mem_or_eq_of_mem_set h with h | rfl
           ·exact (HSM.out.1 st h).small
           ·have h0:=(HSM.out.1 (sn,ks) (List.mem_of_getElem? HST.out)).small
            refine ⟨h0.1,by rw [List.length_set];exact h0.2.1,fun x hx=>?_⟩
            rcases List.mem_or_eq_of_mem_set hx with hx | rfl
            ·exact h0.2.2 x hx
            ·exact ⟨by decide,by decide⟩)
          generalize l1.set i.val (sn,ks.set k (countT,otherT))=l9 at *
          have HPR:=Lib.hid (print_any (.slice A1 n1 c1) l9 vs1 Wk (by have h:=HSK.out.2.2.2.2.1.reads;rw [HLS.out] at h;exact h) HSS.out (by have:=HLS.out;have:=HN1.out;have:=HSM.out.2;omega))
          have y3:Wk.cell? ⟨s0,0,none⟩=some (.slice A1 n1 c1):=by have h:=HSK.out.2.1.cell 0;rw [HLS.out] at h;exact h
          obtain ⟨pm,hpm⟩:∃ pm,putM l9=pm:=⟨_,rfl⟩
          have HPM:=Lib.hid hpm
          clear hpm
          cases pm with
          | error e =>
           have hne:=sputM_err HPM.out
           have he0:(e == 0)=false:=by rw [beq_eq_false_iff_ne];exact hne
           have he1:decide (e=0)=false:=decide_eq_false hne
           gi_wp2_with (refine ⟨trivial,?_⟩;gi_at_call 63;go_loud (refine (CallsIn.inRound lp (callsIn_wide.2 HPR.out)).mono ?_;rintro en wp ⟨rfl,hbp⟩;rw [HPM.out];simp only [putS,putE];have HBP:=Lib.hid hbp;clear hbp))
           have h9:=HSK.out.on HBP.out
           refine ⟨HKF.out.trans (keepsFrom_below HBP.out),[],A2,n2,c2,⟨rfl,⟨pre,i,rfl,HP.out,by rw [HGI.out];exact HHK.out,by rw [HGI.out,HMA.out,HPM.out]⟩,by rw [List.append_nil];exact HHD.out⟩,h9.2.2.1,by rw [List.append_nil];exact h9.2.2.2.1,h9.1⟩
          | ok tx =>
           have HMA2:=Lib.hid (show midAt l1 i.val (sn,ks)=[str tx] from by rw [HMA.out,HPM.out])
           obtain ⟨q3,hq3⟩:∃ q3,str tx=q3:=⟨_,rfl⟩
           rw [hq3] at HMA2
           have HQ3:=Lib.hid hq3
           clear hq3
           obtain ⟨i0,hi0,hy0,hy1,hy2⟩:=info_parts str_info
           gi_wp2_with (first
            | (refine ⟨trivial,?_⟩;gi_at_call 63;go_loud (refine (CallsIn.inRound lp (callsIn_wide.2 HPR.out)).mono ?_;rintro en wp ⟨rfl,hbp⟩;rw [HPM.out];simp only [putS,putE];rw [HQ3.out];have HBP:=Lib.hid hbp;have HS9:=Lib.hid (HSK.out.on hbp);have z0:wp.cell? ⟨lb,0,none⟩=some (.slice A2 n2 c2):=HS9.out.2.2.1.cell 0;have z1:lb<wp.heap.size:=HS9.out.2.2.1.lt;have z2:w.heap.size≤wp.heap.size:=HS9.out.1.size;have HS10:=Lib.hid (HS9.out.on ((Below.refl wp.heap.size wp).alloc (Nat.le_refl _) (.cells #[.string q3] 9)));clear hbp))
            | (gi_at_builtin;refine wpListIn_append_own _ rfl (.tmp 85) (.tmp 87) 37 rfl w.heap.size 9 i0 _ 1 16 Tryz.underlying37 hi0 hy0 hy1 hy2 rfl (by decide) _ n2 (strsV hd) rfl HS10.out.2.2.2.1 ⟨wp.heap.size,0,none⟩ 1 1 [.string q3] rfl rfl (new_one wp (.string q3) 9) (by simp [Value.oneCell']) (by simp only [maxLen];omega) (by omega) (by simp;omega) ?_;intro v7 w7 ho7 hg7 hz7;obtain ⟨A7,c7,rfl,-,-,-⟩:=own_form ho7;have HS11:=Lib.hid (HS10.out.push (q:=q3) ho7 hg7);have x3:w7.cell? ⟨lb,0,none⟩=some (.slice A2 n2 c2):=(blk_stays HS10.out.2.2.1 HS10.out.2.2.2.1 (by decide) hg7).cell 0;have x4:w7.frozen? ⟨lb,0,none⟩=false:=(blk_stays HS10.out.2.2.1 HS10.out.2.2.2.1 (by decide) hg7).frozen 0;have HG7:=Lib.hid hg7;clear ho7 hg7 hz7))
           refine ⟨((HKF.out.trans (keepsFrom_below HBP.out)).trans ((KeepsOthers.alloc _ _).from _)).trans ((KeepsFrom.of_grownBy HG7.out (fun x e=>(HS5.out.2.2.2.1.lt x e).2)).trans ((KeepsOthers.setCell _ _ _).from _)),[q3],A7,n2+1,c7,⟨rfl,⟨pre,i,rfl,HP.out,by rw [HGI.out];exact HHK.out,by rw [HGI.out];exact HMA2.out.symm⟩,by rw [List.length_append,HHD.out];rfl⟩,HS11.out.2.2.1,HS11.out.2.2.2.1,HS11.out.1⟩
        ·have HNC:=Lib.hid hac
         have hac2:(a.toList == [99,111,117,110,116])=false:=by rw [countT_beq];simpa using hac
         clear hac
         gi_wp2
         go_roundw
         case rel=>exact ⟨k+1,by go_num,hlt,fun j y hj hy=>by
          rcases Nat.lt_or_ge j k with h | h
          ·exact HNO2.out j y h hy
          ·obtain rfl:j=k:=by omega
           rw [HX2.out] at hy
           cases hy
           exact HNC.out,by first | rfl | trivial⟩
         case measure=>simp [Lib.intOf] <;> omega
       ·obtain rfl:nk=k:=by omega
        have hq:¬ (nk:Int)<(nk:Int):=by omega
        gi_wp2
        refine ⟨KeepsFrom.refl _ _,Below.refl _ _,fun j hj=>?_,HB.out⟩
        rcases List.mem_append.1 hj with h | h
        ·exact HP.out j h
        ·simp at h
         subst h
         rw [HGI.out]
         rintro ⟨x,hx,he⟩
         obtain ⟨m,hm⟩:=List.mem_iff_getElem?.1 hx
         exact HNO2.out m x (by rw [←HNK.out];exact (List.getElem?_eq_some_iff.1 hm).1) hm he
     case done =>
      rintro D xs W hD ⟨hDs,hlen⟩ ⟨hp,hB⟩ hK
      have h1:=woIs_unique (noK_is hDs hlen hp) HWO.out
      cases h1
     case stop =>
      rintro D cd pre W hD hDs ⟨ms,A3,n3,c3,⟨rfl,hH,hn⟩,h1,h2,h3⟩ hK
      exact wpIn_exit ⟨.inr rfl,D,rfl,hD,hK,ms,A3,n3,c3,⟨midHit_is hDs hH,hn⟩,h1,h2,h3⟩
    ·rintro D W ⟨hD,hK,ms,A3,n3,c3,⟨rfl,hn3⟩,h1,h2,h3⟩
     have HK:=Lib.hid (And.intro hD hK)
     have HN3:=Lib.hid hn3
     have y0:W.cell? ⟨lb,0,none⟩=some (.slice A3 n3 c3):=h1.cell 0
     have hb:=(Below.refl W.heap.size W).alloc (Nat.le_refl _) (.cells #[.string q2] 9)
     have HO:=Lib.hid (own_more h2 hb)
     have HB:=Lib.hid (h3.trans (hb.mono h3.size))
     have HK2:=Lib.hid (marks_stay hK hb)
     have z2:w.heap.size≤W.heap.size:=h3.size
     have hm3:n3≤3:=by
      rw [←hn3,List.length_append,HHD.out]
      have:(midM l1).length≤1:=by
       unfold midM
       split
       ·exact Nat.zero_le _
       ·unfold midAt
        split
        ·exact Nat.zero_le _
        ·split <;> simp
      omega
     obtain ⟨L3,hL3⟩:∃ L3,hd++midM l1=L3:=⟨_,rfl⟩
     rw [hL3] at HO HN3
     have HL3:=Lib.hid hL3
     obtain ⟨i0,hi0,hy0,hy1,hy2⟩:=info_parts str_info
     clear hD hK hn3 h1 h2 h3 hb hL3
     gi_wp2_with (gi_at_builtin;refine wpListIn_append_own _ rfl (.tmp 90) (.tmp 92) 37 rfl w.heap.size 9 i0 _ 1 16 Tryz.underlying37 hi0 hy0 hy1 hy2 rfl (by decide) _ n3 (strsV L3) rfl HO.out ⟨W.heap.size,0,none⟩ 1 1 [.string q2] rfl rfl (new_one W (.string q2) 9) (by simp [Value.oneCell']) (by simp only [maxLen];omega) (by omega) (by simp;omega) ?_;intro v7 w7 ho7 hg7 hz7;obtain ⟨A7,c7,rfl,-,-,-⟩:=own_form ho7;have HO7:=Lib.hid ho7;have HB7:=Lib.hid (HB.out.grown hg7 HB.out.size (fun k hk=>(HO.out.lt k hk).1));have HK7:=Lib.hid (mark_row HK2.out HO.out hg7);clear ho7 hg7 hz7)
     have hDw:w.heap.size≤D:=Nat.le_trans HS5.out.1.size HK.out.1
     refine ⟨by simp,.inl ⟨_,_,rfl,run_takeDeferred HK7.out,?_⟩⟩
     refine ⟨.slice A7 (n3+1) c7,by simp [results,Tryz.f35,go_sem],side_post (L:=L3++[q2]) (m:=n3+1) ?_ (by rw [List.length_append,HN3.out];rfl) (by rw [HSC.out,←HL3.out,List.append_assoc]) (HB7.out.trans (belowK_b (w:=w) (Nat.le_refl _) _ D _ _ hDw HK7.out rfl rfl))⟩
     have e:strsV (L3++[q2])=strsV L3++[.string q2]:=by unfold strsV;rw [List.map_append];rfl
     rw [e]
     exact (row_own (β:=Unit) (B:=D)).putObj (s:=()) _ HO7.out (Nat.le_refl _) HK7.out rfl
end
section
open Go.RowKit Go.Shelf

/-- The first path at which something stands. -/
def firstB (r:List PStep)(n:ByteArray):List ByteArray→ByteArray×Bool
 | []=>(ByteArray.empty,false)
 | q::t=>if (findB r n q).2=true then findB r n q else firstB r n t
def valB (r:List PStep)(n p:ByteArray):ByteArray×Bool:=if n=ByteArray.empty then findB r n p else firstB r n (sideM p)
theorem findB_not {r:List PStep}{n p:ByteArray}(h:(findB r n p).2=false):(findB r n p).1=ByteArray.empty:=by
 unfold findB at h ⊢
 split
 ·rfl
 ·rename_i b hb
  rw [hb] at h
  simp only at h ⊢
  split
  ·rfl
  ·rename_i v hv
   rw [hv] at h
   cases h
theorem firstB_drop {r:List PStep}{n:ByteArray}{qs:List ByteArray}{j:Nat}{q:ByteArray}(h:qs[j]?=some q):firstB r n (qs.drop j)=if (findB r n q).2=true then findB r n q else firstB r n (qs.drop (j+1)):=by
 obtain ⟨hj,rfl⟩:=List.getElem?_eq_some_iff.1 h
 rw [List.drop_eq_getElem_cons hj]
 rfl
theorem putM_sz {l:List PStep}{t:List UInt8}(h:putM l=.ok t):(str t).size≤513:=by
 have:=putS_size l
 rw [h] at this
 exact this
theorem sideM_few (p:ByteArray):(sideM p).length≤4∧∀ q∈sideM p,q=p∨q.size≤513:=by
 have hm:∀ l:List PStep,(midM l).length≤1∧∀ q∈midM l,q.size≤513:=fun l=>by
  unfold midM
  split
  ·exact ⟨Nat.zero_le _,fun q h=>by cases h⟩
  ·unfold midAt
   split
   ·exact ⟨Nat.zero_le _,fun q h=>by cases h⟩
   ·split
    ·rename_i t ht
     refine ⟨Nat.le_refl _,fun q h=>?_⟩
     rw [List.mem_singleton.1 h]
     exact putM_sz ht
    ·exact ⟨Nat.zero_le _,fun q h=>by cases h⟩
 have hc:∀ q0:ByteArray,(sideC q0).length≤2∧∀ q∈sideC q0,q.size≤513:=fun q0=>by
  unfold sideC
  split
  ·exact ⟨Nat.zero_le _,fun q h=>by cases h⟩
  ·split
   ·exact ⟨Nat.zero_le _,fun q h=>by cases h⟩
   ·refine ⟨by rw [List.length_append,List.length_singleton];exact Nat.add_le_add_right (hm _).1 1,fun q h=>?_⟩
    rcases List.mem_append.1 h with h | h
    ·exact (hm _).2 q h
    ·rw [List.mem_singleton.1 h]
     exact putS_size _
 unfold sideM
 split
 ·exact ⟨Nat.zero_le _,fun q h=>by cases h⟩
 ·split
  ·refine ⟨by rw [List.length_cons];have:=(hc p).1;omega,fun q h=>?_⟩
   rcases List.mem_cons.1 h with rfl | h
   ·exact .inl rfl
   ·exact .inr ((hc p).2 q h)
  ·refine ⟨by rw [List.length_cons,List.length_cons];exact Nat.add_le_add_right (hc _).1 2,fun q h=>?_⟩
   rcases List.mem_cons.1 h with rfl | h
   ·exact .inl rfl
   ·rcases List.mem_cons.1 h with rfl | h
    ·exact .inr (putS_size _)
    ·exact .inr ((hc _).2 q h)
set_option maxHeartbeats 16000000 in
set_option maxRecDepth 100000 in
theorem lvalue_any {w:World}{g:Nat}{r:List PStep}(h:LoadedAt w g r)(n p:ByteArray)(hp:p.size≤140737488355328) :
  Calls Tryz.prog 15 #[.pointer (some ⟨g,0,none⟩),.string n,.string p] w fun e w'=>e=.returned (.tuple #[.string (valB r n p).1,.bool (valB r n p).2])∧Below w.heap.size w w':=by
 have HL:=Lib.hid h
 clear h
 by_cases hn:n=ByteArray.empty
 ·have HV:=Lib.hid (show valB r n p=findB r n p from by unfold valB;rw [if_pos hn])
  have he:(n.toList == [])=true:=by rw [hn];simp
  have HD:=Lib.hid (direct_any HL.out n p hp)
  clear hn
  go_enter Tryz.func15,Tryz.ntmps15
  go_wp2
  go_step3
  go_wp2_with fail
  refine HD.out.mono ?_
  rintro en w1 ⟨rfl,hb⟩
  have HB:=Lib.hid hb
  clear hb
  go_wp2
  simp only [Exit.noGoto_ret]
  go_ret2
  exact ⟨by rw [HV.out];try rfl,HB.out⟩
 ·have HV:=Lib.hid (show valB r n p=firstB r n (sideM p) from by unfold valB;rw [if_neg hn])
  have he:(n.toList == [])=false:=by
   rw [show ([]:List UInt8)=ByteArray.empty.toList from by kernel_rfl,ba_beq]
   simpa using hn
  have HSF:=Lib.hid (sideM_few p)
  have HSD:=Lib.hid (sideways_any p w hp)
  obtain ⟨qs,hqs⟩:∃ qs,sideM p=qs:=⟨_,rfl⟩
  rw [hqs] at HV HSF
  have HQS:=Lib.hid hqs
  clear hn hqs
  go_enter Tryz.func15,Tryz.ntmps15
  go_wp2
  go_step3
  go_wp2_with fail
  go_step3
  go_wp2_with fail
  refine HSD.out.mono ?_
  rintro en w1 ⟨⟨A,c,rfl,ho⟩,hb⟩
  rw [HQS.out] at ho ⊢
  obtain ⟨nq,hnq⟩:∃ nq,qs.length=nq:=⟨_,rfl⟩
  rw [hnq] at ho ⊢
  have HO:=Lib.hid ho
  have HB:=Lib.hid hb
  have HNQ:=Lib.hid hnq
  have hq4:(nq:Int)≤4:=by have:=HSF.out.1;omega
  clear ho hb hnq
  go_wp2
  go_loopw [8,9,23] (fun tv ov iv W=>∃ j:Nat,tv=.string ByteArray.empty∧ov=.bool false∧iv=.int .i64 (j:Int)∧j≤nq∧firstB r n (qs.drop j)=firstB r n qs∧Below w1.heap.size w1 W) (fun _ _ iv _=>nq-(Lib.intOf iv).toNat)
  case atStart=>exact ⟨0,rfl,rfl,rfl,Nat.zero_le _,rfl,Below.refl _ _⟩
  case round =>
   obtain ⟨j,rfl,rfl,rfl,hj,hf,hb⟩:=hrel
   have HF:=Lib.hid hf
   have HBW:=Lib.hid hb
   clear hf hb
   by_cases hlt:j<nq
   ·have hq1:(j:Int)<(nq:Int):=by omega
    have hq0:(0:Int)≤(j:Int):=by omega
    obtain ⟨q,hq⟩:∃ q,qs[j]?=some q:=⟨_,List.getElem?_eq_getElem (by rw [HNQ.out];exact hlt)⟩
    have HQ:=Lib.hid hq
    obtain ⟨bq,rfl,hbq1,hbq2⟩:=own_spot HO.out (show 0<nq by omega)
    have z0:wr.cell? ⟨bq,j,none⟩=some (.string q):=(HBW.out.cell (p:=⟨bq,j,none⟩) hbq2).trans (own_cell HO.out j _ (by unfold strsV;rw [List.getElem?_map,hq];rfl))
    have hqz:q.size≤140737488355328:=by
     rcases HSF.out.2 q (List.mem_of_getElem? hq) with rfl | h
     ·exact hp
     ·omega
    have HD:=Lib.hid (direct_any (HL.out.on (HB.out.trans (HBW.out.mono HB.out.size))) n q hqz)
    have HFD:=Lib.hid (firstB_drop (r:=r) (n:=n) hq)
    obtain ⟨fx,hfx⟩:∃ fx,findB r n q=fx:=⟨_,rfl⟩
    have HFX:=Lib.hid hfx
    rw [hfx] at HFD
    unfold DirPost at HD
    rw [hfx] at HD
    obtain ⟨ft,fo⟩:=fx
    simp only at HD HFD
    clear hq hfx
    go_upto_region 8 with (fail)
    go_wp2_with fail
    refine HD.out.mono ?_
    rintro en w3 ⟨rfl,hb⟩
    have HB3:=Lib.hid (HBW.out.trans (hb.mono HBW.out.size))
    clear hb z0
    cases fo with
    | true =>
     go_wp2
     simp only [Exit.noGoto_ret]
     go_ret2
     exact ⟨by rw [HV.out,←HF.out,HFD.out];rfl,HB.out.trans (HB3.out.mono HB.out.size)⟩
    | false =>
     have hft:ft=ByteArray.empty:=by
      have h:=findB_not (r:=r) (n:=n) (p:=q) (by rw [HFX.out])
      rw [HFX.out] at h
      exact h
     subst hft
     go_wp2
     go_roundw
     case rel=>exact ⟨j+1,rfl,rfl,by go_num,hlt,by rw [←HF.out,HFD.out];rfl,HB3.out⟩
     case measure=>simp [Lib.intOf] <;> omega
   ·obtain rfl:nq=j:=by omega
    have hq:¬ (nq:Int)<(nq:Int):=by omega
    have HE:=Lib.hid (show firstB r n qs=(ByteArray.empty,false) from by rw [←HF.out,List.drop_of_length_le (by rw [HNQ.out];exact Nat.le_refl _)];rfl)
    go_wp2
    (try simp only [Exit.noGoto_ret])
    go_ret2
    exact ⟨by rw [HV.out,HE.out];rfl,HB.out.trans (HBW.out.mono HB.out.size)⟩
/-- The names of all Books but that of the pseudo-locale. -/
def namesL (r:List PStep):List ByteArray:=(r.map Prod.fst).filter fun n=>decide (n≠ByteArray.empty)
theorem namesL_next {r:List PStep}{j:Nat}{b:PStep}(h:r[j]?=some b):namesL (r.take (j+1))=namesL (r.take j)++(if b.1=ByteArray.empty then [] else [b.1]):=by
 unfold namesL
 rw [List.take_add_one,h,List.map_append,List.filter_append]
 by_cases e:b.1=ByteArray.empty <;> simp [e]
def LocPost (r:List PStep)(w:World)(e:Ending)(w':World):Prop:=(∃ A c,e=.returned (.slice A (namesL r).length c)∧w'.ownsRow w.heap.size 9 1 (.slice A (namesL r).length c) (namesL r).length (strsV (namesL r)))∧Below w.heap.size w w'
theorem loc_post {r:List PStep}{w w':World}{v:Value}{L:List ByteArray}{m:Nat}(h:w'.ownsRow w.heap.size 9 1 v m (strsV L))(hm:L.length=m)(hL:namesL r=L)(hb:Below w.heap.size w w'):LocPost r w (.returned v) w':=by
 subst hm hL
 obtain ⟨A,c,rfl,-,-,-⟩:=own_form h
 exact ⟨⟨A,c,rfl,h⟩,hb⟩
set_option maxHeartbeats 16000000 in
set_option maxRecDepth 100000 in
theorem locales_any {w:World}{g:Nat}{r:List PStep}(h:LoadedAt w g r):Calls Tryz.prog 11 #[.pointer (some ⟨g,0,none⟩)] w (LocPost r w):=by
 have hL:=h.ld
 generalize bodyB r=l at hL
 generalize idxM l=i at hL
 have HL:=Lib.hid hL
 have HNB:=Lib.hid hL.nb
 obtain ⟨Ak,ck,hK0,hKB⟩:=hL.at_.bks
 have k0:=hK0 w (Below.refl _ _)
 rw [hL.len] at k0
 have HKB:=Lib.hid hKB
 obtain ⟨nr,hnr⟩:∃ nr,r.length=nr:=⟨_,rfl⟩
 rw [hnr] at k0 HNB
 have HNR:=Lib.hid hnr
 have hnr1:(nr:Int)≤513:=by have:=HNB.out;omega
 clear hL h hK0 hKB hnr
 go_enter Tryz.func11,Tryz.ntmps11
 go_wp2
 clear k0
 go_loopw [3,15] (fun ov iv W=>∃(j m:Nat),iv=.int .i64 (j:Int)∧j≤nr∧m≤j∧W.ownsRow w.heap.size 9 1 ov m (strsV (namesL (r.take j)))∧(namesL (r.take j)).length=m∧Below w.heap.size w W) (fun _ iv _=>nr-(Lib.intOf iv).toNat)
 case atStart=>exact ⟨0,0,rfl,Nat.zero_le _,Nat.le_refl _,World.ownsRow_nil _ _ _ _,rfl,Below.refl _ _⟩
 case round =>
  obtain ⟨j,m,rfl,hj,hm,ho,hl,hb⟩:=hrel
  obtain ⟨Ao,co,rfl,-,-,-⟩:=own_form ho
  have HO:=Lib.hid ho
  have HLN:=Lib.hid hl
  have HB:=Lib.hid hb
  clear ho hl hb
  by_cases hlt:j<nr
  ·have hq1:(j:Int)<(nr:Int):=by omega
   have hq0:(0:Int)≤(j:Int):=by omega
   obtain ⟨b,hb⟩:∃ b,r[j]?=some b:=⟨_,List.getElem?_eq_getElem (by rw [HNR.out];exact hlt)⟩
   have HNX:=Lib.hid (namesL_next hb)
   obtain ⟨hbk,hnm⟩:=HL.out.is.nm hb
   obtain ⟨bk,ok,Ag,cg,rfl,hgc,hgm,hfar⟩:=HKB.out j _ hbk
   obtain ⟨bm,hbm⟩:∃ bm,bookM (textsP r) (pathsP r) (tabsB r) b=bm:=⟨_,rfl⟩
   rw [hbm] at hbk hgc hfar
   obtain ⟨nm,gs⟩:=bm
   simp only at hgc hfar
   have hnt:=(HL.out.ok.books _ (List.mem_of_getElem? hbk)).1
   simp only at hnt
   have HTXN:=Lib.hid (show textM l i nm=b.1 from by
    rw [←hnm]
    unfold nmF
    rw [List.getD_eq_getElem?_getD,hbk]
    rfl)
   obtain ⟨z0,z1,-⟩:=hfar wr HB.out
   obtain ⟨ng,hng⟩:∃ ng,gs.length=ng:=⟨_,rfl⟩
   rw [hng] at z1
   have hba:=(Below.refl wr.heap.size wr).alloc (Nat.le_refl _) (.cells #[.int .i64 (nm:Int),.slice Ag ng cg] 76)
   have HB1:=Lib.hid (HB.out.trans (hba.mono HB.out.size))
   have HO1:=Lib.hid (own_more HO.out hba)
   have HGK:=Lib.hid (Blk.new wr 76 #[.int .i64 (nm:Int),.slice Ag ng cg])
   clear hbm hbk hfar hba hb hng hnm hgc
   go_upto_region 7 with (fail)
   clear z0 z1 HB HO
   generalize wr.alloc (.cells #[.int .i64 (nm:Int),.slice Ag ng cg] 76)=w1 at *
   obtain ⟨gk,hgk⟩:∃ gk,wr.heap.size=gk:=⟨_,rfl⟩
   rw [hgk] at HGK
   (try rw [hgk])
   clear hgk
   have y0:w1.cell? ⟨gk,0,none⟩=some (.int .i64 (nm:Int)):=HGK.out.cell 0
   have hd1:=(Below.refl w1.heap.size w1).drew
   have HD1:=Lib.hid hd1
   have HTX:=Lib.hid (itext_any (HL.out.at_.on (HB1.out.trans (hd1.mono HB1.out.size))) HL.out.ok.toIdxIn hnt HL.out.few)
   clear hd1
   refine wp_region_M (fun W=>W.cell? ⟨gk,0,none⟩=some (.int .i64 (nm:Int))) 7 (by kernel_rfl) (by go_keep) (fun hHeld=>?_)
   refine wpAnyM_take (i:=0) (d:=(some 19)) (v:=?_) rfl rfl (by kernel_rfl) (by kernel_rfl) (by kernel_rfl) (by kernel_rfl) (by kernel_rfl) (fun _ _ _ h=>h) (Or.inl ⟨by rfl,?_⟩) (by assumption) ?_
   rotate_left
   ·intro w hSw
    (try dsimp only at hSw)
    go_simp
    (try with_reducible rfl)
   (try simp only [Act.put,List.setIfInBounds_toArray,List.set_cons_zero,List.set_cons_succ])
   refine wpAnyM_take (i:=1) (d:=(some 20)) (v:=?_) rfl rfl (by kernel_rfl) (by kernel_rfl) (by kernel_rfl) (by kernel_rfl) (by kernel_rfl) (fun _ _ _ h=>h) (Or.inl ⟨by rfl,?_⟩) (by assumption) ?_
   rotate_left
   ·intro w hSw
    (try dsimp only at hSw)
    go_simp
    (try with_reducible rfl)
   (try simp only [Act.put,List.setIfInBounds_toArray,List.set_cons_zero,List.set_cons_succ])
   refine wpAnyM_take (i:=2) (d:=(some 21)) (v:=?_) rfl rfl (by kernel_rfl) (by kernel_rfl) (by kernel_rfl) (by kernel_rfl) (by kernel_rfl) (fun _ _ _ h=>h) (Or.inl ⟨by rfl,?_⟩) (by assumption) ?_
   rotate_left
   ·intro w hSw
    (try dsimp only at hSw)
    go_simp
    (try with_reducible rfl)
   (try simp only [Act.put,List.setIfInBounds_toArray,List.set_cons_zero,List.set_cons_succ])
   refine wpAnyM_take (i:=3) (d:=(some 22)) (v:=?_) rfl rfl (by kernel_rfl) (by kernel_rfl) (by kernel_rfl) (by kernel_rfl) (by kernel_rfl) (fun _ _ _ h=>h) (Or.inl ⟨by rfl,?_⟩) (by assumption) ?_
   rotate_left
   ·intro w hSw
    (try dsimp only at hSw)
    go_simp
    (try with_reducible rfl)
   (try simp only [Act.put,List.setIfInBounds_toArray,List.set_cons_zero,List.set_cons_succ])
   refine wpAnyM_take (i:=4) (d:=(some 23)) (v:=?_) rfl rfl (by kernel_rfl) (by kernel_rfl) (by kernel_rfl) (by kernel_rfl) (by kernel_rfl) (fun _ _ _ h=>h) (Or.inl ⟨by rfl,?_⟩) (by assumption) ?_
   rotate_left
   ·intro w hSw
    (try dsimp only at hSw)
    go_simp
    (try with_reducible rfl)
   (try simp only [Act.put,List.setIfInBounds_toArray,List.set_cons_zero,List.set_cons_succ])
   refine wpAnyM_one (i:=5) (by kernel_rfl) ?_
   refine owe_early (i:=5) (d:=(some 24)) rfl rfl (fun K hK=>?_)
   go_simp
   refine HTX.out.mono ?_
   rintro en wa ⟨rfl,hb⟩
   rw [HTXN.out]
   have HA:=Lib.hid (HD1.out.trans (hb.mono HD1.out.size))
   have y1:wa.cell? ⟨gk,0,none⟩=some (.int .i64 (nm:Int)):=(HGK.out.below HA.out HGK.out.lt).cell 0
   clear hb
   refine hK.out _ _ (by go_keep) (fun hHeld=>?_)
   clear hK K
   (try simp only [Act.put,List.setIfInBounds_toArray,List.set_cons_zero,List.set_cons_succ])
   refine wpAnyM_take (i:=6) (d:=(some 6)) (v:=?_) rfl rfl (by kernel_rfl) (by kernel_rfl) (by kernel_rfl) (by kernel_rfl) (by kernel_rfl) (fun _ _ _ h=>h) (Or.inl ⟨by rfl,?_⟩) (by assumption) ?_
   rotate_left
   ·intro w hSw
    (try dsimp only at hSw)
    go_simp
    (try with_reducible rfl)
   (try simp only [Act.put,List.setIfInBounds_toArray,List.set_cons_zero,List.set_cons_succ])
   refine wpAnyM_done (by kernel_rfl) ?_ _
   (try simp only [Act.put,List.setIfInBounds_toArray,List.set_cons_zero,List.set_cons_succ])
   have HB2:=Lib.hid (HB1.out.trans (HA.out.mono HB1.out.size))
   have HO2:=Lib.hid (own_more HO1.out HA.out)
   clear HB1 HO1 HTX
   by_cases hbe:b.1=ByteArray.empty
   ·have HE:=Lib.hid hbe
    rw [if_pos hbe] at HNX
    have he1:(b.1.toList == [])=true:=by rw [hbe];simp
    clear hbe
    go_wp2
    go_roundw
    case rel=>exact ⟨j+1,m,by go_num,hlt,by omega,by rw [HNX.out,List.append_nil];exact HO2.out,by rw [HNX.out,List.append_nil];exact HLN.out,HB2.out⟩
    case measure=>simp [Lib.intOf] <;> omega
   ·rw [if_neg hbe] at HNX
    have he1:(b.1.toList == [])=false:=by
     rw [show ([]:List UInt8)=ByteArray.empty.toList from by kernel_rfl,ba_beq]
     simpa using hbe
    clear hbe
    have hba:=(Below.refl wa.heap.size wa).alloc (Nat.le_refl _) (.cells #[.string b.1] 9)
    have HB3:=Lib.hid (HB2.out.trans (hba.mono HB2.out.size))
    have HO3:=Lib.hid (own_more HO2.out hba)
    have HN3:=Lib.hid (reads_new wa #[.string b.1] 9 1 1 rfl)
    have z2:w.heap.size≤wa.heap.size:=HB2.out.size
    obtain ⟨i0,hi0,hy0,hy1,hy2⟩:=info_parts str_info
    have hj9:j≤513:=by have:=HNB.out;omega
    clear hba
    go_wp2_with (at_builtin;go_loud (refine wpList_append_any _ rfl (.tmp 27) (.tmp 29) _ rfl w.heap.size 9 i0 _ 1 16 Tryz.underlying37 hi0 hy0 hy1 hy2 rfl (by omega) _ m (strsV (namesL (r.take j))) rfl HO3.out (wa.heap.size+1) (some ⟨wa.heap.size,0,none⟩) 1 1 [.string b.1] rfl HN3.out (by simp [Value.oneCell']) (by simp only [maxLen];omega) (by omega) (by simp;omega) ?_;intro v8 w8 hown8 hg8 hat8;have HO8:=Lib.hid hown8;have HB8:=Lib.hid (HB3.out.grown hg8 (by simp;omega) (fun k hk=>(HO3.out.lt k hk).1));clear hown8 hg8 hat8))
    go_roundw
    case rel=>exact ⟨j+1,m+1,by go_num,hlt,by omega,by rw [HNX.out];unfold strsV at *;rw [List.map_append];exact HO8.out,by rw [HNX.out,List.length_append,HLN.out];rfl,HB8.out⟩
    case measure=>simp [Lib.intOf] <;> omega
  ·obtain rfl:nr=j:=by omega
   have hq:¬ (nr:Int)<(nr:Int):=by omega
   have HT:=Lib.hid (show r.take nr=r from List.take_of_length_le (by rw [HNR.out];exact Nat.le_refl _))
   rw [HT.out] at HO HLN
   go_wp2
   go_ret
   exact loc_post HO.out HLN.out rfl HB.out
end
section
open Go.RowKit

theorem lS_val:valB lS ⟨#[100,101]⟩ ⟨#[120,91,99,111,117,110,116,61,102,101,119,93]⟩=(⟨#[111]⟩,true):=by kernel_rfl
theorem lS_has:hasB lS ⟨#[101,110]⟩=true:=by kernel_rfl
theorem lS_names:(namesL lS).length=2:=by kernel_rfl
set_option maxHeartbeats 8000000 in
set_option maxRecDepth 100000 in
theorem lwakes_any (w:World):Calls Tryz.prog 5 #[] w fun e w'=>e=.returned (.bool true)∧Below w.heap.size w w':=by
 have HSA:=Lib.hid (sample_any w)
 go_enter Tryz.func5,Tryz.ntmps5
 go_wp2_with fail
 refine HSA.out.mono ?_
 rintro en w1 ⟨b,vs,rfl,hs,hb⟩
 have HB1:=Lib.hid hb
 have HEN:=Lib.hid (bencode_any (.slice (some ⟨b,0,none⟩) 2 2) lS vs w1 hs (right_in lS_check))
 clear hs hb HSA
 go_wp2_with fail
 refine HEN.out.mono ?_
 rintro en w2 ⟨h2,hb2⟩
 obtain ⟨Ao,co,no,rfl,hno,hnc,hcm,hro⟩:∃ Ao co no,en=.returned (.tuple #[.slice Ao no co,.int .i64 0])∧(bytesB lS).length=no∧no≤co∧co≤maxLen∧RB w2 w2.heap.size Ao (bytesB lS):=by
  rcases h2 with ⟨h,-⟩ | ⟨-,h,-⟩ | ⟨-,-,v,rfl,ho⟩
  ·exact absurd lS_check h
  ·exact absurd lS_fits (by omega)
  ·obtain ⟨A,c,rfl,h1,h2,h3⟩:=ho.form
   exact ⟨A,c,_,rfl,rfl,h1,h2,h3⟩
 have HB2:=Lib.hid (HB1.out.trans (hb2.mono HB1.out.size))
 have HLD:=Lib.hid (load_any Ao no co (bytesB lS) w2 hro hno hnc hcm)
 clear h2 hb2 hro hno hnc hcm HEN
 go_wp2_with fail
 refine HLD.out.mono ?_
 rintro en w3 h3
 obtain ⟨hb3,g,rfl,hl3,-⟩:=load_one lS_check rfl lS_fits h3
 have HB3:=Lib.hid (HB2.out.trans (hb3.mono HB2.out.size))
 have HL3:=Lib.hid hl3
 have HV:=Lib.hid (lvalue_any hl3 ⟨#[100,101]⟩ ⟨#[120,91,99,111,117,110,116,61,102,101,119,93]⟩ (by decide))
 rw [lS_val] at HV
 clear h3 hb3 hl3 HLD
 go_wp2_with fail
 refine HV.out.mono ?_
 rintro en w4 ⟨rfl,hb4⟩
 have HB4:=Lib.hid (HB3.out.trans (hb4.mono HB3.out.size))
 have HL4:=Lib.hid (HL3.out.on hb4)
 have HH:=Lib.hid (has_any HL4.out ⟨#[101,110]⟩)
 rw [lS_has] at HH
 clear hb4 HV
 go_wp2_with fail
 refine HH.out.mono ?_
 rintro en w5 ⟨rfl,hb5⟩
 have HB5:=Lib.hid (HB4.out.trans (hb5.mono HB4.out.size))
 have HLO:=Lib.hid (locales_any (HL4.out.on hb5))
 clear hb5 HH
 go_wp2_with fail
 refine HLO.out.mono ?_
 rintro en w6 ⟨⟨A,c,rfl,-⟩,hb6⟩
 have HB6:=Lib.hid (HB5.out.trans (hb6.mono HB5.out.size))
 rw [lS_names]
 clear hb6 HLO
 go_wp2
 go_ret
 exact ⟨rfl,HB6.out⟩
end
section
open Go.RowKit Go.Shelf

attribute [local go_sem] Oper.semAt_some
/-! All that stands for a locale. -/
def allL (rr:List PStep)(nm:ByteArray):List PKey:=(rr.filter fun b=>decide (b.1=nm)).flatMap fun b=>b.2
def cntA (rr:List PStep)(nm:ByteArray)(j:Nat):Nat:=(allL (rr.take j) nm).length
theorem allL_next {rr:List PStep}{nm:ByteArray}{j:Nat}{b:PStep}(h:rr[j]?=some b):allL (rr.take (j+1)) nm=allL (rr.take j) nm++(if b.1=nm then b.2 else []):=by
 unfold allL
 rw [List.take_add_one,h,List.filter_append,List.flatMap_append]
 congr 1
 by_cases e:b.1=nm <;> simp [e]
theorem allL_at {rr:List PStep}{nm:ByteArray}{j q:Nat}{b:PStep}{x:PKey}(h:rr[j]?=some b)(hn:b.1=nm)(hx:b.2[q]?=some x):(allL rr nm)[cntA rr nm j+q]?=some x:=by
 have h1:=allL_next (nm:=nm) h
 rw [if_pos hn] at h1
 have h2:allL rr nm=allL (rr.take (j+1)) nm++allL (rr.drop (j+1)) nm:=by
  unfold allL
  rw [←List.flatMap_append,←List.filter_append,List.take_append_drop]
 have hq:=(List.getElem?_eq_some_iff.1 hx).1
 rw [h2,h1,List.append_assoc,List.getElem?_append_right (by unfold cntA;omega),List.getElem?_append_left (by unfold cntA;omega)]
 unfold cntA
 rw [Nat.add_sub_cancel_left]
 exact hx
theorem cntA_next {rr:List PStep}{nm:ByteArray}{j:Nat}{b:PStep}(h:rr[j]?=some b):cntA rr nm (j+1)=cntA rr nm j+(if b.1=nm then b.2.length else 0):=by
 unfold cntA
 rw [allL_next h,List.length_append]
 congr 1
 split <;> rfl
theorem cntA_all (rr:List PStep)(nm:ByteArray):cntA rr nm rr.length=(allL rr nm).length:=by
 unfold cntA
 rw [List.take_length]
def nvEnc (l:List PKey)(i:Fin l.length):Array Value:=#[.string (l.get i).1,.string (l.get i).2]
theorem BunOwn.from_ {X Y:World}{base n₀:Nat}{v:Value}{l:List PStep}{vs:List Value}(h:BunOwn X base v l vs)(hb:n₀≤base)(hk:CellsFrom n₀ X Y):BunOwn Y base v l vs :=
 ⟨own_from h.1 hb hk,h.2.1,fun i b kv h1 h2=>own_from (h.2.2 i b kv h1 h2) hb hk⟩
theorem lall_any (pv:Option Addr)(nm:ByteArray)(w:World):Calls Tryz.prog 16 #[.pointer pv,.string nm] w fun e w'=>e=.returned (.func (.func 39) #[] #[.pointer (some ⟨w.heap.size,0,none⟩),.pointer (some ⟨w.heap.size+1,0,none⟩)])∧w'=(w.alloc (.cells #[.pointer pv] 29)).alloc (.cells #[.string nm] 9):=by
 go_enter Tryz.func16,Tryz.ntmps16
 go_wp2
 go_ret
 exact ⟨rfl,rfl⟩
set_option maxRecDepth 100000 in
set_option maxHeartbeats 16000000 in
theorem all1_in (n:Nat)(hn:1≤n)(lp b1 b2 n₀:Nat)(pv:Option Addr)(nm:ByteArray)(rr:List PStep)(J Jx:List (Fin (allL rr nm).length)→World→Prop)(W:World)(hJ:AbidesFrom W.heap.size J)
  (hY:∀ pre x W1,J pre W1→pre.length<(allL rr nm).length→YieldAt Fence.wide (n-1) Tryz.prog lp (nvEnc (allL rr nm) x) W1 fun e W' =>
   (e=.returned (.bool true)∧J (pre++[x]) W'∧CellsFrom n₀ W1 W')∨(e=.returned (.bool false)∧Jx (pre++[x]) W'))
  (hb1:W.cell? ⟨b1,0,none⟩=some (.pointer pv))(hb2:Blk W b2 9 #[.string nm])(hn₀:n₀≤W.heap.size)(hnb:n₀≤b2)(h0:J [] W)
  (hbu:Calls Tryz.prog 17 #[.pointer pv] W (LBunPost rr W))(hrr:rr.length≤513)(hvl:∀ b∈rr,b.2.length≤16384) :
  CallsIn Fence.wide n Tryz.prog 39 #[.func (.yield lp) #[] #[],.pointer (some ⟨b1,0,none⟩),.pointer (some ⟨b2,0,none⟩)] W fun e W'=>(∃ v,e=.returned v) ∧
   ((∃ ys,(Asc (allL rr nm).length ys∧ys.length=(allL rr nm).length)∧J ys W')∨(∃ pre,(Asc (allL rr nm).length pre∧0<pre.length)∧Jx pre W')):=by
 have HY:=Lib.hid hY
 have HJ:=Lib.hid hJ
 have HBU:=Lib.hid hbu
 have HVL:=Lib.hid hvl
 have HB2:=Lib.hid hb2
 have hfl:=fun (A:Option Addr) (m c:Nat) (W:World)=>(show (Instr.field 24 (.agg #[.slice A m c]) 0).run Tryz.prog W=.ok (.slice A m c) W from by kernel_rfl)
 clear hY hJ hbu hvl hb2
 have HAT:=Lib.hid (fun j q (b:PStep) (x:PKey) (h1:rr[j]?=some b) (h2:b.1=nm) (h3:b.2[q]?=some x)=>allL_at h1 h2 h3)
 have HCA:=Lib.hid (cntA_all rr nm)
 generalize allL rr nm=L at *
 refine callsIn_of_wp Tryz.func39 rfl trivial ?_ rfl
 simp only [Tryz.ntmps39,List.size_toArray,List.length_cons,List.length_nil,Nat.reduceAdd,Nat.reduceSub,Array.replicate_succ,Array.replicate_zero,List.push_toArray,List.append_toArray,List.nil_append,List.cons_append]
 gi_wp2_with (refine ⟨trivial,?_⟩;gi_at_call 17;go_loud (refine (callsIn_wide.2 HBU.out).mono ?_;rintro e w1 ⟨A,c,us,rfl,ho,hb⟩;obtain ⟨nr,hnr⟩:∃ nr,rr.length=nr:=⟨_,rfl⟩;rw [hnr];rw [hnr] at ho hrr;have HNR:=Lib.hid hnr;have HO:=Lib.hid ho;have HB1:=Lib.hid hb;clear ho hb hnr))
 have hnr9:(nr:Int)≤513:=by omega
 have HJ0:=Lib.hid (show J [] w1 from HJ.out _ _ _ none h0 (grown_of_below HB1.out) (fun r e=>by cases e))
 have HB20:=Lib.hid (HB2.out.below HB1.out HB2.out.lt)
 clear h0 hb1
 gi_loopw [12] (fun iv wr=>∃(j:Nat) (pre:List (Fin L.length)),iv=.int .i64 (j:Int)∧j≤nr∧pre.length=cntA rr nm j∧Asc L.length pre∧J pre wr∧BunOwn wr W.heap.size (.slice A nr c) rr us∧Blk wr b2 9 #[.string nm]) (fun iv _=>nr-(Lib.intOf iv).toNat)
 case atStart=>exact ⟨0,[],rfl,Nat.zero_le _,rfl,asc_nil _,HJ0.out,HO.out,HB20.out⟩
 case round =>
  obtain ⟨j,pre,rfl,hj,hpl,hA,hJs,hOw,hBl⟩:=hrel
  have HA:=Lib.hid (And.intro hA hpl)
  have HOW:=Lib.hid hOw
  have HJS:=Lib.hid hJs
  have HBL:=Lib.hid hBl
  clear hA hpl hOw hJs hBl
  by_cases hlt:j<nr
  ·have hq1:(j:Int)<(nr:Int):=by omega
   have hq0:(0:Int)≤(j:Int):=by omega
   obtain ⟨b,hb⟩:∃ b,rr[j]?=some b:=⟨_,List.getElem?_eq_getElem (by rw [HNR.out];exact hlt)⟩
   obtain ⟨kv,hkv⟩:∃ kv,us[j]?=some kv:=⟨_,List.getElem?_eq_getElem (by rw [HOW.out.2.1,HNR.out];exact hlt)⟩
   obtain ⟨Av,cv,rfl,-,-,hvr⟩:=own_form (HOW.out.2.2 j b kv hb hkv)
   have hso:=HOW.out.1
   rw [HNR.out] at hso
   obtain ⟨bs,rfl,hbs1,hbs2⟩:=own_spot hso (by omega)
   have hst:=stepCells_at rr us j b _ hb hkv
   have z0:wr.cell? ⟨bs,j*2,none⟩=some (.string b.1):=own_cell hso (j*2) _ hst.1
   have z1:wr.cell? ⟨bs,j*2+1,none⟩=some (.slice Av b.2.length cv):=own_cell hso (j*2+1) _ hst.2
   have HBB:=Lib.hid hb
   have HKV:=Lib.hid hkv
   have HCN:=Lib.hid (cntA_next (nm:=nm) hb)
   obtain ⟨nv,hnv⟩:∃ nv,b.2.length=nv:=⟨_,rfl⟩
   rw [hnv] at z1 HCN HKV
   have hnv9:(nv:Int)≤16384:=by have:=HVL.out b (List.mem_of_getElem? hb);omega
   have HNV:=Lib.hid hnv
   obtain ⟨bn,hbn⟩:∃ bn,b.1=bn:=⟨_,rfl⟩
   rw [hbn] at z0 HCN
   have HBN:=Lib.hid hbn
   have hba:=(Below.refl wr.heap.size wr).alloc (Nat.le_refl _) (.cells #[.string bn,.slice Av nv cv] 41)
   have HGK:=Lib.hid (Blk.new wr 41 #[.string bn,.slice Av nv cv])
   have HJ1:=Lib.hid (show J pre (wr.alloc (.cells #[.string bn,.slice Av nv cv] 41)) from HJ.out _ _ _ none HJS.out (World.grownBy_alloc wr _ none) (fun r e=>by cases e))
   have HO1:=Lib.hid (HOW.out.on hba)
   have HB1:=Lib.hid (HBL.out.below hba HBL.out.lt)
   clear hb hkv hvr hso hst hnv hbn hba hbs1 hbs2
   gi_upto_region 3 with (fail)
   clear z0 z1 HJS HOW HBL
   generalize wr.alloc (.cells #[.string bn,.slice Av nv cv] 41)=w2 at *
   obtain ⟨gk,hgk⟩:∃ gk,wr.heap.size=gk:=⟨_,rfl⟩
   rw [hgk] at HGK
   (try rw [hgk])
   clear hgk
   have y0:w2.cell? ⟨gk,0,none⟩=some (.string bn):=HGK.out.cell 0
   have y1:w2.cell? ⟨gk,1,none⟩=some (.slice Av nv cv):=HGK.out.cell 1
   have y2:w2.cell? ⟨b2,0,none⟩=some (.string nm):=HB1.out.cell 0
   by_cases he:bn=nm
   ·have heq:(bn.toList == nm.toList)=true:=by rw [he];simp
    rw [if_pos he] at HCN
    have HE:=Lib.hid he
    clear he
    gi_wp2
    clear y0 y1 y2
    gi_loopw [23] (fun iv wr=>∃(q:Nat) (pre:List (Fin L.length)),iv=.int .i64 (q:Int)∧q≤nv∧pre.length=cntA rr nm j+q∧Asc L.length pre∧J pre wr∧BunOwn wr W.heap.size (.slice (some ⟨bs,0,none⟩) nr c) rr us∧Blk wr b2 9 #[.string nm]) (fun iv _=>nv-(Lib.intOf iv).toNat)
    case atStart=>exact ⟨0,pre,rfl,Nat.zero_le _,HA.out.2,HA.out.1,HJ1.out,HO1.out,HB1.out⟩
    case round =>
     obtain ⟨q,pre2,rfl,hq,hpl,hA,hJs,hOw,hBl⟩:=hrel
     have HA2:=Lib.hid (And.intro hA hpl)
     have HOW2:=Lib.hid hOw
     have HJS2:=Lib.hid hJs
     have HBL2:=Lib.hid hBl
     clear hA hpl hOw hJs hBl
     by_cases hql:q<nv
     ·have hr1:(q:Int)<(nv:Int):=by omega
      have hr0:(0:Int)≤(q:Int):=by omega
      obtain ⟨x,hx⟩:∃ x,b.2[q]?=some x:=⟨_,List.getElem?_eq_getElem (by rw [HNV.out];exact hql)⟩
      have hvo:=HOW2.out.2.2 j b _ HBB.out HKV.out
      rw [HNV.out] at hvo
      obtain ⟨bv2,rfl,hbv1,hbv2⟩:=own_spot hvo (by omega)
      have hpc:=pairCells_at b.2 q x hx
      have z0:wr.cell? ⟨bv2,q*2,none⟩=some (.string x.1):=own_cell hvo (q*2) _ hpc.1
      have z1:wr.cell? ⟨bv2,q*2+1,none⟩=some (.string x.2):=own_cell hvo (q*2+1) _ hpc.2
      have hLx:=HAT.out j q b x HBB.out (HBN.out.trans HE.out) hx
      obtain ⟨hll,hlx⟩:=List.getElem?_eq_some_iff.1 hLx
      have hba:=(Below.refl wr.heap.size wr).alloc (Nat.le_refl _) (.cells #[.string x.1,.string x.2] 71)
      have hJ2:J pre2 (wr.alloc (.cells #[.string x.1,.string x.2] 71)):=HJ.out _ _ _ none HJS2.out (World.grownBy_alloc wr _ none) (fun r e=>by cases e)
      have hYY:=HY.out pre2 ⟨cntA rr nm j+q,hll⟩ _ hJ2 (by rw [HA2.out.2];exact hll)
      have he2:nvEnc L ⟨cntA rr nm j+q,hll⟩=#[.string x.1,.string x.2]:=by
       unfold nvEnc
       rw [show L.get ⟨cntA rr nm j+q,hll⟩=x from hlx]
      rw [he2] at hYY
      have HGV:=Lib.hid (Blk.new wr 71 #[.string x.1,.string x.2])
      have HO3:=Lib.hid (HOW2.out.on hba)
      have HB3:=Lib.hid (HBL2.out.below hba HBL2.out.lt)
      have HAS:=Lib.hid (asc_snoc HA2.out.1 (x:=⟨cntA rr nm j+q,hll⟩) HA2.out.2.symm)
      have HLL:=Lib.hid (show (pre2++[(⟨cntA rr nm j+q,hll⟩:Fin L.length)]).length=cntA rr nm j+(q+1) from by rw [List.length_append,HA2.out.2];rfl)
      obtain ⟨xp,hxp⟩:∃ xp,x.1=xp:=⟨_,rfl⟩
      obtain ⟨xt,hxt⟩:∃ xt,x.2=xt:=⟨_,rfl⟩
      rw [hxp] at z0 hYY HGV HO3 HB3
      rw [hxt] at z1 hYY HGV HO3 HB3
      obtain ⟨fn,tmps,assign,body,hy,hRR⟩:=hYY
      have HRR:=Lib.hid hRR
      generalize (⟨cntA rr nm j+q,hll⟩:Fin L.length)=fi at *
      clear hx hvo hpc hLx hlx hba hJ2 he2 hxp hxt hRR hbv1 hbv2
      gi_upto_region 7 with (fail)
      clear z0 z1
      generalize wr.alloc (.cells #[.string xp,.string xt] 71)=w3 at *
      obtain ⟨gv,hgv⟩:∃ gv,wr.heap.size=gv:=⟨_,rfl⟩
      rw [hgv] at HGV
      (try rw [hgv])
      clear hgv
      have y3:w3.cell? ⟨gv,0,none⟩=some (.string xp):=HGV.out.cell 0
      have y4:w3.cell? ⟨gv,1,none⟩=some (.string xt):=HGV.out.cell 1
      gi_wp2
      refine HRR.out.mono ?_
      rintro e W3 (⟨rfl,hJ3,hk3⟩ | ⟨rfl,hJx3⟩)
      ·have HF:=Lib.hid (And.intro hJ3 (And.intro (HO3.out.from_ hn₀ hk3) (show Blk W3 b2 9 #[.string nm] from hk3.2 b2 _ _ _ hnb HB3.out)))
       clear hJ3 hk3 y3 y4
       gi_wp2
       go_roundw
       case rel=>exact ⟨q+1,pre2++[fi],by go_num,hql,HLL.out,HAS.out,HF.out.1,HF.out.2.1,HF.out.2.2⟩
       case measure=>simp [Lib.intOf] <;> omega
      ·have HF:=Lib.hid hJx3
       clear hJx3 y3 y4
       gi_wp2
       refine bodyPost_ret (results_none rfl _ _ _) rfl ?_
       exact ⟨⟨_,rfl⟩,.inr ⟨pre2++[fi],⟨HAS.out,by simp⟩,HF.out⟩⟩
     ·obtain rfl:nv=q:=by omega
      have hr:¬ (nv:Int)<(nv:Int):=by omega
      gi_wp2
      go_roundw
      case rel=>exact ⟨j+1,pre2,by go_num,hlt,by rw [HCN.out];exact HA2.out.2,HA2.out.1,HJS2.out,HOW2.out,HBL2.out⟩
      case measure=>simp [Lib.intOf] <;> omega
   ·have heq:(bn.toList == nm.toList)=false:=by rw [ba_beq];simpa using he
    rw [if_neg he] at HCN
    clear he
    gi_wp2
    clear y0 y1 y2
    go_roundw
    case rel=>exact ⟨j+1,pre,by go_num,hlt,by rw [HCN.out];exact HA.out.2,HA.out.1,HJ1.out,HO1.out,HB1.out⟩
    case measure=>simp [Lib.intOf] <;> omega
  ·obtain rfl:nr=j:=by omega
   have hq:¬ (nr:Int)<(nr:Int):=by omega
   have HEN:=Lib.hid (show pre.length=L.length from by rw [HA.out.2,←HNR.out,HCA.out])
   gi_wp2
   go_end0
   exact ⟨⟨_,rfl⟩,.inl ⟨pre,⟨HA.out.1,HEN.out⟩,HJS.out⟩⟩
theorem all1_stops (n:Nat)(hn:1≤n)(b1 b2 n₀:Nat)(pv:Option Addr)(nm:ByteArray)(rr:List PStep)(w:World)(hb1:w.cell? ⟨b1,0,none⟩=some (.pointer pv))(hb2:Blk w b2 9 #[.string nm])(hn₀:n₀≤w.heap.size)(hnb:n₀≤b2)
  (hbu:∀ W,Below w.heap.size w W→Calls Tryz.prog 17 #[.pointer pv] W (LBunPost rr W))(hrr:rr.length≤513)(hvl:∀ b∈rr,b.2.length≤16384) :
  SeqStopsK Fence.wide n Tryz.prog 39 #[.pointer (some ⟨b1,0,none⟩),.pointer (some ⟨b2,0,none⟩)] (nvEnc (allL rr nm)) (CellsFrom n₀) (fun ys=>Asc (allL rr nm).length ys∧ys.length=(allL rr nm).length) (fun pre=>Asc (allL rr nm).length pre∧0<pre.length) (allL rr nm).length w:=fun lp J Jx W hW hJ hJx hY h0 =>
 all1_in n hn lp b1 b2 n₀ pv nm rr J Jx W hJ hY ((hW.cell (p:=⟨b1,0,none⟩) (World.block_lt_of_cell? _ _ hb1)).trans hb1) (hb2.below hW hb2.lt) (Nat.le_trans hn₀ hW.size) hnb h0 (hbu W hW) hrr hvl
end
end Go.Proofs.YthdldooilcbmlaaGreatDoor
