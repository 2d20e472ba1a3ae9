/-
  Texts of mine, joined: BunOpen, BunRdG, LoadB, BunSrtP, SortVLay, BunSortS, BunSortF, BunSame, BunAsk2. The conditions stand with each.
-/
import Derived.Test.YthdldooilcbmlaaGreatDoorK10
import Derived.Test.YthdldooilcbmlaaGreatDoorK05
import Derived.Test.YthdldooilcbmlaaGreatDoorK11
import Derived.Test.YthdldooilcbmlaaGreatDoorK06
import Derived.Shelf.SlSortCmp.WholeK
import Derived.Shelf.Small.Strs
import Derived.Test.YthdldooilcbmlaaGreatDoorProg
import Derived.Test.YthdldooilcbmlaaGreatDoorK08
import Derived.Laws.ResultCell
import Derived.DeepKeys4
import Derived.Laws.StructEq
set_option linter.unusedVariables false
set_option linter.unusedSimpArgs false
namespace Go.Proofs.YthdldooilcbmlaaGreatDoor
section
open Go.RowKit

/-- A bundle that can be played in time is that small. -/
def CutSm (l:List PStep):Prop:=l.length≤11∧∀ b∈l,b.2.length≤30
theorem sum_le {α:Type}{f:α→Nat}{c:Nat}:∀ {l:List α},(∀ x∈l,f x≤c)→(l.map f).sum≤c*l.length
 | [],_=>Nat.le_refl _
 | x::r,h=>by
  have ih:=sum_le (f:=f) (c:=c) (l:=r) fun y hy=>h y (by simp [hy])
  have hx:=h x (by simp)
  rw [List.map_cons,List.sum_cons,List.length_cons,Nat.mul_add]
  omega
theorem few_words30:∀(l:List PStep),(∀ b∈l,b.2.length≤30)→(wordsB l).length≤91*l.length∧(pathsB l).length≤30*l.length
 | [],_=>⟨Nat.le_refl _,Nat.le_refl _⟩
 | b::r,h=>by
  have ih:=few_words30 r fun c hc=>h c (by simp [hc])
  have hb:=h b (by simp)
  have hw:∀ vs:List PKey,(vs.flatMap fun v=>[grp v.1,v.1,v.2]).length=3*vs.length:=by
   intro vs
   induction vs with
   | nil=>rfl
   | cons x r ih=>rw [List.flatMap_cons,List.length_append,ih];simp;omega
  unfold wordsB pathsB at ih ⊢
  simp only [List.flatMap_cons,List.length_append,List.length_cons,List.length_map,hw]
  omega
theorem few_tabs30 (T P:List ByteArray):∀(l:List PStep),(∀ b∈l,b.2.length≤30)→(allTabs T P l).length≤30*l.length∧∀ t∈allTabs T P l,t.length≤30
 | [],_=>⟨Nat.le_refl _,by simp [allTabs]⟩
 | b::r,h=>by
  have ih:=few_tabs30 T P r fun c hc=>h c (by simp [hc])
  have hb:=h b (by simp)
  have hg:=few_groups b.2
  unfold allTabs at ih ⊢
  refine ⟨by simp only [List.flatMap_cons,List.length_append,List.length_map,List.length_cons];omega,fun t ht=>?_⟩
  rw [List.flatMap_cons,List.mem_append] at ht
  rcases ht with ht | ht
  ·obtain ⟨g,-,rfl⟩:=List.mem_map.1 ht
   unfold rowsB
   rw [List.length_map]
   exact Nat.le_trans (List.length_filter_le _ _) hb
  ·exact ih.2 t ht
theorem bytes_len (l:List PStep):(bytesB l).length=lenB l+4:=by
 unfold bytesB
 rw [List.length_append,body_len,le_len]
theorem enc_fits {l:List PStep}(h:(checkB l).1=0)(hs:CutSm l):(bytesB l).length≤16777216:=by
 rw [bytes_len]
 unfold lenB
 have h1:=few_words30 l hs.2
 have h2:=few_tabs30 (textsP l) (pathsP l) l hs.2
 have h3:=hs.1
 have a1:=sum_le (f:=fun s:ByteArray=>4+s.size) (c:=4100) (l:=textsP l) (fun s hs=>by have:=texts_small h s hs;omega)
 have a2:=sum_le (f:=fun t:List RowI=>4+8*t.length) (c:=244) (l:=tabsB l) (fun t ht=>by have:=h2.2 t ((poolL_mem _ _).1 ht);omega)
 have a3:=sum_le (f:=fun b:PStep=>8+8*(groupsB b.2).length) (c:=248) (l:=l) (fun b hb=>by have:=few_groups b.2;have:=hs.2 b hb;omega)
 have b1:=poolL_len (lt:=bl) (wordsB l)
 have b2:=poolL_len (lt:=bl) (pathsB l)
 have b3:=poolL_len (lt:=tl) (allTabs (textsP l) (pathsP l) l)
 have c1:(textsP l).length≤91*l.length:=Nat.le_trans b1 h1.1
 have c2:(pathsP l).length≤30*l.length:=Nat.le_trans b2 h1.2
 have c3:(tabsB l).length≤30*l.length:=Nat.le_trans b3 h2.1
 omega
end
section
open Go.RowKit

set_option maxRecDepth 100000 in
theorem open_bundle {H:Type}{enc:TypeId×Value→H}{v0:Value}{d0:DataW H}{p0:List MemPlace}{base0:Nat}{w:World}(hv0:Value.okWide Tryz.prog w .any base0 24 v0)(w0:DataW.Trod enc Tryz.prog w 0 (fun _=>true) true 24 v0 d0 p0)(hwt0:∀ n∈d0.weights Tryz.prog 24,n≤140737488351232) :
  ∃(u:Value) (l:List PStep) (vs:List Value),v0=.agg #[u]∧StepsR w u l vs∧BunIn l :=
 bundle_of_trod (tb:=24) (t:=22) (e:=41) (t2:=39) (e2:=71) Tryz.underlying24 rfl rfl (by kernel_rfl) (by kernel_rfl) Tryz.underlying22 Tryz.underlying41 (by kernel_rfl) (by kernel_rfl) (by kernel_rfl) Tryz.underlying9 rfl Tryz.underlying39 Tryz.underlying71 (by kernel_rfl) (by kernel_rfl) (by kernel_rfl) Tryz.underlying9 Tryz.underlying9 hwt0 hv0 w0
end
section
open Go.RowKit

/-- Books of the call's own, at B or above, below C. -/
def GotO (W:World)(B C:Nat)(u:Value)(T:List PStep)(us:List Value):Prop:=BunOwn W B u T us∧(∀ k,u.ownBlock=some k→k<C)∧∀ kv∈us,∀ k,kv.ownBlock=some k→k<C
theorem GotO.nil (W:World)(B C:Nat):GotO W B C (.slice none 0 0) [] []:=⟨BunOwn.nil W B,fun k h=>by simp [Value.ownBlock] at h,fun x hx=>by cases hx⟩
theorem bunown_at {W:World}{B:Nat}{u:Value}{T:List PStep}{us:List Value}(h:BunOwn W B u T us){kv:Value}(hk:kv∈us):∃ b∈T,W.ownsRow B 71 2 kv b.2.length (pairCells b.2):=by
 obtain ⟨i,hi,rfl⟩:=List.getElem_of_mem hk
 have hl:i<T.length:=by rw [←h.2.1];exact hi
 exact ⟨_,List.getElem_mem hl,h.2.2 i _ _ (List.getElem?_eq_getElem hl) (List.getElem?_eq_getElem hi)⟩
theorem GotO.on {W W':World}{B C:Nat}{u:Value}{T:List PStep}{us:List Value}(h:GotO W B C u T us)(hb:Below W.heap.size W W'):GotO W' B C u T us:=⟨h.1.on hb,h.2⟩
/-- Kept where a block below B or from C on turns. -/
theorem GotO.kept {W W':World}{B C:Nat}{u:Value}{T:List PStep}{us:List Value}{row:Option Nat}(h:GotO W B C u T us)(hg:W.grownBy W' row)(hr:∀ k,row=some k→k<B∨C≤k):GotO W' B C u T us:=by
 refine ⟨⟨own_stays2 h.1.1 hg fun k hk e=>?_,h.1.2.1,fun i b kv h1 h2=>own_stays2 (h.1.2.2 i b kv h1 h2) hg fun k hk e=>?_⟩,h.2⟩
 ·have h1:=hr k e
  have h2:=(h.1.1.lt k hk).1
  have h3:=h.2.1 k hk
  omega
 ·have h3:=hr k e
  have h4:=((h.1.2.2 i b kv h1 h2).lt k hk).1
  have h5:=h.2.2 kv (List.mem_of_getElem? h2) k hk
  omega
theorem GotO.up {W:World}{B C:Nat}{u:Value}{T:List PStep}{us:List Value}(h:GotO W B C u T us):GotO W B W.heap.size u T us:=by
 refine ⟨h.1,fun k hk=>(h.1.1.lt k hk).2,fun kv hkv k hk=>?_⟩
 obtain ⟨b,-,h1⟩:=bunown_at h.1 hkv
 exact (h1.lt k hk).2
theorem GotO.push {W W':World}{B C:Nat}{u u' kv:Value}{T:List PStep}{us:List Value}{b:PStep}{n m:Nat}(h:GotO W B C u T us)(hn:T.length=n)(hr:W.ownsRow C 71 2 kv m (pairCells b.2))(hm:b.2.length=m)(hC:B≤C)(hown:W'.ownsRow B 41 2 u' (n+1) (stepCells T us++[.string b.1,kv]))(hg:W.grownBy W' u.ownBlock):GotO W' B W'.heap.size u' (T++[b]) (us++[kv]):=by
 subst hm
 exact GotO.up (C:=W'.heap.size) ⟨h.1.push b hn (own_base hr hC) hown hg,fun k hk=>(hown.lt k hk).2,fun x hx k hk=>by
  rcases List.mem_append.1 hx with hx | hx
  ·obtain ⟨c,-,h1⟩:=bunown_at h.1 hx
   exact Nat.lt_of_lt_of_le (h1.lt k hk).2 hg.size
  ·rw [List.mem_singleton.1 hx] at hk
   exact Nat.lt_of_lt_of_le (hr.lt k hk).2 hg.size⟩
theorem book_run (T P:List ByteArray)(Y:List (List RowI))(b:PStep)(R:List UInt8):bookBy T P Y b++R=le 4 (idx T b.1)++(le 4 (groupsB b.2).length++Run (grpBy T P Y b) (groupsB b.2) R 0):=by
 unfold bookBy Run grpBy
 simp only [List.drop_zero,List.append_assoc]
theorem pairCells_snoc (l:List PKey)(v:PKey):pairCells (l++[v])=pairCells l++[.string v.1,.string v.2]:=by
 unfold pairCells
 rw [List.flatMap_append]
 simp
section
variable {w5 W W':World} {g c bp bq D gb C:Nat} {A:Option Addr} {X rest:List UInt8} {lv pv tv uv:Value} {T P:List ByteArray} {ps:List (Value×List RowI)} {Tg:List PStep} {us:List Value}
end
/-- The Book under way. -/
def RdBook (W:World)(gk:Nat)(nm:ByteArray)(vv:Value)(vs:List PKey):Prop:=Blk W gk 41 #[.string nm,vv]∧W.ownsRow (gk+1) 71 2 vv vs.length (pairCells vs)
theorem RdBook.on {W W':World}{gk:Nat}{nm:ByteArray}{vv:Value}{vs:List PKey}(h:RdBook W gk nm vv vs)(hb:Below W.heap.size W W'):RdBook W' gk nm vv vs:=⟨h.1.below hb h.1.lt,own_more h.2 hb⟩
/-- A value more. -/
theorem RdBook.put {W W':World}{gk n:Nat}{nm p t:ByteArray}{vv v':Value}{vs:List PKey}(h:RdBook W gk nm vv vs)(hn:vs.length=n)(hown:W'.ownsRow (gk+1) 71 2 v' (n+1) (pairCells vs++[.string p,.string t]))(hg:W.grownBy W' vv.ownBlock):RdBook (W'.setCell ⟨gk,1,none⟩ v') gk nm v' (vs++[(p,t)]):=by
 subst hn
 refine ⟨(h.1.grown hg (fun e=>by have:=(h.2.lt gk e.symm).1;omega)).set_ 1 v',?_⟩
 rw [List.length_append,pairCells_snoc]
 exact own_stays2 hown (grown_set W' gk 1 v') fun k hk e=>by cases e;have:=(hown.lt _ hk).1;omega
end
section
open Go.RowKit

/-- The reader stands, with no error, ahead of these bytes. -/
def Sees (l:List UInt8)(s:RS)(rest:List UInt8):Prop:=s.2=0∧s.1≤l.length∧l.drop s.1=rest
theorem rdN_sees {l rest:List UInt8}{s:RS}{x:Nat}(h:Sees l s (le 4 x++rest))(hx:x<4294967296):(rdN l s).1=x∧Sees l (rdN l s).2 rest:=by
 obtain ⟨p,e⟩:=s
 obtain ⟨h1,h2,h3⟩:=h
 simp only at h1 h2 h3
 subst h1
 obtain ⟨h4,h5,h6⟩:=takeM_here h2 h3 (le_len 4 x)
 unfold rdN
 rw [show ((4:Nat):Int)=(4:Int) from rfl] at h4
 simp only
 rw [h4]
 exact ⟨by simp only [num_le];rw [Nat.mod_eq_of_lt (by omega)],rfl,h6,h5⟩
theorem Sees.len {l rest:List UInt8}{s:RS}(h:Sees l s rest):l.length-s.1=rest.length:=by rw [←h.2.2,List.length_drop]
theorem cntN_sees {l rest:List UInt8}{s:RS}{x size:Nat}(h:Sees l s (le 4 x++rest))(hx:x<4294967296)(hs:0<size)(hn:x*size≤rest.length):(cntN l size s).1=x∧Sees l (cntN l size s).2 rest:=by
 obtain ⟨h1,h2⟩:=rdN_sees h hx
 unfold cntN
 rw [h1,h2.len,if_neg (Nat.not_lt.2 ((Nat.le_div_iff_mul_le hs).2 hn))]
 exact ⟨h1,h2⟩
theorem skN_sees {l b rest:List UInt8}{s:RS}{n:Nat}(h:Sees l s (b++rest))(hb:b.length=n):Sees l (skN l n s) rest:=by
 obtain ⟨p,e⟩:=s
 obtain ⟨h1,h2,h3⟩:=h
 simp only at h1 h2 h3
 subst h1
 obtain ⟨h4,h5,h6⟩:=takeM_here h2 h3 hb
 unfold skN
 simp only
 rw [h4]
 exact ⟨rfl,h6,h5⟩
theorem run_len {α:Type}{f:α→List UInt8}{c:Nat}(R:List UInt8):∀ {L:List α},(∀ x∈L,c≤(f x).length)→L.length*c≤(Run f L R 0).length
 | [],_=>by simp
 | x::L,h=>by
  have h1:=run_len R (L:=L) fun y hy=>h y (List.mem_cons_of_mem _ hy)
  have h2:=h x List.mem_cons_self
  unfold Run at h1 ⊢
  simp only [List.drop_zero,List.flatMap_cons,List.length_append,List.length_cons,Nat.add_mul,Nat.one_mul] at h1 ⊢
  omega
/-- The text that a span says. -/
def textOf (l:List UInt8)(y:Nat×Nat):ByteArray:=str ((l.drop y.1).take (y.2-y.1))
theorem str_back2 (b:ByteArray):str b.data.toList=b:=by simp [str]
theorem textBy_run (x:ByteArray)(R:List UInt8):textBy x++R=le 4 x.size++(x.data.toList++R):=by unfold textBy;rw [List.append_assoc]
theorem rowBy_run (a b:Nat)(R:List UInt8):rowBy ((a:Int),(b:Int))++R=le 4 a++(le 4 b++R):=by
 unfold rowBy
 simp only [Int.toNat_natCast,List.append_assoc]
theorem grpBy_run (T P:List ByteArray)(Y:List (List RowI))(b:PStep)(g:ByteArray)(R:List UInt8):grpBy T P Y b g++R=le 4 (idx T g)++(le 4 (tix Y (rowsB T P b.2 g))++R):=by unfold grpBy;rw [List.append_assoc]
theorem pathBy_run (T:List ByteArray)(s:ByteArray)(R:List UInt8):pathBy T s++R=le 4 (idx T s)++R:=rfl
theorem stepX_is (l:List UInt8)(nP nT:Nat)(x:RS×Bool×List (Nat×Nat)):stepX l nP nT x=((iterN (stepR l nP nT) (cntN l 8 x.1).1 ((cntN l 8 x.1).2,x.2.1)).1,(iterN (stepR l nP nT) (cntN l 8 x.1).1 ((cntN l 8 x.1).2,x.2.1)).2,x.2.2++[((cntN l 8 x.1).2.1,(cntN l 8 x.1).2.1+8*(cntN l 8 x.1).1)]):=rfl
theorem bookG_is (l:List UInt8)(nT nX:Nat)(x:RS×Bool×List (Nat×List RowI)):bookG l nT nX x=iterN (stepG l nT nX) (cntN l 8 (rdN l x.1).2).1 ((cntN l 8 (rdN l x.1).2).2,x.2.1 && decide ((rdN l x.1).1<nT),[]):=rfl
theorem textsI {l R:List UInt8}{T:List ByteArray}{s:RS}(hT:∀ x∈T,x.size<4294967296)(h0:Sees l s (Run textBy T R 0)):∀ n,n≤T.length→Sees l (iterN (stepT l) n (s,[])).1 (Run textBy T R n)∧(iterN (stepT l) n (s,[])).2.map (textOf l)=T.take n
 | 0,_=>⟨h0,rfl⟩
 | n+1,hn=>by
  obtain ⟨h1,h2⟩:=textsI hT h0 n (by omega)
  have hx:T[n]?=some T[n]:=List.getElem?_eq_getElem (by omega)
  rw [run_step hx] at h1
  have hm:=hT _ (List.getElem_mem (show n<T.length by omega))
  generalize T[n]=x at *
  rw [textBy_run] at h1
  obtain ⟨h3,h4⟩:=cntN_sees (size:=1) h1 hm (by decide) (by rw [List.length_append];have:x.data.toList.length=x.size:=rfl;omega)
  refine ⟨?_,?_⟩
  ·show Sees l (skN l ((cntN l 1 (iterN (stepT l) n (s,[])).1).1:Int) (cntN l 1 (iterN (stepT l) n (s,[])).1).2) _
   rw [h3]
   exact skN_sees h4 rfl
  ·show ((iterN (stepT l) n (s,[])).2++[((cntN l 1 (iterN (stepT l) n (s,[])).1).2.1,(cntN l 1 (iterN (stepT l) n (s,[])).1).2.1+(cntN l 1 (iterN (stepT l) n (s,[])).1).1)]).map (textOf l)=_
   rw [List.map_append,h2,List.take_add_one,hx]
   congr 1
   simp only [List.map_cons,List.map_nil,Option.toList]
   unfold textOf
   simp only
   rw [h3,h4.2.2,Nat.add_sub_cancel_left]
   have e:(x.data.toList++Run textBy T R (n+1)).take x.size=x.data.toList:=List.take_left' rfl
   rw [e,str_back2]
theorem pathsI {l R:List UInt8}{T P:List ByteArray}{nT:Nat}{s:RS}(hT:T.length=nT)(hn:nT<4294967296)(hP:∀ x∈P,x∈T)(h0:Sees l s (Run (pathBy T) P R 0)):∀ n,n≤P.length→Sees l (iterN (stepP l nT) n (s,true,[])).1 (Run (pathBy T) P R n)∧(iterN (stepP l nT) n (s,true,[])).2.1=true∧(iterN (stepP l nT) n (s,true,[])).2.2=(P.take n).map (idx T)
 | 0,_=>⟨h0,rfl,rfl⟩
 | n+1,h=>by
  obtain ⟨h1,h2,h3⟩:=pathsI hT hn hP h0 n (by omega)
  have hx:P[n]?=some P[n]:=List.getElem?_eq_getElem (by omega)
  rw [run_step hx] at h1
  have hm:=idx_lt (hP _ (List.getElem_mem (show n<P.length by omega)))
  generalize P[n]=x at *
  rw [pathBy_run] at h1
  obtain ⟨h4,h5⟩:=rdN_sees h1 (by omega)
  refine ⟨h5,?_,?_⟩
  ·show ((iterN (stepP l nT) n (s,true,[])).2.1 && decide ((rdN l (iterN (stepP l nT) n (s,true,[])).1).1<nT))=true
   rw [h2,h4,decide_eq_true (by omega)]
   rfl
  ·show (iterN (stepP l nT) n (s,true,[])).2.2++[(rdN l (iterN (stepP l nT) n (s,true,[])).1).1]=_
   rw [h3,h4,List.take_add_one,hx,List.map_append]
   rfl
/-- A row within its lists. -/
def RowFit (nP nT:Nat)(r:RowI):Prop:=∃ a b:Nat,r=((a:Int),(b:Int))∧a<nP∧b<nT∧a<4294967296∧b<4294967296
theorem rowsI {l R:List UInt8}{t:List RowI}{nP nT:Nat}{s:RS}{b:Bool}(ht:∀ r∈t,RowFit nP nT r)(h0:Sees l s (Run rowBy t R 0)):∀ n,n≤t.length→Sees l (iterN (stepR l nP nT) n (s,b)).1 (Run rowBy t R n)∧(iterN (stepR l nP nT) n (s,b)).2=b
 | 0,_=>⟨h0,rfl⟩
 | n+1,h=>by
  obtain ⟨h1,h2⟩:=rowsI ht h0 n (by omega)
  have hx:t[n]?=some t[n]:=List.getElem?_eq_getElem (by omega)
  rw [run_step hx] at h1
  obtain ⟨x,y,e,hx1,hy1,hx2,hy2⟩:=ht _ (List.getElem_mem (show n<t.length by omega))
  rw [e,rowBy_run] at h1
  obtain ⟨h4,h5⟩:=rdN_sees h1 hx2
  obtain ⟨h6,h7⟩:=rdN_sees h5 hy2
  refine ⟨h7,?_⟩
  show (((iterN (stepR l nP nT) n (s,b)).2 && decide ((rdN l (iterN (stepR l nP nT) n (s,b)).1).1<nP)) && decide ((rdN l (rdN l (iterN (stepR l nP nT) n (s,b)).1).2).1<nT))=b
  rw [h2,h4,h6,decide_eq_true hx1,decide_eq_true hy1]
  simp
/-- A table's span says its rows. -/
def TabIs (l:List UInt8)(t:List RowI)(y:Nat×Nat):Prop:=y.2=y.1+8*t.length∧∀(q:Nat) (r:RowI),t[q]?=some r→num ((l.drop (y.1+8*q)).take 4)=r.1.toNat∧num ((l.drop (y.1+8*q+4)).take 4)=r.2.toNat
theorem rowBy_len (r:RowI):(rowBy r).length=8:=by unfold rowBy;rw [List.length_append,le_len,le_len]
theorem run_drop {l R:List UInt8}{t:List RowI}{p:Nat}(h:l.drop p=Run rowBy t R 0):∀ q,q≤t.length→l.drop (p+8*q)=Run rowBy t R q
 | 0,_=>h
 | q+1,hq=>by
  have ih:=run_drop h q (by omega)
  have hx:t[q]?=some t[q]:=List.getElem?_eq_getElem (by omega)
  rw [run_step hx] at ih
  rw [show p+8*(q+1)=p+8*q+8 by omega,←List.drop_drop,ih]
  exact List.drop_left' (rowBy_len _)
theorem tabIs_of {l R:List UInt8}{t:List RowI}{p:Nat}{nP nT:Nat}(ht:∀ r∈t,RowFit nP nT r)(h:l.drop p=Run rowBy t R 0):TabIs l t (p,p+8*t.length):=by
 refine ⟨rfl,fun q r hr=>?_⟩
 have hq:=(List.getElem?_eq_some_iff.1 hr).1
 have h1:=run_drop h q (by omega)
 rw [run_step hr] at h1
 obtain ⟨a,b,rfl,-,-,ha,hb⟩:=ht r (List.mem_of_getElem? hr)
 rw [rowBy_run] at h1
 simp only
 have h2:l.drop (p+8*q+4)=le 4 b++Run rowBy t R (q+1):=by
  rw [←List.drop_drop,h1]
  exact List.drop_left' (le_len 4 a)
 rw [h1,h2,List.take_left' (le_len 4 a),List.take_left' (le_len 4 b),num_le,num_le]
 exact ⟨by rw [Nat.mod_eq_of_lt (by omega)];rfl,by rw [Nat.mod_eq_of_lt (by omega)];rfl⟩
theorem tabBy_run (t:List RowI)(R:List UInt8):tabBy t++R=le 4 t.length++Run rowBy t R 0:=by
 unfold tabBy Run rowBy
 simp only [List.drop_zero,List.append_assoc]
theorem tabsI {l R:List UInt8}{Y:List (List RowI)}{nP nT:Nat}{s:RS}(hY:∀ t∈Y,t.length<4294967296∧∀ r∈t,RowFit nP nT r)(h0:Sees l s (Run tabBy Y R 0)):∀ n,n≤Y.length →
  Sees l (iterN (stepX l nP nT) n (s,true,[])).1 (Run tabBy Y R n)∧(iterN (stepX l nP nT) n (s,true,[])).2.1=true∧(iterN (stepX l nP nT) n (s,true,[])).2.2.length=n∧∀ j t y,j<n→Y[j]?=some t→(iterN (stepX l nP nT) n (s,true,[])).2.2[j]?=some y→TabIs l t y
 | 0,_=>⟨h0,rfl,rfl,fun j _ _ hj=>absurd hj (Nat.not_lt_zero _)⟩
 | n+1,h=>by
  obtain ⟨h1,h2,h3,h4⟩:=tabsI hY h0 n (by omega)
  have hx:Y[n]?=some Y[n]:=List.getElem?_eq_getElem (by omega)
  rw [run_step hx] at h1
  obtain ⟨ht1,ht2⟩:=hY _ (List.getElem_mem (show n<Y.length by omega))
  generalize Y[n]=t at *
  rw [tabBy_run] at h1
  obtain ⟨h5,h6⟩:=cntN_sees (size:=8) h1 ht1 (by decide) (run_len _ fun r _=>Nat.le_of_eq (rowBy_len r).symm)
  obtain ⟨h7,h8⟩:=rowsI (b:=true) ht2 h6 t.length (Nat.le_refl _)
  rw [run_end (Nat.le_refl _)] at h7
  have hp:(iterN (stepX l nP nT) (n+1) (s,true,[]))=((iterN (stepR l nP nT) t.length ((cntN l 8 (iterN (stepX l nP nT) n (s,true,[])).1).2,true)).1,(iterN (stepR l nP nT) t.length ((cntN l 8 (iterN (stepX l nP nT) n (s,true,[])).1).2,true)).2,(iterN (stepX l nP nT) n (s,true,[])).2.2++[((cntN l 8 (iterN (stepX l nP nT) n (s,true,[])).1).2.1,(cntN l 8 (iterN (stepX l nP nT) n (s,true,[])).1).2.1+8*t.length)]):=by
   show stepX l nP nT (iterN (stepX l nP nT) n (s,true,[]))=_
   rw [stepX_is,h5,h2]
  rw [hp]
  refine ⟨h7,h8,by simp only [List.length_append,List.length_singleton,h3],fun j u y hj hu hy=>?_⟩
  simp only at hy
  rcases Nat.lt_or_ge j n with hjn | hjn
  ·rw [List.getElem?_append_left (by omega)] at hy
   exact h4 j u y hjn hu hy
  ·obtain rfl:j=n:=by omega
   rw [hx] at hu
   cases hu
   rw [List.getElem?_append_right (by omega),h3,Nat.sub_self] at hy
   cases hy
   exact tabIs_of ht2 h6.2.2
/-- A Book's numbers. -/
def bookM (T P:List ByteArray)(Y:List (List RowI))(b:PStep):Nat×List RowI:=(idx T b.1,(groupsB b.2).map fun g=>((idx T g:Int),(tix Y (rowsB T P b.2 g):Int)))
def BookFit (T P:List ByteArray)(Y:List (List RowI))(b:PStep):Prop:=b.1∈T∧(groupsB b.2).length<4294967296∧∀ g∈groupsB b.2,g∈T∧rowsB T P b.2 g∈Y
theorem grpsI {l R:List UInt8}{T P:List ByteArray}{Y:List (List RowI)}{b:PStep}{nT nX:Nat}{s:RS}{c:Bool}(hT:T.length=nT)(hX:Y.length=nX)(hn:nT<4294967296∧nX<4294967296)(hb:BookFit T P Y b)(h0:Sees l s (Run (grpBy T P Y b) (groupsB b.2) R 0)):∀ n,n≤(groupsB b.2).length →
  Sees l (iterN (stepG l nT nX) n (s,c,[])).1 (Run (grpBy T P Y b) (groupsB b.2) R n)∧(iterN (stepG l nT nX) n (s,c,[])).2.1=c∧(iterN (stepG l nT nX) n (s,c,[])).2.2=((groupsB b.2).take n).map fun g=>((idx T g:Int),(tix Y (rowsB T P b.2 g):Int))
 | 0,_=>⟨h0,rfl,rfl⟩
 | n+1,h=>by
  obtain ⟨h1,h2,h3⟩:=grpsI (c:=c) hT hX hn hb h0 n (by omega)
  have hx:(groupsB b.2)[n]?=some (groupsB b.2)[n]:=List.getElem?_eq_getElem (by omega)
  rw [run_step hx] at h1
  obtain ⟨g1,g2⟩:=hb.2.2 _ (List.getElem_mem (show n<(groupsB b.2).length by omega))
  generalize (groupsB b.2)[n]=g at *
  have i1:=idx_lt g1
  have i2:=tix_lt g2
  rw [grpBy_run] at h1
  obtain ⟨h4,h5⟩:=rdN_sees h1 (by omega)
  obtain ⟨h6,h7⟩:=rdN_sees h5 (by omega)
  refine ⟨h7,?_,?_⟩
  ·show (((iterN (stepG l nT nX) n (s,c,[])).2.1 && decide ((rdN l (iterN (stepG l nT nX) n (s,c,[])).1).1<nT)) && decide ((rdN l (rdN l (iterN (stepG l nT nX) n (s,c,[])).1).2).1<nX))=c
   rw [h2,h4,h6,decide_eq_true (by omega),decide_eq_true (by omega)]
   simp
  ·show (iterN (stepG l nT nX) n (s,c,[])).2.2++[(((rdN l (iterN (stepG l nT nX) n (s,c,[])).1).1:Int),((rdN l (rdN l (iterN (stepG l nT nX) n (s,c,[])).1).2).1:Int))]=_
   rw [h3,h4,h6,List.take_add_one,hx,List.map_append]
   rfl
theorem grpBy_len (T P:List ByteArray)(Y:List (List RowI))(b:PStep)(g:ByteArray):(grpBy T P Y b g).length=8:=by unfold grpBy;rw [List.length_append,le_len,le_len]
theorem booksI {l R:List UInt8}{T P:List ByteArray}{Y:List (List RowI)}{L:List PStep}{nT nX:Nat}{s:RS}(hT:T.length=nT)(hX:Y.length=nX)(hn:nT<4294967296∧nX<4294967296)(hL:∀ b∈L,BookFit T P Y b)(h0:Sees l s (Run (bookBy T P Y) L R 0)):∀ n,n≤L.length →
  Sees l (iterN (stepK l nT nX) n (s,true,[])).1 (Run (bookBy T P Y) L R n)∧(iterN (stepK l nT nX) n (s,true,[])).2.1=true∧(iterN (stepK l nT nX) n (s,true,[])).2.2=(L.take n).map (bookM T P Y)
 | 0,_=>⟨h0,rfl,rfl⟩
 | n+1,h=>by
  obtain ⟨h1,h2,h3⟩:=booksI hT hX hn hL h0 n (by omega)
  have hx:L[n]?=some L[n]:=List.getElem?_eq_getElem (by omega)
  rw [run_step hx] at h1
  have hb:=hL _ (List.getElem_mem (show n<L.length by omega))
  generalize L[n]=b at *
  have i1:=idx_lt hb.1
  rw [book_run] at h1
  obtain ⟨h4,h5⟩:=rdN_sees h1 (by omega)
  obtain ⟨h6,h7⟩:=cntN_sees (size:=8) h5 hb.2.1 (by decide) (run_len _ fun g _=>Nat.le_of_eq (grpBy_len T P Y b g).symm)
  obtain ⟨h8,h9,h10⟩:=grpsI (c:=true) hT hX hn hb h7 (groupsB b.2).length (Nat.le_refl _)
  rw [run_end (Nat.le_refl _)] at h8
  rw [List.take_length] at h10
  have hg:bookG l nT nX (iterN (stepK l nT nX) n (s,true,[]))=iterN (stepG l nT nX) (groupsB b.2).length ((cntN l 8 (rdN l (iterN (stepK l nT nX) n (s,true,[])).1).2).2,true,[]):=by
   rw [bookG_is,h6,h2,h4,decide_eq_true (by omega)]
   rfl
  have hp:iterN (stepK l nT nX) (n+1) (s,true,[])=((bookG l nT nX (iterN (stepK l nT nX) n (s,true,[]))).1,(bookG l nT nX (iterN (stepK l nT nX) n (s,true,[]))).2.1,(iterN (stepK l nT nX) n (s,true,[])).2.2++[((rdN l (iterN (stepK l nT nX) n (s,true,[])).1).1,(bookG l nT nX (iterN (stepK l nT nX) n (s,true,[]))).2.2)]):=rfl
  rw [hp,hg]
  refine ⟨h8,h9,?_⟩
  simp only
  rw [h3,h4,h10,List.take_add_one,hx,List.map_append]
  rfl
/-- The body, piece by piece. -/
def bX (L:List PStep):List UInt8:=le 4 L.length++Run (bookBy (textsP L) (pathsP L) (tabsB L)) L [] 0
def bP (L:List PStep):List UInt8:=le 4 (tabsB L).length++Run tabBy (tabsB L) (bX L) 0
def bT (L:List PStep):List UInt8:=le 4 (pathsP L).length++Run (pathBy (textsP L)) (pathsP L) (bP L) 0
theorem body_run (L:List PStep):bodyB L=headB++(le 4 (textsP L).length++Run textBy (textsP L) (bT L) 0):=by
 unfold bodyB bT bP bX Run headB pathBy
 rw [show le 2 1=[1,0] from rfl]
 simp only [List.drop_zero,List.append_assoc,List.append_nil,List.cons_append,List.nil_append]
/-- The index of a bundle's bytes. -/
structure IdxIs (L:List PStep) (l:List UInt8) (i:IdxM):Prop where
 texts:i.texts.map (textOf l)=textsP L
 paths:i.paths=(pathsP L).map (idx (textsP L))
 nX:i.tabs.length=(tabsB L).length
 tabs:∀(j:Nat) (t:List RowI) (y:Nat×Nat),(tabsB L)[j]?=some t→i.tabs[j]?=some y→TabIs l t y
 books:i.books=L.map (bookM (textsP L) (pathsP L) (tabsB L))
theorem rows_fit {L:List PStep}(hs:BunSm L){t:List RowI}(ht:t∈tabsB L){r:RowI}(hr:r∈t):RowFit (pathsP L).length (textsP L).length r:=by
 have h1:=(poolL_mem (lt:=tl) _ _).1 ht
 unfold allTabs at h1
 obtain ⟨b,hb,h1⟩:=List.mem_flatMap.1 h1
 obtain ⟨g,-,rfl⟩:=List.mem_map.1 h1
 unfold rowsB at hr
 obtain ⟨v,hv,rfl⟩:=List.mem_map.1 hr
 have hv2:=(List.mem_filter.1 hv).1
 have i1:=idx_lt (show v.1∈pathsP L from (poolL_mem _ _).2 (paths_val hb hv2))
 have i2:=idx_lt (show v.2∈textsP L from (poolL_mem _ _).2 (words_val hb hv2).2.2)
 exact ⟨_,_,rfl,i1,i2,Nat.lt_trans i1 hs.2.2.1,Nat.lt_trans i2 hs.2.1⟩
theorem book_fit {L:List PStep}(hs:BunSm L){b:PStep}(hb:b∈L):BookFit (textsP L) (pathsP L) (tabsB L) b:=by
 refine ⟨(poolL_mem _ _).2 (words_name hb),hs.2.2.2.2.2.2 b hb,fun g hg=>⟨?_,(poolL_mem _ _).2 (List.mem_flatMap.2 ⟨b,hb,List.mem_map.2 ⟨g,hg,rfl⟩⟩)⟩⟩
 obtain ⟨v,hv,rfl⟩:=List.mem_map.1 ((poolL_mem (lt:=bl) _ _).1 hg)
 exact (poolL_mem _ _).2 (words_val hb hv).1
theorem idx_back {L:List PStep}(hs:BunSm L):IdxIs L (bodyB L) (idxM (bodyB L))∧(booksS (bodyB L)).2.1=true∧(booksS (bodyB L)).1.2=0∧(booksS (bodyB L)).1.1=(bodyB L).length∧(takeM (bodyB L) 0 0 6).1=headB:=by
 have hh:takeM (bodyB L) 0 0 6=(headB,6,0)∧(bodyB L).drop 6=_∧6≤(bodyB L).length:=takeM_here (p:=0) (n:=6) (Nat.zero_le _) (by rw [List.drop_zero];exact body_run L) rfl
 obtain ⟨hh1,hh2,hh3⟩:=hh
 generalize bodyB L=l at *
 obtain ⟨s0,s1,s2,s3,s4,s5,s6⟩:=id hs
 have c1:=cntN_sees (l:=l) (s:=(6,0)) (size:=4) ⟨rfl,hh3,hh2⟩ s1 (by decide) (run_len _ fun x _=>by unfold textBy;rw [List.length_append,le_len];omega)
 have t1:=textsI s4 c1.2 (textsP L).length (Nat.le_refl _)
 rw [run_end (Nat.le_refl _),List.take_length] at t1
 have eT:textsS l=iterN (stepT l) (textsP L).length ((cntN l 4 (6,0)).2,[]):=by unfold textsS cT;rw [c1.1]
 rw [←eT] at t1
 have nT:(textsS l).2.length=(textsP L).length:=by rw [←t1.2,List.length_map]
 clear eT c1 hh2 hh3
 unfold idxM booksS cK tabsS cX pathsS cP
 generalize textsS l=xT at *
 rw [nT]
 have c2:=cntN_sees (size:=4) t1.1 s2 (by decide) (run_len _ fun x _=>by unfold pathBy;rw [le_len];exact Nat.le_refl _)
 have p1:=pathsI (nT:=(textsP L).length) rfl s1 (fun x hx=>paths_words hx) c2.2 (pathsP L).length (Nat.le_refl _)
 rw [c2.1]
 generalize (cntN l 4 xT.1).2=s2' at *
 rw [run_end (Nat.le_refl _),List.take_length] at p1
 generalize iterN (stepP l (textsP L).length) (pathsP L).length (s2',true,[])=xP at *
 have nP:xP.2.2.length=(pathsP L).length:=by rw [p1.2.2,List.length_map]
 rw [nP,p1.2.1]
 have c3:=cntN_sees (size:=4) p1.1 s3 (by decide) (run_len _ fun x _=>by unfold tabBy;rw [List.length_append,le_len];omega)
 have hY:∀ t∈tabsB L,t.length<4294967296∧∀ r∈t,RowFit (pathsP L).length (textsP L).length r:=fun t ht=>⟨(s5 t ht).1,fun r hr=>rows_fit hs ht hr⟩
 have x1:=tabsI hY c3.2 (tabsB L).length (Nat.le_refl _)
 rw [c3.1]
 generalize (cntN l 4 xP.1).2=s3' at *
 rw [run_end (Nat.le_refl _)] at x1
 generalize iterN (stepX l (pathsP L).length (textsP L).length) (tabsB L).length (s3',true,[])=xX at *
 rw [x1.2.2.1,x1.2.1]
 have c4:=cntN_sees (size:=8) x1.1 s0 (by decide) (run_len _ fun b _=>by unfold bookBy;rw [List.length_append,List.length_append,le_len,le_len];omega)
 have k1:=booksI (nT:=(textsP L).length) (nX:=(tabsB L).length) rfl rfl ⟨s1,s3⟩ (fun b hb=>book_fit hs hb) c4.2 L.length (Nat.le_refl _)
 rw [c4.1]
 generalize (cntN l 8 xX.1).2=s4' at *
 rw [run_end (Nat.le_refl _),List.take_length] at k1
 generalize iterN (stepK l (textsP L).length (tabsB L).length) L.length (s4',true,[])=xK at *
 refine ⟨⟨t1.2,p1.2.2,x1.2.2.1,fun j t y ht hy=>x1.2.2.2 j t y (List.getElem?_eq_some_iff.1 ht).1 ht hy,k1.2.2⟩,k1.2.1,k1.1.1,?_,by rw [hh1]⟩
 have h1:=k1.1.len
 have h2:=k1.1.2.1
 simp only [List.length_nil] at h1
 omega
/-! What such an index tells. -/
section
variable {L:List PStep} {l:List UInt8} {i:IdxM}
theorem getD_map {α β:Type}{f:α→β}{m:List α}{n:Nat}{x:β}{d:α}(h:(m.map f)[n]?=some x):f (m.getD n d)=x:=by
 rw [List.getElem?_map] at h
 cases hh:m[n]? with
 | none=>rw [hh] at h;cases h
 | some y =>
  rw [hh] at h
  rw [List.getD_eq_getElem?_getD,hh]
  exact Option.some.inj h
theorem IdxIs.text (h:IdxIs L l i){n:Nat}{x:ByteArray}(hx:(textsP L)[n]?=some x):textM l i n=x:=by
 rw [←h.texts] at hx
 exact getD_map (f:=textOf l) (d:=(0,0)) hx
theorem IdxIs.textOf_idx (h:IdxIs L l i){x:ByteArray}(hx:x∈textsP L):textM l i (idx (textsP L) x)=x:=h.text (idx_get hx)
theorem IdxIs.path (h:IdxIs L l i){p:ByteArray}(hp:p∈pathsP L):i.paths.getD (idx (pathsP L) p) 0=idx (textsP L) p:=by
 rw [h.paths,List.getD_eq_getElem?_getD,List.getElem?_map,idx_get hp]
 rfl
theorem IdxIs.tab (h:IdxIs L l i){t:List RowI}(ht:t∈tabsB L):TabIs l t (i.tabs.getD (tix (tabsB L) t) (0,0)):=by
 have h1:=tix_get ht
 have h2:tix (tabsB L) t<i.tabs.length:=by rw [h.nX];exact tix_lt ht
 have h3:=List.getElem?_eq_getElem h2
 rw [List.getD_eq_getElem?_getD,h3]
 exact h.tabs _ t _ h1 h3
theorem IdxIs.nrows (h:IdxIs L l i){t:List RowI}(ht:t∈tabsB L):nrowsM i (tix (tabsB L) t)=t.length:=by
 unfold nrowsM
 rw [(h.tab ht).1]
 omega
theorem IdxIs.row (h:IdxIs L l i){t:List RowI}(ht:t∈tabsB L){q:Nat}{r:RowI}(hr:t[q]?=some r):rowM l i (tix (tabsB L) t) q=(r.1.toNat,r.2.toNat):=by
 obtain ⟨h1,h2⟩:=(h.tab ht).2 q r hr
 unfold rowM
 rw [h1,h2]
theorem IdxIs.rows (h:IdxIs L l i){b:PStep}(hb:b∈L){g:ByteArray}(hg:g∈groupsB b.2):rowsM l i (tix (tabsB L) (rowsB (textsP L) (pathsP L) b.2 g))=b.2.filter fun v=>decide (grp v.1=g):=by
 have ht:rowsB (textsP L) (pathsP L) b.2 g∈tabsB L:=(poolL_mem _ _).2 (List.mem_flatMap.2 ⟨b,hb,List.mem_map.2 ⟨g,hg,rfl⟩⟩)
 have hv:∀ v∈b.2,v.1∈pathsP L∧v.2∈textsP L:=fun v hv=>⟨(poolL_mem _ _).2 (paths_val hb hv),(poolL_mem _ _).2 (words_val hb hv).2.2⟩
 unfold rowsM
 rw [h.nrows ht]
 refine List.ext_getElem? fun q=>?_
 rw [List.getElem?_map]
 rcases Nat.lt_or_ge q (rowsB (textsP L) (pathsP L) b.2 g).length with hq | hq
 ·rw [List.getElem?_range hq]
  have hr:=List.getElem?_eq_getElem hq
  have hf:=hr
  unfold rowsB at hf
  rw [List.getElem?_map] at hf
  cases hh:(b.2.filter fun v=>decide (grp v.1=g))[q]? with
  | none=>rw [hh] at hf;cases hf
  | some v =>
   rw [hh] at hf
   have hf2:=Option.some.inj hf
   have hm:=hv v (List.mem_filter.1 (List.mem_of_getElem? hh)).1
   have h4:=h.row ht hr
   have h5:rowM l i (tix (tabsB L) (rowsB (textsP L) (pathsP L) b.2 g)) q=(idx (pathsP L) v.1,idx (textsP L) v.2):=by
    rw [h4]
    have e:(rowsB (textsP L) (pathsP L) b.2 g)[q]=((idx (pathsP L) v.1:Int),(idx (textsP L) v.2:Int)):=hf2.symm
    rw [e]
    rfl
   show some (valM l i (tix (tabsB L) (rowsB (textsP L) (pathsP L) b.2 g)) q)=some v
   unfold valM
   rw [h5]
   simp only
   rw [h.path hm.1,h.textOf_idx (paths_words hm.1),h.textOf_idx hm.2]
 ·rw [List.getElem?_eq_none (by rw [List.length_range];exact hq)]
  unfold rowsB at hq
  rw [List.length_map] at hq
  rw [List.getElem?_eq_none hq]
  rfl
theorem IdxIs.book (h:IdxIs L l i){b:PStep}(hb:b∈L):toldB l i (bookM (textsP L) (pathsP L) (tabsB L) b)=(b.1,regroup b.2):=by
 unfold toldB bookM
 simp only
 rw [h.textOf_idx ((poolL_mem _ _).2 (words_name hb)),List.flatMap_map]
 unfold regroup
 congr 1
 rw [List.flatMap_def,List.flatMap_def]
 congr 1
 refine List.map_congr_left fun g hg=>?_
 simp only [Int.toNat_natCast]
 exact h.rows hb hg
theorem IdxIs.told (h:IdxIs L l i):toldM l i=gotL L:=by
 unfold toldM gotL
 rw [h.books,List.map_map]
 exact List.map_congr_left fun b hb=>h.book hb
end
/-! A right bundle is modest. -/
theorem valsE_met:∀(l:List PKey) (a:ByteArray) (M:List ByteArray),(valsE l a M).1=0→M.Nodup→M.length≤16384→(valsE l a M).2.Nodup∧(valsE l a M).2.length≤16384∧(∀ q∈M,q∈(valsE l a M).2)∧∀ x∈l,x.1∈(valsE l a M).2
 | [],a,M,_,h1,h2=>⟨h1,h2,fun q hq=>hq,fun x hx=>by cases hx⟩
 | x::r,a,M,h,h1,h2=>by
  simp only [valsE] at h ⊢
  split at h
  ·rename_i hv
   rw [if_pos hv]
   have h3:(addM M x.1).length≤16384:=by
    rw [addM_len]
    split
    ·exact h2
    ·rename_i hm
     unfold valE at hv
     split at hv
     ·exact absurd hv (by decide)
     ·split at hv
      ·exact absurd hv (by decide)
      ·split at hv
       ·exact absurd hv (by decide)
       ·split at hv
        ·exact absurd hv (by decide)
        ·rename_i h4
         have h5:¬ M.length=16384:=fun e=>h4 (.inr ⟨by simpa using hm,e⟩)
         omega
   obtain ⟨g1,g2,g3,g4⟩:=valsE_met r x.1 (addM M x.1) h (addM_nodup h1 _) h3
   refine ⟨g1,g2,fun q hq=>g3 q ((addM_mem M x.1 q).2 (.inr hq)),fun y hy=>?_⟩
   rcases List.mem_cons.1 hy with rfl | hy
   ·exact g3 _ ((addM_mem M _ _).2 (.inl rfl))
   ·exact g4 y hy
  ·rename_i hv
   exact absurd h hv
theorem sub_len {a M:List ByteArray}(ha:RiseL bl a)(h:∀ p∈a,p∈M):a.length≤M.length:=by
 have h1:a=poolL bl (M.filter fun p=>hasT a p):=poolL_eq blT ha fun x=>by
  rw [List.mem_filter,hasT_iff]
  exact ⟨fun hx=>⟨h x hx,hx⟩,fun hx=>hx.2⟩
 have h2:=poolL_len (lt:=bl) (M.filter fun p=>hasT a p)
 rw [←h1] at h2
 exact Nat.le_trans h2 (List.length_filter_le _ _)
theorem booksE_met:∀(l:List PStep) (i:Nat) (prev:Option ByteArray) (M:List ByteArray),(booksE l i prev M).1=0→M.Nodup→M.length≤16384→∀ b∈l,b.2.length≤16384
 | [],_,_,_,_,_,_=>fun b hb=>by cases hb
 | c::r,i,prev,M,h,h1,h2=>by
  simp only [booksE] at h
  split at h
  ·split at h
   ·rename_i hv
    obtain ⟨g1,g2,-,g4⟩:=valsE_met c.2 _ M hv h1 h2
    have hr:=booksE_met r (i+1) (some c.1) _ h g1 g2
    intro b hb
    rcases List.mem_cons.1 hb with rfl | hb
    ·have h7:RiseL bl (b.2.map Prod.fst):=List.pairwise_map.2 (valsE_ok _ _ _ hv).1
     have h8:=sub_len h7 (M:=(valsE b.2 ByteArray.empty M).2) (fun p hp=>by
      obtain ⟨x,hx,rfl⟩:=List.mem_map.1 hp
      exact g4 x hx)
     rw [List.length_map] at h8
     omega
    ·exact hr b hb
   ·rename_i hv
    exact absurd h hv
  ·rename_i hn
   exact absurd h hn
theorem check_few {l:List PStep}(h:(checkB l).1=0):∀ b∈l,b.2.length≤16384:=by
 unfold checkB at h
 split at h
 ·exact absurd h (by decide)
 ·exact booksE_met l 0 none [] h List.nodup_nil (Nat.zero_le _)
theorem part_le {G:List ByteArray}(hG:G.Nodup):∀ vs:List PKey,((G.map fun g=>(vs.filter fun v=>decide (grp v.1=g)).length).sum)≤vs.length
 | []=>by
  have:∀ G:List ByteArray,((G.map fun g=>(([]:List PKey).filter fun v=>decide (grp v.1=g)).length).sum)=0:=by
   intro G
   induction G with
   | nil=>rfl
   | cons a r ih=>rw [List.map_cons,List.sum_cons,ih];rfl
  rw [this]
  exact Nat.le_refl _
 | v::vs=>by
  have ih:=part_le hG vs
  have h1:∀ G:List ByteArray,G.Nodup→((G.map fun g=>((v::vs).filter fun v=>decide (grp v.1=g)).length).sum)≤((G.map fun g=>(vs.filter fun v=>decide (grp v.1=g)).length).sum)+(if hasT G (grp v.1)=true then 1 else 0):=by
   intro G hG
   induction G with
   | nil=>simp
   | cons a r ih =>
    obtain ⟨ha,hr⟩:=List.nodup_cons.1 hG
    have ih:=ih hr
    simp only [List.map_cons,List.sum_cons,List.filter_cons] at ih ⊢
    by_cases e:grp v.1=a
    ·have hn:¬ hasT r (grp v.1)=true:=fun hh=>ha (by rw [←e];exact hasT_iff.1 hh)
     have hp:hasT (a::r) (grp v.1)=true:=hasT_iff.2 (by rw [e];exact List.mem_cons_self)
     rw [if_neg hn] at ih
     rw [if_pos (by simpa using e),if_pos hp,List.length_cons]
     omega
    ·rw [if_neg (by simpa using e)]
     by_cases e2:hasT r (grp v.1)=true
     ·have hp:hasT (a::r) (grp v.1)=true:=hasT_iff.2 (List.mem_cons_of_mem _ (hasT_iff.1 e2))
      rw [if_pos e2] at ih
      rw [if_pos hp]
      omega
     ·have hp:¬ hasT (a::r) (grp v.1)=true:=fun hh=>by
       rcases List.mem_cons.1 (hasT_iff.1 hh) with h | h
       ·exact e h
       ·exact e2 (hasT_iff.2 h)
      rw [if_neg e2] at ih
      rw [if_neg hp]
      omega
  have h2:=h1 G hG
  have h3:(if hasT G (grp v.1)=true then 1 else 0)≤1:=by split <;> omega
  rw [List.length_cons]
  omega
theorem modest_back {L:List PStep}{l:List UInt8}{i:IdxM}(hc:(checkB L).1=0)(h:IdxIs L l i):modestM i=true:=by
 obtain ⟨h1,-,-⟩:=checkB_ok hc
 have h2:=check_few hc
 unfold modestM
 rw [h.books,List.length_map,decide_eq_true h1,Bool.and_true,List.all_eq_true]
 intro k hk
 obtain ⟨b,hb,rfl⟩:=List.mem_map.1 hk
 unfold modestK
 rw [Bool.and_eq_true_iff]
 refine ⟨decide_eq_true ?_,decide_eq_true ?_⟩
 ·unfold rowSum bookM
  simp only [List.map_map]
  have e:(groupsB b.2).map ((fun g:RowI=>nrowsM i g.2.toNat) ∘ fun g=>((idx (textsP L) g:Int),(tix (tabsB L) (rowsB (textsP L) (pathsP L) b.2 g):Int)))=(groupsB b.2).map fun g=>(b.2.filter fun v=>decide (grp v.1=g)).length:=by
   refine List.map_congr_left fun g hg=>?_
   show nrowsM i ((tix (tabsB L) (rowsB (textsP L) (pathsP L) b.2 g):Nat):Int).toNat=_
   rw [Int.toNat_natCast,h.nrows ((poolL_mem _ _).2 (List.mem_flatMap.2 ⟨b,hb,List.mem_map.2 ⟨g,hg,rfl⟩⟩))]
   unfold rowsB
   rw [List.length_map]
  rw [e]
  have:=part_le (G:=groupsB b.2) (rise_nodup blT (poolL_rise blT _)) b.2
  have:=h2 b hb
  omega
 ·unfold bookM
  simp only
  rw [List.pairwise_map]
  refine List.Pairwise.imp_of_mem (fun {x y} hx hy hxy=>?_) (show RiseL bl (groupsB b.2) from poolL_rise blT _)
  have hw:∀ g∈groupsB b.2,g∈textsP L:=fun g hg=>by
   obtain ⟨v,hv,rfl⟩:=List.mem_map.1 ((poolL_mem (lt:=bl) _ _).1 hg)
   exact (poolL_mem _ _).2 (words_val hb hv).1
  have:=idx_mono (show RiseL bl (textsP L) from poolL_rise blT _) (hw x hx) (hw y hy) hxy
  simp only
  omega
/-- A right bundle's bytes can be read, and tell that bundle. -/
theorem read_backL {L:List PStep}(hc:(checkB L).1=0)(hs:BunSm L):readOk (bodyB L)=true∧IdxIs L (bodyB L) (idxM (bodyB L))∧toldM (bodyB L) (idxM (bodyB L))=gotL L:=by
 obtain ⟨h1,h2,h3,h4,h5⟩:=idx_back hs
 refine ⟨?_,h1,h1.told⟩
 unfold readOk
 rw [h2,h3,h4,h5,modest_back hc h1]
 simp
end
section
open Go.RowKit

/-- A bundle's values, each with its Book's name. -/
def flatB (l:List PStep):List (ByteArray×PKey):=l.flatMap fun b=>b.2.map fun v=>(b.1,v)
theorem flatB_mem {l:List PStep}{n:ByteArray}{v:PKey}:(n,v)∈flatB l↔v∈valsOf l n:=by
 rw [valsOf_mem]
 unfold flatB
 simp only [List.mem_flatMap,List.mem_map,Prod.mk.injEq]
 exact ⟨fun ⟨b,h1,u,h2,h3,h4⟩=>⟨b,h1,h3,h4 ▸ h2⟩,fun ⟨b,h1,h2,h3⟩=>⟨b,h1,v,h3,h2,rfl⟩⟩
/-- The text that was said first. -/
def saidF (L:List (ByteArray×PKey)):ByteArray×ByteArray→Option Value:=fun k=>(L.find? fun x=>decide ((x.1,x.2.1)=k)).map fun x=>.string x.2.2
theorem saidF_put {L:List (ByteArray×PKey)}{n:ByteArray}{v:PKey}(h:saidF L (n,v.1)=none):putMF (saidF L) (n,v.1) (.string v.2)=saidF (L++[(n,v)]):=by
 have h2:L.find? (fun x=>decide ((x.1,x.2.1)=(n,v.1)))=none:=by unfold saidF at h;rw [Option.map_eq_none_iff] at h;exact h
 funext k
 unfold putMF saidF
 rw [List.find?_append]
 by_cases e:k=(n,v.1)
 ·subst e
  rw [if_pos rfl,h2]
  simp
 ·rw [if_neg e]
  have e2:¬ (n,v.1)=k:=fun h=>e h.symm
  simp [e2]
theorem saidF_skip {L:List (ByteArray×PKey)}{n:ByteArray}{v:PKey}{t:Value}(h:saidF L (n,v.1)=some t):saidF (L++[(n,v)])=saidF L:=by
 funext k
 unfold saidF at h ⊢
 rw [List.find?_append]
 by_cases e:k=(n,v.1)
 ·subst e
  cases hf:L.find? fun x=>decide ((x.1,x.2.1)=(n,v.1)) with
  | none=>rw [hf] at h;cases h
  | some x=>simp
 ·have e2:¬ (n,v.1)=k:=fun h=>e h.symm
  simp [e2]
theorem saidF_some {L:List (ByteArray×PKey)}{k:ByteArray×ByteArray}{t:Value}(h:saidF L k=some t):∃ x∈L,(x.1,x.2.1)=k∧t=.string x.2.2:=by
 unfold saidF at h
 cases hf:L.find? fun x=>decide ((x.1,x.2.1)=k) with
 | none=>rw [hf] at h;cases h
 | some x =>
  rw [hf] at h
  exact ⟨x,List.mem_of_find?_eq_some hf,by simpa using List.find?_some hf,(Option.some.inj h).symm⟩
theorem saidF_none {L:List (ByteArray×PKey)}{k:ByteArray×ByteArray}(h:saidF L k=none):∀ x∈L,(x.1,x.2.1)≠k:=by
 unfold saidF at h
 rw [Option.map_eq_none_iff,List.find?_eq_none] at h
 intro x hx
 simpa using h x hx
/-- Nothing is said twice and unlike. -/
def ConsF (L:List (ByteArray×PKey)):Prop:=∀ x∈L,∀ y∈L,x.1=y.1→x.2.1=y.2.1→x.2.2=y.2.2
theorem consF_B {l:List PStep}:ConsF (flatB l)↔ConsB l:=by
 refine ⟨fun h n u v hu hv e=>h (n,u) (flatB_mem.2 hu) (n,v) (flatB_mem.2 hv) rfl e,fun h x hx y hy e1 e2=>?_⟩
 obtain ⟨n,u⟩:=x
 obtain ⟨m,v⟩:=y
 simp only at e1 e2
 subst e1
 exact h n u v (flatB_mem.1 hx) (flatB_mem.1 hy) e2
theorem ConsF.new {L:List (ByteArray×PKey)}{n:ByteArray}{v:PKey}(h:ConsF L)(hs:saidF L (n,v.1)=none):ConsF (L++[(n,v)]):=by
 have h0:=saidF_none hs
 intro x hx y hy e1 e2
 rcases List.mem_append.1 hx with hx | hx <;> rcases List.mem_append.1 hy with hy | hy
 ·exact h x hx y hy e1 e2
 ·rw [List.mem_singleton.1 hy] at e1 e2
  exact absurd (by rw [e1,e2]) (h0 x hx)
 ·rw [List.mem_singleton.1 hx] at e1 e2
  exact absurd (by rw [←e1,←e2]) (h0 y hy)
 ·rw [List.mem_singleton.1 hx,List.mem_singleton.1 hy]
theorem said_mem {L:List (ByteArray×PKey)}{n:ByteArray}{v:PKey}(hs:saidF L (n,v.1)=some (.string v.2)):(n,v)∈L:=by
 obtain ⟨x,hx,e,ht⟩:=saidF_some hs
 obtain ⟨m,a,b⟩:=x
 obtain ⟨p,q⟩:=v
 simp only [Prod.mk.injEq] at e
 simp only at ht
 injection ht with ht
 obtain ⟨rfl,rfl⟩:=e
 rw [ht]
 exact hx
theorem ConsF.same {L:List (ByteArray×PKey)}{n:ByteArray}{v:PKey}(h:ConsF L)(hs:saidF L (n,v.1)=some (.string v.2)):ConsF (L++[(n,v)]):=by
 have h0:=said_mem hs
 have h1:∀ x,x∈L++[(n,v)]→x∈L:=fun x hx=>(List.mem_append.1 hx).elim id fun hx=>by rw [List.mem_singleton.1 hx];exact h0
 exact fun x hx y hy=>h x (h1 x hx) y (h1 y hy)
theorem consF_bad {L:List (ByteArray×PKey)}{n:ByteArray}{v:PKey}{t:ByteArray}(hs:saidF L (n,v.1)=some (.string t))(ht:t≠v.2):¬ ConsF (L++[(n,v)]):=by
 intro h
 obtain ⟨x,hx,e,h2⟩:=saidF_some hs
 injection h2 with h2
 have e1:=congrArg Prod.fst e
 have e2:=congrArg Prod.snd e
 simp only at e1 e2
 have:=h x (List.mem_append_left _ hx) (n,v) (List.mem_append_right _ (List.mem_singleton.2 rfl)) e1 e2
 exact ht (h2.trans this)
theorem consF_sub {L M:List (ByteArray×PKey)}(hs:∀ x∈L,x∈M)(h:ConsF M):ConsF L:=fun x hx y hy=>h x (hs x hx) y (hs y hy)
/-- What is heard, j values of Book i being read. -/
def heardB (l:List PStep)(i:Nat)(b:PStep)(j:Nat):List (ByteArray×PKey):=flatB (l.take i)++(b.2.take j).map fun v=>(b.1,v)
theorem heard_start (l:List PStep)(i:Nat)(b:PStep):heardB l i b 0=flatB (l.take i):=by simp [heardB]
theorem heard_next {l:List PStep}{i j:Nat}{b:PStep}{v:PKey}(hv:b.2[j]?=some v):heardB l i b (j+1)=heardB l i b j++[(b.1,v)]:=by
 unfold heardB
 rw [List.take_add_one,hv,List.map_append,←List.append_assoc]
 rfl
theorem heard_end {l:List PStep}{i:Nat}{b:PStep}(hb:l[i]?=some b):heardB l i b b.2.length=flatB (l.take (i+1)):=by
 unfold heardB
 rw [List.take_length,List.take_add_one,hb]
 simp [flatB]
theorem heard_sub {l:List PStep}{i j:Nat}{b:PStep}(hb:l[i]?=some b):∀ x∈heardB l i b j,x∈flatB (l.take (i+1)):=by
 intro x hx
 rw [←heard_end hb]
 unfold heardB at hx ⊢
 rcases List.mem_append.1 hx with hx | hx
 ·exact List.mem_append_left _ hx
 ·obtain ⟨v,hv,rfl⟩:=List.mem_map.1 hx
  exact List.mem_append_right _ (List.mem_map.2 ⟨v,by rw [List.take_length];exact List.mem_of_mem_take hv,rfl⟩)
/-- Something is said twice and unlike: it is in the first i + 1 Books. -/
theorem heard_bad {l:List PStep}{i j:Nat}{b:PStep}{v:PKey}{t:ByteArray}(hb:l[i]?=some b)(hv:b.2[j]?=some v)(hs:saidF (heardB l i b j) (b.1,v.1)=some (.string t))(ht:t≠v.2):¬ ConsB (l.take (i+1)):=by
 intro h
 refine consF_bad hs ht ?_
 rw [←heard_next hv]
 exact consF_sub (heard_sub hb) (consF_B.2 h)
/-- The lists of values, name by name. -/
def SrtAt (L:List (ByteArray×PKey))(ps:List (REnt PKey)):Prop :=
 (∀ n v,v∈lookR ps n↔(n,v)∈L)∧(∀ n,(lookR ps n).Pairwise fun x y=>x.1≠y.1)∧∀ n,(lookR ps n).length≤L.length
theorem srt_start:SrtAt [] []:=⟨fun n v=>by simp [lookR],fun n=>by simp [lookR],fun n=>by simp [lookR]⟩
theorem SrtAt.name {L:List (ByteArray×PKey)}{ps:List (REnt PKey)}{n:ByteArray}(h:SrtAt L ps)(hn:lookF ps n=none)(u:Value):SrtAt L (updM ps n u []):=by
 have h0:=lookR_none (lookF_none.1 hn)
 have h1:∀ t,lookR (updM ps n u []) t=lookR ps t:=fun t=>by
  rw [lookR_upd]
  by_cases e:t=n
  ·rw [if_pos e,e,h0]
  ·rw [if_neg e]
 exact ⟨fun t v=>by rw [h1];exact h.1 t v,fun t=>by rw [h1];exact h.2.1 t,fun t=>by rw [h1];exact h.2.2 t⟩
theorem SrtAt.new {L:List (ByteArray×PKey)}{ps:List (REnt PKey)}{n:ByteArray}{v:PKey}(h:SrtAt L ps)(hs:saidF L (n,v.1)=none)(u:Value):SrtAt (L++[(n,v)]) (updM ps n u (lookR ps n++[v])):=by
 have h0:=saidF_none hs
 refine ⟨fun t x=>?_,fun t=>?_,fun t=>?_⟩
 ·rw [lookR_upd,List.mem_append,List.mem_singleton,←h.1 t x]
  by_cases e:t=n
  ·subst e
   rw [if_pos rfl,List.mem_append,List.mem_singleton]
   exact ⟨fun hh=>hh.imp id fun e=>by rw [e],fun hh=>hh.imp id fun e=>(Prod.mk.inj e).2⟩
  ·rw [if_neg e]
   simp [e]
 ·rw [lookR_upd]
  by_cases e:t=n
  ·subst e
   rw [if_pos rfl]
   refine List.pairwise_append.2 ⟨h.2.1 t,by simp,fun x hx y hy=>?_⟩
   rw [List.mem_singleton.1 hy]
   exact fun e=>h0 (t,x) ((h.1 t x).1 hx) (by rw [e])
  ·rw [if_neg e]
   exact h.2.1 t
 ·rw [lookR_upd,List.length_append]
  by_cases e:t=n
  ·rw [if_pos e,List.length_append]
   have:=h.2.2 n
   simp only [List.length_cons,List.length_nil]
   omega
  ·rw [if_neg e]
   have:=h.2.2 t
   omega
theorem SrtAt.skip {L:List (ByteArray×PKey)}{ps:List (REnt PKey)}{n:ByteArray}{v:PKey}(h:SrtAt L ps)(hs:saidF L (n,v.1)=some (.string v.2)):SrtAt (L++[(n,v)]) ps:=by
 have h0:=said_mem hs
 refine ⟨fun t x=>?_,h.2.1,fun t=>?_⟩
 ·rw [h.1 t x,List.mem_append,List.mem_singleton]
  exact ⟨.inl,fun hh=>hh.elim id fun e=>by rw [e];exact h0⟩
 ·rw [List.length_append]
  have:=h.2.2 t
  omega
/-- A list of values by their paths is the pool of what is said. -/
theorem srt_row {l:List PStep}{ps:List (REnt PKey)}(h:SrtAt (flatB l) ps){n:ByteArray}{l':List PKey}(hp:l'.Perm (lookR ps n))(hs:l'.Pairwise fun x y=>bl y.1 x.1=false):l'=poolL vlt (valsOf l n):=by
 have hne:l'.Pairwise fun x y=>x.1≠y.1:=(hp.pairwise_iff (fun {x y} (h:x.1≠y.1)=>h.symm)).2 (h.2.1 n)
 have hr:RiseL (fun x y=>bl x.1 y.1) l':=by
  refine List.Pairwise.imp (R:=fun x y=>bl y.1 x.1=false∧x.1≠y.1) (fun {x y} ⟨h1,h2⟩=>?_) (List.pairwise_and_iff.2 ⟨hs,hne⟩)
  cases hb:bl x.1 y.1 with
  | true=>exact hb
  | false=>exact absurd (blT.conn _ _ hb h1) h2
 refine poolL_eq vltT (rise_vlt hr) fun v=>?_
 rw [hp.mem_iff,h.1 n v,flatB_mem]
theorem srt_names {l:List PStep}{names:List ByteArray}(h:∀ n,n∈names↔n∈l.map Prod.fst):poolL bl names=poolL bl (l.map Prod.fst):=poolL_congr blT h
end
section
open Go.Shelf
def sortV_ren : Go.Shelf.Ren := ⟨fun | 6 => 43 | 15 => 72 | 14 => 73 | 28 => 107 | 29 => 108 | 20 => 109 | 21 => 110 | 22 => 111 | 23 => 112 | 24 => 113 | 25 => 114 | 26 => 115 | 27 => 116 | 46 => 147 | 47 => 142 | 48 => 143 | 49 => 148 | 50 => 149 | 57 => 176 | n => n, fun | 22 => 39 | 24 => 71 | 25 => 97 | 3 => 3 | 39 => 99 | 0 => 0 | 53 => 59 | 55 => 190 | 4 => 4 | 46 => 183 | 45 => 182 | 50 => 179 | 5 => 5 | 9 => 9 | 66 => 224 | 70 => 228 | 76 => 245 | 77 => 83 | n => n, fun | n => n⟩
theorem sortV : Go.Proofs.SlLaysF0.n6 Tryz.prog sortV_ren := {
  mixed := by kernel_rfl
  f6 := ⟨Tryz.f43.name, by decide, Tryz.func43.trans (congrArg some (by kernel_rfl))⟩
  f14 := ⟨Tryz.f73.name, by decide, Tryz.func73.trans (congrArg some (by kernel_rfl))⟩
  f15 := Tryz.func72.trans (congrArg some (by kernel_rfl))
  f20 := ⟨Tryz.f109.name, by decide, Tryz.func109.trans (congrArg some (by kernel_rfl))⟩
  f21 := ⟨Tryz.f110.name, by decide, Tryz.func110.trans (congrArg some (by kernel_rfl))⟩
  f22 := ⟨Tryz.f111.name, by decide, Tryz.func111.trans (congrArg some (by kernel_rfl))⟩
  f23 := ⟨Tryz.f112.name, by decide, Tryz.func112.trans (congrArg some (by kernel_rfl))⟩
  f24 := ⟨Tryz.f113.name, by decide, Tryz.func113.trans (congrArg some (by kernel_rfl))⟩
  f25 := ⟨Tryz.f114.name, by decide, Tryz.func114.trans (congrArg some (by kernel_rfl))⟩
  f26 := ⟨Tryz.f115.name, by decide, Tryz.func115.trans (congrArg some (by kernel_rfl))⟩
  f27 := ⟨Tryz.f116.name, by decide, Tryz.func116.trans (congrArg some (by kernel_rfl))⟩
  f28 := Tryz.func107.trans (congrArg some (by kernel_rfl))
  f29 := Tryz.func108.trans (congrArg some (by kernel_rfl))
  f46 := ⟨Tryz.f147.name, by decide, Tryz.func147.trans (congrArg some (by kernel_rfl))⟩
  f47 := Tryz.func142.trans (congrArg some (by kernel_rfl))
  f48 := Tryz.func143.trans (congrArg some (by kernel_rfl))
  f49 := ⟨Tryz.f148.name, by decide, Tryz.func148.trans (congrArg some (by kernel_rfl))⟩
  f50 := ⟨Tryz.f149.name, by decide, Tryz.func149.trans (congrArg some (by kernel_rfl))⟩
  f57 := ⟨Tryz.f176.name, by decide, Tryz.func176.trans (congrArg some (by kernel_rfl))⟩
  t0 := Tryz.underlying0
  a0 := Tryz.isAgg0
  z0 := Tryz.sizeOf0
  v0 := Tryz.zeroValue0
  t3 := Tryz.underlying3
  a3 := Tryz.isAgg3
  z3 := Tryz.sizeOf3
  v3 := Tryz.zeroValue3
  t4 := Tryz.underlying4
  a4 := Tryz.isAgg4
  z4 := Tryz.sizeOf4
  v4 := Tryz.zeroValue4
  t5 := Tryz.underlying5
  a5 := Tryz.isAgg5
  z5 := Tryz.sizeOf5
  v5 := Tryz.zeroValue5
  t9 := Tryz.underlying9
  a9 := Tryz.isAgg9
  z9 := Tryz.sizeOf9
  v9 := Tryz.zeroValue9
  t22 := Tryz.underlying39
  a22 := Tryz.isAgg39
  z22 := Tryz.sizeOf39
  v22 := Tryz.zeroValue39
  t25 := Tryz.underlying97
  a25 := Tryz.isAgg97
  z25 := Tryz.sizeOf97
  v25 := Tryz.zeroValue97
  t39 := Tryz.underlying99
  a39 := Tryz.isAgg99
  z39 := Tryz.sizeOf99
  v39 := Tryz.zeroValue99
  t45 := Tryz.underlying182
  a45 := Tryz.isAgg182
  z45 := Tryz.sizeOf182
  v45 := Tryz.zeroValue182
  t46 := Tryz.underlying183
  a46 := Tryz.isAgg183
  z46 := Tryz.sizeOf183
  v46 := Tryz.zeroValue183
  t50 := Tryz.underlying179
  a50 := Tryz.isAgg179
  z50 := Tryz.sizeOf179
  v50 := Tryz.zeroValue179
  t53 := Tryz.underlying59
  a53 := Tryz.isAgg59
  z53 := Tryz.sizeOf59
  v53 := Tryz.zeroValue59
  t55 := Tryz.underlying190
  a55 := Tryz.isAgg190
  z55 := Tryz.sizeOf190
  v55 := Tryz.zeroValue190
  t66 := Tryz.underlying224
  a66 := Tryz.isAgg224
  z66 := Tryz.sizeOf224
  v66 := Tryz.zeroValue224
  t70 := Tryz.underlying228
  a70 := Tryz.isAgg228
  z70 := Tryz.sizeOf228
  v70 := Tryz.zeroValue228
  t76 := Tryz.underlying245
  a76 := Tryz.isAgg245
  z76 := Tryz.sizeOf245
  v76 := Tryz.zeroValue245
  t77 := Tryz.underlying83
  a77 := Tryz.isAgg83
  z77 := Tryz.sizeOf83
  v77 := Tryz.zeroValue83 }
def cmpV_ren : Go.Shelf.Ren := ⟨fun | 106 => 45 | 213 => 74 | 265 => 117 | n => n, fun | 9 => 9 | 3 => 3 | n => n, fun | n => n⟩
theorem cmpV : Go.Proofs.Lays.n106 Tryz.prog cmpV_ren := {
  mixed := by kernel_rfl
  f106 := Tryz.func45.trans (congrArg some (by kernel_rfl))
  f213 := Tryz.func74.trans (congrArg some (by kernel_rfl))
  f265 := Tryz.func117.trans (congrArg some (by kernel_rfl))
  t3 := Tryz.underlying3
  a3 := Tryz.isAgg3
  z3 := Tryz.sizeOf3
  v3 := Tryz.zeroValue3
  t9 := Tryz.underlying9
  a9 := Tryz.isAgg9
  z9 := Tryz.sizeOf9
  v9 := Tryz.zeroValue9 }
end
section
open Go.RowKit Go.Shelf Go.Lib Go.Sort

theorem results_cell_cell {fn:Func}{p q:Tmp}{ty ty':TypeId}(h:fn.results=#[.cell p ty,.cell q ty'])(tmps:Array Value)(P:Program)(w:World) :
  (results fn tmps).run P w=((asAddr (tmps.getD p undef)).run P w).andThen fun a w₁=>((loadVar ty a).run P w₁).andThen fun v w₂=>((asAddr (tmps.getD q undef)).run P w₂).andThen fun b w₃=>((loadVar ty' b).run P w₃).andThen fun u w₄=>.ok (.tuple #[v,u]) w₄:=by
 simp only [results,h]
 simp [Sem.run_bind,Result.andThen]
theorem results_row_row {fn:Func}{P:Program}{p q:Tmp}{ty ty':TypeId}(h:fn.results=#[.cell p ty,.cell q ty'])(tmps:Array Value)(w:World)(g g':Nat)(t t':TypeId)(cs cs':Array Value)(d d':TypeDesc)
  (hp:tmps.getD p undef=.pointer (some ⟨g,0,none⟩))(hg:Blk w g t cs)(hq:tmps.getD q undef=.pointer (some ⟨g',0,none⟩))(hg':Blk w g' t' cs')
  (hu:P.underlying ty=some d)(hd:(match d with | .struct _ | .array _ _=>true | _=>false)=true)(hi:(P.info? ty).map (·.size)=some cs.size)
  (hu':P.underlying ty'=some d')(hd':(match d' with | .struct _ | .array _ _=>true | _=>false)=true)(hi':(P.info? ty').map (·.size)=some cs'.size) :
  (results fn tmps).run P w=.ok (.tuple #[.agg cs,.agg cs']) w:=by
 rw [results_cell_cell h,hp,hq]
 simp [asAddr,Result.andThen,run_loadVar_row w g t ty cs (0,0) d hg hu hd hi,run_loadVar_row w g' t' ty' cs' (0,0) d' hg' hu' hd' hi']

/-- Keys of two texts. -/
def pairOk (k:ByteArray×ByteArray):Prop:=k.1.size≤maxLen∧k.2.size≤maxLen
def pairL (k:ByteArray×ByteArray):Lit:=.string (keyBytes [.string k.1.data.toList,.string k.2.data.toList])
theorem laidOutA:laidOutB Tryz.prog=true:=by kernel_rfl
theorem row_pair:(94:TypeId)<Tryz.prog.types.size:=of_decide_eq_true (by kernel_rfl)
theorem wide_pair:(match Tryz.prog.underlying 94 with | some (.array _ _) | some (.struct _)=>true | _=>false)=true:=by rw [Tryz.underlying94]
set_option maxRecDepth 100000 in
theorem law_pair:Maps.Keyed Tryz.prog 94:=Maps.Keyed.of_law (deep_law_laid laidOutA (m:=2) (by omega) row_pair (by kernel_rfl) wide_pair)
theorem cells_pair:Tryz.prog.cellsOf 94=2:=by kernel_rfl
theorem cells_str:Tryz.prog.cellsOf 9=1:=by kernel_rfl
theorem formed_pair {c0 c1:Value}:(Value.agg #[c0,c1]).formed Tryz.prog 94=true:=by simp [Value.formed,Tryz.underlying94,cells_pair]
theorem ktype_pair:Tryz.prog.keyType 94=true:=by kernel_rfl
theorem tsize_two:∃ n,Tryz.prog.types.size=n+1:=⟨Tryz.prog.types.size-1,by
 have h:(0:Nat)<Tryz.prog.types.size:=of_decide_eq_true (by kernel_rfl)
 omega⟩
theorem key_pair {k:ByteArray×ByteArray}(h:pairOk k):keyOf Tryz.prog 94 (.agg #[.string k.1,.string k.2])=some (pairL k):=by
 have hl:Tryz.prog.keyLits (Tryz.prog.types.size+1) 94 [.string k.1,.string k.2]=some [.string k.1.data.toList,.string k.2.data.toList]:=by
  obtain ⟨n,hn⟩:=tsize_two
  rw [hn]
  have h1:∀(s:ByteArray),s.size≤maxLen→Tryz.prog.keyLits (n+1) 9 [.string s]=some [.string s.data.toList]:=fun s hs=>by
   unfold Program.keyLits
   rw [Tryz.underlying9]
   simp only [if_pos hs]
  unfold Program.keyLits
  rw [Tryz.underlying94]
  simp only [cells_pair,cells_str,List.length_cons,List.length_nil]
  rw [if_pos trivial]
  have e:(List.range 2).mapM (fun i=>Tryz.prog.keyLits (n+1) 9 (([.string k.1,.string k.2]:List Value).drop (i*1) |>.take 1))=some [[.string k.1.data.toList],[.string k.2.data.toList]]:=by
   have e0:List.range 2=[0,1]:=rfl
   rw [e0]
   simp only [List.mapM_cons,List.mapM_nil,Nat.zero_mul,Nat.one_mul,List.drop_zero,List.drop_succ_cons,List.take_succ_cons,List.take_zero]
   rw [h1 _ h.1,h1 _ h.2]
   rfl
  rw [e]
  rfl
 unfold keyOf
 rw [Tryz.underlying94]
 simp only [ktype_pair,formed_pair,Bool.and_self,if_true]
 unfold pairL
 have e2:(Value.agg #[Value.string k.1,Value.string k.2]).cells.toList=[.string k.1,.string k.2]:=rfl
 rw [e2,hl]
 rfl
theorem pairL_inj (x y:ByteArray×ByteArray)(hx:pairOk x)(hy:pairOk y)(h:pairL x=pairL y):x=y:=by
 have h1:=key_pair hx
 have h2:=key_pair hy
 rw [h] at h1
 have h3:=law_pair.inj h1 h2
 have h4:[Value.string x.1,.string x.2]=[Value.string y.1,.string y.2]:=congrArg Array.toList (Value.agg.inj h3)
 obtain ⟨h5,h6⟩:=List.cons.inj h4
 obtain ⟨h6,-⟩:=List.cons.inj h6
 exact Prod.ext (Value.string.inj h5) (Value.string.inj h6)
theorem zero_str (w:World):(zeroValue 9).run Tryz.prog w=.ok (.string ByteArray.empty) w:=by kernel_rfl
theorem zero_vals (w:World):(zeroValue 39).run Tryz.prog w=.ok (.slice none 0 0) w:=by kernel_rfl

abbrev PMap (B:Nat)(W:World)(mr cap:Nat)(ps:List (REnt PKey)):Prop:=RowMap Tryz.prog 9 B 71 2 pairCells W mr cap ps
abbrev SMap (W:World)(b n:Nat)(L:List (ByteArray×PKey)):Prop:=∃ m,MapG Tryz.prog 94 pairL pairOk W b n m (saidF L)
theorem PMap.stays {B:Nat}{W W':World}{mr cap:Nat}{ps:List (REnt PKey)}(h:PMap B W mr cap ps){u:Value}{Bu size n:Nat}{e:TypeId}{xs:List Value}(hu:W.ownsRow Bu e size u n xs)(hne:71≠e)(hg:W.grownBy W' u.ownBlock):PMap B W' mr cap ps :=
 h.kept hg (fun e=>own_map h.1 hu e.symm) fun p hp=>by
  cases hv:p.2.1.ownBlock with
  | none=>exact .inl rfl
  | some k=>exact .inr fun e=>own_other (h.2.2.1 p hp) hu hne k hv e.symm
theorem PMap.staysB {B:Nat}{W W':World}{mr cap:Nat}{ps:List (REnt PKey)}(h:PMap B W mr cap ps){r:Nat}{t:TypeId}{cs:Array Value}(hb:Blk W r t cs)(hne:71≠t)(hr:mr≠r)(hg:W.grownBy W' (some r)):PMap B W' mr cap ps :=
 h.kept hg (fun e=>hr (Option.some.inj e)) fun p hp=>by
  cases hv:p.2.1.ownBlock with
  | none=>exact .inl rfl
  | some k=>exact .inr fun e=>own_blkB (h.2.2.1 p hp) hb hne hv (Option.some.inj e)
/-- The state of Sort: a, b, c, d the blocks of the bundle's and the fault's result and of the two maps. -/
def SS (w W:World)(nv:Value)(L:List (ByteArray×PKey))(ps:List (REnt PKey)):Prop :=
 Below w.heap.size w W∧Blk W (w.heap.size+1) 24 #[.slice none 0 0]∧Blk W (w.heap.size+2) 54 #[.int .i64 0,.int .i64 0]∧SMap W (w.heap.size+3) L.length L∧PMap w.heap.size W (w.heap.size+4) (L.length+ps.length) ps∧W.ownsRow w.heap.size 9 1 nv ps.length (strsV (ps.map fun p=>p.1))
section
variable {w W W' W2:World} {nv:Value} {L:List (ByteArray×PKey)} {ps:List (REnt PKey)}
theorem SS.on (h:SS w W nv L ps)(hb:Below W.heap.size W W'):SS w W' nv L ps:=by
 obtain ⟨h1,h2,h3,⟨m,h4⟩,h5,h6⟩:=h
 exact ⟨h1.trans (hb.mono h1.size),h2.below hb h2.lt,h3.below hb h3.lt,⟨m,h4.on hb⟩,h5.on hb,own_more h6 hb⟩
theorem SS.alloc (h:SS w W nv L ps)(o:Obj):SS w (W.alloc o) nv L ps:=h.on ((Below.refl _ W).alloc (Nat.le_refl _) o)
theorem SS.lt (h:SS w W nv L ps):w.heap.size+4<W.heap.size:=h.2.2.2.2.1.1.lt
theorem SS.names (h:SS w W nv L ps){n:Nat}(hn:ps.length=n):W.ownsRow w.heap.size 9 1 nv n (strsV (ps.map fun p=>p.1)):=hn ▸ h.2.2.2.2.2
theorem SS.rowAt (h:SS w W nv L ps)(s:ByteArray){u:Value}(hu:(lookF ps s).getD (.slice none 0 0)=u):W.ownsRow w.heap.size 71 2 u (lookR ps s).length (pairCells (lookR ps s)):=by
 cases hl:lookF ps s with
 | none =>
  rw [hl] at hu
  rw [lookR_none (lookF_none.1 hl),←hu]
  exact World.ownsRow_nil _ _ _ _
 | some v =>
  rw [hl] at hu
  have:=h.2.2.2.2.1.2.2.1 _ (look_some hl)
  rw [←hu]
  exact this
/-- A name is put behind the others. -/
theorem SS.push (h:SS w W nv L ps)(hg:W.grownBy W' nv.ownBlock) :
  Below w.heap.size w W'∧Blk W' (w.heap.size+1) 24 #[.slice none 0 0]∧Blk W' (w.heap.size+2) 54 #[.int .i64 0,.int .i64 0]∧SMap W' (w.heap.size+3) L.length L∧PMap w.heap.size W' (w.heap.size+4) (L.length+ps.length) ps:=by
 obtain ⟨h1,h2,h3,⟨m,h4⟩,h5,h6⟩:=h
 exact ⟨h1.grown hg h1.size (fun k hk=>(h6.lt k hk).1),blk_stays h2 h6 (by decide) hg,blk_stays h3 h6 (by decide) hg,⟨m,h4.kept hg (fun e=>own_map h4 h6 e.symm)⟩,h5.stays h6 (by decide) hg⟩
theorem grown_self (W:World)(row:Option Nat):W.grownBy W row:=⟨rfl,rfl,rfl,Nat.le_refl _,fun _ _ _=>rfl⟩
theorem SS.name (h:SS w W nv L ps){nm:ByteArray}(hl:lookF ps nm=none){nv':Value}{n m':Nat}(hn:ps.length=n)(hown:W'.ownsRow w.heap.size 9 1 nv' (n+1) (strsV (ps.map fun p=>p.1)++[.string nm]))(hg:W.grownBy W' nv.ownBlock)
  (hM:MapS W2 (w.heap.size+4) (L.length+ps.length+1) m' (putMF (lookF ps) nm (.slice none 0 0)))(hm':m'=if (lookF ps nm).isSome then ps.length else ps.length+1)(hg2:W'.grownBy W2 (some (w.heap.size+4))):SS w W2 nv' L (updM ps nm (.slice none 0 0) []):=by
 obtain ⟨b1,b2,b3,⟨m,b4⟩,b5⟩:=h.push hg
 have hlen:(updM ps nm (.slice none 0 0) []).length=ps.length+1:=by rw [updM_len,hl,if_neg (by simp)]
 have hkeys:(updM ps nm (.slice none 0 0) []).map (fun p=>p.1)=ps.map (fun p=>p.1)++[nm]:=by rw [updM_keys,hl,if_neg (by simp)]
 refine ⟨b1.grown hg2 b1.size (fun k hk=>by cases hk;omega),b2.grown hg2 (fun e=>by have:=Option.some.inj e;omega),b3.grown hg2 (fun e=>by have:=Option.some.inj e;omega),⟨m,b4.kept hg2 (fun e=>by have:=Option.some.inj e;omega)⟩,?_,?_⟩
 ·rw [hlen,←Nat.add_assoc]
  exact b5.put (fun p hp=>own_map b5.1 (b5.2.2.1 p hp)) (u:=.slice none 0 0) (by rw [hl];rfl) (grown_self W' _) (World.ownsRow_nil _ _ _ _) (.inl rfl) hM hm' hg2 (by simp [Value.ownBlock])
 ·rw [hlen,hkeys]
  subst hn
  have:strsV (ps.map (fun p=>p.1)++[nm])=strsV (ps.map fun p=>p.1)++[.string nm]:=by simp [strsV]
  rw [this]
  exact own_stays2 hown hg2 fun k hk e=>own_map b5.1 hown (by rw [hk];exact e.symm)
/-- A value that was not said is said. -/
theorem SS.say (h:SS w W nv L ps){nm:ByteArray}{v:PKey}(hs:saidF L (nm,v.1)=none){m':Nat}
  (hM:MapG Tryz.prog 94 pairL pairOk W' (w.heap.size+3) (L.length+1) m' (putMF (saidF L) (nm,v.1) (.string v.2)))(hg:W.grownBy W' (some (w.heap.size+3))) :
  Below w.heap.size w W'∧Blk W' (w.heap.size+1) 24 #[.slice none 0 0]∧Blk W' (w.heap.size+2) 54 #[.int .i64 0,.int .i64 0]∧SMap W' (w.heap.size+3) (L++[(nm,v)]).length (L++[(nm,v)])∧PMap w.heap.size W' (w.heap.size+4) (L.length+ps.length) ps∧W'.ownsRow w.heap.size 9 1 nv ps.length (strsV (ps.map fun p=>p.1)):=by
 obtain ⟨h1,h2,h3,⟨m,h4⟩,h5,h6⟩:=h
 refine ⟨h1.grown hg h1.size (fun k hk=>by cases hk;omega),h2.grown hg (fun e=>by have:=Option.some.inj e;omega),h3.grown hg (fun e=>by have:=Option.some.inj e;omega),⟨m',?_⟩,h5.kept hg (fun e=>by have:=Option.some.inj e;omega) (fun p hp=>?_),own_stays2 h6 hg fun k hk e=>own_map h4 h6 (by rw [hk];exact e.symm)⟩
 ·rw [List.length_append,←saidF_put hs]
  exact hM
 ·cases hv:p.2.1.ownBlock with
  | none=>exact .inl rfl
  | some k=>exact .inr fun e=>own_map h4 (h5.2.2.1 p hp) (by rw [hv];exact e)
end
/-- The state between what is said and the list. -/
def SV (w W:World)(nv:Value)(L:List (ByteArray×PKey))(x:ByteArray×PKey)(ps:List (REnt PKey)):Prop :=
 Below w.heap.size w W∧Blk W (w.heap.size+1) 24 #[.slice none 0 0]∧Blk W (w.heap.size+2) 54 #[.int .i64 0,.int .i64 0]∧SMap W (w.heap.size+3) (L++[x]).length (L++[x])∧PMap w.heap.size W (w.heap.size+4) (L.length+ps.length) ps∧W.ownsRow w.heap.size 9 1 nv ps.length (strsV (ps.map fun p=>p.1))
section
variable {w W W' W2:World} {nv:Value} {L:List (ByteArray×PKey)} {x:ByteArray×PKey} {ps:List (REnt PKey)}
theorem SV.on (h:SV w W nv L x ps)(hb:Below W.heap.size W W'):SV w W' nv L x ps:=by
 obtain ⟨h1,h2,h3,⟨m,h4⟩,h5,h6⟩:=h
 exact ⟨h1.trans (hb.mono h1.size),h2.below hb h2.lt,h3.below hb h3.lt,⟨m,h4.on hb⟩,h5.on hb,own_more h6 hb⟩
theorem SV.rowAt (h:SV w W nv L x ps)(s:ByteArray){u:Value}(hu:(lookF ps s).getD (.slice none 0 0)=u):W.ownsRow w.heap.size 71 2 u (lookR ps s).length (pairCells (lookR ps s)):=by
 cases hl:lookF ps s with
 | none =>
  rw [hl] at hu
  rw [lookR_none (lookF_none.1 hl),←hu]
  exact World.ownsRow_nil _ _ _ _
 | some v =>
  rw [hl] at hu
  have:=h.2.2.2.2.1.2.2.1 _ (look_some hl)
  rw [←hu]
  exact this
theorem SV.mapOn (h:SV w W nv L x ps){u:Value}{n:Nat}{ys:List Value}(hU:W.ownsRow w.heap.size 71 2 u n ys)(hg:W.grownBy W' u.ownBlock):MapS W' (w.heap.size+4) (L.length+ps.length) ps.length (lookF ps):=h.2.2.2.2.1.1.kept hg fun e=>own_map h.2.2.2.2.1.1 hU e.symm
/-- .. and put into its list. -/
theorem SV.put (h:SV w W nv L x ps){u v:Value}{xs:List PKey}{n m':Nat}{ys:List Value}(hin:(lookF ps x.1).isSome=true)(hu:(lookF ps x.1).getD (.slice none 0 0)=u)(hU:W.ownsRow w.heap.size 71 2 u n ys)(hg:W.grownBy W' u.ownBlock)
  (hown:W'.ownsRow w.heap.size 71 2 v xs.length (pairCells xs))(hv:v.ownBlock=u.ownBlock∨v.ownBlock=some W.heap.size)(hM:MapS W2 (w.heap.size+4) (L.length+ps.length+1) m' (putMF (lookF ps) x.1 v))(hm':m'=if (lookF ps x.1).isSome then ps.length else ps.length+1)(hg2:W'.grownBy W2 (some (w.heap.size+4))) :
  SS w W2 nv (L++[x]) (updM ps x.1 v xs):=by
 have hM1:=h.mapOn hU hg
 obtain ⟨h1,h2,h3,⟨m,h4⟩,h5,h6⟩:=h
 have b1:=h1.grown hg h1.size (fun k hk=>(hU.lt k hk).1)
 have a2:=blk_stays h2 hU (by decide) hg
 have a3:=blk_stays h3 hU (by decide) hg
 have a4:=h4.kept hg (fun e=>own_map h4 hU e.symm)
 have a6:=own_stays h6 hU (by decide) hg
 have hlen:(updM ps x.1 v xs).length=ps.length:=by rw [updM_len,if_pos hin]
 have hkeys:(updM ps x.1 v xs).map (fun p=>p.1)=ps.map (fun p=>p.1):=by rw [updM_keys,if_pos hin]
 refine ⟨b1.grown hg2 b1.size (fun k hk=>by cases hk;omega),a2.grown hg2 (fun e=>by have:=Option.some.inj e;omega),a3.grown hg2 (fun e=>by have:=Option.some.inj e;omega),⟨m,a4.kept hg2 (fun e=>by have:=Option.some.inj e;omega)⟩,?_,?_⟩
 ·rw [hlen,List.length_append,List.length_singleton,Nat.add_right_comm]
  exact h5.put (fun p hp=>own_map h5.1 (h5.2.2.1 p hp)) hu hg hown hv hM hm' hg2 (own_map hM1 hown)
 ·rw [hlen,hkeys]
  exact own_stays2 a6 hg2 fun k hk e=>own_map hM1 a6 (by rw [hk];exact e.symm)
end
end
section
open Go.RowKit Go.Shelf Go.Lib Go.Sort

abbrev vA (k:PKey):Value:=.string k.1
abbrev vB (k:PKey):Value:=.string k.2
theorem compareV_any (a b:ByteArray)(w:World):Calls Tryz.prog 45 #[.string a,.string b] w fun e w'=>e=.returned (.int .i64 (Lib.compareBytes a.data.toList b.data.toList))∧w'=w:=Go.Proofs.Any.strings_Compare cmpV a b w
theorem scmp_any (x y:PKey)(w:World):Calls Tryz.prog 44 #[.agg #[.string x.1,.string x.2],.agg #[.string y.1,.string y.2]] w fun e w'=>e=.returned (.int .i64 (Lib.compareBytes x.1.data.toList y.1.data.toList))∧Grew w w':=by
 obtain ⟨W0,hW0⟩:∃ W0,(w.alloc (.cells #[.string x.1,.string x.2] 71)).alloc (.cells #[.string y.1,.string y.2] 71)=W0:=⟨_,rfl⟩
 have HG:=Lib.hid (show Grew w W0 from by rw [←hW0];exact ((Grew.refl w).alloc _).alloc _)
 have k0:W0.cell? ⟨w.heap.size,0,none⟩=some (.string x.1):=by rw [←hW0];exact ((Blk.new w _ _).alloc _).cell 0
 have k2:W0.cell? ⟨w.heap.size+1,0,none⟩=some (.string y.1):=by
  rw [←hW0]
  simp
 have HC:=Lib.hid (compareV_any x.1 y.1 W0)
 go_enter Tryz.func44,Tryz.ntmps44
 go_upto_region 1 with (fail)
 (try rw [hW0])
 clear hW0
 go_wp2_with (go_at_call 45;go_must (refine HC.out.mono ?_;rintro e wt ⟨rfl,rfl⟩))
 go_ret
 exact ⟨rfl,HG.out⟩
theorem sortvals_any (g c:Nat)(d:Array PKey)(w:World)(hH:HoldsK (fun k=>[vA k,vB k]) 2 w g 0 d)(hg:g<w.heap.size)(hd:d.size≤10000000) :
  Calls Tryz.prog 43 #[.slice (some ⟨g,0,none⟩) d.size c,.func (.func 44) #[] #[]] w fun e w'=>e=.returned (.tuple #[]) ∧
   ∃ d' n os,PermIn 0 d.size d d'∧SortedIn (fun x y:PKey=>bl x.1 y.1) 0 d.size d'∧w'=sortWorldK (fun k:PKey=>[vA k,vB k]) 2 w g 0 n d' os:=by
 have hlt:(ltOf fun x y:PKey=>Lib.compareBytes x.1.data.toList y.1.data.toList)=fun x y:PKey=>bl x.1 y.1:=by
  funext x y
  unfold bl
  rw [Lib.toList_data,Lib.toList_data,←cb_less]
  rfl
 have hswo:SWO (fun x y:PKey=>bl x.1 y.1):=bl_swo fun x:PKey=>x.1.toList
 have eg:∀ args w,(callFunc 44 args).run Tryz.prog w=.ok (.enter 44 args) w:=enters_of Tryz.func44 (by kernel_rfl) rfl
 have hcon:=AnyQ.slices_SortFunc sortV 2 Tryz.isAgg71 Tryz.sizeOf71 (fun k:PKey=>[vA k,vB k]) (fun _=>rfl) (fun x v hv=>by simp at hv;rcases hv with rfl | rfl <;> rfl) (fun x y:PKey=>Lib.compareBytes x.1.data.toList y.1.data.toList)
  (by rw [hlt];exact hswo) 44 #[] g 0 c d w eg (fun _ _ _ _ x y=>scmp_any x y _) hH hg (by omega)
 rw [hlt] at hcon
 exact hcon
set_option maxHeartbeats 2000000 in
theorem len64_zero (w:World):Calls Tryz.prog 108 #[.int .u64 0] w fun e w'=>e=.returned (.int .i64 0)∧w'=w:=by
 go_enter Tryz.func108,Tryz.ntmps108
 go_wp2
 go_ret
 exact ⟨by kernel_rfl,rfl⟩
theorem len_zero (w:World):Calls Tryz.prog 72 #[.int .u64 0] w fun e w'=>e=.returned (.int .i64 0)∧w'=w:=by
 have HL:=Lib.hid (len64_zero w)
 go_enter Tryz.func72,Tryz.ntmps72
 go_wp2_with (go_at_call 108;go_must (refine HL.out.mono ?_;rintro e w' ⟨rfl,rfl⟩))
 go_ret
 exact ⟨rfl,rfl⟩
theorem insert_none (c:Nat)(f:Value)(w:World):Calls Tryz.prog 109 #[.slice none 0 c,.int .i64 0,.int .i64 0,f] w fun e w'=>e=.returned (.tuple #[])∧w'=w:=by
 go_enter Tryz.func109,Tryz.ntmps109
 go_wp2
 go_loopw [8] (fun iv W=>iv=.int .i64 1∧W=w) (fun _ _=>0)
 case atStart=>exact ⟨rfl,rfl⟩
 case round =>
  obtain ⟨rfl,rfl⟩:=hrel
  go_wp2
  exact bodyPost_end (results_none Tryz.results109 _ _ _) rfl ⟨rfl,rfl⟩
theorem pdq_none (c:Nat)(f:Value)(k:Int)(w:World):Calls Tryz.prog 73 #[.slice none 0 c,.int .i64 0,.int .i64 0,.int .i64 k,f] w fun e w'=>e=.returned (.tuple #[])∧w'=w:=by
 have HI:=Lib.hid (insert_none c f w)
 go_enter Tryz.func73,Tryz.ntmps73
 go_wp2
 go_loopw [1,2] (fun av bv W=>av=.int .i64 0∧bv=.int .i64 0∧W=w) (fun _ _ _=>0)
 case atStart=>exact ⟨rfl,rfl,rfl⟩
 case round =>
  obtain ⟨rfl,rfl,rfl⟩:=hrel
  go_wp2_with (go_at_call 109;go_must (refine HI.out.mono ?_;rintro e w' ⟨rfl,rfl⟩))
  (try simp only [Exit.inBlock,Exit.then])
  exact bodyPost_ret (results_none Tryz.results73 _ _ _) rfl ⟨rfl,rfl⟩
theorem sortfunc_none (c:Nat)(f:Value)(w:World):Calls Tryz.prog 43 #[.slice none 0 c,f] w fun e w'=>e=.returned (.tuple #[])∧w'=w:=by
 have HL:=Lib.hid (len_zero w)
 have HP:=Lib.hid (pdq_none c f 0 w)
 go_enter Tryz.func43,Tryz.ntmps43
 go_wp2_with (first
  | (go_at_call 72;go_must (refine HL.out.mono ?_;rintro e w' ⟨rfl,rfl⟩))
  | (go_at_call 73;go_must (refine HP.out.mono ?_;rintro e w' ⟨rfl,rfl⟩)))
 exact bodyPost_end (results_none Tryz.results43 _ _ _) rfl ⟨rfl,rfl⟩
/-- The list of a name, sorted. -/
theorem vsort_any (v:Value)(l:List PKey)(w:World)(base:Nat)(h:w.ownsRow base 71 2 v l.length (pairCells l))(hlen:l.length≤10000000) :
  Calls Tryz.prog 43 #[v,.func (.func 44) #[] #[]] w fun e w'=>e=.returned (.tuple #[]) ∧
   (∃ l':List PKey,l'.Perm l∧(l'.Pairwise fun x y=>bl y.1 x.1=false)∧w'.ownsRow base 71 2 v l.length (pairCells l'))∧w.grownBy w' v.ownBlock:=by
 obtain ⟨h1,h2⟩:=id h
 rcases h2 with ⟨rfl,h2⟩ | ⟨g,c,cur,rfl,-⟩
 ·refine (sortfunc_none 0 _ w).mono ?_
  rintro e w' ⟨rfl,rfl⟩
  have hl:l=[]:=List.eq_nil_of_length_eq_zero h2
  subst hl
  exact ⟨rfl,⟨[],List.Perm.refl _,List.Pairwise.nil,h⟩,World.grownBy.refl _ _⟩
 ·have hsz:l.toArray.size=l.length:=by simp
  have hH:HoldsK (fun k=>[vA k,vB k]) 2 w g 0 l.toArray:=by
   rcases Nat.eq_zero_or_pos l.length with h0 | h0
   ·intro j hj
    simp [h0] at hj
   ·exact (own_holds (d:=l.toArray) (a:=vA) (b:=vB) (base:=base) (c:=c) (by rw [hsz];exact h) (by rw [hsz];exact h0)).1
  have hc:=sortvals_any g c l.toArray w hH (h.lt g rfl).2 (by rw [hsz];exact hlen)
  rw [hsz] at hc
  refine hc.mono fun e w' ⟨he,d',n,os,hp,hs,hw⟩=>?_
  subst hw
  obtain ⟨h1,h2⟩:=permIn_perm l.toArray d' (by rw [hsz];exact hp)
  refine ⟨he,⟨d'.toList,by simpa using h1,sortedIn_pairwise (fun x y:PKey=>bl x.1 y.1) d' (by rw [h2,hsz];exact hs),?_⟩,sortWorldK_grown _ _ _ _ _ _ _⟩
  exact own_sorted h (by rw [h2,hsz]) n os
end
section
open Go.RowKit

theorem steps_spot {W:World}{v:Value}{l:List PStep}{vs:List Value}(h:StepsR W v l vs){i:Nat}{b:PStep}(hb:l[i]?=some b):∃ b1 o1 c Ak ck,v=.slice (some ⟨b1,o1,none⟩) l.length c∧b1<W.heap.size∧W.cell? ⟨b1,o1+i*2,none⟩=some (.string b.1)∧W.cell? ⟨b1,o1+i*2+1,none⟩=some (.slice Ak b.2.length ck)∧vs[i]?=some (.slice Ak b.2.length ck)∧KeysAt W W.heap.size (.slice Ak b.2.length ck) b.2:=by
 obtain ⟨A,c,rfl,-,-,hR,hvl,hk⟩:=h
 have hi:=(List.getElem?_eq_some_iff.1 hb).1
 obtain ⟨kv,hkv⟩:∃ kv,vs[i]?=some kv:=⟨_,List.getElem?_eq_getElem (by omega)⟩
 obtain ⟨b1,o1,rfl,hb1,hcl⟩:=hR.spot (by omega) (by omega)
 have hat:=stepCells_at l vs i b kv hb hkv
 have hkk:=hk i b kv hb hkv
 have hkk2:=hkk
 obtain ⟨Ak,ck,rfl,-,-,-⟩:=hkk
 exact ⟨b1,o1,c,Ak,ck,rfl,hb1,hcl _ _ hat.1,hcl _ _ hat.2,hkv,hkk2⟩
end
section
open Go.RowKit

set_option maxHeartbeats 1000000 in
theorem beq_any (l m:List UInt8)(A A':Option Addr)(c c' n n':Nat)(w:World)(h1:RB w w.heap.size A l)(h2:RB w w.heap.size A' m)(hn:l.length=n)(hm:m.length=n') :
  Calls Tryz.prog 21 #[.slice A n c,.slice A' n' c'] w fun e w'=>e=.returned (.bool (decide (l=m)))∧w=w':=by
 have hc1:=conv_rb (P:=Tryz.prog) 26 9 5 c Tryz.underlying26 Tryz.underlying5 Tryz.underlying9 h1
 have hc2:=conv_rb (P:=Tryz.prog) 26 9 5 c' Tryz.underlying26 Tryz.underlying5 Tryz.underlying9 h2
 rw [hn] at hc1
 rw [hm] at hc2
 have hbq:((str l).toList == (str m).toList)=decide (l=m):=by
  rw [str_toList,str_toList,Bool.eq_iff_iff]
  simp
 obtain ⟨y,hy⟩:∃ y,decide (l=m)=y:=⟨_,rfl⟩
 rw [hy] at hbq ⊢
 obtain ⟨s1,hs1⟩:∃ s1,str l=s1:=⟨_,rfl⟩
 obtain ⟨s2,hs2⟩:∃ s2,str m=s2:=⟨_,rfl⟩
 rw [hs1] at hc1 hbq
 rw [hs2] at hc2 hbq
 clear hs1 hs2 hy h1 h2 hn hm
 go_enter Tryz.func21,Tryz.ntmps21
 go_wp2
 go_ret
 exact ⟨rfl,rfl⟩
theorem bunown_set {W:World}{h0:Nat}{x u v:Value}{l:List PStep}{vs:List Value}(hB:Blk W h0 24 #[x]){base:Nat}(hO:BunOwn W base v l vs):BunOwn (W.setCell ⟨h0,0,none⟩ u) base v l vs:=by
 have hs:=grown_set W h0 0 u
 exact ⟨own_stays3 hO.1 hB (by decide) hs,hO.2.1,fun i b ku hi hj=>own_stays3 (hO.2.2 i b ku hi hj) hB (by decide) hs⟩
end
end Go.Proofs.YthdldooilcbmlaaGreatDoor
