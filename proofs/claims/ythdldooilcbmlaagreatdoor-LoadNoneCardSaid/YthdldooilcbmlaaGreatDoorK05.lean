/-
  Texts of mine, joined: BunRows, BunBytesP, BunReadP, OctPut, OctRef, OctReader. The conditions stand with each.
-/
import Derived.Test.YthdldooilcbmlaaGreatDoorK03
import Derived.Test.YthdldooilcbmlaaGreatDoorK04
import Derived.Laws.BitsAllLaws
import Derived.Test.YthdldooilcbmlaaGreatDoorProg
import Derived.Test.YthdldooilcbmlaaGreatDoorK01
import Derived.Outline
import Derived.Lib.Hide
import Derived.Lib.SliceRun
import Derived.Deep.QuietTactic
import Derived.BigQuiet
set_option linter.unusedVariables false
set_option linter.unusedSimpArgs false
namespace Go.Proofs.YthdldooilcbmlaaGreatDoor
section
open Go.RowKit

/-- Is a text in a list? -/
def hasT (M:List ByteArray)(p:ByteArray):Bool:=M.any fun q=>decide (q=p)
theorem hasT_iff {M:List ByteArray}{p:ByteArray}:hasT M p=true↔p∈M:=by
 unfold hasT
 rw [List.any_eq_true]
 exact ⟨fun ⟨q,h1,h2⟩=>by rw [←of_decide_eq_true h2];exact h1,fun h=>⟨p,h,by simp⟩⟩
/-- The paths that have been met, with one more. -/
def addM (M:List ByteArray)(p:ByteArray):List ByteArray:=if hasT M p=true then M else M++[p]
theorem addM_mem (M:List ByteArray)(p q:ByteArray):q∈addM M p↔q=p∨q∈M:=by
 unfold addM
 split
 ·rename_i h
  exact ⟨.inr,fun h2=>h2.elim (fun e=>e ▸ hasT_iff.1 h) id⟩
 ·rw [List.mem_append,List.mem_singleton]
  exact Or.comm
theorem addM_nodup {M:List ByteArray}(h:M.Nodup)(p:ByteArray):(addM M p).Nodup:=by
 unfold addM
 split
 ·exact h
 ·rename_i hp
  rw [List.nodup_append]
  exact ⟨h,by simp,fun a ha b hb e=>hp (by rw [List.mem_singleton.1 hb] at e;exact hasT_iff.2 (e ▸ ha))⟩
theorem addM_len (M:List ByteArray)(p:ByteArray):(addM M p).length=if hasT M p=true then M.length else M.length+1:=by
 unfold addM
 split <;> simp
/-- What is wrong with a value behind a path. -/
def valE (M:List ByteArray)(ahead:ByteArray)(x:PKey):Int :=
 if x.1=ByteArray.empty∨rightB x.1=false then 2
 else if bl ahead x.1=false then 320
 else if (broken x.2).isSome=true then 6
 else if 4096<x.2.size∨(hasT M x.1=false∧M.length=16384) then 3
 else 0
/-- .. with the values of a Book: the error, and the paths that have been met. -/
def valsE:List PKey→ByteArray→List ByteArray→Int×List ByteArray
 | [],_,M=>(0,M)
 | x::r,ahead,M=>if valE M ahead x=0 then valsE r x.1 (addM M x.1) else (valE M ahead x,M)
/-- .. with a Book's name behind another one. -/
def nameE (prev:Option ByteArray)(n:ByteArray):Int :=
 if (broken n).isSome=true then 6
 else if 256<n.size then 3
 else match prev with
  | none=>0
  | some q=>if bl q n=false then 320 else 0
/-- .. with Books from a place on. -/
def booksE:List PStep→Nat→Option ByteArray→List ByteArray→Int×Int
 | [],_,_,_=>(0,0)
 | b::r,i,prev,M=>if nameE prev b.1=0 then
   (if (valsE b.2 ByteArray.empty M).1=0 then booksE r (i+1) (some b.1) (valsE b.2 ByteArray.empty M).2 else ((valsE b.2 ByteArray.empty M).1,(i:Int)))
  else (nameE prev b.1,(i:Int))
def namedN (l:List PStep):Nat:=(l.filter fun b=>decide (b.1≠ByteArray.empty)).length
/-- What is wrong with a bundle: the error, and the place. -/
def checkB (l:List PStep):Int×Int:=if 512<namedN l∨513<l.length then (3,-1) else booksE l 0 none []
theorem valE_le {M:List ByteArray}{a:ByteArray}{x:PKey}(h:valE M a x=0):x.1≠ByteArray.empty∧rightB x.1=true∧bl a x.1=true∧(broken x.2).isSome=false∧x.2.size≤4096:=by
 unfold valE at h
 split at h
 ·exact absurd h (by decide)
 ·rename_i h1
  split at h
  ·exact absurd h (by decide)
  ·rename_i h2
   split at h
   ·exact absurd h (by decide)
   ·rename_i h3
    split at h
    ·exact absurd h (by decide)
    ·rename_i h4
     refine ⟨fun e=>h1 (.inl e),?_,by simpa using h2,by simpa using h3,Nat.le_of_not_lt fun e=>h4 (.inl e)⟩
     cases hr:rightB x.1
     ·exact absurd (.inr hr) h1
     ·rfl
theorem valsE_drop {l:List PKey}{j:Nat}{x:PKey}(h:l[j]?=some x)(a:ByteArray)(M:List ByteArray):valsE (l.drop j) a M=if valE M a x=0 then valsE (l.drop (j+1)) x.1 (addM M x.1) else (valE M a x,M):=by
 obtain ⟨hj,rfl⟩:=List.getElem?_eq_some_iff.1 h
 rw [List.drop_eq_getElem_cons hj]
 rfl
theorem booksE_drop {l:List PStep}{j:Nat}{b:PStep}(h:l[j]?=some b)(i:Nat)(prev:Option ByteArray)(M:List ByteArray):booksE (l.drop j) i prev M=if nameE prev b.1=0 then
   (if (valsE b.2 ByteArray.empty M).1=0 then booksE (l.drop (j+1)) (i+1) (some b.1) (valsE b.2 ByteArray.empty M).2 else ((valsE b.2 ByteArray.empty M).1,(i:Int)))
  else (nameE prev b.1,(i:Int)):=by
 obtain ⟨hj,rfl⟩:=List.getElem?_eq_some_iff.1 h
 rw [List.drop_eq_getElem_cons hj]
 rfl
theorem namedN_step {l:List PStep}{j:Nat}{b:PStep}(h:l[j]?=some b):namedN (l.take (j+1))=namedN (l.take j)+(if b.1=ByteArray.empty then 0 else 1):=by
 unfold namedN
 rw [List.take_add_one,h,List.filter_append,List.length_append]
 congr 1
 by_cases e:b.1=ByteArray.empty
 ·simp [e]
 ·simp [e]
theorem namedN_le (l:List PStep):namedN l≤l.length:=List.length_filter_le _ _
/-- Of what is right: the Books' names rise, each Book's paths rise, are right and not empty. -/
def ValsOk (l:List PKey):Prop:=RiseL (fun x y=>bl x.1 y.1) l∧∀ x∈l,x.1≠ByteArray.empty∧rightB x.1=true∧(broken x.2).isSome=false∧x.2.size≤4096
theorem valsE_ok:∀(l:List PKey) (a:ByteArray) (M:List ByteArray),(valsE l a M).1=0→RiseL (fun x y=>bl x.1 y.1) l∧(∀ x∈l,bl a x.1=true)∧∀ x∈l,x.1≠ByteArray.empty∧rightB x.1=true∧(broken x.2).isSome=false∧x.2.size≤4096
 | [],a,M,_=>⟨List.Pairwise.nil,by simp,by simp⟩
 | x::r,a,M,h=>by
  simp only [valsE] at h
  split at h
  ·rename_i hv
   obtain ⟨v1,v2,v3,v4,v5⟩:=valE_le hv
   obtain ⟨h1,h2,h3⟩:=valsE_ok r x.1 (addM M x.1) h
   refine ⟨List.pairwise_cons.2 ⟨h2,h1⟩,fun y hy=>?_,fun y hy=>?_⟩
   ·rcases List.mem_cons.1 hy with rfl | hy
    ·exact v3
    ·exact blT.tr _ _ _ v3 (h2 y hy)
   ·rcases List.mem_cons.1 hy with rfl | hy
    ·exact ⟨v1,v2,v4,v5⟩
    ·exact h3 y hy
  ·rename_i hv
   exact absurd h hv
theorem booksE_ok:∀(l:List PStep) (i:Nat) (prev:Option ByteArray) (M:List ByteArray),(booksE l i prev M).1=0→RiseL (fun x y=>bl x.1 y.1) l∧(∀ q,prev=some q→∀ b∈l,bl q b.1=true)∧∀ b∈l,b.1.size≤256∧ValsOk b.2
 | [],i,prev,M,_=>⟨List.Pairwise.nil,by simp,by simp⟩
 | b::r,i,prev,M,h=>by
  simp only [booksE] at h
  split at h
  ·rename_i hn
   split at h
   ·rename_i hv
    obtain ⟨h1,h2,h3⟩:=booksE_ok r (i+1) (some b.1) _ h
    have hb:b.1.size≤256∧∀ q,prev=some q→bl q b.1=true:=by
     unfold nameE at hn
     split at hn
     ·exact absurd hn (by decide)
     ·split at hn
      ·exact absurd hn (by decide)
      ·rename_i hs
       refine ⟨by omega,fun q hq=>?_⟩
       subst hq
       simp only at hn
       split at hn
       ·exact absurd hn (by decide)
       ·rename_i hb
        simpa using hb
    obtain ⟨v1,-,v3⟩:=valsE_ok _ _ _ hv
    refine ⟨List.pairwise_cons.2 ⟨h2 _ rfl,h1⟩,fun q hq y hy=>?_,fun y hy=>?_⟩
    ·rcases List.mem_cons.1 hy with rfl | hy
     ·exact hb.2 q hq
     ·exact blT.tr _ _ _ (hb.2 q hq) (h2 _ rfl y hy)
    ·rcases List.mem_cons.1 hy with rfl | hy
     ·exact ⟨hb.1,v1,v3⟩
     ·exact h3 y hy
   ·rename_i hv
    exact absurd h hv
  ·rename_i hn
   exact absurd h hn
theorem checkB_ok {l:List PStep}(h:(checkB l).1=0):l.length≤513∧RiseL (fun x y=>bl x.1 y.1) l∧∀ b∈l,b.1.size≤256∧ValsOk b.2:=by
 unfold checkB at h
 split at h
 ·exact absurd h (by decide)
 ·rename_i hl
  obtain ⟨h1,-,h3⟩:=booksE_ok _ _ _ _ h
  exact ⟨by omega,h1,h3⟩
/-- The name ahead of the i-th Book. -/
def prevB (l:List PStep)(i:Nat):Option ByteArray:=if i=0 then none else (l[i-1]?).map Prod.fst
/-- Where Check's loop over the Books is. -/
def CkAt (l:List PStep)(i:Nat)(M:List ByteArray):Prop:=booksE (l.drop i) i (prevB l i) M=booksE l 0 none []
theorem ckAt_start (l:List PStep):CkAt l 0 []:=rfl
theorem prevB_next {l:List PStep}{i:Nat}{b:PStep}(h:l[i]?=some b):prevB l (i+1)=some b.1:=by
 unfold prevB
 rw [if_neg (by omega),Nat.add_sub_cancel,h]
 rfl
theorem CkAt.name {l:List PStep}{i:Nat}{M:List ByteArray}(h:CkAt l i M){b:PStep}(hb:l[i]?=some b)(hn:nameE (prevB l i) b.1≠0):booksE l 0 none []=(nameE (prevB l i) b.1,(i:Int)):=by
 unfold CkAt at h
 rw [booksE_drop hb,if_neg hn] at h
 exact h.symm
theorem CkAt.vals {l:List PStep}{i:Nat}{M:List ByteArray}(h:CkAt l i M){b:PStep}(hb:l[i]?=some b)(hn:nameE (prevB l i) b.1=0){e:Int}{M':List ByteArray}(hv:valsE b.2 ByteArray.empty M=(e,M'))(he:e≠0):booksE l 0 none []=(e,(i:Int)):=by
 unfold CkAt at h
 rw [booksE_drop hb,if_pos hn,hv,if_neg he] at h
 exact h.symm
theorem CkAt.next {l:List PStep}{i:Nat}{M:List ByteArray}(h:CkAt l i M){b:PStep}(hb:l[i]?=some b)(hn:nameE (prevB l i) b.1=0){M':List ByteArray}(hv:valsE b.2 ByteArray.empty M=(0,M')):CkAt l (i+1) M':=by
 unfold CkAt at h ⊢
 rw [booksE_drop hb,if_pos hn,hv,if_pos rfl] at h
 rw [prevB_next hb]
 exact h
theorem CkAt.done {l:List PStep}{i:Nat}{M:List ByteArray}(h:CkAt l i M)(hi:l.length≤i):booksE l 0 none []=(0,0):=by
 unfold CkAt at h
 rw [List.drop_of_length_le hi] at h
 exact h.symm
/-- Where Check's loop over a Book's values is. -/
def VkAt (vs:List PKey)(M0:List ByteArray)(j:Nat)(ahead:ByteArray)(M:List ByteArray):Prop:=valsE (vs.drop j) ahead M=valsE vs ByteArray.empty M0
theorem vkAt_start (vs:List PKey)(M:List ByteArray):VkAt vs M 0 ByteArray.empty M:=rfl
theorem VkAt.bad {vs:List PKey}{M0:List ByteArray}{j:Nat}{ahead:ByteArray}{M:List ByteArray}(h:VkAt vs M0 j ahead M){x:PKey}(hx:vs[j]?=some x)(he:valE M ahead x≠0):valsE vs ByteArray.empty M0=(valE M ahead x,M):=by
 unfold VkAt at h
 rw [valsE_drop hx,if_neg he] at h
 exact h.symm
theorem VkAt.next {vs:List PKey}{M0:List ByteArray}{j:Nat}{ahead:ByteArray}{M:List ByteArray}(h:VkAt vs M0 j ahead M){x:PKey}(hx:vs[j]?=some x)(he:valE M ahead x=0):VkAt vs M0 (j+1) x.1 (addM M x.1):=by
 unfold VkAt at h ⊢
 rw [valsE_drop hx,if_pos he] at h
 exact h
theorem VkAt.done {vs:List PKey}{M0:List ByteArray}{j:Nat}{ahead:ByteArray}{M:List ByteArray}(h:VkAt vs M0 j ahead M)(hj:vs.length≤j):valsE vs ByteArray.empty M0=(0,M):=by
 unfold VkAt at h
 rw [List.drop_of_length_le hj] at h
 exact h.symm
end
section
open Go.RowKit

/-- A path's group: the name of its first step. -/
def grp (p:ByteArray):ByteArray:=match parseM p with
 | .ok (st::_)=>st.1
 | _=>ByteArray.empty
/-- The place of a text in a list. -/
def idx (L:List ByteArray)(s:ByteArray):Nat:=L.findIdx fun x=>decide (x=s)
theorem idx_lt {L:List ByteArray}{s:ByteArray}(h:s∈L):idx L s<L.length:=List.findIdx_lt_length.2 ⟨s,h,by simp⟩
theorem idx_get {L:List ByteArray}{s:ByteArray}(h:s∈L):L[idx L s]?=some s:=by
 have hl:=idx_lt h
 rw [List.getElem?_eq_getElem hl]
 have:=List.findIdx_getElem (xs:=L) (p:=fun x=>decide (x=s)) (w:=hl)
 exact congrArg some (of_decide_eq_true this)
theorem idx_at {L:List ByteArray}(hr:RiseL bl L){i:Nat}{s:ByteArray}(h:L[i]?=some s):idx L s=i:=rise_inj blT hr (idx_get (List.mem_of_getElem? h)) h
theorem idx_mono {L:List ByteArray}(hr:RiseL bl L){s t:ByteArray}(hs:s∈L)(ht:t∈L)(h:bl s t=true):idx L s<idx L t:=by
 have h1:=idx_get hs
 have h2:=idx_get ht
 rcases Nat.lt_trichotomy (idx L s) (idx L t) with hlt | he | hgt
 ·exact hlt
 ·rw [he,h2] at h1
  cases h1
  rw [blT.irr] at h
  cases h
 ·have:=rise_at hr h2 h1 hgt
  have h3:=blT.tr _ _ _ h this
  rw [blT.irr] at h3
  cases h3
/-- All texts of a bundle, as they come; all paths. -/
def wordsB (l:List PStep):List ByteArray:=l.flatMap fun b=>b.1::b.2.flatMap fun v=>[grp v.1,v.1,v.2]
def pathsB (l:List PStep):List ByteArray:=l.flatMap fun b=>b.2.map Prod.fst
def textsP (l:List PStep):List ByteArray:=poolL bl (wordsB l)
def pathsP (l:List PStep):List ByteArray:=poolL bl (pathsB l)
/-- The groups of a Book. -/
def groupsB (vs:List PKey):List ByteArray:=poolL bl (vs.map fun v=>grp v.1)
/-- The rows of a Book and a group. -/
def rowsB (T P:List ByteArray)(vs:List PKey)(g:ByteArray):List RowI:=(vs.filter fun v=>decide (grp v.1=g)).map fun v=>((idx P v.1:Int),(idx T v.2:Int))
theorem rowsB_rise {T P:List ByteArray}(hP:RiseL bl P){vs:List PKey}(hv:RiseL (fun x y=>bl x.1 y.1) vs)(hm:∀ v∈vs,v.1∈P)(g:ByteArray):RiseL kl (rowsB T P vs g):=by
 unfold RiseL rowsB
 rw [List.pairwise_map]
 refine List.Pairwise.imp_of_mem (fun {x y} hx hy h=>?_) (List.Pairwise.filter _ hv)
 have:=idx_mono hP (hm x (List.mem_filter.1 hx).1) (hm y (List.mem_filter.1 hy).1) h
 unfold kl
 rw [decide_eq_true_eq]
 omega
theorem kl_to_rl {l:List RowI}(h:RiseL kl l):RiseL rl l:=List.Pairwise.imp (fun {a b} h=>rl_iff.2 (.inl (by unfold kl at h;exact of_decide_eq_true h))) h
theorem rowsB_pool {T P:List ByteArray}(hP:RiseL bl P){vs:List PKey}(hv:RiseL (fun x y=>bl x.1 y.1) vs)(hm:∀ v∈vs,v.1∈P)(g:ByteArray):poolL rl (rowsB T P vs g)=rowsB T P vs g:=poolL_self rlT (kl_to_rl (rowsB_rise hP hv hm g))
theorem words_name {l:List PStep}{b:PStep}(hb:b∈l):b.1∈wordsB l:=List.mem_flatMap.2 ⟨b,hb,by simp⟩
theorem words_val {l:List PStep}{b:PStep}(hb:b∈l){v:PKey}(hv:v∈b.2):grp v.1∈wordsB l∧v.1∈wordsB l∧v.2∈wordsB l:=by
 refine ⟨List.mem_flatMap.2 ⟨b,hb,List.mem_cons_of_mem _ (List.mem_flatMap.2 ⟨v,hv,by simp⟩)⟩,List.mem_flatMap.2 ⟨b,hb,List.mem_cons_of_mem _ (List.mem_flatMap.2 ⟨v,hv,by simp⟩)⟩,List.mem_flatMap.2 ⟨b,hb,List.mem_cons_of_mem _ (List.mem_flatMap.2 ⟨v,hv,by simp⟩)⟩⟩
theorem paths_val {l:List PStep}{b:PStep}(hb:b∈l){v:PKey}(hv:v∈b.2):v.1∈pathsB l:=List.mem_flatMap.2 ⟨b,hb,List.mem_map.2 ⟨v,hv,rfl⟩⟩
/-- The tables of a bundle, as they come; each once. -/
def allTabs (T P:List ByteArray)(l:List PStep):List (List RowI):=l.flatMap fun b=>(groupsB b.2).map fun g=>rowsB T P b.2 g
def tabsB (l:List PStep):List (List RowI):=poolL tl (allTabs (textsP l) (pathsP l) l)
/-- The place of a table in a list. -/
def tix (L:List (List RowI))(t:List RowI):Nat:=L.findIdx fun x=>decide (x=t)
theorem tix_get {L:List (List RowI)}{t:List RowI}(h:t∈L):L[tix L t]?=some t:=by
 have hl:tix L t<L.length:=List.findIdx_lt_length.2 ⟨t,h,by simp⟩
 rw [List.getElem?_eq_getElem hl]
 have:=List.findIdx_getElem (xs:=L) (p:=fun x=>decide (x=t)) (w:=hl)
 exact congrArg some (of_decide_eq_true this)
theorem tix_at {L:List (List RowI)}(hr:RiseL tl L){i:Nat}{t:List RowI}(h:L[i]?=some t):tix L t=i:=rise_inj tlT hr (tix_get (List.mem_of_getElem? h)) h
/-- A bundle's bytes, but for the checksum. -/
def textBy (s:ByteArray):List UInt8:=le 4 s.size++s.data.toList
def tabBy (t:List RowI):List UInt8:=le 4 t.length++t.flatMap fun r=>le 4 r.1.toNat++le 4 r.2.toNat
def bookBy (T P:List ByteArray)(tabs:List (List RowI))(b:PStep):List UInt8:=le 4 (idx T b.1)++le 4 (groupsB b.2).length++(groupsB b.2).flatMap fun g=>le 4 (idx T g)++le 4 (tix tabs (rowsB T P b.2 g))
def bodyB (l:List PStep):List UInt8 :=
 [86,82,78,67]++le 2 1++le 4 (textsP l).length++(textsP l).flatMap textBy++le 4 (pathsP l).length++((pathsP l).flatMap fun s=>le 4 (idx (textsP l) s)) ++
  le 4 (tabsB l).length++(tabsB l).flatMap tabBy++le 4 l.length++l.flatMap (bookBy (textsP l) (pathsP l) (tabsB l))
end
section
open Go.RowKit

section
variable {α:Type}
/-- An entry: the key, the row's slice, what the row holds. -/
abbrev REnt (α:Type):=ByteArray×Value×List α
def lookF (ps:List (REnt α)):ByteArray→Option Value:=fun s=>(ps.find? fun p=>decide (p.1=s)).map fun p=>p.2.1
/-- An entry's row, where there is one. -/
def lookR (ps:List (REnt α))(s:ByteArray):List α:=((ps.find? fun p=>decide (p.1=s)).map fun p=>p.2.2).getD []
def updM (ps:List (REnt α))(s:ByteArray)(v:Value)(xs:List α):List (REnt α):=match ps with
 | []=>[(s,v,xs)]
 | p::r=>if p.1=s then (s,v,xs)::r else p::updM r s v xs
theorem lookF_upd:∀(ps:List (REnt α)) (s:ByteArray) (v:Value) (xs:List α),lookF (updM ps s v xs)=putMF (lookF ps) s v
 | [],s,v,xs=>by
  funext t
  unfold lookF putMF updM
  by_cases h:t=s
  ·subst h;simp
  ·rw [if_neg h]
   simp [Ne.symm h]
 | p::r,s,v,xs=>by
  have ih:=lookF_upd r s v xs
  funext t
  have ih2:=congrFun ih t
  unfold lookF putMF at ih2 ⊢
  unfold updM
  by_cases h:p.1=s
  ·rw [if_pos h]
   by_cases e:t=s
   ·subst e;simp
   ·rw [if_neg e]
    have h1:¬ p.1=t:=fun h2=>e (h2.symm.trans h)
    simp [h1,Ne.symm e]
  ·rw [if_neg h]
   by_cases e:p.1=t
   ·have h1:¬ t=s:=fun h2=>h (e.trans h2)
    simp [e,h1]
   ·simp only [List.find?_cons,decide_eq_false e]
    exact ih2
theorem lookR_upd:∀(ps:List (REnt α)) (s:ByteArray) (v:Value) (xs:List α) (t:ByteArray),lookR (updM ps s v xs) t=if t=s then xs else lookR ps t
 | [],s,v,xs,t=>by
  unfold lookR updM
  by_cases h:t=s
  ·subst h;simp
  ·simp [h,Ne.symm h]
 | p::r,s,v,xs,t=>by
  have ih:=lookR_upd r s v xs t
  unfold lookR at ih ⊢
  unfold updM
  by_cases h:p.1=s
  ·rw [if_pos h]
   by_cases e:t=s
   ·subst e;simp
   ·rw [if_neg e]
    have h1:¬ p.1=t:=fun h2=>e (h2.symm.trans h)
    simp [h1,Ne.symm e]
  ·rw [if_neg h]
   by_cases e:p.1=t
   ·have h1:¬ t=s:=fun h2=>h (e.trans h2)
    simp [e,h1]
   ·simp only [List.find?_cons,decide_eq_false e]
    exact ih
theorem updM_keys:∀(ps:List (REnt α)) (s:ByteArray) (v:Value) (xs:List α),(updM ps s v xs).map (fun p=>p.1)=if (lookF ps s).isSome=true then ps.map (fun p=>p.1) else ps.map (fun p=>p.1)++[s]
 | [],s,v,xs=>by simp [updM,lookF]
 | p::r,s,v,xs=>by
  have ih:=updM_keys r s v xs
  unfold updM
  by_cases h:p.1=s
  ·rw [if_pos h,if_pos (by simp [lookF,h])]
   simp [h]
  ·rw [if_neg h,List.map_cons,ih]
   have hl:lookF (p::r) s=lookF r s:=by unfold lookF;simp [h]
   rw [hl]
   by_cases e:(lookF r s).isSome=true
   ·rw [if_pos e,if_pos e]
    rfl
   ·rw [if_neg e,if_neg e]
    rfl
theorem lookF_none {ps:List (REnt α)}{s:ByteArray}:lookF ps s=none↔s ∉ ps.map (fun p=>p.1):=by
 unfold lookF
 rw [Option.map_eq_none_iff,List.find?_eq_none]
 simp only [decide_eq_true_eq,List.mem_map,not_exists,not_and]
theorem lookR_none {ps:List (REnt α)}{s:ByteArray}(h:s ∉ ps.map (fun p=>p.1)):lookR ps s=[]:=by
 have:=lookF_none.2 h
 unfold lookF at this
 rw [Option.map_eq_none_iff] at this
 unfold lookR
 rw [this]
 rfl
theorem look_some {ps:List (REnt α)}{s:ByteArray}{v:Value}(h:lookF ps s=some v):(s,v,lookR ps s)∈ps:=by
 unfold lookF at h
 unfold lookR
 cases hf:ps.find? fun p=>decide (p.1=s) with
 | none=>rw [hf] at h;cases h
 | some p =>
  rw [hf] at h
  have h1:=List.mem_of_find?_eq_some hf
  have h2:p.1=s:=by simpa using List.find?_some hf
  simp only [Option.map_some,Option.some.injEq] at h
  obtain ⟨k,u,ys⟩:=p
  simp only at h h2
  subst h h2
  exact h1
/-- Rows that have a block each. -/
def Apart (ps:List (REnt α)):Prop:=ps.Pairwise fun p q=>∀ k,p.2.1.ownBlock=some k→q.2.1.ownBlock≠some k
theorem apart_upd {ps:List (REnt α)}(h:Apart ps){s:ByteArray}{v:Value}{xs:List α}{n:Nat}(hlt:∀ p∈ps,∀ k,p.2.1.ownBlock=some k→k<n)(hv:(∃ u,lookF ps s=some u∧v.ownBlock=u.ownBlock)∨v.ownBlock=some n∨v.ownBlock=none):Apart (updM ps s v xs)∧∀ p∈updM ps s v xs,p∈ps∨p.2.1=v:=by
 induction ps with
 | nil=>exact ⟨List.pairwise_singleton _ _,fun p hp=>by simp only [updM,List.mem_singleton] at hp;exact .inr (by rw [hp])⟩
 | cons p r ih =>
  obtain ⟨h1,h2⟩:=List.pairwise_cons.1 h
  have hlr:∀ q∈r,∀ k,q.2.1.ownBlock=some k→k<n:=fun q hq=>hlt q (List.mem_cons_of_mem _ hq)
  unfold updM
  by_cases e:p.1=s
  ·rw [if_pos e]
   refine ⟨List.pairwise_cons.2 ⟨fun q hq k hk hk2=>?_,h2⟩,fun q hq=>?_⟩
   ·simp only at hk
    rcases hv with ⟨u,hu,hvu⟩ | hv | hv
    ·have:u=p.2.1:=by
      unfold lookF at hu
      simp [e] at hu
      exact hu.symm
     rw [hvu,this] at hk
     exact h1 q hq k hk hk2
    ·rw [hv] at hk
     cases hk
     exact absurd (hlr q hq _ hk2) (Nat.lt_irrefl _)
    ·rw [hv] at hk
     cases hk
   ·rcases List.mem_cons.1 hq with rfl | hq
    ·exact .inr rfl
    ·exact .inl (List.mem_cons_of_mem _ hq)
  ·rw [if_neg e]
   have hv2:(∃ u,lookF r s=some u∧v.ownBlock=u.ownBlock)∨v.ownBlock=some n∨v.ownBlock=none:=by
    refine hv.imp (fun ⟨u,hu,hvu⟩=>⟨u,?_,hvu⟩) id
    unfold lookF at hu ⊢
    simpa [e] using hu
   obtain ⟨i1,i2⟩:=ih h2 hlr hv2
   refine ⟨List.pairwise_cons.2 ⟨fun q hq k hk hk2=>?_,i1⟩,fun q hq=>?_⟩
   ·rcases i2 q hq with hq | hq
    ·exact h1 q hq k hk hk2
    ·rw [hq] at hk2
     rcases hv2 with ⟨u,hu,hvu⟩ | hv2 | hv2
     ·rw [hvu] at hk2
      exact h1 _ (look_some hu) k hk hk2
     ·rw [hv2] at hk2
      cases hk2
      exact absurd (hlt p (List.mem_cons_self) _ hk) (Nat.lt_irrefl _)
     ·rw [hv2] at hk2
      cases hk2
   ·rcases List.mem_cons.1 hq with rfl | hq
    ·exact .inl (List.mem_cons_self)
    ·exact (i2 q hq).imp (List.mem_cons_of_mem _) id
/-- A map at block b of rows of their own. -/
def RowMap (P:Program)(kt:TypeId)(B:Nat)(e:TypeId)(size:Nat)(enc:List α→List Value)(w:World)(b cap:Nat)(ps:List (REnt α)):Prop :=
 MapG P kt strL strOk w b cap ps.length (lookF ps)∧(ps.map fun p=>p.1).Nodup∧(∀ p∈ps,w.ownsRow B e size p.2.1 p.2.2.length (enc p.2.2))∧Apart ps
variable {P:Program} {kt:TypeId} {B:Nat} {e:TypeId} {size:Nat} {enc:List α→List Value} {w w':World} {b cap:Nat} {ps:List (REnt α)}
theorem RowMap.made (w:World):RowMap P kt B e size enc (w.alloc (.map #[] 0)) w.heap.size 0 ([]:List (REnt α)) :=
 ⟨MapG.made w P kt strL strOk,List.nodup_nil,(by simp),List.Pairwise.nil⟩
theorem RowMap.on (h:RowMap P kt B e size enc w b cap ps)(hb:Below w.heap.size w w'):RowMap P kt B e size enc w' b cap ps :=
 ⟨h.1.on hb,h.2.1,fun p hp=>own_more (h.2.2.1 p hp) hb,h.2.2.2⟩
theorem RowMap.alloc (h:RowMap P kt B e size enc w b cap ps)(o:Obj):RowMap P kt B e size enc (w.alloc o) b cap ps :=
 h.on ((Below.refl _ w).alloc (Nat.le_refl _) o)
theorem RowMap.kept {row:Option Nat}(h:RowMap P kt B e size enc w b cap ps)(hg:w.grownBy w' row)(hne:some b≠row)(hr:∀ p∈ps,p.2.1.ownBlock=none∨p.2.1.ownBlock≠row):RowMap P kt B e size enc w' b cap ps :=
 ⟨h.1.kept hg hne,h.2.1,fun p hp=>(h.2.2.1 p hp).kept hg (hr p hp),h.2.2.2⟩
theorem RowMap.lt (h:RowMap P kt B e size enc w b cap ps){p:REnt α}(hp:p∈ps){k:Nat}(hk:p.2.1.ownBlock=some k):B≤k∧k<w.heap.size:=(h.2.2.1 p hp).lt k hk
theorem updM_len (ps:List (REnt α))(s:ByteArray)(v:Value)(xs:List α):(updM ps s v xs).length=if (lookF ps s).isSome=true then ps.length else ps.length+1:=by
 have h:=congrArg List.length (updM_keys ps s v xs)
 rw [List.length_map] at h
 rw [h]
 split <;> simp
theorem updM_nodup {ps:List (REnt α)}(h:(ps.map fun p=>p.1).Nodup)(s:ByteArray)(v:Value)(xs:List α):((updM ps s v xs).map fun p=>p.1).Nodup:=by
 rw [updM_keys]
 split
 ·exact h
 ·rename_i hs
  have hs2:lookF ps s=none:=by
   cases hl:lookF ps s with
   | none=>rfl
   | some v=>rw [hl] at hs;exact absurd rfl hs
  exact List.nodup_append.2 ⟨h,by simp,fun a ha b hb e=>lookF_none.1 hs2 (by rw [List.mem_singleton.1 hb] at e;exact e ▸ ha)⟩
theorem updM_mem {ps:List (REnt α)}(h:(ps.map fun p=>p.1).Nodup){s:ByteArray}{v:Value}{xs:List α}{p:REnt α}(hp:p∈updM ps s v xs):p=(s,v,xs)∨(p∈ps∧p.1≠s):=by
 induction ps with
 | nil=>simp only [updM,List.mem_singleton] at hp;exact .inl hp
 | cons q r ih =>
  rw [List.map_cons] at h
  obtain ⟨h1,h2⟩:=List.nodup_cons.1 h
  unfold updM at hp
  by_cases e:q.1=s
  ·rw [if_pos e] at hp
   rcases List.mem_cons.1 hp with rfl | hp
   ·exact .inl rfl
   ·exact .inr ⟨List.mem_cons_of_mem _ hp,fun e2=>h1 (by rw [e,←e2];exact List.mem_map.2 ⟨p,hp,rfl⟩)⟩
  ·rw [if_neg e] at hp
   rcases List.mem_cons.1 hp with rfl | hp
   ·exact .inr ⟨List.mem_cons_self,e⟩
   ·exact (ih h2 hp).imp id fun ⟨h3,h4⟩=>⟨List.mem_cons_of_mem _ h3,h4⟩
/-- A row that has grown, stored at its key: w is the world ahead of the append, w1 behind it, w2 behind the store. -/
theorem RowMap.put {w1 w2:World}(h:RowMap P kt B e size enc w b cap ps)(hbm:∀ p∈ps,p.2.1.ownBlock≠some b){s:ByteArray}{u v:Value}{xs:List α}{cap' m':Nat}
  (hu:(lookF ps s).getD (.slice none 0 0)=u)(hg:w.grownBy w1 u.ownBlock)(hown:w1.ownsRow B e size v xs.length (enc xs))(hv:v.ownBlock=u.ownBlock∨v.ownBlock=some w.heap.size)
  (hM:MapG P kt strL strOk w2 b cap' m' (putMF (lookF ps) s v))(hm':m'=if (lookF ps s).isSome then ps.length else ps.length+1)(hg2:w1.grownBy w2 (some b))(hbv:v.ownBlock≠some b):RowMap P kt B e size enc w2 b cap' (updM ps s v xs):=by
 have hun:lookF ps s=none→u.ownBlock=none:=fun hn=>by rw [←hu,hn];rfl
 obtain ⟨a1,a2⟩:=apart_upd (s:=s) (v:=v) (xs:=xs) h.2.2.2 (n:=w.heap.size) (fun p hp k hk=>(h.lt hp hk).2) (by
  rcases hv with hv | hv
  ·cases hl:lookF ps s with
   | none=>exact .inr (.inr (by rw [hv];exact hun hl))
   | some u' =>
    refine .inl ⟨u',rfl,?_⟩
    rw [hl] at hu
    rw [hv,←hu]
    rfl
  ·exact .inr (.inl hv))
 refine ⟨?_,updM_nodup h.2.1 s v xs,fun p hp=>?_,a1⟩
 ·rw [lookF_upd,updM_len,←hm']
  exact hM
 ·rcases updM_mem h.2.1 hp with rfl | ⟨hp,hne⟩
  ·refine hown.kept hg2 ?_
   cases hvb:v.ownBlock with
   | none=>exact .inl rfl
   | some k=>exact .inr fun e=>hbv (by rw [hvb];exact e)
  ·refine ((h.2.2.1 p hp).kept hg ?_).kept hg2 (.inr (hbm p hp))
   cases hk:p.2.1.ownBlock with
   | none=>exact .inl rfl
   | some k =>
    refine .inr fun e=>?_
    cases hl:lookF ps s with
    | none=>rw [hun hl] at e;cases e
    | some u' =>
     have hu':u'=u:=by rw [hl] at hu;exact hu
     have hmem:=look_some hl
     rw [hu'] at hmem
     have hpq:p≠(s,u,lookR ps s):=fun e2=>hne (by rw [e2])
     have hpw:=h.2.2.2
     obtain ⟨i,hi⟩:=List.mem_iff_getElem?.1 hp
     obtain ⟨j,hj⟩:=List.mem_iff_getElem?.1 hmem
     obtain ⟨hi1,hi2⟩:=List.getElem?_eq_some_iff.1 hi
     obtain ⟨hj1,hj2⟩:=List.getElem?_eq_some_iff.1 hj
     have hpw2:=List.pairwise_iff_getElem.1 hpw
     rcases Nat.lt_trichotomy i j with hlt | heq | hgt
     ·have:=hpw2 i j hi1 hj1 hlt k (by rw [hi2];exact hk)
      rw [hj2] at this
      exact this e.symm
     ·subst heq
      rw [hi] at hj
      exact hpq (Option.some.inj hj)
     ·have:=hpw2 j i hj1 hi1 hgt k (by rw [hj2];exact e.symm)
      rw [hi2] at this
      exact this hk
end
end
section
open Go.RowKit

/-- What the rows of a Book are, j values being read. -/
def GrAt (T P:List ByteArray)(vs:List PKey)(j:Nat)(ps:List (REnt RowI)):Prop :=
 (∀ g,lookR ps g=rowsB T P (vs.take j) g)∧(∀ g,g∈ps.map (fun p=>p.1)↔g∈(vs.take j).map fun v=>grp v.1)∧ps.length≤j
theorem grAt_start (T P:List ByteArray)(vs:List PKey):GrAt T P vs 0 []:=⟨fun g=>rfl,fun g=>by simp,Nat.le_refl _⟩
theorem rowsB_next (T P:List ByteArray){vs:List PKey}{j:Nat}{x:PKey}(hx:vs[j]?=some x)(g:ByteArray):rowsB T P (vs.take (j+1)) g=if g=grp x.1 then rowsB T P (vs.take j) g++[((idx P x.1:Int),(idx T x.2:Int))] else rowsB T P (vs.take j) g:=by
 unfold rowsB
 rw [List.take_add_one,hx,List.filter_append,List.map_append]
 by_cases h:g=grp x.1
 ·rw [if_pos h]
  simp [h]
 ·rw [if_neg h]
  simp [Ne.symm h]
theorem GrAt.next {T P:List ByteArray}{vs:List PKey}{j:Nat}{ps:List (REnt RowI)}(h:GrAt T P vs j ps){x:PKey}(hx:vs[j]?=some x)(v:Value):GrAt T P vs (j+1) (updM ps (grp x.1) v (lookR ps (grp x.1)++[((idx P x.1:Int),(idx T x.2:Int))])):=by
 refine ⟨fun g=>?_,fun g=>?_,?_⟩
 ·rw [lookR_upd,rowsB_next T P hx]
  by_cases e:g=grp x.1
  ·rw [if_pos e,if_pos e,e,h.1]
  ·rw [if_neg e,if_neg e,h.1]
 ·rw [updM_keys,List.take_add_one,hx,List.map_append,List.mem_append,←h.2.1 g]
  simp only [Option.toList_some,List.map_cons,List.map_nil,List.mem_singleton]
  split
  ·rename_i hs
   refine ⟨.inl,fun hh=>hh.elim id fun e=>?_⟩
   rw [e]
   cases hl:lookF ps (grp x.1) with
   | none=>rw [hl] at hs;cases hs
   | some u=>exact List.mem_map.2 ⟨_,look_some hl,rfl⟩
  ·rw [List.mem_append,List.mem_singleton]
 ·rw [updM_len]
  have:=h.2.2
  split <;> omega
theorem GrAt.groups {T P:List ByteArray}{vs:List PKey}{ps:List (REnt RowI)}(h:GrAt T P vs vs.length ps):poolL bl (ps.map fun p=>p.1)=groupsB vs:=by
 refine poolL_congr blT fun g=>?_
 rw [h.2.1 g,List.take_length]
theorem GrAt.row {T P:List ByteArray}{vs:List PKey}{ps:List (REnt RowI)}(h:GrAt T P vs vs.length ps)(g:ByteArray):lookR ps g=rowsB T P vs g:=by
 rw [h.1 g,List.take_length]
theorem rowsB_some {T P:List ByteArray}{vs:List PKey}{g:ByteArray}(h:g∈groupsB vs):0<(rowsB T P vs g).length:=by
 unfold groupsB at h
 rw [poolL_mem,List.mem_map] at h
 obtain ⟨v,hv,e⟩:=h
 refine List.length_pos_of_mem (a:=((idx P v.1:Int),(idx T v.2:Int))) ?_
 exact List.mem_map.2 ⟨v,List.mem_filter.2 ⟨hv,by simpa using e⟩,rfl⟩
end
section
open Go.RowKit

theorem le4_split {x y:Nat}{r s:List UInt8}(hx:x<4294967296)(hy:y<4294967296)(h:le 4 x++r=le 4 y++s):x=y∧r=s:=by
 obtain ⟨h1,h2⟩:=List.append_inj h (by rw [le_len,le_len])
 refine ⟨?_,h2⟩
 have:=congrArg num h1
 rw [num_le,num_le,show 256^4=4294967296 from rfl,Nat.mod_eq_of_lt hx,Nat.mod_eq_of_lt hy] at this
 exact this
/-- What is put by f can be parted from what stands behind it. -/
def Parts {α:Type}(f f':α→List UInt8)(S S':α→Prop):Prop:=∀ x y r s,S x→S' y→f x++r=f' y++s→x=y∧r=s
theorem parts_list {α:Type}{f f':α→List UInt8}{S S':α→Prop}(h:Parts f f' S S'):∀(l m:List α) (r s:List UInt8),l.length=m.length→(∀ x∈l,S x)→(∀ x∈m,S' x)→l.flatMap f++r=m.flatMap f'++s→l=m∧r=s
 | [],[],r,s,_,_,_,e=>⟨rfl,e⟩
 | x::l,y::m,r,s,hl,hx,hy,e=>by
  rw [List.flatMap_cons,List.flatMap_cons,List.append_assoc,List.append_assoc] at e
  obtain ⟨e1,e2⟩:=h x y _ _ (hx x (by simp)) (hy y (by simp)) e
  obtain ⟨e3,e4⟩:=parts_list h l m r s (by simpa using hl) (fun z hz=>hx z (by simp [hz])) (fun z hz=>hy z (by simp [hz])) e2
  exact ⟨by rw [e1,e3],e4⟩
 | [],_::_,_,_,hl,_,_,_=>by simp at hl
 | _::_,[],_,_,hl,_,_,_=>by simp at hl
theorem textBy_parts:Parts textBy textBy (fun s=>s.size<4294967296) (fun s=>s.size<4294967296):=by
 intro x y r s hx hy e
 unfold textBy at e
 rw [List.append_assoc,List.append_assoc] at e
 obtain ⟨h1,h2⟩:=le4_split hx hy e
 obtain ⟨h3,h4⟩:=List.append_inj h2 (by rw [←Lib.size_eq,←Lib.size_eq,h1])
 exact ⟨ByteArray.ext (Array.toList_inj.1 h3),h4⟩
def RowSm (r:RowI):Prop:=(0≤r.1∧r.1<4294967296)∧0≤r.2∧r.2<4294967296
theorem rowBy_parts:Parts (fun r:RowI=>le 4 r.1.toNat++le 4 r.2.toNat) (fun r:RowI=>le 4 r.1.toNat++le 4 r.2.toNat) RowSm RowSm:=by
 intro x y r s hx hy e
 obtain ⟨⟨a1,a2⟩,a3,a4⟩:=hx
 obtain ⟨⟨b1,b2⟩,b3,b4⟩:=hy
 simp only [List.append_assoc] at e
 obtain ⟨h1,h2⟩:=le4_split (by omega) (by omega) e
 obtain ⟨h3,h4⟩:=le4_split (by omega) (by omega) h2
 exact ⟨Prod.ext (by omega) (by omega),h4⟩
def TabSm (t:List RowI):Prop:=t.length<4294967296∧∀ r∈t,RowSm r
theorem tabBy_parts:Parts tabBy tabBy TabSm TabSm:=by
 intro x y r s hx hy e
 unfold tabBy at e
 rw [List.append_assoc,List.append_assoc] at e
 obtain ⟨h1,h2⟩:=le4_split hx.1 hy.1 e
 exact parts_list rowBy_parts x y r s h1 hx.2 hy.2 h2
theorem idx_inj {L:List ByteArray}{s t:ByteArray}(hs:s∈L)(ht:t∈L)(h:idx L s=idx L t):s=t:=by
 have h1:=idx_get hs
 rw [h,idx_get ht] at h1
 exact (Option.some.inj h1).symm
theorem tix_inj {L:List (List RowI)}{s t:List RowI}(hs:s∈L)(ht:t∈L)(h:tix L s=tix L t):s=t:=by
 have h1:=tix_get hs
 rw [h,tix_get ht] at h1
 exact (Option.some.inj h1).symm
theorem tix_lt {L:List (List RowI)}{t:List RowI}(h:t∈L):tix L t<L.length:=(List.getElem?_eq_some_iff.1 (tix_get h)).1
theorem idxBy_parts {T:List ByteArray}(hT:T.length<4294967296):Parts (fun s=>le 4 (idx T s)) (fun s=>le 4 (idx T s)) (fun s=>s∈T) (fun s=>s∈T):=by
 intro x y r s hx hy e
 obtain ⟨h1,h2⟩:=le4_split (Nat.lt_trans (idx_lt hx) hT) (Nat.lt_trans (idx_lt hy) hT) e
 exact ⟨idx_inj hx hy h1,h2⟩
/-- A Book whose texts, paths and tables stand where they must. -/
def BookIn (T P:List ByteArray)(tabs:List (List RowI))(b:PStep):Prop:=b.1∈T∧(groupsB b.2).length<4294967296∧(∀ g∈groupsB b.2,g∈T∧rowsB T P b.2 g∈tabs)∧(∀ v∈b.2,v.1∈P∧v.2∈T)∧RiseL (fun x y=>bl x.1 y.1) b.2
theorem rowsB_mem {T P:List ByteArray}{vs:List PKey}{g:ByteArray}{r:RowI}:r∈rowsB T P vs g↔∃ v∈vs,grp v.1=g∧r=((idx P v.1:Int),(idx T v.2:Int)):=by
 unfold rowsB
 simp only [List.mem_map,List.mem_filter,decide_eq_true_eq]
 exact ⟨fun ⟨v,⟨h1,h2⟩,h3⟩=>⟨v,h1,h2,h3.symm⟩,fun ⟨v,h1,h2,h3⟩=>⟨v,⟨h1,h2⟩,h3.symm⟩⟩
theorem groups_mem {vs:List PKey}{v:PKey}(hv:v∈vs):grp v.1∈groupsB vs:=(poolL_mem _ _).2 (List.mem_map.2 ⟨v,hv,rfl⟩)
theorem vals_sub {T P:List ByteArray}{vs us:List PKey}(h1:∀ v∈vs,v.1∈P∧v.2∈T)(h2:∀ v∈us,v.1∈P∧v.2∈T)(he:∀ g∈groupsB vs,rowsB T P vs g=rowsB T P us g):∀ v∈vs,v∈us:=by
 intro v hv
 have hr:((idx P v.1:Int),(idx T v.2:Int))∈rowsB T P vs (grp v.1):=rowsB_mem.2 ⟨v,hv,rfl,rfl⟩
 rw [he _ (groups_mem hv)] at hr
 obtain ⟨u,hu,-,e⟩:=rowsB_mem.1 hr
 have e1:idx P v.1=idx P u.1:=by have:=congrArg Prod.fst e;simp only at this;omega
 have e2:idx T v.2=idx T u.2:=by have:=congrArg Prod.snd e;simp only at this;omega
 have:v=u:=Prod.ext (idx_inj (h1 v hv).1 (h2 u hu).1 e1) (idx_inj (h1 v hv).2 (h2 u hu).2 e2)
 rw [this];exact hu
theorem rise_same {vs us:List PKey}(h1:RiseL (fun x y=>bl x.1 y.1) vs)(h2:RiseL (fun x y=>bl x.1 y.1) us)(h:∀ v,v∈vs↔v∈us):vs=us:=by
 have irr:∀ x:PKey,bl x.1 x.1=false:=fun x=>blT.irr x.1
 have nd:∀ {l:List PKey},RiseL (fun x y=>bl x.1 y.1) l→l.Nodup:=fun {l} hl=>List.Pairwise.imp (fun {a b} hab e=>by simp only at hab;rw [e,irr] at hab;cases hab) hl
 refine perm_rising (fun x y:PKey=>bl x.1 y.1) us vs ((List.perm_ext_iff_of_nodup (nd h1) (nd h2)).2 h) h2 (List.Pairwise.imp (fun {a b} hab=>?_) h1)
 cases hba:bl b.1 a.1 with
 | false=>rfl
 | true =>
  have:=blT.tr _ _ _ hab hba
  rw [blT.irr] at this
  cases this
theorem bookBy_parts {T P:List ByteArray}{tabs:List (List RowI)}(hT:T.length<4294967296)(hN:tabs.length<4294967296):Parts (bookBy T P tabs) (bookBy T P tabs) (BookIn T P tabs) (BookIn T P tabs):=by
 intro x y r s hx hy e
 obtain ⟨a1,a2,a3,a4,a5⟩:=hx
 obtain ⟨b1,b2,b3,b4,b5⟩:=hy
 unfold bookBy at e
 simp only [List.append_assoc] at e
 obtain ⟨h1,h2⟩:=le4_split (Nat.lt_trans (idx_lt a1) hT) (Nat.lt_trans (idx_lt b1) hT) e
 obtain ⟨h3,h4⟩:=le4_split a2 b2 h2
 have hp:Parts (fun g=>le 4 (idx T g)++le 4 (tix tabs (rowsB T P x.2 g))) (fun g=>le 4 (idx T g)++le 4 (tix tabs (rowsB T P y.2 g))) (fun g=>g∈groupsB x.2) (fun g=>g∈groupsB y.2):=by
  intro g k r s hg hk e
  simp only [List.append_assoc] at e
  obtain ⟨k1,k2⟩:=le4_split (Nat.lt_trans (idx_lt (a3 g hg).1) hT) (Nat.lt_trans (idx_lt (b3 k hk).1) hT) e
  obtain ⟨k3,k4⟩:=le4_split (Nat.lt_trans (tix_lt (a3 g hg).2) hN) (Nat.lt_trans (tix_lt (b3 k hk).2) hN) k2
  exact ⟨idx_inj (a3 g hg).1 (b3 k hk).1 k1,k4⟩
 obtain ⟨h5,h6⟩:=parts_list hp _ _ r s h3 (fun _ h=>h) (fun _ h=>h) h4
 refine ⟨Prod.ext (idx_inj a1 b1 h1) ?_,h6⟩
 have hrow:∀ g∈groupsB x.2,rowsB T P x.2 g=rowsB T P y.2 g:=by
  intro g hg
  have hq:∀(l:List ByteArray) (r s:List UInt8),(∀ g∈l,g∈groupsB x.2)→(l.flatMap fun g=>le 4 (idx T g)++le 4 (tix tabs (rowsB T P x.2 g)))++r=(l.flatMap fun g=>le 4 (idx T g)++le 4 (tix tabs (rowsB T P y.2 g)))++s→∀ g∈l,rowsB T P x.2 g=rowsB T P y.2 g:=by
   intro l
   induction l with
   | nil=>intro r s _ _ g hg;cases hg
   | cons k l ih =>
    intro r s hl e g hg
    rw [List.flatMap_cons,List.flatMap_cons] at e
    simp only [List.append_assoc] at e
    have hk:=hl k (by simp)
    obtain ⟨k1,k2⟩:=le4_split (Nat.lt_trans (idx_lt (a3 k hk).1) hT) (Nat.lt_trans (idx_lt (a3 k hk).1) hT) e
    obtain ⟨k3,k4⟩:=le4_split (Nat.lt_trans (tix_lt (a3 k hk).2) hN) (Nat.lt_trans (tix_lt (b3 k (by rw [←h5];exact hk)).2) hN) k2
    rcases List.mem_cons.1 hg with rfl | hg
    ·exact tix_inj (a3 g hk).2 (b3 g (by rw [←h5];exact hk)).2 k3
    ·exact ih r s (fun z hz=>hl z (by simp [hz])) k4 g hg
  refine hq (groupsB x.2) r s (fun _ h=>h) ?_ g hg
  rw [h4,h5]
 have hrow2:∀ g∈groupsB y.2,rowsB T P y.2 g=rowsB T P x.2 g:=fun g hg=>(hrow g (by rw [h5];exact hg)).symm
 exact rise_same a5 b5 fun v=>⟨fun hv=>vals_sub a4 b4 hrow v hv,fun hv=>vals_sub b4 a4 hrow2 v hv⟩
/-- A bundle whose numbers have room in four bytes. -/
def BunSm (l:List PStep):Prop:=l.length<4294967296∧(textsP l).length<4294967296∧(pathsP l).length<4294967296∧(tabsB l).length<4294967296∧(∀ s∈textsP l,s.size<4294967296)∧(∀ t∈tabsB l,TabSm t)∧(∀ b∈l,(groupsB b.2).length<4294967296)
theorem book_in {l:List PStep}(h:(checkB l).1=0)(hs:BunSm l){b:PStep}(hb:b∈l):BookIn (textsP l) (pathsP l) (tabsB l) b:=by
 obtain ⟨-,-,h3⟩:=checkB_ok h
 refine ⟨(poolL_mem _ _).2 (words_name hb),hs.2.2.2.2.2.2 b hb,fun g hg=>⟨?_,?_⟩,fun v hv=>⟨(poolL_mem _ _).2 (paths_val hb hv),(poolL_mem _ _).2 (words_val hb hv).2.2⟩,(h3 b hb).2.1⟩
 ·have hg2:=(poolL_mem _ _).1 hg
  obtain ⟨v,hv,rfl⟩:=List.mem_map.1 hg2
  exact (poolL_mem _ _).2 (words_val hb hv).1
 ·exact (poolL_mem _ _).2 (List.mem_flatMap.2 ⟨b,hb,List.mem_map.2 ⟨g,hg,rfl⟩⟩)
theorem paths_words {l:List PStep}{s:ByteArray}(h:s∈pathsP l):s∈textsP l:=by
 obtain ⟨b,hb,hs⟩:=List.mem_flatMap.1 ((poolL_mem _ _).1 h)
 obtain ⟨v,hv,rfl⟩:=List.mem_map.1 hs
 exact (poolL_mem _ _).2 (words_val hb hv).2.1
theorem body_inj {a b:List PStep}(ha:(checkB a).1=0)(hb:(checkB b).1=0)(sa:BunSm a)(sb:BunSm b)(e:bodyB a=bodyB b):a=b:=by
 have i1:=fun x hx=>book_in ha sa (b:=x) hx
 have i2:=fun x hx=>book_in hb sb (b:=x) hx
 obtain ⟨a1,a2,a3,a4,a5,a6,a7⟩:=sa
 obtain ⟨b1,b2,b3,b4,b5,b6,b7⟩:=sb
 unfold bodyB at e
 simp only [List.append_assoc,List.append_cancel_left_eq] at e
 obtain ⟨e1,e⟩:=le4_split a2 b2 e
 obtain ⟨eT,e⟩:=parts_list textBy_parts _ _ _ _ e1 a5 b5 e
 obtain ⟨e2,e⟩:=le4_split a3 b3 e
 rw [←eT] at e
 obtain ⟨eP,e⟩:=parts_list (idxBy_parts a2) _ _ _ _ e2 (fun s h=>paths_words h) (fun s h=>by rw [eT];exact paths_words h) e
 obtain ⟨e3,e⟩:=le4_split a4 b4 e
 obtain ⟨eN,e⟩:=parts_list tabBy_parts _ _ _ _ e3 a6 b6 e
 obtain ⟨e4,e⟩:=le4_split a1 b1 e
 rw [←eP,←eN] at e
 rw [←eT,←eP,←eN] at i2
 have e5:a.flatMap (bookBy (textsP a) (pathsP a) (tabsB a))++[]=b.flatMap (bookBy (textsP a) (pathsP a) (tabsB a))++[]:=by rw [e]
 exact (parts_list (bookBy_parts a2 a4) _ _ _ _ e4 i1 i2 e5).1
end
section

/-- One bit of the checksum. -/
def crc1 (c:Nat):Nat:=if c%2=1 then c/2 ^^^ 3988292384 else c/2
def crcN:Nat→Nat→Nat
 | 0,c=>c
 | k+1,c=>crc1 (crcN k c)
/-- One byte. -/
def crcB (c:Nat)(b:UInt8):Nat:=crcN 8 (c ^^^ b.toNat)
def crcRaw (l:List UInt8):Nat:=l.foldl crcB 4294967295
def crc (l:List UInt8):Nat:=4294967295-crcRaw l

theorem crc1_lt {c:Nat}(h:c<4294967296):crc1 c<4294967296:=by
 unfold crc1
 split
 ·exact Nat.xor_lt_two_pow (n:=32) (by omega) (by omega)
 ·omega
theorem crcN_lt {c:Nat}(h:c<4294967296)(k:Nat):crcN k c<4294967296:=by
 induction k with
 | zero=>exact h
 | succ k ih=>exact crc1_lt ih
theorem xorB_lt {c:Nat}(h:c<4294967296)(b:UInt8):c ^^^ b.toNat<4294967296 :=
 Nat.xor_lt_two_pow (n:=32) (by omega) (by have:=b.toNat_lt;omega)
theorem crcB_lt {c:Nat}(h:c<4294967296)(b:UInt8):crcB c b<4294967296:=crcN_lt (xorB_lt h b) 8
theorem crcFold_lt (l:List UInt8):∀ c,c<4294967296→l.foldl crcB c<4294967296:=by
 induction l with
 | nil=>intro c h;exact h
 | cons b l ih=>intro c h;exact ih _ (crcB_lt h b)
theorem crcRaw_lt (l:List UInt8):crcRaw l<4294967296:=crcFold_lt l _ (by omega)
theorem crc_lt (l:List UInt8):crc l<4294967296:=by unfold crc;omega
theorem crcRaw_take {l:List UInt8}{k:Nat}(h:k<l.length):crcRaw (l.take (k+1))=crcB (crcRaw (l.take k)) (l.getD k 0):=by
 unfold crcRaw
 rw [List.take_succ_eq_append_getElem h,List.foldl_append]
 simp [List.getD_eq_getElem?_getD,h]
end
section
open Go.RowKit

theorem rise_nodup {α:Type}{lt:α→α→Bool}(T:TotalLt lt){l:List α}(h:RiseL lt l):l.Nodup:=List.Pairwise.imp (fun {a b} hab e=>by rw [e,T.irr] at hab;cases hab) h
/-- How many bytes a bundle has. -/
def lenB (l:List PStep):Nat:=22+((textsP l).map fun s=>4+s.size).sum+4*(pathsP l).length+((tabsB l).map fun t=>4+8*t.length).sum+(l.map fun b=>8+8*(groupsB b.2).length).sum
theorem sum_const {α:Type}(n:Nat)(l:List α):(l.map fun _=>n).sum=n*l.length:=by
 induction l with
 | nil=>rfl
 | cons x l ih=>simp only [List.map_cons,List.sum_cons,ih,List.length_cons];rw [Nat.mul_add,Nat.mul_one];omega
theorem textBy_len (s:ByteArray):(textBy s).length=4+s.size:=by
 unfold textBy
 rw [List.length_append,le_len,←Lib.size_eq]
theorem tabBy_len (t:List RowI):(tabBy t).length=4+8*t.length:=by
 unfold tabBy
 rw [List.length_append,le_len,List.length_flatMap]
 have:(t.map fun r:RowI=>(le 4 r.1.toNat++le 4 r.2.toNat).length)=t.map fun _=>8:=List.map_congr_left fun r _=>by rw [List.length_append,le_len,le_len]
 rw [this,sum_const]
theorem bookBy_len (T P:List ByteArray)(tabs:List (List RowI))(b:PStep):(bookBy T P tabs b).length=8+8*(groupsB b.2).length:=by
 unfold bookBy
 rw [List.length_append,List.length_append,le_len,le_len,List.length_flatMap]
 have:((groupsB b.2).map fun g=>(le 4 (idx T g)++le 4 (tix tabs (rowsB T P b.2 g))).length)=(groupsB b.2).map fun _=>8:=List.map_congr_left fun r _=>by rw [List.length_append,le_len,le_len]
 rw [this,sum_const]
theorem body_len (l:List PStep):(bodyB l).length=lenB l:=by
 unfold bodyB lenB
 simp only [List.length_append,le_len,List.length_flatMap,textBy_len,tabBy_len,bookBy_len,sum_const,List.length_cons,List.length_nil]
 omega
end
section
open Go.RowKit

/-- The order of values: by path, by text. -/
def vlt (a b:PKey):Bool:=bl a.1 b.1 || (decide (a.1=b.1) && bl a.2 b.2)
theorem vltT:TotalLt vlt where
 irr a:=by simp [vlt,blT.irr]
 tr a b c h1 h2:=by
  simp only [vlt,Bool.or_eq_true,Bool.and_eq_true,decide_eq_true_eq] at *
  rcases h1 with h1 | ⟨e1,h1⟩
  ·rcases h2 with h2 | ⟨e2,h2⟩
   ·exact .inl (blT.tr _ _ _ h1 h2)
   ·exact .inl (by rw [←e2];exact h1)
  ·rcases h2 with h2 | ⟨e2,h2⟩
   ·exact .inl (by rw [e1];exact h2)
   ·exact .inr ⟨e1.trans e2,blT.tr _ _ _ h1 h2⟩
 conn a b h1 h2:=by
  simp only [vlt,Bool.or_eq_false_iff,Bool.and_eq_false_iff,decide_eq_false_iff_not] at h1 h2
  have e1:=blT.conn _ _ h1.1 h2.1
  have h3:bl a.2 b.2=false:=h1.2.elim (fun h=>absurd e1 h) id
  have h4:bl b.2 a.2=false:=h2.2.elim (fun h=>absurd e1.symm h) id
  exact Prod.ext e1 (blT.conn _ _ h3 h4)
/-- The values that are said of a name. -/
def valsOf (l:List PStep)(n:ByteArray):List PKey:=(l.filter fun b=>decide (b.1=n)).flatMap Prod.snd
theorem valsOf_mem {l:List PStep}{n:ByteArray}{v:PKey}:v∈valsOf l n↔∃ b∈l,b.1=n∧v∈b.2:=by
 unfold valsOf
 simp only [List.mem_flatMap,List.mem_filter,decide_eq_true_eq]
 exact ⟨fun ⟨b,⟨h1,h2⟩,h3⟩=>⟨b,h1,h2,h3⟩,fun ⟨b,h1,h2,h3⟩=>⟨b,⟨h1,h2⟩,h3⟩⟩
/-- Nothing is said twice and unlike. -/
def ConsB (l:List PStep):Prop:=∀(n:ByteArray) (u v:PKey),u∈valsOf l n→v∈valsOf l n→u.1=v.1→u.2=v.2
/-- The bundle in order. -/
def sortOut (l:List PStep):List PStep:=(poolL bl (l.map Prod.fst)).map fun n=>(n,poolL vlt (valsOf l n))
/-- What Sort answers. -/
def SortIs (l r:List PStep)(e a:Int):Prop :=
 (∃ i:Nat,¬ ConsB (l.take (i+1))∧ConsB (l.take i)∧e=5∧a=(i:Int)∧r=[]) ∨
 (ConsB l∧(((checkB (sortOut l)).1≠0∧r=[]∧e=(checkB (sortOut l)).1∧a=(checkB (sortOut l)).2)∨((checkB (sortOut l)).1=0∧r=sortOut l∧e=0∧a=0)))
theorem cons_sub {l m:List PStep}(h:∀ b∈l,b∈m)(hc:ConsB m):ConsB l:=fun n u v hu hv e=>by
 obtain ⟨b,hb,h1,h2⟩:=valsOf_mem.1 hu
 obtain ⟨c,hcm,h3,h4⟩:=valsOf_mem.1 hv
 exact hc n u v (valsOf_mem.2 ⟨b,h b hb,h1,h2⟩) (valsOf_mem.2 ⟨c,h c hcm,h3,h4⟩) e
theorem cons_take {l:List PStep}{i j:Nat}(h:i≤j)(hc:ConsB (l.take j)):ConsB (l.take i):=cons_sub (fun b hb=>by
 obtain ⟨k,hk⟩:=List.mem_iff_getElem?.1 hb
 rw [List.getElem?_take] at hk
 split at hk
 ·exact List.mem_iff_getElem?.2 ⟨k,by rw [List.getElem?_take,if_pos (by omega)];exact hk⟩
 ·cases hk) hc
theorem cons_take_of {l:List PStep}(hc:ConsB l)(i:Nat):ConsB (l.take i):=cons_sub (fun b hb=>List.mem_of_mem_take hb) hc
theorem sort_one {l r r':List PStep}{e a e' a':Int}(h:SortIs l r e a)(h2:SortIs l r' e' a'):r=r'∧e=e'∧a=a':=by
 rcases h with ⟨i,h1,h3,rfl,rfl,rfl⟩ | ⟨hc,h⟩
 ·rcases h2 with ⟨k,k1,k3,rfl,rfl,rfl⟩ | ⟨hc,-⟩
  ·rcases Nat.lt_trichotomy i k with hlt | rfl | hgt
   ·exact absurd (cons_take (by omega) k3) h1
   ·exact ⟨rfl,rfl,rfl⟩
   ·exact absurd (cons_take (by omega) h3) k1
  ·exact absurd (cons_take_of hc _) h1
 ·rcases h2 with ⟨k,k1,-,-,-,-⟩ | ⟨-,h2⟩
  ·exact absurd (cons_take_of hc _) k1
  ·rcases h with ⟨h,rfl,rfl,rfl⟩ | ⟨h,rfl,rfl,rfl⟩ <;> rcases h2 with ⟨h2,rfl,rfl,rfl⟩ | ⟨h2,rfl,rfl,rfl⟩
   ·exact ⟨rfl,rfl,rfl⟩
   ·exact absurd h2 h
   ·exact absurd h h2
   ·exact ⟨rfl,rfl,rfl⟩
/-- Two bundles that say the same of the same names. -/
def SaySame (l m:List PStep):Prop:=(∀ n,n∈l.map Prod.fst↔n∈m.map Prod.fst)∧∀ n v,v∈valsOf l n↔v∈valsOf m n
theorem sortOut_congr {l m:List PStep}(h:SaySame l m):sortOut l=sortOut m:=by
 unfold sortOut
 rw [poolL_congr blT h.1]
 refine List.map_congr_left fun n _=>?_
 rw [poolL_congr vltT (h.2 n)]
theorem cons_congr {l m:List PStep}(h:SaySame l m)(hc:ConsB l):ConsB m:=fun n u v hu hv e=>hc n u v ((h.2 n u).2 hu) ((h.2 n v).2 hv) e
theorem filter_one:∀ {l:List PStep},RiseL (fun x y=>bl x.1 y.1) l→∀ b∈l,(l.filter fun c=>decide (c.1=b.1))=[b]
 | [],_,b,hb=>by cases hb
 | c::l,h,b,hb=>by
  obtain ⟨h1,h2⟩:=List.pairwise_cons.1 h
  rcases List.mem_cons.1 hb with rfl | hb
  ·rw [List.filter_cons_of_pos (by simp),List.filter_eq_nil_iff.2]
   intro d hd e
   have:=h1 d hd
   simp only at this
   rw [of_decide_eq_true e,blT.irr] at this
   cases this
  ·rw [List.filter_cons_of_neg]
   ·exact filter_one h2 b hb
   ·intro e
    have:=h1 b hb
    simp only at this
    rw [of_decide_eq_true e,blT.irr] at this
    cases this
theorem valsOf_one {l:List PStep}(h:RiseL (fun x y=>bl x.1 y.1) l){b:PStep}(hb:b∈l):valsOf l b.1=b.2:=by
 unfold valsOf
 rw [filter_one h b hb]
 simp
theorem rise_vlt {vs:List PKey}(h:RiseL (fun x y=>bl x.1 y.1) vs):RiseL vlt vs:=List.Pairwise.imp (fun {a b} h=>by unfold vlt;simp only at h;rw [h];rfl) h
theorem sortOut_self {l:List PStep}(h:RiseL (fun x y=>bl x.1 y.1) l)(hv:∀ b∈l,RiseL (fun x y=>bl x.1 y.1) b.2):sortOut l=l:=by
 unfold sortOut
 have hn:RiseL bl (l.map Prod.fst):=List.pairwise_map.2 h
 rw [poolL_self blT hn,List.map_map]
 conv=>rhs;rw [←List.map_id l]
 refine List.map_congr_left fun b hb=>?_
 show (b.1,poolL vlt (valsOf l b.1))=b
 rw [valsOf_one h hb,poolL_self vltT (rise_vlt (hv b hb))]
theorem rise_cons {l:List PStep}(h:RiseL (fun x y=>bl x.1 y.1) l)(hv:∀ b∈l,RiseL (fun x y=>bl x.1 y.1) b.2):ConsB l:=by
 intro n u v hu hw e
 obtain ⟨b,hb,rfl,hu2⟩:=valsOf_mem.1 hu
 rw [valsOf_one h hb] at hw
 obtain ⟨i,hi⟩:=List.mem_iff_getElem?.1 hu2
 obtain ⟨j,hj⟩:=List.mem_iff_getElem?.1 hw
 obtain ⟨hi1,hi2⟩:=List.getElem?_eq_some_iff.1 hi
 obtain ⟨hj1,hj2⟩:=List.getElem?_eq_some_iff.1 hj
 have hp:=List.pairwise_iff_getElem.1 (hv b hb)
 rcases Nat.lt_trichotomy i j with hlt | rfl | hgt
 ·have:=hp i j hi1 hj1 hlt
  simp only [hi2,hj2] at this
  rw [e,blT.irr] at this
  cases this
 ·rw [hi] at hj
  cases hj
  rfl
 ·have:=hp j i hj1 hi1 hgt
  simp only [hi2,hj2] at this
  rw [e,blT.irr] at this
  cases this
/-- What says the same is sorted the same, where one of them may be. -/
theorem sort_same {l m r r':List PStep}{a e' a':Int}(h:SaySame l m)(hs:SortIs l r 0 a)(hm:SortIs m r' e' a'):r'=r∧e'=0∧a'=0:=by
 rcases hs with ⟨i,-,-,he,-⟩ | ⟨hc,⟨hn,-,he,-⟩ | ⟨hz,rfl,-,-⟩⟩
 ·exact absurd he (by decide)
 ·exact absurd he.symm hn
 ·exact sort_one hm (.inr ⟨cons_congr h hc,.inr ⟨by rw [←sortOut_congr h];exact hz,sortOut_congr h,rfl,rfl⟩⟩)
end
section
open Go.RowKit

theorem right_512 {a:ByteArray}(h:rightB a=true):a.size≤512:=by
 obtain ⟨l,hl⟩:=rightB_ok.1 h
 unfold parseM at hl
 split at hl
 ·cases hl
 ·omega
theorem stepM_sz {s:ByteArray}{p q:Nat}{st:PStep}(h:stepM s p=.ok (st,q)):st.1.size≤s.size:=by
 unfold stepM nameM at h
 cases hn:nameErr s p with
 | some e=>rw [hn] at h;cases h
 | none =>
  rw [hn] at h
  simp only at h
  cases hk:keysM s (nameEnd s p) [] with
  | error e=>rw [hk] at h;cases h
  | ok r =>
   rw [hk] at h
   cases h
   simp only [ByteArray.size_extract]
   omega
theorem stepsF_sz (s:ByteArray):∀(k p:Nat) (l m:List PStep),stepsF k s p l=.ok m→(∀ st∈l,st.1.size≤s.size)→∀ st∈m,st.1.size≤s.size
 | 0,p,l,m,h,_=>by unfold stepsF at h;cases h
 | k+1,p,l,m,h,hl=>by
  unfold stepsF at h
  split at h
  ·cases h
  ·cases hs:stepM s p with
   | error e=>rw [hs] at h;cases h
   | ok r =>
    obtain ⟨st,q⟩:=r
    rw [hs] at h
    simp only at h
    have hl2:∀ x∈l++[st],x.1.size≤s.size:=fun x hx=>by
     rcases List.mem_append.1 hx with hx | hx
     ·exact hl x hx
     ·rw [List.mem_singleton.1 hx]
      exact stepM_sz hs
    split at h
    ·cases h
     exact hl2
    ·split at h
     ·exact stepsF_sz s k (q+1) (l++[st]) m h hl2
     ·cases h
theorem grp_sz (p:ByteArray):(grp p).size≤p.size:=by
 unfold grp
 split
 ·rename_i st r h
  unfold parseM at h
  split at h
  ·cases h
  ·split at h
   ·cases h
   ·split at h
    ·cases h
    ·exact stepsF_sz p _ _ _ _ h (by simp) st (by simp)
 ·exact Nat.zero_le _
/-- The texts of a bundle that may be are short. -/
theorem texts_small {l:List PStep}(h:(checkB l).1=0):∀ s∈textsP l,s.size≤4096:=by
 intro s hs
 obtain ⟨-,-,h3⟩:=checkB_ok h
 have hw:=(poolL_mem (lt:=bl) _ _).1 hs
 unfold wordsB at hw
 obtain ⟨b,hb,hw⟩:=List.mem_flatMap.1 hw
 obtain ⟨h4,-,h5⟩:=h3 b hb
 rcases List.mem_cons.1 hw with rfl | hw
 ·omega
 ·obtain ⟨v,hv,hw⟩:=List.mem_flatMap.1 hw
  obtain ⟨-,v2,-,v4⟩:=h5 v hv
  have v5:=right_512 v2
  have v6:=grp_sz v.1
  simp only [List.mem_cons,List.not_mem_nil,or_false] at hw
  rcases hw with rfl | rfl | rfl <;> omega
theorem flat_le {α:Type}{f:α→List UInt8}{c:Nat}:∀ {l:List α},(∀ x∈l,(f x).length≤c)→(l.flatMap f).length≤c*l.length
 | [],_=>Nat.le_refl _
 | x::r,h=>by
  have ih:=flat_le (f:=f) (c:=c) (l:=r) fun y hy=>h y (by simp [hy])
  have hx:=h x (by simp)
  rw [List.flatMap_cons,List.length_append,List.length_cons,Nat.mul_add]
  omega
theorem flat_next {α:Type}{f:α→List UInt8}{l:List α}{i:Nat}{x:α}(h:l[i]?=some x):(l.take (i+1)).flatMap f=(l.take i).flatMap f++f x:=by
 rw [List.take_add_one,h,List.flatMap_append]
 simp
def rowBy (r:RowI):List UInt8:=le 4 r.1.toNat++le 4 r.2.toNat
def grpBy (T P:List ByteArray)(tabs:List (List RowI))(b:PStep)(g:ByteArray):List UInt8:=le 4 (idx T g)++le 4 (tix tabs (rowsB T P b.2 g))
def pre0:List UInt8:=[86,82,78,67]++le 2 1
def preT (l:List PStep):List UInt8:=pre0++le 4 (textsP l).length
def preP (l:List PStep):List UInt8:=preT l++(textsP l).flatMap textBy++le 4 (pathsP l).length
def preX (l:List PStep):List UInt8:=preP l++((pathsP l).flatMap fun s=>le 4 (idx (textsP l) s))++le 4 (tabsB l).length
def preK (l:List PStep):List UInt8:=preX l++(tabsB l).flatMap tabBy++le 4 l.length
theorem body_pre (l:List PStep):bodyB l=preK l++l.flatMap (bookBy (textsP l) (pathsP l) (tabsB l)):=by
 unfold bodyB preK preX preP preT pre0
 simp only [List.append_assoc]
/-- A bundle's bytes. -/
def bytesB (l:List PStep):List UInt8:=bodyB l++le 4 (crc (bodyB l))
/-- Few Books, few values. -/
def BunFew (l:List PStep):Prop:=l.length≤520∧∀ b∈l,b.2.length≤16500
theorem few_words:∀(l:List PStep),(∀ b∈l,b.2.length≤16500)→(wordsB l).length≤49501*l.length∧(pathsB l).length≤16500*l.length
 | [],_=>⟨Nat.le_refl _,Nat.le_refl _⟩
 | b::r,h=>by
  have ih:=few_words r fun c hc=>h c (by simp [hc])
  have hb:=h b (by simp)
  have hw:∀ vs:List PKey,(vs.flatMap fun v=>[grp v.1,v.1,v.2]).length=3*vs.length:=by
   intro vs
   induction vs with
   | nil=>rfl
   | cons x r ih=>rw [List.flatMap_cons,List.length_append,ih];simp;omega
  unfold wordsB pathsB at ih ⊢
  simp only [List.flatMap_cons,List.length_append,List.length_cons,List.length_map,hw]
  omega
theorem few_groups (vs:List PKey):(groupsB vs).length≤vs.length:=by
 unfold groupsB
 have:=poolL_len (lt:=bl) (vs.map fun v=>grp v.1)
 rw [List.length_map] at this
 exact this
theorem few_tabs (T P:List ByteArray):∀(l:List PStep),(∀ b∈l,b.2.length≤16500)→(allTabs T P l).length≤16500*l.length∧∀ t∈allTabs T P l,t.length≤16500
 | [],_=>⟨Nat.le_refl _,by simp [allTabs]⟩
 | b::r,h=>by
  have ih:=few_tabs T P r fun c hc=>h c (by simp [hc])
  have hb:=h b (by simp)
  have hg:=few_groups b.2
  unfold allTabs at ih ⊢
  refine ⟨by simp only [List.flatMap_cons,List.length_append,List.length_map,List.length_cons];omega,fun t ht=>?_⟩
  rw [List.flatMap_cons,List.mem_append] at ht
  rcases ht with ht | ht
  ·obtain ⟨g,-,rfl⟩:=List.mem_map.1 ht
   unfold rowsB
   rw [List.length_map]
   exact Nat.le_trans (List.length_filter_le _ _) hb
  ·exact ih.2 t ht
structure FewB (l:List PStep):Prop where
 few:BunFew l
 nT:(textsP l).length≤25740520
 nP:(pathsP l).length≤8580000
 nX:(tabsB l).length≤8580000
 sT:∀ s∈textsP l,s.size≤4096
 sX:∀ t∈tabsB l,t.length≤16500
 sK:∀ b∈l,(groupsB b.2).length≤16500
 rX:∀ t∈tabsB l,∀ q∈t,(0≤q.1∧q.1<4294967296)∧0≤q.2∧q.2<4294967296
theorem few_all {l:List PStep}(h:(checkB l).1=0)(hf:BunFew l):FewB l:=by
 have h1:=few_words l hf.2
 have h2:=few_tabs (textsP l) (pathsP l) l hf.2
 have h3:=hf.1
 have nT:(textsP l).length≤25740520:=by
  have:=poolL_len (lt:=bl) (wordsB l)
  unfold textsP
  omega
 have nP:(pathsP l).length≤8580000:=by
  have:=poolL_len (lt:=bl) (pathsB l)
  unfold pathsP
  omega
 refine ⟨hf,nT,nP,?_,texts_small h,fun t ht=>h2.2 t ((poolL_mem _ _).1 ht),fun b hb=>Nat.le_trans (few_groups b.2) (hf.2 b hb),fun t ht q hq=>?_⟩
 ·have:=poolL_len (lt:=tl) (allTabs (textsP l) (pathsP l) l)
  unfold tabsB
  omega
 ·have ht2:=(poolL_mem (lt:=tl) _ _).1 ht
  unfold allTabs at ht2
  obtain ⟨b,hb,ht2⟩:=List.mem_flatMap.1 ht2
  obtain ⟨gr,-,rfl⟩:=List.mem_map.1 ht2
  unfold rowsB at hq
  obtain ⟨v,hv,rfl⟩:=List.mem_map.1 hq
  have hv2:=(List.mem_filter.1 hv).1
  have i1:=idx_lt (show v.1∈pathsP l from (poolL_mem _ _).2 (paths_val hb hv2))
  have i2:=idx_lt (show v.2∈textsP l from (poolL_mem _ _).2 (words_val hb hv2).2.2)
  simp only
  omega
theorem FewB.small {l:List PStep}(h:FewB l):BunSm l:=by
 have h1:=h.few.1
 have h2:=h.nT
 have h3:=h.nP
 have h4:=h.nX
 refine ⟨by omega,by omega,by omega,by omega,fun s hs=>by have:=h.sT s hs;omega,fun t ht=>⟨by have:=h.sX t ht;omega,h.rX t ht⟩,fun b hb=>by have:=h.sK b hb;omega⟩
theorem pre0_len:pre0.length=6:=by simp [pre0,le_len]
theorem tl_take {α:Type}{f:α→List UInt8}{c n:Nat}{l:List α}(h:∀ x∈l,(f x).length≤c)(hn:l.length≤n)(p:Nat):((l.take p).flatMap f).length≤c*n:=by
 have h1:=flat_le (f:=f) (c:=c) (l:=l.take p) fun x hx=>h x (List.mem_of_mem_take hx)
 have h2:(l.take p).length≤l.length:=by rw [List.length_take];omega
 exact Nat.le_trans h1 (Nat.mul_le_mul_left c (by omega))
theorem FewB.lenT {l:List PStep}(h:FewB l)(p:Nat):(preT l++((textsP l).take p).flatMap textBy).length≤105600000000:=by
 have h1:=tl_take (f:=textBy) (c:=4100) (fun s hs=>by unfold textBy;rw [List.length_append,le_len];have:=h.sT s hs;have:s.data.toList.length=s.size:=rfl;omega) h.nT p
 unfold preT
 simp only [List.length_append,pre0_len,le_len]
 omega
theorem FewB.lenP {l:List PStep}(h:FewB l)(p:Nat):(preP l++((pathsP l).take p).flatMap fun s=>le 4 (idx (textsP l) s)).length≤105700000000:=by
 have h0:=h.lenT (textsP l).length
 rw [List.take_length] at h0
 have h1:=tl_take (f:=fun s=>le 4 (idx (textsP l) s)) (c:=4) (fun s hs=>by simp [le_len]) h.nP p
 unfold preP
 rw [List.length_append,List.length_append,le_len]
 omega
theorem FewB.lenX {l:List PStep}(h:FewB l)(p:Nat):(preX l++((tabsB l).take p).flatMap tabBy).length≤1240000000000:=by
 have h0:=h.lenP (pathsP l).length
 rw [List.take_length] at h0
 have h1:=tl_take (f:=tabBy) (c:=132004) (fun t ht=>by
  have h2:=h.sX t ht
  have h3:=flat_le (f:=rowBy) (c:=8) (l:=t) (fun r _=>by simp [rowBy,le_len])
  unfold tabBy
  rw [List.length_append,le_len]
  unfold rowBy at h3
  omega) h.nX p
 unfold preX
 rw [List.length_append,List.length_append,le_len]
 omega
theorem FewB.lenK {l:List PStep}(h:FewB l)(p:Nat):(preK l++(l.take p).flatMap (bookBy (textsP l) (pathsP l) (tabsB l))).length≤1250000000000:=by
 have h0:=h.lenX (tabsB l).length
 rw [List.take_length] at h0
 have h1:=tl_take (f:=bookBy (textsP l) (pathsP l) (tabsB l)) (c:=132008) (fun b hb=>by
  have h2:=h.sK b hb
  have h3:=flat_le (f:=grpBy (textsP l) (pathsP l) (tabsB l) b) (c:=8) (l:=groupsB b.2) (fun r _=>by simp [grpBy,le_len])
  unfold bookBy
  rw [List.length_append,List.length_append,le_len,le_len]
  unfold grpBy at h3
  omega) h.few.1 p
 unfold preK
 rw [List.length_append,List.length_append,le_len]
 omega
theorem FewB.len {l:List PStep}(h:FewB l):(bodyB l).length≤1250000000000:=by
 have:=h.lenK l.length
 rw [List.take_length,←body_pre] at this
 exact this
end
section
open Go.RowKit

/-- A list's pieces from place i on, and the rest. -/
def Run {α:Type}(f:α→List UInt8)(L:List α)(R:List UInt8)(i:Nat):List UInt8:=(L.drop i).flatMap f++R
theorem run_step {α:Type}{f:α→List UInt8}{L:List α}{R:List UInt8}{i:Nat}{x:α}(h:L[i]?=some x):Run f L R i=f x++Run f L R (i+1):=by
 unfold Run
 obtain ⟨hlt,rfl⟩:=List.getElem?_eq_some_iff.1 h
 rw [List.drop_eq_getElem_cons hlt,List.flatMap_cons,List.append_assoc]
theorem run_end {α:Type}{f:α→List UInt8}{L:List α}{R:List UInt8}{i:Nat}(h:L.length≤i):Run f L R i=R:=by
 unfold Run
 rw [List.drop_of_length_le h]
 rfl
/-- The path's number as it is written. -/
def pathBy (T:List ByteArray)(s:ByteArray):List UInt8:=le 4 (idx T s)
/-- A Book's values, group by group. -/
def regroup (vs:List PKey):List PKey:=(groupsB vs).flatMap fun g=>vs.filter fun v=>decide (grp v.1=g)
theorem regroup_mem {vs:List PKey}{v:PKey}:v∈regroup vs↔v∈vs:=by
 unfold regroup
 rw [List.mem_flatMap]
 constructor
 ·rintro ⟨g,-,h⟩
  exact (List.mem_filter.1 h).1
 ·intro h
  exact ⟨grp v.1,groups_mem h,List.mem_filter.2 ⟨h,by simp⟩⟩
def gotL (l:List PStep):List PStep:=l.map fun b=>(b.1,regroup b.2)
theorem got_same (l:List PStep):SaySame l (gotL l):=by
 refine ⟨fun n=>?_,fun n v=>?_⟩
 ·unfold gotL
  rw [List.map_map]
  rfl
 ·rw [valsOf_mem,valsOf_mem]
  unfold gotL
  constructor
  ·rintro ⟨b,hb,h1,h2⟩
   exact ⟨_,List.mem_map.2 ⟨b,hb,rfl⟩,h1,regroup_mem.2 h2⟩
  ·rintro ⟨b,hb,h1,h2⟩
   obtain ⟨b',hb',rfl⟩:=List.mem_map.1 hb
   exact ⟨b',hb',h1,regroup_mem.1 h2⟩
/-- Sorted, it is the bundle again. -/
theorem got_sorted {l:List PStep}(h:(checkB l).1=0){r:List PStep}{e a:Int}(hs:SortIs (gotL l) r e a):r=l∧e=0∧a=0:=by
 obtain ⟨-,h2,h3⟩:=checkB_ok h
 have hv:∀ b∈l,RiseL (fun x y=>bl x.1 y.1) b.2:=fun b hb=>(h3 b hb).2.1
 have hself:=sortOut_self h2 hv
 exact sort_same (got_same l) (show SortIs l l 0 0 from .inr ⟨rise_cons h2 hv,.inr ⟨by rw [hself];exact h,hself.symm,rfl,rfl⟩⟩) hs
end
section
open Go.RowKit

/-- What a call that makes a slice of bytes leaves. -/
def MadeB (w:World)(e0:TypeId)(l:List UInt8)(e:Ending)(w':World):Prop:=∃ v,e=.returned v∧OB w' w.heap.size e0 v l∧Below w.heap.size w w'

set_option maxHeartbeats 400000 in
theorem bclone_any (l:List UInt8)(A:Option Addr)(c B:Nat)(w:World)(hr:RB w B A l)(hB:B≤w.heap.size)(hlen:l.length≤140737488355328) :
  Calls Tryz.prog 47 #[.slice A l.length c] w (MadeB w 5 l):=by
 obtain ⟨i0,hi0,hz0,hz1,hz2⟩:=info_parts byte_info
 rcases A with _ | ad
 ·have hl:l=[]:=by
   rcases Nat.eq_zero_or_pos l.length with h0 | h0
   ·exact List.eq_nil_of_length_eq_zero h0
   ·obtain ⟨_,h,_⟩:=hr.2 h0
    cases h
  subst hl
  have heq:=fun W=>Lib.run_eql_slice_nil (P:=Tryz.prog) W 26 5 none 0 c 0 0 Tryz.underlying26
  simp only [List.length_nil]
  go_enter Tryz.func47,Tryz.ntmps47
  go_wp2
  go_ret
  exact ⟨_,rfl,World.ownsRow_nil _ _ _ _,Below.refl _ _⟩
 ·have heq:=fun W=>Lib.run_eql_slice_nil (P:=Tryz.prog) W 26 5 (some ad) l.length c 0 0 Tryz.underlying26
  go_enter Tryz.func47,Tryz.ntmps47
  go_wp2_with (at_builtin;refine wpList_append_any _ rfl (.tmp 5) (.tmp 6) _ rfl w.heap.size 5 i0 _ 1 1 Tryz.underlying26 hi0 hz0 hz1 hz2 rfl (by omega) (.slice (some ⟨w.heap.size,0,none⟩) 0 0) 0 [] rfl (World.ownsRow_made _ _ 0 (Nat.le_refl _) (by simp [maxLen]) rfl) B (some ad) l.length c (bvs l) rfl (Reads.alloc hr hB _) (bvs_one l) (by simp only [maxLen];omega) (by omega) (by simp) ?_;intro v1 w1 hown1 hg1 hat1)
  go_ret
  refine ⟨v1,rfl,by unfold OB;simpa using hown1,((Below.refl _ _).alloc (Nat.le_refl _) _).grown hg1 (by simp) (fun k hk=>?_)⟩
  simp [Value.ownBlock] at hk
  omega

set_option maxHeartbeats 400000 in
theorem put16_any (l:List UInt8)(x:Nat)(A:Option Addr)(c B:Nat)(w:World)(hr:RB w B A l)(hB:B≤w.heap.size)(hlen:l.length≤140737488355320)(hx:x<65536) :
  Calls Tryz.prog 69 #[.slice A l.length c,.int .u16 (x:Int)] w (MadeB w 5 (l++le 2 x)):=by
 obtain ⟨i0,hi0,hz0,hz1,hz2⟩:=info_parts byte_info
 go_enter Tryz.func69,Tryz.ntmps69
 have hle:=le2 x hx
 have HL:=Lib.hid hle
 clear hle
 go_wp2_with (first | (go_at_call 47;refine (bclone_any l A c B w hr hB (by omega)).mono ?_;rintro e w1 ⟨v1,rfl,ho1,hb1⟩) | (at_builtin;refine wpList_append_any _ rfl (.tmp 6) (.tmp 12) _ rfl w.heap.size 5 i0 _ 1 1 Tryz.underlying26 hi0 hz0 hz1 hz2 rfl (by omega) v1 l.length (bvs l) rfl (ho1.alloc _) (w1.heap.size+1) (some ⟨w1.heap.size,0,none⟩) 2 2 _ rfl (reads_new w1 _ 5 1 2 rfl) (by simp [Value.oneCell']) (by simp only [maxLen];omega) (by omega) (by have:=hb1.size;simp;omega) ?_;intro v2 w2 hown2 hg2 hat2))
 go_ret
 have hz:=hb1.size
 refine ⟨v2,rfl,?_,(hb1.alloc hz _).grown hg2 (by simp;omega) (fun k hk=>(ho1.lt k hk).1)⟩
 unfold OB
 rw [bvs_append,HL.out,List.length_append,le_len]
 exact hown2

set_option maxHeartbeats 400000 in
theorem put32_any (l:List UInt8)(x:Nat)(A:Option Addr)(c B:Nat)(w:World)(hr:RB w B A l)(hB:B≤w.heap.size)(hlen:l.length≤140737488355320)(hx:x<4294967296) :
  Calls Tryz.prog 22 #[.slice A l.length c,.int .u32 (x:Int)] w (MadeB w 5 (l++le 4 x)):=by
 obtain ⟨i0,hi0,hz0,hz1,hz2⟩:=info_parts byte_info
 go_enter Tryz.func22,Tryz.ntmps22
 have hle:=le4 x hx
 have HL:=Lib.hid hle
 clear hle
 go_wp2_with (first | (go_at_call 47;refine (bclone_any l A c B w hr hB (by omega)).mono ?_;rintro e w1 ⟨v1,rfl,ho1,hb1⟩) | (at_builtin;refine wpList_append_any _ rfl (.tmp 6) (.tmp 18) _ rfl w.heap.size 5 i0 _ 1 1 Tryz.underlying26 hi0 hz0 hz1 hz2 rfl (by omega) v1 l.length (bvs l) rfl (ho1.alloc _) (w1.heap.size+1) (some ⟨w1.heap.size,0,none⟩) 4 4 _ rfl (reads_new w1 _ 5 1 4 rfl) (by simp [Value.oneCell']) (by simp only [maxLen];omega) (by omega) (by have:=hb1.size;simp;omega) ?_;intro v2 w2 hown2 hg2 hat2))
 go_ret
 have hz:=hb1.size
 refine ⟨v2,rfl,?_,(hb1.alloc hz _).grown hg2 (by simp;omega) (fun k hk=>(ho1.lt k hk).1)⟩
 unfold OB
 rw [bvs_append,HL.out,List.length_append,le_len]
 exact hown2
end
section
open Go.RowKit

theorem take_snoc {α:Type}(l:List α)(d:α){k:Nat}(h:k<l.length):l.take (k+1)=l.take k++[l.getD k d]:=by
 rw [List.take_succ_eq_append_getElem h]
 simp [List.getD_eq_getElem?_getD,h]
end
section
open Go.RowKit

/-- What a take leaves: what was taken, where the reader is then, its error. -/
def takeM (l:List UInt8)(at_:Nat)(err n:Int):List UInt8×Nat×Int :=
 if err≠0 then ([],at_,err) else if n<0 then ([],at_,2) else if n > (l.length:Int)-at_ then ([],at_,110) else ((l.drop at_).take n.toNat,at_+n.toNat,0)

/-- The reader at block g: its bytes lie below g. -/
structure Rd (w:World) (g:Nat) (A:Option Addr) (c:Nat) (l:List UInt8) (at_:Nat) (err:Int):Prop where
 blk:Blk w g 158 #[.slice A l.length c,.int .i64 (at_:Int),.int .i64 err]
 rb:RB w g A l
 lc:l.length≤c
 cm:c≤maxLen
 le:at_≤l.length

set_option maxHeartbeats 400000 in
theorem take_err (g c:Nat)(A:Option Addr)(l:List UInt8)(at_:Nat)(err n:Int)(w:World)(hr:Rd w g A c l at_ err)(he:(err != 0)=true) :
  Calls Tryz.prog 77 #[.pointer (some ⟨g,0,none⟩),.int .i64 n] w fun e w'=>e=.returned (.slice none 0 0)∧w=w':=by
 have c2:w.cell? ⟨g,2,none⟩=some (.int .i64 err):=hr.blk.cell 2
 go_enter Tryz.func77,Tryz.ntmps77
 go_wp2
 go_ret
 exact ⟨rfl,rfl⟩

theorem Rd.c0 {w:World}{g:Nat}{A:Option Addr}{c:Nat}{l:List UInt8}{at_:Nat}{err:Int}(h:Rd w g A c l at_ err):w.cell? ⟨g,0,none⟩=some (.slice A l.length c):=h.blk.cell 0
theorem Rd.c1 {w:World}{g:Nat}{A:Option Addr}{c:Nat}{l:List UInt8}{at_:Nat}{err:Int}(h:Rd w g A c l at_ err):w.cell? ⟨g,1,none⟩=some (.int .i64 (at_:Int)):=h.blk.cell 1
theorem Rd.c2 {w:World}{g:Nat}{A:Option Addr}{c:Nat}{l:List UInt8}{at_:Nat}{err:Int}(h:Rd w g A c l at_ err):w.cell? ⟨g,2,none⟩=some (.int .i64 err):=h.blk.cell 2
theorem Rd.drewN {w:World}{g:Nat}{A:Option Addr}{c:Nat}{l:List UInt8}{at_:Nat}{err:Int}(h:Rd w g A c l at_ err)(k:Nat):Rd (w.drewN k) g A c l at_ err:=⟨h.blk.drewN k,h.rb.drewN k,h.lc,h.cm,h.le⟩
theorem Rd.err {w:World}{g:Nat}{A:Option Addr}{c:Nat}{l:List UInt8}{at_:Nat}{err:Int}(h:Rd w g A c l at_ err)(e:Int):Rd (w.setCell ⟨g,2,none⟩ (.int .i64 e)) g A c l at_ e :=
 ⟨h.blk.set_ 2 _,Reads.setCell h.rb (by simp) _,h.lc,h.cm,h.le⟩
theorem Rd.goto_ {w:World}{g:Nat}{A:Option Addr}{c:Nat}{l:List UInt8}{at_:Nat}{err:Int}(h:Rd w g A c l at_ err){k:Nat}(hk:k≤l.length):Rd (w.setCell ⟨g,1,none⟩ (.int .i64 (k:Int))) g A c l k err :=
 ⟨h.blk.set_ 1 _,Reads.setCell h.rb (by simp) _,h.lc,h.cm,hk⟩

set_option maxHeartbeats 400000 in
theorem take_neg (g c:Nat)(A:Option Addr)(l:List UInt8)(at_:Nat)(n:Int)(w:World)(hr:Rd w g A c l at_ 0)(hn:n<0) :
  Calls Tryz.prog 77 #[.pointer (some ⟨g,0,none⟩),.int .i64 n] w fun e w'=>e=.returned (.slice none 0 0)∧w.setCell ⟨g,2,none⟩ (.int .i64 2)=w':=by
 have c2:=hr.c2
 have f2:=hr.blk.frozen 2
 go_enter Tryz.func77,Tryz.ntmps77
 go_wp2
 go_ret
 exact ⟨rfl,rfl⟩

set_option maxHeartbeats 400000 in
theorem take_short (g c:Nat)(A:Option Addr)(l:List UInt8)(at_:Nat)(n:Int)(w:World)(hr:Rd w g A c l at_ 0)(hn:0≤n)(hn':(l.length:Int)-at_<n) :
  Calls Tryz.prog 77 #[.pointer (some ⟨g,0,none⟩),.int .i64 n] w fun e w'=>e=.returned (.slice none 0 0)∧∃ k,(w.drewN k).setCell ⟨g,2,none⟩ (.int .i64 110)=w':=by
 have c0:=hr.c0
 have c1:=hr.c1
 have c2:=hr.c2
 have f2:=hr.blk.frozen 2
 have hle:=hr.le
 have hlc:=hr.lc
 have hcm:=hr.cm
 unfold maxLen at hcm
 have hnn:¬ n<0:=by omega
 have hd:decide (n<0)=false:=by simpa using hnn
 go_enter Tryz.func77,Tryz.ntmps77
 go_wp2
 go_quiet (fail)
 go_wp2
 go_ret
 exact ⟨rfl,_,rfl⟩

def TookOk (g c:Nat)(A:Option Addr)(l:List UInt8)(at_ n:Nat)(w:World)(e:Ending)(w':World):Prop :=
 ∃ A' c',e=.returned (.slice A' ((l.drop at_).take n).length c')∧RB w' g A' ((l.drop at_).take n)∧((l.drop at_).take n).length=n∧n≤c'∧c'≤maxLen∧Rd w' g A c l (at_+n) 0∧Only g w w'
theorem tookOk_of {g c:Nat}{A A':Option Addr}{l:List UInt8}{at_ n:Nat}{w:World}(hr:Rd w g A c l at_ 0)(hn:at_+n≤l.length)(i k:Nat)(hA:A'=if c=at_ then A else A.map (·.add at_)) :
  TookOk g c A l at_ n w (.returned (.slice A' n (c-at_))) (((w.drewN i).setCell ⟨g,1,none⟩ (.int .i64 ((at_:Int)+(n:Int)))).drewN k):=by
 have hlen:((l.drop at_).take n).length=n:=by simp;omega
 have hlc:=hr.lc
 have hcm:=hr.cm
 have hb:RB (((w.drewN i).setCell ⟨g,1,none⟩ (.int .i64 ((at_:Int)+(n:Int)))).drewN k) g A l:=(Reads.setCell (hr.rb.drewN i) (by simp) _).drewN k
 have hd:=Reads.drop (k:=at_) (cap:=c) hb (by omega) hlc
 have ht:=Reads.take (k:=n) hd (by omega)
 simp only [Nat.mul_one] at ht
 rw [←hA] at ht
 have hR:=(((hr.drewN i).goto_ (k:=at_+n) hn).drewN k)
 rw [show (((at_+n:Nat)):Int)=(at_:Int)+(n:Int) by omega] at hR
 refine ⟨A',c-at_,by rw [hlen],?_,hlen,by omega,by omega,hR,?_⟩
 ·unfold RB
  rw [hlen]
  simpa [bvs,List.map_take,List.map_drop] using ht
 ·exact ((((Only.refl g w).drewN i).setCell (.inl rfl) _).drewN k)
theorem tookOk_same {g:Nat}{A:Option Addr}{l:List UInt8}{at_ n:Nat}{w:World}(hr:Rd w g A at_ l at_ 0)(hn:at_+n≤l.length)(i k:Nat) :
  TookOk g at_ A l at_ n w (.returned (.slice A n 0)) (((w.drewN i).setCell ⟨g,1,none⟩ (.int .i64 ((at_:Int)+(n:Int)))).drewN k):=by
 have h:=tookOk_of (A':=A) hr hn i k (by rw [if_pos rfl])
 rwa [Nat.sub_self] at h
set_option maxHeartbeats 400000 in
theorem take_ok (g c:Nat)(A:Option Addr)(l:List UInt8)(at_ n:Nat)(w:World)(hr:Rd w g A c l at_ 0)(hn':at_+n≤l.length) :
  Calls Tryz.prog 77 #[.pointer (some ⟨g,0,none⟩),.int .i64 (n:Int)] w (TookOk g c A l at_ n w):=by
 have c0:=hr.c0
 have c1:=hr.c1
 have c2:=hr.c2
 have f1:=hr.blk.frozen 1
 have hle:=hr.le
 have hlc:=hr.lc
 have hcm:=hr.cm
 unfold maxLen at hcm
 have hnn:¬ (n:Int)<0:=by omega
 have hd:decide ((n:Int)<0)=false:=by simp
 have hns:¬ (l.length:Int)-at_<n:=by omega
 have hds:decide ((l.length:Int)-at_<n)=false:=by simpa using hns
 go_enter Tryz.func77,Tryz.ntmps77
 go_wp2
 go_quiet (fail)
 go_wp2
 go_quiet (fail)
 go_wp2
 all_goals go_ret
 ·have e:c=at_:=by assumption
  subst e
  exact tookOk_same hr hn' _ _
 ·exact tookOk_of (A':=A.map (·.add at_)) hr hn' _ _ (by rw [if_neg ‹_›])

/-- What a take leaves, whatever it is asked. -/
def Took (g c:Nat)(A:Option Addr)(l:List UInt8)(m:List UInt8×Nat×Int)(w:World)(e:Ending)(w':World):Prop :=
 ∃ A' c',e=.returned (.slice A' m.1.length c')∧RB w' g A' m.1∧m.1.length≤c'∧c'≤maxLen∧Rd w' g A c l m.2.1 m.2.2∧Only g w w'
theorem take_any (g c:Nat)(A:Option Addr)(l:List UInt8)(at_:Nat)(err n:Int)(w:World)(hr:Rd w g A c l at_ err) :
  Calls Tryz.prog 77 #[.pointer (some ⟨g,0,none⟩),.int .i64 n] w (Took g c A l (takeM l at_ err n) w):=by
 unfold takeM
 by_cases he:err=0
 ·subst he
  rw [if_neg (by simp)]
  by_cases hn:n<0
  ·rw [if_pos hn]
   refine (take_neg g c A l at_ n w hr hn).mono ?_
   rintro e w' ⟨rfl,rfl⟩
   exact ⟨none,0,rfl,Reads.none_,Nat.le_refl _,by simp [maxLen],hr.err 2,(Only.refl g w).setCell (.inl rfl) _⟩
  ·rw [if_neg hn]
   by_cases hs:(l.length:Int)-at_<n
   ·rw [if_pos hs]
    refine (take_short g c A l at_ n w hr (by omega) hs).mono ?_
    rintro e w' ⟨rfl,k,rfl⟩
    exact ⟨none,0,rfl,Reads.none_,Nat.le_refl _,by simp [maxLen],(hr.drewN k).err 110,((Only.refl g w).drewN k).setCell (.inl rfl) _⟩
   ·rw [if_neg hs]
    obtain ⟨k,rfl⟩:=Int.eq_ofNat_of_zero_le (show 0≤n by omega)
    refine (take_ok g c A l at_ k w hr (by have:=hr.le;omega)).mono ?_
    rintro e w' ⟨A',c',he,hb,hl,hc1,hc2,hR,hO⟩
    exact ⟨A',c',he,hb,by simp only [Int.toNat_natCast];omega,hc2,hR,hO⟩
 ·rw [if_pos he]
  refine (take_err g c A l at_ err n w hr (by simpa using he)).mono ?_
  rintro e w' ⟨rfl,rfl⟩
  exact ⟨none,0,rfl,Reads.none_,Nat.le_refl _,by simp [maxLen],hr,Only.refl g w⟩
theorem takeM_len (l:List UInt8)(at_:Nat)(err n:Int):(takeM l at_ err n).1.length≤n.toNat:=by
 unfold takeM
 split
 ·simp
 ·split
  ·simp
  ·split
   ·simp
   ·simp;omega

theorem num_snoc (l:List UInt8)(b:UInt8):num (l++[b])=num l+256^l.length*b.toNat:=by
 induction l with
 | nil=>simp [num]
 | cons a l ih =>
  simp only [List.cons_append,num,ih,List.length_cons,Nat.pow_succ]
  rw [Nat.mul_add,Nat.add_assoc,Nat.mul_comm (256^l.length) 256,Nat.mul_assoc]
theorem num_lt (l:List UInt8):num l<256^l.length:=by
 induction l with
 | nil=>simp [num]
 | cons a l ih =>
  have:=a.toNat_lt
  simp only [num,List.length_cons,Nat.pow_succ]
  omega

theorem or_step (x b k:Nat)(hx:x<256^k)(hb:b<256)(hk:k<4):bits .or .u32 (x:Int) ((b:Int)*2^(8*k)%4294967296)=((x+256^k*b:Nat):Int):=by
 have key:∀ p:Nat,p*256≤4294967296→x<p→(∃ i,p=2^i)→bits .or .u32 (x:Int) ((b:Int)*(p:Int)%4294967296)=((x+p*b:Nat):Int):=by
  rintro p hp hxp ⟨i,rfl⟩
  have hbp:2^i*b≤2^i*255:=Nat.mul_le_mul_left _ (by omega)
  have e1:((b:Int)*((2^i:Nat):Int)%4294967296)=((2^i*b:Nat):Int):=by
   rw [←Int.natCast_mul,Nat.mul_comm b]
   omega
  rw [e1,u32_or_nat _ _ (by omega) (by omega),Nat.or_comm,nat_join i _ _ (Nat.mul_mod_right _ _) hxp,Nat.add_comm]
 have h4:k=0∨k=1∨k=2∨k=3:=by omega
 rcases h4 with rfl | rfl | rfl | rfl
 ·exact key 1 (by omega) hx ⟨0,rfl⟩
 ·exact key 256 (by omega) hx ⟨8,rfl⟩
 ·exact key 65536 (by omega) hx ⟨16,rfl⟩
 ·exact key 16777216 (by omega) hx ⟨24,rfl⟩

/-- What the reader is behind a call that takes. -/
def After (g c:Nat)(A:Option Addr)(l:List UInt8)(m:List UInt8×Nat×Int)(v:Value)(w:World)(e:Ending)(w':World):Prop :=
 e=.returned v∧Rd w' g A c l m.2.1 m.2.2∧Only g w w'
set_option maxHeartbeats 1000000 in
theorem number_any (g c:Nat)(A:Option Addr)(l:List UInt8)(at_ n:Nat)(err:Int)(w:World)(hr:Rd w g A c l at_ err)(hn:n≤4) :
  Calls Tryz.prog 78 #[.pointer (some ⟨g,0,none⟩),.int .i64 (n:Int)] w (After g c A l (takeM l at_ err n) (.int .u32 (num (takeM l at_ err n).1:Int)) w):=by
 have hlen:=takeM_len l at_ err n
 rw [Int.toNat_natCast] at hlen
 go_enter Tryz.func78,Tryz.ntmps78
 go_wp2_with (go_at_call 77;refine (take_any g c A l at_ err n w hr).mono ?_;generalize takeM l at_ err n=m at *;rintro e w1 ⟨A',c',rfl,hb,hc1,hc2,hR,hO⟩)
 generalize m.1=r at *
 go_loop [5,6,7,16] (fun x _ _ i=>∃ k:Nat,k≤r.length∧i=.int .i64 k∧x=.int .u32 (num (r.take k):Int)) (fun _ _ _ i=>r.length-(intOf i).toNat)
 case atStart=>exact ⟨0,Nat.zero_le _,rfl,rfl⟩
 case round =>
  obtain ⟨k,hk,rfl,rfl⟩:=hrel
  by_cases hlt:k<r.length
  ·obtain ⟨b,off,rfl,hbB,hc⟩:=hb.at_ hlt
   have h8:(0:Int)≤8*(k:Int):=by omega
   have h32:8*(k:Int)<32:=by omega
   have hs:=num_snoc (r.take k) (r.getD k 0)
   have hx:=num_lt (r.take k)
   rw [←take_snoc r 0 hlt] at hs
   rw [show (r.take k).length=k by simp;omega] at hs hx
   have hst:=or_step _ _ k hx (r.getD k 0).toNat_lt (by omega)
   rw [←hs] at hst
   have HS:=Lib.hid hst
   clear hst hs hx
   generalize num (r.take k)=x0 at *
   generalize r.getD k 0=by0 at *
   have hby:=by0.toNat_lt
   go_wp2
   go_round
   case rel=>exact ⟨k+1,by omega,by go_num,by rw [←HS.out]⟩
   case measure=>simp [intOf];omega
  ·obtain rfl:k=r.length:=by omega
   go_wp2
   go_ret
   exact ⟨rfl,hR,hO⟩

theorem num_lt_take (l:List UInt8)(at_ n:Nat)(err:Int):num (takeM l at_ err n).1<256^n:=by
 have h1:=num_lt (takeM l at_ err n).1
 have h2:=takeM_len l at_ err n
 rw [Int.toNat_natCast] at h2
 exact Nat.lt_of_lt_of_le h1 (Nat.pow_le_pow_right (by omega) h2)

end
end Go.Proofs.YthdldooilcbmlaaGreatDoor
