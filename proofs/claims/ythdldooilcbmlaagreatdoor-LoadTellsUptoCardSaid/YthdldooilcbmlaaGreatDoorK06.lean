/-
  Texts of mine, joined: LoadP, OctRaw, BunGet, BunCheck, BunGroup, SortRLay. The conditions stand with each.
-/
import Derived.Test.YthdldooilcbmlaaGreatDoorK05
import Derived.Shelf.SlicesQ.IndexFunc
import Derived.Lib.SlBy
import Derived.Test.YthdldooilcbmlaaGreatDoorK04
import Derived.Test.YthdldooilcbmlaaGreatDoorK03
import Derived.RangeFuncNested
import Derived.RangeFuncBound
import Derived.RangeFuncCalls
import Derived.RangeFuncLeaves
import Derived.Shelf.Abstract
import Derived.Shelf.RegionOpen
import Derived.WalkKit
import Derived.OwnWalkIn
import Derived.TacticsInMore
import Derived.LoopNIn
import Derived.LoopIn
import Derived.Test.YthdldooilcbmlaaGreatDoorK02
import Derived.Shelf.SlSortCmp.WholeK
import Derived.Test.YthdldooilcbmlaaGreatDoorProg
set_option linter.unusedVariables false
set_option linter.unusedSimpArgs false
namespace Go.Proofs.YthdldooilcbmlaaGreatDoor
section
open Go.RowKit

/-- Where a reader stands, and its error. -/
abbrev RS:=Nat×Int
def rdN (l:List UInt8)(s:RS):Nat×RS:=(num (takeM l s.1 s.2 4).1,(takeM l s.1 s.2 4).2)
def skN (l:List UInt8)(n:Int)(s:RS):RS:=(takeM l s.1 s.2 n).2
/-- How many things of at least so many bytes follow. -/
def cntN (l:List UInt8)(size:Nat)(s:RS):Nat×RS :=
 if (l.length-(rdN l s).2.1)/size<(rdN l s).1 then (0,skN l (((l.length-(rdN l s).2.1:Nat):Int)+1) (rdN l s).2) else rdN l s
def iterN {α:Type}(f:α→α):Nat→α→α
 | 0,x=>x
 | n+1,x=>f (iterN f n x)
def stepT (l:List UInt8)(x:RS×List (Nat×Nat)):RS×List (Nat×Nat) :=
 (skN l ((cntN l 1 x.1).1:Int) (cntN l 1 x.1).2,x.2++[((cntN l 1 x.1).2.1,(cntN l 1 x.1).2.1+(cntN l 1 x.1).1)])
def stepP (l:List UInt8)(nT:Nat)(x:RS×Bool×List Nat):RS×Bool×List Nat :=
 ((rdN l x.1).2,x.2.1 && decide ((rdN l x.1).1<nT),x.2.2++[(rdN l x.1).1])
def stepR (l:List UInt8)(nP nT:Nat)(x:RS×Bool):RS×Bool :=
 ((rdN l (rdN l x.1).2).2,(x.2 && decide ((rdN l x.1).1<nP)) && decide ((rdN l (rdN l x.1).2).1<nT))
def stepX (l:List UInt8)(nP nT:Nat)(x:RS×Bool×List (Nat×Nat)):RS×Bool×List (Nat×Nat) :=
 ((iterN (stepR l nP nT) (cntN l 8 x.1).1 ((cntN l 8 x.1).2,x.2.1)).1,(iterN (stepR l nP nT) (cntN l 8 x.1).1 ((cntN l 8 x.1).2,x.2.1)).2,x.2.2++[((cntN l 8 x.1).2.1,(cntN l 8 x.1).2.1+8*(cntN l 8 x.1).1)])
def stepG (l:List UInt8)(nT nX:Nat)(x:RS×Bool×List RowI):RS×Bool×List RowI :=
 ((rdN l (rdN l x.1).2).2,(x.2.1 && decide ((rdN l x.1).1<nT)) && decide ((rdN l (rdN l x.1).2).1<nX),x.2.2++[(((rdN l x.1).1:Int),((rdN l (rdN l x.1).2).1:Int))])
def bookG (l:List UInt8)(nT nX:Nat)(x:RS×Bool×List (Nat×List RowI)):RS×Bool×List RowI :=
 iterN (stepG l nT nX) (cntN l 8 (rdN l x.1).2).1 ((cntN l 8 (rdN l x.1).2).2,x.2.1 && decide ((rdN l x.1).1<nT),[])
def stepK (l:List UInt8)(nT nX:Nat)(x:RS×Bool×List (Nat×List RowI)):RS×Bool×List (Nat×List RowI) :=
 ((bookG l nT nX x).1,(bookG l nT nX x).2.1,x.2.2++[((rdN l x.1).1,(bookG l nT nX x).2.2)])
def cT (l:List UInt8):Nat×RS:=cntN l 4 (6,0)
def textsS (l:List UInt8):RS×List (Nat×Nat):=iterN (stepT l) (cT l).1 ((cT l).2,[])
def cP (l:List UInt8):Nat×RS:=cntN l 4 (textsS l).1
def pathsS (l:List UInt8):RS×Bool×List Nat:=iterN (stepP l (textsS l).2.length) (cP l).1 ((cP l).2,true,[])
def cX (l:List UInt8):Nat×RS:=cntN l 4 (pathsS l).1
def tabsS (l:List UInt8):RS×Bool×List (Nat×Nat):=iterN (stepX l (pathsS l).2.2.length (textsS l).2.length) (cX l).1 ((cX l).2,(pathsS l).2.1,[])
def cK (l:List UInt8):Nat×RS:=cntN l 8 (tabsS l).1
def booksS (l:List UInt8):RS×Bool×List (Nat×List RowI):=iterN (stepK l (textsS l).2.length (tabsS l).2.2.length) (cK l).1 ((cK l).2,(tabsS l).2.1,[])
/-- Where everything stands. -/
structure IdxM where
 texts:List (Nat×Nat)
 paths:List Nat
 tabs:List (Nat×Nat)
 books:List (Nat×List RowI)
def idxM (l:List UInt8):IdxM:=⟨(textsS l).2,(pathsS l).2.2,(tabsS l).2.2,(booksS l).2.2⟩
def nrowsM (i:IdxM)(t:Nat):Nat:=((i.tabs.getD t (0,0)).2-(i.tabs.getD t (0,0)).1)/8
def rowSum (i:IdxM)(gs:List RowI):Nat:=(gs.map fun g=>nrowsM i g.2.toNat).sum
def modestK (i:IdxM)(gs:List RowI):Bool:=decide (rowSum i gs≤16384) && decide (gs.Pairwise fun x y=>x.1<y.1)
def modestM (i:IdxM):Bool:=(i.books.all fun k=>modestK i k.2) && decide (i.books.length≤513)
def headB:List UInt8:=[86,82,78,67,1,0]
def readOk (l:List UInt8):Bool:=decide ((takeM l 0 0 6).1=headB) && ((booksS l).2.1 && decide ((booksS l).1.2=0) && decide ((booksS l).1.1=l.length) && modestM (idxM l))
def textM (l:List UInt8)(i:IdxM)(n:Nat):ByteArray:=str ((l.drop (i.texts.getD n (0,0)).1).take ((i.texts.getD n (0,0)).2-(i.texts.getD n (0,0)).1))
def rowM (l:List UInt8)(i:IdxM)(t q:Nat):Nat×Nat:=(num ((l.drop ((i.tabs.getD t (0,0)).1+8*q)).take 4),num ((l.drop ((i.tabs.getD t (0,0)).1+8*q+4)).take 4))
def valM (l:List UInt8)(i:IdxM)(t q:Nat):PKey:=(textM l i (i.paths.getD (rowM l i t q).1 0),textM l i (rowM l i t q).2)
def rowsM (l:List UInt8)(i:IdxM)(t:Nat):List PKey:=(List.range (nrowsM i t)).map (valM l i t)
def toldB (l:List UInt8)(i:IdxM)(k:Nat×List RowI):PStep:=(textM l i k.1,k.2.flatMap fun g=>rowsM l i g.2.toNat)
def toldM (l:List UInt8)(i:IdxM):List PStep:=i.books.map (toldB l i)

/-! What a reader's steps say. -/
theorem takeM_bad (l:List UInt8)(p:Nat){e:Int}(h:e≠0)(n:Int):takeM l p e n=([],p,e):=by
 unfold takeM
 rw [if_pos h]
theorem takeM_zero (l:List UInt8)(p:Nat)(n:Int):takeM l p 0 n=if n<0 then ([],p,2) else if n > (l.length:Int)-p then ([],p,110) else ((l.drop p).take n.toNat,p+n.toNat,0):=by
 unfold takeM
 rw [if_neg (fun h=>h rfl)]
theorem takeM_le {l:List UInt8}{p:Nat}(hp:p≤l.length)(e n:Int):(takeM l p e n).2.1≤l.length:=by
 unfold takeM
 split
 ·exact hp
 ·split
  ·exact hp
  ·split
   ·exact hp
   ·show p+n.toNat≤l.length
    omega
/-- No error behind a take: it was whole. -/
theorem takeM_ok {l:List UInt8}{p:Nat}{e n:Int}(h:(takeM l p e n).2.2=0):e=0∧0≤n∧n≤(l.length:Int)-p∧takeM l p e n=((l.drop p).take n.toNat,p+n.toNat,0):=by
 by_cases he:e=0
 ·subst he
  rw [takeM_zero] at h ⊢
  by_cases h1:n<0
  ·rw [if_pos h1] at h
   cases h
  ·rw [if_neg h1] at h ⊢
   by_cases h2:n > (l.length:Int)-p
   ·rw [if_pos h2] at h
    cases h
   ·rw [if_neg h2]
    exact ⟨rfl,by omega,by omega,rfl⟩
 ·rw [takeM_bad l p he] at h
  exact absurd h he
theorem num_lt4 (l:List UInt8)(h:l.length≤4):num l<4294967296:=by
 have h1:∀ l:List UInt8,num l<256^l.length:=by
  intro l
  induction l with
  | nil=>simp [num]
  | cons b r ih =>
   have hb:b.toNat<256:=b.toNat_lt
   rw [List.length_cons,Nat.pow_succ,num]
   omega
 have h2:256^l.length≤256^4:=Nat.pow_le_pow_right (by decide) h
 have h3:=h1 l
 have h4:(256:Nat)^4=4294967296:=by decide
 omega
theorem takeM_few (l:List UInt8)(p:Nat)(e:Int)(n:Nat):(takeM l p e n).1.length≤n:=by
 unfold takeM
 split
 ·exact Nat.zero_le _
 ·split
  ·exact Nat.zero_le _
  ·split
   ·exact Nat.zero_le _
   ·show ((l.drop p).take (n:Int).toNat).length≤n
    rw [List.length_take]
    omega
theorem rdN_lt (l:List UInt8)(s:RS):(rdN l s).1<4294967296:=num_lt4 _ (takeM_few l s.1 s.2 4)
theorem rdN_le {l:List UInt8}{s:RS}(h:s.1≤l.length):(rdN l s).2.1≤l.length:=takeM_le h _ _
theorem skN_le {l:List UInt8}{s:RS}(h:s.1≤l.length)(n:Int):(skN l n s).1≤l.length:=takeM_le h _ _
theorem rdN_ok {l:List UInt8}{s:RS}(h:(rdN l s).2.2=0):s.2=0∧s.1+4≤l.length∧rdN l s=(num ((l.drop s.1).take 4),s.1+4,0):=by
 obtain ⟨h1,h2,h3,h4⟩:=takeM_ok (show (takeM l s.1 s.2 4).2.2=0 from h)
 refine ⟨h1,by omega,?_⟩
 unfold rdN
 rw [h4]
 rfl
theorem skN_ok {l:List UInt8}{s:RS}{n:Nat}(h:(skN l n s).2=0):s.2=0∧s.1+n≤l.length∧skN l n s=(s.1+n,0):=by
 obtain ⟨h1,h2,h3,h4⟩:=takeM_ok (show (takeM l s.1 s.2 n).2.2=0 from h)
 refine ⟨h1,by omega,?_⟩
 unfold skN
 rw [h4]
 rfl
theorem cntN_le {l:List UInt8}{s:RS}(h:s.1≤l.length)(size:Nat):(cntN l size s).2.1≤l.length:=by
 unfold cntN
 split
 ·exact skN_le (rdN_le h) _
 ·exact rdN_le h
theorem cntN_few {l:List UInt8}{s:RS}{size:Nat}:(cntN l size s).1*size≤l.length∧(cntN l size s).1<4294967296:=by
 unfold cntN
 split
 ·simp
 ·rename_i h
  have h1:(rdN l s).1≤(l.length-(rdN l s).2.1)/size:=by omega
  have h2:=Nat.mul_le_mul_right size h1
  have h3:=Nat.div_mul_le_self (l.length-(rdN l s).2.1) size
  exact ⟨by omega,rdN_lt l s⟩
theorem cntN_ok {l:List UInt8}{s:RS}{size:Nat}(hs:s.1≤l.length)(h:(cntN l size s).2.2=0):s.2=0∧s.1+4≤l.length∧cntN l size s=(num ((l.drop s.1).take 4),s.1+4,0)∧(cntN l size s).1*size≤l.length-(cntN l size s).2.1:=by
 unfold cntN at h ⊢
 split at h
 ·exfalso
  obtain ⟨h1,h2,h3,-⟩:=takeM_ok h
  have:=rdN_le hs
  omega
 ·rename_i hc
  rw [if_neg hc]
  obtain ⟨h1,h2,h3⟩:=rdN_ok h
  have h4:(rdN l s).1≤(l.length-(rdN l s).2.1)/size:=by omega
  have h5:=Nat.mul_le_mul_right size h4
  have h6:=Nat.div_mul_le_self (l.length-(rdN l s).2.1) size
  exact ⟨h1,h2,h3,by omega⟩
theorem iterN_inv {α:Type}{f:α→α}{I:Nat→α→Prop}{x:α}(h0:I 0 x)(hs:∀ n y,I n y→I (n+1) (f y)):∀ n,I n (iterN f n x)
 | 0=>h0
 | n+1=>hs n _ (iterN_inv h0 hs n)

/-! Of whatever bytes that are read: everything stands within them. -/
/-- A table's rows, each number within its list. -/
def TabIn (l:List UInt8)(nP nT:Nat)(x:Nat×Nat):Prop:=∃ n,x.2=x.1+8*n∧x.2≤l.length∧∀ q,q<n→num ((l.drop (x.1+8*q)).take 4)<nP∧num ((l.drop (x.1+8*q+4)).take 4)<nT
structure IdxIn (l:List UInt8) (i:IdxM):Prop where
 texts:∀ x∈i.texts,x.1≤x.2∧x.2≤l.length
 paths:∀ p∈i.paths,p<i.texts.length
 tabs:∀ x∈i.tabs,TabIn l i.paths.length i.texts.length x
 books:∀ k∈i.books,k.1<i.texts.length∧∀ g∈k.2,∃ a b:Nat,g=((a:Int),(b:Int))∧a<i.texts.length∧b<i.tabs.length
/-- .. and there are no more than there may be. -/
structure IdxOk (l:List UInt8) (i:IdxM):Prop extends IdxIn l i where
 modest:∀ k∈i.books,rowSum i k.2≤16384∧k.2.Pairwise fun x y=>x.1<y.1
 few:i.books.length≤513
def GoodT (l:List UInt8)(x:RS×List (Nat×Nat)):Prop:=x.1.1≤l.length∧(x.1.2=0→∀ y∈x.2,y.1≤y.2∧y.2≤l.length)
theorem goodT_step {l:List UInt8}{x:RS×List (Nat×Nat)}(h:GoodT l x):GoodT l (stepT l x):=by
 obtain ⟨h1,h2⟩:=h
 refine ⟨skN_le (cntN_le h1 1) _,fun he y hy=>?_⟩
 obtain ⟨e1,e2,-⟩:=skN_ok (s:=(cntN l 1 x.1).2) he
 obtain ⟨e3,-,-,e4⟩:=cntN_ok h1 e1
 rcases List.mem_append.1 hy with hy | hy
 ·exact h2 e3 y hy
 ·rw [List.mem_singleton.1 hy]
  exact ⟨Nat.le_add_right _ _,e2⟩
theorem goodT_all (l:List UInt8)(hl:6≤l.length):GoodT l (textsS l) :=
 iterN_inv (I:=fun _=>GoodT l) ⟨cntN_le hl 4,fun _ y hy=>by cases hy⟩ (fun _ _ h=>goodT_step h) _
def GoodP (l:List UInt8)(nT:Nat)(x:RS×Bool×List Nat):Prop:=x.1.1≤l.length∧(x.2.1=true→∀ y∈x.2.2,y<nT)
theorem goodP_step {l:List UInt8}{nT:Nat}{x:RS×Bool×List Nat}(h:GoodP l nT x):GoodP l nT (stepP l nT x):=by
 obtain ⟨h1,h2⟩:=h
 refine ⟨rdN_le h1,fun he y hy=>?_⟩
 obtain ⟨e1,e2⟩:=Bool.and_eq_true_iff.1 he
 rcases List.mem_append.1 hy with hy | hy
 ·exact h2 e1 y hy
 ·rw [List.mem_singleton.1 hy]
  exact of_decide_eq_true e2
/-- The rows of a table, as they are read. -/
def GoodR (l:List UInt8)(nP nT p0:Nat)(b0:Bool)(e0:Int)(n:Nat)(x:RS×Bool):Prop :=
 x.1.1≤l.length∧(x.1.2=0→e0=0∧x.1.1=p0+8*n)∧(x.2=true→b0=true)∧(x.1.2=0→x.2=true→∀ q,q<n→num ((l.drop (p0+8*q)).take 4)<nP∧num ((l.drop (p0+8*q+4)).take 4)<nT)
theorem goodR_step {l:List UInt8}{nP nT p0 n:Nat}{b0:Bool}{e0:Int}{x:RS×Bool}(h:GoodR l nP nT p0 b0 e0 n x):GoodR l nP nT p0 b0 e0 (n+1) (stepR l nP nT x):=by
 obtain ⟨h1,h2,h3,h4⟩:=h
 have hr:=rdN_le h1
 refine ⟨rdN_le hr,fun he=>?_,fun hb=>h3 (Bool.and_eq_true_iff.1 (Bool.and_eq_true_iff.1 hb).1).1,fun he hb q hq=>?_⟩
 ·obtain ⟨e1,e2,e3⟩:=rdN_ok (s:=(rdN l x.1).2) he
  obtain ⟨e4,e5,e6⟩:=rdN_ok e1
  obtain ⟨e7,e8⟩:=h2 e4
  refine ⟨e7,?_⟩
  show (rdN l (rdN l x.1).2).2.1=_
  rw [e3,e6]
  show x.1.1+4+4=_
  omega
 ·obtain ⟨e1,e2,e3⟩:=rdN_ok (s:=(rdN l x.1).2) he
  obtain ⟨e4,e5,e6⟩:=rdN_ok e1
  obtain ⟨e7,e8⟩:=h2 e4
  obtain ⟨b1,b2⟩:=Bool.and_eq_true_iff.1 hb
  obtain ⟨b3,b4⟩:=Bool.and_eq_true_iff.1 b1
  rcases Nat.lt_or_ge q n with hqn | hqn
  ·exact h4 e4 b3 q hqn
  ·obtain rfl:q=n:=by omega
   have b5:=of_decide_eq_true b4
   have b6:=of_decide_eq_true b2
   rw [e3] at b6
   rw [e6] at b5 b6
   simp only at b5 b6
   rw [e8] at b5 b6
   exact ⟨b5,b6⟩
def GoodX (l:List UInt8)(nP nT:Nat)(b0:Bool)(x:RS×Bool×List (Nat×Nat)):Prop:=x.1.1≤l.length∧(x.2.1=true→b0=true)∧(x.1.2=0→x.2.1=true→∀ y∈x.2.2,TabIn l nP nT y)
theorem goodX_step {l:List UInt8}{nP nT:Nat}{b0:Bool}{x:RS×Bool×List (Nat×Nat)}(h:GoodX l nP nT b0 x):GoodX l nP nT b0 (stepX l nP nT x):=by
 obtain ⟨h1,h2,h3⟩:=h
 have hc:=cntN_le h1 8
 have hR:GoodR l nP nT (cntN l 8 x.1).2.1 x.2.1 (cntN l 8 x.1).2.2 (cntN l 8 x.1).1 (iterN (stepR l nP nT) (cntN l 8 x.1).1 ((cntN l 8 x.1).2,x.2.1)) :=
  iterN_inv (I:=fun n=>GoodR l nP nT (cntN l 8 x.1).2.1 x.2.1 (cntN l 8 x.1).2.2 n) ⟨hc,fun he=>⟨he,rfl⟩,id,fun _ _ q hq=>absurd hq (Nat.not_lt_zero _)⟩ (fun _ _ h=>goodR_step h) _
 obtain ⟨r1,r2,r3,r4⟩:=hR
 refine ⟨r1,fun hb=>h2 (r3 hb),fun he hb y hy=>?_⟩
 obtain ⟨e1,e2⟩:=r2 he
 obtain ⟨e3,-,-,e4⟩:=cntN_ok h1 e1
 rcases List.mem_append.1 hy with hy | hy
 ·exact h3 e3 (r3 hb) y hy
 ·rw [List.mem_singleton.1 hy]
  refine ⟨(cntN l 8 x.1).1,rfl,?_,r4 he hb⟩
  rw [e2] at r1
  exact r1
def GoodG (nT nX:Nat)(b0:Bool)(e0:Int)(x:RS×Bool×List RowI):Prop:=(x.1.2=0→e0=0)∧(x.2.1=true→b0=true)∧(x.2.1=true→∀ g∈x.2.2,∃ a b:Nat,g=((a:Int),(b:Int))∧a<nT∧b<nX)
theorem goodG_step {l:List UInt8}{nT nX:Nat}{b0:Bool}{e0:Int}{x:RS×Bool×List RowI}(h:GoodG nT nX b0 e0 x):GoodG nT nX b0 e0 (stepG l nT nX x):=by
 obtain ⟨h1,h2,h3⟩:=h
 refine ⟨fun he=>h1 (rdN_ok (rdN_ok (s:=(rdN l x.1).2) he).1).1,fun hb=>h2 (Bool.and_eq_true_iff.1 (Bool.and_eq_true_iff.1 hb).1).1,fun hb g hg=>?_⟩
 obtain ⟨b1,b2⟩:=Bool.and_eq_true_iff.1 hb
 obtain ⟨b3,b4⟩:=Bool.and_eq_true_iff.1 b1
 rcases List.mem_append.1 hg with hg | hg
 ·exact h3 b3 g hg
 ·rw [List.mem_singleton.1 hg]
  exact ⟨_,_,rfl,of_decide_eq_true b4,of_decide_eq_true b2⟩
theorem goodG_all {l:List UInt8}{nT nX:Nat}(x:RS×Bool×List (Nat×List RowI)):GoodG nT nX (x.2.1 && decide ((rdN l x.1).1<nT)) (cntN l 8 (rdN l x.1).2).2.2 (bookG l nT nX x) :=
 iterN_inv (I:=fun _=>GoodG nT nX (x.2.1 && decide ((rdN l x.1).1<nT)) (cntN l 8 (rdN l x.1).2).2.2) ⟨id,id,fun _ g hg=>by cases hg⟩ (fun _ _ h=>goodG_step h) _
def GoodK (nT nX:Nat)(b0:Bool)(e0:Int)(x:RS×Bool×List (Nat×List RowI)):Prop:=(x.1.2=0→e0=0)∧(x.2.1=true→b0=true)∧(x.2.1=true→∀ k∈x.2.2,k.1<nT∧∀ g∈k.2,∃ a b:Nat,g=((a:Int),(b:Int))∧a<nT∧b<nX)
theorem cntN_err {l:List UInt8}{s:RS}{size:Nat}(h:(cntN l size s).2.2=0):s.2=0:=by
 unfold cntN at h
 split at h
 ·exact (rdN_ok (takeM_ok h).1).1
 ·exact (rdN_ok h).1
theorem goodK_step {l:List UInt8}{nT nX:Nat}{b0:Bool}{e0:Int}{x:RS×Bool×List (Nat×List RowI)}(h:GoodK nT nX b0 e0 x):GoodK nT nX b0 e0 (stepK l nT nX x):=by
 obtain ⟨h1,h2,h3⟩:=h
 obtain ⟨g1,g2,g3⟩:=goodG_all (l:=l) (nT:=nT) (nX:=nX) x
 refine ⟨fun he=>h1 (rdN_ok (cntN_err (g1 he))).1,fun hb=>h2 (Bool.and_eq_true_iff.1 (g2 hb)).1,fun hb k hk=>?_⟩
 obtain ⟨b1,b2⟩:=Bool.and_eq_true_iff.1 (g2 hb)
 rcases List.mem_append.1 hk with hk | hk
 ·exact h3 b1 k hk
 ·rw [List.mem_singleton.1 hk]
  exact ⟨of_decide_eq_true b2,g3 hb⟩
/-- The error sticks. -/
theorem errP {l:List UInt8}{nT:Nat}{x:RS×Bool×List Nat}:∀ n,(iterN (stepP l nT) n x).1.2=0→x.1.2=0
 | 0,h=>h
 | n+1,h=>errP n (rdN_ok h).1
theorem errR {l:List UInt8}{nP nT:Nat}{x:RS×Bool}:∀ n,(iterN (stepR l nP nT) n x).1.2=0→x.1.2=0
 | 0,h=>h
 | n+1,h=>errR n (rdN_ok (rdN_ok (s:=(rdN l (iterN (stepR l nP nT) n x).1).2) h).1).1
theorem errX {l:List UInt8}{nP nT:Nat}{x:RS×Bool×List (Nat×Nat)}:∀ n,(iterN (stepX l nP nT) n x).1.2=0→x.1.2=0
 | 0,h=>h
 | n+1,h=>errX n (cntN_err (errR _ h))
theorem goodP_all {l:List UInt8}{nT:Nat}{s:RS}(hs:s.1≤l.length)(n:Nat):GoodP l nT (iterN (stepP l nT) n (s,true,[])) :=
 iterN_inv (I:=fun _=>GoodP l nT) ⟨hs,fun _ y hy=>by cases hy⟩ (fun _ _ h=>goodP_step h) n
theorem goodX_all {l:List UInt8}{nP nT:Nat}{s:RS}{b:Bool}(hs:s.1≤l.length)(n:Nat):GoodX l nP nT b (iterN (stepX l nP nT) n (s,b,[])) :=
 iterN_inv (I:=fun _=>GoodX l nP nT b) ⟨hs,id,fun _ _ y hy=>by cases hy⟩ (fun _ _ h=>goodX_step h) n
theorem goodK_all {l:List UInt8}{nT nX:Nat}{s:RS}{b:Bool}(n:Nat):GoodK nT nX b s.2 (iterN (stepK l nT nX) n (s,b,[])) :=
 iterN_inv (I:=fun _=>GoodK nT nX b s.2) ⟨id,id,fun _ k hk=>by cases hk⟩ (fun _ _ h=>goodK_step h) n
theorem cK_err {l:List UInt8}(h:(cK l).2.2=0):(tabsS l).1.2=0:=by
 unfold cK at h
 generalize (tabsS l).1=s at h ⊢
 exact cntN_err h
theorem cX_err {l:List UInt8}(h:(cX l).2.2=0):(pathsS l).1.2=0:=by
 unfold cX at h
 generalize (pathsS l).1=s at h ⊢
 exact cntN_err h
theorem cP_err {l:List UInt8}(h:(cP l).2.2=0):(textsS l).1.2=0:=by
 unfold cP at h
 generalize (textsS l).1=s at h ⊢
 exact cntN_err h
theorem tabs_err {l:List UInt8}(h:(tabsS l).1.2=0):(cX l).2.2=0:=by
 unfold tabsS at h
 generalize cX l=c at h ⊢
 generalize pathsS l=p at h
 exact errX (x:=(c.2,p.2.1,[])) c.1 h
theorem paths_err {l:List UInt8}(h:(pathsS l).1.2=0):(cP l).2.2=0:=by
 unfold pathsS at h
 generalize cP l=c at h ⊢
 exact errP (x:=(c.2,true,[])) c.1 h
theorem paths_good {l:List UInt8}(h:(textsS l).1.1≤l.length):GoodP l (textsS l).2.length (pathsS l):=by
 unfold pathsS
 exact goodP_all (s:=(cP l).2) (by unfold cP;exact cntN_le h 4) _
theorem tabs_good {l:List UInt8}(h:(pathsS l).1.1≤l.length):GoodX l (pathsS l).2.2.length (textsS l).2.length (pathsS l).2.1 (tabsS l):=by
 unfold tabsS
 exact goodX_all (s:=(cX l).2) (by unfold cX;exact cntN_le h 4) _
theorem books_good (l:List UInt8):GoodK (textsS l).2.length (tabsS l).2.2.length (tabsS l).2.1 (cK l).2.2 (booksS l):=by
 unfold booksS
 exact goodK_all (s:=(cK l).2) _
theorem head_len {l:List UInt8}(h:(takeM l 0 0 6).1=headB):6≤l.length:=by
 have h1:=congrArg List.length h
 rw [takeM_zero] at h1
 by_cases h2:(6:Int) > (l.length:Int)-(0:Nat)
 ·rw [if_neg (by decide),if_pos h2] at h1
  exact absurd h1 (by decide)
 ·omega
theorem readOk_iff {l:List UInt8}:readOk l=true↔(takeM l 0 0 6).1=headB∧(booksS l).2.1=true∧(booksS l).1.2=0∧(booksS l).1.1=l.length∧modestM (idxM l)=true:=by
 unfold readOk
 simp only [Bool.and_eq_true,decide_eq_true_eq,and_assoc]
theorem modestM_ok {i:IdxM}(h:modestM i=true):(∀ k∈i.books,rowSum i k.2≤16384∧k.2.Pairwise fun x y=>x.1<y.1)∧i.books.length≤513:=by
 unfold modestM at h
 obtain ⟨m1,m2⟩:=Bool.and_eq_true_iff.1 h
 refine ⟨fun k hk=>?_,of_decide_eq_true m2⟩
 have h3:=List.all_eq_true.1 m1 k hk
 unfold modestK at h3
 obtain ⟨m3,m4⟩:=Bool.and_eq_true_iff.1 h3
 exact ⟨of_decide_eq_true m3,of_decide_eq_true m4⟩
theorem read_in {l:List UInt8}(a1:(takeM l 0 0 6).1=headB)(a2:(booksS l).2.1=true)(a3:(booksS l).1.2=0):IdxIn l (idxM l):=by
 have tT:=goodT_all l (head_len a1)
 have tP:=paths_good tT.1
 have tX:=tabs_good tP.1
 have tK:=books_good l
 have e1:=cK_err (tK.1 a3)
 have e2:=cX_err (tabs_err e1)
 have e3:=cP_err (paths_err e2)
 have b1:=tK.2.1 a2
 have b2:=tX.2.1 b1
 have g1:=tT.2 e3
 have g2:=tP.2 b2
 have g3:=tX.2.2 e1 b1
 have g4:=tK.2.2 a2
 clear tT tP tX tK e1 e2 e3 b1 b2 a1 a2 a3
 unfold idxM
 generalize textsS l=x1 at *
 generalize pathsS l=x2 at *
 generalize tabsS l=x3 at *
 generalize booksS l=x4 at *
 exact ⟨g1,g2,g3,g4⟩
theorem read_good {l:List UInt8}(h:readOk l=true):IdxOk l (idxM l):=by
 obtain ⟨a1,a2,a3,-,a5⟩:=readOk_iff.1 h
 obtain ⟨m1,m2⟩:=modestM_ok a5
 exact ⟨read_in a1 a2 a3,m1,m2⟩
end
section
open Go.RowKit

set_option maxHeartbeats 400000 in
theorem u32_any (g c:Nat)(A:Option Addr)(l:List UInt8)(at_:Nat)(err:Int)(w:World)(hr:Rd w g A c l at_ err) :
  Calls Tryz.prog 53 #[.pointer (some ⟨g,0,none⟩)] w (After g c A l (takeM l at_ err 4) (.int .u32 (num (takeM l at_ err 4).1:Int)) w):=by
 have hlt:num (takeM l at_ err 4).1<4294967296:=num_lt_take l at_ 4 err
 have hC:=number_any g c A l at_ 4 err w hr (by omega)
 have HC:=Lib.hid hC
 clear hC
 generalize takeM l at_ err 4=m at *
 go_enter Tryz.func53,Tryz.ntmps53
 go_wp2_with (go_at_call 78;refine HC.out.mono ?_;rintro e w1 ⟨rfl,hR,hO⟩)
 go_ret
 exact ⟨rfl,hR,hO⟩
theorem after_own {g c:Nat}{A:Option Addr}{l:List UInt8}{at_:Nat}{err:Int}{w w':World}(h:Rd w g A c l at_ err)(hb:Below w.heap.size w w'):Rd w' g A c l at_ err :=
 ⟨h.blk.below hb h.blk.lt,h.rb.below (hb.mono (Nat.le_of_lt h.blk.lt)),h.lc,h.cm,h.le⟩

/-- What Raw leaves: a row of the call's own. -/
def RawLeft (g c:Nat)(A:Option Addr)(l:List UInt8)(m:List UInt8×Nat×Int)(w:World)(e:Ending)(w':World):Prop :=
 ∃ v,e=.returned v∧OB w' w.heap.size 5 v m.1∧Rd w' g A c l m.2.1 m.2.2∧Only g w w'
set_option maxHeartbeats 400000 in
theorem raw_any (g c:Nat)(A:Option Addr)(l:List UInt8)(at_:Nat)(err n:Int)(w:World)(hr:Rd w g A c l at_ err)(hlen:l.length≤140737488355328) :
  Calls Tryz.prog 49 #[.pointer (some ⟨g,0,none⟩),.int .i64 n] w (RawLeft g c A l (takeM l at_ err n) w):=by
 have hm:(takeM l at_ err n).1.length≤140737488355328:=by
  unfold takeM
  repeat' split
  all_goals simp
  omega
 have hC:=take_any g c A l at_ err n w hr
 have HC:=Lib.hid hC
 clear hC
 generalize takeM l at_ err n=m at *
 go_enter Tryz.func49,Tryz.ntmps49
 go_wp2_with (first | (go_at_call 77;refine HC.out.mono ?_;rintro e w1 ⟨A',c',rfl,hb,hc1,hc2,hR,hO⟩) | (go_at_call 47;refine (bclone_any m.1 A' c' g w1 hb (by have:=hR.blk.lt;omega) hm).mono ?_;rintro e w2 ⟨v2,rfl,ho2,hb2⟩))
 go_ret
 have hz:w.heap.size≤w1.heap.size:=hO.size
 exact ⟨v2,rfl,ho2.base hz,after_own hR hb2,hO.trans (Only.of_below hb2)⟩

set_option maxHeartbeats 400000 in
theorem err_any (g c:Nat)(A:Option Addr)(l:List UInt8)(at_:Nat)(err:Int)(w:World)(hr:Rd w g A c l at_ err) :
  Calls Tryz.prog 54 #[.pointer (some ⟨g,0,none⟩)] w fun e w'=>e=.returned (.int .i64 err)∧w=w':=by
 have c2:=hr.c2
 go_enter Tryz.func54,Tryz.ntmps54
 go_wp2
 go_ret
 exact ⟨rfl,rfl⟩
set_option maxHeartbeats 400000 in
theorem left_any (g c:Nat)(A:Option Addr)(l:List UInt8)(at_:Nat)(err:Int)(w:World)(hr:Rd w g A c l at_ err) :
  Calls Tryz.prog 55 #[.pointer (some ⟨g,0,none⟩)] w fun e w'=>e=.returned (.int .i64 ((l.length:Int)-at_))∧∃ k,w.drewN k=w':=by
 have c0:=hr.c0
 have c1:=hr.c1
 have hlc:=hr.lc
 have hcm:=hr.cm
 have hle:=hr.le
 unfold maxLen at hcm
 go_enter Tryz.func55,Tryz.ntmps55
 go_wp2
 go_quiet (fail)
 go_wp2
 go_ret
 exact ⟨rfl,_,rfl⟩
end
section
open Go.RowKit

instance:Inhabited PKey:=⟨(ByteArray.empty,ByteArray.empty)⟩
end
section
open Go.RowKit

theorem ba_some {s:ByteArray}(h:¬ s=ByteArray.empty):(s.toList == [])=false∧s.toList.isEmpty=false∧¬ s.toList=[]:=by
 have h0:¬ s.toList=[]:=by
  intro e
  rw [Lib.toList_data] at e
  exact h (Go.WideShapes.bytes_inj (by rw [e];rfl))
 refine ⟨?_,?_,h0⟩ <;> cases hh:s.toList with
  | nil=>exact absurd hh h0
  | cons _ _=>rfl
theorem ba_beqB (a b:ByteArray):(a.toList == b.toList)=decide (a=b):=by
 rw [Bool.eq_iff_iff]
 simp only [beq_iff_eq,decide_eq_true_eq]
 exact ⟨fun h=>by rw [Lib.toList_data,Lib.toList_data] at h;exact Go.WideShapes.bytes_inj h,fun h=>by rw [h]⟩
theorem metF_add (M:List ByteArray)(p:ByteArray):putMF (metF M) p (.bool true)=metF (addM M p):=by
 unfold addM
 split
 ·rename_i h
  funext s
  unfold putMF
  split
  ·rename_i e
   rw [e]
   unfold metF
   rw [if_pos (show metB M p=true from h)]
  ·rfl
 ·exact metF_put M p
theorem metF_get (M:List ByteArray)(p:ByteArray):(metF M p).getD (.bool false)=.bool (hasT M p):=by
 unfold metF
 by_cases h:hasT M p=true
 ·rw [if_pos (show metB M p=true from h),h];rfl
 ·rw [if_neg (show ¬ metB M p=true from h)]
  have:hasT M p=false:=by simpa using h
  rw [this];rfl
theorem metF_some (M:List ByteArray)(p:ByteArray):(metF M p).isSome=hasT M p:=by
 unfold metF
 by_cases h:hasT M p=true
 ·rw [if_pos (show metB M p=true from h),h];rfl
 ·rw [if_neg (show ¬ metB M p=true from h)]
  have:hasT M p=false:=by simpa using h
  rw [this];rfl
/-- What value leaves of the map of the paths that have been met. -/
def ValPostB (M:List ByteArray)(ahead:ByteArray)(x:PKey)(b n:Nat)(w:World)(en:Ending)(w':World):Prop :=
 en=.returned (.int .i64 (valE M ahead x))∧((valE M ahead x=0∧MapS w' b (n+1) (addM M x.1).length (metF (addM M x.1)))∨(valE M ahead x≠0∧MapS w' b n M.length (metF M)))∧Only b w w'
theorem below_only {b:Nat}{w w':World}(h:Below w.heap.size w w'):Only b w w':=⟨h.os,h.tape,h.output,h.size,fun k hk _=>h.block k hk⟩
set_option maxHeartbeats 8000000 in
set_option maxRecDepth 100000 in
theorem bvalue_any (M:List ByteArray)(ahead:ByteArray)(x:PKey)(b n:Nat)(w:World)(hM:MapS w b n M.length (metF M))(hn:n≤100000000)(h1:x.1.size≤140737488355328)(h2:x.2.size≤140737488355328) :
  Calls Tryz.prog 76 #[.agg #[.string x.1,.string x.2],.string ahead,.map (some b)] w (ValPostB M ahead x b n w):=by
 obtain ⟨p,t⟩:=x
 simp only at h1 h2
 have HMP:=Lib.hid hM
 have HB1:=Lib.hid ((Below.refl _ w).alloc (Nat.le_refl _) (.cells #[.string p,.string t] 71))
 have HV:=Lib.hid (Blk.new w 71 #[.string p,.string t])
 have HPC:=Lib.hid (fun W=>pcheck_any p W h1)
 have HUC:=Lib.hid (fun W=>check_any t W h2)
 have hfl:=fun (x y:Int) (W:World)=>(show (Instr.field 116 (.agg #[.int .i64 x,.int .i64 y]) 0).run Tryz.prog W=.ok (.int .i64 x) W from by kernel_rfl)
 have HVE:=Lib.hid (show ∀ e:Int,valE M ahead (p,t)=e→e≠0→∀ W,Below w.heap.size w W→MapS W b n M.length (metF M)→ValPostB M ahead (p,t) b n w (.returned (.int .i64 e)) W from fun e he h0 W hb hm=>⟨by rw [he],.inr ⟨by rw [he];exact h0,hm⟩,below_only hb⟩)
 by_cases hp0:p=ByteArray.empty
 ·subst hp0
  have HX:=Lib.hid (show valE M ahead (ByteArray.empty,t)=2 from if_pos (.inl rfl))
  go_enter Tryz.func76,Tryz.ntmps76
  go_wp2
  go_ret
  exact HVE.out 2 HX.out (by decide) _ HB1.out (HMP.out.on HB1.out)
 ·have hk:=ba_some hp0
  have hk1:=hk.1
  have hk2:=hk.2.1
  have hk3:=hk.2.2
  clear hk
  cases hr:rightB p
  ·have HX:=Lib.hid (show valE M ahead (p,t)=2 from if_pos (.inr hr))
   have hx:((errOf p).1 == 0)=false:=hr
   have hx2:¬ (errOf p).1=0:=by simpa using hx
   clear hr
   unfold CheckPost at HPC
   generalize (errOf p).1=e1 at *
   generalize (errOf p).2=e2 at *
   go_enter Tryz.func76,Tryz.ntmps76
   go_wp2_with (go_at_call 118;go_loud (refine (HPC.out _).mono ?_;rintro en w2 ⟨rfl,hb2⟩;have HB2:=Lib.hid (HB1.out.trans (hb2.mono HB1.out.size));clear hb2))
   go_ret
   exact HVE.out 2 HX.out (by decide) _ HB2.out (HMP.out.on HB2.out)
  ·have HR:=Lib.hid hr
   have hx:(errOf p).1=0:=by
    have h0:((errOf p).1 == 0)=true:=hr
    simpa using h0
   unfold CheckPost at HPC
   rw [hx] at HPC
   clear hr hx
   generalize (errOf p).2=e2 at *
   have HNE:=Lib.hid (show ¬ (p=ByteArray.empty∨rightB p=false) from fun h=>h.elim hp0 fun h=>by rw [HR.out] at h;cases h)
   cases hbl:bl ahead p
   ·have hb2:Op.bytesLess ahead.toList p.toList=false:=hbl
    have HX:=Lib.hid (show valE M ahead (p,t)=320 from by unfold valE;rw [if_neg HNE.out,if_pos hbl])
    have hcs:Op.bytesLess p.toList ahead.toList=true∨(Op.bytesLess p.toList ahead.toList=false∧(p.toList == ahead.toList)=true):=by
     cases h1:Op.bytesLess p.toList ahead.toList
     ·exact .inr ⟨rfl,by rw [blT.conn ahead p hbl h1];simp⟩
     ·exact .inl rfl
    clear hbl hb2
    rcases hcs with h1 | ⟨h1,h2⟩
    all_goals
     go_enter Tryz.func76,Tryz.ntmps76
     go_wp2_with (go_at_call 118;go_loud (refine (HPC.out _).mono ?_;rintro en w2 ⟨rfl,hb2⟩;have HB2:=Lib.hid (HB1.out.trans (hb2.mono HB1.out.size));have HV2:=Lib.hid (HV.out.below hb2 HV.out.lt);have v0:=HV2.out.cell 0;have v1:=HV2.out.cell 1;clear hb2))
     go_ret
     exact HVE.out 320 HX.out (by decide) _ HB2.out (HMP.out.on HB2.out)
   ·have hb2:Op.bytesLess p.toList ahead.toList=false:=by
     cases h1:Op.bytesLess p.toList ahead.toList
     ·rfl
     ·have:=blT.tr _ _ _ (show bl p ahead=true from h1) hbl
      rw [blT.irr] at this
      cases this
    have hb4:(p.toList == ahead.toList)=false:=by
     rw [ba_beqB]
     exact decide_eq_false fun e=>by rw [e,blT.irr] at hbl;cases hbl
    have HBL:=Lib.hid (show ¬ bl ahead p=false from by rw [hbl];simp)
    clear hbl
    unfold checkV at HUC
    cases hbr:broken t with
    | some q =>
     have HX:=Lib.hid (show valE M ahead (p,t)=6 from by unfold valE;rw [if_neg HNE.out,if_neg HBL.out,if_pos (by rw [hbr];rfl)])
     rw [hbr] at HUC
     simp only [spotV] at HUC
     clear hbr
     go_enter Tryz.func76,Tryz.ntmps76
     go_wp2_with (first | (go_at_call 118;go_loud (refine (HPC.out _).mono ?_;rintro en w2 ⟨rfl,hb2⟩;have HB2:=Lib.hid (HB1.out.trans (hb2.mono HB1.out.size));have HV2:=Lib.hid (HV.out.below hb2 HV.out.lt);have v0:=HV2.out.cell 0;have v1:=HV2.out.cell 1;clear hb2)) | (go_at_call 75;go_loud (refine (HUC.out _).mono ?_;rintro en w3 ⟨rfl,hb3⟩;have HB3:=Lib.hid (HB2.out.trans (hb3.mono HB2.out.size));have HV3:=Lib.hid (HV2.out.below hb3 HV2.out.lt);have x0:=HV3.out.cell 0;have x1:=HV3.out.cell 1;clear hb3 v0 v1;skip)))
     go_ret
     exact HVE.out 6 HX.out (by decide) _ HB3.out (HMP.out.on HB3.out)
    | none =>
     have HBR:=Lib.hid (show ¬ (broken t).isSome=true from by rw [hbr];simp)
     rw [hbr] at HUC
     simp only [spotV] at HUC
     clear hbr
     by_cases hsz:4096<t.size
     ·have hs2:(4096:Int)<(t.size:Int):=by omega
      have HX:=Lib.hid (show valE M ahead (p,t)=3 from by unfold valE;rw [if_neg HNE.out,if_neg HBL.out,if_neg HBR.out,if_pos (.inl hsz)])
      go_enter Tryz.func76,Tryz.ntmps76
      go_wp2_with (first | (go_at_call 118;go_loud (refine (HPC.out _).mono ?_;rintro en w2 ⟨rfl,hb2⟩;have HB2:=Lib.hid (HB1.out.trans (hb2.mono HB1.out.size));have HV2:=Lib.hid (HV.out.below hb2 HV.out.lt);have v0:=HV2.out.cell 0;have v1:=HV2.out.cell 1;clear hb2)) | (go_at_call 75;go_loud (refine (HUC.out _).mono ?_;rintro en w3 ⟨rfl,hb3⟩;have HB3:=Lib.hid (HB2.out.trans (hb3.mono HB2.out.size));have HV3:=Lib.hid (HV2.out.below hb3 HV2.out.lt);have x0:=HV3.out.cell 0;have x1:=HV3.out.cell 1;clear hb3 v0 v1;skip)))
      go_ret
      exact HVE.out 3 HX.out (by decide) _ HB3.out (HMP.out.on HB3.out)
     ·have hs2:¬ (4096:Int)<(t.size:Int):=by omega
      have hpm:p.size≤maxLen:=by simp only [maxLen];omega
      by_cases hfull:hasT M p=false∧M.length=16384
      ·have HX:=Lib.hid (show valE M ahead (p,t)=3 from by unfold valE;rw [if_neg HNE.out,if_neg HBL.out,if_neg HBR.out,if_pos (.inr hfull)])
       have hm1:((M.length:Int) == 16384)=true:=by rw [hfull.2];rfl
       have HMG:=Lib.hid (show (metF M p).getD (.bool false)=.bool false from by rw [metF_get,hfull.1])
       clear hfull
       go_enter Tryz.func76,Tryz.ntmps76
       go_wp2_with (first | (go_at_call 118;go_loud (refine (HPC.out _).mono ?_;rintro en w2 ⟨rfl,hb2⟩;have HB2:=Lib.hid (HB1.out.trans (hb2.mono HB1.out.size));have HV2:=Lib.hid (HV.out.below hb2 HV.out.lt);have v0:=HV2.out.cell 0;have v1:=HV2.out.cell 1;clear hb2)) | (go_at_call 75;go_loud (refine (HUC.out _).mono ?_;rintro en w3 ⟨rfl,hb3⟩;have HB3:=Lib.hid (HB2.out.trans (hb3.mono HB2.out.size));have HV3:=Lib.hid (HV2.out.below hb3 HV2.out.lt);have x0:=HV3.out.cell 0;have x1:=HV3.out.cell 1;clear hb3 v0 v1;have HM3:=Lib.hid (HMP.out.on HB3.out);have hlk:=HM3.out.look law_str Tryz.underlying152 (zero_bool w3) hpm (key_str hpm);rw [HMG.out] at hlk;have hln:=fun ty=>HM3.out.len Tryz.underlying152 ty)))
       go_ret
       exact HVE.out 3 HX.out (by decide) _ HB3.out (HMP.out.on HB3.out)
      ·have HX:=Lib.hid (show valE M ahead (p,t)=0 from by unfold valE;rw [if_neg HNE.out,if_neg HBL.out,if_neg HBR.out,if_neg (fun h=>h.elim hsz hfull)])
       have HFU:=Lib.hid hfull
       clear hfull
       have HFIN:=Lib.hid (show ∀ W w4,Below w.heap.size w W→W.grownBy w4 (some b)→MapS w4 b (n+1) (if (metF M p).isSome then M.length else M.length+1) (putMF (metF M) p (.bool true))→ValPostB M ahead (p,t) b n w (.returned (.int .i64 0)) w4 from fun W w4 hb hg hm=>⟨by rw [HX.out],.inl ⟨HX.out,by
        have hl:(addM M p).length=if (metF M p).isSome then M.length else M.length+1:=by rw [addM_len,metF_some]
        rw [hl,←metF_add]
        exact hm⟩,(below_only hb).trans hg⟩)
       cases hh:hasT M p
       ·have hml:¬ (M.length:Int)=16384:=fun e=>HFU.out ⟨hh,by omega⟩
        have hm1:((M.length:Int) == 16384)=false:=by simpa using hml
        have HMG:=Lib.hid (show (metF M p).getD (.bool false)=.bool false from by rw [metF_get,hh])
        clear hh
        go_enter Tryz.func76,Tryz.ntmps76
        go_wp2_with (first | (go_at_call 118;go_loud (refine (HPC.out _).mono ?_;rintro en w2 ⟨rfl,hb2⟩;have HB2:=Lib.hid (HB1.out.trans (hb2.mono HB1.out.size));have HV2:=Lib.hid (HV.out.below hb2 HV.out.lt);have v0:=HV2.out.cell 0;have v1:=HV2.out.cell 1;clear hb2)) | (go_at_call 75;go_loud (refine (HUC.out _).mono ?_;rintro en w3 ⟨rfl,hb3⟩;have HB3:=Lib.hid (HB2.out.trans (hb3.mono HB2.out.size));have HV3:=Lib.hid (HV2.out.below hb3 HV2.out.lt);have x0:=HV3.out.cell 0;have x1:=HV3.out.cell 1;clear hb3 v0 v1;have HM3:=Lib.hid (HMP.out.on HB3.out);have hlk:=HM3.out.look law_str Tryz.underlying152 (zero_bool w3) hpm (key_str hpm);rw [HMG.out] at hlk;have hln:=fun ty=>HM3.out.len Tryz.underlying152 ty;obtain ⟨w4,hrun,hM4,hg4⟩:=HM3.out.store law_str Tryz.underlying152 (by simp only [maxLen];omega) strL_inj hpm (key_str hpm) (.bool true);have HM4:=Lib.hid hM4;have HG4:=Lib.hid hg4;clear hM4 hg4)))
        go_ret
        exact HFIN.out _ _ HB3.out HG4.out HM4.out
       ·have HMG:=Lib.hid (show (metF M p).getD (.bool false)=.bool true from by rw [metF_get,hh])
        clear hh
        go_enter Tryz.func76,Tryz.ntmps76
        go_wp2_with (first | (go_at_call 118;go_loud (refine (HPC.out _).mono ?_;rintro en w2 ⟨rfl,hb2⟩;have HB2:=Lib.hid (HB1.out.trans (hb2.mono HB1.out.size));have HV2:=Lib.hid (HV.out.below hb2 HV.out.lt);have v0:=HV2.out.cell 0;have v1:=HV2.out.cell 1;clear hb2)) | (go_at_call 75;go_loud (refine (HUC.out _).mono ?_;rintro en w3 ⟨rfl,hb3⟩;have HB3:=Lib.hid (HB2.out.trans (hb3.mono HB2.out.size));have HV3:=Lib.hid (HV2.out.below hb3 HV2.out.lt);have x0:=HV3.out.cell 0;have x1:=HV3.out.cell 1;clear hb3 v0 v1;have HM3:=Lib.hid (HMP.out.on HB3.out);have hlk:=HM3.out.look law_str Tryz.underlying152 (zero_bool w3) hpm (key_str hpm);rw [HMG.out] at hlk;have hln:=fun ty=>HM3.out.len Tryz.underlying152 ty;obtain ⟨w4,hrun,hM4,hg4⟩:=HM3.out.store law_str Tryz.underlying152 (by simp only [maxLen];omega) strL_inj hpm (key_str hpm) (.bool true);have HM4:=Lib.hid hM4;have HG4:=Lib.hid hg4;clear hM4 hg4)))
        go_ret
        exact HFIN.out _ _ HB3.out HG4.out HM4.out
/-- The fault's cell at r, the rest above it. -/
def FC (w:World)(r:Nat)(W:World):Prop:=Blk W r 54 #[.int .i64 0,.int .i64 0]∧Below r w W∧r+1≤W.heap.size
theorem FC.below {w W W':World}{r B:Nat}(h:FC w r W)(hb:Below B W W')(hB:r+1≤B):FC w r W':=⟨h.1.below hb (by omega),h.2.1.trans (hb.mono (by omega)),by have:=h.2.2;have:=hb.size;omega⟩
theorem FC.on {w W W':World}{r:Nat}(h:FC w r W)(hb:Below W.heap.size W W'):FC w r W':=h.below hb h.2.2
theorem FC.grown {w W W':World}{r:Nat}{row:Option Nat}(h:FC w r W)(hg:W.grownBy W' row)(hr:∀ k,row=some k→r+1≤k):FC w r W' :=
 ⟨h.1.grown hg (fun e=>by have:=hr _ e.symm;omega),h.2.1.grown hg (by have:=h.2.2;omega) (fun k hk=>by have:=hr k hk;omega),by have:=h.2.2;have:=hg.size;omega⟩
theorem FC.done {w W:World}{r:Nat}(h:FC w r W)(x y:Int):Blk ((W.setCell ⟨r,0,none⟩ (.int .i64 x)).setCell ⟨r,1,none⟩ (.int .i64 y)) r 54 #[.int .i64 x,.int .i64 y]∧Below r w ((W.setCell ⟨r,0,none⟩ (.int .i64 x)).setCell ⟨r,1,none⟩ (.int .i64 y)) :=
 ⟨h.1.two_set _ _,(h.2.1.setCell (p:=⟨r,0,none⟩) (Nat.le_refl _) _).setCell (p:=⟨r,1,none⟩) (Nat.le_refl _) _⟩
theorem FC.alloc {w W:World}{r:Nat}(h:FC w r W)(o:Obj):FC w r (W.alloc o):=h.below ((Below.refl _ W).alloc (Nat.le_refl _) o) h.2.2
theorem FC.drewN {w W:World}{r:Nat}(h:FC w r W)(k:Nat):FC w r (W.drewN k):=h.below (below_drewN (Below.refl _ W) k) h.2.2
abbrev faultW (x y:Int):Value:=.agg #[.int .i64 x,.int .i64 y]
theorem faultW_size:(Tryz.prog.info? 54).map (·.size)=some 2:=by kernel_rfl
theorem buncheck_result {tmps:Array Value}{w:World}{r0:Nat}{x y:Int}(hB:Blk w r0 54 #[.int .i64 x,.int .i64 y])(hp:tmps.getD 2 undef=.pointer (some ⟨r0,0,none⟩)) :
  (results Tryz.f46 tmps).run Tryz.prog w=.ok (.agg #[.int .i64 x,.int .i64 y]) w :=
 results_row Tryz.results46 tmps w r0 54 _ _ hp hB Tryz.underlying54 rfl faultW_size
/-- How many values the Books ahead of a place have. -/
def valN (l:List PStep)(i:Nat):Nat:=((l.take i).map fun b=>b.2.length).sum
theorem valN_next {l:List PStep}{i:Nat}{b:PStep}(h:l[i]?=some b):valN l (i+1)=valN l i+b.2.length:=by
 unfold valN
 rw [List.take_add_one,h]
 simp
theorem valN_le (l:List PStep)(i:Nat):valN l i≤(l.map fun b=>b.2.length).sum:=by
 unfold valN
 conv=>rhs;rw [←List.take_append_drop i l,List.map_append,List.sum_append]
 omega
def CheckPostB (l:List PStep)(w:World)(en:Ending)(w':World):Prop:=en=.returned (faultW (checkB l).1 (checkB l).2)∧Below w.heap.size w w'
theorem size_empty {s:ByteArray}:s.size=0↔s=ByteArray.empty:=ByteArray.size_eq_zero_iff
set_option maxHeartbeats 16000000 in
set_option maxRecDepth 100000 in
theorem buncheck_any (v:Value)(l:List PStep)(vs:List Value)(w:World)(h:StepsR w v l vs)(hin:∀ b∈l,b.1.size≤140737488355328∧(∀ x∈b.2,x.1.size≤140737488355328∧x.2.size≤140737488355328)∧b.2.length≤100000000)(hn:l.length≤100000000)(htot:(l.map fun b=>b.2.length).sum≤90000000) :
  Calls Tryz.prog 46 #[.agg #[v]] w (CheckPostB l w):=by
 obtain ⟨A,c,rfl,hc1,hc2,hRd,hvl,hKs⟩:=h
 unfold maxLen at hc2
 have HRD:=Lib.hid hRd
 have HVL:=Lib.hid hvl
 have HKS:=Lib.hid hKs
 have HIN:=Lib.hid hin
 have HTOT:=Lib.hid htot
 clear hRd hvl hKs hin htot
 obtain ⟨n,hN⟩:∃ n,l.length=n:=⟨_,rfl⟩
 rw [hN] at hc1 hn HRD ⊢
 have HN:=Lib.hid hN
 clear hN
 have hn1:(n:Int)≤100000000:=by omega
 obtain ⟨w1,hw1⟩:∃ w1,w.alloc (.cells #[.slice A n c] 24)=w1:=⟨_,rfl⟩
 have HBX:=Lib.hid (show Blk w1 w.heap.size 24 #[.slice A n c]∧Below w.heap.size w w1∧w1.heap.size=w.heap.size+1 from by rw [←hw1];exact ⟨Blk.new _ _ _,(Below.refl _ _).alloc (Nat.le_refl _) _,by simp⟩)
 obtain ⟨r,hr⟩:∃ r,r=w.heap.size:=⟨_,rfl⟩
 have HR:=Lib.hid hr
 have HF0:=Lib.hid (show FC w1 (r+1) (w1.alloc (.cells #[.int .i64 0,.int .i64 0] 54)) from by
  have hs:=HBX.out.2.2
  rw [hr,←hs]
  exact ⟨Blk.new _ _ _,(Below.refl _ _).alloc (Nat.le_refl _) _,by simp⟩)
 have HBW:=Lib.hid (show ∀ W,FC w1 (r+1) W→Below w.heap.size w W∧W.cell? ⟨r,0,none⟩=some (.slice A n c) from fun W hW=>⟨HBX.out.2.1.trans (hW.2.1.mono (by omega)),by
  have:=HBX.out.1
  rw [←hr] at this
  exact (hW.2.1.cell (p:=⟨r,0,none⟩) (by show r<r+1;omega)).trans (this.cell 0)⟩)
 have HCC:=Lib.hid (show ∀(i:Nat) (b:PStep),l[i]?=some b→∃(kb ko:Nat) (kv:Value),A=some ⟨kb,ko,none⟩∧∀ W,Below w.heap.size w W→W.cell? ⟨kb,ko+i*2,none⟩=some (.string b.1)∧W.cell? ⟨kb,ko+i*2+1,none⟩=some kv∧KeysAt W W.heap.size kv b.2 from fun i b hb=>by
  have hi:=(List.getElem?_eq_some_iff.1 hb).1
  obtain ⟨kv,hkv⟩:∃ kv,vs[i]?=some kv:=⟨_,List.getElem?_eq_getElem (by rw [HVL.out];exact hi)⟩
  obtain ⟨kb,ko,rfl,hkb,hcl⟩:=HRD.out.spot (by have:=HN.out;omega) (by have:=HN.out;omega)
  have hat:=stepCells_at l vs i b kv hb hkv
  exact ⟨kb,ko,kv,rfl,fun W hW=>⟨(hW.cell (p:=⟨kb,ko+i*2,none⟩) hkb).trans (hcl _ _ hat.1),(hW.cell (p:=⟨kb,ko+i*2+1,none⟩) hkb).trans (hcl _ _ hat.2),(HKS.out i b kv hb hkv).more hW hW.size⟩⟩)
 have HW1:=Lib.hid hw1
 clear hr hw1
 have hfl:=fun (x y:Int) (W:World)=>(show (Instr.field 116 (.agg #[.int .i64 x,.int .i64 y]) 0).run Tryz.prog W=.ok (.int .i64 x) W from by kernel_rfl)
 go_enter Tryz.func46,Tryz.ntmps46
 go_upto_region 2 with (fail)
 rw [HW1.out,←HR.out]
 generalize w1.alloc (.cells #[.int .i64 0,.int .i64 0] 54)=w2 at *
 have k0:=(HBW.out w2 HF0.out).2
 go_wp2
 clear k0
 go_loopw [3,16] (fun nv iv wr=>∃ i:Nat,iv=.int .i64 (i:Int)∧i≤n∧nv=.int .i64 (namedN (l.take i):Int)∧FC w1 (r+1) wr) (fun _ iv _=>n-(Lib.intOf iv).toNat)
 case atStart=>exact ⟨0,rfl,Nat.zero_le _,rfl,HF0.out⟩
 case round =>
  clear HF0
  obtain ⟨i,rfl,hi,rfl,hF⟩:=hrel
  have HF:=Lib.hid hF
  clear hF
  have hnm:namedN (l.take i)≤i:=Nat.le_trans (namedN_le _) (by rw [List.length_take];omega)
  by_cases hlt:i<n
  ·have hq:(i:Int)<(n:Int):=by omega
   obtain ⟨b,hb⟩:∃ b,l[i]?=some b:=⟨_,List.getElem?_eq_getElem (by rw [HN.out];exact hlt)⟩
   obtain ⟨kb,ko,kv,rfl,hcw⟩:=HCC.out i b hb
   obtain ⟨z0,z1,hk⟩:=hcw wr (HBW.out wr HF.out).1
   clear hcw
   obtain ⟨Ak,ck,rfl,-,-,-⟩:=hk
   have HST:=Lib.hid (namedN_step hb)
   have hbs:=(HIN.out b (List.mem_of_getElem? hb)).1
   have HB:=Lib.hid hb
   clear hb
   generalize b.2.length=mk at *
   have HF2:=Lib.hid (HF.out.alloc (.cells #[.string b.1,.slice Ak mk ck] 41))
   go_upto_region 5 with (fail)
   have hnb:=Blk.new wr 41 #[.string b.1,.slice Ak mk ck]
   generalize wr.alloc (.cells #[.string b.1,.slice Ak mk ck] 41)=w3 at *
   have y0:w3.cell? ⟨wr.heap.size,0,none⟩=some (.string b.1):=hnb.cell 0
   clear hnb z0 z1
   by_cases hbe:b.1=ByteArray.empty
   ·have hs0:b.1.size=0:=size_empty.2 hbe
    have hs1:(b.1.size:Int)=0:=by omega
    have HX:=Lib.hid (show namedN (l.take (i+1))=namedN (l.take i) from by rw [HST.out,if_pos hbe];rfl)
    clear hbe
    go_wp2
    go_roundw
    case rel=>exact ⟨i+1,by go_num,hlt,by rw [HX.out];go_num,HF2.out⟩
    case measure=>simp [Lib.intOf];omega
   ·have hs0:1≤b.1.size:=Nat.pos_of_ne_zero fun e=>hbe (size_empty.1 e)
    have hs1:(1:Int)≤(b.1.size:Int):=by omega
    have HX:=Lib.hid (show namedN (l.take (i+1))=namedN (l.take i)+1 from by rw [HST.out,if_neg hbe])
    clear hbe
    go_wp2
    go_roundw
    case rel=>exact ⟨i+1,by go_num,hlt,by rw [HX.out];go_num,HF2.out⟩
    case measure=>simp [Lib.intOf];omega
  ·obtain rfl:i=n:=by omega
   have hq:¬ (i:Int)<(i:Int):=by omega
   rw [List.take_of_length_le (by rw [HN.out];exact Nat.le_refl _)] at hnm ⊢
   have k0:=(HBW.out wr HF.out).2
   have HFI:=Lib.hid (show ∀ e a,checkB l=(e,a)→∀ W,FC w1 (r+1) W→CheckPostB l w (.returned (faultW e a)) ((W.setCell ⟨r+1,0,none⟩ (.int .i64 e)).setCell ⟨r+1,1,none⟩ (.int .i64 a)) from fun e a he W hW=>⟨by rw [he],HBX.out.2.1.trans ((hW.done e a).2.mono (by have:=HR.out;omega))⟩)
   by_cases hbig:512<namedN l∨513<l.length
   ·have HCB:=Lib.hid (fun (e a:Int) (he:checkB l=(e,a)) W hW=>HFI.out e a he W hW)
    have HX:=Lib.hid (show checkB l=(3,-1) from if_pos hbig)
    obtain ⟨c0,c1',c2',c3,c4,c5⟩:=HF.out.1.two (.int .i64 3)
    by_cases h5:512<namedN l
    ·have h5':(512:Int)<(namedN l:Int):=by omega
     go_wp2
     (try simp only [Exit.inBlock,Exit.then])
     exact bodyPost_ret (buncheck_result (HF.out.done 3 (-1)).1 rfl) rfl (HCB.out _ _ HX.out _ HF.out)
    ·have h5':¬ (512:Int)<(namedN l:Int):=by omega
     have h6:(513:Int)<(i:Int):=by have:=HN.out;omega
     go_wp2
     (try simp only [Exit.inBlock,Exit.then])
     exact bodyPost_ret (buncheck_result (HF.out.done 3 (-1)).1 rfl) rfl (HCB.out _ _ HX.out _ HF.out)
   ·have h5':¬ (512:Int)<(namedN l:Int):=by omega
    have h6:¬ (513:Int)<(i:Int):=by have:=HN.out;omega
    have HCB:=Lib.hid (fun (e a:Int) (he:booksE l 0 none []=(e,a)) W hW=>HFI.out e a ((if_neg hbig).trans he) W hW)
    clear HFI
    have hmm:=@run_makeMap Tryz.prog
    have HM0:=Lib.hid (show MapS (wr.alloc (.map #[] 0)) wr.heap.size 0 0 (metF []) from by
     have:=MapG.made wr Tryz.prog 9 strL strOk
     have e:metF []=fun _=>none:=by funext s;simp [metF,metB]
     rw [e]
     exact this)
    have HF1:=Lib.hid (HF.out.alloc (.map #[] 0))
    have hmb:r+2≤wr.heap.size:=HF.out.2.2
    have k1:=(HBW.out _ HF1.out).2
    go_upto_region 10 with (fail)
    clear k0
    generalize wr.alloc (.map #[] 0)=w4 at *
    generalize wr.heap.size=mb at *
    clear hmm HF
    go_wp2
    clear k1
    go_loopw [40] (fun jv W=>∃(j:Nat) (M:List ByteArray),jv=.int .i64 (j:Int)∧j≤i∧CkAt l j M∧MapS W mb (valN l j) M.length (metF M)∧FC w1 (r+1) W) (fun jv _=>i-(Lib.intOf jv).toNat)
    case atStart=>exact ⟨0,[],rfl,Nat.zero_le _,ckAt_start l,HM0.out,HF1.out⟩
    case round =>
     clear HM0 HF1
     obtain ⟨j,M,rfl,hj,hCk,hM,hF⟩:=hrel
     have HCK:=Lib.hid hCk
     have HM:=Lib.hid hM
     have HF:=Lib.hid hF
     clear hCk hM hF
     by_cases hji:j<i
     ·have hq2:(j:Int)<(i:Int):=by omega
      obtain ⟨⟨nm,vl⟩,hb⟩:∃ b,l[j]?=some b:=⟨_,List.getElem?_eq_getElem (by rw [HN.out];exact hji)⟩
      obtain ⟨kb,ko,kv,rfl,hcw⟩:=HCC.out j _ hb
      have HCW:=Lib.hid hcw
      obtain ⟨z0,z1,hk⟩:=hcw wr (HBW.out wr HF.out).1
      clear hcw
      have HIB:=Lib.hid (HIN.out _ (List.mem_of_getElem? hb))
      have HB:=Lib.hid hb
      have HVN:=Lib.hid (valN_next hb)
      have HVL2:=Lib.hid (valN_le l (j+1))
      have HUC:=Lib.hid (fun W=>check_any nm W HIB.out.1)
      have hnm:=HIB.out.1
      simp only at z0 z1 hk HVN hnm
      have HKV:=Lib.hid hk
      obtain ⟨Ak,ck,rfl,-,-,-⟩:=hk
      obtain ⟨mk,hmk⟩:∃ mk,vl.length=mk:=⟨_,rfl⟩
      rw [hmk] at z1 HVN HKV HCW
      have HMK:=Lib.hid hmk
      have HPV:=Lib.hid (show ∀ W,FC w1 (r+1) W→W.cell? ⟨r,0,none⟩=some (.slice (some ⟨kb,ko,none⟩) i c) from fun W hW=>(HBW.out W hW).2)
      clear hb hmk
      have HF2:=Lib.hid (HF.out.alloc (.cells #[.string nm,.slice Ak mk ck] 41))
      have HM2:=Lib.hid (HM.out.alloc (.cells #[.string nm,.slice Ak mk ck] 41))
      have HG2:=Lib.hid (Blk.new wr 41 #[.string nm,.slice Ak mk ck])
      have hgm:mb<wr.heap.size:=HM.out.lt
      have hgr:r+2≤wr.heap.size:=HF.out.2.2
      go_upto_region 13 with (fail)
      generalize wr.alloc (.cells #[.string nm,.slice Ak mk ck] 41)=w5 at *
      have y0:=HG2.out.cell 0
      clear z0 z1
      unfold checkV at HUC
      cases hbr:broken nm with
      | some q =>
       rw [hbr] at HUC
       simp only [spotV] at HUC
       have HE:=Lib.hid (show nameE (prevB l j) nm=6 from by unfold nameE;rw [if_pos (by rw [hbr];rfl)])
       have HX:=Lib.hid (HCK.out.name HB.out (by rw [HE.out];decide))
       rw [HE.out] at HX
       clear hbr
       go_upto_region 14 with (go_at_call 75;go_loud (refine (HUC.out _).mono ?_;rintro en w6 ⟨rfl,hb6⟩;have HF6:=Lib.hid (HF2.out.on hb6);have HM6:=Lib.hid (HM2.out.on hb6);have HG6:=Lib.hid (HG2.out.below hb6 HG2.out.lt);clear hb6))
       obtain ⟨c0,c1',c2',c3,c4,c5⟩:=HF6.out.1.two (.int .i64 6)
       go_wp2
       (try simp only [Exit.inBlock,Exit.then])
       exact bodyPost_ret (buncheck_result (HF6.out.done 6 j).1 rfl) rfl (HCB.out _ _ HX.out _ HF6.out)
      | none =>
       rw [hbr] at HUC
       simp only [spotV] at HUC
       have HBR:=Lib.hid (show ¬ (broken nm).isSome=true from by rw [hbr];simp)
       clear hbr
       go_upto_region 15 with (go_at_call 75;go_loud (refine (HUC.out _).mono ?_;rintro en w6 ⟨rfl,hb6⟩;have HF6:=Lib.hid (HF2.out.on hb6);have HM6:=Lib.hid (HM2.out.on hb6);have HG6:=Lib.hid (HG2.out.below hb6 HG2.out.lt);clear hb6))
       have x0:w6.cell? ⟨wr.heap.size,0,none⟩=some (.string nm):=HG6.out.cell 0
       clear y0
       by_cases hl:256<nm.size
       ·have hl2:(256:Int)<(nm.size:Int):=by omega
        have HE:=Lib.hid (show nameE (prevB l j) nm=3 from by unfold nameE;rw [if_neg HBR.out,if_pos hl])
        have HX:=Lib.hid (HCK.out.name HB.out (by rw [HE.out];decide))
        rw [HE.out] at HX
        obtain ⟨c0,c1',c2',c3,c4,c5⟩:=HF6.out.1.two (.int .i64 3)
        go_wp2
        (try simp only [Exit.inBlock,Exit.then])
        exact bodyPost_ret (buncheck_result (HF6.out.done 3 j).1 rfl) rfl (HCB.out _ _ HX.out _ HF6.out)
       ·have hl2:¬ (256:Int)<(nm.size:Int):=by omega
        obtain ⟨cap0,hc0⟩:∃ cap0,valN l j=cap0:=⟨_,rfl⟩
        rw [hc0] at HM6 HVN
        have HCAP:=Lib.hid (show cap0+mk≤90000000 from by have:=HVN.out;have:=HVL2.out;have:=HTOT.out;omega)
        have HBAD:=Lib.hid (fun (e a:Int) (h:booksE l 0 none []=(e,a)) W hW=>HCB.out e a h W hW)
        go_upto_region 17 with (fail)
        have HFIRST:=Lib.hid (show j=0→nameE (prevB l j) nm=0 from fun h=>by unfold nameE prevB;rw [if_neg HBR.out,if_neg hl,if_pos h])
        have HSEC:=Lib.hid (show ∀(m:Nat) (pn:ByteArray) (pv:List PKey),j=m+1→l[m]?=some (pn,pv)→nameE (prevB l j) nm=if bl pn nm=false then 320 else 0 from fun m pn pv h hb=>by
         rw [h,prevB_next hb]
         unfold nameE
         rw [if_neg HBR.out,if_neg hl])
        by_cases hne:nameE (prevB l j) nm=0
        ·have HNX:=Lib.hid (fun (M':List ByteArray) (h:valsE vl ByteArray.empty M=(0,M'))=>HCK.out.next HB.out hne h)
         have HVX:=Lib.hid (fun (e:Int) (M':List ByteArray) (h:valsE vl ByteArray.empty M=(e,M')) (he:e≠0)=>HCK.out.vals HB.out hne h he)
         have HKV0:=Lib.hid (show ∀ W,Below w.heap.size w W→KeysAt W W.heap.size (.slice Ak mk ck) vl from fun W hW=>by have:=(HCW.out W hW).2.2;exact this)
         rcases Nat.eq_zero_or_pos j with hj0 | hj0
         case' inl =>
          subst hj0
          clear HFIRST HSEC hne
          go_quiet (fail)
         case' inr =>
          obtain ⟨m,rfl⟩:∃ m,j=m+1:=⟨j-1,by omega⟩
          obtain ⟨⟨pn,pv⟩,hpb⟩:∃ b,l[m]?=some b:=⟨_,List.getElem?_eq_getElem (by rw [HN.out];omega)⟩
          have hs:=HSEC.out m pn pv rfl hpb
          have hless:Op.bytesLess pn.toList nm.toList=true:=by
           cases h:bl pn nm
           ·rw [h,if_pos rfl,hne] at hs
            exact absurd hs (by decide)
           ·exact h
          obtain ⟨kb',ko',kv',e',hcw'⟩:=HCC.out m _ hpb
          cases e'
          have z3:=(hcw' w6 (HBW.out w6 HF6.out).1).1
          clear hcw'
          have kx:=HPV.out w6 HF6.out
          have hmi:(m:Int)<(i:Int):=by omega
          simp only at z3
          clear hs hne hpb HFIRST HSEC
          go_quiet (fail)
         all_goals
          have HF7:=Lib.hid (HF6.out.drewN nq)
          have HM7:=Lib.hid (HM6.out.drewN nq)
          have HG7:=Lib.hid (HG6.out.drewN nq)
          have HKV7:=Lib.hid (show ∀ W,FC w1 (r+1) W→KeysAt W W.heap.size (.slice Ak mk ck) vl from fun W hW=>HKV0.out W (HBW.out W hW).1)
          clear x0 HG6 HF6 HM6
          generalize w6.drewN nq=w7 at *
          have x0:w7.cell? ⟨wr.heap.size,0,none⟩=some (.string nm):=HG7.out.cell 0
          have x1:w7.cell? ⟨wr.heap.size,1,none⟩=some (.slice Ak mk ck):=HG7.out.cell 1
          have hmk2:(mk:Int)≤100000000:=by have:=HIB.out.2.2;have:=HMK.out;omega
          go_wp2
          clear x0 x1
          go_loopw [9,80] (fun av kv W=>∃(k:Nat) (M':List ByteArray) (ahead:ByteArray),kv=.int .i64 (k:Int)∧k≤mk∧av=.string ahead∧VkAt vl M k ahead M'∧MapS W mb (cap0+k) M'.length (metF M')∧FC w1 (r+1) W) (fun _ kv _=>mk-(Lib.intOf kv).toNat)
          case atStart=>exact ⟨0,M,⟨#[]⟩,rfl,Nat.zero_le _,rfl,vkAt_start vl M,HM7.out,HF7.out⟩
          case round =>
           clear HF7 HM7 HG7
           obtain ⟨k,M',ahead,rfl,hk,rfl,hV,hM,hF⟩:=hrel
           have HV:=Lib.hid hV
           have HM:=Lib.hid hM
           have HF:=Lib.hid hF
           clear hV hM hF
           by_cases hkm:k<mk
           ·have hq3:(k:Int)<(mk:Int):=by omega
            obtain ⟨⟨xp,xt⟩,hx⟩:∃ x,vl[k]?=some x:=⟨_,List.getElem?_eq_getElem (by rw [HMK.out];exact hkm)⟩
            obtain ⟨Av,cv,ev,hcv,-,hRv⟩:=HKV7.out _ HF.out
            rw [HMK.out] at ev hcv hRv
            cases ev
            obtain ⟨bv,ov,rfl,hbv,hclv⟩:=hRv.spot (by omega) (by omega)
            have hat:=pairCells_at vl k _ hx
            have y0:wr.cell? ⟨bv,ov+k*2,none⟩=some (.string xp):=hclv _ _ hat.1
            have y1:wr.cell? ⟨bv,ov+k*2+1,none⟩=some (.string xt):=hclv _ _ hat.2
            have HIX:=Lib.hid (HIB.out.2.1 _ (List.mem_of_getElem? hx))
            have HX:=Lib.hid hx
            clear hclv hat hx
            have HF8:=Lib.hid (HF.out.alloc (.cells #[.string xp,.string xt] 71))
            have HM8:=Lib.hid (HM.out.alloc (.cells #[.string xp,.string xt] 71))
            have HG8:=Lib.hid (Blk.new wr 71 #[.string xp,.string xt])
            have hgm8:mb<wr.heap.size:=HM.out.lt
            go_upto_region 23 with (fail)
            generalize wr.alloc (.cells #[.string xp,.string xt] 71)=w8 at *
            have u0:w8.cell? ⟨wr.heap.size,0,none⟩=some (.string xp):=HG8.out.cell 0
            have u1:w8.cell? ⟨wr.heap.size,1,none⟩=some (.string xt):=HG8.out.cell 1
            have HVA:=Lib.hid (bvalue_any M' ahead (xp,xt) mb (cap0+k) w8 HM8.out (by have:=HCAP.out;omega) HIX.out.1 HIX.out.2)
            clear y0 y1
            go_wp2_with fail
            refine HVA.out.mono ?_
            rintro en w9 ⟨rfl,hmap,hon⟩
            have HMAP:=Lib.hid hmap
            have HF9:=Lib.hid (HF8.out.grown hon (fun q hq=>by cases hq;omega))
            have HG9:=Lib.hid (HG8.out.grown hon (fun e=>by cases e;omega))
            have u2:w9.cell? ⟨wr.heap.size,0,none⟩=some (.string xp):=HG9.out.cell 0
            clear hmap hon u0 u1 HVA
            obtain ⟨ev,hev⟩:∃ ev,valE M' ahead (xp,xt)=ev:=⟨_,rfl⟩
            rw [hev] at HMAP ⊢
            by_cases he:ev=0
            ·have he1:¬ (ev≠0):=fun h=>h he
             have HNV:=Lib.hid (HV.out.next HX.out (by rw [hev];exact he))
             have HMV:=Lib.hid (show MapS w9 mb (cap0+(k+1)) (addM M' xp).length (metF (addM M' xp)) from by
              rcases HMAP.out with ⟨-,h⟩ | ⟨h,-⟩
              ·exact h
              ·exact absurd he h)
             subst he
             clear he1 hev HMAP
             go_wp2
             go_roundw
             case rel=>exact ⟨k+1,addM M' xp,xp,by go_num,hkm,rfl,HNV.out,HMV.out,HF9.out⟩
             case measure=>simp [Lib.intOf];omega
            ·have he1:(ev == 0)=false:=by simpa using he
             have HBV:=Lib.hid (HV.out.bad HX.out (by rw [hev];exact he))
             rw [hev] at HBV
             have HXX:=Lib.hid (HVX.out _ _ HBV.out he)
             clear hev HMAP
             obtain ⟨c0,c1',c2',c3,c4,c5⟩:=HF9.out.1.two (.int .i64 ev)
             go_wp2
             (try simp only [Exit.inBlock,Exit.then])
             exact bodyPost_ret (buncheck_result (HF9.out.done ev _).1 rfl) rfl (HCB.out _ _ HXX.out _ HF9.out)
           ·obtain rfl:k=mk:=by omega
            have hq3:¬ (k:Int)<(k:Int):=by omega
            have HDN:=Lib.hid (HV.out.done (by rw [HMK.out];exact Nat.le_refl _))
            go_wp2
            go_roundw
            case rel=>exact ⟨_,M',by go_num,by omega,HNX.out _ HDN.out,by rw [HVN.out];exact HM.out,HF.out⟩
            case measure=>simp [Lib.intOf];omega
        ·rcases Nat.eq_zero_or_pos j with hj0 | hj0
         ·exact absurd (HFIRST.out hj0) hne
         ·obtain ⟨m,rfl⟩:∃ m,j=m+1:=⟨j-1,by omega⟩
          obtain ⟨⟨pn,pv⟩,hpb⟩:∃ b,l[m]?=some b:=⟨_,List.getElem?_eq_getElem (by rw [HN.out];omega)⟩
          have hs:=HSEC.out m pn pv rfl hpb
          have hbl:bl pn nm=false:=by
           cases h:bl pn nm
           ·rfl
           ·rw [h] at hs
            exact absurd hs hne
          have hless:Op.bytesLess pn.toList nm.toList=false:=hbl
          have HX:=Lib.hid (HCK.out.name HB.out hne)
          rw [hs,if_pos hbl] at HX
          obtain ⟨kb',ko',kv',e',hcw'⟩:=HCC.out m _ hpb
          cases e'
          have z3:=(hcw' w6 (HBW.out w6 HF6.out).1).1
          clear hcw'
          have kx:=HPV.out w6 HF6.out
          have hmi:(m:Int)<(i:Int):=by omega
          simp only at z3
          clear hs hbl hne hpb
          go_quiet (fail)
          have HF7:=Lib.hid (HF6.out.drewN nq)
          generalize w6.drewN nq=w7 at *
          obtain ⟨c0,c1',c2',c3,c4,c5⟩:=HF7.out.1.two (.int .i64 320)
          go_wp2
          (try simp only [Exit.inBlock,Exit.then])
          exact bodyPost_ret (buncheck_result (HF7.out.done 320 ((m+1:Nat):Int)).1 rfl) rfl (HCB.out _ _ HX.out _ HF7.out)
     ·obtain rfl:j=i:=by omega
      have hq2:¬ (j:Int)<(j:Int):=by omega
      have HX:=Lib.hid (HCK.out.done (by rw [HN.out];exact Nat.le_refl _))
      obtain ⟨c0,c1',c2',c3,c4,c5⟩:=HF.out.1.two (.int .i64 0)
      go_wp2
      (try simp only [Exit.inBlock,Exit.then])
      exact bodyPost_ret (buncheck_result (HF.out.done 0 0).1 rfl) rfl (HCB.out _ _ HX.out _ HF.out)
end
section
open Go.RowKit

theorem find1_any (k:PKey)(key:ByteArray)(b:Nat)(w:World)(hb:w.cell? ⟨b,0,none⟩=some (.string key))(hlt:b<w.heap.size) :
  Calls Tryz.prog 122 #[.agg #[.string k.1,.string k.2],.pointer (some ⟨b,0,none⟩)] w fun en w'=>en=.returned (.bool (decide (k.1=key)))∧Below w.heap.size w w':=by
 obtain ⟨ka,kv⟩:=k
 have HB:=Lib.hid ((Below.refl w.heap.size w).alloc (Nat.le_refl _) (.cells #[.string ka,.string kv] 126))
 have hD:(ka.toList == key.toList)=decide (ka=key):=ba_beq ka key
 have HD:=Lib.hid hD
 generalize decide (ka=key)=d at *
 clear hD
 go_enter Tryz.func122,Tryz.ntmps122
 go_wp2
 go_ret
 exact ⟨by rw [←HD.out];rfl,HB.out⟩
/-- What find tells. -/
def FindIs (ks:List PKey)(key:ByteArray)(r:Int):Prop :=
 (∃ i k,r=(i:Nat)∧ks[i]?=some k∧k.1=key∧∀ k'∈ks.take i,k'.1≠key)∨(r=-1∧∀ k'∈ks,k'.1≠key)
set_option maxHeartbeats 1000000 in
theorem indexfunc_keys (v:Value)(ks:List PKey)(key:ByteArray)(b:Nat)(w:World)(h:KeysAt w w.heap.size v ks)(hk:ks.length≤1000000)(hb:w.cell? ⟨b,0,none⟩=some (.string key))(hlt:b<w.heap.size) :
  Calls Tryz.prog 121 #[v,.func (.func 122) #[] #[.pointer (some ⟨b,0,none⟩)]] w fun en w'=>(∃ r,en=.returned (.int .i64 r)∧FindIs ks key r)∧Below w.heap.size w w':=by
 obtain ⟨A,c,rfl,hc,hm,hR⟩:=h
 have HR:=Lib.hid hR
 clear hR
 generalize hn:ks.length=n at *
 have HN:=Lib.hid hn
 have hn1:(n:Int)≤1000000:=by omega
 clear hn hc
 have HBC:=Lib.hid (And.intro hb hlt)
 clear hb hlt
 go_enter Tryz.func121,Tryz.ntmps121
 go_wp2
 go_loopw [5,8] (fun _ iv wr=>∃ p:Nat,iv=.int .i64 (p:Int)∧p≤n∧(∀ k'∈ks.take p,k'.1≠key)∧Below w.heap.size w wr) (fun _ iv _=>n-(Lib.intOf iv).toNat)
 case atStart=>exact ⟨0,rfl,Nat.zero_le _,by simp,Below.refl _ _⟩
 case round =>
  obtain ⟨p,rfl,hp,hT,hB⟩:=hrel
  have HB:=Lib.hid hB
  have HT:=Lib.hid hT
  clear hT
  by_cases hlt:p<n
  ·obtain ⟨x,hx⟩:∃ x,ks[p]?=some x:=⟨ks[p]'(by have:=HN.out;omega),by have:=HN.out;simp [this,hlt]⟩
   have hq:(p:Int)<(n:Int):=by omega
   obtain ⟨b1,o1,rfl,hb1,hcl1⟩:=(HR.out.below hB).spot (by omega) (by omega)
   have hb1w:b1<wr.heap.size:=Nat.lt_of_lt_of_le hb1 hB.size
   have ha1:=pairCells_at ks p x hx
   have r0:=hcl1 _ _ ha1.1
   have r1:wr.cell? ⟨b1,o1+p*2+1,none⟩=some (.string x.2):=hcl1 _ _ ha1.2
   have HC:=Lib.hid (find1_any x key b wr ((hB.cell (p:=⟨b,0,none⟩) HBC.out.2).trans HBC.out.1) (Nat.lt_of_lt_of_le HBC.out.2 hB.size))
   have HX:=Lib.hid hx
   clear hcl1 ha1 hx hB
   by_cases he:x.1=key
   ·have HD:=Lib.hid (show decide (x.1=key)=true by simp [he])
    rw [HD.out] at HC
    have HE:=Lib.hid he
    clear he
    go_wp2_with (go_at_call 122;go_loud (refine HC.out.mono ?_;rintro en w1 ⟨rfl,hB1⟩))
    go_ret
    exact ⟨⟨(p:Int),rfl,.inl ⟨p,x,rfl,HX.out,HE.out,HT.out⟩⟩,HB.out.trans (hB1.mono HB.out.size)⟩
   ·have HD:=Lib.hid (show decide (x.1=key)=false by simp [he])
    rw [HD.out] at HC
    have HE:=Lib.hid he
    clear he
    go_wp2_with (go_at_call 122;go_loud (refine HC.out.mono ?_;rintro en w1 ⟨rfl,hB1⟩))
    refine ⟨⟨p+1,by simp,hlt,?_,HB.out.trans (hB1.mono HB.out.size)⟩,by simp [Lib.intOf];omega⟩
    intro k' hk'
    rw [List.take_add_one,HX.out] at hk'
    rcases List.mem_append.1 hk' with h | h
    ·exact HT.out k' h
    ·simp at h
     subst h
     exact HE.out
  ·obtain rfl:p=n:=by omega
   have hq:¬ (p:Int)<(p:Int):=by omega
   clear hB
   go_wp2
   go_ret
   refine ⟨⟨-1,rfl,.inr ⟨rfl,?_⟩⟩,HB.out⟩
   have:=HT.out
   rwa [List.take_of_length_le (by have:=HN.out;omega)] at this
theorem find_any (nm key:ByteArray)(kv:Value)(ks:List PKey)(w:World)(h:KeysAt w w.heap.size kv ks)(hk:ks.length≤1000000) :
  Calls Tryz.prog 82 #[.agg #[.string nm,kv],.string key] w fun en w'=>(∃ r,en=.returned (.int .i64 r)∧FindIs ks key r)∧Below w.heap.size w w':=by
 obtain ⟨A,c,rfl,hc,hm,hR⟩:=id h
 have hB2:Below w.heap.size w ((w.alloc (.cells #[.string nm,.slice A ks.length c] 121)).alloc (.cells #[.string key] 9)):=((Below.refl _ w).alloc (Nat.le_refl _) _).alloc (by simp) _
 have HI:=Lib.hid (indexfunc_keys (.slice A ks.length c) ks key (w.heap.size+1) ((w.alloc (.cells #[.string nm,.slice A ks.length c] 121)).alloc (.cells #[.string key] 9)) (h.more hB2 hB2.size) hk (by simp) (by simp))
 have HB2:=Lib.hid hB2
 clear h hB2 hR
 go_enter Tryz.func82,Tryz.ntmps82
 go_wp2_with (go_at_call 121;go_loud (refine HI.out.mono ?_;rintro en w1 ⟨⟨r,rfl,hF⟩,hB1⟩;have HF:=Lib.hid hF;clear hF))
 go_ret
 exact ⟨⟨_,rfl,HF.out⟩,HB2.out.trans (hB1.mono HB2.out.size)⟩
end
section
open Go.RowKit Go.Shelf

attribute [local go_sem] Oper.semAt_some

def sliceA:Value→Option Addr | .slice A _ _=>A | _=>none
def sliceN:Value→Nat | .slice _ n _=>n | _=>0
def sliceC:Value→Nat | .slice _ _ c=>c | _=>0
/-- What a round of Backward is handed: the place, and the step there. -/
def bkEnc (l:List PStep)(vs:List Value)(i:Fin l.length):Array Value :=
 #[.int .i64 (i.val:Int),.agg #[.string (l.get i).1,.slice (sliceA (vs.getD i.val undef)) (sliceN (vs.getD i.val undef)) (sliceC (vs.getD i.val undef))]]
/-- These places, from the last one down. -/
def Desc (n:Nat)(pre:List (Fin n)):Prop:=∀(a:Nat) (x:Fin n),pre[a]?=some x→x.val+a+1=n
theorem desc_nil (n:Nat):Desc n []:=fun a x h=>by simp at h
theorem desc_snoc {n:Nat}{pre:List (Fin n)}{x:Fin n}(h:Desc n pre)(hx:x.val+pre.length+1=n):Desc n (pre++[x]):=by
 intro a y hy
 rcases Nat.lt_or_ge a pre.length with h1 | h1
 ·rw [List.getElem?_append_left h1] at hy
  exact h a y hy
 ·rw [List.getElem?_append_right h1] at hy
  have:a-pre.length=0:=by
   have:=(List.getElem?_eq_some_iff.1 hy).1
   simp at this
   omega
  rw [this] at hy
  simp at hy
  subst hy
  omega
theorem desc_mem {n:Nat}{pre:List (Fin n)}(h:Desc n pre){i:Fin n}(hi:n<i.val+1+pre.length+0∨n=i.val+pre.length):i∈pre:=by
 have hlt:n-1-i.val<pre.length:=by have:=i.isLt;omega
 have h1:=h (n-1-i.val) (pre[n-1-i.val]) (by simp [hlt])
 have:pre[n-1-i.val]=i:=Fin.ext (by have:=i.isLt;omega)
 rw [←this]
 exact List.getElem_mem hlt

set_option maxHeartbeats 1000000 in
theorem backward_in (F:Fence)(n:Nat)(hF:F.fn 62)(hro:F.round=none)(a:Option Addr)(len cap:Nat)(w:World) :
  CallsIn F n Tryz.prog 62 #[.slice a len cap] w fun e w'=>e=.returned (.func (.func 85) #[] #[.pointer (some ⟨w.heap.size,0,none⟩)])∧w'=w.alloc (.cells #[.slice a len cap] 115):=by
 refine callsIn_of_wp Tryz.func62 rfl hF ?_ hro
 simp only [Tryz.ntmps62,List.size_toArray,List.length_cons,List.length_nil,Nat.reduceAdd,Nat.reduceSub,Array.replicate_succ,Array.replicate_zero,List.push_toArray,List.append_toArray,List.nil_append,List.cons_append]
 gi_wp2
 go_ret
 exact ⟨rfl,rfl⟩

set_option maxRecDepth 100000 in
set_option maxHeartbeats 2000000 in
theorem backward1_in (F:Fence)(n:Nat)(hF:F.fn 85)(hro:F.round=none)(hn:1≤n)(lp Bs n₀:Nat)(A:Option Addr)(cap:Nat)(l:List PStep)(vs:List Value)(hvs:vs.length=l.length)
  (hsl:∀ v∈vs,∃ a n c,v=Value.slice a n c)(hlen:l.length≤1000000)(J Jx:List (Fin l.length)→World→Prop)
  (hY:∀ pre x W,J pre W→pre.length<l.length→YieldAt F (n-1) Tryz.prog lp (bkEnc l vs x) W fun e W' =>
   (e=.returned (.bool true)∧J (pre++[x]) W'∧Below n₀ W W')∨(e=.returned (.bool false)∧Jx (pre++[x]) W'))
  (W:World)(hBs:W.cell? ⟨Bs,0,none⟩=some (.slice A l.length cap))(hBn:Bs<n₀)(hR:Reads W n₀ 2 A l.length (stepCells l vs))(h0:J [] W) :
  CallsIn F n Tryz.prog 85 #[.func (.yield lp) #[] #[],.pointer (some ⟨Bs,0,none⟩)] W fun e W'=>(∃ v,e=.returned v) ∧
   ((∃ ys,(Desc l.length ys∧ys.length=l.length)∧J ys W')∨(∃ pre,Desc l.length pre∧Jx pre W')):=by
 have HR:=Lib.hid hR
 have HY:=Lib.hid hY
 clear hR hY
 have hB8:(l.length:Int)≤1000000:=by omega
 refine callsIn_of_wp Tryz.func85 rfl hF ?_ hro
 simp only [Tryz.ntmps85,List.size_toArray,List.length_cons,List.length_nil,Nat.reduceAdd,Nat.reduceSub,Array.replicate_succ,Array.replicate_zero,List.push_toArray,List.append_toArray,List.nil_append,List.cons_append]
 gi_wp2
 gi_loopw [3] (fun iv wr=>∃(q:Nat) (pre:List (Fin l.length)),iv=.int .i64 ((q:Int)-1)∧q+pre.length=l.length∧Desc l.length pre∧J pre wr∧Below n₀ W wr) (fun iv _=>((intOf iv)+1).toNat)
 case atStart=>exact ⟨l.length,[],rfl,rfl,desc_nil _,h0,Below.refl _ _⟩
 case round =>
  obtain ⟨q,pre,rfl,hq,hD,hJs,hB⟩:=hrel
  have HD:=Lib.hid hD
  have HB:=Lib.hid hB
  clear hD
  have hBs2:=(hB.cell (p:=⟨Bs,0,none⟩) hBn).trans hBs
  cases q with
  | zero =>
   clear hB
   gi_wp2
   go_end0
   exact ⟨⟨_,rfl⟩,.inl ⟨pre,⟨HD.out,by omega⟩,hJs⟩⟩
  | succ q =>
   have hlt:q<l.length:=by omega
   obtain ⟨fn,tmps,assign,body,hy,hRR⟩:=HY.out pre ⟨q,hlt⟩ wr hJs (by omega)
   have HRR:=Lib.hid hRR
   obtain ⟨kv,hkv⟩:∃ kv,vs[q]?=some kv:=⟨vs[q]'(by omega),by simp [show q<vs.length by omega]⟩
   obtain ⟨ka,kn,kc,rfl⟩:=hsl kv (List.mem_of_getElem? hkv)
   have hg:l[q]?=some (l.get ⟨q,hlt⟩):=by simp [hlt]
   have he:bkEnc l vs ⟨q,hlt⟩=#[.int .i64 (q:Int),.agg #[.string (l.get ⟨q,hlt⟩).1,.slice ka kn kc]]:=by
    unfold bkEnc
    have:vs.getD q undef=.slice ka kn kc:=by rw [List.getD_eq_getElem?_getD,hkv];rfl
    rw [this]
    rfl
   rw [he] at hy
   have hcs:=stepCells_at l vs q _ _ hg hkv
   obtain ⟨b1,o1,rfl,hb1,hcl1⟩:=(HR.out.below hB).spot (by omega) (by omega)
   have r0:=hcl1 _ _ hcs.1
   have r1:wr.cell? ⟨b1,o1+q*2+1,none⟩=some (.slice ka kn kc):=hcl1 _ _ hcs.2
   have hq1:((q+1:Nat):Int)-1=(q:Int):=by omega
   have hq2:(q:Int)<(l.length:Int):=by omega
   clear hcl1 hcs hg hkv he hRR hB
   rw [hq1]
   clear hq1
   generalize (l.get ⟨q,hlt⟩).1=nm at *
   gi_wp2
   refine HRR.out.mono ?_
   rintro e W3 (⟨rfl,hJ3,hk3⟩ | ⟨rfl,hJx3⟩)
   ·gi_wp2
    go_roundw
    case rel=>exact ⟨q,pre++[⟨q,hlt⟩],rfl,by simp;omega,desc_snoc HD.out (by simp only;omega),hJ3,HB.out.trans hk3⟩
    case measure=>simp [intOf]
   ·gi_wp2
    refine bodyPost_ret (results_none rfl _ _ _) rfl ?_
    exact ⟨⟨_,rfl⟩,.inr ⟨pre++[⟨q,hlt⟩],desc_snoc HD.out (by simp only;omega),hJx3⟩⟩
theorem backward_stops (F:Fence)(n:Nat)(hF:F.fn 85)(hro:F.round=none)(hn:1≤n)(Bs n₀:Nat)(A:Option Addr)(cap:Nat)(l:List PStep)(vs:List Value)(hvs:vs.length=l.length)
  (hsl:∀ v∈vs,∃ a n c,v=Value.slice a n c)(hlen:l.length≤1000000)(w:World)(hBn:Bs<n₀)(hn₀:n₀≤w.heap.size)
  (hc:w.cell? ⟨Bs,0,none⟩=some (.slice A l.length cap))(hR:Reads w n₀ 2 A l.length (stepCells l vs)) :
  SeqStopsK F n Tryz.prog 85 #[.pointer (some ⟨Bs,0,none⟩)] (bkEnc l vs) (Below n₀) (fun ys=>Desc l.length ys∧ys.length=l.length) (fun pre=>Desc l.length pre) l.length w:=fun lp J Jx W hW _ _ hY h0 =>
 backward1_in F n hF hro hn lp Bs n₀ A cap l vs hvs hsl hlen J Jx hY W ((hW.cell (p:=⟨Bs,0,none⟩) (Nat.lt_of_lt_of_le hBn hn₀)).trans hc) hBn (hR.below (hW.mono hn₀)) h0
end
section
open Go.RowKit

theorem StepsR.slices {w:World}{v:Value}{l:List PStep}{vs:List Value}(h:StepsR w v l vs):∀ u∈vs,∃ a n c,u=Value.slice a n c:=by
 obtain ⟨A,c,e,h1,h2,h3,h4,h5⟩:=h
 intro u hu
 obtain ⟨i,hi,rfl⟩:=List.getElem_of_mem hu
 obtain ⟨A',c',e',-⟩:=h5 i (l[i]'(by omega)) vs[i] (by simp [show i<l.length by omega]) (by simp [hi])
 exact ⟨A',_,c',e'⟩
theorem find_cases (key:ByteArray):∀ ks:List PKey,(∃(j:Nat) (k:PKey),ks[j]?=some k∧k.1=key∧∀ k'∈ks.take j,k'.1≠key)∨(∀ k'∈ks,k'.1≠key)
 | []=>.inr (fun k h=>by cases h)
 | k::ks=>by
  by_cases h:k.1=key
  ·exact .inl ⟨0,k,rfl,h,fun k' h=>by simp at h⟩
  ·rcases find_cases key ks with ⟨j,k',hj,hk,ht⟩ | hn
   ·refine .inl ⟨j+1,k',by simpa using hj,hk,fun x hx=>?_⟩
    rw [List.take_succ_cons] at hx
    rcases List.mem_cons.1 hx with rfl | hx
    ·exact h
    ·exact ht x hx
   ·refine .inr fun x hx=>?_
    rcases List.mem_cons.1 hx with rfl | hx
    ·exact h
    ·exact hn x hx
end
section
open Go.RowKit Go.Shelf

attribute [local go_sem] Oper.semAt_some

/-- Blocks of cells from B on stay. -/
def CellsFrom (B:Nat)(X Y:World):Prop:=X.heap.size≤Y.heap.size∧∀ k cs t fr,B≤k→X.heap[k]?=some (.cells cs t fr)→Y.heap[k]?=some (.cells cs t fr)
theorem cellsFrom_refl (B:Nat)(X:World):CellsFrom B X X:=⟨Nat.le_refl _,fun _ _ _ _ _ h=>h⟩
theorem cellsFrom_t {B:Nat}{X Y Z:World}(h:CellsFrom B X Y)(k:CellsFrom B Y Z):CellsFrom B X Z:=⟨Nat.le_trans h.1 k.1,fun i cs t fr hB hi=>k.2 i cs t fr hB (h.2 i cs t fr hB hi)⟩
theorem cellsFrom_b {B:Nat}(W:World)(l:Nat)(o o':Obj)(h:W.heap[l]?=some o)(hc:o.isCells=false):CellsFrom B W (W.putObj l o'):=by
 refine ⟨by simp,fun k cs t fr _ hk=>?_⟩
 have hne:k≠l:=fun e=>by
  subst e
  rw [h] at hk
  cases hk
  cases hc
 rw [World.putObj_heap_other hne]
 exact hk
theorem own_from {B base:Nat}{X Y:World}{e:TypeId}{size n:Nat}{v:Value}{xs:List Value}(h:X.ownsRow base e size v n xs)(hb:B≤base)(hk:CellsFrom B X Y):Y.ownsRow base e size v n xs:=by
 obtain ⟨h1,h2⟩:=h
 refine ⟨h1,?_⟩
 rcases h2 with h2 | ⟨g,cap,cur,hv,hg,hh,hr⟩
 ·exact .inl h2
 ·exact .inr ⟨g,cap,cur,hv,hg,hk.2 g _ _ _ (by omega) hh,hr⟩
theorem grown_of_below {X Y:World}(h:Below X.heap.size X Y):X.grownBy Y none:=⟨h.os,h.tape,h.output,h.size,fun k hk _=>h.block k hk⟩

/-- The steps whose names are told. -/
def namesOf (s:ByteArray):List PStep:=match parseM s with
 | .ok l=>l
 | .error _=>[]
def nmEnc (l:List PStep)(i:Fin l.length):Array Value:=#[.int .i64 (i.val:Int),.string (l.get i).1]
/-- These places, from the first one up. -/
def Asc (n:Nat)(pre:List (Fin n)):Prop:=∀(a:Nat) (x:Fin n),pre[a]?=some x→x.val=a
theorem asc_nil (n:Nat):Asc n []:=fun a x h=>by simp at h
theorem asc_snoc {n:Nat}{pre:List (Fin n)}{x:Fin n}(h:Asc n pre)(hx:x.val=pre.length):Asc n (pre++[x]):=by
 intro a y hy
 rcases Nat.lt_or_ge a pre.length with h1 | h1
 ·rw [List.getElem?_append_left h1] at hy
  exact h a y hy
 ·rw [List.getElem?_append_right h1] at hy
  have:a-pre.length=0:=by
   have:=(List.getElem?_eq_some_iff.1 hy).1
   simp at this
   omega
  rw [this] at hy
  simp at hy
  subst hy
  omega
theorem names_any (s:ByteArray)(w:World) :
  Calls Tryz.prog 30 #[.string s] w fun e w'=>e=.returned (.func (.func 59) #[] #[.pointer (some ⟨w.heap.size,0,none⟩)])∧w'=w.alloc (.cells #[.string s] 9):=by
 go_enter Tryz.func30,Tryz.ntmps30
 go_wp2
 go_ret
 exact ⟨rfl,rfl⟩

theorem says_names {s:ByteArray}{W w1:World}{e:Ending}(h:ParseSays s W e w1):Below W.heap.size W w1∧∃ A c x y,e=.returned (.tuple #[.slice A (namesOf s).length c,.agg #[.int .i64 x,.int .i64 y]])∧∃ vs,vs.length=(namesOf s).length∧w1.ownsRow W.heap.size 121 2 (.slice A (namesOf s).length c) (namesOf s).length (stepCells (namesOf s) vs)∧(namesOf s).length≤64∧∀ v∈vs,∃ a k c,v=Value.slice a k c:=by
 obtain ⟨hB,⟨x,y,hE,rfl⟩ | ⟨l,v,hE,rfl,vs,hI⟩⟩:=h
 ·have hl:namesOf s=[]:=by unfold namesOf;rw [hE]
  rw [hl]
  exact ⟨hB,none,0,x,y,rfl,[],rfl,World.ownsRow_nil _ _ _ _,by decide,fun _ h=>by cases h⟩
 ·have hl:namesOf s=l:=by unfold namesOf;rw [hE]
  rw [hl]
  obtain ⟨A,c,rfl,-,-,-⟩:=own_form hI.2.1
  exact ⟨hB,A,c,0,0,rfl,vs,hI.1,hI.2.1,(parseM_small hE).2.1,StepsR.slices (StepsIn.reads hI)⟩
set_option maxRecDepth 100000 in
set_option maxHeartbeats 4000000 in
theorem names1_in (n:Nat)(hn:1≤n)(lp Bs n₀:Nat)(s:ByteArray)(hs:s.size≤140737488355328)(J Jx:List (Fin (namesOf s).length)→World→Prop)(W:World)(hJ:AbidesFrom W.heap.size J)
  (hY:∀ pre x W1,J pre W1→pre.length<(namesOf s).length→YieldAt Fence.wide (n-1) Tryz.prog lp (nmEnc (namesOf s) x) W1 fun e W' =>
   (e=.returned (.bool true)∧J (pre++[x]) W'∧CellsFrom n₀ W1 W')∨(e=.returned (.bool false)∧Jx (pre++[x]) W'))
  (hBs:W.cell? ⟨Bs,0,none⟩=some (.string s))(hn₀:n₀≤W.heap.size)(h0:J [] W) :
  CallsIn Fence.wide n Tryz.prog 59 #[.func (.yield lp) #[] #[],.pointer (some ⟨Bs,0,none⟩)] W fun e W'=>(∃ v,e=.returned v) ∧
   ((∃ ys,(Asc (namesOf s).length ys∧ys.length=(namesOf s).length)∧J ys W')∨(∃ pre,(Asc (namesOf s).length pre∧0<pre.length)∧Jx pre W')):=by
 have HP:=Lib.hid (fun W=>parse_says s W hs)
 have HY:=Lib.hid hY
 have HJ:=Lib.hid hJ
 clear hY hJ
 refine callsIn_of_wp Tryz.func59 rfl trivial ?_ rfl
 simp only [Tryz.ntmps59,List.size_toArray,List.length_cons,List.length_nil,Nat.reduceAdd,Nat.reduceSub,Array.replicate_succ,Array.replicate_zero,List.push_toArray,List.append_toArray,List.nil_append,List.cons_append]
 have HPN:=Lib.hid (fun e w1=>says_names (s:=s) (W:=W) (e:=e) (w1:=w1))
 clear hs
 generalize namesOf s=l at *
 gi_wp2_with (refine ⟨trivial,?_⟩;gi_at_call 60;go_loud (refine (callsIn_wide.2 (HP.out _)).mono ?_;rintro e w1 hP1;obtain ⟨hB1,A,c,x,y,rfl,vs,hvs,hO,hle,hsl⟩:=HPN.out _ _ hP1;clear hP1;have HB1:=Lib.hid hB1;have HO:=Lib.hid hO;have HVS:=Lib.hid hvs;have HSL:=Lib.hid hsl;clear hB1 hO hvs hsl))
 have hB8:(l.length:Int)≤64:=by omega
 have HO2:=Lib.hid (show (w1.alloc (.cells #[.int .i64 x,.int .i64 y] 116)).ownsRow W.heap.size 121 2 (.slice A l.length c) l.length (stepCells l vs) from HO.out.alloc _)
 have HJ0:=Lib.hid (show J [] (w1.alloc (.cells #[.int .i64 x,.int .i64 y] 116)) from HJ.out _ _ _ none h0 (grown_of_below (HB1.out.alloc HB1.out.size _)) (fun r e=>by cases e))
 clear h0
 gi_loopw [6,14] (fun _ iv wr=>∃(q:Nat) (pre:List (Fin l.length)),iv=.int .i64 (q:Int)∧q≤l.length∧pre.length=q∧Asc l.length pre∧J pre wr∧wr.ownsRow W.heap.size 121 2 (.slice A l.length c) l.length (stepCells l vs)) (fun _ iv _=>l.length-(intOf iv).toNat)
 case atStart=>exact ⟨0,[],rfl,Nat.zero_le _,rfl,asc_nil _,HJ0.out,HO2.out⟩
 case round =>
  obtain ⟨q,pre,rfl,hq,hpl,hA,hJs,hOw⟩:=hrel
  have HA:=Lib.hid (And.intro hA hpl)
  have HOW:=Lib.hid hOw
  have HJS:=Lib.hid hJs
  clear hA hpl hOw hJs
  by_cases hlt:q<l.length
  ·have hq2:(q:Int)<(l.length:Int):=by omega
   obtain ⟨kv,hkv⟩:∃ kv,vs[q]?=some kv:=⟨vs[q]'(by rw [HVS.out];exact hlt),by simp [HVS.out,hlt]⟩
   obtain ⟨ka,kn,kc,rfl⟩:=HSL.out kv (List.mem_of_getElem? hkv)
   have hg:l[q]?=some (l.get ⟨q,hlt⟩):=by simp [hlt]
   have he:nmEnc l ⟨q,hlt⟩=#[.int .i64 (q:Int),.string (l.get ⟨q,hlt⟩).1]:=rfl
   have hcs:=stepCells_at l vs q _ _ hg hkv
   obtain ⟨A',c',e',-,-,hR⟩:=own_form HOW.out
   cases e'
   obtain ⟨b1,o1,rfl,hb1,hcl1⟩:=hR.spot (by omega) (by omega)
   have r0:=hcl1 _ _ hcs.1
   have r1:wr.cell? ⟨b1,o1+q*2+1,none⟩=some (.slice ka kn kc):=hcl1 _ _ hcs.2
   have HN:=Lib.hid (show ∀ o,J pre (wr.alloc o) from fun o=>HJ.out _ _ _ none HJS.out (World.grownBy_alloc wr o none) (fun r e=>by cases e))
   have HYY:=Lib.hid (show ∀ o,YieldAt Fence.wide (n-1) Tryz.prog lp (nmEnc l ⟨q,hlt⟩) (wr.alloc o) _ from fun o=>HY.out pre ⟨q,hlt⟩ (wr.alloc o) (HN.out o) (by have:=HA.out.2;omega))
   rw [he] at HYY
   clear hcl1 hcs hg hkv he hR
   generalize (l.get ⟨q,hlt⟩).1=nm at *
   obtain ⟨fn,tmps,assign,body,hy,hRR⟩:=HYY.out (.cells #[.string nm,.slice ka kn kc] 121)
   have HRR:=Lib.hid hRR
   clear hRR
   gi_wp2
   refine HRR.out.mono ?_
   rintro e W3 (⟨rfl,hJ3,hk3⟩ | ⟨rfl,hJx3⟩)
   ·have HF:=Lib.hid (And.intro hJ3 (own_from (HOW.out.alloc _) hn₀ hk3))
    clear hJ3 hk3
    gi_wp2
    go_roundw
    case rel=>exact ⟨q+1,pre++[⟨q,hlt⟩],by go_num,hlt,by simp [HA.out.2],asc_snoc HA.out.1 HA.out.2.symm,HF.out.1,HF.out.2⟩
    case measure=>simp [intOf];omega
   ·have HF:=Lib.hid hJx3
    clear hJx3
    gi_wp2
    refine bodyPost_ret (results_none rfl _ _ _) rfl ?_
    exact ⟨⟨_,rfl⟩,.inr ⟨pre++[⟨q,hlt⟩],⟨asc_snoc HA.out.1 HA.out.2.symm,by simp⟩,HF.out⟩⟩
  ·have hq2:¬ (q:Int)<(l.length:Int):=by omega
   gi_wp2
   go_end0
   exact ⟨⟨_,rfl⟩,.inl ⟨pre,⟨HA.out.1,by have:=HA.out.2;omega⟩,HJS.out⟩⟩
theorem names_stops (n:Nat)(hn:1≤n)(Bs n₀:Nat)(s:ByteArray)(hs:s.size≤140737488355328)(w:World)(hn₀:n₀≤w.heap.size)(hc:w.cell? ⟨Bs,0,none⟩=some (.string s)) :
  SeqStopsK Fence.wide n Tryz.prog 59 #[.pointer (some ⟨Bs,0,none⟩)] (nmEnc (namesOf s)) (CellsFrom n₀) (fun ys=>Asc (namesOf s).length ys∧ys.length=(namesOf s).length) (fun pre=>Asc (namesOf s).length pre∧0<pre.length) (namesOf s).length w:=fun lp J Jx W hW hJ _ hY h0 =>
 names1_in n hn lp Bs n₀ s hs J Jx W hJ hY ((hW.cell (p:=⟨Bs,0,none⟩) (World.block_lt_of_cell? _ _ hc)).trans hc) (Nat.le_trans hn₀ hW.size) h0

theorem ownFrom_only {β:Type}{g:Nat}{w₀:World}:OwnFrom w₀.heap.size (fun (_:β) W=>Only g w₀ W):=fun _ X Y row hs hg hr =>
 ⟨hg.os.trans hs.os,hg.tape.trans hs.tape,hg.output.trans hs.output,Nat.le_trans hs.size hg.size,fun k hk hne=>(hg.block k (Nat.lt_of_lt_of_le hk hs.size) (fun e=>by
  have:=(hr k e.symm).1
  omega)).trans (hs.block k hk hne)⟩
theorem cellsFrom_set {B:Nat}{W:World}{p:Addr}(hp:p.block<B)(u:Value):CellsFrom B W (W.setCell p u) :=
 ⟨by simp [World.setCell],fun k cs t fr hk h=>(Below.heap_setCell W p u k (by omega)).trans h⟩
end
section
open Go.RowKit Go.Shelf

attribute [local go_sem] Oper.semAt_some
def firstName:List PStep→ByteArray
 | st::_=>st.1
 | []=>ByteArray.empty
theorem grp_names (p:ByteArray):grp p=firstName (namesOf p):=by
 unfold grp namesOf
 cases h:parseM p with
 | ok l=>cases l <;> rfl
 | error e=>rfl
/-- The name of the first step that was told. -/
def nmOf (l:List PStep)(pre:List (Fin l.length)):ByteArray:=match pre with
 | i::_=>(l.get i).1
 | []=>ByteArray.empty
theorem nm_first:∀(l:List PStep) (x:Fin l.length),x.val=0→(l.get x).1=firstName l
 | [],x,_=>absurd x.isLt (by simp)
 | _::_,⟨0,_⟩,_=>rfl
 | _::_,⟨_+1,_⟩,h=>absurd h (by simp)
set_option maxRecDepth 100000 in
set_option maxHeartbeats 4000000 in
theorem bgroup_any (p:ByteArray)(w:World)(hp:p.size≤140737488355328) :
  Calls Tryz.prog 65 #[.string p] w fun en w'=>en=.returned (.string (grp p))∧Below w.heap.size w w':=by
 refine (callsIn_wide (n:=9)).1 ?_
 refine callsIn_of_wp_marks Tryz.func65 rfl trivial ?_ rfl
 simp only [Tryz.ntmps65,List.size_toArray,List.length_cons,List.length_nil,Nat.reduceAdd,Nat.reduceSub,Array.replicate_succ,Array.replicate_zero,List.push_toArray,List.append_toArray,List.nil_append,List.cons_append]
 gi_wp2_with (refine ⟨trivial,?_⟩;gi_at_call 30;go_loud (refine (callsIn_wide.2 (names_any _ _)).mono ?_;rintro e w1 ⟨rfl,rfl⟩))
 obtain ⟨W0,hW0⟩:∃ W0,(w.alloc (.cells #[.string ⟨#[]⟩] 9)).alloc (.cells #[.string p] 9)=W0:=⟨_,rfl⟩
 have bR:Boxed W0 w.heap.size 9 (.string ⟨#[]⟩):=by rw [←hW0];exact (Boxed.new w _ _).alloc _
 have bN:W0.cell? ⟨w.heap.size+1,0,none⟩=some (.string p):=by
  rw [←hW0]
  have:=(Boxed.new (w.alloc (.cells #[.string ⟨#[]⟩] 9)) 9 (.string p)).cell
  rw [World.size_alloc] at this
  exact this
 have hsz:W0.heap.size=w.heap.size+2:=by rw [←hW0];simp
 have hB0:Below w.heap.size w W0:=by rw [←hW0];exact ((Below.refl _ w).alloc (Nat.le_refl _) _).alloc (by simp) _
 rw [hW0]
 clear hW0
 generalize hr0:w.heap.size=r0 at *
 refine wpIn_rangeFunc_ownH rfl (by decide) (gf:=59) (lb:=#[.pointer (some ⟨r0+1,0,none⟩)]) rfl trivial (enters_of Tryz.func59 (by kernel_rfl) rfl)
  (names_stops 8 (by decide) (r0+1) W0.heap.size p hp W0 (Nat.le_refl _) bN) cellsFrom_t (fun W l o o' _ h hc _=>cellsFrom_b W l o o' h hc) (Below.refl _ _) (fun _=>rfl)
  (fun pre W=>pre=[]∧Boxed W r0 9 (.string ⟨#[]⟩)∧Below W0.heap.size W0 W)
  (fun cd pre W=>(cd=Code.ret∧pre.length=1)∧Boxed W r0 9 (.string (nmOf (namesOf p) pre))∧Below r0 w W)
  (OwnFrom.and (ownFrom_pure _ _) (OwnFrom.and (Own.from (boxed_own _ _ _) _) (ownFrom_below (Nat.le_refl _) (Nat.le_refl _))))
  (fun cd=>OwnFrom.and (ownFrom_pure _ _) (OwnFrom.and (Own.from (boxed_own _ _ _) _) (ownFrom_below (by omega) (by omega))))
  ⟨rfl,bR,Below.refl _ _⟩
  (fun i a' W=>a'={ tmps:=#[.string p,undef,.pointer (some ⟨r0,0,none⟩),undef,.string ((namesOf p).get i).1,.string p,.func (.func 59) #[] #[.pointer (some ⟨r0+1,0,none⟩)],.int .i64 (i.val:Int),.string ((namesOf p).get i).1,undef],defers:=[] })
  (fun i a'=>ownFrom_pure _ _)
  ?assign ?body ?done ?stop
 case assign =>
  rintro lp pre i W K hI hK
  have HI:=Lib.hid hI
  clear hI
  simp only [nmEnc]
  gi_wp2
  exact hK _ _ (KeepsFrom.refl _ _) (cellsFrom_refl _ _) HI.out rfl
 case body =>
  rintro lp pre i a' W hl ⟨rr,hr⟩ ⟨rfl,bk,hB⟩ rfl hlt
  have HB:=Lib.hid hB
  have HK:=Lib.hid bk
  have f1:=bk.cell
  have f2:=bk.frozen
  have HN:=Lib.hid (show nmOf (namesOf p) ([]++[i])=((namesOf p).get i).1 from rfl)
  clear hr hB bk hlt hl
  generalize ((namesOf p).get i).1=nm at *
  gi_wp2
  refine ⟨(KeepsOthers.setCell _ _ _).from _,⟨rfl,rfl⟩,?_,?_⟩
  ·rw [HN.out]
   exact HK.out.set (.string nm)
  ·exact (hB0.trans (HB.out.mono (by omega))).setCell (p:=⟨r0,0,none⟩) (Nat.le_refl _) _
 case done =>
  rintro D xs W hD ⟨hDs,hlen⟩ ⟨rfl,bk,hB⟩ hK
  have HG:=Lib.hid (show grp p=ByteArray.empty from by
   have hl:(namesOf p).length=0:=hlen.symm
   rw [grp_names,List.eq_nil_of_length_eq_zero hl]
   rfl)
  have HBX:=Lib.hid (show Below w.heap.size w W from by rw [hr0];exact hB0.trans (hB.mono (by omega)))
  have q6:=bk.cell
  have f6:=bk.frozen
  clear hDs hlen hB
  gi_wp2
  have hK1:=(KeepsOthers.setCell W ⟨r0,0,none⟩ (.string ⟨#[]⟩)).same D _ hK rfl
  refine ⟨by simp,.inl ⟨_,_,rfl,run_takeDeferred hK1,?_⟩⟩
  have hc6:=cell_kept (bk.set (.string ⟨#[]⟩)).cell (grownBy_putObj' _ D (.deferred none)) (fun r e=>by cases e;exact ⟨_,hK1,rfl⟩)
  refine ⟨.string ⟨#[]⟩,?_,by rw [HG.out];rfl,(HBX.out.setCell (p:=⟨r0,0,none⟩) (by rw [hr0];exact Nat.le_refl _) _).trans (belowK_b (w:=w) (Nat.le_refl _) _ D _ _ (by omega) hK1 rfl rfl)⟩
  simp [results,Tryz.f65,go_sem,hc6]
 case stop =>
  rintro D cd pre W hD hDs ⟨⟨rfl,hl1⟩,bk,hB⟩ hK
  have HG:=Lib.hid (show nmOf (namesOf p) pre=grp p from by
   obtain ⟨x,rfl⟩:∃ x,pre=[x]:=by
    match pre,hl1 with
    | [x],_=>exact ⟨x,rfl⟩
   rw [grp_names]
   exact nm_first _ x (hDs.1 0 x rfl))
  have HBX:=Lib.hid (show Below w.heap.size w W from by rw [hr0];exact hB)
  rw [HG.out] at bk
  clear hDs hl1 hB
  gi_wp2
  refine ⟨by simp,.inl ⟨_,_,rfl,run_takeDeferred hK,?_⟩⟩
  have hc6:=cell_kept bk.cell (grownBy_putObj' _ D (.deferred none)) (fun r e=>by cases e;exact ⟨_,hK,rfl⟩)
  refine ⟨.string (grp p),?_,rfl,HBX.out.trans (belowK_b (w:=w) (Nat.le_refl _) _ D _ _ (by omega) hK rfl rfl)⟩
  simp [results,Tryz.f65,go_sem,hc6]
end
section
open Go.Shelf
def sortR_ren : Go.Shelf.Ren := ⟨fun | 6 => 91 | 15 => 72 | 14 => 132 | 28 => 107 | 29 => 108 | 20 => 165 | 21 => 166 | 22 => 167 | 23 => 168 | 24 => 169 | 25 => 170 | 26 => 171 | 27 => 172 | 46 => 184 | 47 => 142 | 48 => 143 | 49 => 185 | 50 => 186 | 57 => 190 | n => n, fun | 22 => 74 | 24 => 81 | 25 => 176 | 3 => 3 | 39 => 99 | 0 => 0 | 53 => 59 | 55 => 190 | 4 => 4 | 46 => 183 | 45 => 182 | 50 => 179 | 5 => 5 | 9 => 9 | 66 => 224 | 70 => 228 | 76 => 245 | 77 => 83 | n => n, fun | n => n⟩
theorem sortR : Go.Proofs.SlLaysF0.n6 Tryz.prog sortR_ren := {
  mixed := by kernel_rfl
  f6 := ⟨Tryz.f91.name, by decide, Tryz.func91.trans (congrArg some (by kernel_rfl))⟩
  f14 := ⟨Tryz.f132.name, by decide, Tryz.func132.trans (congrArg some (by kernel_rfl))⟩
  f15 := Tryz.func72.trans (congrArg some (by kernel_rfl))
  f20 := ⟨Tryz.f165.name, by decide, Tryz.func165.trans (congrArg some (by kernel_rfl))⟩
  f21 := ⟨Tryz.f166.name, by decide, Tryz.func166.trans (congrArg some (by kernel_rfl))⟩
  f22 := ⟨Tryz.f167.name, by decide, Tryz.func167.trans (congrArg some (by kernel_rfl))⟩
  f23 := ⟨Tryz.f168.name, by decide, Tryz.func168.trans (congrArg some (by kernel_rfl))⟩
  f24 := ⟨Tryz.f169.name, by decide, Tryz.func169.trans (congrArg some (by kernel_rfl))⟩
  f25 := ⟨Tryz.f170.name, by decide, Tryz.func170.trans (congrArg some (by kernel_rfl))⟩
  f26 := ⟨Tryz.f171.name, by decide, Tryz.func171.trans (congrArg some (by kernel_rfl))⟩
  f27 := ⟨Tryz.f172.name, by decide, Tryz.func172.trans (congrArg some (by kernel_rfl))⟩
  f28 := Tryz.func107.trans (congrArg some (by kernel_rfl))
  f29 := Tryz.func108.trans (congrArg some (by kernel_rfl))
  f46 := ⟨Tryz.f184.name, by decide, Tryz.func184.trans (congrArg some (by kernel_rfl))⟩
  f47 := Tryz.func142.trans (congrArg some (by kernel_rfl))
  f48 := Tryz.func143.trans (congrArg some (by kernel_rfl))
  f49 := ⟨Tryz.f185.name, by decide, Tryz.func185.trans (congrArg some (by kernel_rfl))⟩
  f50 := ⟨Tryz.f186.name, by decide, Tryz.func186.trans (congrArg some (by kernel_rfl))⟩
  f57 := ⟨Tryz.f190.name, by decide, Tryz.func190.trans (congrArg some (by kernel_rfl))⟩
  t0 := Tryz.underlying0
  a0 := Tryz.isAgg0
  z0 := Tryz.sizeOf0
  v0 := Tryz.zeroValue0
  t3 := Tryz.underlying3
  a3 := Tryz.isAgg3
  z3 := Tryz.sizeOf3
  v3 := Tryz.zeroValue3
  t4 := Tryz.underlying4
  a4 := Tryz.isAgg4
  z4 := Tryz.sizeOf4
  v4 := Tryz.zeroValue4
  t5 := Tryz.underlying5
  a5 := Tryz.isAgg5
  z5 := Tryz.sizeOf5
  v5 := Tryz.zeroValue5
  t9 := Tryz.underlying9
  a9 := Tryz.isAgg9
  z9 := Tryz.sizeOf9
  v9 := Tryz.zeroValue9
  t22 := Tryz.underlying74
  a22 := Tryz.isAgg74
  z22 := Tryz.sizeOf74
  v22 := Tryz.zeroValue74
  t25 := Tryz.underlying176
  a25 := Tryz.isAgg176
  z25 := Tryz.sizeOf176
  v25 := Tryz.zeroValue176
  t39 := Tryz.underlying99
  a39 := Tryz.isAgg99
  z39 := Tryz.sizeOf99
  v39 := Tryz.zeroValue99
  t45 := Tryz.underlying182
  a45 := Tryz.isAgg182
  z45 := Tryz.sizeOf182
  v45 := Tryz.zeroValue182
  t46 := Tryz.underlying183
  a46 := Tryz.isAgg183
  z46 := Tryz.sizeOf183
  v46 := Tryz.zeroValue183
  t50 := Tryz.underlying179
  a50 := Tryz.isAgg179
  z50 := Tryz.sizeOf179
  v50 := Tryz.zeroValue179
  t53 := Tryz.underlying59
  a53 := Tryz.isAgg59
  z53 := Tryz.sizeOf59
  v53 := Tryz.zeroValue59
  t55 := Tryz.underlying190
  a55 := Tryz.isAgg190
  z55 := Tryz.sizeOf190
  v55 := Tryz.zeroValue190
  t66 := Tryz.underlying224
  a66 := Tryz.isAgg224
  z66 := Tryz.sizeOf224
  v66 := Tryz.zeroValue224
  t70 := Tryz.underlying228
  a70 := Tryz.isAgg228
  z70 := Tryz.sizeOf228
  v70 := Tryz.zeroValue228
  t76 := Tryz.underlying245
  a76 := Tryz.isAgg245
  z76 := Tryz.sizeOf245
  v76 := Tryz.zeroValue245
  t77 := Tryz.underlying83
  a77 := Tryz.isAgg83
  z77 := Tryz.sizeOf83
  v77 := Tryz.zeroValue83 }
end
end Go.Proofs.YthdldooilcbmlaaGreatDoor
