/-
  Texts of mine, joined: RiseLaw, SortSLay, PoolPool, PoolCmpT, OctLaw. The conditions stand with each.
-/
import Derived.Shelf.SlSortCmp.WholeK
import Derived.Lib.Bytealg
import Derived.Laws.Rows
import Derived.Test.YthdldooilcbmlaaGreatDoorK01
import Derived.Shelf.Sort.Plain
import Derived.Shelf.Slices.In.SortNone
import Derived.Test.YthdldooilcbmlaaGreatDoorProg
import Derived.Lib.Hide
import Derived.Shelf.SlSorted.Search
import Derived.Deep.QuietTactic
import Derived.BigQuiet
import Derived.Deep.RegionHeld3
import Derived.WalkKit
import Derived.Outline
import Derived.LoopTactic
import Derived.Deep.DeepCutAuto
import Derived.Laws.AppendOwn
import Derived.Lib.AppendZeros
import Derived.Maps.Own
import Derived.Maps.OwnOps
import Derived.Maps.OwnSet
import Derived.Maps.Views
import Derived.StringKeys
import Derived.Deep.Slices
import Derived.Deep.Fields
import Derived.ChangeSame
import Derived.SizedLaws
import Derived.Laws.StructEq
set_option linter.unusedVariables false
set_option linter.unusedSimpArgs false
namespace Go.Proofs.YthdldooilcbmlaaGreatDoor
section
open Go.RowKit Go.Shelf Go.Lib Go.Sort

/-- The cells of elements that have two each. -/
def cells2 {α:Type}(a b:α→Value)(l:List α):List Value:=l.flatMap fun x=>[a x,b x]
theorem cells2_len {α:Type}(a b:α→Value)(l:List α):(cells2 a b l).length=l.length*2:=by
 induction l with
 | nil=>rfl
 | cons x l ih=>simp only [cells2,List.flatMap_cons,List.length_append,List.length_cons,List.length_nil] at ih ⊢;omega
theorem cells2_at {α:Type}(a b:α→Value)(l:List α)(i:Nat)(x:α)(h:l[i]?=some x):(cells2 a b l)[i*2]?=some (a x)∧(cells2 a b l)[i*2+1]?=some (b x):=by
 induction l generalizing i with
 | nil=>simp at h
 | cons y l ih =>
  cases i with
  | zero=>simp at h;subst h;simp [cells2]
  | succ i =>
   simp only [List.getElem?_cons_succ] at h
   have:=ih i h
   rw [show (i+1)*2=i*2+1+1 by omega]
   simpa [cells2] using this
theorem flat_cells2 {α:Type}[Inhabited α](a b:α→Value)(d:Array α):(flatK (fun x=>[a x,b x]) 2 d).toList=cells2 a b d.toList:=by
 apply List.ext_getElem?
 intro t
 rcases Nat.lt_or_ge t (d.size*2) with h | h
 ·have hs:t<(flatK (fun x=>[a x,b x]) 2 d).size:=by simpa using h
  have h1:=get_flatK (fun x=>[a x,b x]) 2 d t h
  rw [_root_.getElem!_pos _ t hs] at h1
  rw [Array.getElem?_toList,Array.getElem?_eq_getElem hs,h1]
  have hi:t/2<d.size:=by omega
  have hx:d.toList[t/2]?=some d[t/2]!:=by rw [Array.getElem?_toList,Array.getElem?_eq_getElem hi,_root_.getElem!_pos d (t/2) hi]
  obtain ⟨c0,c1⟩:=cells2_at a b d.toList (t/2) _ hx
  rcases Nat.mod_two_eq_zero_or_one t with e | e
  ·rw [show t/2*2=t by omega] at c0
   rw [c0,e]
   rfl
  ·rw [show t/2*2+1=t by omega] at c1
   rw [c1,e]
   rfl
 ·rw [List.getElem?_eq_none (by rw [Array.length_toList];simpa using h),List.getElem?_eq_none (by rw [cells2_len];simpa using h)]
/-- A row of the call's own, as the sort asks for it. -/
theorem own_holds {α:Type}[Inhabited α]{a b:α→Value}{w:World}{base g c:Nat}{e:TypeId}{d:Array α}(h:w.ownsRow base e 2 (.slice (some ⟨g,0,none⟩) d.size c) d.size (cells2 a b d.toList))(h0:0<d.size) :
  HoldsK (fun x=>[a x,b x]) 2 w g 0 d∧g<w.heap.size∧base≤g:=by
 obtain ⟨h1,h2⟩:=h
 rcases h2 with ⟨h2,-⟩ | ⟨g',cap,cur,hv,hb,hh,hn,-,hcs,hx⟩
 ·cases h2
 ·cases hv
  have hlt:g<w.heap.size:=(Array.getElem?_eq_some_iff.1 hh).1
  refine ⟨fun j hj=>?_,hlt,hb⟩
  have hj2:j<d.size*2:=by simpa using hj
  have e1:(cells2 a b d.toList)[j]?=some (flatK (fun x=>[a x,b x]) 2 d)[j]!:=by
   rw [←flat_cells2,Array.getElem?_toList,Array.getElem?_eq_getElem hj,_root_.getElem!_pos (flatK (fun x=>[a x,b x]) 2 d) j hj]
  have e2:cur[j]?=some (flatK (fun x=>[a x,b x]) 2 d)[j]!:=by
   rw [←Array.getElem?_toList,←e1,←hx,List.getElem?_take,if_pos hj2]
  constructor
  ·simp only [World.cell?,hh,Nat.zero_add]
   simpa using e2
  ·simp [World.frozen?,hh]
theorem sortWorldK_block {α:Type}(enc:α→List Value)(k:Nat)[Inhabited α](w:World)(blk m:Nat)(d:Array α)(os:Array Obj)(i:Nat)(hi:i<w.heap.size)(hne:i≠blk):(sortWorldK enc k w blk 0 m d os).heap[i]?=w.heap[i]?:=by
 simp only [sortWorldK,grow,putRowK,putRow,mapBlock,Sort.ahead]
 rw [Array.getElem?_append_left (by simpa using hi),Array.getElem?_modify,if_neg (fun e=>hne e.symm)]
theorem sortWorldK_at {α:Type}(enc:α→List Value)(k:Nat)[Inhabited α](w:World)(blk m:Nat)(d:Array α)(os:Array Obj)(c:Array Value)(t:TypeId)(fr:Nat×Nat)(h:w.heap[blk]?=some (.cells c t fr)) :
  (sortWorldK enc k w blk 0 m d os).heap[blk]?=some (.cells (putCells id 0 (flatK enc k d) c) t fr):=by
 have hi:blk<w.heap.size:=(Array.getElem?_eq_some_iff.1 h).1
 simp only [sortWorldK,grow,putRowK,putRow,mapBlock,Sort.ahead]
 rw [Array.getElem?_append_left (by simpa using hi),Array.getElem?_modify,if_pos rfl,h]
 rfl
theorem sortWorldK_grown {α:Type}(enc:α→List Value)(k:Nat)[Inhabited α](w:World)(blk m:Nat)(d:Array α)(os:Array Obj):w.grownBy (sortWorldK enc k w blk 0 m d os) (some blk) :=
 ⟨rfl,rfl,rfl,by simp [sortWorldK,grow,putRowK,putRow,mapBlock,Sort.ahead],fun i hi hne=>sortWorldK_block enc k w blk m d os i hi (fun e=>hne (by rw [e]))⟩
/-- The row behind the sort. -/
theorem own_sorted {α:Type}[Inhabited α]{a b:α→Value}{w:World}{base g c n:Nat}{e:TypeId}{xs:List Value}{d':Array α}(h:w.ownsRow base e 2 (.slice (some ⟨g,0,none⟩) n c) n xs)(hd:d'.size=n)(m:Nat)(os:Array Obj) :
  (sortWorldK (fun x=>[a x,b x]) 2 w g 0 m d' os).ownsRow base e 2 (.slice (some ⟨g,0,none⟩) n c) n (cells2 a b d'.toList):=by
 obtain ⟨h1,h2⟩:=h
 refine ⟨by rw [cells2_len,Array.length_toList,hd],?_⟩
 rcases h2 with ⟨h2,-⟩ | ⟨g',cap,cur,hv,hb,hh,hn,hm,hcs,hx⟩
 ·cases h2
 ·cases hv
  refine .inr ⟨g,c,_,rfl,hb,sortWorldK_at _ _ _ _ _ _ _ _ _ _ hh,hn,hm,by simp [putCells,hcs],?_⟩
  apply List.ext_getElem?
  intro t
  rw [List.getElem?_take]
  split
  ·rename_i ht
   have hs:t<(flatK (fun x=>[a x,b x]) 2 d').size:=by rw [size_flatK,hd];exact ht
   have hc:t<cur.size:=by rw [hcs];exact Nat.lt_of_lt_of_le ht (Nat.mul_le_mul_right 2 hn)
   rw [←flat_cells2,Array.getElem?_toList,Array.getElem?_toList,Array.getElem?_eq_getElem hs]
   simp only [putCells,Array.getElem?_mapIdx,Nat.zero_add,Nat.sub_zero,Nat.zero_le,true_and]
   rw [Array.getElem?_eq_getElem hc]
   simp only [Option.map_some]
   rw [if_pos hs,_root_.getElem!_pos (flatK (fun x=>[a x,b x]) 2 d') t hs]
   rfl
  ·rename_i ht
   rw [List.getElem?_eq_none (by rw [cells2_len,Array.length_toList,hd];omega)]
theorem own_cell {w:World}{base g n c size:Nat}{e:TypeId}{xs:List Value}(h:w.ownsRow base e size (.slice (some ⟨g,0,none⟩) n c) n xs)(o:Nat)(u:Value)(hu:xs[o]?=some u):w.cell? ⟨g,o,none⟩=some u:=by
 obtain ⟨h1,h2⟩:=h
 rcases h2 with ⟨h2,-⟩ | ⟨g',cap,cur,hv,hb,hh,hn,hm,hcs,hx⟩
 ·cases h2
 ·cases hv
  rw [cell_of_row w g o cur e (0,0) hh,←Array.getElem?_toList]
  rw [←hx,List.getElem?_take] at hu
  split at hu
  ·exact hu
  ·cases hu
theorem own_free {w:World}{base g n c size:Nat}{e:TypeId}{xs:List Value}(h:w.ownsRow base e size (.slice (some ⟨g,0,none⟩) n c) n xs)(o:Nat):w.frozen? ⟨g,o,none⟩=false:=by
 obtain ⟨h1,h2⟩:=h
 rcases h2 with ⟨h2,-⟩ | ⟨g',cap,cur,hv,hb,hh,hn,hm,hcs,hx⟩
 ·cases h2
 ·cases hv
  simp [World.frozen?,hh]
theorem own_set {w:World}{base g n c size:Nat}{e:TypeId}{xs:List Value}(h:w.ownsRow base e size (.slice (some ⟨g,0,none⟩) n c) n xs)(o:Nat)(u:Value):(w.setCell ⟨g,o,none⟩ u).ownsRow base e size (.slice (some ⟨g,0,none⟩) n c) n (xs.set o u):=by
 obtain ⟨h1,h2⟩:=h
 refine ⟨by simpa using h1,?_⟩
 rcases h2 with ⟨h2,-⟩ | ⟨g',cap,cur,hv,hb,hh,hn,hm,hcs,hx⟩
 ·cases h2
 ·cases hv
  refine .inr ⟨g,c,cur.setIfInBounds o u,rfl,hb,?_,hn,hm,by simpa using hcs,?_⟩
  ·simp [World.setCell,Array.getElem?_modify,hh]
  ·rw [Array.toList_setIfInBounds,←hx,List.take_set]
/-- A list sorted and a permutation of a rising one is that one. -/
theorem perm_rising {α:Type}(lt:α→α→Bool):∀(t l:List α),l.Perm t→t.Pairwise (fun x y=>lt x y=true)→l.Pairwise (fun x y=>lt y x=false)→l=t
 | [],l,hp,_,_=>by simpa using hp
 | x::t,[],hp,_,_=>by have:=hp.length_eq;simp at this
 | x::t,y::l,hp,ht,hl=>by
  have hyx:y=x:=by
   have hy:y∈x::t:=hp.mem_iff.1 (by simp)
   rcases List.mem_cons.1 hy with h | h
   ·exact h
   ·have h1:=(List.pairwise_cons.1 ht).1 y h
    have hx:x∈y::l:=hp.mem_iff.2 (by simp)
    rcases List.mem_cons.1 hx with h2 | h2
    ·exact h2.symm
    ·have h3:=(List.pairwise_cons.1 hl).1 x h2
     rw [h1] at h3
     cases h3
  subst hyx
  rw [perm_rising lt t l (List.Perm.cons_inv hp) (List.pairwise_cons.1 ht).2 (List.pairwise_cons.1 hl).2]
theorem sortedIn_pairwise {α:Type}[Inhabited α](lt:α→α→Bool)(d:Array α)(h:SortedIn lt 0 d.size d):d.toList.Pairwise (fun x y=>lt y x=false):=by
 rw [List.pairwise_iff_getElem]
 intro i j hi hj hij
 have hi':i<d.size:=by simpa using hi
 have hj':j<d.size:=by simpa using hj
 have:=h i j (Nat.zero_le _) hij hj'
 rw [_root_.getElem!_pos d i hi',_root_.getElem!_pos d j hj'] at this
 simpa using this
theorem permIn_perm {α:Type}[Inhabited α](d d':Array α)(h:PermIn 0 d.size d d'):d'.toList.Perm d.toList∧d'.size=d.size:=by
 obtain ⟨h1,-,h3⟩:=h
 refine ⟨?_,h1⟩
 have e1:d'.extract 0 d.size=d':=by rw [←h1];simp
 have e2:d.extract 0 d.size=d:=by simp
 rwa [e1,e2] at h3
theorem cb_less:∀ a b:List UInt8,decide (Lib.compareBytes a b<0)=Op.bytesLess a b
 | [],[]=>by simp [Lib.compareBytes,Op.bytesLess]
 | [],_::_=>by simp [Lib.compareBytes,Op.bytesLess]
 | _::_,[]=>by simp [Lib.compareBytes,Op.bytesLess]
 | a::u,b::v=>by
  have ih:=cb_less u v
  simp only [Lib.compareBytes,Op.bytesLess]
  by_cases h1:a<b
  ·simp [h1]
  ·by_cases h2:b<a
   ·have h3:¬ a=b:=fun e=>by subst e;exact h1 h2
    simp [h1,h2,h3]
   ·have h3:a=b:=by
     have e1:¬ a.toNat<b.toNat:=h1
     have e2:¬ b.toNat<a.toNat:=h2
     exact UInt8.toNat_inj.1 (by omega)
    subst h3
    simpa [h1] using ih
theorem bl_irr:∀ a:List UInt8,Op.bytesLess a a=false
 | []=>rfl
 | a::u=>by
  simp only [Op.bytesLess]
  have:¬ a<a:=fun h=>Nat.lt_irrefl a.toNat h
  simp [this,bl_irr u]
theorem bl_trans:∀ a b c:List UInt8,Op.bytesLess a b=true→Op.bytesLess b c=true→Op.bytesLess a c=true
 | [],[],_,h,_=>by simp [Op.bytesLess] at h
 | [],_::_,[],_,h=>by simp [Op.bytesLess] at h
 | [],_::_,_::_,_,_=>by simp [Op.bytesLess]
 | _::_,[],_,h,_=>by simp [Op.bytesLess] at h
 | _::_,_::_,[],_,h=>by simp [Op.bytesLess] at h
 | a::u,b::v,c::z,h1,h2=>by
  have ih:=bl_trans u v z
  simp only [Op.bytesLess,Bool.or_eq_true,Bool.and_eq_true,decide_eq_true_eq,beq_iff_eq] at h1 h2 ⊢
  by_cases hab:a=b
  ·subst hab
   have hn:¬ a<a:=fun h=>Nat.lt_irrefl a.toNat h
   simp only [hn,if_false,ite_false] at h1
   by_cases hac:a=c
   ·subst hac
    simp only [hn,if_false] at h2 ⊢
    simp at h1 h2 ⊢
    exact ih h1 h2
   ·simp [hac] at h1 h2 ⊢
    exact h2
  ·by_cases hbc:b=c
   ·subst hbc
    simp [hab] at h1 ⊢
    exact h1
   ·simp [hab] at h1
    simp [hbc] at h2
    have e1:a.toNat<b.toNat:=h1
    have e2:b.toNat<c.toNat:=h2
    have e3:a<c:=show a.toNat<c.toNat by omega
    have e4:¬ a=c:=fun e=>by subst e;omega
    simp [e4,e3]
theorem bl_conn:∀ x y:List UInt8,Op.bytesLess x y=false→Op.bytesLess y x=false→x=y
 | [],[],_,_=>rfl
 | _::_,[],_,h=>by simp [Op.bytesLess] at h
 | [],_::_,h,_=>by simp [Op.bytesLess] at h
 | a::x,b::y,h1,h2=>by
  simp only [Op.bytesLess] at h1 h2
  by_cases hab:a=b
  ·subst hab
   simp at h1 h2
   rw [bl_conn x y h1 h2]
  ·have hba:¬ b=a:=fun e=>hab e.symm
   simp [hab] at h1
   simp [hba] at h2
   have e1:b.toNat≤a.toNat:=h1
   have e2:a.toNat≤b.toNat:=h2
   exact absurd (UInt8.toNat_inj.1 (by omega)) hab
theorem bl_swo {α:Type}(f:α→List UInt8):SWO (fun x y=>Op.bytesLess (f x) (f y)) where
 irrefl x:=bl_irr _
 trans x y z h1 h2:=bl_trans _ _ _ h1 h2
 ntrans x y z h1 h2:=by
  cases h:Op.bytesLess (f x) (f z)
  ·rfl
  ·cases h3:Op.bytesLess (f y) (f x)
   ·have e:=bl_conn _ _ h1 h3
    rw [e] at h
    rw [h] at h2
    exact h2
   ·have:=bl_trans _ _ _ h3 h
    rw [this] at h2
    exact h2
end
section
open Go.RowKit

structure TotalLt {α:Type} (lt:α→α→Bool):Prop where
 irr:∀ a,lt a a=false
 tr:∀ a b c,lt a b=true→lt b c=true→lt a c=true
 conn:∀ a b,lt a b=false→lt b a=false→a=b
section
variable {α:Type} {lt:α→α→Bool}
theorem TotalLt.asym (T:TotalLt lt){a b:α}(h:lt a b=true):lt b a=false:=by
 cases e:lt b a
 ·rfl
 ·have:=T.tr _ _ _ h e
  rw [T.irr] at this
  cases this
theorem TotalLt.ne (T:TotalLt lt){a b:α}(h:lt a b=true):a≠b:=fun e=>by rw [e,T.irr] at h;cases h
theorem TotalLt.flip (T:TotalLt lt){a b:α}(h:lt a b=false)(hne:a≠b):lt b a=true:=by
 cases e:lt b a
 ·exact absurd (T.conn _ _ h e) hne
 ·rfl
def RiseL (lt:α→α→Bool)(l:List α):Prop:=l.Pairwise fun x y=>lt x y=true
instance (l:List α):Decidable (RiseL lt l):=inferInstanceAs (Decidable (l.Pairwise fun x y=>lt x y=true))
theorem rise_of_adj (tr:∀ a b c,lt a b=true→lt b c=true→lt a c=true):∀(l:List α),(∀(j:Nat) (x y:α),l[j]?=some x→l[j+1]?=some y→lt x y=true)→RiseL lt l
 | [],_=>List.Pairwise.nil
 | [x],_=>by simp [RiseL]
 | x::y::l,h=>by
  have h1:=rise_of_adj tr (y::l) fun j a b ha hb=>h (j+1) a b (by simpa using ha) (by simpa using hb)
  have hxy:=h 0 x y (by simp) (by simp)
  refine List.pairwise_cons.2 ⟨fun z hz=>?_,h1⟩
  rcases List.mem_cons.1 hz with rfl | hz
  ·exact hxy
  ·exact tr _ _ _ hxy ((List.pairwise_cons.1 h1).1 z hz)
theorem rise_at {l:List α}(h:RiseL lt l){i j:Nat}{x y:α}(hx:l[i]?=some x)(hy:l[j]?=some y)(hij:i<j):lt x y=true:=by
 obtain ⟨hi,rfl⟩:=List.getElem?_eq_some_iff.1 hx
 obtain ⟨hj,rfl⟩:=List.getElem?_eq_some_iff.1 hy
 exact List.pairwise_iff_getElem.1 h i j hi hj hij
theorem rise_unique (T:TotalLt lt):∀ {a b:List α},RiseL lt a→RiseL lt b→(∀ x,x∈a↔x∈b)→a=b
 | [],[],_,_,_=>rfl
 | [],y::b,_,_,h=>by have:=(h y).2 (by simp);simp at this
 | x::a,[],_,_,h=>by have:=(h x).1 (by simp);simp at this
 | x::a,y::b,ha,hb,h=>by
  obtain ⟨a1,a2⟩:=List.pairwise_cons.1 ha
  obtain ⟨b1,b2⟩:=List.pairwise_cons.1 hb
  have hxy:x=y:=by
   rcases List.mem_cons.1 ((h x).1 (by simp)) with e | hx
   ·exact e
   ·rcases List.mem_cons.1 ((h y).2 (by simp)) with e | hy
    ·exact e.symm
    ·have:=T.asym (a1 y hy)
     rw [b1 x hx] at this
     cases this
  subst hxy
  refine congrArg (x::·) (rise_unique T a2 b2 fun z=>⟨fun hz=>?_,fun hz=>?_⟩)
  ·rcases List.mem_cons.1 ((h z).1 (by simp [hz])) with e | h'
   ·exact absurd e.symm (T.ne (a1 z hz))
   ·exact h'
  ·rcases List.mem_cons.1 ((h z).2 (by simp [hz])) with e | h'
   ·exact absurd e.symm (T.ne (b1 z hz))
   ·exact h'
theorem rise_inj (T:TotalLt lt){l:List α}(h:RiseL lt l){i j:Nat}{x:α}(hx:l[i]?=some x)(hy:l[j]?=some x):i=j:=by
 rcases Nat.lt_trichotomy i j with e | e | e
 ·have:=rise_at h hx hy e;rw [T.irr] at this;cases this
 ·exact e
 ·have:=rise_at h hy hx e;rw [T.irr] at this;cases this
end
section
variable {α:Type} [DecidableEq α] {lt:α→α→Bool}
/-- A list with one more. -/
def insL (lt:α→α→Bool):List α→α→List α
 | [],s=>[s]
 | x::xs,s=>if lt x s=true then x::insL lt xs s else if x=s then x::xs else s::x::xs
theorem insL_mem (l:List α)(s x:α):x∈insL lt l s↔x=s∨x∈l:=by
 induction l with
 | nil=>simp [insL]
 | cons y l ih =>
  unfold insL
  split
  ·simp only [List.mem_cons,ih]
   constructor
   ·rintro (h | h | h)
    ·exact .inr (.inl h)
    ·exact .inl h
    ·exact .inr (.inr h)
   ·rintro (h | h | h)
    ·exact .inr (.inl h)
    ·exact .inl h
    ·exact .inr (.inr h)
  ·split
   ·rename_i h
    subst h
    simp only [List.mem_cons]
    constructor
    ·exact fun h=>.inr h
    ·rintro (h | h)
     ·exact .inl h
     ·exact h
   ·simp only [List.mem_cons]
theorem insL_rise (T:TotalLt lt){l:List α}(s:α)(h:RiseL lt l):RiseL lt (insL lt l s):=by
 induction l with
 | nil=>simp [insL,RiseL]
 | cons y l ih =>
  obtain ⟨h1,h2⟩:=List.pairwise_cons.1 h
  unfold insL
  split
  ·rename_i hy
   refine List.pairwise_cons.2 ⟨fun x hx=>?_,ih h2⟩
   rcases (insL_mem l s x).1 hx with rfl | hx
   ·exact hy
   ·exact h1 x hx
  ·rename_i hy
   split
   ·exact h
   ·rename_i hne
    have hsy:lt s y=true:=T.flip (by simpa using hy) hne
    refine List.pairwise_cons.2 ⟨fun x hx=>?_,h⟩
    rcases List.mem_cons.1 hx with rfl | hx
    ·exact hsy
    ·exact T.tr _ _ _ hsy (h1 x hx)
/-- Each once, rising. -/
def poolL (lt:α→α→Bool)(l:List α):List α:=l.foldl (insL lt) []
theorem foldl_ins_mem (l:List α):∀(a:List α) (x:α),x∈l.foldl (insL lt) a↔x∈a∨x∈l:=by
 induction l with
 | nil=>simp
 | cons y l ih =>
  intro a x
  simp only [List.foldl_cons,ih,insL_mem,List.mem_cons]
  constructor
  ·rintro ((h | h) | h)
   ·exact .inr (.inl h)
   ·exact .inl h
   ·exact .inr (.inr h)
  ·rintro (h | h | h)
   ·exact .inl (.inr h)
   ·exact .inl (.inl h)
   ·exact .inr h
theorem foldl_ins_rise (T:TotalLt lt)(l:List α):∀(a:List α),RiseL lt a→RiseL lt (l.foldl (insL lt) a):=by
 induction l with
 | nil=>exact fun _ h=>h
 | cons y l ih=>exact fun a h=>ih _ (insL_rise T y h)
theorem poolL_mem (l:List α)(x:α):x∈poolL lt l↔x∈l:=by simp [poolL,foldl_ins_mem]
theorem poolL_rise (T:TotalLt lt)(l:List α):RiseL lt (poolL lt l):=foldl_ins_rise T l [] List.Pairwise.nil
theorem poolL_eq (T:TotalLt lt){l a:List α}(ha:RiseL lt a)(h:∀ x,x∈a↔x∈l):a=poolL lt l :=
 rise_unique T ha (poolL_rise T l) fun x=>(h x).trans (poolL_mem l x).symm
theorem insL_len (l:List α)(s:α):(insL lt l s).length≤l.length+1:=by
 induction l with
 | nil=>simp [insL]
 | cons y l ih =>
  unfold insL
  split
  ·simp only [List.length_cons];omega
  ·split
   ·simp
   ·simp
theorem foldl_ins_len (l:List α):∀ a:List α,(l.foldl (insL lt) a).length≤a.length+l.length:=by
 induction l with
 | nil=>simp
 | cons y l ih =>
  intro a
  have h1:=ih (insL lt a y)
  have h2:=insL_len (lt:=lt) a y
  simp only [List.foldl_cons,List.length_cons]
  omega
theorem poolL_len (l:List α):(poolL lt l).length≤l.length:=by
 have:=foldl_ins_len (lt:=lt) l []
 simpa [poolL] using this
theorem poolL_self (T:TotalLt lt){l:List α}(h:RiseL lt l):poolL lt l=l:=(poolL_eq T h fun _=>Iff.rfl).symm
theorem poolL_congr (T:TotalLt lt){l m:List α}(h:∀ x,x∈l↔x∈m):poolL lt l=poolL lt m :=
 poolL_eq T (poolL_rise T l) fun x=>(poolL_mem l x).trans (h x)
end
/-- Texts' order. -/
def bl (a b:ByteArray):Bool:=Op.bytesLess a.toList b.toList
theorem blT:TotalLt bl where
 irr a:=bl_irr _
 tr a b c:=bl_trans _ _ _
 conn a b h1 h2:=by
  have:=bl_conn _ _ h1 h2
  rw [Lib.toList_data,Lib.toList_data] at this
  obtain ⟨⟨x⟩⟩:=a
  obtain ⟨⟨y⟩⟩:=b
  simp at this
  rw [this]
/-- Rows' order: by the key, then the value. -/
def rl (a b:Int×Int):Bool:=decide (a.1<b.1) || (decide (a.1=b.1) && decide (a.2<b.2))
theorem rl_iff {a b:Int×Int}:rl a b=true↔a.1<b.1∨(a.1=b.1∧a.2<b.2):=by simp [rl]
theorem rlT:TotalLt rl where
 irr a:=by cases h:rl a a <;> simp_all [rl_iff]
 tr a b c h1 h2:=by rw [rl_iff] at *;omega
 conn a b h1 h2:=by
  have e1:¬ (a.1<b.1∨(a.1=b.1∧a.2<b.2)):=fun h=>by rw [←rl_iff] at h;rw [h] at h1;cases h1
  have e2:¬ (b.1<a.1∨(b.1=a.1∧b.2<a.2)):=fun h=>by rw [←rl_iff] at h;rw [h] at h2;cases h2
  exact Prod.ext (by omega) (by omega)
/-- Lists' order, by their elements' order. -/
def lexL {α:Type}[DecidableEq α](lt:α→α→Bool):List α→List α→Bool
 | _,[]=>false
 | [],_::_=>true
 | x::a,y::b=>if x=y then lexL lt a b else lt x y
theorem lexT {α:Type}[DecidableEq α]{lt:α→α→Bool}(T:TotalLt lt):TotalLt (lexL lt) where
 irr a:=by
  induction a with
  | nil=>rfl
  | cons x a ih=>simpa [lexL] using ih
 tr a b c:=by
  induction a generalizing b c with
  | nil =>
   intro h1 h2
   cases b with
   | nil=>simp [lexL] at h1
   | cons y b=>cases c with
    | nil=>simp [lexL] at h2
    | cons z c=>rfl
  | cons x a ih =>
   intro h1 h2
   cases b with
   | nil=>simp [lexL] at h1
   | cons y b=>cases c with
    | nil=>simp [lexL] at h2
    | cons z c =>
     simp only [lexL] at h1 h2 ⊢
     by_cases e1:x=y
     ·subst e1
      by_cases e2:x=z
      ·subst e2
       simp only [if_true] at h1 h2 ⊢
       exact ih _ _ h1 h2
      ·simp only [if_neg e2,if_true] at h1 h2 ⊢
       exact h2
     ·simp only [if_neg e1] at h1
      by_cases e2:y=z
      ·subst e2
       simp only [if_neg e1]
       exact h1
      ·simp only [if_neg e2] at h2
       have h3:=T.tr _ _ _ h1 h2
       rw [if_neg (T.ne h3)]
       exact h3
 conn a b:=by
  induction a generalizing b with
  | nil =>
   intro h1 h2
   cases b with
   | nil=>rfl
   | cons y b=>simp [lexL] at h1
  | cons x a ih =>
   intro h1 h2
   cases b with
   | nil=>simp [lexL] at h2
   | cons y b =>
    simp only [lexL] at h1 h2
    by_cases e:x=y
    ·subst e
     simp only [if_true] at h1 h2
     rw [ih b h1 h2]
    ·rw [if_neg e] at h1
     rw [if_neg (fun h=>e h.symm)] at h2
     exact absurd (T.conn _ _ h1 h2) e
end
section
open Go.Shelf
def sortS_ren : Go.Shelf.Ren := ⟨fun | 190 => 42 | 125 => 72 | 258 => 71 | 128 => 107 | 129 => 108 | 302 => 98 | 303 => 99 | 304 => 100 | 305 => 101 | 306 => 102 | 307 => 103 | 308 => 104 | 309 => 105 | 310 => 106 | 333 => 141 | 329 => 142 | 330 => 143 | 334 => 144 | 335 => 145 | 336 => 146 | 344 => 175 | n => n, fun | 31 => 37 | 9 => 9 | 3 => 3 | 46 => 99 | 0 => 0 | 51 => 59 | 53 => 190 | 4 => 4 | 183 => 183 | 182 => 182 | 131 => 179 | 5 => 5 | 218 => 224 | 222 => 228 | 228 => 245 | 229 => 83 | n => n, fun | n => n⟩
theorem sortS : Go.Proofs.Lays.n190 Tryz.prog sortS_ren := {
  mixed := by kernel_rfl
  f125 := Tryz.func72.trans (congrArg some (by kernel_rfl))
  f128 := Tryz.func107.trans (congrArg some (by kernel_rfl))
  f129 := Tryz.func108.trans (congrArg some (by kernel_rfl))
  f190 := Tryz.func42.trans (congrArg some (by kernel_rfl))
  f258 := Tryz.func71.trans (congrArg some (by kernel_rfl))
  f302 := Tryz.func98.trans (congrArg some (by kernel_rfl))
  f303 := Tryz.func99.trans (congrArg some (by kernel_rfl))
  f304 := Tryz.func100.trans (congrArg some (by kernel_rfl))
  f305 := Tryz.func101.trans (congrArg some (by kernel_rfl))
  f306 := Tryz.func102.trans (congrArg some (by kernel_rfl))
  f307 := Tryz.func103.trans (congrArg some (by kernel_rfl))
  f308 := Tryz.func104.trans (congrArg some (by kernel_rfl))
  f309 := Tryz.func105.trans (congrArg some (by kernel_rfl))
  f310 := Tryz.func106.trans (congrArg some (by kernel_rfl))
  f329 := Tryz.func142.trans (congrArg some (by kernel_rfl))
  f330 := Tryz.func143.trans (congrArg some (by kernel_rfl))
  f333 := Tryz.func141.trans (congrArg some (by kernel_rfl))
  f334 := Tryz.func144.trans (congrArg some (by kernel_rfl))
  f335 := Tryz.func145.trans (congrArg some (by kernel_rfl))
  f336 := Tryz.func146.trans (congrArg some (by kernel_rfl))
  f344 := Tryz.func175.trans (congrArg some (by kernel_rfl))
  t0 := Tryz.underlying0
  a0 := Tryz.isAgg0
  z0 := Tryz.sizeOf0
  v0 := Tryz.zeroValue0
  t3 := Tryz.underlying3
  a3 := Tryz.isAgg3
  z3 := Tryz.sizeOf3
  v3 := Tryz.zeroValue3
  t4 := Tryz.underlying4
  a4 := Tryz.isAgg4
  z4 := Tryz.sizeOf4
  v4 := Tryz.zeroValue4
  t5 := Tryz.underlying5
  a5 := Tryz.isAgg5
  z5 := Tryz.sizeOf5
  v5 := Tryz.zeroValue5
  t9 := Tryz.underlying9
  a9 := Tryz.isAgg9
  z9 := Tryz.sizeOf9
  v9 := Tryz.zeroValue9
  t31 := Tryz.underlying37
  a31 := Tryz.isAgg37
  z31 := Tryz.sizeOf37
  v31 := Tryz.zeroValue37
  t46 := Tryz.underlying99
  a46 := Tryz.isAgg99
  z46 := Tryz.sizeOf99
  v46 := Tryz.zeroValue99
  t51 := Tryz.underlying59
  a51 := Tryz.isAgg59
  z51 := Tryz.sizeOf59
  v51 := Tryz.zeroValue59
  t53 := Tryz.underlying190
  a53 := Tryz.isAgg190
  z53 := Tryz.sizeOf190
  v53 := Tryz.zeroValue190
  t131 := Tryz.underlying179
  a131 := Tryz.isAgg179
  z131 := Tryz.sizeOf179
  v131 := Tryz.zeroValue179
  t182 := Tryz.underlying182
  a182 := Tryz.isAgg182
  z182 := Tryz.sizeOf182
  v182 := Tryz.zeroValue182
  t183 := Tryz.underlying183
  a183 := Tryz.isAgg183
  z183 := Tryz.sizeOf183
  v183 := Tryz.zeroValue183
  t218 := Tryz.underlying224
  a218 := Tryz.isAgg224
  z218 := Tryz.sizeOf224
  v218 := Tryz.zeroValue224
  t222 := Tryz.underlying228
  a222 := Tryz.isAgg228
  z222 := Tryz.sizeOf228
  v222 := Tryz.zeroValue228
  t228 := Tryz.underlying245
  a228 := Tryz.isAgg245
  z228 := Tryz.sizeOf245
  v228 := Tryz.zeroValue245
  t229 := Tryz.underlying83
  a229 := Tryz.isAgg83
  z229 := Tryz.sizeOf83
  v229 := Tryz.zeroValue83 }
end
section
open Go.RowKit

/-- A list of texts, read. -/
def Txts (w:World)(B:Nat)(v:Value)(l:List ByteArray):Prop:=∃ A c,v=.slice A l.length c∧l.length≤c∧c≤maxLen∧Reads w B 1 A l.length (l.map Value.string)
theorem Txts.below {w w':World}{B:Nat}{v:Value}{l:List ByteArray}(h:Txts w B v l)(hb:Below B w w'):Txts w' B v l:=by
 obtain ⟨A,c,e,h1,h2,h3⟩:=h
 exact ⟨A,c,e,h1,h2,h3.below hb⟩
theorem Txts.more {w:World}{B B':Nat}{v:Value}{l:List ByteArray}(h:Txts w B v l)(hB:B≤B'):Txts w B' v l:=by
 obtain ⟨A,c,e,h1,h2,h3⟩:=h
 exact ⟨A,c,e,h1,h2,Reads.more h3 hB⟩
theorem Txts.on {w w':World}{v:Value}{l:List ByteArray}(h:Txts w w.heap.size v l)(hb:Below w.heap.size w w'):Txts w' w'.heap.size v l:=(h.below hb).more hb.size
theorem str_at {l:List ByteArray}{i:Nat}{x:ByteArray}(h:l[i]?=some x):(l.map Value.string)[i]?=some (.string x):=by simp [h]
theorem at_lt {α:Type}{l:List α}{p:Nat}(h:p<l.length):∃ x,l[p]?=some x:=⟨l[p],by simp [h]⟩
def QPost (P:Value→Prop)(w:World)(e:Ending)(w':World):Prop:=∃ v q,e=.returned v∧P v∧w'=w.drewN q

end
section
open Go.RowKit

theorem str_info:(Tryz.prog.info? 9).map (fun i=>(i.zero,i.size,i.bytes))=some (some (.string ByteArray.empty),1,16):=by kernel_rfl
end
section
open Go.RowKit

theorem wpList_append_runS {P:Program}(w:World){ops:Array Oper}{rest:List Oper}{o:Oper}{a:Act}{Q:Exit→Act→World→Prop}(hgd:o.guard=none)(s x:Operand)(t tn:TypeId)
  (ho:o.op=.call { callee:=.builtin .append,args:=#[s,x],argTypes:=#[t,tn] })(vs vx:Value)(hs:a.eval s=vs)(hx:a.eval x=vx)
  (v':Value)(w':World)(hr:(Builtin.append_ #[t,tn] o.type #[vs,vx]).run P w=.ok v' w')(h:wpList P ops Q rest (a.put o.dst v') w'):wpList P ops Q (o::rest) a w :=
 Lib.wpList_append_run w hgd s x t tn ho vs vx hs hx v' w' hr h
def GrowPostS (w:World)(en:Ending)(w':World):Prop:=∃ v,en=.returned v∧w'.ownsRow w.heap.size 9 1 v 0 []∧w.grownBy w' none
set_option maxRecDepth 10000000 in
theorem grow_anyS (n:Nat)(w:World)(hn:n≤100000000) :
  Calls Tryz.prog 131 #[.slice none 0 0,.int .i64 (n:Int)] w (GrowPostS w):=by
 by_cases h0:n=0
 ·subst h0
  go_enter Tryz.func131,Tryz.ntmps131
  go_wp2
  go_ret
  exact ⟨_,rfl,World.ownsRow_nil _ _ _ _,World.grownBy.refl _ _⟩
 ·have hn0:¬ (n:Int)<0:=by omega
  have hn1:(0:Int)<(n:Int):=by omega
  have hn2:(n:Int)≤100000000:=by omega
  obtain ⟨i0,hi0,hz0,hz1,hz2⟩:=info_parts str_info
  have HA:=Lib.hid (Lib.run_append_nil_zeros (P:=Tryz.prog) w 37 3 37 9 i0 _ .i64 .i64 Tryz.underlying37 Tryz.underlying3 hi0 hz0 n (by omega) (by omega) (by omega) (by rw [hz2];omega))
  have HO:=Lib.hid (show ∀ cap,cap=grownCap w n 0 9→(w.drew.alloc (.cells (Builtin.zeroCells (Value.string ByteArray.empty).cells n++Builtin.zeroCells (Value.string ByteArray.empty).cells (cap-n)) 9)).ownsRow w.heap.size 9 1 (.slice (some ⟨w.heap.size,0,none⟩) 0 cap) 0 [] from fun cap hc=>by
   have hge:=grownCap_ge w n 0 9
   have hcm:grownCap w n 0 9≤maxLen:=grownCap_le_maxLen w n 0 9 (by simp only [maxLen];omega)
   have hz:(Value.string ByteArray.empty).cells.size=1:=rfl
   refine ⟨rfl,.inr ⟨w.heap.size,cap,_,rfl,Nat.le_refl _,heap_alloc_new w.drew _,Nat.zero_le _,by omega,?_,by simp⟩⟩
   simp only [Array.size_append,size_zeroCells,hz]
   omega)
  have HG:=Lib.hid (show ∀ o,w.grownBy (w.drew.alloc o) none from fun o=>⟨rfl,rfl,rfl,by simp,fun k hk _=>Below.heap_alloc w.drew o k hk⟩)
  generalize grownCap w n 0 9=cap at *
  clear h0
  go_enter Tryz.func131,Tryz.ntmps131
  go_wp2_with (at_builtin;go_loud (refine wpList_append_runS w rfl (.tmp 20) (.tmp 21) _ _ rfl _ _ rfl rfl _ _ HA.out ?_))
  go_ret
  exact ⟨_,rfl,HO.out _ rfl,HG.out _⟩

/-- A row of two-cell elements, read. -/
def RowRS (w:World)(B:Nat)(v:Value)(n:Nat)(xs:List Value):Prop:=∃ A c,v=.slice A n c∧n≤c∧c≤maxLen∧Reads w B 1 A n xs
abbrev LRowS:=Value×Nat×List Value
def sumLS (ls:List LRowS):Nat:=(ls.map fun x=>x.2.1).sum
def flatLS (ls:List LRowS):List Value:=ls.flatMap fun x=>x.2.2
theorem sumL_takeS (ls:List LRowS)(p:Nat)(x:LRowS)(h:ls[p]?=some x):sumLS (ls.take (p+1))=sumLS (ls.take p)+x.2.1:=by
 rw [List.take_add_one,h]
 simp [sumLS]
theorem flatL_takeS (ls:List LRowS)(p:Nat)(x:LRowS)(h:ls[p]?=some x):flatLS (ls.take (p+1))=flatLS (ls.take p)++x.2.2:=by
 rw [List.take_add_one,h]
 simp [flatLS]
theorem sumL_leS (ls:List LRowS)(p:Nat):sumLS (ls.take p)≤sumLS ls:=by
 have:sumLS ls=sumLS (ls.take p)+sumLS (ls.drop p):=by
  conv=>lhs;rw [←List.take_append_drop p ls]
  simp only [sumLS,List.map_append,List.sum_append]
 omega
def ConcatPostS (ls:List LRowS)(w:World)(en:Ending)(w':World):Prop:=∃ v,en=.returned v∧w'.ownsRow w.heap.size 9 1 v (sumLS ls) (flatLS ls)∧Below w.heap.size w w'
def ListsAtS (w:World)(A:Option Addr)(ls:List LRowS):Prop :=
 Reads w w.heap.size 1 A ls.length (ls.map fun x=>x.1)∧∀ x∈ls,RowRS w w.heap.size x.1 x.2.1 x.2.2∧∀ u∈x.2.2,u.oneCell'=true

set_option maxHeartbeats 4000000 in
theorem concat_anyS (A:Option Addr)(m c:Nat)(ls:List LRowS)(w:World)(hm:ls.length=m)(hl:ListsAtS w A ls)(hn:sumLS ls≤100000000)(hms:m≤1000) :
  Calls Tryz.prog 89 #[.slice A m c] w (ConcatPostS ls w):=by
 have hms2:(m:Int)≤1000:=by omega
 have HL:=Lib.hid hl
 have HM:=Lib.hid hm
 have HN:=Lib.hid hn
 clear hl hm hn
 go_enter Tryz.func89,Tryz.ntmps89
 go_wp2
 go_loopw [3,5,11] (fun sv _ iv wr=>wr=w∧∃ p:Nat,sv=.int .i64 (sumLS (ls.take p):Int)∧iv=.int .i64 (p:Int)∧p≤m) (fun _ _ iv _=>m-(Lib.intOf iv).toNat)
 case atStart=>exact ⟨rfl,0,by simp [sumLS],rfl,Nat.zero_le _⟩
 case round =>
  obtain ⟨rfl,p,rfl,rfl,hp⟩:=hrel
  by_cases hlt:p<m
  ·obtain ⟨x,hx⟩:∃ x,ls[p]?=some x:=⟨ls[p]'(by have:=HM.out;omega),by have:=HM.out;simp [this,hlt]⟩
   have hq:(p:Int)<(m:Int):=by omega
   have hmem:=HL.out.2 x (List.mem_of_getElem? hx)
   obtain ⟨b,o,rfl,hbo,hcells⟩:=HL.out.1.spot (by have:=HM.out;omega) (by omega)
   have hc0:wr.cell? ⟨b,o+p,none⟩=some x.1:=hcells p _ (by simp [hx])
   obtain ⟨⟨A1,c1,hv,_,_,_⟩,_⟩:=hmem
   rw [hv] at hc0
   have HT:=Lib.hid (sumL_takeS ls p x hx)
   have hs1:(sumLS (ls.take p):Int)+(x.2.1:Int)≤100000000:=by
    have h1:=sumL_leS ls (p+1)
    have h2:=HN.out
    rw [HT.out] at h1
    omega
   have hs2:¬ ((sumLS (ls.take p):Int)+(x.2.1:Int))<0:=by omega
   generalize sumLS (ls.take p)=sp at *
   clear hcells hv
   go_wp2
   go_roundw
   case rel=>exact ⟨trivial,p+1,by rw [HT.out];simp,by simp,hlt⟩
   case measure=>simp [Lib.intOf];omega
  ·obtain rfl:p=m:=by omega
   have hq:¬ (p:Int)<(p:Int):=by omega
   have HT:=Lib.hid (show ls.take p=ls from List.take_of_length_le (by have:=HM.out;omega))
   rw [HT.out]
   have HG:=Lib.hid (grow_anyS (sumLS ls) wr HN.out)
   have hsz:(sumLS ls:Int)≤100000000:=by have:=HN.out;omega
   have HF:=Lib.hid (show sumLS ls=sumLS ls from rfl)
   clear hlt hq
   go_upto_region 10 with (go_at_call 131;go_loud (refine HG.out.mono ?_;rintro en w1 ⟨v1,rfl,hO1,hG1⟩;have HO1:=Lib.hid hO1;have HG1:=Lib.hid hG1;clear hO1 hG1))
   have HBl:=Lib.hid (show Below wr.heap.size wr w1 from ⟨HG1.out.os,HG1.out.tape,HG1.out.output,HG1.out.size,fun k hk=>HG1.out.block k hk (by simp)⟩)
   clear HG HG1
   have HR0:=Lib.hid HL.out.1
   have HR1:=Lib.hid HL.out.2
   clear HL
   generalize hbase:wr.heap.size=base at *
   have HBASE:=Lib.hid hbase
   clear hbase
   go_wp2
   go_loopw [6,8,27] (fun v _ iv W=>∃ q:Nat,iv=.int .i64 (q:Int)∧q≤p∧W.ownsRow base 9 1 v (sumLS (ls.take q)) (flatLS (ls.take q))∧Below base wr W) (fun _ _ iv _=>p-(Lib.intOf iv).toNat)
   case atStart=>exact ⟨0,rfl,Nat.zero_le _,by simpa [sumLS,flatLS] using HO1.out,HBl.out⟩
   case round =>
    obtain ⟨q,rfl,hqp,hown,hB⟩:=hrel
    have HO:=Lib.hid hown
    have HB:=Lib.hid hB
    clear hown hB
    by_cases hlt:q<p
    ·obtain ⟨x,hx⟩:∃ x,ls[q]?=some x:=⟨ls[q]'(by have:=HM.out;omega),by have:=HM.out;simp [this,hlt]⟩
     have hq:(q:Int)<(p:Int):=by omega
     have hmem:=HR1.out x (List.mem_of_getElem? hx)
     obtain ⟨b,o,rfl,hbo,hcells⟩:=(HR0.out.below HB.out).spot (by have:=HM.out;omega) (by omega)
     have hc0:wr.cell? ⟨b,o+q,none⟩=some x.1:=hcells q _ (by simp [hx])
     obtain ⟨⟨A1,c1,hv,_,_,hRd⟩,hone⟩:=hmem
     rw [hv] at hc0
     have HT:=Lib.hid (And.intro (sumL_takeS ls q x hx) (flatL_takeS ls q x hx))
     have HS:=Lib.hid (show sumLS (ls.take q)+x.2.1≤100000000 by
      have h1:=sumL_leS ls (q+1)
      have h2:=HN.out
      rw [HT.out.1] at h1
      omega)
     have HRd:=Lib.hid (hRd.below HB.out)
     have HOne:=Lib.hid hone
     obtain ⟨i0,hi0,hz0,hz1,hz2⟩:=info_parts str_info
     generalize sumLS (ls.take q)=sq at *
     generalize flatLS (ls.take q)=fq at *
     clear hcells hv hRd hone
     go_wp2_with (at_builtin;go_loud (refine wpList_append_any _ rfl (.tmp 31) (.tmp 32) _ rfl base 9 i0 _ 1 16 Tryz.underlying37 hi0 hz0 hz1 hz2 rfl (by omega) _ sq fq rfl HO.out base A1 x.2.1 c1 x.2.2 rfl HRd.out HOne.out (by have:=HS.out;simp only [maxLen];omega) (by have:=HS.out;omega) (by have:=HB.out.size;have:=HBASE.out;omega) ?_);intro v3 w5 hown3 hg3 hat3;have HO5:=Lib.hid hown3;have HG5:=Lib.hid hg3;have HA5:=Lib.hid hat3;clear hown3 hg3 hat3)
     go_roundw
     case rel=>exact ⟨q+1,by simp,hlt,by rw [HT.out.1,HT.out.2];exact HO5.out,HB.out.grown HG5.out (by have:=HB.out.size;have:=HBASE.out;omega) (fun k hk=>(HO.out.lt k hk).1)⟩
     case measure=>simp [Lib.intOf];omega
    ·have hq:¬ (q:Int)<(p:Int):=by omega
     have HT2:=Lib.hid (show ls.take q=ls from List.take_of_length_le (by have:=HM.out;omega))
     rw [HT2.out] at HO
     go_wp2
     go_ret
     exact ⟨_,rfl,by rw [HBASE.out];exact HO.out,by rw [HBASE.out];exact HB.out⟩
end
section
open Go.RowKit

def rawE (v:Value):Option (DataW Value×List MemPlace):=some (.held v,[])
/-- Block b is a map of m entries (at most n) that holds f. -/
def MapG {κ:Type}(P:Program)(k:TypeId)(kl:κ→Lit)(ok:κ→Prop)(w:World)(b n m:Nat)(f:κ→Option Value):Prop :=
 ∃ D:DataW Value,w.ownsMap P k rawE b n D∧Maps.size D=m∧(∀ s,ok s→Maps.has D (kl s)=(f s).isSome)∧∀ s z,ok s→D.atKey (kl s) (.held z)=.held ((f s).getD z)
section
variable {κ:Type} {P:Program} {k:TypeId} {kl:κ→Lit} {ok:κ→Prop} {w w':World} {b n m:Nat} {f:κ→Option Value}
theorem MapG.made (w:World)(P:Program)(k:TypeId)(kl:κ→Lit)(ok:κ→Prop):MapG P k kl ok (w.alloc (.map #[] 0)) w.heap.size 0 0 (fun _=>none) :=
 ⟨.map [],World.ownsMap_made _ _ _ _,rfl,fun _ _=>rfl,fun _ _ _=>rfl⟩
theorem MapG.lt (h:MapG P k kl ok w b n m f):b<w.heap.size:=by obtain ⟨D,h,_⟩:=h;exact h.lt
theorem MapG.kept {row:Option Nat}(h:MapG P k kl ok w b n m f)(hg:w.grownBy w' row)(hne:some b≠row):MapG P k kl ok w' b n m f:=by
 obtain ⟨D,h,r⟩:=h;exact ⟨D,h.kept hg hne,r⟩
theorem MapG.below {B:Nat}(h:MapG P k kl ok w b n m f)(hb:Below B w w')(hB:b<B):MapG P k kl ok w' b n m f:=by
 obtain ⟨D,⟨es,clock,hh,r1⟩,r⟩:=h
 exact ⟨D,⟨es,clock,(hb.block b hB).trans hh,r1⟩,r⟩
theorem MapG.on (h:MapG P k kl ok w b n m f)(hb:Below w.heap.size w w'):MapG P k kl ok w' b n m f:=h.below hb h.lt
theorem MapG.alloc (h:MapG P k kl ok w b n m f)(o:Obj):MapG P k kl ok (w.alloc o) b n m f:=by
 obtain ⟨D,h,r⟩:=h;exact ⟨D,h.alloc o,r⟩
theorem MapG.drewN (h:MapG P k kl ok w b n m f)(q:Nat):MapG P k kl ok (w.drewN q) b n m f:=h
theorem MapG.mono (h:MapG P k kl ok w b n m f){n':Nat}(hn:n≤n'):MapG P k kl ok w b n' m f:=by
 obtain ⟨D,h,r⟩:=h;exact ⟨D,h.mono hn,r⟩
theorem MapG.le (h:MapG P k kl ok w b n m f):m≤n:=by
 obtain ⟨D,h,rfl,_⟩:=h
 exact h.size_le
theorem MapG.look {t e:TypeId}(h:MapG P k kl ok w b n m f)(K:Maps.Keyed P k)(ht:P.underlying t=some (.map k e)){z:Value}(hz:(zeroValue e).run P w=.ok z w){key:Value}{s:κ}(hs:ok s)(hkey:keyOf P k key=some (kl s)) :
  (Instr.lookup t (.map (some b)) key false).run P w=.ok ((f s).getD z) w:=by
 obtain ⟨D,h,-,-,hat⟩:=h
 obtain ⟨v,ps,hrun,hv⟩:=h.lookup K ht hz (show rawE z=some (.held z,[]) from rfl) hkey
 rw [hat s z hs] at hv
 simp only [rawE,Option.some.injEq,Prod.mk.injEq,DataW.held.injEq] at hv
 rw [hrun,hv.1]
theorem MapG.look_ok {t e:TypeId}(h:MapG P k kl ok w b n m f)(K:Maps.Keyed P k)(ht:P.underlying t=some (.map k e)){z:Value}(hz:(zeroValue e).run P w=.ok z w){key:Value}{s:κ}(hs:ok s)(hkey:keyOf P k key=some (kl s)) :
  (Instr.lookup t (.map (some b)) key true).run P w=.ok (.tuple #[(f s).getD z,.bool (f s).isSome]) w:=by
 obtain ⟨D,h,-,hhas,hat⟩:=h
 obtain ⟨v,ps,hrun,hv⟩:=h.look_ok K ht hz (show rawE z=some (.held z,[]) from rfl) hkey
 rw [hat s z hs] at hv
 simp only [rawE,Option.some.injEq,Prod.mk.injEq,DataW.held.injEq] at hv
 rw [hrun,hv.1,hhas s hs]
theorem MapG.len {t e:TypeId}(h:MapG P k kl ok w b n m f)(ht:P.underlying t=some (.map k e))(ty:TypeId):(Builtin.len_ #[t] ty #[.map (some b)]).run P w=.ok (.int .i64 m) w:=by
 obtain ⟨D,h,rfl,_⟩:=h
 exact h.len ht ty
/-- What a store leaves. -/
def putMF [DecidableEq κ](f:κ→Option Value)(s:κ)(v:Value):κ→Option Value:=fun x=>if x=s then some v else f x
theorem MapG.store [DecidableEq κ]{t e:TypeId}(h:MapG P k kl ok w b n m f)(K:Maps.Keyed P k)(ht:P.underlying t=some (.map k e))(hn:n<maxLen)(hinj:∀ x y,ok x→ok y→kl x=kl y→x=y){key:Value}{s:κ}(hs:ok s)(hkey:keyOf P k key=some (kl s))(v:Value) :
  ∃ w',(Instr.mapUpdate t (.map (some b)) key v).run P w=.ok () w'∧MapG P k kl ok w' b (n+1) (if (f s).isSome then m else m+1) (putMF f s v)∧w.grownBy w' (some b):=by
 obtain ⟨D,h,rfl,hhas,hat⟩:=h
 obtain ⟨w',hrun,h',hg⟩:=h.update K ht hn hkey (show rawE v=some (.held v,[]) from rfl)
 have hk:=K.key hkey
 refine ⟨w',hrun,⟨_,h',?_,fun x hx=>?_,fun x z hx=>?_⟩,hg⟩
 ·rw [Maps.size_put (h.tidy K),hhas s hs]
 ·unfold putMF
  split
  ·rename_i e
   subst e
   rw [Maps.has_put_same h.isMap hk]
   rfl
  ·rename_i e
   rw [Maps.has_put_other (fun e'=>e (hinj _ _ hx hs e')),hhas x hx]
 ·unfold putMF
  split
  ·rename_i e
   subst e
   rw [Maps.atKey_put_same h.isMap hk]
   rfl
  ·rename_i e
   rw [Maps.atKey_put_other (fun e'=>e (hinj _ _ hx hs e')),hat x z hx]
end
/-- Maps of texts. -/
def strL (s:ByteArray):Lit:=.string s.data.toList
def strOk (s:ByteArray):Prop:=s.size≤maxLen
theorem strL_inj (x y:ByteArray)(_:strOk x)(_:strOk y)(h:strL x=strL y):x=y:=by
 unfold strL at h
 obtain ⟨⟨x⟩⟩:=x
 obtain ⟨⟨y⟩⟩:=y
 simpa using h
end
section
open Go.RowKit Go.Shelf Go.Sort

theorem le_bl (x y:List UInt8):decide (x≤y)=!Op.bytesLess y x:=by
 rw [bytesLess_eq]
 by_cases h:y<x
 ·rw [decide_eq_true h,decide_eq_false (fun hle=>hle h)]
  rfl
 ·rw [decide_eq_false h,decide_eq_true (show x≤y from h)]
  rfl
def baL (s:ByteArray):List UInt8:=s.data.toList
def baB (l:List UInt8):ByteArray:=⟨l.toArray⟩
theorem baB_baL (s:ByteArray):baB (baL s)=s:=by
 obtain ⟨⟨x⟩⟩:=s
 rfl
theorem enc_ba (s:ByteArray):encStr (baL s)=.string s:=congrArg Value.string (baB_baL s)
/-- What the sort makes of a list. -/
def sortT (l:List ByteArray):List ByteArray:=((l.map baL).mergeSort fun x y=>decide (x≤y)).map baB
theorem sortT_perm (l:List ByteArray):(sortT l).Perm l:=by
 have h:=(List.mergeSort_perm (l.map baL) (fun x y=>decide (x≤y))).map baB
 have e:(l.map baL).map baB=l:=by
  rw [List.map_map]
  conv=>rhs;rw [←List.map_id l]
  exact List.map_congr_left fun s _=>baB_baL s
 rwa [e] at h
theorem sortT_sorted (l:List ByteArray):(sortT l).Pairwise fun x y=>bl y x=false:=by
 have h:=List.pairwise_mergeSort (le:=fun x y:List UInt8=>decide (x≤y)) (fun a b c h1 h2=>by
   rw [le_bl] at *
   cases h3:Op.bytesLess c a
   ·rfl
   ·cases h4:Op.bytesLess b a
    ·cases h5:Op.bytesLess a b
     ·have:=bl_conn _ _ h4 h5
      subst this
      rw [h3] at h2
      cases h2
     ·have:=bl_trans _ _ _ h3 h5
      rw [this] at h2
      cases h2
    ·rw [h4] at h1
     cases h1) (fun a b=>by
   rw [le_bl,le_bl]
   cases h3:Op.bytesLess b a
   ·rfl
   ·cases h4:Op.bytesLess a b
    ·rfl
    ·have:=bl_trans _ _ _ h3 h4
     rw [bl_irr] at this
     cases this) (l.map baL)
 unfold sortT
 rw [List.pairwise_map]
 refine h.imp fun {x y} hxy=>?_
 rw [le_bl] at hxy
 unfold bl
 rw [Lib.toList_data,Lib.toList_data]
 simpa [baB] using hxy
theorem sortT_len (l:List ByteArray):(sortT l).length=l.length:=(sortT_perm l).length_eq
/-- A list without doubles, sorted, is its pool. -/
theorem sortT_pool {l:List ByteArray}(hd:l.Nodup):sortT l=poolL bl l:=by
 have hp:l.Perm (poolL bl l):=by
  refine (List.perm_ext_iff_of_nodup hd ?_).2 fun x=>(poolL_mem l x).symm
  exact (poolL_rise blT l).imp fun {x y} h=>blT.ne h
 exact perm_rising bl (poolL bl l) (sortT l) ((sortT_perm l).trans hp) (poolL_rise blT l) (sortT_sorted l)
theorem own_holdsS {w:World}{base g c:Nat}{e:TypeId}{l:List ByteArray}(h:w.ownsRow base e 1 (.slice (some ⟨g,0,none⟩) l.length c) l.length (l.map Value.string)):Holds encStr w g 0 (l.map baL).toArray∧g<w.heap.size:=by
 have h0:=h
 obtain ⟨h1,h2⟩:=h
 rcases h2 with ⟨h2,-⟩ | ⟨g',cap,cur,hv,hb,hh,hn,hm,hcs,hx⟩
 ·cases h2
 ·cases hv
  refine ⟨fun j hj=>?_,(Array.getElem?_eq_some_iff.1 hh).1⟩
  have hj2:j<(l.map baL).length:=by simpa using hj
  have hj3:j<l.length:=by simpa using hj2
  have e1:encStr (l.map baL).toArray[j]! = .string l[j]:=by
   rw [_root_.getElem!_pos _ j (by simpa using hj3)]
   simp only [List.getElem_toArray,List.getElem_map]
   exact enc_ba _
  have e2:(l.map Value.string)[j]?=some (.string l[j]):=by simp [hj3]
  rw [←hx,List.getElem?_take] at e2
  split at e2
  ·rw [Array.getElem?_toList] at e2
   constructor
   ·rw [e1]
    simp only [World.cell?,hh,Nat.zero_add]
    simpa using e2
   ·simp [World.frozen?,hh]
  ·cases e2
theorem putRow_block {w:World}(blk:Nat)(d:Array (List UInt8))(q:Nat)(os:Array Obj)(i:Nat)(hi:i<w.heap.size)(hne:i≠blk):(grow (putRow encStr (Sort.ahead w q) blk 0 d) os).heap[i]?=w.heap[i]?:=by
 simp only [grow,putRow,mapBlock,Sort.ahead]
 rw [Array.getElem?_append_left (by simpa using hi),Array.getElem?_modify,if_neg (fun e=>hne e.symm)]
theorem putRow_grown {w:World}(blk:Nat)(d:Array (List UInt8))(q:Nat)(os:Array Obj):w.grownBy (grow (putRow encStr (Sort.ahead w q) blk 0 d) os) (some blk) :=
 ⟨rfl,rfl,rfl,by simp [grow,putRow,mapBlock,Sort.ahead],fun i hi hne=>putRow_block blk d q os i hi (fun e=>hne (by rw [e]))⟩
theorem own_sortedS {w:World}{base g c n:Nat}{e:TypeId}{xs:List Value}{l:List ByteArray}(h:w.ownsRow base e 1 (.slice (some ⟨g,0,none⟩) n c) n xs)(hl:l.length=n)(q:Nat)(os:Array Obj) :
  (grow (putRow encStr (Sort.ahead w q) g 0 (l.map baL).toArray) os).ownsRow base e 1 (.slice (some ⟨g,0,none⟩) n c) n (l.map Value.string):=by
 obtain ⟨h1,h2⟩:=h
 refine ⟨by simp [hl],?_⟩
 rcases h2 with ⟨h2,-⟩ | ⟨g',cap,cur,hv,hb,hh,hn,hm,hcs,hx⟩
 ·cases h2
 ·cases hv
  have hg:g<w.heap.size:=(Array.getElem?_eq_some_iff.1 hh).1
  refine .inr ⟨g,c,putCells encStr 0 (l.map baL).toArray cur,rfl,hb,?_,hn,hm,by simp [putCells,hcs],?_⟩
  ·simp only [grow,putRow,mapBlock,Sort.ahead]
   rw [Array.getElem?_append_left (by simpa using hg),Array.getElem?_modify,if_pos rfl,hh]
   rfl
  ·apply List.ext_getElem?
   intro t
   rw [List.getElem?_take]
   split
   ·rename_i ht
    have ht2:t<l.length:=by omega
    have hc:t<cur.size:=by rw [hcs];omega
    rw [Array.getElem?_toList]
    simp only [putCells,Array.getElem?_mapIdx,Nat.zero_add,Nat.sub_zero,Nat.zero_le,true_and]
    rw [Array.getElem?_eq_getElem hc]
    simp only [Option.map_some,List.size_toArray,List.length_map]
    rw [if_pos ht2,_root_.getElem!_pos _ t (by simpa using ht2)]
    simp only [List.getElem_toArray,List.getElem_map]
    rw [enc_ba]
    simp [ht2]
   ·rename_i ht
    rw [List.getElem?_eq_none (by simp [hl];omega)]
def SortPost (base:Nat)(e:TypeId)(v:Value)(l:List ByteArray)(w:World)(en:Ending)(w':World):Prop:=en=.returned (.tuple #[])∧w'.ownsRow base e 1 v l.length ((sortT l).map Value.string)∧w.grownBy w' v.ownBlock
theorem sortS_any (v:Value)(l:List ByteArray)(w:World)(base:Nat)(e:TypeId)(ho:w.ownsRow base e 1 v l.length (l.map Value.string))(hl:l.length<4611686018427387904) :
  Calls Tryz.prog 42 #[v] w (SortPost base e v l w):=by
 rcases Nat.eq_zero_or_pos l.length with h0 | h0
 ·have hl0:l=[]:=List.eq_nil_of_length_eq_zero h0
  subst hl0
  obtain ⟨A,c,rfl,-,-,-⟩:=own_form ho
  exact (Go.Proofs.Any.slices_Sort_string_none sortS A c w).mono fun en w' ⟨h1,h2⟩=>by
   rw [h2]
   exact ⟨h1,by simpa [sortT] using ho,World.grownBy.refl w _⟩
 ·obtain ⟨h1,h2⟩:=id ho
  rcases h2 with ⟨-,h2⟩ | ⟨g,c,cur,rfl,-⟩
  ·simp at h2
   rw [h2] at h0
   simp at h0
  ·obtain ⟨hH,hg⟩:=own_holdsS ho
   have hcon:=Go.Proofs.Any.slices_Sort_string sortS g 0 c (l.map baL) w hH hg (by simpa using hl)
   rw [List.length_map] at hcon
   refine hcon.mono ?_
   rintro en w' ⟨h3,q,os,rfl⟩
   have e:((l.map baL).mergeSort fun x y=>decide (x≤y))=(sortT l).map baL:=by
    unfold sortT
    rw [List.map_map]
    conv=>lhs;rw [←List.map_id ((l.map baL).mergeSort fun x y=>decide (x≤y))]
    exact List.map_congr_left fun s _=>rfl
   rw [e]
   exact ⟨h3,own_sortedS ho (sortT_len l) q os,putRow_grown g _ q os⟩
end
section
open Go.RowKit

theorem law_str:Maps.Keyed Tryz.prog 9:=Maps.string_keyed Tryz.underlying9
abbrev MapS (w:World)(b n m:Nat)(f:ByteArray→Option Value):Prop:=MapG Tryz.prog 9 strL strOk w b n m f
theorem key_str {s:ByteArray}(h:s.size≤maxLen):keyOf Tryz.prog 9 (.string s)=some (strL s):=Go.WideMaps.keyOf_string_mk Tryz.underlying9 h
theorem zero_bool (w:World):(zeroValue 4).run Tryz.prog w=.ok (.bool false) w:=by kernel_rfl
theorem own_map {κ:Type}{P:Program}{k:TypeId}{kl:κ→Lit}{ok:κ→Prop}{w:World}{b n m:Nat}{f:κ→Option Value}{base:Nat}{e:TypeId}{size c:Nat}{v:Value}{xs:List Value}(h:MapG P k kl ok w b n m f)(ho:w.ownsRow base e size v c xs):v.ownBlock≠some b:=by
 obtain ⟨D,⟨es,clock,hb,_⟩,_⟩:=h
 obtain ⟨h1,h2⟩:=ho
 rcases h2 with ⟨rfl,-⟩ | ⟨g,cap,cur,rfl,-,hh,-⟩
 ·simp [Value.ownBlock]
 ·intro e
  simp only [Value.ownBlock,Option.some.injEq] at e
  subst e
  rw [hb] at hh
  cases hh
/-- What is read beside a map that is written. -/
theorem reads_map {κ:Type}{P:Program}{k:TypeId}{kl:κ→Lit}{ok:κ→Prop}{w w':World}{b n m B size c:Nat}{f:κ→Option Value}{A:Option Addr}{xs:List Value}(hm:MapG P k kl ok w b n m f)(h:Reads w B size A c xs)(hO:Only b w w')(hB:B≤w.heap.size):Reads w' B size A c xs:=by
 obtain ⟨D,⟨es,clock,hb,_⟩,_⟩:=hm
 refine ⟨h.1,fun hc=>?_⟩
 obtain ⟨ad,rfl,had,hcl⟩:=h.2 hc
 refine ⟨ad,rfl,had,fun j u hj=>?_⟩
 have h1:=hcl j u hj
 have hne:(ad.add j).block≠b:=fun e=>by
  simp [World.cell?,e,hb] at h1
 exact (World.cell?_of_block (hO.block _ (by rw [block_of_add];omega) (fun e=>hne (Option.some.inj e)))).trans h1
/-- Lists of texts, read. -/
def ListsT (w:World)(A:Option Addr)(ls:List (Value×List ByteArray)):Prop :=
 Reads w w.heap.size 1 A ls.length (ls.map (·.1))∧∀ x∈ls,Txts w w.heap.size x.1 x.2
def allT (ls:List (Value×List ByteArray)):List ByteArray:=ls.flatMap (·.2)
theorem ListsT.more {w w':World}{A:Option Addr}{ls:List (Value×List ByteArray)}(h:ListsT w A ls)(hb:Below w.heap.size w w'):ListsT w' A ls :=
 ⟨(h.1.below hb).more hb.size,fun x hx=>(h.2 x hx).on hb⟩
theorem str_one {l:List ByteArray}:∀ u∈l.map Value.string,u.oneCell'=true:=by
 intro u hu
 obtain ⟨x,-,rfl⟩:=List.mem_map.1 hu
 rfl
theorem lists_at {w:World}{A:Option Addr}{ls:List (Value×List ByteArray)}(h:ListsT w A ls):ListsAtS w A (ls.map fun x=>(x.1,x.2.length,x.2.map Value.string))∧sumLS (ls.map fun x=>(x.1,x.2.length,x.2.map Value.string))=(allT ls).length∧flatLS (ls.map fun x=>(x.1,x.2.length,x.2.map Value.string))=(allT ls).map Value.string:=by
 refine ⟨⟨by simpa [Function.comp_def] using h.1,fun x hx=>?_⟩,?_,?_⟩
 ·obtain ⟨y,hy,rfl⟩:=List.mem_map.1 hx
  exact ⟨h.2 y hy,str_one⟩
 ·clear h
  induction ls with
  | nil=>rfl
  | cons x ls ih=>simp only [sumLS,allT,List.map_cons,List.sum_cons,List.flatMap_cons,List.length_append] at ih ⊢;omega
 ·clear h
  induction ls with
  | nil=>rfl
  | cons x ls ih=>simp only [flatLS,allT,List.map_cons,List.flatMap_cons,List.map_append] at ih ⊢;rw [ih]
def PoolPost (l:List ByteArray)(w:World)(e:Ending)(w':World):Prop:=(∃ v,e=.returned v∧w'.ownsRow w.heap.size 9 1 v (poolL bl l).length ((poolL bl l).map Value.string))∧Below w.heap.size w w'
/-- The texts met so far, each once. -/
def MetT (l:List ByteArray)(p:Nat)(out:List ByteArray):Prop:=out.Nodup∧(∀ x,x∈out↔x∈l.take p)∧out.length≤p
def metB (out:List ByteArray)(s:ByteArray):Bool:=out.any fun x=>decide (x=s)
theorem metB_iff {out:List ByteArray}{s:ByteArray}:metB out s=true↔s∈out:=by simp [metB]
theorem metB_not {out:List ByteArray}{s:ByteArray}(h:s ∉ out):metB out s=false:=by
 cases e:metB out s
 ·rfl
 ·exact absurd (metB_iff.1 e) h
def metF (out:List ByteArray):ByteArray→Option Value:=fun s=>if metB out s=true then some (.bool true) else none
theorem metF_put (out:List ByteArray)(x:ByteArray):putMF (metF out) x (.bool true)=metF (out++[x]):=by
 funext s
 unfold putMF metF
 by_cases h:s=x
 ·rw [if_pos h,if_pos (metB_iff.2 (by simp [h]))]
 ·rw [if_neg h]
  by_cases h2:s∈out
  ·rw [if_pos (metB_iff.2 h2),if_pos (metB_iff.2 (by simp [h2]))]
  ·rw [if_neg (by simp [metB_not h2]),if_neg (by simp [metB_not (show s ∉ out++[x] by simp [h2,h])])]
theorem MetT.skip {l:List ByteArray}{p:Nat}{out:List ByteArray}{x:ByteArray}(h:MetT l p out)(hx:l[p]?=some x)(hm:x∈out):MetT l (p+1) out:=by
 refine ⟨h.1,fun y=>(h.2.1 y).trans ?_,Nat.le_succ_of_le h.2.2⟩
 rw [List.take_add_one,hx]
 simp only [Option.toList_some,List.mem_append,List.mem_singleton]
 exact ⟨.inl,fun hy=>hy.elim id fun e=>(h.2.1 y).1 (by rw [e];exact hm)⟩
theorem MetT.put {l:List ByteArray}{p:Nat}{out:List ByteArray}{x:ByteArray}(h:MetT l p out)(hx:l[p]?=some x)(hm:x ∉ out):MetT l (p+1) (out++[x]):=by
 refine ⟨List.nodup_append.2 ⟨h.1,by simp,fun a ha b hb e=>by simp at hb;subst hb;exact hm (by rw [←e];exact ha)⟩,fun y=>?_,by have:=h.2.2;simp;omega⟩
 rw [List.take_add_one,hx]
 simp only [Option.toList_some,List.mem_append,List.mem_singleton,h.2.1 y]
set_option maxHeartbeats 8000000 in
theorem pool_any (A:Option Addr)(c:Nat)(ls:List (Value×List ByteArray))(w:World)(hl:ListsT w A ls)(hn:(allT ls).length≤100000000)(hms:ls.length≤1000)(hsz:∀ x∈allT ls,x.size≤maxLen) :
  Calls Tryz.prog 66 #[.slice A ls.length c] w (PoolPost (allT ls) w):=by
 have hmm:=@run_makeMap Tryz.prog
 have HB0:=Lib.hid ((Below.refl _ w).alloc (Nat.le_refl _) (.map #[] 0))
 obtain ⟨h1,h2,h3⟩:=lists_at (hl.more ((Below.refl _ w).alloc (Nat.le_refl _) (.map #[] 0)))
 have HC:=Lib.hid (concat_anyS A ls.length c _ (w.alloc (.map #[] 0)) (by simp) h1 (by rw [h2];exact hn) hms)
 have HFL:=Lib.hid (And.intro h2 h3)
 have HM0:=Lib.hid (show MapS (w.alloc (.map #[] 0)) w.heap.size 0 0 (metF []) from by
  have:=MapG.made w Tryz.prog 9 strL strOk
  have e:metF []=fun _=>none:=by funext s;simp [metF,metB]
  rw [e]
  exact this)
 have HSZ:=Lib.hid hsz
 have hm1:(ls.length:Int)≤1000:=by omega
 clear h1 h2 h3 hl hsz
 generalize allT ls=l at *
 obtain ⟨i0,hi0,hz0,hz1,hz2⟩:=info_parts str_info
 go_enter Tryz.func66,Tryz.ntmps66
 go_wp2_with (go_at_call 89;go_loud (refine HC.out.mono ?_;rintro en w1 ⟨v1,rfl,ho1,hb1⟩;rw [HFL.out.1,HFL.out.2] at ho1;obtain ⟨A1,c1,rfl,hc1,hm1,hr1⟩:=own_form ho1;have HB1:=Lib.hid hb1;have HR1:=Lib.hid hr1;clear ho1 hb1 hr1 hc1 hm1))
 clear hmm HC HFL
 have HMP:=Lib.hid (HM0.out.on HB1.out)
 have HBB:=Lib.hid (show Below w.heap.size w w1 from HB0.out.trans (HB1.out.mono (by simp)))
 clear HM0 HB0 HB1
 generalize hn0:l.length=n at *
 have HN:=Lib.hid hn0
 have hn1:(n:Int)≤100000000:=by omega
 clear hn0
 obtain ⟨w0,hw0⟩:∃ w0,w0=w:=⟨_,rfl⟩
 go_loopw [4,11] (fun ov iv wr=>∃(p:Nat) (out:List ByteArray),iv=.int .i64 (p:Int)∧p≤n∧MetT l p out∧wr.ownsRow w1.heap.size 9 1 ov out.length (out.map Value.string)∧MapS wr w.heap.size p out.length (metF out)∧Only w.heap.size w1 wr) (fun _ iv _=>n-(Lib.intOf iv).toNat)
 case atStart=>exact ⟨0,[],rfl,Nat.zero_le _,⟨List.nodup_nil,fun x=>by simp,Nat.le_refl _⟩,World.ownsRow_nil _ _ _ _,HMP.out,Only.refl _ _⟩
 case round =>
  obtain ⟨p,out,rfl,hp,hME,hO,hM,hOn⟩:=hrel
  have HME:=Lib.hid hME
  have HO:=Lib.hid hO
  have HM:=Lib.hid hM
  have HON:=Lib.hid hOn
  clear hME hO hM hOn
  have hol:(out.length:Int)≤100000000:=by have:=HME.out.2.2;omega
  by_cases hlt:p<n
  ·obtain ⟨x,hx⟩:=at_lt (l:=l) (p:=p) (by have:=HN.out;omega)
   have hq:(p:Int)<(n:Int):=by omega
   obtain ⟨b1,o1,rfl,hb1,hcl1⟩:=(reads_map HMP.out HR1.out HON.out (Nat.le_refl _)).spot (by omega) (by omega)
   have r0:=hcl1 _ _ (str_at hx)
   have hsx:x.size≤maxLen:=HSZ.out x (List.mem_of_getElem? hx)
   have HX:=Lib.hid hx
   have hlk:=HM.out.look law_str Tryz.underlying152 (zero_bool wr) hsx (key_str hsx)
   clear hcl1 hx
   by_cases hxo:x∈out
   ·have HXO:=Lib.hid hxo
    rw [show (metF out x).getD (.bool false)=.bool true by simp [metF,metB_iff.2 hxo]] at hlk
    clear hxo hsx
    go_wp2
    go_roundw
    case rel=>exact ⟨p+1,out,by go_num,hlt,HME.out.skip HX.out HXO.out,HO.out,HM.out.mono (Nat.le_succ _),HON.out⟩
    case measure=>simp [Lib.intOf];omega
   ·have HXO:=Lib.hid hxo
    rw [show (metF out x).getD (.bool false)=.bool false by simp [metF,metB_not hxo]] at hlk
    obtain ⟨w2,hrun,hM2,hg2⟩:=HM.out.store law_str Tryz.underlying152 (by simp only [maxLen];omega) strL_inj hsx (key_str hsx) (.bool true)
    rw [metF_put,show (metF out x).isSome=false by simp [metF,metB_not hxo]] at hM2
    have HM2:=Lib.hid hM2
    have HG2:=Lib.hid hg2
    have HO2:=Lib.hid (HO.out.kept hg2 (.inr (own_map HM.out HO.out)))
    clear hxo hsx hM2 hg2
    have HA:=Lib.hid (And.intro (HO2.out.alloc (.cells #[.string x] 9)) (And.intro (reads_new w2 #[.string x] 9 1 1 rfl) (show w1.heap.size≤(w2.alloc (.cells #[.string x] 9)).heap.size by have:=HON.out.size;have:=HG2.out.size;simp;omega)))
    go_wp2_with (at_builtin;go_loud (refine wpList_append_any _ rfl (.tmp 21) (.tmp 23) _ rfl w1.heap.size 9 i0 _ 1 16 Tryz.underlying37 hi0 hz0 hz1 hz2 rfl (by omega) _ out.length (out.map Value.string) rfl HA.out.1 (w2.heap.size+1) (some ⟨w2.heap.size,0,none⟩) 1 1 [.string x] rfl HA.out.2.1 (by simp [Value.oneCell']) (by simp only [maxLen];omega) (by omega) HA.out.2.2 ?_);intro v3 w3 hown3 hg3 hat3;have HOW:=Lib.hid hown3;have HG:=Lib.hid hg3;clear hown3 hg3 hat3)
    go_roundw
    case rel =>
     refine ⟨p+1,out++[x],by go_num,hlt,HME.out.put HX.out HXO.out,by simpa using HOW.out,?_,?_⟩
     ·have:=(HM2.out.alloc (.cells #[.string x] 9)).kept HG.out (fun e=>own_map (HM2.out.alloc (.cells #[.string x] 9)) HA.out.1 e.symm)
      simpa using this
     ·have h1:Only w.heap.size w1 w2:=HON.out.trans HG2.out
      have h2:=h1.alloc (.cells #[.string x] 9)
      refine ⟨HG.out.os.trans h2.os,HG.out.tape.trans h2.tape,HG.out.output.trans h2.output,Nat.le_trans h2.size HG.out.size,fun k hk hne=>(HG.out.block k (Nat.lt_of_lt_of_le hk h2.size) (fun e=>?_)).trans (h2.block k hk hne)⟩
      have:=(HA.out.1.lt k e.symm).1
      omega
    case measure=>simp [Lib.intOf];omega
  ·obtain rfl:p=n:=by omega
   have hq:¬ (p:Int)<(p:Int):=by omega
   have HPE:=Lib.hid (show sortT out=poolL bl l from (sortT_pool HME.out.1).trans (poolL_congr blT fun x=>by rw [HME.out.2.1 x,List.take_of_length_le (by rw [HN.out];exact Nat.le_refl _)]))
   have HPL:=Lib.hid (show (poolL bl l).length=out.length by rw [←HPE.out,sortT_len])
   have HS:=Lib.hid (fun v (h:wr.ownsRow w1.heap.size 9 1 v out.length (out.map Value.string))=>sortS_any v out wr w1.heap.size 9 h (by omega))
   go_wp2_with (go_at_call 42;go_loud (refine (HS.out _ HO.out).mono ?_;rintro en w3 ⟨rfl,ho3,hg3⟩;rw [HPE.out] at ho3;have HO3:=Lib.hid ho3;have HG3:=Lib.hid hg3;clear ho3 hg3))
   go_ret
   refine ⟨⟨_,rfl,by rw [HPL.out];exact own_base HO3.out HBB.out.size⟩,?_⟩
   have h1:Below w.heap.size w wr:=⟨HON.out.os.trans HBB.out.os,HON.out.tape.trans HBB.out.tape,HON.out.output.trans HBB.out.output,Nat.le_trans HBB.out.size HON.out.size,fun k hk=>(HON.out.block k (Nat.lt_of_lt_of_le hk HBB.out.size) (fun e=>by cases e;omega)).trans (HBB.out.block k hk)⟩
   exact h1.grown HG3.out h1.size (fun k hk=>Nat.le_trans HBB.out.size (HO.out.lt k hk).1)
end
section
open Go.RowKit Go.Shelf Go.Sort

def cmpU (a b:Int):Int:=if a<b then -1 else if b<a then 1 else 0
def cmpR (x y:Int×Int):Int:=if rl x y=true then -1 else if x=y then 0 else 1
theorem cmpR_eq (x y:Int×Int):cmpR x y=if cmpU x.1 y.1≠0 then cmpU x.1 y.1 else cmpU x.2 y.2:=by
 unfold cmpR cmpU
 by_cases h1:x.1<y.1
 ·rw [if_pos (rl_iff.2 (.inl h1)),if_pos h1]
  simp
 ·by_cases h2:y.1<x.1
  ·rw [if_neg (by rw [rl_iff];omega),if_neg h1,if_pos h2,if_neg (fun e=>by rw [e] at h2;omega)]
   simp
  ·rw [if_neg h1,if_neg h2]
   simp only [ne_eq,not_true_eq_false,if_false]
   by_cases h3:x.2<y.2
   ·rw [if_pos (rl_iff.2 (.inr ⟨by omega,h3⟩)),if_pos h3]
   ·rw [if_neg (by rw [rl_iff];omega),if_neg h3]
    by_cases h4:y.2<x.2
    ·rw [if_pos h4,if_neg (fun e=>by rw [e] at h4;omega)]
    ·rw [if_neg h4,if_pos (Prod.ext (by omega) (by omega))]
theorem cmpR_zero {x y:Int×Int}:cmpR x y=0↔x=y:=by
 unfold cmpR
 constructor
 ·intro h
  split at h
  ·omega
  ·split at h
   ·assumption
   ·omega
 ·rintro rfl
  rw [rlT.irr]
  simp
theorem cmpR_self (x:Int×Int):cmpR x x=0:=cmpR_zero.2 rfl
theorem cmpR_neg {x y:Int×Int}:decide (cmpR x y<0)=rl x y:=by
 unfold cmpR
 cases h:rl x y
 ·simp only [Bool.false_eq_true,if_false]
  split <;> simp
 ·simp
/-- The order of tables, as a number. -/
def cmpT (a b:List (Int×Int)):Int:=if lexL rl a b=true then -1 else if a=b then 0 else 1
theorem lexL_prefix {α:Type}[DecidableEq α](lt:α→α→Bool)(a x y:List α):lexL lt (a++x) (a++y)=lexL lt x y:=by
 induction a with
 | nil=>rfl
 | cons z a ih=>simpa [lexL] using ih
theorem cmpT_prefix (a x y:List (Int×Int)):cmpT (a++x) (a++y)=cmpT x y:=by
 unfold cmpT
 rw [lexL_prefix]
 simp
theorem cmpT_cons (x y:Int×Int)(l m:List (Int×Int)):cmpT (x::l) (y::m)=if x=y then cmpT l m else cmpR x y:=by
 by_cases h:x=y
 ·subst h
  have:=cmpT_prefix [x] l m
  simpa using this
 ·unfold cmpT cmpR
  simp only [lexL,if_neg h]
  have:¬ (x::l=y::m):=fun e=>h (by injection e)
  rw [if_neg this]
theorem cmpT_at {l m:List (Int×Int)}{p:Nat}{x y:Int×Int}(h:l.take p=m.take p)(hx:l[p]?=some x)(hy:m[p]?=some y)(hne:x≠y):cmpT l m=cmpR x y:=by
 obtain ⟨h1,e1⟩:=List.getElem?_eq_some_iff.1 hx
 obtain ⟨h2,e2⟩:=List.getElem?_eq_some_iff.1 hy
 have e3:l=m.take p++x::l.drop (p+1):=by
  rw [←h,←e1,←List.drop_eq_getElem_cons h1,List.take_append_drop]
 have e4:m=m.take p++y::m.drop (p+1):=by
  rw [←e2,←List.drop_eq_getElem_cons h2,List.take_append_drop]
 have:=cmpT_prefix (m.take p) (x::l.drop (p+1)) (y::m.drop (p+1))
 rw [←e3,←e4] at this
 rw [this,cmpT_cons,if_neg hne]
theorem cmpT_some (x:Int×Int)(r:List (Int×Int)):cmpT (x::r) []=1:=by simp [cmpT,lexL]
theorem cmpT_none (x:Int×Int)(r:List (Int×Int)):cmpT [] (x::r)=-1:=by simp [cmpT,lexL]
theorem cmpT_short {l m:List (Int×Int)}{p:Nat}(h:l.take p=m.take p)(hm:m.length≤p)(hl:p<l.length):cmpT l m=1:=by
 have e:l=m++l[p]::l.drop (p+1):=by
  rw [←List.drop_eq_getElem_cons hl]
  conv=>lhs;rw [←List.take_append_drop p l,h,List.take_of_length_le hm]
 have:=cmpT_prefix m (l[p]::l.drop (p+1)) []
 rw [List.append_nil,←e] at this
 rw [this,cmpT_some]
theorem cmpT_long {l m:List (Int×Int)}{p:Nat}(h:l.take p=m.take p)(hl:l.length≤p)(hm:p<m.length):cmpT l m=-1:=by
 have e:m=l++m[p]::m.drop (p+1):=by
  rw [←List.drop_eq_getElem_cons hm]
  conv=>lhs;rw [←List.take_append_drop p m,←h,List.take_of_length_le hl]
 have:=cmpT_prefix l [] (m[p]::m.drop (p+1))
 rw [List.append_nil,←e] at this
 rw [this,cmpT_none]
theorem cmpT_self (l:List (Int×Int)):cmpT l l=0:=by
 unfold cmpT
 rw [(lexT rlT).irr]
 simp
theorem cmpT_zero {l m:List (Int×Int)}:cmpT l m=0↔l=m:=by
 unfold cmpT
 constructor
 ·intro h
  split at h
  ·omega
  ·split at h
   ·assumption
   ·omega
 ·rintro rfl
  rw [(lexT rlT).irr]
  simp
/-- The order of tables. -/
abbrev tl:List (Int×Int)→List (Int×Int)→Bool:=lexL rl
theorem tlT:TotalLt tl:=lexT rlT
/-- A world that has only grown. -/
def Grew (w w':World):Prop:=∃ q os,w'=grow (w.drewN q) os
theorem Grew.refl (w:World):Grew w w:=⟨0,#[],by rw [grow_empty];rfl⟩
theorem grow_drewN (w:World)(q:Nat)(os:Array Obj):(grow w os).drewN q=grow (w.drewN q) os:=rfl
theorem Grew.trans {a b c:World}(h:Grew a b)(k:Grew b c):Grew a c:=by
 obtain ⟨q,os,rfl⟩:=h
 obtain ⟨q',os',rfl⟩:=k
 refine ⟨q+q',os++os',?_⟩
 rw [grow_drewN,World.drewN_drewN]
 simp [grow,Array.append_assoc]
theorem Grew.alloc {a b:World}(h:Grew a b)(o:Obj):Grew a (b.alloc o):=h.trans ⟨0,#[o],by rw [alloc_eq_grow];rfl⟩
theorem Grew.drewN {a b:World}(h:Grew a b)(q:Nat):Grew a (b.drewN q):=h.trans ⟨q,#[],by rw [grow_empty]⟩
theorem Grew.drew {a b:World}(h:Grew a b):Grew a b.drew:=h.drewN 1
theorem Grew.below {a b:World}(h:Grew a b):Below a.heap.size a b:=by
 obtain ⟨q,os,rfl⟩:=h
 exact below_grown_sl _ a q os (Nat.le_refl _)
end
section
open Go.RowKit

abbrev RowI:=Int×Int
def rowCells (l:List RowI):List Value:=l.flatMap fun r=>[.int .u32 r.1,.int .u32 r.2]
theorem rowCells_len (l:List RowI):(rowCells l).length=l.length*2:=by
 induction l with
 | nil=>rfl
 | cons x l ih=>simp only [rowCells,List.flatMap_cons,List.length_append,List.length_cons,List.length_nil] at ih ⊢;omega
theorem rowCells_at {l:List RowI}{i:Nat}{x:RowI}(h:l[i]?=some x):(rowCells l)[i*2]?=some (.int .u32 x.1)∧(rowCells l)[i*2+1]?=some (.int .u32 x.2):=by
 induction l generalizing i with
 | nil=>simp at h
 | cons y l ih =>
  cases i with
  | zero=>simp at h;subst h;simp [rowCells]
  | succ i =>
   simp only [List.getElem?_cons_succ] at h
   have:=ih h
   rw [show (i+1)*2=i*2+1+1 by omega]
   simpa [rowCells] using this
theorem rowCells_append (l m:List RowI):rowCells (l++m)=rowCells l++rowCells m:=by simp [rowCells]
theorem rowCells_one {l:List RowI}:∀ u∈rowCells l,u.oneCell'=true:=by
 intro u hu
 obtain ⟨r,-,hr⟩:=List.mem_flatMap.1 hu
 simp only [List.mem_cons,List.mem_nil_iff,or_false] at hr
 rcases hr with rfl | rfl <;> rfl
/-- A table, read. -/
def RowsR (w:World)(B:Nat)(v:Value)(l:List RowI):Prop:=∃ A c,v=.slice A l.length c∧l.length≤c∧c≤maxLen∧Reads w B 2 A l.length (rowCells l)
theorem RowsR.below {w w':World}{B:Nat}{v:Value}{l:List RowI}(h:RowsR w B v l)(hb:Below B w w'):RowsR w' B v l:=by
 obtain ⟨A,c,e,h1,h2,h3⟩:=h
 exact ⟨A,c,e,h1,h2,h3.below hb⟩
theorem RowsR.more {w:World}{B B':Nat}{v:Value}{l:List RowI}(h:RowsR w B v l)(hB:B≤B'):RowsR w B' v l:=by
 obtain ⟨A,c,e,h1,h2,h3⟩:=h
 exact ⟨A,c,e,h1,h2,Reads.more h3 hB⟩
theorem RowsR.on {w w':World}{v:Value}{l:List RowI}(h:RowsR w w.heap.size v l)(hb:Below w.heap.size w w'):RowsR w' w'.heap.size v l:=(h.below hb).more hb.size
theorem rows_of_own {w:World}{base:Nat}{e:TypeId}{v:Value}{l:List RowI}(h:w.ownsRow base e 2 v l.length (rowCells l)):RowsR w w.heap.size v l:=own_form h
/-- Do keys rise? -/
def kl (a b:RowI):Bool:=decide (a.1<b.1)
theorem kl_tr (a b c:RowI)(h1:kl a b=true)(h2:kl b c=true):kl a c=true:=by
 simp only [kl,decide_eq_true_eq] at *
 omega
set_option maxHeartbeats 2000000 in
theorem istable_any (v:Value)(l:List RowI)(w:World)(h:RowsR w w.heap.size v l) :
  Calls Tryz.prog 95 #[v] w (QPost (fun r=>r=.bool (decide (RiseL kl l))) w):=by
 obtain ⟨A,c,rfl,hc,hm,hR⟩:=h
 have HR:=Lib.hid hR
 unfold maxLen at hm
 clear hR
 generalize hn:l.length=n at *
 have HN:=Lib.hid hn
 have hn1:(n:Int)≤9223372036854775807:=by omega
 clear hn hc
 go_enter Tryz.func95,Tryz.ntmps95
 go_wp2
 go_loopw [3] (fun iv wr=>∃ p q:Nat,iv=.int .i64 ((p:Int)+1)∧p≤n∧(∀(j:Nat) (x y:RowI),j<p→l[j]?=some x→l[j+1]?=some y→kl x y=true)∧wr=w.drewN q) (fun iv _=>(n+2)-(Lib.intOf iv).toNat)
 case atStart=>exact ⟨0,0,rfl,Nat.zero_le _,fun j x y h=>absurd h (by omega),rfl⟩
 case round =>
  obtain ⟨p,q,rfl,hp,hT,rfl⟩:=hrel
  have HT:=Lib.hid hT
  clear hT
  by_cases hlt:p+1<n
  ·obtain ⟨x,hx⟩:=at_lt (l:=l) (p:=p) (by have:=HN.out;omega)
   obtain ⟨y,hy⟩:=at_lt (l:=l) (p:=p+1) (by have:=HN.out;omega)
   have hq:(p:Int)+1<(n:Int):=by omega
   obtain ⟨b1,o1,rfl,hb1,hcl1⟩:=HR.out.spot (by omega) (by omega)
   have r0:=hcl1 _ _ (rowCells_at hx).1
   have r1:w.cell? ⟨b1,o1+(p+1)*2,none⟩=some (.int .u32 y.1):=hcl1 _ _ (rowCells_at hy).1
   have hs1:IntKind.i64.wrap ((p:Int)+1-1)=(p:Int):=by rw [IntKind.wrap_i64];omega
   have hs2:((p:Int)+1).toNat=p+1:=by omega
   have hs3:(0:Int)≤(p:Int)+1:=by omega
   have hs4:(p:Int)<(n:Int):=by omega
   have HX:=Lib.hid (And.intro hx hy)
   clear hcl1 hx hy
   by_cases hb:x.1<y.1
   ·have HB:=Lib.hid (show kl x y=true by simpa [kl] using hb)
    have hb2:¬ y.1≤x.1:=by omega
    have hb3:decide (y.1≤x.1)=false:=by simpa using hb
    clear hb
    go_upto_region 5 with (fail)
    go_quiet (fail)
    go_wp2
    go_roundw
    case rel =>
     refine ⟨p+1,q+nq,by go_num,by omega,fun j a b hj ha hb=>?_,rfl⟩
     rcases Nat.lt_or_ge j p with h | h
     ·exact HT.out j a b h ha hb
     ·obtain rfl:j=p:=by omega
      rw [HX.out.1] at ha
      rw [HX.out.2] at hb
      cases ha
      cases hb
      exact HB.out
    case measure=>simp [Lib.intOf];omega
   ·have HNR:=Lib.hid (show decide (RiseL kl l)=false by
     rw [decide_eq_false_iff_not]
     intro hr
     have:=rise_at hr HX.out.1 HX.out.2 (by omega)
     simp only [kl,decide_eq_true_eq] at this
     omega)
    have hb2:y.1≤x.1:=by omega
    have hb3:decide (y.1≤x.1)=true:=by simpa using hb2
    clear hb
    go_upto_region 5 with (fail)
    go_quiet (fail)
    go_wp2
    go_ret
    exact ⟨_,q+nq,rfl,(show Value.bool false=_ from congrArg Value.bool HNR.out.symm),by rw [World.drewN_drewN]⟩
  ·have hq:¬ (p:Int)+1<(n:Int):=by omega
   have HYR:=Lib.hid (show decide (RiseL kl l)=true by
    rw [decide_eq_true_iff]
    refine rise_of_adj kl_tr l fun j x y hx hy=>?_
    have:=(List.getElem?_eq_some_iff.1 hy).1
    have:=HN.out
    exact HT.out j x y (by omega) hx hy)
   go_wp2
   go_ret
   exact ⟨_,_,rfl,(show Value.bool true=_ from congrArg Value.bool HYR.out.symm),rfl⟩

end
section
open Go.RowKit

/-- What is not less stands behind. -/
def SortedR (l:List RowI):Prop:=l.Pairwise fun x y=>rl y x=false
/-- A list without neighbours that are alike. -/
def compF {α:Type}[DecidableEq α](a:List α)(x:α):List α:=if a.getLast?=some x then a else a++[x]
def compL {α:Type}[DecidableEq α](l:List α):List α:=l.foldl compF []
section
variable {α:Type} [DecidableEq α]
theorem compL_snoc (l:List α)(x:α):compL (l++[x])=compF (compL l) x:=by simp [compL,List.foldl_append]
theorem compF_last (a:List α)(x:α):(compF a x).getLast?=some x:=by
 unfold compF
 split
 ·assumption
 ·simp
theorem compL_last (l:List α):(compL l).getLast?=l.getLast?:=by
 rcases List.eq_nil_or_concat l with rfl | ⟨m,x,rfl⟩
 ·rfl
 ·rw [List.concat_eq_append,compL_snoc,compF_last]
  simp
theorem compL_mem (l:List α):∀ x,x∈compL l↔x∈l:=by
 have h:∀(n:Nat) (l:List α),l.length=n→∀ x,x∈compL l↔x∈l:=by
  intro n
  induction n with
  | zero=>intro l hl x;rw [List.length_eq_zero_iff.1 hl];simp [compL]
  | succ n ih =>
   intro l hl x
   rcases List.eq_nil_or_concat l with rfl | ⟨m,y,rfl⟩
   ·simp [compL]
   ·rw [List.concat_eq_append] at hl ⊢
    have hm:m.length=n:=by simpa using hl
    rw [compL_snoc]
    unfold compF
    split
    ·rename_i e
     rw [ih m hm x]
     simp only [List.mem_append,List.mem_singleton]
     refine ⟨.inl,fun h=>h.elim id fun e2=>?_⟩
     rw [compL_last] at e
     rw [e2]
     exact List.mem_of_getLast? e
    ·simp [ih m hm x]
 exact h _ l rfl
/-- One more, by its neighbour. -/
theorem compL_step {l:List α}{j:Nat}{x y:α}(hx:l[j]?=some x)(hy:l[j+1]?=some y):compL (l.take (j+2))=if x=y then compL (l.take (j+1)) else compL (l.take (j+1))++[y]:=by
 have hl:(compL (l.take (j+1))).getLast?=some x:=by
  rw [compL_last,List.take_add_one,hx]
  simp
 rw [show j+2=(j+1)+1 by omega,List.take_add_one,hy]
 simp only [Option.toList_some]
 rw [compL_snoc]
 unfold compF
 rw [hl]
 by_cases h:x=y
 ·simp [h]
 ·rw [if_neg (fun e=>h (Option.some.inj e)),if_neg h]
theorem compL_one {l:List α}{x:α}(hx:l[0]?=some x):compL (l.take 1)=[x]:=by
 rw [show (1:Nat)=0+1 from rfl,List.take_add_one,hx]
 simp [compL,compF]
/-- All neighbours unlike. -/
theorem compL_all {l:List α}:∀(k:Nat),k≤l.length→(∀(j:Nat) (x y:α),j+1<k→l[j]?=some x→l[j+1]?=some y→x≠y)→compL (l.take k)=l.take k
 | 0,_,_=>by simp [compL]
 | 1,h,_=>by
  obtain ⟨x,hx⟩:=at_lt (l:=l) (p:=0) (by omega)
  rw [compL_one hx,show (1:Nat)=0+1 from rfl,List.take_add_one,hx]
  simp
 | k+2,h,hn=>by
  obtain ⟨x,hx⟩:=at_lt (l:=l) (p:=k) (by omega)
  obtain ⟨y,hy⟩:=at_lt (l:=l) (p:=k+1) (by omega)
  rw [compL_step hx hy,if_neg (hn k x y (by omega) hx hy),compL_all (k+1) (by omega) (fun j x y hj=>hn j x y (by omega)),List.take_add_one (i:=k+1),hy]
  simp
end
theorem comp_rise {l:List RowI}(h:SortedR l):RiseL rl (compL l):=by
 have key:∀(n:Nat) (l:List RowI),l.length=n→SortedR l→RiseL rl (compL l):=by
  intro n
  induction n with
  | zero=>intro l hl _;rw [List.length_eq_zero_iff.1 hl];exact List.Pairwise.nil
  | succ n ih =>
   intro l hl hs
   rcases List.eq_nil_or_concat l with rfl | ⟨m,y,rfl⟩
   ·exact List.Pairwise.nil
   ·rw [List.concat_eq_append] at hl hs ⊢
    have hm:m.length=n:=by simpa using hl
    obtain ⟨h1,h2,h3⟩:=List.pairwise_append.1 hs
    have hr:=ih m hm h1
    rw [compL_snoc]
    unfold compF
    split
    ·exact hr
    ·rename_i hne
     refine List.pairwise_append.2 ⟨hr,List.pairwise_singleton _ _,fun a ha b hb=>?_⟩
     simp only [List.mem_singleton] at hb
     subst hb
     have ham:=(compL_mem m a).1 ha
     have h4:=h3 a ham b (by simp)
     have hab:a≠b:=by
      intro e
      subst e
      apply hne
      rw [compL_last]
      obtain ⟨z,hz⟩:∃ z,m.getLast?=some z:=by
       cases hg:m.getLast? with
       | none=>rw [List.getLast?_eq_none_iff.1 hg] at ham;cases ham
       | some z=>exact ⟨z,rfl⟩
      rw [hz]
      have hzm:z∈m:=List.mem_of_getLast? hz
      have h5:=h3 z hzm a (by simp)
      by_cases e:a=z
      ·rw [e]
      ·exfalso
       obtain ⟨i,hi,e1⟩:=List.mem_iff_getElem.1 ham
       have hzl:m[m.length-1]?=some z:=by rw [←List.getLast?_eq_getElem?];exact hz
       have hii:i<m.length-1:=by
        rcases Nat.lt_or_ge i (m.length-1) with h | h
        ·exact h
        ·have:i=m.length-1:=by omega
         subst this
         rw [List.getElem?_eq_getElem hi,e1] at hzl
         exact absurd (Option.some.inj hzl) e
       obtain ⟨hzl1,e2⟩:=List.getElem?_eq_some_iff.1 hzl
       have h6:=List.pairwise_iff_getElem.1 h1 i (m.length-1) hi hzl1 hii
       rw [e1,e2] at h6
       exact e (rlT.conn a z h5 h6)
     exact rlT.flip h4 (fun e=>hab e.symm)
 exact key _ l rfl h
theorem comp_pool {l l':List RowI}(h:SortedR l')(hm:∀ x,x∈l'↔x∈l):compL l'=poolL rl l :=
 poolL_eq rlT (comp_rise h) fun x=>(compL_mem l' x).trans (hm x)
/-- Neighbours of one key in what rises. -/
theorem kl_of_adj {l:List RowI}(h:RiseL rl l)(hn:∀(j:Nat) (x y:RowI),l[j]?=some x→l[j+1]?=some y→x.1≠y.1):RiseL kl l :=
 rise_of_adj kl_tr l fun j x y hx hy=>by
  have h1:=rise_at h hx hy (by omega)
  have h2:=hn j x y hx hy
  rw [rl_iff] at h1
  simp only [kl,decide_eq_true_eq]
  omega
end
section
open Go.RowKit Go.ChangeShapes Go.WideShapes Go.Deep
section
variable {H:Type} {enc:TypeId×Value→H} {P:Program} {w:World} {base:Nat} {spare:Nat→Bool} {held:Bool}
theorem open_slice_fields {t e:TypeId}{fs:Array Field}{fuel:Nat}{cs:List Value}{x:DataW H×List MemPlace}(ht:P.underlying t=some (.slice e))(he:P.underlying e=some (.struct fs))
  (hone:oneCellFields P fs=true)(hC:P.cellsOf e=fs.size)(h:DataW.trod enc P w base spare held fuel t cs=some x) :
  (cs=[.slice none 0 0]∧x=(.nil,[])) ∨
  ∃(a:Addr) (len cap m:Nat) (D:Nat→DataW H) (Pl:Nat→List MemPlace),cs=[.slice (some a) len cap]∧base≤a.block∧len≤cap∧cap≤maxLen∧m=(if spare a.block then cap else len) ∧
   x=(.slice ((List.range len).map D) ((List.range (m-len)).map fun j=>D (len+j)),MemPlace.row a (m*fs.size)++(List.range m).flatMap Pl) ∧
   ∀ i,i<m→∃(ys:List (DataW H×List MemPlace)) (n:Nat),D i=.agg (ys.map (·.1))∧Pl i=ys.flatMap (·.2)∧ys.length=fs.size ∧
    ∀(j:Nat) (f:Field),fs[j]?=some f→∃(v:Value) (y:DataW H×List MemPlace),w.cell? (a.add (i*fs.size+j))=some v∧ys[j]?=some y∧DataW.trod enc P w base spare held n f.type [v]=some y:=by
 rcases open_slice ht h with h0 | ⟨a,len,cap,m,n,D,Pl,hcs,hb,hl,hm,hmm,hx,hi⟩
 ·exact .inl h0
 ·refine .inr ⟨a,len,cap,m,D,Pl,hcs,hb,hl,hm,hmm,by rw [hC] at hx;exact hx,fun i him=>?_⟩
  obtain ⟨cs',hc,ht'⟩:=hi i him
  rw [hC] at hc
  obtain ⟨ys,n',hn',hy,hlen,hyl,hf⟩:=DataW.trod_struct he ht'
  obtain ⟨_,hcl,hat⟩:=World.cells?_some hc
  simp only [Prod.mk.injEq] at hy
  refine ⟨ys,n',hy.1,hy.2,hyl,fun j f hj=>?_⟩
  obtain ⟨ho,hk⟩:=hone_of hone j f hj
  have hjl:j<fs.size:=(Array.getElem?_eq_some_iff.1 hj).1
  have hcell:=hat j hjl
  have hv:cs'[j]?=some (cs'[j]'(by omega)):=List.getElem?_eq_getElem (by omega)
  have h1:=hf j f hj
  rw [ho,hk] at h1
  have hone':(cs'.drop j).take 1=[cs'[j]'(by omega)]:=by
   rw [List.drop_eq_getElem_cons (by omega)]
   rfl
  rw [hone'] at h1
  have hys:ys[j]?=some (ys[j]'(by omega)):=List.getElem?_eq_getElem (by omega)
  refine ⟨_,_,?_,hys,h1.trans hys⟩
  rw [←Go.Deep.add_add,hcell,hv]
end

end
section
open Go.RowKit Go.ChangeShapes Go.WideShapes Go.Deep

theorem row_info:(Tryz.prog.info? 81).map (fun i=>(i.zero,i.size,i.bytes))=some (some (.agg #[.int .u32 0,.int .u32 0]),2,8):=by kernel_rfl
/-- Rows whose numbers are of 32 bits. -/
def RowsOk (l:List RowI):Prop:=∀ q∈l,(0≤q.1∧q.1<4294967296)∧0≤q.2∧q.2<4294967296
end
section
open Go.RowKit

theorem isnan_any (x:Int)(w:World):Calls Tryz.prog 173 #[.int .u32 x] w fun e w'=>e=.returned (.bool false)∧w=w':=by
 go_enter Tryz.func173,Tryz.ntmps173
 go_wp2
 go_ret
 exact ⟨by simp,rfl⟩
theorem cmpu_any (a b:Int)(w:World):Calls Tryz.prog 137 #[.int .u32 a,.int .u32 b] w fun e w'=>e=.returned (.int .i64 (cmpU a b))∧w=w':=by
 have HN:=Lib.hid (fun x=>isnan_any x w)
 by_cases h1:a<b
 ·have HC:=Lib.hid (show cmpU a b=-1 by unfold cmpU;rw [if_pos h1])
  have h2:decide (a<b)=true:=by simpa using h1
  go_enter Tryz.func137,Tryz.ntmps137
  go_wp2_with (go_at_call 173;refine (HN.out _).mono ?_;rintro e w' ⟨rfl,rfl⟩)
  go_ret
  exact ⟨by rw [HC.out];rfl,rfl⟩
 ·by_cases h2:b<a
  ·have HC:=Lib.hid (show cmpU a b=1 by unfold cmpU;rw [if_neg h1,if_pos h2])
   have h3:decide (a<b)=false:=by simpa using h1
   have h4:decide (b<a)=true:=by simpa using h2
   go_enter Tryz.func137,Tryz.ntmps137
   go_wp2_with (go_at_call 173;refine (HN.out _).mono ?_;rintro e w' ⟨rfl,rfl⟩)
   go_ret
   exact ⟨by rw [HC.out];rfl,rfl⟩
  ·have HC:=Lib.hid (show cmpU a b=0 by unfold cmpU;rw [if_neg h1,if_neg h2])
   have h3:decide (a<b)=false:=by simpa using h1
   have h4:decide (b<a)=false:=by simpa using h2
   go_enter Tryz.func137,Tryz.ntmps137
   go_wp2_with (go_at_call 173;refine (HN.out _).mono ?_;rintro e w' ⟨rfl,rfl⟩)
   go_ret
   exact ⟨by rw [HC.out];rfl,rfl⟩
theorem bykey_any (x y:RowI)(w:World):Calls Tryz.prog 136 #[.agg #[.int .u32 x.1,.int .u32 x.2],.agg #[.int .u32 y.1,.int .u32 y.2]] w fun e w'=>e=.returned (.int .i64 (cmpU x.1 y.1))∧Grew w w':=by
 have HC:=Lib.hid (fun W=>cmpu_any x.1 y.1 W)
 have HG:=Lib.hid (((Grew.refl w).alloc (.cells #[.int .u32 x.1,.int .u32 x.2] 81)).alloc (.cells #[.int .u32 y.1,.int .u32 y.2] 81))
 go_enter Tryz.func136,Tryz.ntmps136
 go_wp2_with (go_at_call 137;refine (HC.out _).mono ?_;rintro e w' ⟨rfl,rfl⟩)
 go_ret
 exact ⟨rfl,HG.out⟩
theorem or_any (b:Nat)(x y:Int)(w:World)(h0:w.cell? ⟨b,0,none⟩=some (.int .i64 x))(h1:w.cell? ⟨b,1,none⟩=some (.int .i64 y)) :
  Calls Tryz.prog 135 #[.slice (some ⟨b,0,none⟩) 2 2] w fun e w'=>e=.returned (.int .i64 (if x≠0 then x else y))∧w=w':=by
 by_cases hx:x=0
 ·have hx2:(x == 0)=true:=by simpa using hx
  rw [if_neg (by simpa using hx)]
  subst hx
  by_cases hy:y=0
  ·subst hy
   go_enter Tryz.func135,Tryz.ntmps135
   go_wp2
   refine wp_loop_rounds 3 ?_
   rw [rounds_succ]
   go_wp2
   rw [rounds_succ]
   go_wp2
   rw [rounds_succ]
   go_wp2
   go_ret
   exact ⟨rfl,rfl⟩
  ·have hy2:(y == 0)=false:=by simpa using hy
   go_enter Tryz.func135,Tryz.ntmps135
   go_wp2
   refine wp_loop_rounds 2 ?_
   rw [rounds_succ]
   go_wp2
   rw [rounds_succ]
   go_wp2
   go_ret
   exact ⟨rfl,rfl⟩
 ·have hx2:(x == 0)=false:=by simpa using hx
  rw [if_pos hx]
  go_enter Tryz.func135,Tryz.ntmps135
  go_wp2
  refine wp_loop_rounds 1 ?_
  rw [rounds_succ]
  go_wp2
  go_ret
  exact ⟨rfl,rfl⟩
theorem new_two (w:World)(t:TypeId)(a b:Value):(w.alloc (.cells #[a,b] t)).cell? ⟨w.heap.size,0,none⟩=some a∧(w.alloc (.cells #[a,b] t)).cell? ⟨w.heap.size,1,none⟩=some b:=⟨(Blk.new w t #[a,b]).cell 0,(Blk.new w t #[a,b]).cell 1⟩
set_option maxHeartbeats 4000000 in
theorem compare1_any (x y:RowI)(w:World):Calls Tryz.prog 134 #[.agg #[.int .u32 x.1,.int .u32 x.2],.agg #[.int .u32 y.1,.int .u32 y.2]] w fun e w'=>e=.returned (.int .i64 (cmpR x y))∧Grew w w':=by
 have HE:=Lib.hid (cmpR_eq x y)
 have HOR:=Lib.hid (show ∀(b:Nat) (W:World),W.cell? ⟨b,0,none⟩=some (.int .i64 (cmpU x.1 y.1))→W.cell? ⟨b,1,none⟩=some (.int .i64 (cmpU x.2 y.2))→Calls Tryz.prog 135 #[.slice (some ⟨b,0,none⟩) 2 2] W fun e w'=>e=.returned (.int .i64 (cmpR x y))∧W=w' from fun b W h0 h1=>(or_any b _ _ W h0 h1).mono fun _ _ h=>⟨by rw [HE.out];exact h.1,h.2⟩)
 have HBK:=Lib.hid (fun W=>bykey_any x y W)
 have HCU:=Lib.hid (fun W=>cmpu_any x.2 y.2 W)
 obtain ⟨W0,hW0⟩:∃ W0,(w.alloc (.cells #[.int .u32 x.1,.int .u32 x.2] 81)).alloc (.cells #[.int .u32 y.1,.int .u32 y.2] 81)=W0:=⟨_,rfl⟩
 have hG:Grew w W0:=by rw [←hW0];exact ((Grew.refl w).alloc _).alloc _
 have hz:W0.heap.size=w.heap.size+2:=by rw [←hW0];simp
 have k0:W0.cell? ⟨w.heap.size,0,none⟩=some (.int .u32 x.1):=by rw [←hW0];exact ((Blk.new w _ _).alloc _).cell 0
 have k1:W0.cell? ⟨w.heap.size,1,none⟩=some (.int .u32 x.2):=by rw [←hW0];exact ((Blk.new w _ _).alloc _).cell 1
 have k2:W0.cell? ⟨w.heap.size+1,0,none⟩=some (.int .u32 y.1):=by
  rw [←hW0]
  simp
 have k3:W0.cell? ⟨w.heap.size+1,1,none⟩=some (.int .u32 y.2):=by
  rw [←hW0]
  simp
 go_enter Tryz.func134,Tryz.ntmps134
 go_wp2
 (try rw [hW0])
 have HGW:=Lib.hid hG
 have HZ:=Lib.hid hz
 have HC:=Lib.hid (show ∀ X,Grew W0 X→(X.cell? ⟨w.heap.size,0,none⟩=some (.int .u32 x.1)∧X.cell? ⟨w.heap.size,1,none⟩=some (.int .u32 x.2))∧X.cell? ⟨w.heap.size+1,0,none⟩=some (.int .u32 y.1)∧X.cell? ⟨w.heap.size+1,1,none⟩=some (.int .u32 y.2) from fun X h=>by
  have hb:=h.below
  exact ⟨⟨(hb.cell (p:=⟨w.heap.size,0,none⟩) (by show w.heap.size<W0.heap.size;omega)).trans k0,(hb.cell (p:=⟨w.heap.size,1,none⟩) (by show w.heap.size<W0.heap.size;omega)).trans k1⟩,(hb.cell (p:=⟨w.heap.size+1,0,none⟩) (by show w.heap.size+1<W0.heap.size;omega)).trans k2,(hb.cell (p:=⟨w.heap.size+1,1,none⟩) (by show w.heap.size+1<W0.heap.size;omega)).trans k3⟩)
 have HG:=Lib.hid (Grew.refl W0).drew
 clear hW0 hG hz
 go_region_held3 (fun w'=>(w'.cell? ⟨w.heap.size,0,none⟩=some (.int .u32 x.1)∧w'.cell? ⟨w.heap.size,1,none⟩=some (.int .u32 x.2))∧w'.cell? ⟨w.heap.size+1,0,none⟩=some (.int .u32 y.1)∧w'.cell? ⟨w.heap.size+1,1,none⟩=some (.int .u32 y.2)) (go_keep) (first
  | (go_at_call 136;go_loud (refine (HBK.out _).mono ?_;rintro e wt ⟨rfl,hgt⟩;have HG:=Lib.hid (HG.out.trans hgt);obtain ⟨⟨k0,k1⟩,k2,k3⟩:=HC.out wt HG.out;clear hgt))
  | (go_at_call 137;go_loud (refine (HCU.out _).mono ?_;rintro e wt ⟨rfl,rfl⟩))
  | (go_at_call 135;go_loud (refine (HOR.out _ _ (new_two _ _ _ _).1 (new_two _ _ _ _).2).mono ?_;rintro e wt ⟨rfl,rfl⟩))
  | fail "no arm")
 all_goals
  go_wp2
  go_ret
  exact ⟨rfl,HGW.out.trans (HG.out.alloc _)⟩
end
section
open Go.RowKit

def CmpPost (a b:List RowI)(w:World)(e:Ending)(w':World):Prop:=e=.returned (.int .i64 (cmpT a b))∧Grew w w'
set_option maxHeartbeats 4000000 in
theorem comparefunc_any (v1 v2:Value)(l m:List RowI)(w:World)(h1:RowsR w w.heap.size v1 l)(h2:RowsR w w.heap.size v2 m) :
  Calls Tryz.prog 133 #[v1,v2,.func (.func 134) #[] #[]] w (CmpPost l m w):=by
 obtain ⟨A1,c1,rfl,hc1,hm1,hR1⟩:=h1
 obtain ⟨A2,c2,rfl,hc2,hm2,hR2⟩:=h2
 have HR1:=Lib.hid hR1
 have HR2:=Lib.hid hR2
 unfold maxLen at hm1 hm2
 have hn1:(l.length:Int)≤9223372036854775807:=by omega
 have hn2:(m.length:Int)≤9223372036854775807:=by omega
 have HC1:=Lib.hid (fun x y W=>compare1_any x y W)
 clear hR1 hR2 hc1 hc2
 go_enter Tryz.func133,Tryz.ntmps133
 go_wp2
 go_loopw [13] (fun iv wr=>∃ p:Nat,iv=.int .i64 (p:Int)∧p≤l.length∧l.take p=m.take p∧Grew w wr∧p≤m.length) (fun iv _=>l.length-(Lib.intOf iv).toNat)
 case atStart=>exact ⟨0,rfl,Nat.zero_le _,by simp,Grew.refl _,Nat.zero_le _⟩
 case round =>
  obtain ⟨p,rfl,hp,hT,hG,hpm⟩:=hrel
  have HT:=Lib.hid hT
  have HG:=Lib.hid hG
  clear hT hG
  by_cases hlt:p<l.length
  ·have hq:(p:Int)<(l.length:Int):=by omega
   obtain ⟨x,hx⟩:=at_lt hlt
   obtain ⟨b1,o1,rfl,hb1,hcl1⟩:=(HR1.out.below HG.out.below).spot (by omega) (by omega)
   have r0:=hcl1 _ _ (rowCells_at hx).1
   have r1:wr.cell? ⟨b1,o1+p*2+1,none⟩=some (.int .u32 x.2):=hcl1 _ _ (rowCells_at hx).2
   have hb1w:b1<wr.heap.size:=Nat.lt_of_lt_of_le hb1 HG.out.below.size
   have HX:=Lib.hid hx
   clear hcl1 hx
   by_cases hlm:p<m.length
   ·have hq2:¬ (m.length:Int)≤(p:Int):=by omega
    have hq4:(p:Int)<(m.length:Int):=by omega
    have hq3:decide ((m.length:Int)≤(p:Int))=false:=by simpa using hq4
    obtain ⟨y,hy⟩:=at_lt hlm
    obtain ⟨b2,o2,rfl,hb2,hcl2⟩:=(HR2.out.below HG.out.below).spot (by omega) (by omega)
    have r2:=hcl2 _ _ (rowCells_at hy).1
    have r3:wr.cell? ⟨b2,o2+p*2+1,none⟩=some (.int .u32 y.2):=hcl2 _ _ (rowCells_at hy).2
    have hb2w:b2<wr.heap.size:=Nat.lt_of_lt_of_le hb2 HG.out.below.size
    have HY:=Lib.hid hy
    clear hcl2 hy
    by_cases he:x=y
    ·subst he
     have HZ:=Lib.hid (cmpR_self x)
     have hz:(cmpR x x == 0)=true:=by simp [cmpR_self]
     go_wp2_with (go_at_call 134;go_loud (refine (HC1.out x x _).mono ?_;rintro e w1 ⟨rfl,hg1⟩;rw [HZ.out];have HG1:=Lib.hid (((HG.out.alloc _).alloc _).trans hg1);clear hg1))
     go_roundw
     case rel=>exact ⟨p+1,by go_num,hlt,by rw [List.take_add_one,List.take_add_one,HT.out,HX.out,HY.out],HG1.out,hlm⟩
     case measure=>simp [Lib.intOf];omega
    ·have HZ:=Lib.hid (cmpT_at HT.out HX.out HY.out he)
     have hz:(cmpR x y == 0)=false:=by
      rw [beq_eq_false_iff_ne]
      exact fun e=>he (cmpR_zero.1 e)
     have hz2:¬ cmpR x y=0:=by simpa using hz
     go_wp2_with (go_at_call 134;go_loud (refine (HC1.out x y _).mono ?_;rintro e w1 ⟨rfl,hg1⟩;have HG1:=Lib.hid (((HG.out.alloc _).alloc _).trans hg1);clear hg1))
     go_ret
     exact ⟨by rw [HZ.out];rfl,HG1.out⟩
   ·have hq2:(m.length:Int)≤(p:Int):=by omega
    have hq3:decide ((m.length:Int)≤(p:Int))=true:=by simpa using hq2
    have HZ:=Lib.hid (cmpT_short HT.out (by omega) hlt)
    go_wp2
    go_ret
    exact ⟨by rw [HZ.out];rfl,HG.out.alloc _⟩
  ·obtain rfl:p=l.length:=by omega
   have hq:¬ (l.length:Int)<(l.length:Int):=by omega
   by_cases hlm:l.length<m.length
   ·have hq2:(l.length:Int)<(m.length:Int):=by omega
    have HZ:=Lib.hid (cmpT_long HT.out (Nat.le_refl _) hlm)
    go_wp2
    go_ret
    exact ⟨by rw [HZ.out];rfl,HG.out⟩
   ·have hq2:¬ (l.length:Int)<(m.length:Int):=by omega
    have HZ:=Lib.hid (show cmpT l m=0 from cmpT_zero.2 (by
     have:=HT.out
     rwa [List.take_length,List.take_of_length_le (by omega)] at this))
    go_wp2
    go_ret
    exact ⟨by rw [HZ.out];rfl,HG.out⟩
theorem pcompare_any (v1 v2:Value)(l m:List RowI)(w:World)(h1:RowsR w w.heap.size v1 l)(h2:RowsR w w.heap.size v2 m) :
  Calls Tryz.prog 93 #[v1,v2] w (CmpPost l m w):=by
 have HC:=Lib.hid (comparefunc_any v1 v2 l m w h1 h2)
 clear h1 h2
 go_enter Tryz.func93,Tryz.ntmps93
 go_wp2_with (go_at_call 133;go_loud (refine HC.out.mono ?_;rintro e w1 ⟨rfl,hg1⟩))
 go_ret
 exact ⟨rfl,hg1⟩
end
section

/-- The n lowest bytes of a number, the lowest first. -/
def le:Nat→Nat→List UInt8
 | 0,_=>[]
 | n+1,x=>UInt8.ofNat (x%256)::le n (x/256)
/-- The number that bytes say, the lowest first. -/
def num:List UInt8→Nat
 | []=>0
 | b::l=>b.toNat+256*num l
theorem le_len (n x:Nat):(le n x).length=n:=by
 induction n generalizing x with
 | zero=>rfl
 | succ n ih=>simp [le,ih]
theorem byte_of (x:Nat):(UInt8.ofNat (x%256)).toNat=x%256:=by
 rw [UInt8.toNat_ofNat']
 omega
theorem num_le (n x:Nat):num (le n x)=x%256^n:=by
 induction n generalizing x with
 | zero=>simp [le,num,Nat.mod_one]
 | succ n ih =>
  simp only [le,num,ih]
  rw [byte_of,Nat.pow_succ,Nat.mul_comm (256^n) 256,Nat.mod_mul]
theorem bv_of (x:Nat)(i:Int)(h:((x%256:Nat):Int)=i):bv (UInt8.ofNat (x%256))=.int .u8 i:=by
 unfold bv
 rw [byte_of,h]
theorem le2 (x:Nat)(h:x<65536):bvs (le 2 x)=[.int .u8 ((x:Int)%256),.int .u8 ((x:Int)/256)]:=by
 simp only [le,bvs,List.map_cons,List.map_nil]
 rw [bv_of x _ rfl,bv_of (x/256) ((x:Int)/256) (by omega)]
 rfl
theorem le4 (x:Nat)(h:x<4294967296):bvs (le 4 x)=[.int .u8 ((x:Int)%256),.int .u8 ((x:Int)/256%256),.int .u8 ((x:Int)/65536%256),.int .u8 ((x:Int)/16777216)]:=by
 simp only [le,bvs,List.map_cons,List.map_nil]
 rw [bv_of x _ rfl,bv_of (x/256) ((x:Int)/256%256) (by omega),bv_of (x/256/256) ((x:Int)/65536%256) (by omega),bv_of (x/256/256/256) ((x:Int)/16777216) (by omega)]
 rfl
end
end Go.Proofs.YthdldooilcbmlaaGreatDoor
