/-
  Texts of mine, joined: PoolTable, BuildLay, BinLay, PoolFold. The conditions stand with each.
-/
import Derived.Test.YthdldooilcbmlaaGreatDoorK04
import Derived.Test.YthdldooilcbmlaaGreatDoorK01
import Derived.Laws.AppendOwn
import Derived.Laws.StructEq
import Derived.Lib.SliceRun
import Derived.Shelf.SlSorted.Search
import Derived.Test.YthdldooilcbmlaaGreatDoorProg
import Derived.Test.YthdldooilcbmlaaGreatDoorK06
import Derived.Shelf.Strings.Builder1
import Derived.Shelf.Spec.SearchS
import Derived.Maps.RangeWalk
set_option linter.unusedVariables false
set_option linter.unusedSimpArgs false
namespace Go.Proofs.YthdldooilcbmlaaGreatDoor
section
open Go.RowKit

end
section
open Go.RowKit

theorem own_setCells {base:Nat}{e:TypeId}{size g n c:Nat}:∀(vs:List Value) (o:Nat) (w:World) (xs:List Value),w.ownsRow base e size (.slice (some ⟨g,0,none⟩) n c) n xs →
  ∃ xs',(w.setCells g o vs).ownsRow base e size (.slice (some ⟨g,0,none⟩) n c) n xs'∧xs'.take o=xs.take o
 | [],_,_,xs,h=>⟨xs,h,rfl⟩
 | v::r,o,w,xs,h=>by
  obtain ⟨xs',h1,h2⟩:=own_setCells r (o+1) (w.setCell ⟨g,o,none⟩ v) (xs.set o v) (own_set h o v)
  refine ⟨xs',h1,?_⟩
  have h3:=congrArg (List.take o) h2
  rw [List.take_take,List.take_take,Nat.min_eq_left (by omega)] at h3
  rw [h3,List.take_set_of_le (Nat.le_refl _)]
theorem only_setCells {g:Nat}:∀(vs:List Value) (o:Nat) (a w:World),Only g a w→Only g a (w.setCells g o vs)
 | [],_,_,_,h=>h
 | v::r,o,a,_,h=>only_setCells r (o+1) a _ (h.setCell (p:=⟨g,o,none⟩) (.inl rfl) v)
theorem own_cut {w:World}{base:Nat}{e:TypeId}{size g n c k:Nat}{xs:List Value}(h:w.ownsRow base e size (.slice (some ⟨g,0,none⟩) n c) n xs)(hk:k≤n):w.ownsRow base e size (.slice (some ⟨g,0,none⟩) k c) k (xs.take (k*size)):=by
 obtain ⟨h1,h2⟩:=h
 have hle:k*size≤n*size:=Nat.mul_le_mul_right _ hk
 refine ⟨by rw [List.length_take,h1];exact Nat.min_eq_left hle,?_⟩
 rcases h2 with ⟨h2,-⟩ | ⟨g',cap,cur,hv,hb,hh,hn,hm,hcs,hx⟩
 ·cases h2
 ·cases hv
  refine .inr ⟨g,c,cur,rfl,hb,hh,by omega,hm,hcs,?_⟩
  rw [←hx,List.take_take,Nat.min_eq_left hle]
theorem run_clear_rows (w:World)(b o n c:Nat)(hn:0<n)(hc:∀ j,j<n*2→(w.cell? ⟨b,o+j,none⟩).isSome=true)(hf:∀ j,j<n*2→w.frozen? ⟨b,o+j,none⟩=false) :
  ∃ vs,∀ ty,(Builtin.clear_ #[74] ty #[.slice (some ⟨b,o,none⟩) n c]).run Tryz.prog w=.ok (.tuple #[]) (w.setCells b o vs):=by
 have hzl:(Builtin.zeroCells (Value.agg #[.int .u32 0,.int .u32 0]).cells n).toList.length=n*2:=by simp [Builtin.zeroCells,Value.cells]
 have hz1:∀ v∈(Builtin.zeroCells (Value.agg #[.int .u32 0,.int .u32 0]).cells n).toList,v.oneCell'=true:=by
  intro v hv
  simp only [Builtin.zeroCells,Value.cells,Array.toList_map,List.mem_map] at hv
  obtain ⟨i,-,rfl⟩:=hv
  rcases Nat.mod_two_eq_zero_or_one i with h | h <;> simp [h,Value.oneCell']
 refine ⟨(Builtin.zeroCells (Value.agg #[.int .u32 0,.int .u32 0]).cells n).toList,fun ty=>?_⟩
 have hst:=run_storeCells_cells (P:=Tryz.prog) b o (Builtin.zeroCells (Value.agg #[.int .u32 0,.int .u32 0]).cells n).toList 0 w (fun j hj=>by rw [hzl] at hj;exact hc j hj) (fun j hj=>by rw [hzl] at hj;exact hf j hj) hz1
 simp only [Nat.add_zero] at hst
 obtain ⟨m,rfl⟩:∃ m,n=m+1:=⟨n-1,by omega⟩
 simp [Builtin.clear_,run_underlying Tryz.underlying74,hst]
/-- How two rows differ. -/
theorem row_ne {x y:RowI}(h:x≠y):(x.1 == y.1)=false∨((x.1 == y.1)=true∧(x.2 == y.2)=false):=by
 by_cases h1:x.1=y.1
 ·refine .inr ⟨by simpa using h1,?_⟩
  rw [beq_eq_false_iff_ne]
  exact fun h2=>h (Prod.ext h1 h2)
 ·exact .inl (by simpa using h1)
theorem mid_at {α:Type}{C l:List α}{k i:Nat}{x:α}(hC:C.length=k)(hki:k≤i)(hx:l[i]?=some x):(C++l.drop k)[i]?=some x:=by
 rw [List.getElem?_append_right (by omega),List.getElem?_drop,hC,show k+(i-k)=i by omega]
 exact hx
theorem mid_set {α:Type}{C l:List α}{k:Nat}{y:α}(hC:C.length=k)(hk:k<l.length):(C++l.drop k).set k y=(C++[y])++l.drop (k+1):=by
 subst hC
 rw [List.set_append_right _ _ (Nat.le_refl _),Nat.sub_self,List.drop_eq_getElem_cons hk,List.set_cons_zero]
 simp
theorem rowCells_set {l:List RowI}{k:Nat}{y:RowI}(hk:k<l.length):((rowCells l).set (k*2) (.int .u32 y.1)).set (k*2+1) (.int .u32 y.2)=rowCells (l.set k y):=by
 induction l generalizing k with
 | nil=>simp at hk
 | cons x l ih =>
  cases k with
  | zero=>rfl
  | succ k =>
   simp only [List.length_cons,Nat.add_lt_add_iff_right] at hk
   have:=ih hk
   have e:rowCells (x::l)=.int .u32 x.1::.int .u32 x.2::rowCells l:=rfl
   have e2:∀ m,rowCells (x::m)=.int .u32 x.1::.int .u32 x.2::rowCells m:=fun _=>rfl
   rw [e,show (k+1)*2=k*2+1+1 by omega,List.set_cons_succ,List.set_cons_succ,List.set_cons_succ,List.set_cons_succ,this,List.set_cons_succ,e2]
theorem own_put {w:World}{base g n c k:Nat}{e:TypeId}{C l:List RowI}{y:RowI}(h:w.ownsRow base e 2 (.slice (some ⟨g,0,none⟩) n c) n (rowCells (C++l.drop k)))(hC:C.length=k)(hk:k<l.length) :
  ((w.setCell ⟨g,k*2,none⟩ (.int .u32 y.1)).setCell ⟨g,k*2+1,none⟩ (.int .u32 y.2)).ownsRow base e 2 (.slice (some ⟨g,0,none⟩) n c) n (rowCells ((C++[y])++l.drop (k+1))):=by
 have:=own_set (own_set h (k*2) (.int .u32 y.1)) (k*2+1) (.int .u32 y.2)
 rw [rowCells_set (by simp;omega),mid_set hC hk] at this
 exact this
def CompPost (g c:Nat)(l:List RowI)(base:Nat)(w:World)(e:Ending)(w':World):Prop :=
 e=.returned (.slice (some ⟨g,0,none⟩) (compL l).length c)∧w'.ownsRow base 81 2 (.slice (some ⟨g,0,none⟩) (compL l).length c) (compL l).length (rowCells (compL l))∧Only g w w'
set_option maxRecDepth 100000 in
set_option maxHeartbeats 16000000 in
theorem compact_any (g c:Nat)(l:List RowI)(w:World)(base:Nat)(h:w.ownsRow base 81 2 (.slice (some ⟨g,0,none⟩) l.length c) l.length (rowCells l))(hlen:l.length≤1000000)(hnc:l.length≤c)(hcm:c≤maxLen) :
  Calls Tryz.prog 94 #[.slice (some ⟨g,0,none⟩) l.length c] w (CompPost g c l base w):=by
 have HO0:=Lib.hid h
 have HGL:=Lib.hid (show g<w.heap.size from (h.lt g rfl).2)
 clear h
 unfold maxLen at hcm
 generalize hn:l.length=n at *
 have HN:=Lib.hid hn
 have hn1:(n:Int)≤1000000:=by omega
 have hc1:(n:Int)≤(c:Int):=by omega
 clear hn
 by_cases hn2:n<2
 ·have hn3:(n:Int)<2:=by omega
  have HCE:=Lib.hid (show compL l=l by
   have:=compL_all (l:=l) l.length (Nat.le_refl _) (fun j x y hj=>absurd hj (by have:=HN.out;omega))
   rwa [List.take_length] at this)
  go_enter Tryz.func94,Tryz.ntmps94
  go_wp2
  go_ret
  unfold CompPost
  rw [HCE.out,HN.out]
  exact ⟨rfl,HO0.out,Only.refl _ _⟩
 ·have hn3:¬ (n:Int)<2:=by omega
  go_enter Tryz.func94,Tryz.ntmps94
  go_wp2
  go_loopw [3] (fun iv wr=>∃ p q:Nat,iv=.int .i64 ((p:Int)+1)∧p+1≤n∧(∀(j:Nat) (x y:RowI),j+1<p+1→l[j]?=some x→l[j+1]?=some y→x≠y)∧wr=w.drewN q) (fun iv _=>(n+2)-(Lib.intOf iv).toNat)
  case atStart=>exact ⟨0,0,rfl,by omega,fun j x y h=>absurd h (by omega),rfl⟩
  case round =>
   obtain ⟨p,q,rfl,hp,hT,rfl⟩:=hrel
   have HT:=Lib.hid hT
   clear hT
   have hs1:IntKind.i64.wrap ((p:Int)+1-1)=(p:Int):=by rw [IntKind.wrap_i64];omega
   have hs2:((p:Int)+1).toNat=p+1:=by omega
   have hs3:(0:Int)≤(p:Int)+1:=by omega
   by_cases hlt:p+1<n
   ·obtain ⟨x,hx⟩:=at_lt (l:=l) (p:=p) (by have:=HN.out;omega)
    obtain ⟨y,hy⟩:=at_lt (l:=l) (p:=p+1) (by have:=HN.out;omega)
    have hq:(p:Int)+1<(n:Int):=by omega
    have hs4:(p:Int)<(n:Int):=by omega
    have r0:w.cell? ⟨g,p*2,none⟩=some (.int .u32 x.1):=own_cell HO0.out _ _ (rowCells_at hx).1
    have r1:w.cell? ⟨g,p*2+1,none⟩=some (.int .u32 x.2):=own_cell HO0.out _ _ (rowCells_at hx).2
    have r2:w.cell? ⟨g,(p+1)*2,none⟩=some (.int .u32 y.1):=own_cell HO0.out _ _ (rowCells_at hy).1
    have r3:w.cell? ⟨g,(p+1)*2+1,none⟩=some (.int .u32 y.2):=own_cell HO0.out _ _ (rowCells_at hy).2
    have HX:=Lib.hid (And.intro hx hy)
    clear hx hy
    by_cases hxy:y=x
    ·subst hxy
     have hz1:(y.1 == y.1)=true:=by simp
     have hz2:(y.2 == y.2)=true:=by simp
     have HC0:=Lib.hid (show compL (l.take (p+2))=l.take (p+1) by
      rw [compL_step HX.out.1 HX.out.2,if_pos rfl]
      exact compL_all (p+1) (by rw [HN.out];omega) HT.out)
     go_upto_region 6 with (fail)
     go_quiet (fail)
     go_wp2
     go_loopw [3,5] (fun kv jv wr=>∃ k j:Nat,kv=.int .i64 (k:Int)∧jv=.int .i64 ((j:Int)+1)∧p+2+j≤n∧(compL (l.take (p+2+j))).length=k∧k≤p+1+j∧wr.ownsRow base 81 2 (.slice (some ⟨g,0,none⟩) n c) n (rowCells (compL (l.take (p+2+j))++l.drop k))∧Only g w wr) (fun _ jv _=>(n+2)-(Lib.intOf jv).toNat)
     case atStart =>
      refine ⟨p+1,0,by go_num,rfl,by omega,?_,by omega,?_,(Only.refl _ _).drewN _⟩
      ·have:=HN.out
       rw [show p+2+0=p+2 from rfl,HC0.out,List.length_take]
       omega
      ·rw [show p+2+0=p+2 from rfl,HC0.out,List.take_append_drop]
       exact HO0.out
     case round =>
      obtain ⟨k,j,rfl,rfl,hj,hk,hkj,hO,hB⟩:=hrel
      have HK:=Lib.hid hk
      have HO:=Lib.hid hO
      have HB:=Lib.hid hB
      clear hk hO hB
      have hj1:IntKind.i64.wrap ((j:Int)+1-1)=(j:Int):=by rw [IntKind.wrap_i64];omega
      have hj2:((j:Int)+1).toNat=j+1:=by omega
      have hj3:(0:Int)≤(j:Int)+1:=by omega
      have hkn:(k:Int)<(n:Int):=by omega
      by_cases hlt2:p+2+j<n
      ·obtain ⟨a,ha⟩:=at_lt (l:=l) (p:=p+1+j) (by have:=HN.out;omega)
       obtain ⟨b,hb⟩:=at_lt (l:=l) (p:=p+2+j) (by have:=HN.out;omega)
       have hq2:(j:Int)+1<((n-(p+1):Nat):Int):=by omega
       have hq3:(j:Int)<((n-(p+1):Nat):Int):=by omega
       have m1:=mid_at (C:=compL (l.take (p+2+j))) HK.out (by omega) ha
       have m2:=mid_at (C:=compL (l.take (p+2+j))) HK.out (by omega) hb
       have r4:wr.cell? ⟨g,(p+1)*2+j*2,none⟩=some (.int .u32 a.1):=by have:=own_cell HO.out _ _ (rowCells_at m1).1;rw [←this];congr 2;omega
       have r5:wr.cell? ⟨g,(p+1)*2+j*2+1,none⟩=some (.int .u32 a.2):=by have:=own_cell HO.out _ _ (rowCells_at m1).2;rw [←this];congr 2;omega
       have r6:wr.cell? ⟨g,(p+1)*2+(j+1)*2,none⟩=some (.int .u32 b.1):=by have:=own_cell HO.out _ _ (rowCells_at m2).1;rw [←this];congr 2;omega
       have r7:wr.cell? ⟨g,(p+1)*2+(j+1)*2+1,none⟩=some (.int .u32 b.2):=by have:=own_cell HO.out _ _ (rowCells_at m2).2;rw [←this];congr 2;omega
       have HST:=Lib.hid (compL_step (j:=p+1+j) ha (show l[p+1+j+1]?=some b by rw [←hb];congr 1;omega))
       clear m1 m2 ha hb
       by_cases hab:b=a
       ·subst hab
        have hz3:(b.1 == b.1)=true:=by simp
        have hz4:(b.2 == b.2)=true:=by simp
        go_upto_region 11 with (fail)
        go_quiet (fail)
        go_wp2
        go_roundw
        case rel =>
         have HE:=HST.out
         rw [if_pos rfl,show p+1+j+1=p+2+j by omega,show p+1+j+2=p+2+(j+1) by omega] at HE
         exact ⟨k,j+1,rfl,by go_num,by omega,by rw [HE];exact HK.out,by omega,by rw [HE];exact HO.out,HB.out.drewN _⟩
        case measure=>simp [Lib.intOf];omega
       ·have f0:wr.frozen? ⟨g,k*2,none⟩=false:=own_free HO.out _
        have f1:wr.frozen? ⟨g,k*2+1,none⟩=false:=own_free HO.out _
        obtain ⟨z,hz⟩:=at_lt (l:=l) (p:=k) (by have:=HN.out;omega)
        have k0:wr.cell? ⟨g,k*2,none⟩=some (.int .u32 z.1):=own_cell HO.out _ _ (rowCells_at (mid_at HK.out (Nat.le_refl k) hz)).1
        have k1:wr.cell? ⟨g,k*2+1,none⟩=some (.int .u32 z.2):=own_cell HO.out _ _ (rowCells_at (mid_at HK.out (Nat.le_refl k) hz)).2
        have HPU:=Lib.hid (own_put (y:=b) HO.out HK.out (by have:=HN.out;omega))
        clear hz
        rcases row_ne hab with hz3 | ⟨hz3,hz4⟩
        ·have HNE:=Lib.hid (fun e:a=b=>hab e.symm)
         clear hab
         go_upto_region 11 with (fail)
         go_quiet (fail)
         go_wp2
         go_roundw
         case rel =>
          have HE:=HST.out
          rw [if_neg HNE.out,show p+1+j+1=p+2+j by omega,show p+1+j+2=p+2+(j+1) by omega] at HE
          refine ⟨k+1,j+1,by go_num,by go_num,by omega,?_,by omega,?_,?_⟩
          ·rw [HE,List.length_append,HK.out];rfl
          ·rw [HE];exact HPU.out
          ·exact (((HB.out.drewN nq).setCell (p:=⟨g,k*2,none⟩) (.inl rfl) _).setCell (p:=⟨g,k*2+1,none⟩) (.inl rfl) _)
         case measure=>simp [Lib.intOf];omega
        ·have HNE:=Lib.hid (fun e:a=b=>hab e.symm)
         clear hab
         go_upto_region 11 with (fail)
         go_quiet (fail)
         go_wp2
         go_roundw
         case rel =>
          have HE:=HST.out
          rw [if_neg HNE.out,show p+1+j+1=p+2+j by omega,show p+1+j+2=p+2+(j+1) by omega] at HE
          refine ⟨k+1,j+1,by go_num,by go_num,by omega,?_,by omega,?_,?_⟩
          ·rw [HE,List.length_append,HK.out];rfl
          ·rw [HE];exact HPU.out
          ·exact (((HB.out.drewN nq).setCell (p:=⟨g,k*2,none⟩) (.inl rfl) _).setCell (p:=⟨g,k*2+1,none⟩) (.inl rfl) _)
         case measure=>simp [Lib.intOf];omega
      ·obtain rfl:n=p+2+j:=by omega
       have hq2:¬ (j:Int)+1<((p+2+j-(p+1):Nat):Int):=by omega
       have HKL:=Lib.hid (show k≤p+2+j by omega)
       obtain ⟨vs,hcl⟩:=run_clear_rows wr g (k*2) (p+2+j-k) (c-k) (by omega) (fun i hi=>by
         have h1:=(List.getElem?_eq_some_iff (l:=rowCells (compL (l.take (p+2+j))++l.drop k)) (i:=k*2+i) (a:=_)).2 ⟨by
          rw [rowCells_len,List.length_append,HK.out,List.length_drop]
          have:=HN.out
          omega,rfl⟩
         rw [own_cell HO.out _ _ h1]
         rfl) (fun i hi=>own_free HO.out _)
       have HCL:=Lib.hid (And.intro (own_setCells vs (k*2) wr _ HO.out) (only_setCells vs (k*2) w wr HB.out))
       go_wp2
       go_ret
       obtain ⟨xs',ho2,htk⟩:=HCL.out.1
       have HFIN:compL l=compL (l.take (p+2+j)):=by rw [List.take_of_length_le (by have:=HN.out;omega)]
       unfold CompPost
       rw [HFIN,HK.out]
       refine ⟨rfl,?_,HCL.out.2⟩
       have h3:=own_cut ho2 HKL.out
       rw [htk] at h3
       have h4:(rowCells (compL (l.take (p+2+j))++l.drop k)).take (k*2)=rowCells (compL (l.take (p+2+j))):=by
        rw [rowCells_append,List.take_append_of_le_length (by rw [rowCells_len,HK.out];exact Nat.le_refl _),List.take_of_length_le (by rw [rowCells_len,HK.out];exact Nat.le_refl _)]
       rw [h4] at h3
       exact h3
    ·rcases row_ne hxy with hz1 | ⟨hz1,hz2⟩
     ·have HNE:=Lib.hid (fun e:y=x=>hxy e)
      clear hxy
      go_upto_region 6 with (fail)
      go_quiet (fail)
      go_wp2
      go_roundw
      case rel =>
       refine ⟨p+1,q+nq,by go_num,by omega,fun j a b hj ha hb=>?_,rfl⟩
       rcases Nat.lt_or_ge (j+1) (p+1) with h | h
       ·exact HT.out j a b h ha hb
       ·obtain rfl:j=p:=by omega
        rw [HX.out.1] at ha
        rw [HX.out.2] at hb
        cases ha
        cases hb
        exact fun e=>HNE.out e.symm
      case measure=>simp [Lib.intOf];omega
     ·have HNE:=Lib.hid (fun e:y=x=>hxy e)
      clear hxy
      go_upto_region 6 with (fail)
      go_quiet (fail)
      go_wp2
      go_roundw
      case rel =>
       refine ⟨p+1,q+nq,by go_num,by omega,fun j a b hj ha hb=>?_,rfl⟩
       rcases Nat.lt_or_ge (j+1) (p+1) with h | h
       ·exact HT.out j a b h ha hb
       ·obtain rfl:j=p:=by omega
        rw [HX.out.1] at ha
        rw [HX.out.2] at hb
        cases ha
        cases hb
        exact fun e=>HNE.out e.symm
      case measure=>simp [Lib.intOf];omega
   ·have hq:¬ (p:Int)+1<(n:Int):=by omega
    have HCE:=Lib.hid (show compL l=l by
     have:=compL_all (l:=l) l.length (Nat.le_refl _) (fun j x y hj=>HT.out j x y (by have:=HN.out;omega))
     rwa [List.take_length] at this)
    go_wp2
    go_ret
    unfold CompPost
    rw [HCE.out,HN.out]
    exact ⟨rfl,HO0.out,(Only.refl _ _).drewN q⟩
end
section
open Go.RowKit Go.Shelf Go.Sort

end
section
open Go.RowKit

theorem own_empty (w:World)(e:TypeId)(size:Nat):(w.alloc (.cells #[] e)).ownsRow w.heap.size e size (.slice (some ⟨w.heap.size,0,none⟩) 0 0) 0 [] :=
 ⟨by simp,.inr ⟨w.heap.size,0,#[],rfl,Nat.le_refl _,heap_alloc_new w _,Nat.le_refl _,by simp [maxLen],by simp,by simp⟩⟩
end
section
open Go.RowKit Go.Shelf Go.Lib Go.Sort

abbrev rA (r:RowI):Value:=.int .u32 r.1
abbrev rB (r:RowI):Value:=.int .u32 r.2
theorem own_some {w:World}{base k:Nat}{e:TypeId}{size n:Nat}{v:Value}{xs:List Value}(h:w.ownsRow base e size v n xs)(hk:v.ownBlock=some k):∃ c,v=.slice (some ⟨k,0,none⟩) n c∧n≤c∧c≤maxLen:=by
 rcases h.2 with ⟨rfl,-⟩ | ⟨g,c,cur,rfl,-,-,h1,h2,-⟩
 ·simp [Value.ownBlock] at hk
 ·simp only [Value.ownBlock,Option.some.injEq] at hk
  subst hk
  exact ⟨c,rfl,h1,h2⟩
theorem swo_of {α:Type}{lt:α→α→Bool}(T:TotalLt lt):SWO lt where
 irrefl:=T.irr
 trans:=T.tr
 ntrans x y z h1 h2:=by
  cases h:lt x z
  ·rfl
  ·cases h3:lt y x
   ·have e:=T.conn _ _ h1 h3
    rw [e] at h
    rw [h] at h2
    exact h2
   ·have:=T.tr _ _ _ h3 h
    rw [this] at h2
    cases h2
def ClonePost (l:List RowI)(w:World)(e:Ending)(w':World):Prop:=(∃ v,e=.returned v∧w'.ownsRow w.heap.size 81 2 v l.length (rowCells l))∧Below w.heap.size w w'
set_option maxRecDepth 100000 in
set_option maxHeartbeats 4000000 in
theorem clone_some (a:Addr)(c:Nat)(l:List RowI)(w:World)(h:RowsR w w.heap.size (.slice (some a) l.length c) l)(hlen:l.length*8≤140737488351232) :
  Calls Tryz.prog 90 #[.slice (some a) l.length c] w fun e w'=>(∃ g c',e=.returned (.slice (some ⟨g,0,none⟩) l.length c')∧w'.ownsRow w.heap.size 81 2 (.slice (some ⟨g,0,none⟩) l.length c') l.length (rowCells l)∧l.length≤c'∧c'≤maxLen)∧Below w.heap.size w w':=by
 obtain ⟨A',c',e,hc,hm,hR⟩:=h
 cases e
 have HR:=Lib.hid (hR.alloc (Nat.le_refl _) (.cells #[] 81))
 have HE1:=Lib.hid (own_empty w 81 2)
 have HB1:=Lib.hid ((Below.refl _ w).alloc (Nat.le_refl _) (.cells #[] 81))
 have HRC:=Lib.hid (rowCells_one (l:=l))
 obtain ⟨i0,hi0,hz0,hz1,hz2⟩:=info_parts row_info
 clear hR hc hm
 have heq:=fun W=>Lib.run_eql_slice_nil (P:=Tryz.prog) W 74 81 (some a) l.length c 0 0 Tryz.underlying74
 go_enter Tryz.func90,Tryz.ntmps90
 go_wp2_with (at_builtin;go_loud (refine wpList_append_any _ rfl (.tmp 5) (.tmp 6) _ rfl w.heap.size 81 i0 _ 2 8 Tryz.underlying74 hi0 hz0 hz1 hz2 rfl (by omega) _ 0 [] rfl HE1.out w.heap.size (some a) l.length c (rowCells l) rfl HR.out HRC.out (by simp only [maxLen];omega) (by omega) (by simp) ?_);intro v3 w3 hown3 hg3 hat3;have HO3:=Lib.hid (show w3.ownsRow w.heap.size 81 2 v3 l.length (rowCells l) from by simpa using hown3);have HB3:=Lib.hid (HB1.out.grown hg3 (by simp) (fun g hg=>(HE1.out.lt g hg).1));have HAT:=Lib.hid (show ∃ k,v3.ownBlock=some k from hat3.elim (fun e=>⟨_,e⟩) (fun e=>⟨_,e⟩));clear hown3 hg3 hat3)
 go_ret
 obtain ⟨k,hk⟩:=HAT.out
 obtain ⟨c3,rfl,h1,h2⟩:=own_some HO3.out hk
 exact ⟨⟨k,c3,rfl,HO3.out,h1,h2⟩,HB3.out⟩
set_option maxHeartbeats 4000000 in
theorem clone_any (v:Value)(l:List RowI)(w:World)(h:RowsR w w.heap.size v l)(hlen:l.length*8≤140737488351232) :
  Calls Tryz.prog 90 #[v] w (ClonePost l w):=by
 obtain ⟨A,c,rfl,hc,hm,hR⟩:=id h
 cases A with
 | some a=>exact (clone_some a c l w h hlen).mono fun e w' ⟨⟨g,c',he,ho,_,_⟩,hb⟩=>⟨⟨_,he,ho⟩,hb⟩
 | none =>
  have hl:l=[]:=by
   rcases Nat.eq_zero_or_pos l.length with h0 | h0
   ·exact List.length_eq_zero_iff.1 h0
   ·obtain ⟨a,ha,-⟩:=hR.2 h0
    cases ha
  subst hl
  clear hR h hc hm
  have heq:=fun W=>Lib.run_eql_slice_nil (P:=Tryz.prog) W 74 81 none 0 c 0 0 Tryz.underlying74
  go_enter Tryz.func90,Tryz.ntmps90
  go_wp2
  go_ret
  exact ⟨⟨_,rfl,World.ownsRow_nil _ _ _ _⟩,Below.refl _ _⟩
theorem row_new (w:World)(x:RowI):RowsR (w.alloc (.cells #[.int .u32 x.1,.int .u32 x.2] 81)) (w.heap.size+1) (.slice (some ⟨w.heap.size,0,none⟩) 1 1) [x] :=
 ⟨_,1,rfl,by simp,by simp [maxLen],reads_new w #[.int .u32 x.1,.int .u32 x.2] 81 2 1 rfl⟩
set_option maxHeartbeats 4000000 in
theorem tcmp_any (x y:RowI)(w:World):Calls Tryz.prog 92 #[.agg #[.int .u32 x.1,.int .u32 x.2],.agg #[.int .u32 y.1,.int .u32 y.2]] w fun e w'=>e=.returned (.int .i64 (cmpR x y))∧Grew w w':=by
 obtain ⟨W0,hW0⟩:∃ W0,(w.alloc (.cells #[.int .u32 x.1,.int .u32 x.2] 81)).alloc (.cells #[.int .u32 y.1,.int .u32 y.2] 81)=W0:=⟨_,rfl⟩
 have hG:Grew w W0:=by rw [←hW0];exact ((Grew.refl w).alloc _).alloc _
 have hz:W0.heap.size=w.heap.size+2:=by rw [←hW0];simp
 have k0:W0.cell? ⟨w.heap.size,0,none⟩=some (.int .u32 x.1):=by rw [←hW0];exact ((Blk.new w _ _).alloc _).cell 0
 have k1:W0.cell? ⟨w.heap.size,1,none⟩=some (.int .u32 x.2):=by rw [←hW0];exact ((Blk.new w _ _).alloc _).cell 1
 have k2:W0.cell? ⟨w.heap.size+1,0,none⟩=some (.int .u32 y.1):=by
  rw [←hW0]
  simp
 have k3:W0.cell? ⟨w.heap.size+1,1,none⟩=some (.int .u32 y.2):=by
  rw [←hW0]
  simp
 have b0:w.heap.size<W0.heap.size:=by omega
 have b1:w.heap.size+1<W0.heap.size:=by omega
 have b2:w.heap.size<W0.heap.size+1:=by omega
 have b3:w.heap.size+1<W0.heap.size+1:=by omega
 have HG:=Lib.hid hG
 have HC:=Lib.hid (show Calls Tryz.prog 93 #[.slice (some ⟨W0.heap.size,0,none⟩) 1 1,.slice (some ⟨W0.heap.size+1,0,none⟩) 1 1] ((W0.alloc (.cells #[.int .u32 x.1,.int .u32 x.2] 81)).alloc (.cells #[.int .u32 y.1,.int .u32 y.2] 81)) (fun e w'=>e=.returned (.int .i64 (cmpR x y))∧Grew ((W0.alloc (.cells #[.int .u32 x.1,.int .u32 x.2] 81)).alloc (.cells #[.int .u32 y.1,.int .u32 y.2] 81)) w') from by
  have h1:RowsR ((W0.alloc (.cells #[.int .u32 x.1,.int .u32 x.2] 81)).alloc (.cells #[.int .u32 y.1,.int .u32 y.2] 81)) (W0.heap.size+1+1) (.slice (some ⟨W0.heap.size,0,none⟩) 1 1) [x] :=
   ((row_new W0 x).below ((Below.refl _ _).alloc (by simp) _)).more (by omega)
  have h2:=row_new (W0.alloc (.cells #[.int .u32 x.1,.int .u32 x.2] 81)) y
  rw [World.size_alloc] at h2
  have h3:((W0.alloc (.cells #[.int .u32 x.1,.int .u32 x.2] 81)).alloc (.cells #[.int .u32 y.1,.int .u32 y.2] 81)).heap.size=W0.heap.size+1+1:=by simp
  have h4:=pcompare_any _ _ [x] [y] _ (by rw [h3];exact h1) (by rw [h3];exact h2)
  have h5:cmpT [x] [y]=cmpR x y:=by
   rw [cmpT_cons]
   by_cases e:x=y
   ·rw [if_pos e,e,cmpR_self,cmpT_self]
   ·rw [if_neg e]
  refine h4.mono fun e w' ⟨he,hg⟩=>⟨by rw [he,h5],hg⟩)
 clear hz hG
 go_enter Tryz.func92,Tryz.ntmps92
 go_upto_region 1 with (fail)
 (try rw [hW0])
 clear hW0
 go_wp2_with (go_at_call 93;go_loud (refine HC.out.mono ?_;rintro e wt ⟨rfl,hgt⟩;have HGT:=Lib.hid (((HG.out.alloc _).alloc _).trans hgt);clear hgt))
 go_ret
 exact ⟨rfl,HGT.out⟩
theorem sortrows_any (g c:Nat)(d:Array RowI)(w:World)(hH:HoldsK (fun k=>[rA k,rB k]) 2 w g 0 d)(hg:g<w.heap.size)(hd:d.size≤1000000) :
  Calls Tryz.prog 91 #[.slice (some ⟨g,0,none⟩) d.size c,.func (.func 92) #[] #[]] w fun e w'=>e=.returned (.tuple #[]) ∧
   ∃ d' n os,PermIn 0 d.size d d'∧SortedIn rl 0 d.size d'∧w'=sortWorldK (fun k:RowI=>[rA k,rB k]) 2 w g 0 n d' os:=by
 have hlt:(ltOf fun x y:RowI=>cmpR x y)=rl:=by
  funext x y
  exact cmpR_neg
 have eg:∀ args w,(callFunc 92 args).run Tryz.prog w=.ok (.enter 92 args) w:=enters_of Tryz.func92 (by kernel_rfl) rfl
 have hcon:=AnyQ.slices_SortFunc sortR 2 Tryz.isAgg81 Tryz.sizeOf81 (fun k:RowI=>[rA k,rB k]) (fun _=>rfl) (fun x v hv=>by simp at hv;rcases hv with rfl | rfl <;> rfl) (fun x y:RowI=>cmpR x y)
  (by rw [hlt];exact swo_of rlT) 92 #[] g 0 c d w eg (fun _ _ _ _ x y=>tcmp_any x y _) hH hg (by omega)
 rw [hlt] at hcon
 exact hcon
/-- pool.Table's sort. -/
theorem tsort_any (g c:Nat)(l:List RowI)(w:World)(base:Nat)(h:w.ownsRow base 81 2 (.slice (some ⟨g,0,none⟩) l.length c) l.length (rowCells l))(hlen:l.length≤1000000) :
  Calls Tryz.prog 91 #[.slice (some ⟨g,0,none⟩) l.length c,.func (.func 92) #[] #[]] w fun e w'=>e=.returned (.tuple #[]) ∧
   (∃ l':List RowI,l'.length=l.length∧(∀ x,x∈l'↔x∈l)∧SortedR l'∧w'.ownsRow base 81 2 (.slice (some ⟨g,0,none⟩) l.length c) l.length (rowCells l'))∧Only g w w':=by
 have hsz:l.toArray.size=l.length:=by simp
 have hH:HoldsK (fun k=>[rA k,rB k]) 2 w g 0 l.toArray:=by
  rcases Nat.eq_zero_or_pos l.length with h0 | h0
  ·intro j hj
   simp [h0] at hj
  ·exact (own_holds (d:=l.toArray) (a:=rA) (b:=rB) (base:=base) (c:=c) (by rw [hsz];exact h) (by rw [hsz];exact h0)).1
 have hc:=sortrows_any g c l.toArray w hH (h.lt g rfl).2 (by rw [hsz];exact hlen)
 rw [hsz] at hc
 refine hc.mono fun e w' ⟨he,d',n,os,hp,hs,hw⟩=>?_
 subst hw
 obtain ⟨h1,h2⟩:=permIn_perm l.toArray d' (by rw [hsz];exact hp)
 refine ⟨he,⟨d'.toList,by rw [Array.length_toList,h2,hsz],fun x=>h1.mem_iff,sortedIn_pairwise rl d' (by rw [h2,hsz];exact hs),?_⟩,sortWorldK_grown _ _ _ _ _ _ _⟩
 exact own_sorted h (by rw [h2,hsz]) n os
end
section
open Go.RowKit

def PTabPost (rows:List RowI)(w:World)(e:Ending)(w':World):Prop :=
 ((RiseL kl (poolL rl rows)∧∃ v,e=.returned (.tuple #[v,.int .i64 0])∧w'.ownsRow w.heap.size 81 2 v (poolL rl rows).length (rowCells (poolL rl rows)))∨(¬ RiseL kl (poolL rl rows)∧e=.returned (.tuple #[.slice none 0 0,.int .i64 5])))∧Below w.heap.size w w'
theorem ptab_mk {rows t:List RowI}{w w':World}{e:Ending}(h:poolL rl rows=t)(hx:((RiseL kl t∧∃ v,e=.returned (.tuple #[v,.int .i64 0])∧w'.ownsRow w.heap.size 81 2 v t.length (rowCells t))∨(¬ RiseL kl t∧e=.returned (.tuple #[.slice none 0 0,.int .i64 5])))∧Below w.heap.size w w'):PTabPost rows w e w':=by
 subst h
 exact hx
set_option maxHeartbeats 8000000 in
theorem ptable_any (a:Addr)(c:Nat)(l:List RowI)(w:World)(h:RowsR w w.heap.size (.slice (some a) l.length c) l)(hlen:l.length≤1000000) :
  Calls Tryz.prog 67 #[.slice (some a) l.length c] w (PTabPost l w):=by
 have HC:=Lib.hid (clone_some a c l w h (by omega))
 generalize hn:l.length=n at *
 have HN:=Lib.hid hn
 have hn1:(n:Int)≤1000000:=by omega
 clear hn h
 go_enter Tryz.func67,Tryz.ntmps67
 go_upto_region 2 with (go_at_call 90;go_loud (refine HC.out.mono ?_;rintro e w1 ⟨⟨g,c1,rfl,ho,hc1,hm1⟩,hb⟩;have HO1:=Lib.hid ho;have HB1:=Lib.hid hb;clear ho hb))
 have HTS:=Lib.hid (tsort_any g c1 l w1 w.heap.size (by rw [HN.out];exact HO1.out) (by rw [HN.out];exact hlen))
 rw [HN.out] at HTS
 go_upto_region 3 with (go_at_call 91;go_loud (refine HTS.out.mono ?_;rintro e w2 ⟨rfl,⟨l2,hl2,hm2,hs2,ho2⟩,hg2⟩;have HL2:=Lib.hid hl2;have HM2:=Lib.hid hm2;have HS2:=Lib.hid hs2;have HO2:=Lib.hid ho2;have HG2:=Lib.hid hg2;clear hl2 hm2 hs2 ho2 hg2))
 have HCM:=Lib.hid (compact_any g c1 l2 w2 w.heap.size (by rw [HL2.out];exact HO2.out) (by rw [HL2.out];exact hlen) (by rw [HL2.out];exact hc1) hm1)
 rw [HL2.out] at HCM
 have HCP:=Lib.hid (comp_pool (l:=l) HS2.out HM2.out)
 unfold CompPost at HCM
 rw [HCP.out] at HCM
 clear HTS HCP
 have HRR:=Lib.hid (poolL_rise rlT l)
 have hpl:(poolL rl l).length≤1000000:=by have:=poolL_len (lt:=rl) l;have:=HN.out;omega
 generalize hpt:poolL rl l=t at *
 have HPT:=Lib.hid hpt
 clear hpt
 generalize ht:t.length=m at *
 have HT:=Lib.hid ht
 clear ht
 go_upto_region 4 with (go_at_call 94;go_loud (refine HCM.out.mono ?_;rintro e w3 ⟨rfl,ho3,hg3⟩;have HO3:=Lib.hid ho3;have HG3:=Lib.hid hg3;clear ho3 hg3))
 have hm3:(m:Int)≤1000000:=by omega
 have HB3:=Lib.hid (show Below w.heap.size w w3 from (HB1.out.grown HG2.out HB1.out.size (fun k hk=>by cases hk;exact (HO1.out.lt g rfl).1)).grown HG3.out (by have h1:=HB1.out.size;have h2:=HG2.out.size;omega) (fun k hk=>by cases hk;exact (HO1.out.lt g rfl).1))
 go_wp2
 go_loopw [5] (fun iv wr=>∃ p q:Nat,iv=.int .i64 ((p:Int)+1)∧p≤m∧(∀(j:Nat) (x y:RowI),j+1<p+1→t[j]?=some x→t[j+1]?=some y→x.1≠y.1)∧wr=w3.drewN q) (fun iv _=>(m+2)-(Lib.intOf iv).toNat)
 case atStart=>exact ⟨0,0,rfl,by omega,fun j x y h=>absurd h (by omega),rfl⟩
 case round =>
  obtain ⟨p,q,rfl,hp,hT,rfl⟩:=hrel
  have HAD:=Lib.hid hT
  clear hT
  have hs1:IntKind.i64.wrap ((p:Int)+1-1)=(p:Int):=by rw [IntKind.wrap_i64];omega
  have hs2:((p:Int)+1).toNat=p+1:=by omega
  have hs3:(0:Int)≤(p:Int)+1:=by omega
  by_cases hlt:p+1<m
  ·obtain ⟨x,hx⟩:=at_lt (l:=t) (p:=p) (by have:=HT.out;omega)
   obtain ⟨y,hy⟩:=at_lt (l:=t) (p:=p+1) (by have:=HT.out;omega)
   have hq:(p:Int)+1<(m:Int):=by omega
   have hs4:(p:Int)<(m:Int):=by omega
   have r0:w3.cell? ⟨g,p*2,none⟩=some (.int .u32 x.1):=own_cell HO3.out _ _ (rowCells_at hx).1
   have r1:w3.cell? ⟨g,p*2+1,none⟩=some (.int .u32 x.2):=own_cell HO3.out _ _ (rowCells_at hx).2
   have r2:w3.cell? ⟨g,(p+1)*2,none⟩=some (.int .u32 y.1):=own_cell HO3.out _ _ (rowCells_at hy).1
   have r3:w3.cell? ⟨g,(p+1)*2+1,none⟩=some (.int .u32 y.2):=own_cell HO3.out _ _ (rowCells_at hy).2
   have HX:=Lib.hid (And.intro hx hy)
   have HLT:=Lib.hid (rl_iff.1 (rise_at HRR.out hx hy (by omega)))
   clear hx hy
   by_cases hxy:x.1=y.1
   ·have hz1:(x.1 == y.1)=true:=by simpa using hxy
    have hz2:(x.2 == y.2)=false:=by have:=HLT.out;rw [beq_eq_false_iff_ne];omega
    have HNO:=Lib.hid (show ¬ RiseL kl t from fun h=>by
     have:=rise_at h HX.out.1 HX.out.2 (by omega)
     simp only [kl,decide_eq_true_eq] at this
     omega)
    clear hxy
    go_upto_region 7 with (fail)
    go_quiet (fail)
    go_wp2
    go_ret2
    exact ptab_mk HPT.out ⟨.inr ⟨HNO.out,rfl⟩,below_drewN (below_drewN HB3.out _) _⟩
   ·have hz1:(x.1 == y.1)=false:=by simpa using hxy
    have HNE:=Lib.hid (fun e:x.1=y.1=>hxy e)
    clear hxy
    go_upto_region 7 with (fail)
    go_quiet (fail)
    go_wp2
    go_roundw
    case rel =>
     refine ⟨p+1,q+nq,by go_num,by omega,fun j a b hj ha hb=>?_,rfl⟩
     rcases Nat.lt_or_ge (j+1) (p+1) with h | h
     ·exact HAD.out j a b h ha hb
     ·obtain rfl:j=p:=by omega
      rw [HX.out.1] at ha
      rw [HX.out.2] at hb
      cases ha
      cases hb
      exact HNE.out
    case measure=>simp [Lib.intOf];omega
  ·have hq:¬ (p:Int)+1<(m:Int):=by omega
   have HRK:=Lib.hid (kl_of_adj HRR.out (fun j x y hx hy=>by
    have h1:=(List.getElem?_eq_some_iff.1 hy).1
    have:=HT.out
    exact HAD.out j x y (by omega) hx hy))
   go_wp2
   go_ret2
   have HO4:=own_cut HO3.out (Nat.le_refl m)
   exact ptab_mk HPT.out ⟨.inl ⟨HRK.out,_,rfl,(by rw [HT.out];exact HO3.out)⟩,below_drewN HB3.out q⟩
/-- .. where the rows are a table: the row that comes back is the call's own. -/
theorem ptable_own (a:Addr)(c:Nat)(l:List RowI)(w:World)(h:RowsR w w.heap.size (.slice (some a) l.length c) l)(hlen:l.length≤1000000)(hr:RiseL kl (poolL rl l)) :
  Calls Tryz.prog 67 #[.slice (some a) l.length c] w fun e w'=>(∃ v,e=.returned (.tuple #[v,.int .i64 0])∧w'.ownsRow w.heap.size 81 2 v (poolL rl l).length (rowCells (poolL rl l)))∧Below w.heap.size w w' :=
 (ptable_any a c l w h hlen).mono fun _ _ ⟨hc,hb⟩=>⟨hc.elim (fun h=>h.2) (fun h=>absurd hr h.1),hb⟩
end
section
open Go.Shelf
def buildS_ren : Go.Shelf.Ren := ⟨fun | 169 => 139 | n => n, fun | 70 => 215 | 9 => 9 | 0 => 0 | 72 => 217 | 37 => 26 | 127 => 244 | 3 => 3 | 5 => 5 | n => n, fun | n => n⟩
theorem buildS : Go.Proofs.Lays.n169 Tryz.prog buildS_ren := {
  mixed := by kernel_rfl
  f169 := Tryz.func139.trans (congrArg some (by kernel_rfl))
  t0 := Tryz.underlying0
  a0 := Tryz.isAgg0
  z0 := Tryz.sizeOf0
  v0 := Tryz.zeroValue0
  t3 := Tryz.underlying3
  a3 := Tryz.isAgg3
  z3 := Tryz.sizeOf3
  v3 := Tryz.zeroValue3
  t9 := Tryz.underlying9
  a9 := Tryz.isAgg9
  z9 := Tryz.sizeOf9
  v9 := Tryz.zeroValue9
  t37 := Tryz.underlying26
  a37 := Tryz.isAgg26
  z37 := Tryz.sizeOf26
  v37 := Tryz.zeroValue26
  t70 := Tryz.underlying215
  a70 := Tryz.isAgg215
  z70 := Tryz.sizeOf215
  v70 := Tryz.zeroValue215
  t72 := Tryz.underlying217
  a72 := Tryz.isAgg217
  z72 := Tryz.sizeOf217
  v72 := Tryz.zeroValue217
  t127 := Tryz.underlying244
  a127 := Tryz.isAgg244
  z127 := Tryz.sizeOf244
  v127 := Tryz.zeroValue244 }
end
section
open Go.Shelf
def binS_ren : Go.Shelf.Ren := ⟨fun | 26 => 97 | 33 => 104 | 34 => 140 | 38 => 146 | n => n, fun | 24 => 37 | 9 => 9 | 3 => 3 | 4 => 4 | 40 => 99 | 0 => 0 | n => n, fun | n => n⟩
theorem binS : Go.Proofs.Lays2.n26 Tryz.prog binS_ren := {
  mixed := by kernel_rfl
  f26 := Tryz.func97.trans (congrArg some (by kernel_rfl))
  f33 := Tryz.func104.trans (congrArg some (by kernel_rfl))
  f34 := Tryz.func140.trans (congrArg some (by kernel_rfl))
  f38 := Tryz.func146.trans (congrArg some (by kernel_rfl))
  t0 := Tryz.underlying0
  a0 := Tryz.isAgg0
  z0 := Tryz.sizeOf0
  v0 := Tryz.zeroValue0
  t3 := Tryz.underlying3
  a3 := Tryz.isAgg3
  z3 := Tryz.sizeOf3
  v3 := Tryz.zeroValue3
  t4 := Tryz.underlying4
  a4 := Tryz.isAgg4
  z4 := Tryz.sizeOf4
  v4 := Tryz.zeroValue4
  t9 := Tryz.underlying9
  a9 := Tryz.isAgg9
  z9 := Tryz.sizeOf9
  v9 := Tryz.zeroValue9
  t24 := Tryz.underlying37
  a24 := Tryz.isAgg37
  z24 := Tryz.sizeOf37
  v24 := Tryz.zeroValue37
  t40 := Tryz.underlying99
  a40 := Tryz.isAgg99
  z40 := Tryz.sizeOf99
  v40 := Tryz.zeroValue99 }
end
section
open Go.RowKit

def by8 (n:Int):UInt8:=UInt8.ofNat (n%256).toNat
theorem by8_nat (n:Int):((by8 n).toNat:Int)=n%256:=by
 have h1:(n%256).toNat<256:=by omega
 unfold by8
 rw [UInt8.toNat_ofNat',Nat.mod_eq_of_lt h1]
 omega
theorem by8_lt (a b:Int):(by8 a<by8 b)↔a%256<b%256:=by
 rw [UInt8.lt_iff_toNat_lt,←Int.ofNat_lt,by8_nat,by8_nat]
theorem by8_eq (a b:Int):(by8 a=by8 b)↔a%256=b%256:=by
 rw [←UInt8.toNat_inj,←Int.ofNat_inj,by8_nat,by8_nat]
def be4 (n:Int):List UInt8:=[by8 (n/16777216),by8 (n/65536),by8 (n/256),by8 n]
theorem be4_inj {a b:Int}(ha:0≤a∧a<4294967296)(hb:0≤b∧b<4294967296):be4 a=be4 b↔a=b:=by
 constructor
 ·intro h
  simp only [be4,List.cons.injEq,by8_eq,and_true] at h
  omega
 ·rintro rfl
  rfl
theorem digits {a:Int}(ha:0≤a∧a<4294967296):∃ d3 d2 d1 d0:Int,(0≤d3∧d3<256)∧(0≤d2∧d2<256)∧(0≤d1∧d1<256)∧(0≤d0∧d0<256)∧a=d3*16777216+d2*65536+d1*256+d0 ∧
  a/16777216%256=d3∧a/65536%256=d2∧a/256%256=d1∧a%256=d0:=by
 refine ⟨a/16777216,a/65536%256,a/256%256,a%256,?_,?_,?_,?_,?_,?_,rfl,rfl,rfl⟩ <;> omega
theorem be4_less {a b:Int}(ha:0≤a∧a<4294967296)(hb:0≤b∧b<4294967296):Op.bytesLess (be4 a) (be4 b)=decide (a<b):=by
 simp only [be4,Op.bytesLess,Bool.or_false,Bool.and_false]
 rw [Bool.eq_iff_iff]
 simp only [Bool.or_eq_true,Bool.and_eq_true,decide_eq_true_eq,beq_iff_eq,by8_lt,by8_eq]
 obtain ⟨a3,a2,a1,a0,h3,h2,h1,h0,e,e3,e2,e1,e0⟩:=digits ha
 obtain ⟨b3,b2,b1,b0,k3,k2,k1,k0,f,f3,f2,f1,f0⟩:=digits hb
 rw [e3,e2,e1,e0,f3,f2,f1,f0]
 clear e3 e2 e1 e0 f3 f2 f1 f0 ha hb
 omega
theorem less_app (u v x y:List UInt8)(h:u.length=v.length):Op.bytesLess (u++x) (v++y)=if u=v then Op.bytesLess x y else Op.bytesLess u v:=by
 induction u generalizing v with
 | nil =>
  cases v with
  | nil=>simp
  | cons b v=>cases h
 | cons a u ih =>
  cases v with
  | nil=>cases h
  | cons b v =>
   simp only [List.length_cons,Nat.add_right_cancel_iff] at h
   simp only [List.cons_append,Op.bytesLess,ih v h,List.cons.injEq]
   by_cases e:a=b
   ·subst e
    by_cases e2:u=v
    ·simp [e2]
    ·simp [e2]
   ·have e2:(a == b)=false:=by simpa using e
    simp [e2,e]
def rowB (r:RowI):List UInt8:=be4 r.1++be4 r.2
theorem rowB_len (r:RowI):(rowB r).length=8:=rfl
def RowOk (q:RowI):Prop:=(0≤q.1∧q.1<4294967296)∧0≤q.2∧q.2<4294967296
theorem rowB_inj {x y:RowI}(hx:RowOk x)(hy:RowOk y):rowB x=rowB y↔x=y:=by
 constructor
 ·intro h
  obtain ⟨h1,h2⟩:=List.append_inj h rfl
  exact Prod.ext ((be4_inj hx.1 hy.1).1 h1) ((be4_inj hx.2 hy.2).1 h2)
 ·rintro rfl
  rfl
theorem rowB_less {x y:RowI}(hx:RowOk x)(hy:RowOk y):Op.bytesLess (rowB x) (rowB y)=rl x y:=by
 unfold rowB
 rw [less_app (be4 x.1) (be4 y.1) (be4 x.2) (be4 y.2) rfl,be4_less hx.1 hy.1,be4_less hx.2 hy.2]
 unfold rl
 by_cases h:x.1=y.1
 ·rw [if_pos (by rw [h]),decide_eq_false (show ¬ x.1<y.1 by omega),decide_eq_true h]
  simp
 ·rw [if_neg (fun e=>h ((be4_inj hx.1 hy.1).1 e)),decide_eq_false h]
  simp
/-- A table as bytes. -/
def tabB (l:List RowI):List UInt8:=l.flatMap rowB
theorem tabB_len (l:List RowI):(tabB l).length=l.length*8:=by
 induction l with
 | nil=>rfl
 | cons x l ih=>simp only [tabB,List.flatMap_cons,List.length_append,rowB_len,List.length_cons] at ih ⊢;omega
theorem tabB_snoc (l:List RowI)(x:RowI):tabB (l++[x])=tabB l++rowB x:=by simp [tabB]
theorem tabB_less:∀ {a b:List RowI},RowsOk a→RowsOk b→Op.bytesLess (tabB a) (tabB b)=lexL rl a b
 | a,[],_,_=>by simp [tabB,lexL,Op.bytesLess]
 | [],y::b,_,_=>by simp [tabB,lexL,rowB,be4,Op.bytesLess]
 | x::a,y::b,ha,hb=>by
  have hx:RowOk x:=ha x (by simp)
  have hy:RowOk y:=hb y (by simp)
  have ih:=tabB_less (a:=a) (b:=b) (fun q hq=>ha q (by simp [hq])) (fun q hq=>hb q (by simp [hq]))
  simp only [tabB,List.flatMap_cons] at ih ⊢
  rw [less_app (rowB x) (rowB y) _ _ rfl,ih,rowB_less hx hy]
  simp only [lexL]
  by_cases h:x=y
  ·rw [if_pos (by rw [h]),if_pos h]
  ·rw [if_neg (fun e=>h ((rowB_inj hx hy).1 e)),if_neg h]
def textB (l:List RowI):ByteArray:=⟨(tabB l).toArray⟩
theorem textB_toList (l:List RowI):(textB l).toList=tabB l:=by rw [Lib.toList_data];rfl
theorem textB_size (l:List RowI):(textB l).size=l.length*8:=by
 show (tabB l).toArray.size=_
 rw [List.size_toArray,tabB_len]
theorem textB_less {a b:List RowI}(ha:RowsOk a)(hb:RowsOk b):bl (textB a) (textB b)=tl a b:=by
 unfold bl
 rw [textB_toList,textB_toList,tabB_less ha hb]
theorem textB_inj {a b:List RowI}(ha:RowsOk a)(hb:RowsOk b)(h:textB a=textB b):a=b:=by
 have h1:=textB_less ha hb
 have h2:=textB_less hb ha
 rw [h,blT.irr] at h1 h2
 exact tlT.conn a b h1.symm h2.symm
/-- The texts of tables, once each: those of the tables once each. -/
theorem pool_texts {l:List (List RowI)}(h:∀ t∈l,RowsOk t):poolL bl (l.map textB)=(poolL tl l).map textB:=by
 refine (poolL_eq blT ?_ fun x=>?_).symm
 ·have hr:=poolL_rise tlT l
  unfold RiseL
  rw [List.pairwise_map]
  refine hr.imp_of_mem fun {a b} ha hb hab=>?_
  rw [textB_less (h a ((poolL_mem l a).1 ha)) (h b ((poolL_mem l b).1 hb))]
  exact hab
 ·simp only [List.mem_map,poolL_mem]
/-- Where each table stands. -/
def FoldAt (ls:List (List RowI))(ks:List Nat):Prop:=ks.length=ls.length∧∀(i:Nat) (t:List RowI),ls[i]?=some t→∃ k,ks[i]?=some k∧(poolL tl ls)[k]?=some t
theorem pool_at {ls:List (List RowI)}{t:List RowI}(h:t∈ls):∃ k:Nat,(poolL tl ls)[k]?=some t :=
 List.mem_iff_getElem?.1 ((poolL_mem ls t).2 h)
/-- What the halving tells of the texts. -/
theorem halving {ls:List (List RowI)}(h:∀ t∈ls,RowsOk t){k:Nat}{t:List RowI}(hk:(poolL tl ls)[k]?=some t) :
  Lib.bsGo (fun j=>Op.bytesLess ((((poolL tl ls).map textB)[j]?).getD (textB t)).toList (textB t).toList) (poolL tl ls).length 0 (poolL tl ls).length=k:=by
 have hkl:=(List.getElem?_eq_some_iff.1 hk).1
 have hok:∀ x∈poolL tl ls,RowsOk x:=fun x hx=>h x ((poolL_mem ls x).1 hx)
 have ht:=hok t (List.mem_of_getElem? hk)
 refine Lib.bsGo_spec _ k (fun j hj=>?_) (fun j hj=>?_) _ _ _ (by omega) (by omega) (by omega)
 ·obtain ⟨y,hy⟩:∃ y,(poolL tl ls)[j]?=some y:=⟨(poolL tl ls)[j],by simp [show j<(poolL tl ls).length by omega]⟩
  rw [List.getElem?_map,hy]
  have:=textB_less (hok y (List.mem_of_getElem? hy)) ht
  unfold bl at this
  simp only [Option.map_some,Option.getD_some,this]
  exact rise_at (poolL_rise tlT ls) hy hk hj
 ·cases hy:(poolL tl ls)[j]? with
  | none =>
   rw [List.getElem?_map,hy]
   simp only [Option.map_none,Option.getD_none]
   exact bl_irr _
  | some y =>
   rw [List.getElem?_map,hy]
   have:=textB_less (hok y (List.mem_of_getElem? hy)) ht
   unfold bl at this
   simp only [Option.map_some,Option.getD_some,this]
   rcases Nat.lt_or_ge k j with h1 | h1
   ·exact tlT.asym (rise_at (poolL_rise tlT ls) hk hy h1)
   ·obtain rfl:j=k:=by omega
    rw [hk] at hy
    cases hy
    exact tlT.irr _
end
section
open Go.RowKit Go.Shelf

theorem buildXS:Go.Proofs.Builder.Extra Tryz.prog buildS_ren:={
 sizeBuilder:=by kernel_rfl
 liesBuilder:=by kernel_rfl
 t5:=Tryz.underlying5
 a5:=fun _=>by kernel_rfl
 z5:=fun _=>by kernel_rfl
 v5:=fun _=>by kernel_rfl
 infoByte:=by kernel_rfl
 cellsByte:=by kernel_rfl
 sizeByte:=by kernel_rfl
 neB5:=by decide }
theorem reads_only {g:Nat}{w w':World}{B size n:Nat}{A:Option Addr}{xs:List Value}(h:Reads w B size A n xs)(hO:Only g w w')(hB:B≤w.heap.size)(hg:∀ a,A=some a→a.block≠g):Reads w' B size A n xs:=by
 refine ⟨h.1,fun hn=>?_⟩
 obtain ⟨a,ha,hlt,hc⟩:=h.2 hn
 refine ⟨a,ha,hlt,fun j u hj=>?_⟩
 have hb:=hO.block (a.add j).block (by rw [block_of_add];omega) (by rw [block_of_add];exact fun e=>hg a ha (Option.some.inj e))
 exact (World.cell?_of_block hb).trans (hc j u hj)
theorem bsize:(Tryz.prog.info? 217).map (·.size)=some 2:=by kernel_rfl
theorem blies:liesAt Tryz.prog Tryz.prog.depth 217 (2/Tryz.prog.cellsOf 217) 0 217 1=true:=by kernel_rfl
set_option maxHeartbeats 1000000 in
set_option maxRecDepth 100000 in
theorem bcheck_used (b:Nat)(w:World)(h0:w.cell? ⟨b,0,none⟩=some (.pointer (some ⟨b,0,none⟩))) :
  Calls Tryz.prog 174 #[.pointer (some ⟨b,0,none⟩)] w fun e w'=>e=.returned (.tuple #[])∧w'=w:=by
 obtain ⟨j,hj,_⟩:=Option.map_eq_some_iff.1 bsize
 go_enter Tryz.func174,Tryz.ntmps174
 go_wp2
 rw [Lib.run_neq_ptr_same w _ Tryz.underlying215 hj]
 go_wp2
 go_end0
 exact ⟨rfl,rfl⟩
set_option maxHeartbeats 1000000 in
set_option maxRecDepth 100000 in
theorem bcheck_fresh (b:Nat)(w:World)(h0:w.cell? ⟨b,0,none⟩=some (.pointer none))(hsh:w.shape? b=some (217,2))(hfz:w.frozen? ⟨b,0,none⟩=false) :
  Calls Tryz.prog 174 #[.pointer (some ⟨b,0,none⟩)] w fun e w'=>e=.returned (.tuple #[])∧w'=w.setCell ⟨b,0,none⟩ (.pointer (some ⟨b,0,none⟩)):=by
 obtain ⟨j,hj,hjs⟩:=Option.map_eq_some_iff.1 bsize
 go_enter Tryz.func174,Tryz.ntmps174
 go_wp2
 rw [Lib.run_to_unsafe w ⟨b,0,none⟩ Tryz.underlying215 Tryz.underlying258 hj (by rw [hjs];decide) hsh (Nat.zero_lt_succ 1)]
 simp only [Result.andThen]
 rw [Oper.upon_value]
 go_wp2
 rw [run_callFunc_extern Tryz.func187 (by kernel_rfl) (by kernel_rfl) (by kernel_rfl) (e:=Extern.AbiNoEscape.same) (by kernel_rfl)]
 rw [Lib.run_noEscape]
 simp only [Result.andThen]
 rw [Oper.upon_value]
 go_wp2
 rw [Lib.run_from_unsafe w ⟨b,0,none⟩ Tryz.underlying258 Tryz.underlying215 hj hsh blies]
 simp only [Result.andThen]
 rw [Oper.upon_value]
 go_wp2
 go_end0
 exact ⟨rfl,rfl⟩
theorem bcheck_any (B b:Nat)(bs:List Value)(w:World)(h:Lib.IsBuilder 217 5 B b bs w) :
  Calls Tryz.prog 174 #[.pointer (some ⟨b,0,none⟩)] w fun e w'=>e=.returned (.tuple #[])∧Lib.BuilderAt 217 5 B b (.pointer (some ⟨b,0,none⟩)) bs w'∧Below B w w'∧Only b w w':=by
 rcases h with h | h
 ·refine (bcheck_fresh b w h.cell0 h.shape h.frozen0).mono ?_
  rintro e w' ⟨rfl,rfl⟩
  exact ⟨rfl,h.used _,(Below.refl B w).setCell (p:=⟨b,0,none⟩) h.1 _,(Only.refl b w).setCell (p:=⟨b,0,none⟩) (.inl rfl) _⟩
 ·refine (bcheck_used b w h.cell0).mono ?_
  rintro e w' ⟨rfl,rfl⟩
  exact ⟨rfl,h,Below.refl B _,Only.refl b _⟩
theorem byteInfo:(Tryz.prog.info? 5).map (fun i=>(i.zero,i.size,i.bytes))=some (some (.int .u8 0),1,1):=by kernel_rfl
set_option maxRecDepth 100000 in
set_option maxHeartbeats 4000000 in
theorem bwrite_any (B b:Nat)(bs:List Value)(ad:Addr)(m c:Nat)(news:List Value)(w:World)(h:Lib.IsBuilder 217 5 B b bs w)
  (hr:Reads w w.heap.size 1 (some ad) m news)(hnb:ad.block≠b)(h1:∀ u∈news,u.oneCell'=true)(hlen:bs.length+m≤140737488355328)(hBw:B≤w.heap.size) :
  Calls Tryz.prog 138 #[.pointer (some ⟨b,0,none⟩),.slice (some ad) m c] w fun e w'=>e=.returned (.tuple #[.int .i64 m,.nilIface])∧Lib.BuilderAt 217 5 B b (.pointer (some ⟨b,0,none⟩)) (bs++news) w'∧Below B w w':=by
 have HC:=Lib.hid (bcheck_any B b bs w h)
 have HR:=Lib.hid hr
 have HNB:=Lib.hid hnb
 have H1:=Lib.hid h1
 have HLM:=Lib.hid (show (bs++news).length=bs.length+m by rw [List.length_append,hr.1,Nat.mul_one])
 obtain ⟨i0,hi0,hz0,hz1,hz2⟩:=info_parts byteInfo
 clear h hr hnb h1
 go_enter Tryz.func138,Tryz.ntmps138
 go_upto_region 2 with (go_at_call 174;go_loud (refine HC.out.mono ?_;rintro e w1 ⟨rfl,hb,hbl,hon⟩;have HB:=Lib.hid hb;have HBL:=Lib.hid hbl;have HON:=Lib.hid hon;clear hb hbl hon))
 obtain ⟨hB,v,hbk,hown,hne⟩:=HB.out
 have c0:w1.cell? ⟨b,0,none⟩=some (.pointer (some ⟨b,0,none⟩)):=by rw [Lib.cell_of_heap hbk];rfl
 have c1:w1.cell? ⟨b,1,none⟩=some v:=by rw [Lib.cell_of_heap hbk];rfl
 have HR1:=Lib.hid ((reads_only HR.out HON.out (Nat.le_refl _) (fun a ha=>by cases ha;exact HNB.out)).more HON.out.size)
 have HBK:=Lib.hid hbk
 have HOWN:=Lib.hid hown
 have HNE:=Lib.hid hne
 have HBB:=Lib.hid hB
 have HBW:=Lib.hid (show B≤w1.heap.size from Nat.le_trans hBw HBL.out.size)
 have hlt:b<w1.heap.size:=by
  rcases Nat.lt_or_ge b w1.heap.size with h' | h'
  ·exact h'
  ·simp [Array.getElem?_eq_none h'] at hbk
 have HLT:=Lib.hid hlt
 clear hbk hown hne hB HB hlt
 go_wp2_with (at_builtin;go_loud (refine wpList_append_any _ rfl (.tmp 12) (.tmp 13) _ rfl B 5 i0 _ 1 1 Tryz.underlying26 hi0 hz0 hz1 hz2 rfl (by omega) _ bs.length bs rfl HOWN.out w1.heap.size (some ad) m c news rfl HR1.out H1.out (by simp only [maxLen];omega) (by omega) HBW.out ?_;intro v2 w2 hown2 hg2 _;have HO2:=Lib.hid hown2;have HG2:=Lib.hid hg2;have hb2:w2.heap[b]?=some (.cells #[.pointer (some ⟨b,0,none⟩),v] 217 (0,0)):=(hg2.block b HLT.out (fun e=>HNE.out e.symm)).trans HBK.out;have d0:w2.cell? ⟨b,0,none⟩=some (.pointer (some ⟨b,0,none⟩)):=(by rw [Lib.cell_of_heap hb2];rfl);have d1:w2.cell? ⟨b,1,none⟩=some v:=(by rw [Lib.cell_of_heap hb2];rfl);have f1:w2.frozen? ⟨b,1,none⟩=false:=Lib.frozen_of_heap hb2 1;have HB2:=Lib.hid hb2;obtain ⟨ao,c2,rfl,-,-,-⟩:=own_form hown2;clear hown2 hg2 hb2))
 go_ret2
 refine ⟨rfl,?_,?_⟩
 ·exact Lib.BuilderAt.put (T:=217) (e:=5) HBB.out HB2.out (bs':=bs++news) (by rw [HLM.out];exact HO2.out) (by decide)
 ·exact (HBL.out.grown HG2.out (by have:=HBL.out.size;omega) (fun k hk=>(HOWN.out.lt k hk).1)).setCell (p:=⟨b,1,none⟩) HBB.out _
theorem isb_more {T e:TypeId}{B b:Nat}{bs:List Value}{w:World}(h:Lib.IsBuilder T e B b bs w)(o:Obj):Lib.IsBuilder T e B b bs (w.alloc o):=by
 have key:∀ p,Lib.BuilderAt T e B b p bs w→Lib.BuilderAt T e B b p bs (w.alloc o):=fun p h=>by
  have hlt:=h.lt
  obtain ⟨hB,v,hb,ho,hn⟩:=h
  exact ⟨hB,v,(heap_alloc_old w o hlt).trans hb,ho.alloc o,hn⟩
 exact h.elim (fun h=>.inl (key _ h)) (fun h=>.inr (key _ h))
def partB (x:RowI):Nat→List UInt8
 | 0=>[]
 | 1=>be4 x.1
 | _=>be4 x.1++be4 x.2
theorem be4_cells (n:Int):Lib.byteCells (be4 n)=[.int .u8 (n/16777216%256),.int .u8 (n/65536%256),.int .u8 (n/256%256),.int .u8 (n%256)]:=by
 simp [Lib.byteCells,be4,by8_nat]
theorem byteCells_app (l m:List UInt8):Lib.byteCells (l++m)=Lib.byteCells l++Lib.byteCells m:=by simp [Lib.byteCells]
set_option maxRecDepth 100000 in
set_option maxHeartbeats 8000000 in
theorem ptext_any (v:Value)(l:List RowI)(w:World)(h:RowsR w w.heap.size v l)(hok:RowsOk l)(hlen:l.length*8≤140737488351232) :
  Calls Tryz.prog 96 #[v] w fun e w'=>e=.returned (.string (textB l))∧Below w.heap.size w w':=by
 obtain ⟨A,c,rfl,hc,hm,hR⟩:=h
 have HR:=Lib.hid hR
 have HOK:=Lib.hid hok
 unfold maxLen at hm
 clear hR hok
 generalize hn:l.length=n at *
 have HN:=Lib.hid hn
 have hn1:(n:Int)≤17592186043904:=by omega
 clear hn hc
 have HB0:=Lib.hid (show Lib.IsBuilder 217 5 w.heap.size w.heap.size (Lib.byteCells (tabB (l.take 0))) (w.alloc (.cells #[.pointer none,.slice none 0 0] 217)) from
   .inl ⟨Nat.le_refl _,.slice none 0 0,heap_alloc_new w _,World.ownsRow_nil _ _ _ _,by simp [Value.ownBlock]⟩)
 go_enter Tryz.func96,Tryz.ntmps96
 go_wp2
 go_loopw [10] (fun iv wr=>∃ p:Nat,iv=.int .i64 (p:Int)∧p≤n∧Lib.IsBuilder 217 5 w.heap.size w.heap.size (Lib.byteCells (tabB (l.take p))) wr∧Below w.heap.size w wr) (fun iv _=>n-(Lib.intOf iv).toNat)
 case atStart=>exact ⟨0,rfl,Nat.zero_le _,HB0.out,(Below.refl _ _).alloc (Nat.le_refl _) _⟩
 case round =>
  obtain ⟨p,rfl,hp,hI,hB⟩:=hrel
  have HI:=Lib.hid hI
  have HB:=Lib.hid hB
  clear hI hB
  by_cases hlt:p<n
  ·obtain ⟨x,hx⟩:=at_lt (l:=l) (p:=p) (by have:=HN.out;omega)
   have hq:(p:Int)<(n:Int):=by omega
   obtain ⟨b1,o1,rfl,hb1,hcl1⟩:=(HR.out.below HB.out).spot (by omega) (by omega)
   have r0:=hcl1 _ _ (rowCells_at hx).1
   have r1:wr.cell? ⟨b1,o1+p*2+1,none⟩=some (.int .u32 x.2):=hcl1 _ _ (rowCells_at hx).2
   have HX:=Lib.hid hx
   clear hcl1 hx
   have HI3:=Lib.hid (isb_more HI.out (.cells #[.int .u32 x.1,.int .u32 x.2] 81))
   have HB3:=Lib.hid (HB.out.alloc HB.out.size (.cells #[.int .u32 x.1,.int .u32 x.2] 81))
   go_wp2
   go_loopw [19] (fun iv wx=>∃ j:Nat,iv=.int .i64 (j:Int)∧j≤2∧Lib.IsBuilder 217 5 w.heap.size w.heap.size (Lib.byteCells (tabB (l.take p))++Lib.byteCells (partB x j)) wx∧Below w.heap.size w wx) (fun iv _=>2-(Lib.intOf iv).toNat)
   case atStart=>exact ⟨0,rfl,by omega,by simpa [partB,Lib.byteCells] using HI3.out,HB3.out⟩
   case round =>
    obtain ⟨j,rfl,hj,hI2,hB2⟩:=hrel
    obtain rfl | rfl | rfl:j=0∨j=1∨j=2:=by omega
    ·have HI2:=Lib.hid hI2
     have HB2:=Lib.hid hB2
     clear hI2 hB2 hj
     have i0:∀ w,(Instr.index 218 (.agg #[.int .u32 x.1,.int .u32 x.2]) (.int .i64 0)).run Tryz.prog w=.ok (.int .u32 x.1) w:=fun _=>by kernel_rfl
     have HRN:=Lib.hid (reads_new wr #[.int .u8 (x.1/16777216%256),.int .u8 (x.1/65536%256),.int .u8 (x.1/256%256),.int .u8 (x.1%256)] 5 1 4 rfl)
     have HIX:=Lib.hid (isb_more HI2.out (.cells #[.int .u8 (x.1/16777216%256),.int .u8 (x.1/65536%256),.int .u8 (x.1/256%256),.int .u8 (x.1%256)] 5))
     have HBX:=Lib.hid (HB2.out.alloc HB2.out.size (.cells #[.int .u8 (x.1/16777216%256),.int .u8 (x.1/65536%256),.int .u8 (x.1/256%256),.int .u8 (x.1%256)] 5))
     have HLT:=Lib.hid (show w.heap.size<wr.heap.size from by obtain h | h:=HI2.out <;> exact h.lt)
     have HLN:=Lib.hid (show (Lib.byteCells (tabB (l.take p))++Lib.byteCells (partB x 0)).length+4≤140737488355328 by
      rw [List.length_append,Lib.byteCells_length,Lib.byteCells_length,tabB_len,List.length_take]
      have:(partB x 0).length=0:=rfl
      have:=HN.out
      omega)
     go_wp2_with (go_at_call 138;go_loud (refine (bwrite_any w.heap.size w.heap.size _ ⟨wr.heap.size,0,none⟩ 4 4 _ _ HIX.out (by rw [World.size_alloc];exact HRN.out) (by have:=HLT.out;show wr.heap.size≠w.heap.size;omega) (by simp [Value.oneCell']) HLN.out HBX.out.size).mono ?_;rintro e w4 ⟨rfl,hb4,hbl4⟩;have HI4:=Lib.hid hb4;have HB4:=Lib.hid (HBX.out.trans hbl4);clear hb4 hbl4))
     go_roundw
     case rel =>
      refine ⟨0+1,rfl,by omega,.inr ?_,HB4.out⟩
      have h4:=HI4.out
      rw [←be4_cells,List.append_assoc,←byteCells_app] at h4
      exact h4
     case measure=>simp [Lib.intOf]
    ·have HI2:=Lib.hid hI2
     have HB2:=Lib.hid hB2
     clear hI2 hB2 hj
     have i0:∀ w,(Instr.index 218 (.agg #[.int .u32 x.1,.int .u32 x.2]) (.int .i64 1)).run Tryz.prog w=.ok (.int .u32 x.2) w:=fun _=>by kernel_rfl
     have HRN:=Lib.hid (reads_new wr #[.int .u8 (x.2/16777216%256),.int .u8 (x.2/65536%256),.int .u8 (x.2/256%256),.int .u8 (x.2%256)] 5 1 4 rfl)
     have HIX:=Lib.hid (isb_more HI2.out (.cells #[.int .u8 (x.2/16777216%256),.int .u8 (x.2/65536%256),.int .u8 (x.2/256%256),.int .u8 (x.2%256)] 5))
     have HBX:=Lib.hid (HB2.out.alloc HB2.out.size (.cells #[.int .u8 (x.2/16777216%256),.int .u8 (x.2/65536%256),.int .u8 (x.2/256%256),.int .u8 (x.2%256)] 5))
     have HLT:=Lib.hid (show w.heap.size<wr.heap.size from by obtain h | h:=HI2.out <;> exact h.lt)
     have HLN:=Lib.hid (show (Lib.byteCells (tabB (l.take p))++Lib.byteCells (partB x 1)).length+4≤140737488355328 by
      rw [List.length_append,Lib.byteCells_length,Lib.byteCells_length,tabB_len,List.length_take]
      have:(partB x 1).length=4:=rfl
      have:=HN.out
      omega)
     go_wp2_with (go_at_call 138;go_loud (refine (bwrite_any w.heap.size w.heap.size _ ⟨wr.heap.size,0,none⟩ 4 4 _ _ HIX.out (by rw [World.size_alloc];exact HRN.out) (by have:=HLT.out;show wr.heap.size≠w.heap.size;omega) (by simp [Value.oneCell']) HLN.out HBX.out.size).mono ?_;rintro e w4 ⟨rfl,hb4,hbl4⟩;have HI4:=Lib.hid hb4;have HB4:=Lib.hid (HBX.out.trans hbl4);clear hb4 hbl4))
     go_roundw
     case rel =>
      refine ⟨1+1,rfl,by omega,.inr ?_,HB4.out⟩
      have h4:=HI4.out
      rw [←be4_cells,List.append_assoc,←byteCells_app] at h4
      exact h4
     case measure=>simp [Lib.intOf]
    ·have HI2:=Lib.hid (show Lib.IsBuilder 217 5 w.heap.size w.heap.size (Lib.byteCells (tabB (l.take (p+1)))) wr from by
      rw [List.take_add_one,HX.out]
      simp only [Option.toList_some]
      rw [tabB_snoc,byteCells_app]
      exact hI2)
     have HB2:=Lib.hid hB2
     clear hI2 hB2 hj
     go_wp2
     go_roundw
     case rel=>exact ⟨p+1,by go_num,hlt,HI2.out,HB2.out⟩
     case measure=>simp [Lib.intOf];omega
  ·obtain rfl:p=n:=by omega
   have hq:¬ (p:Int)<(p:Int):=by omega
   have HT:=Lib.hid (show l.take p=l from List.take_of_length_le (by rw [HN.out];exact Nat.le_refl _))
   rw [HT.out] at HI
   have HST:=Lib.hid (Go.Proofs.Any.Builder_String_any buildS buildXS w.heap.size w.heap.size (tabB l) wr HI.out HB.out.size)
   go_wp2_with (go_at_call 139;go_loud (refine HST.out.mono ?_;rintro e w5 ⟨rfl,hb5⟩;have HB5:=Lib.hid (HB.out.trans hb5);clear hb5))
   go_ret
   exact ⟨rfl,HB5.out⟩
end
section
open Go.RowKit

/-- Tables, read. -/
def TabsP (w:World)(B:Nat)(v:Value)(ps:List (Value×List RowI)):Prop:=∃ A c,v=.slice A ps.length c∧ps.length≤c∧c≤maxLen∧Reads w B 1 A ps.length (ps.map Prod.fst)∧∀ x∈ps,RowsR w B x.1 x.2
theorem TabsP.below {w w':World}{B:Nat}{v:Value}{ps:List (Value×List RowI)}(h:TabsP w B v ps)(hb:Below B w w'):TabsP w' B v ps:=by
 obtain ⟨A,c,e,h1,h2,h3,h4⟩:=h
 exact ⟨A,c,e,h1,h2,h3.below hb,fun x hx=>(h4 x hx).below hb⟩
theorem TabsP.more {w:World}{B B':Nat}{v:Value}{ps:List (Value×List RowI)}(h:TabsP w B v ps)(hB:B≤B'):TabsP w B' v ps:=by
 obtain ⟨A,c,e,h1,h2,h3,h4⟩:=h
 exact ⟨A,c,e,h1,h2,Reads.more h3 hB,fun x hx=>(h4 x hx).more hB⟩
theorem tabs_of_own {w:World}{base:Nat}{e:TypeId}{v:Value}{ps:List (Value×List RowI)}(h:w.ownsRow base e 1 v ps.length (ps.map Prod.fst))(hr:∀ x∈ps,RowsR w w.heap.size x.1 x.2):TabsP w w.heap.size v ps:=by
 obtain ⟨A,c,e,h1,h2,h3⟩:=own_form h
 exact ⟨A,c,e,h1,h2,h3,hr⟩
theorem tab_cell {ps:List (Value×List RowI)}{i:Nat}{x:Value×List RowI}(h:ps[i]?=some x):(ps.map Prod.fst)[i]?=some x.1:=by simp [h]
theorem tabInfo:(Tryz.prog.info? 74).map (fun i=>(i.zero,i.size,i.bytes))=some (some (.slice none 0 0),1,24):=by kernel_rfl
end
section
open Go.RowKit Go.Shelf Go.Sort

end
section
open Go.RowKit Go.Shelf

theorem keyOf_string_inv {P:Program}{k:TypeId}(hk:P.underlying k=some .string){key:Value}{kl:Lit}(h:keyOf P k key=some kl):∃ x:ByteArray,key=.string x∧kl=strL x∧x.size≤maxLen:=by
 cases key <;> simp [keyOf,hk,mapKey] at h
 rename_i x
 obtain ⟨h1,h2⟩:=h
 exact ⟨x,rfl,h2.symm,h1⟩
theorem zero_rows (w:World):(zeroValue 74).run Tryz.prog w=.ok (.slice none 0 0) w:=by kernel_rfl
theorem intInfo:(Tryz.prog.info? 3).map (fun i=>(i.zero,i.size,i.bytes))=some (some (.int .i64 0),1,8):=by kernel_rfl
/-- A row of its own. -/
def OwnRw (w:World)(B:Nat)(v:Value)(t:List RowI):Prop:=w.ownsRow B 81 2 v t.length (rowCells t)
/-- Tables, a row of its own each, in a row of its own. -/
def OTabs (w:World)(B:Nat)(v:Value)(ps:List (Value×List RowI)):Prop:=w.ownsRow B 74 1 v ps.length (ps.map Prod.fst)∧∀ x∈ps,OwnRw w B x.1 x.2
theorem OTabs.tabs {w:World}{B:Nat}{v:Value}{ps:List (Value×List RowI)}(h:OTabs w B v ps):TabsP w w.heap.size v ps:=tabs_of_own h.1 fun x hx=>rows_of_own (h.2 x hx)
/-- What the map of texts holds behind p tables. -/
def FoldMap (w:World)(B:Nat)(ls:List (List RowI))(p:Nat)(f:ByteArray→Option Value):Prop :=
 (∀ s v,f s=some v→∃ t,s=textB t∧t∈ls.take p∧OwnRw w B v t)∧∀ t∈ls.take p,(f (textB t)).isSome=true
theorem FoldMap.start (w:World)(B:Nat)(ls:List (List RowI)):FoldMap w B ls 0 (fun _=>none):=⟨(fun s v h=>by cases h),fun t ht=>by simp at ht⟩
theorem FoldMap.keep {w w':World}{B:Nat}{ls:List (List RowI)}{p:Nat}{f:ByteArray→Option Value}(h:FoldMap w B ls p f)(hk:∀ v t,OwnRw w B v t→OwnRw w' B v t):FoldMap w' B ls p f :=
 ⟨fun s v hv=>by obtain ⟨t,h1,h2,h3⟩:=h.1 s v hv;exact ⟨t,h1,h2,hk v t h3⟩,h.2⟩
theorem FoldMap.put {w:World}{B:Nat}{ls:List (List RowI)}{p:Nat}{f:ByteArray→Option Value}{t:List RowI}{v:Value}(h:FoldMap w B ls p f)(ht:ls[p]?=some t)(hv:OwnRw w B v t):FoldMap w B ls (p+1) (putMF f (textB t) v):=by
 have hs:ls.take (p+1)=ls.take p++[t]:=by rw [List.take_add_one,ht];rfl
 refine ⟨fun s u hu=>?_,fun u hu=>?_⟩
 ·unfold putMF at hu
  split at hu
  ·rename_i e
   cases hu
   exact ⟨t,e,by rw [hs];simp,hv⟩
  ·obtain ⟨t',h1,h2,h3⟩:=h.1 s u hu
   exact ⟨t',h1,by rw [hs];exact List.mem_append_left _ h2,h3⟩
 ·unfold putMF
  split
  ·rfl
  ·rename_i e
   rw [hs] at hu
   rcases List.mem_append.1 hu with hu | hu
   ·exact h.2 u hu
   ·simp only [List.mem_singleton] at hu
    exact absurd (by rw [hu]) e
theorem rows_map {w w':World}{B b n m:Nat}{f:ByteArray→Option Value}(hm:MapS w b n m f)(hO:Only b w w')(v:Value)(t:List RowI)(h:OwnRw w B v t):OwnRw w' B v t:=World.ownsRow.kept h hO (by
 cases hk:v.ownBlock with
 | none=>exact .inl rfl
 | some k=>exact .inr (by rw [←hk];exact own_map hm h))
/-- Numbers, read. -/
def IntsR (w:World)(B:Nat)(v:Value)(ks:List Nat):Prop:=∃ A c,v=.slice A ks.length c∧ks.length≤c∧c≤maxLen∧Reads w B 1 A ks.length (ks.map fun k:Nat=>Value.int .i64 (k:Int))
theorem ints_of_own {w:World}{base:Nat}{e:TypeId}{v:Value}{ks:List Nat}(h:w.ownsRow base e 1 v ks.length (ks.map fun k:Nat=>Value.int .i64 (k:Int))):IntsR w w.heap.size v ks:=own_form h
def FoldPost (ls:List (List RowI))(w:World)(e:Ending)(w':World):Prop :=
 ((¬ (∀ t∈ls,RiseL kl t)∧e=.returned (.tuple #[.slice none 0 0,.slice none 0 0,.int .i64 2])) ∨
  ((∀ t∈ls,RiseL kl t)∧∃ v av ps ks,e=.returned (.tuple #[v,av,.int .i64 0])∧ps.map Prod.snd=poolL tl ls∧OTabs w' w.heap.size v ps∧w'.ownsRow w.heap.size 3 1 av ks.length (ks.map fun k:Nat=>Value.int .i64 (k:Int))∧FoldAt ls ks))∧Below w.heap.size w w'
/-- All keys that the map has. -/
theorem keys_all {w:World}{ls:List (List RowI)}{f:ByteArray→Option Value}{ks:List ByteArray}{B:Nat}(hF:FoldMap w B ls ls.length f)(hok:∀ t∈ls,RowsOk t)(hsz:∀ t∈ls,t.length*8≤140737488351232)(hnd:ks.Nodup)
  (hk:∀ s,strOk s→((f s).isSome=true↔s∈ks))(hks:∀ s∈ks,strOk s):sortT ks=(poolL tl ls).map textB:=by
 rw [sortT_pool hnd,←pool_texts hok]
 refine poolL_congr blT fun s=>⟨fun hs=>?_,fun hs=>?_⟩
 ·have h1:=(hk s (hks s hs)).2 hs
  obtain ⟨v,hv⟩:=Option.isSome_iff_exists.1 h1
  obtain ⟨t,h2,h3,-⟩:=hF.1 s v hv
  rw [List.take_length] at h3
  exact List.mem_map.2 ⟨t,h3,h2.symm⟩
 ·obtain ⟨t,ht,rfl⟩:=List.mem_map.1 hs
  refine (hk _ ?_).1 (hF.2 t (by rw [List.take_length];exact ht))
  have:=hsz t ht
  show (textB t).size≤maxLen
  rw [textB_size]
  simp only [maxLen]
  omega
theorem fold_snoc {ls:List (List RowI)}{ks:List Nat}{p k:Nat}{t:List RowI}(h:ks.length=p∧∀(i:Nat) (t:List RowI),i<p→ls[i]?=some t→∃ k,ks[i]?=some k∧(poolL tl ls)[k]?=some t)(ht:ls[p]?=some t)(hk:(poolL tl ls)[k]?=some t) :
  (ks++[k]).length=p+1∧∀(i:Nat) (t:List RowI),i<p+1→ls[i]?=some t→∃ k',(ks++[k])[i]?=some k'∧(poolL tl ls)[k']?=some t:=by
 refine ⟨by simp [h.1],fun i t' hi ht'=>?_⟩
 rcases Nat.lt_or_ge i p with h1 | h1
 ·obtain ⟨k',h2,h3⟩:=h.2 i t' h1 ht'
  exact ⟨k',by rw [List.getElem?_append_left (by rw [h.1];exact h1)];exact h2,h3⟩
 ·obtain rfl:i=p:=by omega
  rw [ht] at ht'
  cases ht'
  exact ⟨k,by rw [List.getElem?_append_right (by rw [h.1];exact Nat.le_refl _),h.1];simp,hk⟩
/-- The halving among the texts of tables. -/
theorem bsearch_any (A:Option Addr)(c N:Nat)(ls:List (List RowI))(t:List RowI)(k:Nat)(w:World)(hN:(poolL tl ls).length=N)(h:Reads w w.heap.size 1 A N (((poolL tl ls).map textB).map Value.string))(hok:∀ t∈ls,RowsOk t)(hk:(poolL tl ls)[k]?=some t)(hl:N≤10000000) :
  Calls Tryz.prog 97 #[.slice A N c,.string (textB t)] w fun e w'=>(∃ o,e=.returned (.tuple #[.int .i64 (k:Nat),o]))∧∃ q,w'=w.drewN q:=by
 subst hN
 have hkl:=(List.getElem?_eq_some_iff.1 hk).1
 obtain ⟨b,o,rfl,hb,hcl⟩:=h.spot (by omega) (by omega)
 refine (Go.Proofs.Any2.slices_BinarySearch_string binS b o (poolL tl ls).length c (fun j=>(((poolL tl ls).map textB)[j]?).getD (textB t)) (textB t) w (by omega) (fun j hj=>?_)).mono ?_
 ·refine hcl j _ ?_
  simp [hj]
 ·rintro e w' ⟨rfl,hq⟩
  rw [halving hok hk]
  exact ⟨⟨_,rfl⟩,hq⟩
/-- The keys met so far. -/
def KeysIn (D:DataW Value)(left:Lit→Bool)(cnt:Nat)(ks:List ByteArray)(m:Nat):Prop :=
 ks.Nodup∧ks.length+cnt≤m∧(∀ s,left (strL s)=(Maps.has D (strL s) && !metB ks s))∧∀ s∈ks,strOk s∧Maps.has D (strL s)=true
theorem KeysIn.start {D:DataW Value}{m:Nat}(h:Maps.size D=m):KeysIn D (Maps.has D) (Maps.size D) [] m :=
 ⟨List.nodup_nil,by simp [h],fun s=>by simp [metB],(fun s hs=>by cases hs)⟩
theorem strL_key (s:ByteArray):(strL s).sameKey (strL s)=true:=WideAt.sameKey_self trivial
theorem KeysIn.step {D:DataW Value}{left:Lit→Bool}{cnt cnt' m:Nat}{ks:List ByteArray}{x:ByteArray}(h:KeysIn D left cnt ks m)(hl:left (strL x)=true)(hx:strOk x)(hc:cnt'<cnt) :
  KeysIn D (fun z=>left z && !z.sameKey (strL x)) cnt' (ks++[x]) m:=by
 obtain ⟨h1,h2,h3,h4⟩:=h
 have h5:=h3 x
 rw [hl] at h5
 have h6:Maps.has D (strL x)=true∧metB ks x=false:=by
  have h:=(Bool.and_eq_true _ _).mp h5.symm
  exact ⟨h.1,by simpa using h.2⟩
 have hnx:x ∉ ks:=fun hm=>by rw [metB_iff.2 hm] at h6;cases h6.2
 refine ⟨List.nodup_append.2 ⟨h1,by simp,fun a ha b hb e=>by simp at hb;subst hb;exact hnx (by rw [←e];exact ha)⟩,by simp;omega,fun s=>?_,fun s hs=>?_⟩
 ·show (left (strL s) && !(strL s).sameKey (strL x))=_
  rw [h3 s]
  by_cases e:s=x
  ·subst e
   rw [strL_key,metB_iff.2 (show s∈ks++[s] by simp)]
   simp
  ·have h7:(strL s).sameKey (strL x)=false:=by
    cases hs:(strL s).sameKey (strL x)
    ·rfl
    ·have:=WideAt.sameKey_eq hs
     unfold strL at this
     obtain ⟨⟨a⟩⟩:=s
     obtain ⟨⟨b⟩⟩:=x
     simp at this
     exact absurd (by rw [this]) e
   rw [h7]
   by_cases hm:s∈ks
   ·rw [metB_iff.2 hm,metB_iff.2 (show s∈ks++[x] by simp [hm])]
    simp
   ·rw [metB_not hm,metB_not (show s ∉ ks++[x] by simp [hm,e])]
    simp
 ·rcases List.mem_append.1 hs with hs | hs
  ·exact h4 s hs
  ·simp only [List.mem_singleton] at hs
   subst hs
   exact ⟨hx,h6.1⟩
theorem KeysIn.all {D:DataW Value}{left:Lit→Bool}{cnt m:Nat}{ks:List ByteArray}(h:KeysIn D left cnt ks m)(hl:∀ kl,left kl=false)(s:ByteArray):Maps.has D (strL s)=true↔s∈ks:=by
 constructor
 ·intro hs
  have:=h.2.2.1 s
  rw [hl,hs] at this
  rcases Classical.em (s∈ks) with hm | hm
  ·exact hm
  ·rw [metB_not hm] at this
   cases this
 ·intro hs
  exact (h.2.2.2 s hs).2
/-- Where the tables so far stand. -/
def FoldPre (ls:List (List RowI))(ks:List Nat)(p:Nat):Prop:=ks.length=p∧∀(i:Nat) (t:List RowI),i<p→ls[i]?=some t→∃ k,ks[i]?=some k∧(poolL tl ls)[k]?=some t
set_option maxRecDepth 100000 in
set_option maxHeartbeats 32000000 in
theorem pfold_any (v:Value)(ps:List (Value×List RowI))(w:World)(h:TabsP w w.heap.size v ps)(hok:∀ x∈ps,RowsOk x.2)(hsz:∀ x∈ps,x.2.length*8≤140737488351232)(hlen:ps.length≤10000000) :
  Calls Tryz.prog 68 #[v] w (FoldPost (ps.map Prod.snd) w):=by
 obtain ⟨A,c,rfl,hc,hm,hR,hRs⟩:=id h
 have hmm:=@run_makeMap Tryz.prog
 obtain ⟨W1,hW1⟩:∃ W1,w.alloc (.map #[] 0)=W1:=⟨_,rfl⟩
 have HB0:=Lib.hid (show Below w.heap.size w W1 from hW1 ▸ (Below.refl _ w).alloc (Nat.le_refl _) (.map #[] 0))
 have HS1:=Lib.hid (show W1.heap.size=w.heap.size+1 by rw [←hW1];simp)
 have HM0:=Lib.hid (show MapS W1 w.heap.size 0 0 (fun _=>none) from hW1 ▸ MapG.made w Tryz.prog 9 strL strOk)
 have HR:=Lib.hid hR
 have HRS:=Lib.hid hRs
 have HOK:=Lib.hid (show ∀ t∈ps.map Prod.snd,RowsOk t from fun t ht=>by obtain ⟨x,hx,rfl⟩:=List.mem_map.1 ht;exact hok x hx)
 have HSZ:=Lib.hid (show ∀ t∈ps.map Prod.snd,t.length*8≤140737488351232 from fun t ht=>by obtain ⟨x,hx,rfl⟩:=List.mem_map.1 ht;exact hsz x hx)
 clear hR hRs hok hsz h
 unfold maxLen at hm
 generalize hls:ps.map Prod.snd=ls at *
 have HLS:=Lib.hid hls
 have HLL:=Lib.hid (show ls.length=ps.length by rw [←hls,List.length_map])
 clear hls
 generalize hn:ps.length=n at *
 have HN:=Lib.hid hn
 have hn1:(n:Int)≤10000000:=by omega
 clear hn hc
 obtain ⟨i0,hi0,hz0,hz1,hz2⟩:=info_parts str_info
 obtain ⟨i1,hi1,hy0,hy1,hy2⟩:=info_parts tabInfo
 obtain ⟨i2,hi2,hx0,hx1,hx2⟩:=info_parts intInfo
 go_enter Tryz.func68,Tryz.ntmps68
 go_upto_region 2 with (fail)
 (try rw [hW1])
 clear hW1 hmm
 go_wp2
 go_loopw [21] (fun iv wr=>∃(p m:Nat) (f:ByteArray→Option Value),iv=.int .i64 (p:Int)∧p≤n∧(∀ t∈ls.take p,RiseL kl t)∧MapS wr w.heap.size p m f∧FoldMap wr w.heap.size ls p f∧Only w.heap.size W1 wr) (fun iv _=>n-(Lib.intOf iv).toNat)
 case atStart=>exact ⟨0,0,_,rfl,Nat.zero_le _,fun t ht=>by simp at ht,HM0.out,FoldMap.start _ _ _,Only.refl _ _⟩
 case round =>
  obtain ⟨p,m,f,rfl,hp,hT,hM,hF,hO⟩:=hrel
  have HT:=Lib.hid hT
  have HM:=Lib.hid hM
  have HF:=Lib.hid hF
  have HON:=Lib.hid hO
  have HBW:=Lib.hid (show Below w.heap.size w wr from HB0.out.trans (hO.below (Nat.le_refl _) HB0.out.size))
  clear hT hM hF hO
  by_cases hlt:p<n
  ·obtain ⟨⟨xv,xl⟩,hx⟩:=at_lt (l:=ps) (p:=p) (by have:=HN.out;omega)
   have hq:(p:Int)<(n:Int):=by omega
   have hXR:=HRS.out _ (List.mem_of_getElem? hx)
   obtain ⟨A3,c3,e3,-⟩:=id hXR
   simp only at e3
   subst e3
   have HXR:=Lib.hid hXR
   obtain ⟨b1,o1,rfl,hb1,hcl1⟩:=(HR.out.below HBW.out).spot (by omega) (by omega)
   have r0:wr.cell? ⟨b1,o1+p,none⟩=some (.slice A3 xl.length c3):=hcl1 _ _ (tab_cell hx)
   have HX:=Lib.hid (show ls[p]?=some xl by rw [←HLS.out,List.getElem?_map,hx];rfl)
   have HXO:=Lib.hid (HOK.out xl (List.mem_of_getElem? HX.out))
   have HXZ:=Lib.hid (HSZ.out xl (List.mem_of_getElem? HX.out))
   have HTS:=Lib.hid (show (textB xl).size≤maxLen by have:=HXZ.out;rw [textB_size];simp only [maxLen];omega)
   have HIS:=Lib.hid (istable_any _ xl wr (HXR.out.on HBW.out))
   clear hcl1 hx hXR
   by_cases hr:RiseL kl xl
   ·rw [decide_eq_true hr] at HIS
    have HRI:=Lib.hid hr
    clear hr
    go_upto_region 7 with (go_at_call 95;go_loud (refine HIS.out.mono ?_;rintro e w1 ⟨v1,q,rfl,rfl,rfl⟩;have HB1:=Lib.hid (show Below wr.heap.size wr (wr.drewN q) from below_drewN (Below.refl _ _) q)))
    go_wp2_with (first
     | (go_at_call 96;go_loud (refine (ptext_any _ xl _ (HXR.out.on (HBW.out.trans (HB1.out.mono HBW.out.size))) HXO.out HXZ.out).mono ?_;rintro e w2 ⟨rfl,hb2⟩;have HB2:=Lib.hid (HB1.out.trans (hb2.mono HB1.out.size));clear hb2))
     | (go_at_call 90;go_loud (refine (clone_any _ xl _ (HXR.out.on (HBW.out.trans (HB2.out.mono HBW.out.size))) HXZ.out).mono ?_;rintro e w3 ⟨⟨cv,rfl,ho3⟩,hb3⟩;have HB3:=Lib.hid (HB2.out.trans (hb3.mono HB2.out.size));have HR3:=Lib.hid (show OwnRw w3 w.heap.size cv xl from own_base ho3 (HBW.out.trans (HB2.out.mono HBW.out.size)).size);have HM3:=Lib.hid (HM.out.on HB3.out);have HF3:=Lib.hid (HF.out.keep (fun v t hv=>own_more hv HB3.out));obtain ⟨w4,hrun,hM4,hg4⟩:=HM3.out.store law_str Tryz.underlying137 (by simp only [maxLen];omega) strL_inj HTS.out (key_str HTS.out) cv;have HM4:=Lib.hid hM4;have HG4:=Lib.hid (show Only w.heap.size w3 w4 from hg4);clear ho3 hb3 hM4 hg4)))
    go_roundw
    case rel =>
     refine ⟨p+1,_,_,by go_num,hlt,fun t ht=>?_,HM4.out,(HF3.out.keep (rows_map HM3.out HG4.out)).put HX.out (rows_map HM3.out HG4.out _ _ HR3.out),?_⟩
     ·rw [List.take_add_one,HX.out] at ht
      rcases List.mem_append.1 ht with ht | ht
      ·exact HT.out t ht
      ·simp only [Option.toList_some,List.mem_singleton] at ht
       rw [ht]
       exact HRI.out
     ·exact (HON.out.trans (Only.of_below HB3.out)).trans HG4.out
    case measure=>simp [Lib.intOf];omega
   ·rw [decide_eq_false hr] at HIS
    have HRI:=Lib.hid hr
    clear hr
    go_wp2_with (go_at_call 95;go_loud (refine HIS.out.mono ?_;rintro e w1 ⟨v1,q,rfl,rfl,rfl⟩))
    go_ret3
    exact ⟨.inl ⟨fun hall=>HRI.out (hall xl (List.mem_of_getElem? HX.out)),rfl⟩,below_drewN HBW.out _⟩
  ·obtain rfl:p=n:=by omega
   have hq:¬ (p:Int)<(p:Int):=by omega
   have HALL:=Lib.hid (show ∀ t∈ls,RiseL kl t from fun t ht=>HT.out t (by rw [List.take_of_length_le (by have:=HLL.out;omega)];exact ht))
   obtain ⟨wa,hwa⟩:∃ wa,wa=wr:=⟨_,rfl⟩
   subst hwa
   obtain ⟨D,hown,hms,hhas,hat⟩:=HM.out
   have HOWN:=Lib.hid hown
   have HMS:=Lib.hid hms
   have HHAS:=Lib.hid hhas
   have hml:m≤p:=HM.out.le
   have HBA:=Lib.hid HM.out.lt
   clear hown hms hhas hat
   go_wp2_with (at_range;go_loud (refine wpList_range_own _ rfl _ 137 rfl 9 74 law_str Tryz.underlying137 rawE w.heap.size p D rfl HOWN.out ?_;intro w5 hrg5 hg5 hs5;have HRG5:=Lib.hid hrg5;have HB5:=Lib.hid (show Below wa.heap.size wa w5 from (Below.refl _ wa).grown hg5 (Nat.le_refl _) (fun k hk=>by cases hk));clear hrg5 hg5 hs5))
   (try go_frame)
   go_loopw [8] (fun kv wx=>∃(left:Lit→Bool) (cnt:Nat) (ks:List ByteArray),wx.ranges Tryz.prog 9 rawE w.heap.size wa.heap.size p D left cnt∧wx.ownsRow (wa.heap.size+1) 9 1 kv ks.length (ks.map Value.string)∧KeysIn D left cnt ks m∧Below wa.heap.size wa wx) (fun _ wx=>wx.rangeLeft w.heap.size wa.heap.size)
   case atStart=>exact ⟨_,_,[],HRG5.out,World.ownsRow_nil _ _ _ _,KeysIn.start HMS.out,HB5.out⟩
   case round =>
    obtain ⟨left,cnt,ks,hrg,hok,hki,hbb⟩:=hrel
    obtain ⟨A1,c1,rfl,hc1,hm1,-⟩:=own_form hok
    have HRG:=Lib.hid hrg
    have HO:=Lib.hid hok
    have HKI:=Lib.hid hki
    have HBB:=Lib.hid hbb
    have hkl:(ks.length:Int)≤10000000:=by have:=hki.2.1;omega
    clear hrg hok hki hbb hc1 hm1
    go_wp2_with (at_next;go_loud (refine wpList_next_ranges _ rfl _ rfl 9 law_str rawE Value.string (fun c:Value=>c) (fun key kl hk=>by obtain ⟨x,h,-⟩:=keyOf_string_inv Tryz.underlying9 hk;exact ⟨x,h⟩) (fun v y _=>⟨v,rfl⟩) w.heap.size wa.heap.size p D left cnt rfl HRG.out ?_ ?_))
    ·intro hc0 hl0
     have HKS:=Lib.hid (show sortT ks=(poolL tl ls).map textB from keys_all (by rw [HLL.out];exact HF.out) HOK.out HSZ.out HKI.out.1 (fun s hs=>by rw [←HHAS.out s hs];exact HKI.out.all hl0 s) (fun s hs=>(HKI.out.2.2.2 s hs).1))
     clear hc0 hl0
     have HKN:=Lib.hid (show ks.length=(poolL tl ls).length by rw [←sortT_len ks,HKS.out,List.length_map])
     generalize hN:(poolL tl ls).length=N at *
     have HPN:=Lib.hid hN
     clear hN
     rw [HKN.out] at hkl
     rw [HKN.out] at HO
     rw [HKN.out]
     have HS:=Lib.hid (show Calls Tryz.prog 42 #[.slice A1 N c1] wr (fun en w'=>en=.returned (.tuple #[])∧w'.ownsRow (wa.heap.size+1) 9 1 (.slice A1 N c1) N (((poolL tl ls).map textB).map Value.string)∧wr.grownBy w' (Value.slice A1 N c1).ownBlock) from by
      have h:=sortS_any (.slice A1 N c1) ks wr (wa.heap.size+1) 9 (by rw [HKN.out];exact HO.out) (by have:=HKN.out;omega)
      unfold SortPost at h
      rw [HKN.out,HKS.out] at h
      exact h)
     have hN1:(N:Int)≤10000000:=by omega
     go_upto_region 16 with (go_at_call 42;go_loud (refine HS.out.mono ?_;rintro en w7 ⟨rfl,ho7,hg7⟩;have HK7:=Lib.hid (Reads.of_own ho7);have HB7:=Lib.hid (HBB.out.grown hg7 HBB.out.size (fun k hk=>by have:=(HO.out.lt k hk).1;omega));clear ho7 hg7))
     have HM7:=Lib.hid (HM.out.on HB7.out)
     have HF7:=Lib.hid (HF.out.keep (fun v t hv=>own_more hv HB7.out))
     clear HS HRG
     go_wp2
     go_loopw [10,48] (fun ov iv wx=>∃(q:Nat) (qs:List (Value×List RowI)),iv=.int .i64 (q:Int)∧q≤N∧qs.map Prod.snd=(poolL tl ls).take q∧wx.ownsRow w7.heap.size 74 1 ov q (qs.map Prod.fst)∧(∀ x∈qs,OwnRw w7 w.heap.size x.1 x.2)∧Below w7.heap.size w7 wx) (fun _ iv _=>N-(Lib.intOf iv).toNat)
     case atStart=>exact ⟨0,[],rfl,Nat.zero_le _,rfl,World.ownsRow_nil _ _ _ _,(fun x hx=>by cases hx),Below.refl _ _⟩
     case round =>
      obtain ⟨q,qs,rfl,hq0,hqs,hO3,hR3,hB3⟩:=hrel
      have HQS:=Lib.hid hqs
      have HO3:=Lib.hid hO3
      have HR3:=Lib.hid hR3
      have HB3:=Lib.hid hB3
      clear hqs hO3 hR3 hB3
      by_cases hlt3:q<N
      ·obtain ⟨t,ht⟩:=at_lt (l:=poolL tl ls) (p:=q) (by rw [HPN.out];exact hlt3)
       have hq3:(q:Int)<(N:Int):=by omega
       have hmem:t∈ls:=(poolL_mem ls t).1 (List.mem_of_getElem? ht)
       obtain ⟨fv,hfv⟩:=Option.isSome_iff_exists.1 (HF7.out.2 t (by rw [List.take_of_length_le (by have:=HLL.out;omega)];exact hmem))
       obtain ⟨t',h1,h2,h3⟩:=HF7.out.1 _ _ hfv
       obtain rfl:=textB_inj (HOK.out t hmem) (HOK.out t' (List.mem_of_mem_take h2)) h1
       obtain ⟨A5,c5,rfl,-,-,-⟩:=own_form h3
       have HTV:=Lib.hid h3
       have HT:=Lib.hid ht
       have hts:(textB t).size≤maxLen:=by have:=HSZ.out t hmem;rw [textB_size];simp only [maxLen];omega
       have hlk:=(HM7.out.on HB3.out).look law_str Tryz.underlying137 (zero_rows wr) hts (key_str hts)
       rw [hfv] at hlk
       simp only [Option.getD_some] at hlk
       obtain ⟨b1,o1,rfl,hb1,hcl1⟩:=(HK7.out.below HB3.out).spot (by omega) (by omega)
       have r0:wr.cell? ⟨b1,o1+q,none⟩=some (.string (textB t)):=hcl1 _ _ (by simp [ht])
       have HA:=Lib.hid (And.intro (HO3.out.alloc (.cells #[Value.slice A5 t.length c5] 74)) (And.intro (reads_new wr #[Value.slice A5 t.length c5] 74 1 1 rfl) (show w7.heap.size≤(wr.alloc (.cells #[Value.slice A5 t.length c5] 74)).heap.size by have:=HB3.out.size;simp;omega)))
       clear hcl1 ht h1 h2 h3 hfv hmem hts
       go_wp2_with (at_builtin;go_loud (refine wpList_append_any _ rfl (.tmp 52) (.tmp 56) _ rfl w7.heap.size 74 i1 _ 1 24 Tryz.underlying130 hi1 hy0 hy1 hy2 rfl (by omega) _ q (qs.map Prod.fst) rfl HA.out.1 (wr.heap.size+1) (some ⟨wr.heap.size,0,none⟩) 1 1 [Value.slice A5 t.length c5] rfl HA.out.2.1 (by simp [Value.oneCell']) (by simp only [maxLen];omega) (by omega) HA.out.2.2 ?_;intro v3 w8 hown8 hg8 hat8;have HO8:=Lib.hid hown8;have HB8:=Lib.hid ((HB3.out.alloc HB3.out.size _).grown hg8 HA.out.2.2 (fun k hk=>(HO3.out.lt k hk).1));clear hown8 hg8 hat8))
       go_roundw
       case rel =>
        refine ⟨q+1,qs++[(.slice A5 t.length c5,t)],by go_num,hlt3,?_,by simpa using HO8.out,fun x hx=>?_,HB8.out⟩
        ·rw [List.map_append,HQS.out,List.take_add_one,HT.out]
         rfl
        ·rcases List.mem_append.1 hx with hx | hx
         ·exact HR3.out x hx
         ·simp only [List.mem_singleton] at hx
          subst hx
          exact HTV.out
       case measure=>simp [Lib.intOf];omega
      ·obtain rfl:q=N:=by omega
       have hq3:¬ (q:Int)<(q:Int):=by omega
       obtain ⟨w8,hw8⟩:∃ w8,w8=wr:=⟨_,rfl⟩
       subst hw8
       have HQL:=Lib.hid (show qs.length=q by rw [←List.length_map (f:=Prod.snd),HQS.out,List.length_take,HPN.out,Nat.min_self])
       have HQP:=Lib.hid (show qs.map Prod.snd=poolL tl ls by rw [HQS.out,List.take_of_length_le (by rw [HPN.out];exact Nat.le_refl _)])
       have HTB:=Lib.hid (show OTabs w8 w.heap.size _ qs from ⟨own_base (by rw [HQL.out];exact HO3.out) (HBW.out.trans (HB7.out.mono HBW.out.size)).size,fun x hx=>own_more (HR3.out x hx) HB3.out⟩)
       have HBW8:=Lib.hid (show Below w.heap.size w w8 from HBW.out.trans ((HB7.out.trans (HB3.out.mono HB7.out.size)).mono HBW.out.size))
       have HK8:=Lib.hid ((HK7.out.below HB3.out).more HB3.out.size)
       go_wp2
       go_loopw [13,61] (fun av iv wx=>∃(j:Nat) (js:List Nat),iv=.int .i64 (j:Int)∧j≤p∧FoldPre ls js j∧wx.ownsRow w8.heap.size 3 1 av j (js.map fun k:Nat=>Value.int .i64 (k:Int))∧Below w8.heap.size w8 wx) (fun _ iv _=>p-(Lib.intOf iv).toNat)
       case atStart=>exact ⟨0,[],rfl,Nat.zero_le _,⟨rfl,fun i t hi=>absurd hi (by omega)⟩,World.ownsRow_nil _ _ _ _,Below.refl _ _⟩
       case round =>
        obtain ⟨j,js,rfl,hj0,hjs,hO4,hB4⟩:=hrel
        have HJS:=Lib.hid hjs
        have HO4:=Lib.hid hO4
        have HB4:=Lib.hid hB4
        clear hjs hO4 hB4
        by_cases hlt4:j<p
        ·obtain ⟨⟨xv,xl⟩,hx⟩:=at_lt (l:=ps) (p:=j) (by have:=HN.out;omega)
         have hq4:(j:Int)<(p:Int):=by omega
         have hXR:=HRS.out _ (List.mem_of_getElem? hx)
         obtain ⟨A3,c3,e3,-⟩:=id hXR
         simp only at e3
         subst e3
         have HXR:=Lib.hid hXR
         have HBX:=Lib.hid (HBW8.out.trans (HB4.out.mono HBW8.out.size))
         obtain ⟨b1,o1,rfl,hb1,hcl1⟩:=(HR.out.below HBX.out).spot (by omega) (by omega)
         have r0:wr.cell? ⟨b1,o1+j,none⟩=some (.slice A3 xl.length c3):=hcl1 _ _ (tab_cell hx)
         have HX:=Lib.hid (show ls[j]?=some xl by rw [←HLS.out,List.getElem?_map,hx];rfl)
         have HXO:=Lib.hid (HOK.out xl (List.mem_of_getElem? HX.out))
         have HXZ:=Lib.hid (HSZ.out xl (List.mem_of_getElem? HX.out))
         obtain ⟨k,hk⟩:=pool_at (List.mem_of_getElem? HX.out)
         have HKX:=Lib.hid hk
         clear hcl1 hx hXR hk
         go_upto_region 26 with (first
          | (go_at_call 96;go_loud (refine (ptext_any _ xl _ (HXR.out.on HBX.out) HXO.out HXZ.out).mono ?_;rintro e w9 ⟨rfl,hb9⟩;have HB9:=Lib.hid (HB4.out.trans (hb9.mono HB4.out.size));have HO9:=Lib.hid (own_more HO4.out hb9);clear hb9))
          | (go_at_call 97;go_loud (refine (bsearch_any A1 c1 q ls xl k _ HPN.out ((HK8.out.below HB9.out).more HB9.out.size) HOK.out HKX.out (by omega)).mono ?_;rintro e w10 ⟨⟨ob,rfl⟩,q10,rfl⟩)))
         have HA:=Lib.hid (fun q:Nat=>And.intro ((show (w9.drewN q).ownsRow w8.heap.size 3 1 _ j (js.map fun k:Nat=>Value.int .i64 (k:Int)) from HO9.out).alloc (.cells #[.int .i64 (k:Int)] 3)) (And.intro (reads_new (w9.drewN q) #[.int .i64 (k:Int)] 3 1 1 rfl) (show w8.heap.size≤((w9.drewN q).alloc (.cells #[.int .i64 (k:Int)] 3)).heap.size by have:=HB9.out.size;simp;omega)))
         go_wp2_with (at_builtin;go_loud (refine wpList_append_any _ rfl (.tmp 72) (.tmp 74) _ rfl w8.heap.size 3 i2 _ 1 8 Tryz.underlying62 hi2 hx0 hx1 hx2 rfl (by omega) _ j (js.map fun k:Nat=>Value.int .i64 (k:Int)) rfl (HA.out _).1 (w9.heap.size+1) (some ⟨w9.heap.size,0,none⟩) 1 1 [.int .i64 (k:Int)] rfl (HA.out _).2.1 (by simp [Value.oneCell']) (by simp only [maxLen];omega) (by omega) (HA.out 0).2.2 ?_;intro v3 w11 hown11 hg11 hat11;have HO11:=Lib.hid hown11;have HB11:=Lib.hid (((below_drewN HB9.out _).alloc (below_drewN HB9.out _).size _).grown hg11 (HA.out 0).2.2 (fun k hk=>(HO9.out.lt k hk).1));clear hown11 hg11 hat11))
         go_roundw
         case rel=>exact ⟨j+1,js++[k],by go_num,hlt4,fold_snoc HJS.out HX.out HKX.out,by simpa using HO11.out,HB11.out⟩
         case measure=>simp [Lib.intOf];omega
        ·obtain rfl:j=p:=by omega
         have hq4:¬ (j:Int)<(j:Int):=by omega
         have HJL:=Lib.hid HJS.out.1
         have HIN:=Lib.hid (own_base (base':=w.heap.size) HO4.out HBW8.out.size)
         have HFA:=Lib.hid (show FoldAt ls js from ⟨by rw [HJL.out,HLL.out],fun i t ht=>HJS.out.2 i t (by have:=(List.getElem?_eq_some_iff.1 ht).1;have:=HLL.out;omega) ht⟩)
         go_wp2
         go_ret3
         exact ⟨.inr ⟨HALL.out,_,_,qs,js,rfl,HQP.out,⟨own_more HTB.out.1 HB4.out,fun x hx=>own_more (HTB.out.2 x hx) HB4.out⟩,(by rw [HJL.out];exact HIN.out),HFA.out⟩,HBW8.out.trans (HB4.out.mono HBW8.out.size)⟩
    ·intro x cv kl ya yb w6 cnt6 hkey hlk hRv hat6 hrg6 hlt6 hg6 hs6 hen6
     obtain ⟨x',ex,rfl,hxs⟩:=keyOf_string_inv Tryz.underlying9 hkey
     cases ex
     have HRG6:=Lib.hid hrg6
     have HKI6:=Lib.hid (HKI.out.step hlk hxs hlt6)
     have HLT6:=Lib.hid hlt6
     have HO6:=Lib.hid (HO.out.kept hg6 (.inr (fun e=>by have:=(HO.out.lt _ e).1;omega)))
     have HB6:=Lib.hid (HBB.out.grown hg6 HBB.out.size (fun k hk=>by cases hk;exact Nat.le_refl _))
     have HKC:=Lib.hid HKI.out.2.1
     clear hkey hlk hRv hat6 hrg6 hlt6 hg6 hs6 hxs
     have HA:=Lib.hid (And.intro (HO6.out.alloc (.cells #[.string x] 9)) (And.intro (reads_new w6 #[.string x] 9 1 1 rfl) (show wa.heap.size+1≤(w6.alloc (.cells #[.string x] 9)).heap.size by have:=HB6.out.size;simp;omega)))
     go_wp2_with (at_builtin;go_loud (refine wpList_append_any _ rfl (.tmp 40) (.tmp 42) _ rfl (wa.heap.size+1) 9 i0 _ 1 16 Tryz.underlying37 hi0 hz0 hz1 hz2 rfl (by omega) _ ks.length (ks.map Value.string) rfl HA.out.1 (w6.heap.size+1) (some ⟨w6.heap.size,0,none⟩) 1 1 [.string x] rfl HA.out.2.1 (by simp [Value.oneCell']) (by simp only [maxLen];omega) (by omega) HA.out.2.2 ?_;intro v3 w8 hown8 hg8 hat8;have HO8:=Lib.hid hown8;have HRG8:=Lib.hid ((HRG6.out.alloc (.cells #[.string x] 9)).kept hg8 (fun e=>by have:=(HA.out.1.lt _ e.symm).1;have:=HBA.out;omega) (fun e=>by have:=(HA.out.1.lt _ e.symm).1;omega));have HB8:=Lib.hid ((HB6.out.alloc HB6.out.size (.cells #[.string x] 9)).grown hg8 (by have:=HA.out.2.2;omega) (fun k hk=>by have:=(HA.out.1.lt k hk).1;omega));clear hown8 hg8 hat8))
     go_roundw
     case rel=>exact ⟨_,cnt6,ks++[x],HRG8.out,by simpa using HO8.out,HKI6.out,HB8.out⟩
     case measure=>rw [HRG8.out.left_eq,HRG.out.left_eq];exact HLT6.out
/-- .. what comes back is the call's own. -/
theorem pfold_own {v:Value}{ls:List (List RowI)}{w:World}(h:Calls Tryz.prog 68 #[v] w (FoldPost ls w))(hn:∀ t∈ls,RiseL kl t) :
  Calls Tryz.prog 68 #[v] w fun e w'=>(∃ v av ps ks,e=.returned (.tuple #[v,av,.int .i64 0])∧ps.map Prod.snd=poolL tl ls∧OTabs w' w.heap.size v ps∧w'.ownsRow w.heap.size 3 1 av ks.length (ks.map fun k:Nat=>Value.int .i64 (k:Int))∧FoldAt ls ks)∧Below w.heap.size w w' :=
 h.mono fun _ _ ⟨hc,hb⟩=>⟨hc.elim (fun h=>absurd hn h.1) (fun h=>h.2),hb⟩
end
end Go.Proofs.YthdldooilcbmlaaGreatDoor
