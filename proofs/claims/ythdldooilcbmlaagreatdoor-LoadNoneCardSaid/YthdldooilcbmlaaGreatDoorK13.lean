/-
  Texts of mine, joined: BunSort, LoadBun. The conditions stand with each.
-/
import Derived.Test.YthdldooilcbmlaaGreatDoorK12
import Derived.Test.YthdldooilcbmlaaGreatDoorK10
import Derived.Test.YthdldooilcbmlaaGreatDoorK11
set_option linter.unusedVariables false
set_option linter.unusedSimpArgs false
namespace Go.Proofs.YthdldooilcbmlaaGreatDoor
section
open Go.RowKit

/-- A bundle that can be sorted. -/
def SrtIn (l:List PStep):Prop:=l.length≤1000∧(flatB l).length≤10000000∧∀ b∈l,b.1.size≤140737488355328∧∀ x∈b.2,x.1.size≤140737488355328∧x.2.size≤140737488355328
theorem flat_sum_le {l:List PStep}{k:Nat}(h:∀ b∈l,b.2.length≤k):(flatB l).length≤k*l.length:=by
 induction l with
 | nil=>simp [flatB]
 | cons b r ih =>
  have h1:=h b (by simp)
  have h2:=ih fun x hx=>h x (by simp [hx])
  unfold flatB at h2 ⊢
  rw [List.flatMap_cons,List.length_append,List.length_map,List.length_cons,Nat.mul_add,Nat.mul_one]
  omega
theorem flat_take_le (l:List PStep)(i:Nat):(flatB (l.take i)).length≤(flatB l).length:=by
 conv=>rhs;rw [←List.take_append_drop i l]
 unfold flatB
 rw [List.flatMap_append,List.length_append]
 omega
theorem heard_len {l:List PStep}{i j:Nat}{b:PStep}(hb:l[i]?=some b):(heardB l i b j).length≤(flatB l).length:=by
 have h1:=flat_take_le l (i+1)
 rw [←heard_end hb] at h1
 unfold heardB at h1 ⊢
 rw [List.length_append,List.length_map] at h1 ⊢
 rw [List.length_take] at h1 ⊢
 omega
theorem sum_split (N:List ByteArray)(hN:N.Nodup):∀ l:List PStep,(N.map fun n=>(valsOf l n).length).sum≤(flatB l).length
 | []=>by
  have:(N.map fun n=>(valsOf [] n).length)=N.map fun _=>0:=List.map_congr_left fun n _=>by simp [valsOf]
  rw [this,sum_const]
  omega
 | b::r=>by
  have ih:=sum_split N hN r
  have h1:(N.map fun n=>(valsOf (b::r) n).length)=N.map fun n=>(if b.1=n then b.2.length else 0)+(valsOf r n).length:=List.map_congr_left fun n _=>by
   unfold valsOf
   by_cases e:b.1=n
   ·simp [e]
   ·simp [e]
  have h2:∀ M:List ByteArray,M.Nodup→(M.map fun n=>if b.1=n then b.2.length else 0).sum≤b.2.length:=by
   intro M hM
   induction M with
   | nil=>simp
   | cons m M ihM =>
    obtain ⟨h3,h4⟩:=List.nodup_cons.1 hM
    rw [List.map_cons,List.sum_cons]
    by_cases e:b.1=m
    ·have h5:(M.map fun n=>if b.1=n then b.2.length else 0)=M.map fun _=>0:=List.map_congr_left fun n hn=>by
      rw [if_neg]
      intro e2
      exact h3 (by rw [←e,e2];exact hn)
     rw [if_pos e,h5,sum_const]
     omega
    ·rw [if_neg e]
     have:=ihM h4
     omega
  have h6:∀ M:List ByteArray,(M.map fun n=>(if b.1=n then b.2.length else 0)+(valsOf r n).length).sum=(M.map fun n=>if b.1=n then b.2.length else 0).sum+(M.map fun n=>(valsOf r n).length).sum:=by
   intro M
   induction M with
   | nil=>rfl
   | cons m M ihM =>
    simp only [List.map_cons,List.sum_cons]
    omega
  rw [h1,h6]
  have h7:=h2 N hN
  unfold flatB at ih ⊢
  rw [List.flatMap_cons,List.length_append,List.length_map]
  omega
theorem sum_le_sum {α:Type}{f g:α→Nat}:∀ {l:List α},(∀ x∈l,f x≤g x)→(l.map f).sum≤(l.map g).sum
 | [],_=>Nat.le_refl _
 | x::r,h=>by
  have h1:=h x (by simp)
  have h2:=sum_le_sum (l:=r) fun y hy=>h y (by simp [hy])
  simp only [List.map_cons,List.sum_cons]
  omega
theorem pool_nodup (l:List ByteArray):(poolL bl l).Nodup:=rise_nodup blT (poolL_rise blT l)
theorem valsOf_size {l:List PStep}(h:SrtIn l){n:ByteArray}:∀ x∈valsOf l n,x.1.size≤140737488355328∧x.2.size≤140737488355328:=fun x hx=>by
 obtain ⟨b,hb,-,h2⟩:=valsOf_mem.1 hx
 exact (h.2.2 b hb).2 x h2
theorem valsOf_le (l:List PStep)(n:ByteArray):(valsOf l n).length≤(flatB l).length:=by
 have:=sum_split [n] (by simp) l
 simpa using this
theorem sortOut_fits {l:List PStep}(h:SrtIn l):(∀ b∈sortOut l,b.1.size≤140737488355328∧(∀ x∈b.2,x.1.size≤140737488355328∧x.2.size≤140737488355328)∧b.2.length≤100000000)∧(sortOut l).length≤100000000∧((sortOut l).map fun b=>b.2.length).sum≤90000000:=by
 have h0:=h.2.1
 refine ⟨fun b hb=>?_,?_,?_⟩
 ·unfold sortOut at hb
  obtain ⟨n,hn,rfl⟩:=List.mem_map.1 hb
  obtain ⟨c,hc,e⟩:=List.mem_map.1 ((poolL_mem _ _).1 hn)
  refine ⟨by rw [←e];exact (h.2.2 c hc).1,fun x hx=>valsOf_size h x ((poolL_mem _ _).1 hx),?_⟩
  have h1:=poolL_len (lt:=vlt) (valsOf l n)
  have h2:=valsOf_le l n
  simp only
  omega
 ·unfold sortOut
  rw [List.length_map]
  have h1:=poolL_len (lt:=bl) (l.map Prod.fst)
  rw [List.length_map] at h1
  have:=h.1
  omega
 ·unfold sortOut
  rw [List.map_map]
  have h1:=sum_split (poolL bl (l.map Prod.fst)) (pool_nodup _) l
  have h2:=sum_le_sum (f:=(fun b:PStep=>b.2.length) ∘ fun n=>(n,poolL vlt (valsOf l n))) (g:=fun n=>(valsOf l n).length) (l:=poolL bl (l.map Prod.fst)) (fun n _=>poolL_len (lt:=vlt) (valsOf l n))
  omega
/-- The Books of a bundle, whatever is made behind them. -/
theorem books_far {w:World}{A:Option Addr}{n c:Nat}{l:List PStep}{vs:List Value}(h:StepsR w (.slice A n c) l vs){i:Nat}{b:PStep}(hb:l[i]?=some b):∃ b1 o1 Ak ck,A=some ⟨b1,o1,none⟩∧∀ W,Below w.heap.size w W→W.cell? ⟨b1,o1+i*2,none⟩=some (.string b.1)∧W.cell? ⟨b1,o1+i*2+1,none⟩=some (.slice Ak b.2.length ck)∧KeysAt W W.heap.size (.slice Ak b.2.length ck) b.2:=by
 obtain ⟨b1,o1,c1,Ak,ck,e,hb1,h1,h2,-,h3⟩:=steps_spot h hb
 cases e
 exact ⟨b1,o1,Ak,ck,rfl,fun W hW=>⟨(hW.cell (p:=⟨b1,o1+i*2,none⟩) hb1).trans h1,(hW.cell (p:=⟨b1,o1+i*2+1,none⟩) hb1).trans h2,h3.more hW hW.size⟩⟩
theorem fault_size:(Tryz.prog.info? 54).map (·.size)=some 2:=by kernel_rfl
theorem bsort_result {tmps:Array Value}{w:World}{g g':Nat}{u:Value}{x y:Int}(hB:Blk w g 24 #[u])(hp:tmps.getD 2 undef=.pointer (some ⟨g,0,none⟩))(hB':Blk w g' 54 #[.int .i64 x,.int .i64 y])(hq:tmps.getD 3 undef=.pointer (some ⟨g',0,none⟩)) :
  (results Tryz.f20 tmps).run Tryz.prog w=.ok (.tuple #[.agg #[u],.agg #[.int .i64 x,.int .i64 y]]) w :=
 results_row_row Tryz.results20 tmps w g g' 24 54 _ _ _ _ hp hB hq hB' Tryz.underlying24 rfl bundle_size Tryz.underlying54 rfl fault_size
def BSortPost (l:List PStep)(w:World)(en:Ending)(w':World):Prop:=(∃ u r us e a,en=.returned (.tuple #[.agg #[u],.agg #[.int .i64 e,.int .i64 a]])∧SortIs l r e a∧BunOwn w' w.heap.size u r us)∧Below w.heap.size w w'
theorem bunown_setF {W:World}{h0 i:Nat}{e v:Value}{cs:Array Value}{l:List PStep}{vs:List Value}{base:Nat}(hB:Blk W h0 54 cs)(hO:BunOwn W base v l vs):BunOwn (W.setCell ⟨h0,i,none⟩ e) base v l vs:=by
 have hs:=grown_set W h0 i e
 exact ⟨own_stays3 hO.1 hB (by decide) hs,hO.2.1,fun i b ku hi hj=>own_stays3 (hO.2.2 i b ku hi hj) hB (by decide) hs⟩
/-- What is written behind the walk. -/
theorem res_set {w W:World}(h1:Below w.heap.size w W)(h2:Blk W (w.heap.size+1) 24 #[.slice none 0 0])(h3:Blk W (w.heap.size+2) 54 #[.int .i64 0,.int .i64 0])(u:Value)(e a:Int) :
  Below w.heap.size w (((W.setCell ⟨w.heap.size+1,0,none⟩ u).setCell ⟨w.heap.size+1+1,0,none⟩ (.int .i64 e)).setCell ⟨w.heap.size+1+1,1,none⟩ (.int .i64 a))∧Blk (((W.setCell ⟨w.heap.size+1,0,none⟩ u).setCell ⟨w.heap.size+1+1,0,none⟩ (.int .i64 e)).setCell ⟨w.heap.size+1+1,1,none⟩ (.int .i64 a)) (w.heap.size+1) 24 #[u]∧Blk (((W.setCell ⟨w.heap.size+1,0,none⟩ u).setCell ⟨w.heap.size+1+1,0,none⟩ (.int .i64 e)).setCell ⟨w.heap.size+1+1,1,none⟩ (.int .i64 a)) (w.heap.size+1+1) 54 #[.int .i64 e,.int .i64 a] :=
 ⟨((h1.setCell (by simp) _).setCell (by simp;omega) _).setCell (by simp;omega) _,((h2.set_ 0 u).far (by simp) _).far (by simp) _,((h3.far (by simp) u).set_ 0 (.int .i64 e)).set_ 1 (.int .i64 a)⟩
theorem bun_set {w W:World}{v:Value}{l:List PStep}{vs:List Value}{base:Nat}(h:BunOwn W base v l vs)(h2:Blk W (w.heap.size+1) 24 #[.slice none 0 0])(h3:Blk W (w.heap.size+2) 54 #[.int .i64 0,.int .i64 0])(u:Value)(e a:Int) :
  BunOwn (((W.setCell ⟨w.heap.size+1,0,none⟩ u).setCell ⟨w.heap.size+1+1,0,none⟩ (.int .i64 e)).setCell ⟨w.heap.size+1+1,1,none⟩ (.int .i64 a)) base v l vs:=by
 have s1:=bunown_set (u:=u) h2 h
 have b1:Blk (W.setCell ⟨w.heap.size+1,0,none⟩ u) (w.heap.size+2) 54 #[.int .i64 0,.int .i64 0]:=h3.far (by simp) u
 have s2:=bunown_setF (e:=.int .i64 e) (i:=0) b1 s1
 exact bunown_setF (e:=.int .i64 a) (i:=1) (b1.set_ 0 (.int .i64 e)) s2
/-- A row of a map, written in its own block. -/
theorem PMap.turn {B:Nat}{W W':World}{mr cap:Nat}{ps:List (REnt PKey)}(h:PMap B W mr cap ps){s:ByteArray}{v:Value}{xs:List PKey}(hu:lookF ps s=some v)(hg:W.grownBy W' v.ownBlock)(hown:W'.ownsRow B 71 2 v xs.length (pairCells xs)):PMap B W' mr cap (updM ps s v xs)∧lookF (updM ps s v xs)=lookF ps:=by
 have hf:putMF (lookF ps) s v=lookF ps:=by
  funext t
  unfold putMF
  by_cases e:t=s
  ·rw [if_pos e,e,hu]
  ·rw [if_neg e]
 have hU:=h.2.2.1 _ (look_some hu)
 have hM:MapS W' mr cap ps.length (lookF ps):=h.1.kept hg fun e=>own_map h.1 hU e.symm
 refine ⟨h.put (fun p hp=>own_map h.1 (h.2.2.1 p hp)) (u:=v) (by rw [hu];rfl) hg hown (.inl rfl) (by rw [hf];exact hM) (by rw [hu];rfl) (grown_self W' _) (own_map hM hown),by rw [lookF_upd,hf]⟩
/-- The state while the Books are put together. -/
def SO (w W:World)(go cap:Nat)(nv u:Value)(gs:List ByteArray)(F:ByteArray→Option Value)(p:Nat)(out:List PStep)(us:List Value)(ps:List (REnt PKey)):Prop :=
 Below w.heap.size w W∧Blk W (w.heap.size+1) 24 #[.slice none 0 0]∧Blk W (w.heap.size+2) 54 #[.int .i64 0,.int .i64 0]∧Blk W go 24 #[u]∧PMap w.heap.size W (w.heap.size+4) cap ps∧W.ownsRow w.heap.size 9 1 nv gs.length (strsV gs)∧W.ownsRow w.heap.size 41 2 u p (stepCells out us)∧lookF ps=F∧out.length=p∧us.length=p
section
variable {w W W':World} {go cap p:Nat} {nv u:Value} {gs:List ByteArray} {F:ByteArray→Option Value} {out:List PStep} {us:List Value} {ps:List (REnt PKey)}
theorem SO.on (h:SO w W go cap nv u gs F p out us ps)(hb:Below W.heap.size W W'):SO w W' go cap nv u gs F p out us ps:=by
 obtain ⟨h1,h2,h3,h4,h5,h6,h7,h8⟩:=h
 exact ⟨h1.trans (hb.mono h1.size),h2.below hb h2.lt,h3.below hb h3.lt,h4.below hb h4.lt,h5.on hb,own_more h6 hb,own_more h7 hb,h8⟩
theorem SO.alloc (h:SO w W go cap nv u gs F p out us ps)(o:Obj):SO w (W.alloc o) go cap nv u gs F p out us ps:=h.on ((Below.refl _ W).alloc (Nat.le_refl _) o)
/-- A list is sorted. -/
theorem SO.turn (h:SO w W go cap nv u gs F p out us ps){s:ByteArray}{v:Value}{xs:List PKey}(hu:F s=some v)(hg:W.grownBy W' v.ownBlock)(hown:W'.ownsRow w.heap.size 71 2 v xs.length (pairCells xs)):SO w W' go cap nv u gs F p out us (updM ps s v xs):=by
 obtain ⟨h1,h2,h3,h4,h5,h6,h7,h8,h9⟩:=h
 have hu2:lookF ps s=some v:=by rw [h8];exact hu
 have hU:=h5.2.2.1 _ (look_some hu2)
 obtain ⟨t1,t2⟩:=h5.turn hu2 hg hown
 exact ⟨h1.grown hg h1.size (fun k hk=>(hU.lt k hk).1),blk_stays h2 hU (by decide) hg,blk_stays h3 hU (by decide) hg,blk_stays h4 hU (by decide) hg,t1,own_stays h6 hU (by decide) hg,own_stays h7 hU (by decide) hg,t2.trans h8,h9⟩
/-- A Book is put behind the others. -/
theorem SO.push (h:SO w W go cap nv u gs F p out us ps)(hgo:w.heap.size+4<go){b:PStep}{kv u':Value}(hown:W'.ownsRow w.heap.size 41 2 u' (p+1) (stepCells out us++[.string b.1,kv]))(hg:W.grownBy W' u.ownBlock) :
  SO w (W'.setCell ⟨go,0,none⟩ u') go cap nv u' gs F (p+1) (out++[b]) (us++[kv]) ps∧Blk W' go 24 #[u]:=by
 obtain ⟨h1,h2,h3,h4,h5,h6,h7,h8,h9,h10⟩:=h
 have b1:=h1.grown hg h1.size (fun k hk=>(h7.lt k hk).1)
 have b4:=blk_stays h4 h7 (by decide) hg
 have hs:=grown_set W' go 0 u'
 refine ⟨⟨b1.setCell (by simp;omega) _,(blk_stays h2 h7 (by decide) hg).far (by simp;omega) _,(blk_stays h3 h7 (by decide) hg).far (by simp;omega) _,b4.set_ 0 u',(h5.stays h7 (by decide) hg).staysB b4 (by decide) (by omega) hs,own_stays3 (own_stays h6 h7 (by decide) hg) b4 (by decide) hs,?_,h8,by simp [h9],by simp [h10]⟩,b4⟩
 rw [stepCells_append out us b kv (h10.trans h9.symm)]
 exact own_stays3 hown b4 (by decide) hs
theorem SO.rowAt (h:SO w W go cap nv u gs F p out us ps){s:ByteArray}{v:Value}(hu:F s=some v):W.ownsRow w.heap.size 71 2 v (lookR ps s).length (pairCells (lookR ps s)):=h.2.2.2.2.1.2.2.1 _ (look_some (by rw [h.2.2.2.2.2.2.2.1];exact hu))
theorem SO.bun (h:SO w W go cap nv u gs F p out us ps)(hr:∀(i:Nat) (b:PStep) (kv:Value),out[i]?=some b→us[i]?=some kv→∃ s,F s=some kv∧lookR ps s=b.2):BunOwn W w.heap.size u out us:=by
 obtain ⟨h1,h2,h3,h4,h5,h6,h7,h8,h9,h10⟩:=h
 refine ⟨by rw [h9];exact h7,h10.trans h9.symm,fun i b kv hb hk=>?_⟩
 obtain ⟨s,hs,e⟩:=hr i b kv hb hk
 have:=h5.2.2.1 _ (look_some (by rw [h8];exact hs))
 rw [←e]
 exact this
end
set_option maxHeartbeats 32000000 in
set_option maxRecDepth 100000 in
theorem bsort_any (v:Value)(l:List PStep)(vs:List Value)(w:World)(h:StepsR w v l vs)(hin:SrtIn l) :
  Calls Tryz.prog 20 #[.agg #[v]] w (BSortPost l w):=by
 have HS:=Lib.hid h
 have HIN:=Lib.hid hin
 obtain ⟨A,c,rfl,-,hc2,-,-,-⟩:=h
 unfold maxLen at hc2
 obtain ⟨n,hN⟩:∃ n,l.length=n:=⟨_,rfl⟩
 have HN:=Lib.hid hN
 have hn1:n≤1000:=by rw [←hN];exact hin.1
 rw [hN] at HS ⊢
 clear hN hin
 have hn2:(n:Int)≤1000:=by omega
 have HFAR:=Lib.hid (fun (i:Nat) (b:PStep) (hb:l[i]?=some b)=>books_far HS.out hb)
 obtain ⟨i0,hi0,hz0,hz1,hz2⟩:=info_parts str_info
 obtain ⟨i1,hi1,hy0,hy1,hy2⟩:=info_parts valueI
 obtain ⟨i2,hi2,hx0,hx1,hx2⟩:=info_parts bookI
 obtain ⟨w5,hw5⟩:∃ w5,((((w.alloc (.cells #[.slice A n c] 24)).alloc (.cells #[.slice none 0 0] 24)).alloc (.cells #[.int .i64 0,.int .i64 0] 54)).alloc (.map #[] 0)).alloc (.map #[] 0)=w5:=⟨_,rfl⟩
 have HW5:=Lib.hid hw5
 have HS0:=Lib.hid (show SS w w5 (.slice none 0 0) [] [] from by
  rw [←hw5]
  refine ⟨((((Below.refl w.heap.size w).alloc (Nat.le_refl _) _).alloc (by simp) _).alloc (by simp;omega) _ |>.alloc (by simp;omega) _).alloc (by simp;omega) _,?_,?_,⟨0,?_⟩,?_,World.ownsRow_nil _ _ _ _⟩
  ·have:=(((Blk.new (w.alloc (.cells #[.slice A n c] 24)) 24 #[.slice none 0 0]).alloc (.cells #[.int .i64 0,.int .i64 0] 54)).alloc (.map #[] 0)).alloc (.map #[] 0)
   simpa only [World.size_alloc] using this
  ·have:=((Blk.new ((w.alloc (.cells #[.slice A n c] 24)).alloc (.cells #[.slice none 0 0] 24)) 54 #[.int .i64 0,.int .i64 0]).alloc (.map #[] 0)).alloc (.map #[] 0)
   simpa only [World.size_alloc] using this
  ·have:=(MapG.made (((w.alloc (.cells #[.slice A n c] 24)).alloc (.cells #[.slice none 0 0] 24)).alloc (.cells #[.int .i64 0,.int .i64 0] 54)) Tryz.prog 94 pairL pairOk).alloc (.map #[] 0)
   simp only [World.size_alloc] at this
   exact this
  ·have:PMap w.heap.size _ _ 0 []:=RowMap.made ((((w.alloc (.cells #[.slice A n c] 24)).alloc (.cells #[.slice none 0 0] 24)).alloc (.cells #[.int .i64 0,.int .i64 0] 54)).alloc (.map #[] 0))
   simp only [World.size_alloc] at this
   exact this)
 have hmm:=@run_makeMap Tryz.prog
 have k0:w5.cell? ⟨w.heap.size,0,none⟩=some (.slice A n c):=by
  rw [←hw5]
  have:=((((Blk.new w 24 #[.slice A n c]).alloc (.cells #[.slice none 0 0] 24)).alloc (.cells #[.int .i64 0,.int .i64 0] 54)).alloc (.map #[] 0)).alloc (.map #[] 0)
  exact this.cell 0
 clear hw5
 go_enter Tryz.func20,Tryz.ntmps20
 go_upto_region 4 with (fail)
 rw [HW5.out]
 go_wp2
 clear k0
 go_loopw [6,26] (fun nv iv W=>∃(i:Nat) (ps:List (REnt PKey)),iv=.int .i64 (i:Int)∧i≤n∧SS w W nv (flatB (l.take i)) ps∧SrtAt (flatB (l.take i)) ps∧ConsF (flatB (l.take i))∧(∀ t,t∈ps.map (fun p=>p.1)↔t∈(l.take i).map Prod.fst)∧ps.length≤i) (fun _ iv _=>n-(Lib.intOf iv).toNat)
 case atStart=>exact ⟨0,[],rfl,Nat.zero_le _,HS0.out,srt_start,(fun x hx=>by cases hx),(by simp),Nat.le_refl _⟩
 case round =>
  clear HS0
  obtain ⟨i,ps,rfl,hi,hS,hP,hC,hK,hpl⟩:=hrel
  have HSS:=Lib.hid hS
  have HP:=Lib.hid hP
  have HC:=Lib.hid hC
  have HK:=Lib.hid hK
  obtain ⟨np,hnp⟩:∃ np,ps.length=np:=⟨_,rfl⟩
  have HNP:=Lib.hid hnp
  rw [hnp] at hpl
  obtain ⟨An,cn,rfl,-,-,-⟩:=own_form (hS.names hnp)
  have HNM:=Lib.hid (hS.names hnp)
  clear hS hP hC hK hnp
  by_cases hlt:i<n
  ·-- <<b1
   have hq:(i:Int)<(n:Int):=by omega
   obtain ⟨⟨nm,vl⟩,hb⟩:∃ b,l[i]?=some b:=⟨_,List.getElem?_eq_getElem (by rw [HN.out];exact hlt)⟩
   obtain ⟨b1,o1,Ak,ck,rfl,hfar⟩:=HFAR.out i _ hb
   obtain ⟨z0,z1,-⟩:=hfar wr HSS.out.1
   have HBB:=Lib.hid hb
   have HIB:=Lib.hid (HIN.out.2.2 _ (List.mem_of_getElem? hb))
   have HKV:=Lib.hid (show ∀ W,Below w.heap.size w W→KeysAt W W.heap.size (.slice Ak vl.length ck) vl from fun W hW=>(hfar W hW).2.2)
   simp only at z0 z1 HIB
   obtain ⟨mk,hmk⟩:∃ mk,vl.length=mk:=⟨_,rfl⟩
   have HMK:=Lib.hid hmk
   rw [hmk] at z1 HKV
   have hmk1:mk≤10000000:=by
    have h1:=heard_len (j:=vl.length) hb
    unfold heardB at h1
    rw [List.length_append,List.length_map,List.take_length,hmk] at h1
    have:=HIN.out.2.1
    omega
   have hmk2:(mk:Int)≤10000000:=by omega
   clear hb hmk hfar
   have HS6:=Lib.hid (HSS.out.alloc (.cells #[.string nm,.slice Ak mk ck] 41))
   have HNM6:=Lib.hid (own_more HNM.out ((Below.refl _ wr).alloc (Nat.le_refl _) (.cells #[.string nm,.slice Ak mk ck] 41)))
   have HG6:=Lib.hid (Blk.new wr 41 #[.string nm,.slice Ak mk ck])
   go_upto_region 7 with (fail)
   have hgkl:w.heap.size+4<wr.heap.size:=HSS.out.lt
   clear HSS HNM
   generalize wr.alloc (.cells #[.string nm,.slice Ak mk ck] 41)=w6 at *
   obtain ⟨gk,hgk⟩:∃ gk,wr.heap.size=gk:=⟨_,rfl⟩
   rw [hgk] at HG6 hgkl ⊢
   clear hgk z0 z1
   have y0:w6.cell? ⟨gk,0,none⟩=some (.string nm):=HG6.out.cell 0
   have hns:strOk nm:=by have h1:=HIB.out.1;unfold strOk maxLen;omega
   have HNS:=Lib.hid hns
   have HLK:=Lib.hid (HS6.out.2.2.2.2.1.1.look_ok law_str Tryz.underlying92 (zero_vals w6) hns (key_str hns))
   clear hns
   rcases Option.eq_none_or_eq_some (lookF ps nm) with hlf | ⟨u,hlf⟩
   case' inl =>
    have HLF:=Lib.hid hlf
    have hlk1:=HLK.out
    rw [hlf] at hlk1
    simp only [Option.getD_none,Option.isSome_none] at hlk1
    clear hlf HLK
    have HSA:=Lib.hid (HS6.out.alloc (.cells #[.string nm] 9))
    have HNA:=Lib.hid (own_more HNM6.out ((Below.refl _ w6).alloc (Nat.le_refl _) (.cells #[.string nm] 9)))
    have HGA:=Lib.hid (HG6.out.alloc (.cells #[.string nm] 9))
    have HAR:=Lib.hid (reads_new w6 #[.string nm] 9 1 1 rfl)
    have HAZ:=Lib.hid HSA.out.1.size
    have HCAP:=Lib.hid (show (flatB (l.take i)).length+ps.length≤10001000 from by
     have h1:=flat_take_le l i
     have h2:=HIN.out.2.1
     have h3:=HNP.out
     omega)
    go_upto_region 11 with (at_builtin;go_must (refine wpList_append_any _ rfl (.tmp 40) (.tmp 43) _ rfl w.heap.size 9 i0 _ 1 16 Tryz.underlying37 hi0 hz0 hz1 hz2 rfl (by omega) _ np _ rfl HNA.out (w6.heap.size+1) (some ⟨w6.heap.size,0,none⟩) 1 1 [.string nm] rfl HAR.out (by simp [Value.oneCell']) (by simp only [maxLen];omega) (by omega) HAZ.out ?_;intro v8 w8 hown8 hg8 hat8;obtain ⟨A9,c9,rfl,-,-,-⟩:=own_form hown8;obtain ⟨w9,hrun,hM9,hg9⟩:=(HSA.out.push hg8).2.2.2.2.1.store law_str Tryz.underlying92 (by have:=HCAP.out;simp only [maxLen];omega) strL_inj HNS.out (key_str HNS.out) (.slice none 0 0);have HS9:=Lib.hid (HSA.out.name HLF.out HNP.out hown8 hg8 hM9 rfl hg9);have HG8:=Lib.hid (blk_stays HGA.out HNA.out (by decide) hg8);have HG9:=Lib.hid (HG8.out.grown hg9 (fun e=>by have:=Option.some.inj e;omega));have y8:w8.cell? ⟨gk,0,none⟩=some (.string nm):=HG8.out.cell 0;clear hown8 hg8 hM9 hg9 hat8))
    clear hrun y8 y0 HG8 HSA HNA HGA HAR HAZ HCAP HG6 HS6 HNM6 hlk1
    obtain ⟨n9,hn9⟩:∃ n9,np+1=n9:=⟨_,rfl⟩
    obtain ⟨ps9,hps9⟩:∃ ps9,updM ps nm (.slice none 0 0) []=ps9:=⟨_,rfl⟩
    have HQ9:=Lib.hid (show SrtAt (flatB (l.take i)) ps9∧(∀ t,t∈ps9.map (fun p=>p.1)↔t∈(l.take (i+1)).map Prod.fst)∧ps9.length=n9∧n9≤i+1 from by
     rw [←hps9]
     refine ⟨HP.out.name HLF.out _,fun t=>?_,?_,by omega⟩
     ·rw [updM_keys,HLF.out,if_neg (by simp),List.mem_append,HK.out t,List.take_add_one,HBB.out,List.map_append,List.mem_append]
      simp
     ·rw [updM_len,HLF.out,if_neg (by simp),HNP.out,hn9])
    rw [hps9,hn9] at HS9
    rw [hn9]
    clear hps9 hn9 HLF HP
   case' inr =>
    have HLF:=Lib.hid hlf
    have hlk1:=HLK.out
    rw [hlf] at hlk1
    simp only [Option.getD_some,Option.isSome_some] at hlk1
    clear hlf HLK
    go_upto_region 11 with (fail)
    obtain ⟨w9,hw9⟩:∃ w9,w9=w6:=⟨_,rfl⟩
    subst hw9
    obtain ⟨A9,hA9⟩:∃ A9,A9=An:=⟨_,rfl⟩
    obtain ⟨c9,hc9⟩:∃ c9,c9=cn:=⟨_,rfl⟩
    obtain ⟨n9,hn9⟩:∃ n9,n9=np:=⟨_,rfl⟩
    obtain ⟨ps9,hps9⟩:∃ ps9,ps9=ps:=⟨_,rfl⟩
    have hlen9:ps.length=np:=HNP.out
    subst hA9 hc9 hn9 hps9
    have HS9:=Lib.hid HS6.out
    have HG9:=Lib.hid HG6.out
    have HQ9:=Lib.hid (show SrtAt (flatB (l.take i)) ps9∧(∀ t,t∈ps9.map (fun p=>p.1)↔t∈(l.take (i+1)).map Prod.fst)∧ps9.length=n9∧n9≤i+1 from by
     refine ⟨HP.out,fun t=>?_,hlen9,by omega⟩
     rw [HK.out t,List.take_add_one,HBB.out,List.map_append,List.mem_append]
     simp only [Option.toList_some,List.map_cons,List.map_nil,List.mem_singleton]
     refine ⟨.inl,fun hh=>hh.elim id fun e=>?_⟩
     rw [←HK.out t,e]
     exact List.mem_map.2 ⟨_,look_some HLF.out,rfl⟩)
    clear HS6 HG6 HNM6 hlk1 y0 hlen9 HLF HP
   all_goals
    clear HK HNP
    have y1:w9.cell? ⟨gk,1,none⟩=some (.slice Ak mk ck):=HG9.out.cell 1
    obtain ⟨ks,hks⟩:∃ ks,ps9.map (fun p=>p.1)=ks:=⟨_,rfl⟩
    have HKS:=Lib.hid (show (∀ t,t∈ks↔t∈(l.take (i+1)).map Prod.fst)∧nm∈ks from by
     rw [←hks]
     refine ⟨HQ9.out.2.1,(HQ9.out.2.1 nm).2 ?_⟩
     rw [List.take_add_one,HBB.out,List.map_append]
     simp)
    have hn91:n9≤i+1:=HQ9.out.2.2.2
    have HKL:=Lib.hid (show ks.length=n9 from by rw [←hks,List.length_map];exact HQ9.out.2.2.1)
    go_wp2
    clear y1
    go_loopw [51] (fun jv W=>∃(j:Nat) (ps':List (REnt PKey)),jv=.int .i64 (j:Int)∧j≤mk∧SS w W (.slice A9 n9 c9) (heardB l i (nm,vl) j) ps'∧SrtAt (heardB l i (nm,vl) j) ps'∧ConsF (heardB l i (nm,vl) j)∧ps'.map (fun p=>p.1)=ks∧Blk W gk 41 #[.string nm,.slice Ak mk ck]) (fun jv _=>mk-(Lib.intOf jv).toNat)
    case atStart=>exact ⟨0,ps9,rfl,Nat.zero_le _,by rw [heard_start];exact HS9.out,by rw [heard_start];exact HQ9.out.1,by rw [heard_start];exact HC.out,hks,HG9.out⟩
    case round =>
     clear HS9 HG9 HQ9
     obtain ⟨j,ps',rfl,hj,hS,hP,hC,hK,hG⟩:=hrel
     have HSS:=Lib.hid hS
     have HP:=Lib.hid hP
     have HC2:=Lib.hid hC
     have HK2:=Lib.hid hK
     have HG:=Lib.hid hG
     have HPL:=Lib.hid (show ps'.length=n9 from by rw [←HKL.out,←hK,List.length_map])
     clear hS hP hC hK hG
     by_cases hjm:j<mk
     ·-- <<b2
      have hq2:(j:Int)<(mk:Int):=by omega
      obtain ⟨⟨xp,xt⟩,hx⟩:∃ x,vl[j]?=some x:=⟨_,List.getElem?_eq_getElem (by rw [HMK.out];exact hjm)⟩
      obtain ⟨bv,ov,rfl,hbv,z0,z1⟩:=keys_spot (HKV.out wr HSS.out.1) hx
      have HIX:=Lib.hid (HIB.out.2 _ (List.mem_of_getElem? hx))
      have HX:=Lib.hid hx
      simp only at z0 z1 HIX
      have HNX:=Lib.hid (heard_next (l:=l) (i:=i) (b:=(nm,vl)) hx)
      have hlL:=heard_len (j:=j) HBB.out
      have hpo:pairOk (nm,xp):=by have h1:=HIB.out.1;have h2:=HIX.out.1;unfold pairOk maxLen;simp only;omega
      have HPO:=Lib.hid hpo
      have HBAD:=Lib.hid (fun t (ht:t≠xt) (hs:saidF (heardB l i (nm,vl) j) (nm,xp)=some (.string t))=>heard_bad HBB.out hx hs ht)
      obtain ⟨L,hL⟩:∃ L,heardB l i (nm,vl) j=L:=⟨_,rfl⟩
      rw [hL] at HSS HP HC2 HNX hlL HBAD
      have hlL2:L.length≤10000000:=by have:=HIN.out.2.1;omega
      clear hx hL
      have hba:=((Below.refl wr.heap.size wr).alloc (Nat.le_refl _) (.cells #[.string xp,.string xt] 71)).alloc (by simp) (.cells #[.string nm,.string xp] 94)
      have HSA:=Lib.hid (HSS.out.on hba)
      have HGA:=Lib.hid (HG.out.below hba HG.out.lt)
      have HV:=Lib.hid ((Blk.new wr 71 #[.string xp,.string xt]).alloc (.cells #[.string nm,.string xp] 94))
      have HPP:=Lib.hid (show Blk _ (wr.heap.size+1) _ _ from by
       have:=Blk.new (wr.alloc (.cells #[.string xp,.string xt] 71)) 94 #[.string nm,.string xp]
       simpa only [World.size_alloc] using this)
      have y0:(wr.alloc (.cells #[.string xp,.string xt] 71)).cell? ⟨gk,0,none⟩=some (.string nm):=(HG.out.alloc _).cell 0
      have y1:(wr.alloc (.cells #[.string xp,.string xt] 71)).cell? ⟨wr.heap.size,0,none⟩=some (.string xp):=(Blk.new wr _ _).cell 0
      have HRK:=Lib.hid (fun (s:ByteArray) (u:Value) (hu:(lookF ps' s).getD (.slice none 0 0)=u) k hk=>((HSS.out.rowAt s hu).lt k hk).2)
      have hlts:wr.heap.size<wr.heap.size+1:=Nat.lt_succ_self _
      have hltk:gk<wr.heap.size:=HG.out.lt
      have hgk2:gk<wr.heap.size+1:=by omega
      go_upto_region 15 with (fail)
      generalize (wr.alloc (.cells #[.string xp,.string xt] 71)).alloc (.cells #[.string nm,.string xp] 94)=w7 at *
      obtain ⟨gx,hgx⟩:∃ gx,wr.heap.size=gx:=⟨_,rfl⟩
      rw [hgx] at HV HPP HRK hltk hgk2 ⊢
      clear hgx y0 y1 z0 z1 hlts hba HSS HG
      have p0:w7.cell? ⟨gx+1,0,none⟩=some (.string nm):=HPP.out.cell 0
      have p1:w7.cell? ⟨gx+1,1,none⟩=some (.string xp):=HPP.out.cell 1
      have n1:w7.cell? ⟨gx,1,none⟩=some (.string xt):=HV.out.cell 1
      obtain ⟨ms,hms⟩:=HSA.out.2.2.2.1
      have HLS:=Lib.hid (hms.look_ok law_pair Tryz.underlying91 (zero_str w7) hpo (key_pair hpo))
      clear hpo hms
      rcases Option.eq_none_or_eq_some (saidF L (nm,xp)) with hsf | ⟨tv,hsf⟩
      ·-- <<c1
       have hls1:=HLS.out
       rw [hsf] at hls1
       simp only [Option.getD_none,Option.isSome_none] at hls1
       obtain ⟨ms,hms⟩:=HSA.out.2.2.2.1
       obtain ⟨w8,hrun,hM8,hg8⟩:=hms.store law_pair Tryz.underlying91 (by simp only [maxLen];omega) pairL_inj HPO.out (key_pair HPO.out) (.string xt)
       have HV8:=Lib.hid (show SV w w8 (.slice A9 n9 c9) L (nm,(xp,xt)) ps' from HSA.out.say (v:=(xp,xt)) hsf hM8 hg8)
       have HG8:=Lib.hid (HGA.out.grown hg8 (fun e=>by have:=Option.some.inj e;omega))
       have HX8:=Lib.hid (HV.out.grown hg8 (fun e=>by have:=Option.some.inj e;omega))
       have HPN:=Lib.hid (fun u=>HP.out.new (v:=(xp,xt)) hsf u)
       have HCN:=Lib.hid (HC2.out.new (v:=(xp,xt)) hsf)
       have n2:w8.cell? ⟨gx,1,none⟩=some (.string xt):=HX8.out.cell 1
       go_upto_region 20 with (fail)
       clear hrun p0 p1 n1 hms hM8 hg8 hsf hls1 HLS
       have hsome:(lookF ps' nm).isSome=true:=by
        cases hl:lookF ps' nm with
        | some u=>rfl
        | none=>exact absurd (by rw [HK2.out];exact HKS.out.2) (lookF_none.1 hl)
       have HSM:=Lib.hid hsome
       have HKN:=Lib.hid (show ∀ u,(updM ps' nm u (lookR ps' nm++[(xp,xt)])).map (fun p=>p.1)=ks from fun u=>by rw [updM_keys,if_pos hsome];exact HK2.out)
       obtain ⟨u,hu⟩:∃ u,(lookF ps' nm).getD (.slice none 0 0)=u:=⟨_,rfl⟩
       have HU:=Lib.hid hu
       obtain ⟨nu,hnu⟩:∃ nu,(lookR ps' nm).length=nu:=⟨_,rfl⟩
       have HNU:=Lib.hid hnu
       have hnu1:nu≤10000000:=by rw [←hnu];exact Nat.le_trans (HP.out.2.2 nm) hlL2
       obtain ⟨Au,cu,rfl,-,-,-⟩:=own_form (HV8.out.rowAt nm hu)
       rw [hnu] at HU
       clear hsome hu
       have hbd:=(Below.refl w8.heap.size w8).drew
       have hbe:=((Below.refl w8.heap.size w8).alloc (Nat.le_refl _) (.cells #[.string xp,.string xt] 71)).drew
       have HVD:=Lib.hid (HV8.out.on hbd)
       have HVE:=Lib.hid (HV8.out.on hbe)
       have hlkD:=HVD.out.2.2.2.2.1.1.look law_str Tryz.underlying92 (zero_vals w8.drew) HNS.out (key_str HNS.out)
       have hlkE:=HVE.out.2.2.2.2.1.1.look law_str Tryz.underlying92 (zero_vals ((w8.alloc (.cells #[.string xp,.string xt] 71)).drew)) HNS.out (key_str HNS.out)
       rw [HU.out] at hlkD hlkE
       have HOB:=Lib.hid (show (w8.alloc (.cells #[.string xp,.string xt] 71)).drew.ownsRow w.heap.size 71 2 (.slice Au nu cu) nu (pairCells (lookR ps' nm)) from by
        have h:=HVE.out.rowAt nm HU.out
        rw [HNU.out] at h
        exact h)
       have HRB:=Lib.hid ((reads_new w8 #[.string xp,.string xt] 71 2 1 rfl).drew)
       have HZB:=Lib.hid HVE.out.1.size
       have HCEL:=Lib.hid (show ∀ w9,(w8.alloc (.cells #[.string xp,.string xt] 71)).drew.grownBy w9 (Value.slice Au nu cu).ownBlock→w9.cell? ⟨gk,0,none⟩=some (.string nm)∧w9.cell? ⟨gx,0,none⟩=some (.string xp)∧w9.cell? ⟨gx,1,none⟩=some (.string xt) from fun w9 hg=>by
        have h1:=blk_stays (HG8.out.below hbe HG8.out.lt) HOB.out (by decide) hg
        have h2:=(HX8.out.below hbe HX8.out.lt).grown hg (fun e=>absurd (HRK.out nm _ HU.out gx e.symm) (Nat.lt_irrefl _))
        exact ⟨h1.cell 0,h2.cell 0,h2.cell 1⟩)
       have HPUT:=Lib.hid (show ∀ v9 w9,w9.ownsRow w.heap.size 71 2 v9 (nu+1) (pairCells (lookR ps' nm)++[.string xp,.string xt])→(w8.alloc (.cells #[.string xp,.string xt] 71)).drew.grownBy w9 (Value.slice Au nu cu).ownBlock→(v9.ownBlock=(Value.slice Au nu cu).ownBlock∨v9.ownBlock=some (w8.alloc (.cells #[.string xp,.string xt] 71)).drew.heap.size)→∃ w10,(Instr.mapUpdate 92 (.map (some (w.heap.size+4))) (.string nm) v9).run Tryz.prog w9=.ok () w10∧SS w w10 (.slice A9 n9 c9) (L++[(nm,(xp,xt))]) (updM ps' nm v9 (lookR ps' nm++[(xp,xt)]))∧Blk w10 gk 41 #[.string nm,.slice (some ⟨bv,ov,none⟩) mk ck] from fun v9 w9 hown hg hat=>by
        obtain ⟨w10,hrun,hM,hg2⟩:=(HVE.out.mapOn HOB.out hg).store law_str Tryz.underlying92 (by simp only [maxLen];have:=HPL.out;omega) strL_inj HNS.out (key_str HNS.out) v9
        have hown2:w9.ownsRow w.heap.size 71 2 v9 (lookR ps' nm++[(xp,xt)]).length (pairCells (lookR ps' nm++[(xp,xt)])):=by
         have e:pairCells (lookR ps' nm++[(xp,xt)])=pairCells (lookR ps' nm)++[.string xp,.string xt]:=by simp [pairCells]
         rw [List.length_append,HNU.out,e]
         exact hown
        exact ⟨w10,hrun,HVE.out.put HSM.out HU.out HOB.out hg hown2 hat hM rfl hg2,(blk_stays (HG8.out.below hbe HG8.out.lt) HOB.out (by decide) hg).grown hg2 (fun e=>by have:=Option.some.inj e;omega)⟩)
       have n0:w8.cell? ⟨gk,0,none⟩=some (.string nm):=HG8.out.cell 0
       have n1:w8.cell? ⟨gx,0,none⟩=some (.string xp):=HX8.out.cell 0
       clear hbd hbe HVD HV8 HSA HP HC2
       refine wp_region_M (fun W=>W.cell? ⟨gk,0,none⟩=some (.string nm)∧W.cell? ⟨gx,0,none⟩=some (.string xp)∧W.cell? ⟨gx,1,none⟩=some (.string xt)) 10 (by kernel_rfl) (by go_keep) (fun hHeld=>?_)
       refine wpAnyM_take (i:=0) (d:=(some 84)) (v:=?_) rfl rfl (by kernel_rfl) (by kernel_rfl) (by kernel_rfl) (by kernel_rfl) (by kernel_rfl) (fun _ _ _ h=>h) (Or.inl ⟨by rfl,?_⟩) (by assumption) ?_
       rotate_left
       ·intro w hSw
        (try dsimp only at hSw)
        go_simp
        (try with_reducible rfl)
       (try simp only [Act.put,List.setIfInBounds_toArray,List.set_cons_zero,List.set_cons_succ])
       refine wpAnyM_take (i:=1) (d:=(some 85)) (v:=?_) rfl rfl (by kernel_rfl) (by kernel_rfl) (by kernel_rfl) (by kernel_rfl) (by kernel_rfl) (fun _ _ _ h=>h) (Or.inl ⟨by rfl,?_⟩) (by assumption) ?_
       rotate_left
       ·intro w hSw
        (try dsimp only at hSw)
        go_simp
        (try with_reducible rfl)
       (try simp only [Act.put,List.setIfInBounds_toArray,List.set_cons_zero,List.set_cons_succ])
       refine wpAnyM_take (i:=2) (d:=(some 86)) (v:=?_) rfl rfl (by kernel_rfl) (by kernel_rfl) (by kernel_rfl) (by kernel_rfl) (by kernel_rfl) (fun _ _ _ h=>h) (Or.inl ⟨by rfl,?_⟩) (by assumption) ?_
       rotate_left
       ·intro w hSw
        (try dsimp only at hSw)
        go_simp
        (try with_reducible rfl)
       (try simp only [Act.put,List.setIfInBounds_toArray,List.set_cons_zero,List.set_cons_succ])
       refine wpAnyM_take (i:=3) (d:=(some 87)) (v:=?_) rfl rfl (by kernel_rfl) (by kernel_rfl) (by kernel_rfl) (by kernel_rfl) (by kernel_rfl) (fun _ _ _ h=>h) (Or.inl ⟨by rfl,?_⟩) (by assumption) ?_
       rotate_left
       ·intro w hSw
        (try dsimp only at hSw)
        go_simp
        (try with_reducible rfl)
       (try simp only [Act.put,List.setIfInBounds_toArray,List.set_cons_zero,List.set_cons_succ])
       refine wpAnyM_take (i:=4) (d:=(some 88)) (v:=?_) rfl rfl (by kernel_rfl) (by kernel_rfl) (by kernel_rfl) (by kernel_rfl) (by kernel_rfl) (fun _ _ _ h=>h) (Or.inl ⟨by rfl,?_⟩) (by assumption) ?_
       rotate_left
       ·intro w hSw
        (try dsimp only at hSw)
        go_simp
        (try with_reducible rfl)
       (try simp only [Act.put,List.setIfInBounds_toArray,List.set_cons_zero,List.set_cons_succ])
       refine wpAnyM_take (i:=5) (d:=(some 89)) (v:=?_) rfl rfl (by kernel_rfl) (by kernel_rfl) (by kernel_rfl) (by kernel_rfl) (by kernel_rfl) (fun _ _ _ h=>h) (Or.inl ⟨by rfl,?_⟩) (by assumption) ?_
       rotate_left
       ·intro w hSw
        (try dsimp only at hSw)
        go_simp
        (try with_reducible rfl)
       (try simp only [Act.put,List.setIfInBounds_toArray,List.set_cons_zero,List.set_cons_succ])
       refine wpAnyM_take (i:=7) (d:=(some 91)) (v:=?_) rfl rfl (by kernel_rfl) (by kernel_rfl) (by kernel_rfl) (by kernel_rfl) (by kernel_rfl) (fun _ _ _ h=>h) (Or.inl ⟨by rfl,?_⟩) (by assumption) ?_
       rotate_left
       ·intro w hSw
        (try dsimp only at hSw)
        go_simp
        (try with_reducible rfl)
       (try simp only [Act.put,List.setIfInBounds_toArray,List.set_cons_zero,List.set_cons_succ])
       refine wpAnyM_two (i:=6) (j:=8) (by kernel_rfl) ?_ ?_
       ·refine owe_early (i:=6) (d:=(some 90)) rfl rfl (fun K hK=>?_)
        go_simp
        refine hK.out _ _ (by go_keep) (fun hHeld=>?_)
        clear hK K
        (try simp only [Act.put,List.setIfInBounds_toArray,List.set_cons_zero,List.set_cons_succ])
        refine wpAnyM_one (i:=8) (by kernel_rfl) ?_
        refine owe_early (i:=8) (d:=(some 92)) rfl rfl (fun K hK=>?_)
        go_simp
        refine hK.out _ _ (by go_keep) (fun hHeld=>?_)
        clear hK K
        (try simp only [Act.put,List.setIfInBounds_toArray,List.set_cons_zero,List.set_cons_succ])
        refine wpAnyM_one (i:=9) (by kernel_rfl) ?_
        refine owe_early (i:=9) (d:=(some 93)) rfl rfl (fun K hK=>?_)
        refine step_append_any (by rfl) (.tmp 90) (.tmp 92) 39 (by rfl) w.heap.size 71 i1 _ 2 32 Tryz.underlying39 hi1 hy0 hy1 hy2 rfl (by omega) (.slice Au nu cu) nu (pairCells (lookR ps' nm)) (by rfl) HOB.out (w8.heap.size+1) (some ⟨w8.heap.size,0,none⟩) 1 1 [.string xp,.string xt] (by rfl) HRB.out (by simp [Value.oneCell']) (by simp only [maxLen];omega) (by omega) HZB.out ?_
        intro v9 w9 hown9 hg9 hat9
        have HAP:=Lib.hid (HPUT.out v9 w9 hown9 hg9 hat9)
        obtain ⟨w10,hrun,HS10,HG10⟩:=HAP.out
        have q0:w9.cell? ⟨gk,0,none⟩=some (.string nm):=(HCEL.out w9 hg9).1
        have q1:w9.cell? ⟨gx,0,none⟩=some (.string xp):=(HCEL.out w9 hg9).2.1
        have q2:w9.cell? ⟨gx,1,none⟩=some (.string xt):=(HCEL.out w9 hg9).2.2
        clear hown9 hg9 hat9 HAP
        refine hK.out _ _ (by go_keep) (fun hHeld=>?_)
        clear hK K
        (try simp only [Act.put,List.setIfInBounds_toArray,List.set_cons_zero,List.set_cons_succ])
        refine wpAnyM_one (i:=10) (by kernel_rfl) ?_
        refine owe_late (i:=10) (d:=none) rfl rfl (by decide) (fun K hK=>?_)
        go_simp
        refine hK.out undef _ ?_
        clear hK K
        (try simp only [Act.put,List.setIfInBounds_toArray,List.set_cons_zero,List.set_cons_succ])
        refine wpAnyM_done (by kernel_rfl) ?_ _
        (try simp only [Act.put,List.setIfInBounds_toArray,List.set_cons_zero,List.set_cons_succ])
        go_wp2
        go_roundw
        case rel=>exact ⟨j+1,_,by go_num,hjm,by rw [HNX.out];exact HS10,by rw [HNX.out];exact HPN.out v9,by rw [HNX.out];exact HCN.out,HKN.out v9,HG10⟩
        case measure=>simp [Lib.intOf];omega
       ·refine owe_early (i:=8) (d:=(some 92)) rfl rfl (fun K hK=>?_)
        go_simp
        refine hK.out _ _ (by go_keep) (fun hHeld=>?_)
        clear hK K
        (try simp only [Act.put,List.setIfInBounds_toArray,List.set_cons_zero,List.set_cons_succ])
        refine wpAnyM_one (i:=6) (by kernel_rfl) ?_
        refine owe_early (i:=6) (d:=(some 90)) rfl rfl (fun K hK=>?_)
        go_simp
        refine hK.out _ _ (by go_keep) (fun hHeld=>?_)
        clear hK K
        (try simp only [Act.put,List.setIfInBounds_toArray,List.set_cons_zero,List.set_cons_succ])
        refine wpAnyM_one (i:=9) (by kernel_rfl) ?_
        refine owe_early (i:=9) (d:=(some 93)) rfl rfl (fun K hK=>?_)
        refine step_append_any (by rfl) (.tmp 90) (.tmp 92) 39 (by rfl) w.heap.size 71 i1 _ 2 32 Tryz.underlying39 hi1 hy0 hy1 hy2 rfl (by omega) (.slice Au nu cu) nu (pairCells (lookR ps' nm)) (by rfl) HOB.out (w8.heap.size+1) (some ⟨w8.heap.size,0,none⟩) 1 1 [.string xp,.string xt] (by rfl) HRB.out (by simp [Value.oneCell']) (by simp only [maxLen];omega) (by omega) HZB.out ?_
        intro v9 w9 hown9 hg9 hat9
        have HAP:=Lib.hid (HPUT.out v9 w9 hown9 hg9 hat9)
        obtain ⟨w10,hrun,HS10,HG10⟩:=HAP.out
        have q0:w9.cell? ⟨gk,0,none⟩=some (.string nm):=(HCEL.out w9 hg9).1
        have q1:w9.cell? ⟨gx,0,none⟩=some (.string xp):=(HCEL.out w9 hg9).2.1
        have q2:w9.cell? ⟨gx,1,none⟩=some (.string xt):=(HCEL.out w9 hg9).2.2
        clear hown9 hg9 hat9 HAP
        refine hK.out _ _ (by go_keep) (fun hHeld=>?_)
        clear hK K
        (try simp only [Act.put,List.setIfInBounds_toArray,List.set_cons_zero,List.set_cons_succ])
        refine wpAnyM_one (i:=10) (by kernel_rfl) ?_
        refine owe_late (i:=10) (d:=none) rfl rfl (by decide) (fun K hK=>?_)
        go_simp
        refine hK.out undef _ ?_
        clear hK K
        (try simp only [Act.put,List.setIfInBounds_toArray,List.set_cons_zero,List.set_cons_succ])
        refine wpAnyM_done (by kernel_rfl) ?_ _
        (try simp only [Act.put,List.setIfInBounds_toArray,List.set_cons_zero,List.set_cons_succ])
        go_wp2
        go_roundw
        case rel=>exact ⟨j+1,_,by go_num,hjm,by rw [HNX.out];exact HS10,by rw [HNX.out];exact HPN.out v9,by rw [HNX.out];exact HCN.out,HKN.out v9,HG10⟩
        case measure=>simp [Lib.intOf];omega
      ·-- <<c2
       obtain ⟨⟨xn,xq,xs⟩,-,-,htv⟩:=saidF_some hsf
       simp only at htv
       subst htv
       have hls1:=HLS.out
       rw [hsf] at hls1
       simp only [Option.getD_some,Option.isSome_some] at hls1
       have hbq:=ba_beqB xs xt
       by_cases he:xs=xt
       ·-- <<c3
        rw [decide_eq_true he] at hbq
        have HN2:=Lib.hid (show SS w w7 (.slice A9 n9 c9) (heardB l i (nm,vl) (j+1)) ps'∧SrtAt (heardB l i (nm,vl) (j+1)) ps'∧ConsF (heardB l i (nm,vl) (j+1)) from by
         rw [he] at hsf
         rw [HNX.out]
         refine ⟨?_,HP.out.skip hsf,HC2.out.same hsf⟩
         obtain ⟨h1,h2,h3,⟨m,h4⟩,h5,h6⟩:=HSA.out
         refine ⟨h1,h2,h3,⟨m,?_⟩,?_,h6⟩
         ·rw [saidF_skip hsf]
          exact h4.mono (by simp)
         ·exact ⟨h5.1.mono (by simp),h5.2⟩)
        clear hsf HLS HSA HP
        go_wp2
        go_roundw
        case rel=>exact ⟨j+1,ps',by go_num,hjm,HN2.out.1,HN2.out.2.1,HN2.out.2.2,HK2.out,HGA.out⟩
        case measure=>simp [Lib.intOf];omega
       ·-- <<c4
        rw [decide_eq_false he] at hbq
        have HBD:=Lib.hid (HBAD.out xs he hsf)
        have u0:w7.cell? ⟨w.heap.size+1,0,none⟩=some (.slice none 0 0):=HSA.out.2.1.cell 0
        have u1:w7.frozen? ⟨w.heap.size+1,0,none⟩=false:=HSA.out.2.1.frozen 0
        have u2:w7.cell? ⟨w.heap.size+1+1,0,none⟩=some (.int .i64 0):=HSA.out.2.2.1.cell 0
        have u3:w7.cell? ⟨w.heap.size+1+1,1,none⟩=some (.int .i64 0):=HSA.out.2.2.1.cell 1
        have u4:w7.frozen? ⟨w.heap.size+1+1,0,none⟩=false:=HSA.out.2.2.1.frozen 0
        have u5:w7.frozen? ⟨w.heap.size+1+1,1,none⟩=false:=HSA.out.2.2.1.frozen 1
        have HRS:=Lib.hid (res_set HSA.out.1 HSA.out.2.1 HSA.out.2.2.1 (.slice none 0 0) 5 (i:Int))
        clear hsf HLS he
        go_wp2
        (try simp only [Exit.inBlock,Exit.then])
        exact bodyPost_ret (bsort_result HRS.out.2.1 rfl HRS.out.2.2 rfl) rfl ⟨⟨_,[],[],5,_,rfl,.inl ⟨i,HBD.out,consF_B.1 HC.out,rfl,rfl,rfl⟩,BunOwn.nil _ _⟩,HRS.out.1⟩
     ·obtain rfl:mk=j:=by omega
      have hq2:¬ (mk:Int)<(mk:Int):=by omega
      have hend:=heard_end HBB.out
      simp only at hend
      rw [HMK.out] at hend
      rw [hend] at HSS HP HC2
      clear hend HG
      go_wp2
      go_roundw
      case rel=>exact ⟨i+1,ps',by go_num,hlt,HSS.out,HP.out,HC2.out,(by rw [HK2.out];exact HKS.out.1),by rw [HPL.out];exact hn91⟩
      case measure=>simp [Lib.intOf];omega
  ·obtain rfl:i=n:=by omega
   have hq:¬ (i:Int)<(i:Int):=by omega
   have htk:l.take i=l:=List.take_of_length_le (by rw [HN.out];exact Nat.le_refl _)
   rw [htk] at HSS HP HC HK
   clear htk
   obtain ⟨gs,hgs⟩:∃ gs,sortT (ps.map fun p=>p.1)=gs:=⟨_,rfl⟩
   have HGE:=Lib.hid (show gs=poolL bl (l.map Prod.fst)∧gs.length=np from by
    rw [←hgs]
    refine ⟨?_,by rw [sortT_len,List.length_map];exact HNP.out⟩
    rw [sortT_pool HSS.out.2.2.2.2.1.2.1]
    exact srt_names HK.out)
   have HSO:=Lib.hid (sortS_any (.slice An np cn) (ps.map fun p=>p.1) wr w.heap.size 9 (by rw [List.length_map,HNP.out];exact HNM.out) (by rw [List.length_map,HNP.out];omega))
   unfold SortPost at HSO
   rw [hgs,List.length_map,HNP.out] at HSO
   have HKI:=Lib.hid (show ∀ g∈gs,∃ v,lookF ps g=some v from fun g hg=>by
    rw [HGE.out.1,poolL_mem,←HK.out g] at hg
    cases hl:lookF ps g with
    | some v=>exact ⟨v,rfl⟩
    | none=>exact absurd hg (lookF_none.1 hl))
   have hnp1:np≤1000:=by omega
   have hnp2:(np:Int)≤1000:=by omega
   clear hgs HK
   go_wp2_with fail
   refine HSO.out.mono ?_
   rintro en w6 ⟨rfl,ho6,hg6⟩
   have HB6:=Lib.hid (HSS.out.push hg6)
   have HN6:=Lib.hid ho6
   clear ho6 hg6 HSO HNM
   go_upto_region 25 with (fail)
   obtain ⟨F,hF⟩:∃ F,lookF ps=F:=⟨_,rfl⟩
   have HO7:=Lib.hid (show SO w (w6.alloc (.cells #[.slice none 0 0] 24)) w6.heap.size ((flatB l).length+ps.length) (.slice An np cn) (.slice none 0 0) gs F 0 [] [] ps from by
    obtain ⟨b1,b2,b3,b4,b5⟩:=HB6.out
    have hb:=(Below.refl w6.heap.size w6).alloc (Nat.le_refl _) (.cells #[.slice none 0 0] 24)
    exact ⟨b1.trans (hb.mono b1.size),b2.alloc _,b3.alloc _,Blk.new w6 _ _,b5.alloc _,by rw [HGE.out.2];exact own_more HN6.out hb,World.ownsRow_nil _ _ _ _,hF,rfl,rfl⟩)
   have hgol:w.heap.size+4<w6.heap.size:=HB6.out.2.2.2.2.1.lt
   rw [hF] at HKI
   have HFE:=Lib.hid hF
   clear HB6 HN6 HSS hF
   generalize w6.alloc (.cells #[.slice none 0 0] 24)=w7 at *
   obtain ⟨go,hgo⟩:∃ go,w6.heap.size=go:=⟨_,rfl⟩
   rw [hgo] at HO7 hgol ⊢
   clear hgo
   go_wp2
   go_loopw [100] (fun pv W=>∃(p:Nat) (u:Value) (us:List Value) (ps':List (REnt PKey)),pv=.int .i64 (p:Int)∧p≤np∧SO w W go ((flatB l).length+ps.length) (.slice An np cn) u gs F p ((gs.take p).map fun g=>(g,poolL vlt (valsOf l g))) us ps'∧us=(gs.take p).map (fun g=>(F g).getD (.slice none 0 0))∧(∀ g,(lookR ps' g).Perm (lookR ps g))∧∀ g∈gs.take p,lookR ps' g=poolL vlt (valsOf l g)) (fun pv _=>np-(Lib.intOf pv).toNat)
   case atStart=>exact ⟨0,_,[],ps,rfl,Nat.zero_le _,HO7.out,rfl,fun g=>List.Perm.refl _,fun g hg=>by cases hg⟩
   case round =>
    clear HO7
    obtain ⟨p,u,us,ps',pv,hp,hO,hus,hpm,hdn⟩:=hrel
    subst pv
    have HO:=Lib.hid hO
    have HUS:=Lib.hid hus
    have HPM:=Lib.hid hpm
    have HDN:=Lib.hid hdn
    obtain ⟨Au,cu,rfl,-,-,-⟩:=own_form hO.2.2.2.2.2.2.1
    clear hO hus hpm hdn
    by_cases hpn:p<np
    ·-- <<b3
     have hq2:(p:Int)<(np:Int):=by omega
     obtain ⟨g,hg⟩:=at_lt (l:=gs) (p:=p) (by rw [HGE.out.2];exact hpn)
     have HGG:=Lib.hid hg
     have hgm:=List.mem_of_getElem? hg
     obtain ⟨An',cn',en',-,-,hRn⟩:=own_form HO.out.2.2.2.2.2.1
     rw [HGE.out.2] at en' hRn
     cases en'
     obtain ⟨q1,p1,rfl,hq1,hcl1⟩:=hRn.spot (by omega) (by omega)
     have r0:wr.cell? ⟨q1,p1+p,none⟩=some (.string g):=hcl1 _ _ (str_at hg)
     obtain ⟨v,hv⟩:=HKI.out g hgm
     have HFV:=Lib.hid hv
     have hgl:g.size≤140737488355328:=by
      rw [HGE.out.1,poolL_mem] at hgm
      obtain ⟨b,hb,e⟩:=List.mem_map.1 hgm
      rw [←e]
      exact (HIN.out.2.2 b hb).1
     have hgo2:strOk g:=by unfold strOk maxLen;omega
     have hlk:=HO.out.2.2.2.2.1.1.look law_str Tryz.underlying92 (zero_vals wr) hgo2 (key_str hgo2)
     rw [HO.out.2.2.2.2.2.2.2.1,hv,Option.getD_some] at hlk
     have hrow:=HO.out.rowAt hv
     obtain ⟨nv,hnv⟩:∃ nv,(lookR ps' g).length=nv:=⟨_,rfl⟩
     have hnv1:nv≤10000000:=by
      rw [←hnv,(HPM.out g).length_eq]
      have h1:=HP.out.2.2 g
      have h2:=HIN.out.2.1
      omega
     obtain ⟨Av,cv,rfl,-,-,-⟩:=own_form hrow
     have HVS:=Lib.hid (vsort_any _ (lookR ps' g) wr w.heap.size hrow (by rw [hnv];exact hnv1))
     have HNV:=Lib.hid hnv
     rw [hnv] at HVS HFV hlk
     clear hg hgm hRn hcl1 hv hgl hgo2 hrow hnv
     go_upto_region 30 with (go_at_call 43;go_must (refine HVS.out.mono ?_;rintro en w8 ⟨rfl,⟨l',hl1,hl2,hl3⟩,hg8⟩;have HL8:=Lib.hid (srt_row HP.out (hl1.trans (HPM.out g)) hl2);have HLL:=Lib.hid (show l'.length=nv from by rw [hl1.length_eq];exact HNV.out);have HL1:=Lib.hid hl1;have HO8:=Lib.hid (HO.out.turn HFV.out hg8 (by rw [HLL.out];exact hl3));clear hl1 hl2 hl3 hg8))
     clear hlk r0 HVS HO
     have HPM8:=Lib.hid (show ∀ t,(lookR (updM ps' g (.slice Av nv cv) l') t).Perm (lookR ps t) from fun t=>by
      rw [lookR_upd]
      by_cases e:t=g
      ·rw [if_pos e,e]
       exact HL1.out.trans (HPM.out g)
      ·rw [if_neg e]
       exact HPM.out t)
     have HDN8:=Lib.hid (show ∀ t∈gs.take (p+1),lookR (updM ps' g (.slice Av nv cv) l') t=poolL vlt (valsOf l t) from fun t ht=>by
      rw [lookR_upd]
      by_cases e:t=g
      ·rw [if_pos e,e]
       exact HL8.out
      ·rw [if_neg e]
       rw [List.take_add_one,HGG.out,List.mem_append] at ht
       rcases ht with ht | ht
       ·exact HDN.out t ht
       ·simp only [Option.toList_some,List.mem_singleton] at ht
        exact absurd ht e)
     obtain ⟨ps8,hps8⟩:∃ ps8,updM ps' g (.slice Av nv cv) l'=ps8:=⟨_,rfl⟩
     rw [hps8] at HO8 HPM8 HDN8
     clear hps8 HPM HDN
     have u0:w8.cell? ⟨go,0,none⟩=some (.slice Au p cu):=HO8.out.2.2.2.1.cell 0
     have HOA:=Lib.hid (HO8.out.alloc (.cells #[.string g,.slice Av nv cv] 41))
     have HRA:=Lib.hid (reads_new w8 #[.string g,.slice Av nv cv] 41 2 1 rfl)
     have HZA:=Lib.hid HOA.out.1.size
     have hgo8:go<w8.heap.size:=HO8.out.2.2.2.1.lt
     go_wp2_with (at_builtin;go_must (refine wpList_append_any _ rfl (.tmp 110) (.tmp 114) _ rfl w.heap.size 41 i2 _ 2 40 Tryz.underlying22 hi2 hx0 hx1 hx2 rfl (by omega) _ p _ rfl HOA.out.2.2.2.2.2.2.1 (w8.heap.size+1) (some ⟨w8.heap.size,0,none⟩) 1 1 [.string g,.slice Av nv cv] rfl HRA.out (by simp [Value.oneCell']) (by simp only [maxLen];omega) (by omega) HZA.out ?_;intro v9 w9 hown9 hg9 hat9;obtain ⟨A9,c9,rfl,-,-,-⟩:=own_form hown9;have HQ9:=Lib.hid (HOA.out.push hgol (b:=(g,poolL vlt (valsOf l g))) hown9 hg9);have u1:w9.cell? ⟨go,0,none⟩=some (.slice Au p cu):=HQ9.out.2.cell 0;have u2:w9.frozen? ⟨go,0,none⟩=false:=HQ9.out.2.frozen 0;clear hown9 hg9 hat9))
     go_roundw
     case rel=>exact ⟨p+1,_,_,ps8,by go_num,hpn,(by rw [List.take_add_one,HGG.out,List.map_append];exact HQ9.out.1),(by rw [List.take_add_one,HGG.out,List.map_append,←HUS.out];simp [HFV.out]),HPM8.out,HDN8.out⟩
     case measure=>simp [Lib.intOf];omega
    ·obtain rfl:np=p:=by omega
     have hq2:¬ (np:Int)<(np:Int):=by omega
     have htk:gs.take np=gs:=List.take_of_length_le (by rw [HGE.out.2];exact Nat.le_refl _)
     have HEQ:=Lib.hid (show (gs.take np).map (fun g=>(g,poolL vlt (valsOf l g)))=sortOut l from by rw [htk,HGE.out.1];rfl)
     rw [HEQ.out] at HO
     have HBO:=Lib.hid (HO.out.bun (fun i b kv hb hk=>by
      rw [←HEQ.out,List.getElem?_map] at hb
      rw [HUS.out,List.getElem?_map] at hk
      cases hx:(gs.take np)[i]? with
      | none=>rw [hx] at hb;cases hb
      | some s =>
       rw [hx] at hb hk
       cases hb
       have hm:=List.mem_of_getElem? hx
       obtain ⟨v,hv⟩:=HKI.out s (by rw [htk] at hm;exact hm)
       simp only [Option.map_some,Option.some.injEq] at hk
       rw [hv,Option.getD_some] at hk
       exact ⟨s,by rw [hv,hk],HDN.out s hm⟩))
     clear htk
     have HCN:=Lib.hid (consF_B.1 HC.out)
     obtain ⟨ce,hce⟩:∃ ce,(checkB (sortOut l)).1=ce:=⟨_,rfl⟩
     obtain ⟨ca,hca⟩:∃ ca,(checkB (sortOut l)).2=ca:=⟨_,rfl⟩
     have HCE:=Lib.hid (And.intro hce hca)
     have HCK:=Lib.hid (show Calls Tryz.prog 46 #[.agg #[.slice Au np cu]] wr (fun e w'=>e=.returned (.agg #[.int .i64 ce,.int .i64 ca])∧Below wr.heap.size wr w') from by
      have hf:=sortOut_fits HIN.out
      refine (buncheck_any _ _ _ wr HBO.out.steps hf.1 hf.2.1 hf.2.2).mono ?_
      rintro e w' ⟨rfl,hb⟩
      exact ⟨by unfold faultW;rw [hce,hca],hb⟩)
     have u0:wr.cell? ⟨go,0,none⟩=some (.slice Au np cu):=HO.out.2.2.2.1.cell 0
     have HO1:=Lib.hid (show Below w.heap.size w wr∧Blk wr (w.heap.size+1) 24 #[.slice none 0 0]∧Blk wr (w.heap.size+2) 54 #[.int .i64 0,.int .i64 0]∧Blk wr go 24 #[.slice Au np cu] from ⟨HO.out.1,HO.out.2.1,HO.out.2.2.1,HO.out.2.2.2.1⟩)
     clear hce hca HO HUS HPM HDN HEQ HKI HFE
     go_wp2_with fail
     refine HCK.out.mono ?_
     rintro en w8 ⟨rfl,hb8⟩
     have hba:=hb8.trans ((Below.refl w8.heap.size w8).alloc (Nat.le_refl _) (.cells #[.int .i64 ce,.int .i64 ca] 54) |>.mono hb8.size)
     have HO9:=Lib.hid (show Below w.heap.size w (w8.alloc (.cells #[.int .i64 ce,.int .i64 ca] 54))∧Blk (w8.alloc (.cells #[.int .i64 ce,.int .i64 ca] 54)) (w.heap.size+1) 24 #[.slice none 0 0]∧Blk (w8.alloc (.cells #[.int .i64 ce,.int .i64 ca] 54)) (w.heap.size+2) 54 #[.int .i64 0,.int .i64 0]∧Blk (w8.alloc (.cells #[.int .i64 ce,.int .i64 ca] 54)) go 24 #[.slice Au np cu] from ⟨HO1.out.1.trans (hba.mono HO1.out.1.size),HO1.out.2.1.below hba HO1.out.2.1.lt,HO1.out.2.2.1.below hba HO1.out.2.2.1.lt,HO1.out.2.2.2.below hba HO1.out.2.2.2.lt⟩)
     have HB9:=Lib.hid (HBO.out.on hba)
     have HF9:=Lib.hid (Blk.new w8 54 #[.int .i64 ce,.int .i64 ca])
     have hgl9:w.heap.size+1<w8.heap.size:=by have:=HO1.out.2.2.1.lt;have:=hb8.size;omega
     clear hba hb8 HO1 HBO HCK u0
     go_upto_region 33 with (fail)
     generalize w8.alloc (.cells #[.int .i64 ce,.int .i64 ca] 54)=w9 at *
     obtain ⟨g9,hg9⟩:∃ g9,w8.heap.size=g9:=⟨_,rfl⟩
     rw [hg9] at HF9 hgl9 ⊢
     clear hg9
     have hgn9:¬ g9=w.heap.size+1:=by omega
     have hgn8:¬ w.heap.size+1=g9:=by omega
     have y0:w9.cell? ⟨g9,0,none⟩=some (.int .i64 ce):=HF9.out.cell 0
     have y1:w9.cell? ⟨g9,1,none⟩=some (.int .i64 ca):=HF9.out.cell 1
     have u0:w9.cell? ⟨go,0,none⟩=some (.slice Au np cu):=HO9.out.2.2.2.cell 0
     have u1:w9.cell? ⟨w.heap.size+1,0,none⟩=some (.slice none 0 0):=HO9.out.2.1.cell 0
     have u2:w9.frozen? ⟨w.heap.size+1,0,none⟩=false:=HO9.out.2.1.frozen 0
     have u3:w9.cell? ⟨w.heap.size+1+1,0,none⟩=some (.int .i64 0):=HO9.out.2.2.1.cell 0
     have u4:w9.cell? ⟨w.heap.size+1+1,1,none⟩=some (.int .i64 0):=HO9.out.2.2.1.cell 1
     have u5:w9.frozen? ⟨w.heap.size+1+1,0,none⟩=false:=HO9.out.2.2.1.frozen 0
     have u6:w9.frozen? ⟨w.heap.size+1+1,1,none⟩=false:=HO9.out.2.2.1.frozen 1
     by_cases z:ce=0
     ·subst z
      have HRS:=Lib.hid (res_set HO9.out.1 HO9.out.2.1 HO9.out.2.2.1 (.slice Au np cu) 0 0)
      have HBR:=Lib.hid (bun_set HB9.out HO9.out.2.1 HO9.out.2.2.1 (.slice Au np cu) 0 0)
      go_wp2
      (try simp only [Exit.inBlock,Exit.then])
      exact bodyPost_ret (bsort_result HRS.out.2.1 rfl HRS.out.2.2 rfl) rfl ⟨⟨_,sortOut l,_,0,0,rfl,.inr ⟨HCN.out,.inr ⟨HCE.out.1,rfl,rfl,rfl⟩⟩,HBR.out⟩,HRS.out.1⟩
     ·have z3:(ce != 0)=true:=by simpa using z
      have hbd:=(Below.refl w9.heap.size w9).drew
      have HRS:=Lib.hid (res_set (HO9.out.1.trans (hbd.mono HO9.out.1.size)) (HO9.out.2.1.below hbd HO9.out.2.1.lt) (HO9.out.2.2.1.below hbd HO9.out.2.2.1.lt) (.slice none 0 0) ce ca)
      have HZ:=Lib.hid z
      clear z hbd
      go_upto_region 34 with (fail)
      refine wp_region_M (fun W=>W.cell? ⟨g9,0,none⟩=some (.int .i64 ce)∧W.cell? ⟨g9,1,none⟩=some (.int .i64 ca)) 3 (by kernel_rfl) (by go_keep) (fun hHeld=>?_)
      refine wpAnyM_take (i:=0) (d:=(some 123)) (v:=?_) rfl rfl (by kernel_rfl) (by kernel_rfl) (by kernel_rfl) (by kernel_rfl) (by kernel_rfl) (fun _ _ _ h=>h) (Or.inl ⟨by rfl,?_⟩) (by assumption) ?_
      rotate_left
      ·intro w hSw
       (try dsimp only at hSw)
       go_simp
       (try with_reducible rfl)
      (try simp only [Act.put,List.setIfInBounds_toArray,List.set_cons_zero,List.set_cons_succ])
      refine wpAnyM_take (i:=1) (d:=(some 124)) (v:=?_) rfl rfl (by kernel_rfl) (by kernel_rfl) (by kernel_rfl) (by kernel_rfl) (by kernel_rfl) (fun _ _ _ h=>h) (Or.inl ⟨by rfl,?_⟩) (by assumption) ?_
      rotate_left
      ·intro w hSw
       (try dsimp only at hSw)
       go_simp
       (try with_reducible rfl)
      (try simp only [Act.put,List.setIfInBounds_toArray,List.set_cons_zero,List.set_cons_succ])
      refine wpAnyM_one (i:=2) (by kernel_rfl) ?_
      refine owe_early (i:=2) (d:=none) rfl rfl (fun K hK=>?_)
      go_simp
      refine hK.out undef _ (by go_keep) (fun hHeld=>?_)
      clear hK K
      (try simp only [Act.put,List.setIfInBounds_toArray,List.set_cons_zero,List.set_cons_succ])
      refine wpAnyM_one (i:=3) (by kernel_rfl) ?_
      refine owe_late (i:=3) (d:=none) rfl rfl (by decide) (fun K hK=>?_)
      go_simp
      refine hK.out undef _ ?_
      clear hK K
      (try simp only [Act.put,List.setIfInBounds_toArray,List.set_cons_zero,List.set_cons_succ])
      refine wpAnyM_done (by kernel_rfl) ?_ _
      (try simp only [Act.put,List.setIfInBounds_toArray,List.set_cons_zero,List.set_cons_succ])
      go_wp2
      (try simp only [Exit.inBlock,Exit.then])
      exact bodyPost_ret (bsort_result HRS.out.2.1 rfl HRS.out.2.2 rfl) rfl ⟨⟨_,[],[],ce,ca,rfl,.inr ⟨HCN.out,.inl ⟨by rw [HCE.out.1];exact HZ.out,rfl,HCE.out.1.symm,HCE.out.2.symm⟩⟩,BunOwn.nil _ _⟩,HRS.out.1⟩
end
section
open Go.RowKit

set_option maxHeartbeats 400000 in
theorem bytesclone_any (l:List UInt8)(A:Option Addr)(c B:Nat)(w:World)(hr:RB w B A l)(hB:B≤w.heap.size)(hlen:l.length≤140737488355328) :
  Calls Tryz.prog 25 #[.slice A l.length c] w (MadeB w 5 l):=by
 obtain ⟨i0,hi0,hz0,hz1,hz2⟩:=info_parts byte_info
 rcases A with _ | ad
 ·have hl:l=[]:=by
   rcases Nat.eq_zero_or_pos l.length with h0 | h0
   ·exact List.eq_nil_of_length_eq_zero h0
   ·obtain ⟨_,h,_⟩:=hr.2 h0
    cases h
  subst hl
  have heq:=fun W=>Lib.run_eql_slice_nil (P:=Tryz.prog) W 26 5 none 0 c 0 0 Tryz.underlying26
  simp only [List.length_nil]
  go_enter Tryz.func25,Tryz.ntmps25
  go_wp2
  go_ret
  exact ⟨_,rfl,World.ownsRow_nil _ _ _ _,Below.refl _ _⟩
 ·have heq:=fun W=>Lib.run_eql_slice_nil (P:=Tryz.prog) W 26 5 (some ad) l.length c 0 0 Tryz.underlying26
  go_enter Tryz.func25,Tryz.ntmps25
  go_wp2_with (at_builtin;refine wpList_append_any _ rfl (.tmp 5) (.tmp 6) _ rfl w.heap.size 5 i0 _ 1 1 Tryz.underlying26 hi0 hz0 hz1 hz2 rfl (by omega) (.slice (some ⟨w.heap.size,0,none⟩) 0 0) 0 [] rfl (World.ownsRow_made _ _ 0 (Nat.le_refl _) (by simp [maxLen]) rfl) B (some ad) l.length c (bvs l) rfl (Reads.alloc hr hB _) (bvs_one l) (by simp only [maxLen];omega) (by omega) (by simp) ?_;intro v1 w1 hown1 hg1 hat1)
  go_ret
  refine ⟨v1,rfl,by unfold OB;simpa using hown1,((Below.refl _ _).alloc (Nat.le_refl _) _).grown hg1 (by simp) (fun k hk=>?_)⟩
  simp [Value.ownBlock] at hk
  omega
theorem ibundle_result {tmps:Array Value}{w:World}{r0:Nat}{x:Value}(hB:Blk w r0 24 #[x])(hp:tmps.getD 2 undef=.pointer (some ⟨r0,0,none⟩)) :
  (results Tryz.f26 tmps).run Tryz.prog w=.ok (.agg #[x]) w :=
 results_row Tryz.results26 tmps w r0 24 _ _ hp hB Tryz.underlying24 rfl bundle_size
/-- The bundle under way: the result's block, the variable's block, the Books, the Book under way. -/
def TellAt (w W:World)(g2:Nat)(uv:Value)(T:List PStep)(us:List Value)(C gk:Nat)(nm:ByteArray)(vv:Value)(vs:List PKey):Prop :=
 Below w.heap.size w W∧(Blk W g2 24 #[.slice none 0 0]∧Blk W (g2+1) 24 #[uv])∧GotO W (g2+2) C uv T us∧RdBook W gk nm vv vs∧(w.heap.size≤g2∧g2+2≤C∧C≤gk)
section
variable {w W W':World} {g2 C gk n:Nat} {uv vv v':Value} {T:List PStep} {us:List Value} {nm p t:ByteArray} {vs:List PKey}
theorem TellAt.size (h:TellAt w W g2 uv T us C gk nm vv vs):w.heap.size≤W.heap.size:=by
 have:=h.2.1.1.lt
 have:=h.2.2.2.2
 omega
theorem TellAt.on (h:TellAt w W g2 uv T us C gk nm vv vs)(hb:Below W.heap.size W W'):TellAt w W' g2 uv T us C gk nm vv vs :=
 ⟨h.1.trans (hb.mono h.size),⟨h.2.1.1.below hb h.2.1.1.lt,h.2.1.2.below hb h.2.1.2.lt⟩,h.2.2.1.on hb,h.2.2.2.1.on hb,h.2.2.2.2⟩
theorem TellAt.put (h:TellAt w W g2 uv T us C gk nm vv vs)(hn:vs.length=n)(hown:W'.ownsRow (gk+1) 71 2 v' (n+1) (pairCells vs++[.string p,.string t]))(hg:W.grownBy W' vv.ownBlock):TellAt w (W'.setCell ⟨gk,1,none⟩ v') g2 uv T us C gk nm v' (vs++[(p,t)]):=by
 have hu:=fun k e=>(h.2.2.2.1.2.lt k e).1
 have hs:=grown_set W' gk 1 v'
 have hc:=h.2.2.2.2
 have hz:=h.size
 have h1:=h.1.grown hg hz (fun k e=>by have:=hu k e;omega)
 exact ⟨h1.setCell (by simp;omega) _,⟨(h.2.1.1.grown hg (fun e=>by have:=hu _ e.symm;omega)).grown hs (fun e=>by cases e;omega),(h.2.1.2.grown hg (fun e=>by have:=hu _ e.symm;omega)).grown hs (fun e=>by cases e;omega)⟩,(h.2.2.1.kept hg (fun k e=>.inr (by have:=hu k e;omega))).kept hs (fun k e=>by cases e;exact .inr (by omega)),h.2.2.2.1.put hn hown hg,hc⟩
end
theorem rowsM_len (l:List UInt8)(i:IdxM)(t:Nat):(rowsM l i t).length=nrowsM i t:=by unfold rowsM;rw [List.length_map,List.length_range]
/-- The values of a Book's first groups. -/
def tellV (l:List UInt8)(i:IdxM)(gs:List RowI)(m:Nat):List PKey:=(gs.take m).flatMap fun g=>rowsM l i g.2.toNat
theorem tellV_next {l:List UInt8}{i:IdxM}{gs:List RowI}{m:Nat}{x:RowI}(h:gs[m]?=some x):tellV l i gs (m+1)=tellV l i gs m++rowsM l i x.2.toNat:=by
 unfold tellV
 rw [List.take_add_one,h,List.flatMap_append]
 simp
theorem tellV_len (l:List UInt8)(i:IdxM)(gs:List RowI)(m:Nat):(tellV l i gs m).length=rowSum i (gs.take m):=by
 unfold tellV rowSum
 induction gs.take m with
 | nil=>rfl
 | cons x r ih=>rw [List.flatMap_cons,List.length_append,ih,rowsM_len];rfl
/-- What bundle leaves: the told bundle, in rows of the call's own. -/
def TellPost (l:List UInt8)(i:IdxM)(w:World)(e:Ending)(w':World):Prop:=∃ u us,e=.returned (.agg #[u])∧BunOwn w' w.heap.size u (toldM l i) us∧Below w.heap.size w w'
set_option maxHeartbeats 32000000 in
set_option maxRecDepth 100000 in
theorem ibundle_any {w:World}{gx:Nat}{l:List UInt8}{i:IdxM}(h:IdxAt w gx l i)(hok:IdxOk l i)(hl:l.length≤16777216)(hg:∀ k∈i.books,k.2.length≤16777216)(hT:i.texts.length≤16777216)(hX:i.tabs.length≤16777216)(hP:i.paths.length≤16777216) :
  Calls Tryz.prog 26 #[.pointer (some ⟨gx,0,none⟩)] w (TellPost l i w):=by
 have HI:=Lib.hid h
 have HOK:=Lib.hid hok
 have HG:=Lib.hid hg
 obtain ⟨Ak,ck,hK0,hKB⟩:=h.bks
 have HK0:=Lib.hid hK0
 have HKB:=Lib.hid hKB
 have HFEW:=Lib.hid hok.few
 obtain ⟨nK,hnK⟩:∃ nK,i.books.length=nK:=⟨_,rfl⟩
 have HNK:=Lib.hid hnK
 have hb:nK≤513:=by rw [←hnK];exact hok.few
 rw [hnK] at HK0
 have hb2:(nK:Int)≤513:=by omega
 obtain ⟨i1,hi1,hy0,hy1,hy2⟩:=info_parts valueI
 obtain ⟨i2,hi2,hx0,hx1,hx2⟩:=info_parts bookI
 have hb1:=(Below.refl w.heap.size w).alloc (Nat.le_refl _) (.cells #[.slice none 0 0] 24)
 have hba:=hb1.alloc hb1.size (.cells #[.slice none 0 0] 24)
 have HB0:=Lib.hid hba
 have HG2:=Lib.hid (show Blk ((w.alloc (.cells #[.slice none 0 0] 24)).alloc (.cells #[.slice none 0 0] 24)) w.heap.size 24 #[.slice none 0 0]∧Blk ((w.alloc (.cells #[.slice none 0 0] 24)).alloc (.cells #[.slice none 0 0] 24)) (w.heap.size+1) 24 #[.slice none 0 0] from by
  have h2:=Blk.new (w.alloc (.cells #[.slice none 0 0] 24)) 24 #[.slice none 0 0]
  rw [World.size_alloc] at h2
  exact ⟨(Blk.new w 24 _).alloc _,h2⟩)
 have k0:((w.alloc (.cells #[.slice none 0 0] 24)).alloc (.cells #[.slice none 0 0] 24)).cell? ⟨gx,4,none⟩=some (.slice Ak nK ck):=HK0.out _ hba
 clear h hok hg hK0 hKB hnK hb1 hba
 go_enter Tryz.func26,Tryz.ntmps26
 go_upto_region 2 with (fail)
 obtain ⟨w1,hw1⟩:∃ w1,(w.alloc (.cells #[.slice none 0 0] 24)).alloc (.cells #[.slice none 0 0] 24)=w1:=⟨_,rfl⟩
 rw [hw1] at HB0 HG2 k0
 rw [hw1]
 obtain ⟨g2,hg2⟩:∃ g2,w.heap.size=g2:=⟨_,rfl⟩
 have HGE:=Lib.hid hg2
 have HZ1:=Lib.hid (show w1.heap.size=g2+2 from by rw [←hw1,←hg2];simp)
 rw [hg2] at HG2
 rw [hg2]
 clear hw1 hg2
 go_wp2
 clear k0
 go_loopw [17] (fun iv W=>∃(j:Nat) (uv:Value) (us:List Value),iv=.int .i64 (j:Int)∧j≤nK∧Below w.heap.size w W∧(Blk W g2 24 #[.slice none 0 0]∧Blk W (g2+1) 24 #[uv])∧GotO W (g2+2) W.heap.size uv ((toldM l i).take j) us∧g2+2≤W.heap.size) (fun iv _=>nK-(Lib.intOf iv).toNat)
 case atStart=>exact ⟨0,_,[],rfl,Nat.zero_le _,HB0.out,HG2.out,GotO.nil _ _ _,by rw [HZ1.out];exact Nat.le_refl _⟩
 case round =>
  clear HB0 HG2 HZ1
  obtain ⟨j,uv,us,rfl,hj,hB,hG,hO,hZ⟩:=hrel
  have HB:=Lib.hid hB
  have HGG:=Lib.hid hG
  have HO:=Lib.hid hO
  have HZ:=Lib.hid hZ
  have hlt0:((toldM l i).take j).length=j:=by
   unfold toldM
   rw [List.length_take,List.length_map,HNK.out]
   omega
  obtain ⟨Au,cu,euv,-,-,-⟩:=own_form hO.1.1
  rw [hlt0] at euv
  subst euv
  have HTL:=Lib.hid hlt0
  clear hB hG hO hZ hlt0
  by_cases hlt:j<nK
  ·have hq:(j:Int)<(nK:Int):=by omega
   obtain ⟨⟨na,gs⟩,hk⟩:∃ k,i.books[j]?=some k:=⟨_,List.getElem?_eq_getElem (by rw [HNK.out];exact hlt)⟩
   have HTK:=Lib.hid (show (toldM l i).take (j+1)=(toldM l i).take j++[(textM l i na,tellV l i gs gs.length)] from by
    rw [List.take_add_one]
    congr 1
    unfold toldM toldB tellV
    rw [List.getElem?_map,hk,List.take_length]
    rfl)
   obtain ⟨bk,ok,Ag,cg,rfl,hgc,hgm,hfar⟩:=HKB.out j _ hk
   simp only at hgc hfar
   have HFR:=Lib.hid hfar
   obtain ⟨hna,hib⟩:=HOK.out.books _ (List.mem_of_getElem? hk)
   have HIB:=Lib.hid hib
   have hng:=HG.out _ (List.mem_of_getElem? hk)
   have hsum:=(HOK.out.modest _ (List.mem_of_getElem? hk)).1
   simp only at hna hng hsum HIB
   obtain ⟨ng,hng2⟩:∃ ng,gs.length=ng:=⟨_,rfl⟩
   have HNG:=Lib.hid hng2
   rw [hng2] at hng hgc HFR HTK
   have hng3:(ng:Int)≤16777216:=by omega
   have hna3:(na:Int)≤16777216:=by omega
   obtain ⟨z0,z1,-⟩:=HFR.out wr HB.out
   obtain ⟨C,hC⟩:∃ C,wr.heap.size=C:=⟨_,rfl⟩
   have hba:=(Below.refl wr.heap.size wr).alloc (Nat.le_refl _) (.cells #[.int .i64 (na:Int),.slice Ag ng cg] 76)
   have HBA:=Lib.hid hba
   have HB1:=Lib.hid (HB.out.trans (hba.mono HB.out.size))
   have HGK:=Lib.hid (Blk.new wr 76 #[.int .i64 (na:Int),.slice Ag ng cg])
   rw [hC] at HO HZ
   clear hk hfar hba hng2 hib
   go_upto_region 5 with (fail)
   clear z0 z1
   generalize wr.alloc (.cells #[.int .i64 (na:Int),.slice Ag ng cg] 76)=w5 at *
   rw [hC] at HGK
   (try rw [hC])
   have y0:w5.cell? ⟨C,0,none⟩=some (.int .i64 (na:Int)):=HGK.out.cell 0
   obtain ⟨nm,hnm⟩:∃ nm,textM l i na=nm:=⟨_,rfl⟩
   have HNM:=Lib.hid hnm
   rw [hnm] at HTK
   have HTX:=Lib.hid (itext_any (HI.out.on HB1.out) HOK.out.toIdxIn hna hl)
   rw [hnm] at HTX
   clear hnm
   go_upto_region 6 with (go_at_call 29;go_must (refine HTX.out.mono ?_;rintro en w6 ⟨rfl,hb6⟩;have HB6:=Lib.hid hb6;clear hb6))
   clear y0 HTX
   have hba:=(Below.refl w6.heap.size w6).alloc (Nat.le_refl _) (.cells #[.string nm,.slice none 0 0] 41)
   obtain ⟨gk,hgk⟩:∃ gk,w6.heap.size=gk:=⟨_,rfl⟩
   have HBX:=Lib.hid (show Below wr.heap.size wr (w6.alloc (.cells #[.string nm,.slice none 0 0] 41)) from HBA.out.trans ((HB6.out.trans (hba.mono HB6.out.size)).mono HBA.out.size))
   have HC0:=Lib.hid (show TellAt w (w6.alloc (.cells #[.string nm,.slice none 0 0] 41)) g2 (.slice Au j cu) ((toldM l i).take j) us C gk nm (.slice none 0 0) (tellV l i gs 0) from by
    have h1:=Blk.new w6 41 #[.string nm,.slice none 0 0]
    have h2:=HBA.out.size
    have h3:=HB6.out.size
    rw [hgk] at h1
    exact ⟨HB.out.trans (HBX.out.mono HB.out.size),⟨HGG.out.1.below HBX.out HGG.out.1.lt,HGG.out.2.below HBX.out HGG.out.2.lt⟩,HO.out.on HBX.out,⟨h1,World.ownsRow_nil _ _ _ _⟩,by rw [HGE.out];exact Nat.le_refl _,HZ.out,by omega⟩)
   have HG5:=Lib.hid (show Blk (w6.alloc (.cells #[.string nm,.slice none 0 0] 41)) C 76 #[.int .i64 (na:Int),.slice Ag ng cg] from (HGK.out.below HB6.out HGK.out.lt).alloc _)
   (try rw [hgk])
   clear hba hgk hC HBA HGK HB6 HB1 HBX HB HO HGG HZ
   generalize w6.alloc (.cells #[.string nm,.slice none 0 0] 41)=w7 at *
   have y1:w7.cell? ⟨C,1,none⟩=some (.slice Ag ng cg):=HG5.out.cell 1
   go_wp2
   clear y1 HG5
   go_loopw [29] (fun iv W=>∃(m:Nat) (vv:Value),iv=.int .i64 (m:Int)∧m≤ng∧TellAt w W g2 (.slice Au j cu) ((toldM l i).take j) us C gk nm vv (tellV l i gs m)) (fun iv _=>ng-(Lib.intOf iv).toNat)
   case atStart=>exact ⟨0,_,rfl,Nat.zero_le _,HC0.out⟩
   case round =>
    clear HC0
    obtain ⟨m,vv,rfl,hm,hC⟩:=hrel
    have HC:=Lib.hid hC
    clear hC
    by_cases hml:m<ng
    ·have hq2:(m:Int)<(ng:Int):=by omega
     obtain ⟨x,hx⟩:∃ x,gs[m]?=some x:=⟨_,List.getElem?_eq_getElem (by rw [HNG.out];exact hml)⟩
     have HVN:=Lib.hid (show tellV l i gs (m+1)=tellV l i gs m++rowsM l i x.2.toNat from tellV_next hx)
     have hsn:=rowSum_next (i:=i) hx
     obtain ⟨a,b,rfl,hal,hbl⟩:=HIB.out x (List.mem_of_getElem? hx)
     simp only [Int.toNat_natCast] at HVN hsn
     obtain ⟨-,-,hR⟩:=HFR.out wr HC.out.1
     obtain ⟨bg,og,rfl,hbg,hcl⟩:=hR.spot (by omega) (by omega)
     have hat:=rowCells_at hx
     have z0:wr.cell? ⟨bg,og+m*2,none⟩=some (.int .u32 (a:Int)):=hcl _ _ hat.1
     have z1:wr.cell? ⟨bg,og+m*2+1,none⟩=some (.int .u32 (b:Int)):=hcl _ _ hat.2
     have hsl:=rowSum_le i gs (m+1)
     have hnl:=tellV_len l i gs m
     have hlen:(tellV l i gs m).length+nrowsM i b≤16384:=by omega
     have hb9:(b:Int)≤16777216:=by omega
     have ha9:(a:Int)≤16777216:=by omega
     have hba:=(Below.refl wr.heap.size wr).alloc (Nat.le_refl _) (.cells #[.int .u32 (a:Int),.int .u32 (b:Int)] 81)
     have HC8:=Lib.hid (HC.out.on hba)
     have HG8:=Lib.hid (Blk.new wr 81 #[.int .u32 (a:Int),.int .u32 (b:Int)])
     have HGL:=Lib.hid (show gk<wr.heap.size from HC.out.2.2.2.1.1.lt)
     have HRS:=Lib.hid (rows_any (HI.out.on HC8.out.1) HOK.out.toIdxIn hbl hl)
     have HBL:=Lib.hid hbl
     obtain ⟨nr,hnr⟩:∃ nr,nrowsM i b=nr:=⟨_,rfl⟩
     have HNR:=Lib.hid hnr
     rw [hnr] at HRS hlen
     have HLEN:=Lib.hid hlen
     have hnr2:(nr:Int)≤16384:=by omega
     clear hx hR hcl hat hba hsn hsl hnl hbl hnr hlen HC hbg
     go_upto_region 9 with (fail)
     clear z0 z1
     generalize wr.alloc (.cells #[.int .u32 (a:Int),.int .u32 (b:Int)] 81)=w8 at *
     obtain ⟨g8,hg8⟩:∃ g8,wr.heap.size=g8:=⟨_,rfl⟩
     rw [hg8] at HG8 HGL
     (try rw [hg8])
     clear hg8
     have x1:w8.cell? ⟨g8,1,none⟩=some (.int .u32 (b:Int)):=HG8.out.cell 1
     go_wp2_with fail
     refine HRS.out.mono ?_
     rintro en w9 ⟨rfl,kd,hw9⟩
     have hd9:Below w8.heap.size w8 w9:=hw9 ▸ below_drawsK w8 kd
     have HC9:=Lib.hid (HC8.out.on hd9)
     have HG9:=Lib.hid (HG8.out.below hd9 HG8.out.lt)
     clear hw9 hd9 x1 HC8 HG8 HRS
     go_wp2
     go_loopw [38] (fun qv W=>∃(q:Nat) (vv:Value),qv=.int .i64 (q:Int)∧q≤nr∧TellAt w W g2 (.slice Au j cu) ((toldM l i).take j) us C gk nm vv (tellV l i gs m++(List.range q).map (valM l i b))∧Blk W g8 81 #[.int .u32 (a:Int),.int .u32 (b:Int)]) (fun qv _=>nr-(Lib.intOf qv).toNat)
     case atStart=>exact ⟨0,_,rfl,Nat.zero_le _,by rw [List.range_zero,List.map_nil,List.append_nil];exact HC9.out,HG9.out⟩
     case round =>
      clear HC9 HG9
      obtain ⟨q,vv,rfl,hq3,hC,hG8⟩:=hrel
      have HC:=Lib.hid hC
      have HG8:=Lib.hid hG8
      clear hC hG8
      by_cases hqr:q<nr
      ·have hq4:(q:Int)<(nr:Int):=by omega
       have hq9:(q:Int)≤16384:=by omega
       obtain ⟨vs7,hvs7⟩:∃ vs7,tellV l i gs m++(List.range q).map (valM l i b)=vs7:=⟨_,rfl⟩
       obtain ⟨m7,hm7⟩:∃ m7,vs7.length=m7:=⟨_,rfl⟩
       have hm8:m7≤16384:=by
        have:=HLEN.out
        rw [←hm7,←hvs7,List.length_append,List.length_map,List.length_range]
        omega
       rw [hvs7] at HC
       obtain ⟨Av,cv,evv,-,-,-⟩:=own_form HC.out.2.2.2.1.2
       rw [hm7] at evv
       subst evv
       have HM7:=Lib.hid hm7
       obtain ⟨pr,hpr⟩:∃ pr,rowM l i b q=pr:=⟨_,rfl⟩
       obtain ⟨sp,hsp⟩:∃ sp,i.tabs[b]?=some sp:=⟨_,List.getElem?_eq_getElem HBL.out⟩
       obtain ⟨k9,e1,e2,e3⟩:=HOK.out.tabs sp (List.mem_of_getElem? hsp)
       have hnk:nr=k9:=by
        rw [←HNR.out]
        unfold nrowsM
        rw [List.getD_eq_getElem?_getD,hsp]
        simp only [Option.getD_some]
        omega
       have hpin:pr.1<i.paths.length∧pr.2<i.texts.length:=by
        have h:=e3 q (by omega)
        rw [←hpr]
        unfold rowM
        rw [List.getD_eq_getElem?_getD,hsp]
        exact h
       have hvm:valM l i b q=(textM l i (i.paths.getD pr.1 0),textM l i pr.2):=by unfold valM;rw [hpr]
       have HRW:=Lib.hid (irow_any (HI.out.on HC.out.1) HOK.out.toIdxIn HBL.out (q:=q) (by rw [HNR.out];exact hqr) hl)
       rw [hpr] at HRW
       obtain ⟨np,nt⟩:=pr
       simp only at hpin hvm HRW
       obtain ⟨hnp,hnt⟩:=hpin
       obtain ⟨tp,htp⟩:∃ tp,i.paths[np]?=some tp:=⟨_,List.getElem?_eq_getElem hnp⟩
       have hpt:=HOK.out.paths tp (List.mem_of_getElem? htp)
       rw [List.getD_eq_getElem?_getD,htp] at hvm
       simp only [Option.getD_some] at hvm
       obtain ⟨nP,bp,op,cp,hnpl,hpf⟩:=HI.out.pth htp
       have HPF:=Lib.hid hpf
       obtain ⟨xp,hxp⟩:∃ xp,textM l i tp=xp:=⟨_,rfl⟩
       obtain ⟨xt,hxt⟩:∃ xt,textM l i nt=xt:=⟨_,rfl⟩
       rw [hxp,hxt] at hvm
       have HXP:=Lib.hid hxp
       have HXT:=Lib.hid hxt
       have HTK7:=Lib.hid (show tellV l i gs m++(List.range (q+1)).map (valM l i b)=vs7++[(xp,xt)] from by
        rw [List.range_succ,List.map_append,←List.append_assoc,hvs7]
        exact congrArg (fun z=>vs7++[z]) hvm)
       have hnp9:(np:Int)≤16777216:=by omega
       have hnt9:(nt:Int)≤16777216:=by omega
       have htp9:(tp:Int)≤16777216:=by omega
       have hnpl2:(np:Int)<(nP:Int):=by omega
       have x1:wr.cell? ⟨g8,1,none⟩=some (.int .u32 (b:Int)):=HG8.out.cell 1
       clear hvs7 hm7 hpr hsp e1 e2 e3 hnk hvm htp hpf hxp hxt
       go_upto_region 13 with (go_at_call 34;go_must (refine HRW.out.mono ?_;rintro en w12 ⟨rfl,hb12⟩;have HB12:=Lib.hid hb12;clear hb12))
       have HC0:=Lib.hid (HC.out.on HB12.out)
       have HG80:=Lib.hid (HG8.out.below HB12.out HG8.out.lt)
       have hbd:=(Below.refl w12.heap.size w12).drew
       have HBX:=Lib.hid hbd
       have HC:=Lib.hid (HC0.out.on hbd)
       obtain ⟨p0,p1⟩:=HPF.out w12 HC0.out.1
       have p2:w12.cell? ⟨gk,1,none⟩=some (.slice Av m7 cv):=HC0.out.2.2.2.1.1.cell 1
       clear x1 hbd HRW HB12
       refine wp_region_M (fun W=>W.cell? ⟨gk,1,none⟩=some (.slice Av m7 cv)∧W.cell? ⟨gx,2,none⟩=some (.slice (some ⟨bp,op,none⟩) nP cp)∧W.cell? ⟨bp,op+np,none⟩=some (.int .i64 (tp:Int))) 18 (by kernel_rfl) (by go_keep) (fun hHeld=>?_)
       refine wpAnyM_take (i:=0) (d:=(some 50)) (v:=?_) rfl rfl (by kernel_rfl) (by kernel_rfl) (by kernel_rfl) (by kernel_rfl) (by kernel_rfl) (fun _ _ _ h=>h) (Or.inl ⟨by rfl,?_⟩) (by assumption) ?_
       rotate_left
       ·intro w hSw
        (try dsimp only at hSw)
        go_simp
        (try with_reducible rfl)
       (try simp only [Act.put,List.setIfInBounds_toArray,List.set_cons_zero,List.set_cons_succ])
       refine wpAnyM_take (i:=1) (d:=(some 51)) (v:=?_) rfl rfl (by kernel_rfl) (by kernel_rfl) (by kernel_rfl) (by kernel_rfl) (by kernel_rfl) (fun _ _ _ h=>h) (Or.inl ⟨by rfl,?_⟩) (by assumption) ?_
       rotate_left
       ·intro w hSw
        (try dsimp only at hSw)
        go_simp
        (try with_reducible rfl)
       (try simp only [Act.put,List.setIfInBounds_toArray,List.set_cons_zero,List.set_cons_succ])
       refine wpAnyM_take (i:=2) (d:=(some 52)) (v:=?_) rfl rfl (by kernel_rfl) (by kernel_rfl) (by kernel_rfl) (by kernel_rfl) (by kernel_rfl) (fun _ _ _ h=>h) (Or.inl ⟨by rfl,?_⟩) (by assumption) ?_
       rotate_left
       ·intro w hSw
        (try dsimp only at hSw)
        go_simp
        (try with_reducible rfl)
       (try simp only [Act.put,List.setIfInBounds_toArray,List.set_cons_zero,List.set_cons_succ])
       refine wpAnyM_take (i:=3) (d:=(some 53)) (v:=?_) rfl rfl (by kernel_rfl) (by kernel_rfl) (by kernel_rfl) (by kernel_rfl) (by kernel_rfl) (fun _ _ _ h=>h) (Or.inl ⟨by rfl,?_⟩) (by assumption) ?_
       rotate_left
       ·intro w hSw
        (try dsimp only at hSw)
        go_simp
        (try with_reducible rfl)
       (try simp only [Act.put,List.setIfInBounds_toArray,List.set_cons_zero,List.set_cons_succ])
       refine wpAnyM_take (i:=4) (d:=(some 54)) (v:=?_) rfl rfl (by kernel_rfl) (by kernel_rfl) (by kernel_rfl) (by kernel_rfl) (by kernel_rfl) (fun _ _ _ h=>h) (Or.inl ⟨by rfl,?_⟩) (by assumption) ?_
       rotate_left
       ·intro w hSw
        (try dsimp only at hSw)
        go_simp
        (try with_reducible rfl)
       (try simp only [Act.put,List.setIfInBounds_toArray,List.set_cons_zero,List.set_cons_succ])
       refine wpAnyM_take (i:=5) (d:=(some 55)) (v:=?_) rfl rfl (by kernel_rfl) (by kernel_rfl) (by kernel_rfl) (by kernel_rfl) (by kernel_rfl) (fun _ _ _ h=>h) (Or.inl ⟨by rfl,?_⟩) (by assumption) ?_
       rotate_left
       ·intro w hSw
        (try dsimp only at hSw)
        go_simp
        (try with_reducible rfl)
       (try simp only [Act.put,List.setIfInBounds_toArray,List.set_cons_zero,List.set_cons_succ])
       refine wpAnyM_take (i:=6) (d:=(some 56)) (v:=?_) rfl rfl (by kernel_rfl) (by kernel_rfl) (by kernel_rfl) (by kernel_rfl) (by kernel_rfl) (fun _ _ _ h=>h) (Or.inl ⟨by rfl,?_⟩) (by assumption) ?_
       rotate_left
       ·intro w hSw
        (try dsimp only at hSw)
        go_simp
        (try with_reducible rfl)
       (try simp only [Act.put,List.setIfInBounds_toArray,List.set_cons_zero,List.set_cons_succ])
       refine wpAnyM_take (i:=7) (d:=(some 57)) (v:=?_) rfl rfl (by kernel_rfl) (by kernel_rfl) (by kernel_rfl) (by kernel_rfl) (by kernel_rfl) (fun _ _ _ h=>h) (Or.inl ⟨by rfl,?_⟩) (by assumption) ?_
       rotate_left
       ·intro w hSw
        (try dsimp only at hSw)
        go_simp
        (try with_reducible rfl)
       (try simp only [Act.put,List.setIfInBounds_toArray,List.set_cons_zero,List.set_cons_succ])
       refine wpAnyM_take (i:=8) (d:=(some 58)) (v:=?_) rfl rfl (by kernel_rfl) (by kernel_rfl) (by kernel_rfl) (by kernel_rfl) (by kernel_rfl) (fun _ _ _ h=>h) (Or.inl ⟨by rfl,?_⟩) (by assumption) ?_
       rotate_left
       ·intro w hSw
        (try dsimp only at hSw)
        go_simp
        (try with_reducible rfl)
       (try simp only [Act.put,List.setIfInBounds_toArray,List.set_cons_zero,List.set_cons_succ])
       refine wpAnyM_take (i:=9) (d:=(some 59)) (v:=?_) rfl rfl (by kernel_rfl) (by kernel_rfl) (by kernel_rfl) (by kernel_rfl) (by kernel_rfl) (fun _ _ _ h=>h) (Or.inl ⟨by rfl,?_⟩) (by assumption) ?_
       rotate_left
       ·intro w hSw
        (try dsimp only at hSw)
        go_simp
        (try with_reducible rfl)
       (try simp only [Act.put,List.setIfInBounds_toArray,List.set_cons_zero,List.set_cons_succ])
       refine wpAnyM_take (i:=11) (d:=(some 61)) (v:=?_) rfl rfl (by kernel_rfl) (by kernel_rfl) (by kernel_rfl) (by kernel_rfl) (by kernel_rfl) (fun _ _ _ h=>h) (Or.inl ⟨by rfl,?_⟩) (by assumption) ?_
       rotate_left
       ·intro w hSw
        (try dsimp only at hSw)
        go_simp
        (try with_reducible rfl)
       (try simp only [Act.put,List.setIfInBounds_toArray,List.set_cons_zero,List.set_cons_succ])
       refine wpAnyM_take (i:=12) (d:=(some 62)) (v:=?_) rfl rfl (by kernel_rfl) (by kernel_rfl) (by kernel_rfl) (by kernel_rfl) (by kernel_rfl) (fun _ _ _ h=>h) (Or.inl ⟨by rfl,?_⟩) (by assumption) ?_
       rotate_left
       ·intro w hSw
        (try dsimp only at hSw)
        go_simp
        (try with_reducible rfl)
       (try simp only [Act.put,List.setIfInBounds_toArray,List.set_cons_zero,List.set_cons_succ])
       refine wpAnyM_one (i:=10) (by kernel_rfl) ?_
       refine owe_early (i:=10) (d:=(some 60)) rfl rfl (fun K hK=>?_)
       go_simp
       refine (itext_any (HI.out.on HC.out.1) HOK.out.toIdxIn hpt hl).mono ?_
       rintro en wa ⟨rfl,hb⟩
       have HC:=Lib.hid (HC.out.on hb)
       have HBX:=Lib.hid (HBX.out.trans (hb.mono HBX.out.size))
       clear hb
       rw [HXP.out]
       obtain ⟨p0,p1⟩:=HPF.out wa HC.out.1
       have p2:wa.cell? ⟨gk,1,none⟩=some (.slice Av m7 cv):=HC.out.2.2.2.1.1.cell 1
       refine hK.out _ _ (by go_keep) (fun hHeld=>?_)
       clear hK K
       (try simp only [Act.put,List.setIfInBounds_toArray,List.set_cons_zero,List.set_cons_succ])
       refine wpAnyM_one (i:=13) (by kernel_rfl) ?_
       refine owe_early (i:=13) (d:=(some 63)) rfl rfl (fun K hK=>?_)
       go_simp
       refine (itext_any (HI.out.on HC.out.1) HOK.out.toIdxIn hnt hl).mono ?_
       rintro en wb ⟨rfl,hb⟩
       have HC:=Lib.hid (HC.out.on hb)
       have HBX:=Lib.hid (HBX.out.trans (hb.mono HBX.out.size))
       clear hb
       rw [HXT.out]
       obtain ⟨p0,p1⟩:=HPF.out wb HC.out.1
       have p2:wb.cell? ⟨gk,1,none⟩=some (.slice Av m7 cv):=HC.out.2.2.2.1.1.cell 1
       refine hK.out _ _ (by go_keep) (fun hHeld=>?_)
       clear hK K
       (try simp only [Act.put,List.setIfInBounds_toArray,List.set_cons_zero,List.set_cons_succ])
       refine wpAnyM_take (i:=14) (d:=(some 64)) (v:=?_) rfl rfl (by kernel_rfl) (by kernel_rfl) (by kernel_rfl) (by kernel_rfl) (by kernel_rfl) (fun _ _ _ h=>h) (Or.inl ⟨by rfl,?_⟩) (by assumption) ?_
       rotate_left
       ·intro w hSw
        (try dsimp only at hSw)
        go_simp
        (try with_reducible rfl)
       (try simp only [Act.put,List.setIfInBounds_toArray,List.set_cons_zero,List.set_cons_succ])
       refine wpAnyM_one (i:=15) (by kernel_rfl) ?_
       refine owe_early (i:=15) (d:=(some 65)) rfl rfl (fun K hK=>?_)
       go_simp
       refine hK.out _ _ (by go_keep) (fun hHeld=>?_)
       clear hK K
       (try simp only [Act.put,List.setIfInBounds_toArray,List.set_cons_zero,List.set_cons_succ])
       refine wpAnyM_one (i:=16) (by kernel_rfl) ?_
       refine owe_early (i:=16) (d:=(some 66)) rfl rfl (fun K hK=>?_)
       have hba:=(Below.refl wb.heap.size wb).alloc (Nat.le_refl _) (.cells #[.string xp,.string xt] 71)
       have HC:=Lib.hid (HC.out.on hba)
       have HBX:=Lib.hid (HBX.out.trans (hba.mono HBX.out.size))
       have HNc:=Lib.hid (reads_new wb #[.string xp,.string xt] 71 2 1 rfl)
       have HOc:=Lib.hid (show (wb.alloc (.cells #[.string xp,.string xt] 71)).ownsRow (gk+1) 71 2 (.slice Av m7 cv) m7 (pairCells vs7) from by have h:=HC.out.2.2.2.1.2;rw [HM7.out] at h;exact h)
       have HGL:=Lib.hid HC.out.2.2.2.1.1.lt
       clear hba
       refine step_append_any (by rfl) (.tmp 51) (.tmp 65) 39 (by rfl) (gk+1) 71 i1 _ 2 32 Tryz.underlying39 hi1 hy0 hy1 hy2 rfl (by omega) (.slice Av m7 cv) m7 (pairCells vs7) (by rfl) HOc.out (wb.heap.size+1) (some ⟨wb.heap.size,0,none⟩) 1 1 [.string xp,.string xt] (by rfl) HNc.out (by simp [Value.oneCell']) (by simp only [maxLen];omega) (by omega) HGL.out ?_
       intro v9 wd hown9 hg9 hat9
       obtain ⟨A9,c9,rfl,-,-,-⟩:=own_form hown9
       have HPT:=Lib.hid (HC.out.put HM7.out hown9 hg9)
       have HHB:=Lib.hid (HC.out.2.2.2.1.1.grown hg9 (fun e=>by have:=(HOc.out.lt gk e.symm).1;omega))
       have HBW:=Lib.hid (HC.out.1.grown hg9 HC.out.size (fun k hk=>by have:=(HOc.out.lt k hk).1;have:=HC.out.2.2.2.2;omega))
       have HG89:=Lib.hid (blk_stays (HG80.out.below HBX.out HG80.out.lt) HOc.out (by decide) hg9)
       clear hown9 hg9 hat9
       obtain ⟨p0,p1⟩:=HPF.out wd HBW.out
       have p2:wd.cell? ⟨gk,1,none⟩=some (.slice Av m7 cv):=HHB.out.cell 1
       have p3:wd.frozen? ⟨gk,1,none⟩=false:=HHB.out.frozen 1
       refine hK.out _ _ (by go_keep) (fun hHeld=>?_)
       clear hK K
       (try simp only [Act.put,List.setIfInBounds_toArray,List.set_cons_zero,List.set_cons_succ])
       refine wpAnyM_take (i:=17) (d:=(some 67)) (v:=?_) rfl rfl (by kernel_rfl) (by kernel_rfl) (by kernel_rfl) (by kernel_rfl) (by kernel_rfl) (fun _ _ _ h=>h) (Or.inl ⟨by rfl,?_⟩) (by assumption) ?_
       rotate_left
       ·intro w hSw
        (try dsimp only at hSw)
        go_simp
        (try with_reducible rfl)
       (try simp only [Act.put,List.setIfInBounds_toArray,List.set_cons_zero,List.set_cons_succ])
       refine wpAnyM_one (i:=18) (by kernel_rfl) ?_
       refine owe_late (i:=18) (d:=none) rfl rfl (by decide) (fun K hK=>?_)
       go_simp
       refine hK.out undef _ ?_
       clear hK K
       (try simp only [Act.put,List.setIfInBounds_toArray,List.set_cons_zero,List.set_cons_succ])
       refine wpAnyM_done (by kernel_rfl) ?_ _
       (try simp only [Act.put,List.setIfInBounds_toArray,List.set_cons_zero,List.set_cons_succ])
       go_wp2
       go_roundw
       case rel=>exact ⟨q+1,_,by go_num,hqr,by rw [HTK7.out];exact HPT.out,HG89.out.grown (grown_set wd gk 1 _) (fun e=>by cases e;have:=HGL.out;omega)⟩
       case measure=>simp [Lib.intOf] <;> omega
      ·obtain rfl:nr=q:=by omega
       have hq4:¬ (nr:Int)<(nr:Int):=by omega
       have HEV:=Lib.hid (show tellV l i gs m++(List.range nr).map (valM l i b)=tellV l i gs (m+1) from by
        rw [HVN.out,←HNR.out]
        rfl)
       rw [HEV.out] at HC
       go_wp2
       go_roundw
       case rel=>exact ⟨m+1,_,by go_num,hml,HC.out⟩
       case measure=>simp [Lib.intOf] <;> omega
    ·obtain rfl:ng=m:=by omega
     have hq2:¬ (ng:Int)<(ng:Int):=by omega
     obtain ⟨Av,cv,evv,-,-,-⟩:=own_form HC.out.2.2.2.1.2
     obtain ⟨m7,hm7⟩:∃ m7,(tellV l i gs ng).length=m7:=⟨_,rfl⟩
     rw [hm7] at evv
     subst evv
     have HM7:=Lib.hid hm7
     have k0:wr.cell? ⟨g2+1,0,none⟩=some (.slice Au j cu):=HC.out.2.1.2.cell 0
     have k1:wr.cell? ⟨gk,0,none⟩=some (.string nm):=HC.out.2.2.2.1.1.cell 0
     have k2:wr.cell? ⟨gk,1,none⟩=some (.slice Av m7 cv):=HC.out.2.2.2.1.1.cell 1
     have hba:=(Below.refl wr.heap.size wr).alloc (Nat.le_refl _) (.cells #[.string nm,.slice Av m7 cv] 41)
     have HC2:=Lib.hid (HC.out.on hba)
     have HN2:=Lib.hid (reads_new wr #[.string nm,.slice Av m7 cv] 41 2 1 rfl)
     have HO2:=Lib.hid (show (wr.alloc (.cells #[.string nm,.slice Av m7 cv] 41)).ownsRow (g2+2) 41 2 (.slice Au j cu) j (stepCells ((toldM l i).take j) us) from by
      have h:=HC2.out.2.2.1.1.1
      rw [HTL.out] at h
      exact h)
     have HZ2:=Lib.hid (show g2+2≤(wr.alloc (.cells #[.string nm,.slice Av m7 cv] 41)).heap.size from by have h1:=HC2.out.2.2.2.1.1.lt;have h2:=HC2.out.2.2.2.2;omega)
     clear hba hm7 HC
     go_wp2_with (at_builtin;go_loud (refine wpList_append_any _ rfl (.tmp 71) (.tmp 73) _ rfl (g2+2) 41 i2 _ 2 40 Tryz.underlying22 hi2 hx0 hx1 hx2 rfl (by omega) _ j (stepCells ((toldM l i).take j) us) rfl HO2.out (wr.heap.size+1) (some ⟨wr.heap.size,0,none⟩) 1 1 [.string nm,.slice Av m7 cv] rfl HN2.out (by simp [Value.oneCell']) (by simp only [maxLen];omega) (by omega) HZ2.out ?_);intro v3 wd hown3 hg3 hat3;obtain ⟨A3,c3,rfl,-,-,-⟩:=own_form hown3;have HP3:=Lib.hid (HC2.out.2.2.1.push (b:=(nm,tellV l i gs ng)) HTL.out (own_base HC2.out.2.2.2.1.2 (by have:=HC2.out.2.2.2.2;omega)) rfl (by have:=HC2.out.2.2.2.2;omega) hown3 hg3);have HA3:=Lib.hid (HC2.out.2.1.1.grown hg3 (fun e=>by have:=(HO2.out.lt _ e.symm).1;omega));have HB3:=Lib.hid (HC2.out.2.1.2.grown hg3 (fun e=>by have:=(HO2.out.lt _ e.symm).1;omega));have HW3:=Lib.hid (HC2.out.1.grown hg3 HC2.out.size (fun k hk=>by have:=(HO2.out.lt k hk).1;have:=HC2.out.2.2.2.2;omega));have q0:wd.cell? ⟨g2+1,0,none⟩=some (.slice Au j cu):=HB3.out.cell 0;have q1:wd.frozen? ⟨g2+1,0,none⟩=false:=HB3.out.frozen 0;clear hown3 hg3 hat3)
     go_roundw
     case rel=>exact ⟨j+1,.slice A3 (j+1) c3,us++[.slice Av m7 cv],by go_num,hlt,HW3.out.setCell (by rw [HGE.out];exact Nat.le_succ _) _,⟨HA3.out.grown (grown_set wd (g2+1) 0 _) (fun e=>by have:=Option.some.inj e;omega),HB3.out.set_ 0 _⟩,by
      rw [HTK.out]
      have h:=HP3.out.kept (grown_set wd (g2+1) 0 (.slice A3 (j+1) c3)) (fun k e=>by cases e;exact .inl (by omega))
      have hz:(wd.setCell ⟨g2+1,0,none⟩ (.slice A3 (j+1) c3)).heap.size=wd.heap.size:=by simp [World.setCell]
      rw [hz]
      exact h,by have h1:=HB3.out.lt;simp [World.setCell] at h1 ⊢;omega⟩
     case measure=>simp [Lib.intOf] <;> omega
  ·obtain rfl:nK=j:=by omega
   have hq:¬ (nK:Int)<(nK:Int):=by omega
   have HAL:=Lib.hid (show (toldM l i).take nK=toldM l i from List.take_of_length_le (by unfold toldM;rw [List.length_map,HNK.out];exact Nat.le_refl _))
   have k0:wr.cell? ⟨g2+1,0,none⟩=some (.slice Au nK cu):=HGG.out.2.cell 0
   have k1:wr.cell? ⟨g2,0,none⟩=some (.slice none 0 0):=HGG.out.1.cell 0
   have k2:wr.frozen? ⟨g2,0,none⟩=false:=HGG.out.1.frozen 0
   have hs:=grown_set wr g2 0 (.slice Au nK cu)
   have HFB:=Lib.hid (show Blk (wr.setCell ⟨g2,0,none⟩ (.slice Au nK cu)) g2 24 #[.slice Au nK cu] from HGG.out.1.set_ 0 _)
   have HFO:=Lib.hid (show BunOwn (wr.setCell ⟨g2,0,none⟩ (.slice Au nK cu)) w.heap.size (.slice Au nK cu) (toldM l i) us from by
    have h1:=(HO.out.kept hs (fun k e=>by cases e;exact .inl (by omega))).1
    rw [HAL.out] at h1
    exact h1.base (by rw [HGE.out];omega))
   have HFW:=Lib.hid (HB.out.setCell (p:=⟨g2,0,none⟩) (by simp;rw [HGE.out];exact Nat.le_refl _) (.slice Au nK cu))
   clear hs
   go_wp2
   (try simp only [Exit.inBlock,Exit.then])
   exact bodyPost_ret (ibundle_result HFB.out rfl) rfl ⟨_,us,rfl,HFO.out,HFW.out⟩
end
end Go.Proofs.YthdldooilcbmlaaGreatDoor
