/-
  Texts of mine, joined: BunLay, Crc. The conditions stand with each.
-/
import Derived.Test.YthdldooilcbmlaaGreatDoorK08
import Derived.Deep.RegionHeld3
import Derived.Deep.RegionLaw
import Derived.BigQuiet
import Derived.Deep.DeepMust
import Derived.Test.YthdldooilcbmlaaGreatDoorProg
import Derived.Test.YthdldooilcbmlaaGreatDoorK01
import Derived.Test.YthdldooilcbmlaaGreatDoorK05
import Derived.Outline
import Derived.Lib.Hide
set_option linter.unusedVariables false
set_option linter.unusedSimpArgs false
namespace Go.Proofs.YthdldooilcbmlaaGreatDoor
section
open Go.RowKit

/-- Two rows of texts that have a block each. -/
def TwoR (w:World)(B:Nat)(u v:Value)(xs ys:List ByteArray):Prop :=
 w.ownsRow B 9 1 u xs.length (strsV xs)∧w.ownsRow B 9 1 v ys.length (strsV ys)∧∀ k,u.ownBlock=some k→v.ownBlock≠some k
theorem TwoR.symm {w:World}{B:Nat}{u v:Value}{xs ys:List ByteArray}(h:TwoR w B u v xs ys):TwoR w B v u ys xs:=⟨h.2.1,h.1,fun k hk e=>h.2.2 k e hk⟩
theorem TwoR.on {w w':World}{B:Nat}{u v:Value}{xs ys:List ByteArray}(h:TwoR w B u v xs ys)(hb:Below w.heap.size w w'):TwoR w' B u v xs ys:=⟨own_more h.1 hb,own_more h.2.1 hb,h.2.2⟩
theorem TwoR.fst {w:World}{B n:Nat}{u v:Value}{xs ys:List ByteArray}(h:TwoR w B u v xs ys)(hn:xs.length=n):w.ownsRow B 9 1 u n (strsV xs):=hn ▸ h.1
theorem TwoR.left {w w':World}{B:Nat}{u v u':Value}{xs ys zs:List ByteArray}(h:TwoR w B u v xs ys)(hg:w.grownBy w' u.ownBlock)(ho:w'.ownsRow B 9 1 u' zs.length (strsV zs))(hb:u'.ownBlock=u.ownBlock∨u'.ownBlock=some w.heap.size):TwoR w' B u' v zs ys:=by
 refine ⟨ho,h.2.1.kept hg ?_,fun k hk e=>?_⟩
 ·cases hv:v.ownBlock with
  | none=>exact .inl rfl
  | some k=>exact .inr fun e=>h.2.2 k e.symm hv
 ·rcases hb with hb | hb
  ·rw [hb] at hk
   exact h.2.2 k hk e
  ·rw [hb] at hk
   cases hk
   exact absurd (h.2.1.lt _ e).2 (Nat.lt_irrefl _)
theorem below_two {b w w':World}{B:Nat}{v:Value}{e:TypeId}{size n:Nat}{xs:List Value}(hb:Below B b w)(h:w.ownsRow B e size v n xs)(hg:w.grownBy w' v.ownBlock)(hB:B≤w.heap.size):Below B b w':=hb.grown hg hB (fun k hk=>(h.lt k hk).1)
theorem keys_spot {W:World}{B:Nat}{A:Option Addr}{m c:Nat}{vl:List PKey}(h:KeysAt W B (.slice A m c) vl){k:Nat}{x:PKey}(hx:vl[k]?=some x):∃ b o,A=some ⟨b,o,none⟩∧b<B∧W.cell? ⟨b,o+k*2,none⟩=some (.string x.1)∧W.cell? ⟨b,o+k*2+1,none⟩=some (.string x.2):=by
 obtain ⟨A',c',e,-,-,hR⟩:=h
 cases e
 have hk:=(List.getElem?_eq_some_iff.1 hx).1
 obtain ⟨b,o,rfl,hb,hc⟩:=hR.spot (by omega) (by omega)
 have hat:=pairCells_at vl k _ hx
 exact ⟨b,o,rfl,hb,hc _ _ hat.1,hc _ _ hat.2⟩
/-- The words of a Book's first values, behind its name. -/
def wordsV (vs:List PKey):List ByteArray:=vs.flatMap fun v=>[grp v.1,v.1,v.2]
theorem words_next {l:List PStep}{i:Nat}{b:PStep}(h:l[i]?=some b):wordsB (l.take (i+1))=wordsB (l.take i)++[b.1]++wordsV b.2:=by
 unfold wordsB wordsV
 rw [List.take_add_one,h,List.flatMap_append]
 simp
theorem wordsV_next {vs:List PKey}{j:Nat}{x:PKey}(h:vs[j]?=some x):wordsV (vs.take (j+1))=wordsV (vs.take j)++[grp x.1,x.1,x.2]:=by
 unfold wordsV
 rw [List.take_add_one,h,List.flatMap_append]
 simp
theorem paths_next {l:List PStep}{i:Nat}{b:PStep}(h:l[i]?=some b):pathsB (l.take (i+1))=pathsB (l.take i)++b.2.map Prod.fst:=by
 unfold pathsB
 rw [List.take_add_one,h,List.flatMap_append]
 simp
theorem map_next {vs:List PKey}{j:Nat}{x:PKey}(h:vs[j]?=some x):(vs.take (j+1)).map Prod.fst=(vs.take j).map Prod.fst++[x.1]:=by
 rw [List.take_add_one,h,List.map_append]
 rfl
theorem wordsV_len (vs:List PKey):(wordsV vs).length=3*vs.length:=by
 unfold wordsV
 induction vs with
 | nil=>rfl
 | cons x r ih=>rw [List.flatMap_cons,List.length_append,ih];simp;omega
theorem words_len:∀(l:List PStep),(∀ b∈l,b.2.length≤16500)→(wordsB l).length≤49501*l.length∧(pathsB l).length≤16500*l.length
 | [],_=>⟨Nat.le_refl _,Nat.le_refl _⟩
 | b::r,h=>by
  have ih:=words_len r fun c hc=>h c (by simp [hc])
  have hb:=h b (by simp)
  have hw:=wordsV_len b.2
  unfold wordsV at hw
  unfold wordsB pathsB at ih ⊢
  simp only [List.flatMap_cons,List.length_append,List.length_cons,List.length_map,hw]
  omega
/-- An append at a step of a region that draws its order. -/
theorem step_append_any {P:Program}{w:World}{ops:Array Oper}{o:Oper}{a:Act}{K:Act→World→Prop}{Q:Exit→Act→World→Prop}{E:Prop}(hgd:o.guard=none)(s x:Operand)(t:TypeId)
  (ho:o.op=.call { callee:=.builtin .append,args:=#[s,x],argTypes:=#[t,t] })
  (base:Nat)(e:TypeId)(i:TypeInfo)(z:Value)(size bytes:Nat)(ht:P.underlying t=some (.slice e))(hi:P.info? e=some i)(hz:i.zero=some z)
  (hsize:i.size=size)(hby:i.bytes=bytes)(hzs:z.cells.size=size)(hsz:0<size)
  (v:Value)(n:Nat)(xs:List Value)(hs:a.eval s=v)(hown:w.ownsRow base e size v n xs)
  (B:Nat)(A:Option Addr)(m c:Nat)(news:List Value)(hx:a.eval x=.slice A m c)(hr:Reads w B size A m news)(h1:∀ u∈news,u.oneCell'=true)
  (h63:n+m≤maxLen)(hbytes:(n+m)*bytes≤140737488355328)(hbase:base≤w.heap.size)
  (h:∀ v' w',w'.ownsRow base e size v' (n+m) (xs++news)→w.grownBy w' v.ownBlock→(v'.ownBlock=v.ownBlock∨v'.ownBlock=some w.heap.size)→K (a.put o.dst v') w') :
  if Region.wanted o (yielded ops a.tmps)=true then Oper.wp P o a w K Q else E:=by
 have hw:Region.wanted o (yielded ops a.tmps)=true:=by simp [Region.wanted,hgd]
 rw [if_pos hw]
 exact wp_append_any w s x t ho base e i z size bytes ht hi hz hsize hby hzs hsz v n xs hs hown B A m c news hx hr h1 h63 hbytes hbase h
/-- Two rows of texts above a world's heap, that world being as it was. -/
def LW (w0:World)(W:World)(u v:Value)(xs ys:List ByteArray):Prop:=TwoR W w0.heap.size u v xs ys∧Below w0.heap.size w0 W
theorem LW.symm {w0 W:World}{u v:Value}{xs ys:List ByteArray}(h:LW w0 W u v xs ys):LW w0 W v u ys xs:=⟨h.1.symm,h.2⟩
theorem LW.on {w0 W W':World}{u v:Value}{xs ys:List ByteArray}(h:LW w0 W u v xs ys)(hb:Below W.heap.size W W'):LW w0 W' u v xs ys:=⟨h.1.on hb,h.2.trans (hb.mono h.2.size)⟩
theorem LW.alloc {w0 W:World}{u v:Value}{xs ys:List ByteArray}(h:LW w0 W u v xs ys)(o:Obj):LW w0 (W.alloc o) u v xs ys:=h.on ((Below.refl _ W).alloc (Nat.le_refl _) o)
theorem LW.fst {w0 W:World}{n:Nat}{u v:Value}{xs ys:List ByteArray}(h:LW w0 W u v xs ys)(hn:xs.length=n):W.ownsRow w0.heap.size 9 1 u n (strsV xs):=h.1.fst hn
theorem LW.push {w0 W W':World}{u v u':Value}{xs ys:List ByteArray}{n m g:Nat}{t:TypeId}{cs:Array Value}(h:LW w0 W u v xs ys)(hG:Blk W g t cs)(hne:9≠t)(zs:List ByteArray)(hn:xs.length=n)(hm:zs.length=m)
  (ho:W'.ownsRow w0.heap.size 9 1 u' (n+m) (strsV xs++strsV zs))(hg:W.grownBy W' u.ownBlock)(hat:u'.ownBlock=u.ownBlock∨u'.ownBlock=some W.heap.size):LW w0 W' u' v (xs++zs) ys∧Blk W' g t cs:=by
 refine ⟨⟨h.1.left hg ?_ hat,below_two h.2 h.1.1 hg h.2.size⟩,hG.grown hg (fun e=>own_blkB h.1.1 hG hne e.symm rfl)⟩
 rw [List.length_append,hn,hm]
 unfold strsV at ho ⊢
 rw [List.map_append]
 exact ho
theorem stepM_size {s:ByteArray}{p q:Nat}{st:PStep}(h:stepM s p=.ok (st,q)):st.1.size≤s.size:=by
 unfold stepM nameM at h
 cases hn:nameErr s p with
 | some e=>rw [hn] at h;cases h
 | none =>
  rw [hn] at h
  simp only at h
  cases hk:keysM s (nameEnd s p) [] with
  | error e=>rw [hk] at h;cases h
  | ok r =>
   rw [hk] at h
   cases h
   simp only [ByteArray.size_extract]
   omega
theorem stepsF_size (s:ByteArray):∀(k p:Nat) (l m:List PStep),stepsF k s p l=.ok m→(∀ st∈l,st.1.size≤s.size)→∀ st∈m,st.1.size≤s.size
 | 0,p,l,m,h,_=>by unfold stepsF at h;cases h
 | k+1,p,l,m,h,hl=>by
  unfold stepsF at h
  split at h
  ·cases h
  ·cases hs:stepM s p with
   | error e=>rw [hs] at h;cases h
   | ok r =>
    obtain ⟨st,q⟩:=r
    rw [hs] at h
    simp only at h
    have hl2:∀ x∈l++[st],x.1.size≤s.size:=fun x hx=>by
     rcases List.mem_append.1 hx with hx | hx
     ·exact hl x hx
     ·rw [List.mem_singleton.1 hx]
      exact stepM_size hs
    split at h
    ·cases h
     exact hl2
    ·split at h
     ·exact stepsF_size s k (q+1) (l++[st]) m h hl2
     ·cases h
theorem grp_size (p:ByteArray):(grp p).size≤p.size:=by
 unfold grp
 split
 ·rename_i st r h
  unfold parseM at h
  split at h
  ·cases h
  ·split at h
   ·cases h
   ·split at h
    ·cases h
    ·exact stepsF_size p _ _ _ _ h (by simp) st (by simp)
 ·exact Nat.zero_le _
theorem words_size {l:List PStep}(h:∀ b∈l,b.1.size≤140737488355328∧(∀ x∈b.2,x.1.size≤140737488355328∧x.2.size≤140737488355328)∧b.2.length≤16500):∀ x∈wordsB l,x.size≤140737488355328:=by
 intro x hx
 unfold wordsB at hx
 obtain ⟨b,hb,hx⟩:=List.mem_flatMap.1 hx
 have hb2:=h b hb
 rcases List.mem_cons.1 hx with rfl | hx
 ·exact hb2.1
 ·obtain ⟨v,hv,hx⟩:=List.mem_flatMap.1 hx
  have hv2:=hb2.2.1 v hv
  simp only [List.mem_cons,List.not_mem_nil,or_false] at hx
  rcases hx with rfl | rfl | rfl
  ·exact Nat.le_trans (grp_size v.1) hv2.1
  ·exact hv2.1
  ·exact hv2.2
theorem paths_size {l:List PStep}(h:∀ b∈l,b.1.size≤140737488355328∧(∀ x∈b.2,x.1.size≤140737488355328∧x.2.size≤140737488355328)∧b.2.length≤16500):∀ x∈pathsB l,x.size≤140737488355328:=by
 intro x hx
 unfold pathsB at hx
 obtain ⟨b,hb,hx⟩:=List.mem_flatMap.1 hx
 obtain ⟨v,hv,rfl⟩:=List.mem_map.1 hx
 exact ((h b hb).2.1 v hv).1
/-- Pool of one list. -/
theorem pool1_any (v:Value)(L:List ByteArray)(W:World)(h:Txts W W.heap.size v L)(hn:L.length≤100000000)(hsz:∀ x∈L,x.size≤140737488355328) :
  Calls Tryz.prog 66 #[.slice (some ⟨W.heap.size,0,none⟩) 1 1] (W.alloc (.cells #[v] 37)) fun e w'=>∃ u A c,e=.returned u∧u=.slice A (poolL bl L).length c∧w'.ownsRow W.heap.size 9 1 u (poolL bl L).length (strsV (poolL bl L))∧Below W.heap.size W w':=by
 have e:allT [(v,L)]=L:=by simp [allT]
 have hb:=(Below.refl W.heap.size W).alloc (Nat.le_refl _) (.cells #[v] 37)
 have:=pool_any (some ⟨W.heap.size,0,none⟩) 1 [(v,L)] (W.alloc (.cells #[v] 37)) ⟨by
  have:=reads_new W #[v] 37 1 1 rfl
  simpa using this,fun x hx=>by
  rw [List.mem_singleton.1 hx]
  exact h.on hb⟩ (by rw [e];exact hn) (by simp) (by rw [e];exact fun x hx=>Nat.le_trans (hsz x hx) (by simp [maxLen]))
 rw [e] at this
 refine this.mono ?_
 rintro en w' ⟨⟨u,rfl,ho⟩,hbl⟩
 obtain ⟨A,c,rfl,-,-,-⟩:=own_form ho
 exact ⟨_,A,c,rfl,rfl,own_base ho (by simp),hb.trans (hbl.mono (by simp))⟩
/-- The number of a text, where it is one of the first n. -/
def numA (L:List ByteArray)(n:Nat):ByteArray→Option Value:=fun s=>if idx L s<n then some (.int .u32 (idx L s:Int)) else none
theorem numA_zero (L:List ByteArray):numA L 0=fun _=>none:=by funext s;simp [numA]
theorem numA_next {L:List ByteArray}(hr:RiseL bl L){i:Nat}{s:ByteArray}(h:L[i]?=some s):putMF (numA L i) s (.int .u32 (i:Int))=numA L (i+1)∧(numA L i s).isSome=false:=by
 have hi:=idx_at hr h
 refine ⟨?_,by simp [numA,hi]⟩
 funext t
 unfold putMF numA
 by_cases e:t=s
 ·rw [if_pos e,e,hi,if_pos (by omega)]
 ·rw [if_neg e]
  by_cases ht:idx L t<i
  ·rw [if_pos ht,if_pos (by omega)]
  ·rw [if_neg ht,if_neg]
   intro h2
   have h3:idx L t=i:=by omega
   have hm:t∈L:=by
    unfold idx at h3
    have hlt:L.findIdx (fun x=>decide (x=t))<L.length:=by rw [h3];exact (List.getElem?_eq_some_iff.1 h).1
    obtain ⟨x,hx,hp⟩:=List.findIdx_lt_length.1 hlt
    have:x=t:=by simpa using hp
    exact this ▸ hx
   have h4:=idx_get hm
   rw [h3,h] at h4
   exact e (Option.some.inj h4).symm
theorem numA_all {L:List ByteArray}{s:ByteArray}(h:s∈L):(numA L L.length s).getD (.int .u32 0)=.int .u32 (idx L s:Int):=by
 unfold numA
 rw [if_pos (idx_lt h)]
 rfl
theorem zero_u32 (w:World):(zeroValue 59).run Tryz.prog w=.ok (.int .u32 0) w:=by kernel_rfl
theorem bookInfo:(Tryz.prog.info? 139).map (fun i=>(i.zero,i.size,i.bytes))=some (some (.agg #[.string ByteArray.empty,.slice none 0 0,.slice none 0 0]),3,64):=by kernel_rfl
set_option maxHeartbeats 64000000 in
set_option maxRecDepth 100000 in
theorem lay_any (v:Value)(l:List PStep)(vs:List Value)(w:World)(h:StepsR w v l vs)(hin:∀ b∈l,b.1.size≤140737488355328∧(∀ x∈b.2,x.1.size≤140737488355328∧x.2.size≤140737488355328)∧b.2.length≤16500)(hn:l.length≤520) :
  Calls Tryz.prog 40 #[.agg #[v]] w (LayPost l w):=by
 have HS:=Lib.hid h
 obtain ⟨A,c,rfl,hc1,hc2,hRd,hvl,hKs⟩:=h
 unfold maxLen at hc2
 have HRD:=Lib.hid hRd
 have HVL:=Lib.hid hvl
 have HKS:=Lib.hid hKs
 have HIN:=Lib.hid hin
 clear hRd hvl hKs hin
 obtain ⟨n,hN⟩:∃ n,l.length=n:=⟨_,rfl⟩
 rw [hN] at hc1 hn HRD HS ⊢
 have HN:=Lib.hid hN
 clear hN
 have hn1:(n:Int)≤520:=by omega
 have HCC:=Lib.hid (show ∀(i:Nat) (b:PStep),l[i]?=some b→∃(kb ko:Nat) (kv:Value),A=some ⟨kb,ko,none⟩∧∀ W,Below w.heap.size w W→W.cell? ⟨kb,ko+i*2,none⟩=some (.string b.1)∧W.cell? ⟨kb,ko+i*2+1,none⟩=some kv∧KeysAt W W.heap.size kv b.2 from fun i b hb=>by
  have hi:=(List.getElem?_eq_some_iff.1 hb).1
  obtain ⟨kv,hkv⟩:∃ kv,vs[i]?=some kv:=⟨_,List.getElem?_eq_getElem (by rw [HVL.out];exact hi)⟩
  obtain ⟨kb,ko,rfl,hkb,hcl⟩:=HRD.out.spot (by have:=HN.out;omega) (by have:=HN.out;omega)
  have hat:=stepCells_at l vs i b kv hb hkv
  exact ⟨kb,ko,kv,rfl,fun W hW=>⟨(hW.cell (p:=⟨kb,ko+i*2,none⟩) hkb).trans (hcl _ _ hat.1),(hW.cell (p:=⟨kb,ko+i*2+1,none⟩) hkb).trans (hcl _ _ hat.2),(HKS.out i b kv hb hkv).more hW hW.size⟩⟩)
 obtain ⟨w1,hw1⟩:∃ w1,w.alloc (.cells #[.slice A n c] 24)=w1:=⟨_,rfl⟩
 have HW1:=Lib.hid hw1
 have HBX:=Lib.hid (show Blk w1 w.heap.size 24 #[.slice A n c]∧Below w.heap.size w w1∧w1.heap.size=w.heap.size+1 from by rw [←hw1];exact ⟨Blk.new _ _ _,(Below.refl _ _).alloc (Nat.le_refl _) _,by simp⟩)
 clear hw1
 have htot:(l.map fun b=>b.2.length).sum≤90000000:=by
  have:∀ m:List PStep,(∀ b∈m,b.2.length≤16500)→(m.map fun b=>b.2.length).sum≤16500*m.length:=by
   intro m
   induction m with
   | nil=>intro _;exact Nat.le_refl _
   | cons b m ih =>
    intro hm
    have:=ih fun c hc=>hm c (by simp [hc])
    have:=hm b (by simp)
    simp only [List.map_cons,List.sum_cons,List.length_cons]
    omega
  have:=this l fun b hb=>(HIN.out b hb).2.2
  have:=HN.out
  omega
 have HCK:=Lib.hid (buncheck_any (.slice A n c) l vs w1 (HS.out.more HBX.out.2.1) (fun b hb=>⟨(HIN.out b hb).1,(HIN.out b hb).2.1,by have:=(HIN.out b hb).2.2;omega⟩) (by have:=HN.out;omega) htot)
 unfold CheckPostB at HCK
 clear htot
 go_enter Tryz.func40,Tryz.ntmps40
 go_upto_region 1 with (fail)
 rw [HW1.out]
 have k0:w1.cell? ⟨w.heap.size,0,none⟩=some (.slice A n c):=HBX.out.1.cell 0
 go_wp2_with fail
 refine HCK.out.mono ?_
 rintro en w2 ⟨rfl,hb2⟩
 have HBX2:=Lib.hid (show Blk w2 w.heap.size 24 #[.slice A n c]∧Below w.heap.size w w2∧w.heap.size<w2.heap.size from ⟨HBX.out.1.below hb2 HBX.out.1.lt,HBX.out.2.1.trans (hb2.mono HBX.out.2.1.size),by have:=HBX.out.2.2;have:=hb2.size;omega⟩)
 clear hb2 k0
 obtain ⟨e0,he0⟩:∃ e0,(checkB l).1=e0:=⟨_,rfl⟩
 obtain ⟨a0,ha0⟩:∃ a0,(checkB l).2=a0:=⟨_,rfl⟩
 rw [he0,ha0]
 have HE0:=Lib.hid he0
 clear he0 ha0
 by_cases hz:e0=0
 ·subst hz
  have HB3:=Lib.hid ((HBX2.out.2.1.alloc HBX2.out.2.1.size (.cells #[.int .i64 0,.int .i64 a0] 54)).alloc (by have:=HBX2.out.2.1.size;simp;omega) (.cells #[.slice none 0 0,.slice none 0 0,.slice none 0 0,.slice none 0 0] 133))
  have HX3:=Lib.hid (Blk.new (w2.alloc (.cells #[.int .i64 0,.int .i64 a0] 54)) 133 #[.slice none 0 0,.slice none 0 0,.slice none 0 0,.slice none 0 0])
  have HK3:=Lib.hid ((HBX2.out.1.alloc (.cells #[.int .i64 0,.int .i64 a0] 54)).alloc (.cells #[.slice none 0 0,.slice none 0 0,.slice none 0 0,.slice none 0 0] 133))
  have HZ3:=Lib.hid (show (w2.alloc (.cells #[.int .i64 0,.int .i64 a0] 54)).heap.size=w2.heap.size+1 from by simp)
  rw [HZ3.out] at HX3
  go_upto_region 6 with (fail)
  generalize (w2.alloc (.cells #[.int .i64 0,.int .i64 a0] 54)).alloc (.cells #[.slice none 0 0,.slice none 0 0,.slice none 0 0,.slice none 0 0] 133)=w4 at *
  obtain ⟨g,hg⟩:∃ g,w2.heap.size+1=g:=⟨_,rfl⟩
  rw [hg] at HX3 ⊢
  have hgw:w.heap.size<g:=by have:=HBX2.out.2.2;omega
  have HG:=Lib.hid (show g<w4.heap.size from HX3.out.lt)
  clear hg HZ3
  have k1:w4.cell? ⟨w.heap.size,0,none⟩=some (.slice A n c):=HK3.out.cell 0
  obtain ⟨i0,hi0,hz0,hz1,hz2⟩:=info_parts str_info
  obtain ⟨i1,hi1,hy0,hy1,hy2⟩:=info_parts row_info
  obtain ⟨i2,hi2,hx0,hx1,hx2⟩:=info_parts tabInfo
  obtain ⟨i3,hi3,hv0,hv1,hv2⟩:=info_parts intInfo
  obtain ⟨i4,hi4,hu0,hu1,hu2⟩:=info_parts bookInfo
  go_wp2
  clear k1
  go_loopw [6,7,51] (fun wv pv iv wr=>∃(i:Nat) (ws ps:List ByteArray),iv=.int .i64 (i:Int)∧i≤n∧ws=wordsB (l.take i)∧ps=pathsB (l.take i)∧LW w4 wr wv pv ws ps) (fun _ _ iv _=>n-(Lib.intOf iv).toNat)
  case atStart=>exact ⟨0,[],[],rfl,Nat.zero_le _,rfl,rfl,⟨World.ownsRow_nil _ _ _ _,World.ownsRow_nil _ _ _ _,fun k hk=>by cases hk⟩,Below.refl _ _⟩
  case round =>
   obtain ⟨i,ws,ps,rfl,hi,hws,hps,hT⟩:=hrel
   have HWS:=Lib.hid hws
   have HPS:=Lib.hid hps
   have HT:=Lib.hid hT
   have hwl:=words_len (l.take i) (fun b hb=>(HIN.out b (List.mem_of_mem_take hb)).2.2)
   rw [←hws,←hps,List.length_take] at hwl
   have hwl1:ws.length≤25740520:=by omega
   have hpl1:ps.length≤8580000:=by omega
   clear hws hps hT hwl
   obtain ⟨nw,hnw⟩:∃ nw,ws.length=nw:=⟨_,rfl⟩
   obtain ⟨np,hnp⟩:∃ np,ps.length=np:=⟨_,rfl⟩
   rw [hnw] at hwl1
   rw [hnp] at hpl1
   have HNW:=Lib.hid hnw
   have HNP:=Lib.hid hnp
   obtain ⟨Aw,cw,rfl,-,-,-⟩:=own_form HT.out.1.1
   obtain ⟨Ap,cp,rfl,-,-,-⟩:=own_form HT.out.1.2.1
   rw [hnw,hnp] at HT ⊢
   clear hnw hnp
   by_cases hlt:i<n
   ·-- <<r1
    have hq:(i:Int)<(n:Int):=by omega
    obtain ⟨⟨nm,vl⟩,hb⟩:∃ b,l[i]?=some b:=⟨_,List.getElem?_eq_getElem (by rw [HN.out];exact hlt)⟩
    obtain ⟨kb,ko,kv,rfl,hcw⟩:=HCC.out i _ hb
    have HBW:=Lib.hid (HB3.out.trans (HT.out.2.mono HB3.out.size))
    obtain ⟨z0,z1,hk⟩:=hcw wr HBW.out
    have HCW:=Lib.hid (show ∀ W,Below w.heap.size w W→KeysAt W W.heap.size kv vl from fun W hW=>(hcw W hW).2.2)
    have HIB:=Lib.hid (HIN.out _ (List.mem_of_getElem? hb))
    have HBB:=Lib.hid hb
    simp only at z0 z1 hk HIB
    obtain ⟨Ak,ck,rfl,-,-,-⟩:=hk
    obtain ⟨mk,hmk⟩:∃ mk,vl.length=mk:=⟨_,rfl⟩
    have HMK:=Lib.hid hmk
    rw [hmk] at z1 HCW HIB
    clear hcw hb hmk
    have HWB:=Lib.hid (show ∀ W,Below w4.heap.size w4 W→Below w.heap.size w W from fun W hW=>HB3.out.trans (hW.mono HB3.out.size))
    have HTA:=Lib.hid ((HT.out.alloc (.cells #[.string nm,.slice Ak mk ck] 41)).alloc (.cells #[.string nm] 9))
    have HAR:=Lib.hid (show Reads ((wr.alloc (.cells #[.string nm,.slice Ak mk ck] 41)).alloc (.cells #[.string nm] 9)) (wr.heap.size+1+1) 1 (some ⟨wr.heap.size+1,0,none⟩) 1 [.string nm] from by
     have:=reads_new (wr.alloc (.cells #[.string nm,.slice Ak mk ck] 41)) #[.string nm] 9 1 1 rfl
     simpa using this)
    have HBA:=Lib.hid HTA.out.2.size
    have HGB:=Lib.hid ((Blk.new wr 41 #[.string nm,.slice Ak mk ck]).alloc (.cells #[.string nm] 9))
    have hq9:w4.heap.size≤wr.heap.size:=HT.out.2.size
    have k2:(wr.alloc (.cells #[.string nm,.slice Ak mk ck] 41)).cell? ⟨wr.heap.size,0,none⟩=some (.string nm):=(Blk.new wr 41 #[.string nm,.slice Ak mk ck]).cell 0
    have HTO:=Lib.hid (HTA.out.fst HNW.out)
    go_upto_region 10 with (at_builtin;go_must (refine wpList_append_any _ rfl (.tmp 55) (.tmp 58) _ rfl w4.heap.size 9 i0 _ 1 16 Tryz.underlying37 hi0 hz0 hz1 hz2 rfl (by omega) _ nw (strsV ws) rfl HTO.out (wr.heap.size+1+1) (some ⟨wr.heap.size+1,0,none⟩) 1 1 [.string nm] rfl HAR.out (by simp [Value.oneCell']) (by simp only [maxLen];omega) (by omega) HBA.out ?_;intro v5 w5 hown5 hg5 hat5;have HT5:=Lib.hid (HTA.out.push HGB.out (by decide) [nm] HNW.out rfl hown5 hg5 hat5);clear hown5 hg5 hat5))
    have HWS1:=Lib.hid (show (ws++[nm]).length=nw+1 from by simp [HNW.out])
    have k3:w5.cell? ⟨wr.heap.size,1,none⟩=some (.slice Ak mk ck):=HT5.out.2.cell 1
    have hmk2:mk≤16500:=HIB.out.2.2
    have hmk3:(mk:Int)≤16500:=by omega
    clear HTA HAR HBA HGB HTO k2 z0 z1
    go_wp2
    clear k3
    go_loopw [6,7,63] (fun wv pv jv W=>∃(j:Nat) (us qs:List ByteArray),jv=.int .i64 (j:Int)∧j≤mk∧us=ws++[nm]++wordsV (vl.take j)∧qs=ps++(vl.take j).map Prod.fst∧LW w4 W wv pv us qs) (fun _ _ jv _=>mk-(Lib.intOf jv).toNat)
    case atStart=>exact ⟨0,ws++[nm],ps,rfl,Nat.zero_le _,by simp [wordsV],by simp,HT5.out.1⟩
    case round =>
     clear HT5
     obtain ⟨j,us,qs,rfl,hj,hus,hqs,hT⟩:=hrel
     have HUS:=Lib.hid hus
     have HQS:=Lib.hid hqs
     have HT:=Lib.hid hT
     obtain ⟨nu,hnu⟩:∃ nu,us.length=nu:=⟨_,rfl⟩
     obtain ⟨mq,hmq⟩:∃ mq,qs.length=mq:=⟨_,rfl⟩
     have hnu1:nu≤25800000:=by
      have:=wordsV_len (vl.take j)
      have h2:(vl.take j).length≤16500:=by rw [List.length_take];omega
      rw [←hnu,hus,List.length_append,HWS1.out]
      omega
     have hmq1:mq≤8700000:=by
      rw [←hmq,hqs,List.length_append,HNP.out,List.length_map,List.length_take]
      omega
     have HNU:=Lib.hid hnu
     have HMQ:=Lib.hid hmq
     obtain ⟨Au,cu,rfl,-,-,-⟩:=own_form HT.out.1.1
     obtain ⟨Aq,cq,rfl,-,-,-⟩:=own_form HT.out.1.2.1
     rw [hnu,hmq] at HT ⊢
     clear hus hqs hT hnu hmq
     by_cases hjm:j<mk
     ·have hq2:(j:Int)<(mk:Int):=by omega
      obtain ⟨⟨xp,xt⟩,hx⟩:∃ x,vl[j]?=some x:=⟨_,List.getElem?_eq_getElem (by rw [HMK.out];exact hjm)⟩
      obtain ⟨bv,ov,rfl,hbv,y0,y1⟩:=keys_spot (HCW.out _ (HWB.out _ HT.out.2)) hx
      have HIX:=Lib.hid (HIB.out.2.1 _ (List.mem_of_getElem? hx))
      have HX:=Lib.hid hx
      simp only at y0 y1 HIX
      clear hx
      have HT6:=Lib.hid (HT.out.alloc (.cells #[.string xp,.string xt] 71))
      have HG6:=Lib.hid (Blk.new wr 71 #[.string xp,.string xt])
      go_upto_region 13 with (fail)
      generalize wr.alloc (.cells #[.string xp,.string xt] 71)=w6 at *
      clear y0 y1
      have k3:w6.cell? ⟨wr.heap.size,0,none⟩=some (.string xp):=HG6.out.cell 0
      have k4:w6.cell? ⟨wr.heap.size,1,none⟩=some (.string xt):=HG6.out.cell 1
      go_region_held3 (fun W=>W.cell? ⟨wr.heap.size,0,none⟩=some (.string xp)∧W.cell? ⟨wr.heap.size,1,none⟩=some (.string xt)) (go_keep) (first
       | (go_at_call 65;go_must (refine (bgroup_any xp _ HIX.out.1).mono ?_;rintro e w7 ⟨rfl,hb7⟩;have hb7':Below w6.heap.size w6 w7:=((Below.refl _ w6).drew).trans hb7;have HT7:=Lib.hid (HT6.out.on hb7');have HG7:=Lib.hid (HG6.out.below hb7' HG6.out.lt);have k3:w7.cell? ⟨wr.heap.size,0,none⟩=some (.string xp):=HG7.out.cell 0;have k4:w7.cell? ⟨wr.heap.size,1,none⟩=some (.string xt):=HG7.out.cell 1;have HTA7:=Lib.hid (HT7.out.alloc (.cells #[.string (grp xp),.string xp,.string xt] 9));have HTO7:=Lib.hid (HTA7.out.fst HNU.out);have HAR7:=Lib.hid (reads_new w7 #[.string (grp xp),.string xp,.string xt] 9 1 3 rfl);have HSZ7:=Lib.hid HTA7.out.2.size;have HGA7:=Lib.hid (HG7.out.alloc (.cells #[.string (grp xp),.string xp,.string xt] 9));clear hb7 hb7'))
       | (refine step_append_any (by rfl) (.tmp 67) (.tmp 75) _ (by rfl) w4.heap.size 9 i0 _ 1 16 Tryz.underlying37 hi0 hz0 hz1 hz2 rfl (by omega) (.slice Au nu cu) nu (strsV us) (by rfl) HTO7.out (w7.heap.size+1) (some ⟨w7.heap.size,0,none⟩) 3 3 [.string (grp xp),.string xp,.string xt] (by rfl) HAR7.out (by simp [Value.oneCell']) (by simp only [maxLen];omega) (by omega) HSZ7.out ?_;intro v8 w8 hown8 hg8 hat8;have HT8:=Lib.hid (HTA7.out.push HGA7.out (by decide) [grp xp,xp,xt] HNU.out rfl hown8 hg8 hat8);have k3:w8.cell? ⟨wr.heap.size,0,none⟩=some (.string xp):=HT8.out.2.cell 0;have k4:w8.cell? ⟨wr.heap.size,1,none⟩=some (.string xt):=HT8.out.2.cell 1;clear hown8 hg8 hat8)
       | fail "no arm")
      have HTA8:=Lib.hid (HT8.out.1.symm.alloc (.cells #[.string xp] 9))
      have HTO8:=Lib.hid (HTA8.out.fst HMQ.out)
      have HAR8:=Lib.hid (reads_new w8 #[.string xp] 9 1 1 rfl)
      have HSZ8:=Lib.hid HTA8.out.2.size
      have HGA8:=Lib.hid (HT8.out.2.alloc (.cells #[.string xp] 9))
      clear k4
      go_wp2_with (at_builtin;go_must (refine wpList_append_any _ rfl (.tmp 77) (.tmp 80) _ rfl w4.heap.size 9 i0 _ 1 16 Tryz.underlying37 hi0 hz0 hz1 hz2 rfl (by omega) _ mq (strsV qs) rfl HTO8.out (w8.heap.size+1) (some ⟨w8.heap.size,0,none⟩) 1 1 [.string xp] rfl HAR8.out (by simp [Value.oneCell']) (by simp only [maxLen];omega) (by omega) HSZ8.out ?_;intro v9 w9 hown9 hg9 hat9;have HT9:=Lib.hid (HTA8.out.push HGA8.out (by decide) [xp] HMQ.out rfl hown9 hg9 hat9);clear hown9 hg9 hat9))
      go_roundw
      case rel=>exact ⟨j+1,us++[grp xp,xp,xt],qs++[xp],by go_num,hjm,by rw [wordsV_next HX.out,HUS.out];simp,by rw [map_next HX.out,HQS.out];simp,HT9.out.1.symm⟩
      case measure=>simp [Lib.intOf];omega
     ·obtain rfl:j=mk:=by omega
      have hq2:¬ (j:Int)<(j:Int):=by omega
      have HTE:=Lib.hid (show LW w4 wr (Value.slice Au nu cu) (Value.slice Aq mq cq) (wordsB (l.take (i+1))) (pathsB (l.take (i+1))) from by
       have:=HT.out
       rw [HUS.out,HQS.out,HWS.out,HPS.out,List.take_of_length_le (l:=vl) (by rw [HMK.out];exact Nat.le_refl _)] at this
       rw [words_next HBB.out,paths_next HBB.out]
       exact this)
      go_wp2
      go_roundw
      case rel=>exact ⟨i+1,_,_,by go_num,hlt,rfl,rfl,HTE.out⟩
      case measure=>simp [Lib.intOf];omega
   ·obtain rfl:i=n:=by omega
    have hq:¬ (i:Int)<(i:Int):=by omega
    have HTE:=Lib.hid (show LW w4 wr (Value.slice Aw nw cw) (Value.slice Ap np cp) (wordsB l) (pathsB l) from by
     have:=HT.out
     rw [HWS.out,HPS.out,List.take_of_length_le (l:=l) (by rw [HN.out];exact Nat.le_refl _)] at this
     exact this)
    have HLN:=Lib.hid (words_len l (fun b hb=>(HIN.out b hb).2.2))
    have HWZ:=Lib.hid (words_size HIN.out)
    have HPZ:=Lib.hid (paths_size HIN.out)
    have HTX:=Lib.hid (show Txts wr wr.heap.size (Value.slice Aw nw cw) (wordsB l) from own_form HTE.out.1.1)
    have HPX:=Lib.hid (show Txts wr wr.heap.size (Value.slice Ap np cp) (pathsB l) from own_form HTE.out.1.2.1)
    have HPL1:=Lib.hid (pool1_any _ (wordsB l) wr HTX.out (by have:=HLN.out.1;have:=HN.out;omega) HWZ.out)
    have HPL2:=Lib.hid (fun (W:World) (hb:Below wr.heap.size wr W)=>pool1_any _ (pathsB l) W (HPX.out.on hb) (by have:=HLN.out.2;have:=HN.out;omega) HPZ.out)
    have hgr:g<wr.heap.size:=by have:=HG.out;have:=HTE.out.2.size;omega
    have HXR:=Lib.hid (HX3.out.below HTE.out.2 HG.out)
    obtain ⟨nT,hnT⟩:∃ nT,(poolL bl (wordsB l)).length=nT:=⟨_,rfl⟩
    obtain ⟨nP,hnP⟩:∃ nP,(poolL bl (pathsB l)).length=nP:=⟨_,rfl⟩
    have HNT:=Lib.hid hnT
    have HNP2:=Lib.hid hnP
    rw [hnT] at HPL1
    rw [hnP] at HPL2
    have hnT1:nT≤25740520:=by have h1:=poolL_len (lt:=bl) (wordsB l);have h2:=HLN.out.1;have:=HN.out;omega
    have hnP1:nP≤8580000:=by have h1:=poolL_len (lt:=bl) (pathsB l);have h2:=HLN.out.2;have:=HN.out;omega
    have hgw2:g≠w.heap.size:=by omega
    have HBE:=Lib.hid HTE.out.2
    clear hnT hnP HT HTE HWS HPS HTX HPX
    go_upto_region 18 with (go_at_call 66;go_must (first
     | (refine HPL1.out.mono ?_;rintro en w8 ⟨u8,A8,c8,rfl,rfl,ho8,hb8⟩;have HO8:=Lib.hid ho8;have HB8:=Lib.hid hb8;have HQL:=Lib.hid (HPL2.out w8 hb8);clear ho8 hb8 HPL1 HPL2)
     | (refine HQL.out.mono ?_;rintro en w9 ⟨u9,A9,c9,rfl,rfl,ho9,hb9⟩;have HO9:=Lib.hid ho9;have HB9:=Lib.hid hb9;have HX9:=Lib.hid ((HXR.out.below HB8.out hgr).below hb9 (Nat.lt_of_lt_of_le hgr HB8.out.size));have d0:=HX9.out.cell 0;have d1:=HX9.out.frozen 0;have d2:=(HX9.out.set_ 0 (.slice A8 nT c8)).cell 1;have d3:=(HX9.out.set_ 0 (.slice A8 nT c8)).frozen 1;simp only [List.setIfInBounds_toArray,List.set_cons_zero,List.set_cons_succ] at d0 d2;clear ho9 hb9)))
    have HRT:=Lib.hid (show RiseL bl (textsP l) from poolL_rise blT _)
    have HRP:=Lib.hid (show RiseL bl (pathsP l) from poolL_rise blT _)
    have HTZ:=Lib.hid (show ∀ x∈textsP l,x.size≤maxLen from fun x hx=>Nat.le_trans (HWZ.out x ((poolL_mem _ x).1 hx)) (by simp [maxLen]))
    have HPZ2:=Lib.hid (show ∀ x∈pathsP l,x.size≤maxLen from fun x hx=>Nat.le_trans (HPZ.out x ((poolL_mem _ x).1 hx)) (by simp [maxLen]))
    have HLT:=Lib.hid (show (textsP l).length=nT from HNT.out)
    have HLP:=Lib.hid (show (pathsP l).length=nP from HNP2.out)
    have HXA:=Lib.hid (show Blk ((w9.setCell ⟨g,0,none⟩ (.slice A8 nT c8)).setCell ⟨g,1,none⟩ (.slice A9 nP c9)) g 133 #[.slice A8 nT c8,.slice A9 nP c9,.slice none 0 0,.slice none 0 0] from (HX9.out.set_ 0 _).set_ 1 _)
    have HON9:=Lib.hid (show Only g w9 ((w9.setCell ⟨g,0,none⟩ (.slice A8 nT c8)).setCell ⟨g,1,none⟩ (.slice A9 nP c9)) from ((Only.refl g w9).setCell (.inl rfl) _).setCell (.inl rfl) _)
    generalize (w9.setCell ⟨g,0,none⟩ (.slice A8 nT c8)).setCell ⟨g,1,none⟩ (.slice A9 nP c9)=wA at *
    have HOT:=Lib.hid (show wA.ownsRow (g+1) 9 1 (.slice A8 nT c8) nT (strsV (textsP l))∧wA.ownsRow (g+1) 9 1 (.slice A9 nP c9) nP (strsV (pathsP l)) from
     ⟨own_base (own_only (own_more HO8.out HB9.out) HON9.out hgr) hgr,own_base (own_only HO9.out HON9.out (Nat.lt_of_lt_of_le hgr HB8.out.size)) (Nat.lt_of_lt_of_le hgr HB8.out.size)⟩)
    have HTV:=Lib.hid (show Txts wA wA.heap.size (.slice A8 nT c8) (textsP l) from by
     have h1:w9.ownsRow wr.heap.size 9 1 (.slice A8 nT c8) nT (strsV (poolL bl (wordsB l))):=own_more HO8.out HB9.out
     have h2:=own_only h1 HON9.out hgr
     rw [←HNT.out] at h2 ⊢
     exact own_form h2)
    have HPV:=Lib.hid (show Txts wA wA.heap.size (.slice A9 nP c9) (pathsP l) from by
     have h2:=own_only HO9.out HON9.out (Nat.lt_of_lt_of_le hgr HB8.out.size)
     rw [←HNP2.out] at h2 ⊢
     exact own_form h2)
    have HBA:=Lib.hid (show Below w.heap.size w wA from Below.only (((HB3.out.trans (HBE.out.mono HB3.out.size)).trans (HB8.out.mono (by omega))).trans (HB9.out.mono (by have:=HB8.out.size;omega))) HON9.out (by omega) (by have:=HB8.out.size;have:=HB9.out.size;omega))
    have HKA:=Lib.hid (show Blk wA w.heap.size 24 #[.slice A i c] from ((((HK3.out.below HBE.out (by have:=HG.out;omega)).below HB8.out (by omega)).below HB9.out (by have:=HB8.out.size;omega)).grown HON9.out (by simp;omega)))
    have hga:g<wA.heap.size:=HXA.out.lt
    have hnT2:(nT:Int)≤25740520:=by omega
    have hnP2:(nP:Int)≤8580000:=by omega
    clear d0 d1 d2 d3 HX9 HO8 HO9 HB8 HB9 HQL HXR HX3 HNW HNP
    have k5:wA.cell? ⟨g,0,none⟩=some (.slice A8 nT c8):=HXA.out.cell 0
    have hmm:=@run_makeMap Tryz.prog
    have HM0:=Lib.hid (show MapS (wA.alloc (.map #[] 0)) wA.heap.size 0 0 (numA (textsP l) 0) from by rw [numA_zero];exact MapG.made wA Tryz.prog 9 strL strOk)
    have HB0:=Lib.hid ((Below.refl wA.heap.size wA).alloc (Nat.le_refl _) (.map #[] 0))
    go_wp2
    clear k5
    go_loopw [102] (fun iv W=>∃ p:Nat,iv=.int .i64 (p:Int)∧p≤nT∧Below wA.heap.size wA W∧MapS W wA.heap.size p p (numA (textsP l) p)) (fun iv _=>nT-(Lib.intOf iv).toNat)
    case atStart=>exact ⟨0,rfl,Nat.zero_le _,HB0.out,HM0.out⟩
    case round =>
     clear HB0 HM0
     obtain ⟨p,rfl,hp,hB,hM⟩:=hrel
     have HB:=Lib.hid hB
     have HM:=Lib.hid hM
     clear hB hM
     by_cases hpn:p<nT
     ·-- <<r3
      have hq3:(p:Int)<(nT:Int):=by omega
      have hwp:IntKind.u32.wrap (p:Int)=(p:Int):=by rw [IntKind.wrap_u32];omega
      obtain ⟨x,hx⟩:=at_lt (l:=textsP l) (p:=p) (by rw [HLT.out];exact hpn)
      obtain ⟨Ax,cx,ex,-,-,hRx⟩:=HTV.out
      rw [HLT.out] at ex hRx
      cases ex
      obtain ⟨b1,o1,rfl,hb1,hcl1⟩:=hRx.spot (by omega) (by omega)
      have r0:wr.cell? ⟨b1,o1+p,none⟩=some (.string x):=(HB.out.cell (p:=⟨b1,o1+p,none⟩) (by exact hb1)).trans (hcl1 _ _ (str_at hx))
      have hsx:x.size≤maxLen:=HTZ.out x (List.mem_of_getElem? hx)
      have HNX:=Lib.hid (numA_next HRT.out hx)
      obtain ⟨w2,hrun,hM2,hg2⟩:=HM.out.store law_str Tryz.underlying136 (by simp only [maxLen];omega) strL_inj hsx (key_str hsx) (.int .u32 (p:Int))
      rw [HNX.out.1,HNX.out.2] at hM2
      have HM2:=Lib.hid hM2
      have HB2:=Lib.hid (HB.out.grown hg2 HB.out.size (fun k hk=>by cases hk;exact Nat.le_refl _))
      clear hcl1 hsx hM2 hg2 hx
      go_wp2
      go_roundw
      case rel=>exact ⟨p+1,by go_num,hpn,HB2.out,by simpa using HM2.out⟩
      case measure=>simp [Lib.intOf];omega
     ·obtain rfl:nT=p:=by omega
      have hq3:¬ (nT:Int)<(nT:Int):=by omega
      have HMN:=Lib.hid HM.out
      have HXC:=Lib.hid (HXA.out.below HB.out hga)
      have HBC:=Lib.hid HB.out
      have HPV2:=Lib.hid (HPV.out.on HB.out)
      have k5:(wr.alloc (.map #[] 0)).cell? ⟨g,1,none⟩=some (.slice A9 nP c9):=(HXC.out.alloc _).cell 1
      have HM0:=Lib.hid (show MapS (wr.alloc (.map #[] 0)) wr.heap.size 0 0 (numA (pathsP l) 0) from by rw [numA_zero];exact MapG.made wr Tryz.prog 9 strL strOk)
      have HB0:=Lib.hid ((Below.refl wr.heap.size wr).alloc (Nat.le_refl _) (.map #[] 0))
      obtain ⟨wC,hwC⟩:∃ wC,wr=wC:=⟨_,rfl⟩
      rw [hwC] at HMN HXC HBC HPV2 k5 HM0 HB0 ⊢
      clear hwC HM HB
      go_wp2
      clear k5
      go_loopw [118] (fun iv W=>∃ p:Nat,iv=.int .i64 (p:Int)∧p≤nP∧Below wC.heap.size wC W∧MapS W wC.heap.size p p (numA (pathsP l) p)) (fun iv _=>nP-(Lib.intOf iv).toNat)
      case atStart=>exact ⟨0,rfl,Nat.zero_le _,HB0.out,HM0.out⟩
      case round =>
       clear HB0 HM0
       obtain ⟨p,rfl,hp,hB,hM⟩:=hrel
       have HB:=Lib.hid hB
       have HM:=Lib.hid hM
       clear hB hM
       by_cases hpn:p<nP
       ·-- <<r4
        have hq3:(p:Int)<(nP:Int):=by omega
        have hwp:IntKind.u32.wrap (p:Int)=(p:Int):=by rw [IntKind.wrap_u32];omega
        obtain ⟨x,hx⟩:=at_lt (l:=pathsP l) (p:=p) (by rw [HLP.out];exact hpn)
        obtain ⟨Ax,cx,ex,-,-,hRx⟩:=HPV2.out
        rw [HLP.out] at ex hRx
        cases ex
        obtain ⟨b1,o1,rfl,hb1,hcl1⟩:=hRx.spot (by omega) (by omega)
        have r0:wr.cell? ⟨b1,o1+p,none⟩=some (.string x):=(HB.out.cell (p:=⟨b1,o1+p,none⟩) (by exact hb1)).trans (hcl1 _ _ (str_at hx))
        have hsx:x.size≤maxLen:=HPZ2.out x (List.mem_of_getElem? hx)
        have HNX:=Lib.hid (numA_next HRP.out hx)
        obtain ⟨w2,hrun,hM2,hg2⟩:=HM.out.store law_str Tryz.underlying136 (by simp only [maxLen];omega) strL_inj hsx (key_str hsx) (.int .u32 (p:Int))
        rw [HNX.out.1,HNX.out.2] at hM2
        have HM2:=Lib.hid hM2
        have HB2:=Lib.hid (HB.out.grown hg2 HB.out.size (fun k hk=>by cases hk;exact Nat.le_refl _))
        clear hcl1 hsx hM2 hg2 hx
        go_wp2
        go_roundw
        case rel=>exact ⟨p+1,by go_num,hpn,HB2.out,by simpa using HM2.out⟩
        case measure=>simp [Lib.intOf];omega
       ·obtain rfl:nP=p:=by omega
        have hq3:¬ (nP:Int)<(nP:Int):=by omega
        obtain ⟨wB,hwB⟩:∃ wB,wr=wB:=⟨_,rfl⟩
        rw [hwB] at HB HM ⊢
        clear hwB
        have HAB:=Lib.hid (show Below wA.heap.size wA wB from HBC.out.trans (HB.out.mono HBC.out.size))
        have HXB:=Lib.hid (HXC.out.below HB.out HXC.out.lt)
        have HOTB:=Lib.hid (show wB.ownsRow (g+1) 9 1 (.slice A8 nT c8) nT (strsV (textsP l))∧wB.ownsRow (g+1) 9 1 (.slice A9 nP c9) nP (strsV (pathsP l)) from ⟨own_more HOT.out.1 HAB.out,own_more HOT.out.2 HAB.out⟩)
        have HMM:=Lib.hid (show ∀ W,Only g wB W→MapS W wA.heap.size nT nT (numA (textsP l) nT)∧MapS W wC.heap.size nP nP (numA (pathsP l) nP) from fun W hW=>⟨(HMN.out.on HB.out).kept hW (by simp;omega),HM.out.kept hW (by have:=HBC.out.size;simp;omega)⟩)
        have HTT:=Lib.hid (show ∀ W,Only g wB W→Txts W W.heap.size (.slice A8 nT c8) (textsP l)∧Txts W W.heap.size (.slice A9 nP c9) (pathsP l) from fun W hW=>⟨by
         have h2:=own_only HOTB.out.1 hW (Nat.lt_succ_self g)
         rw [←HLT.out] at h2 ⊢
         exact own_form h2,by
         have h2:=own_only HOTB.out.2 hW (Nat.lt_succ_self g)
         rw [←HLP.out] at h2 ⊢
         exact own_form h2⟩)
        have HBW:=Lib.hid (show ∀ W,Only g wB W→Below w.heap.size w W∧W.cell? ⟨w.heap.size,0,none⟩=some (.slice A i c) from fun W hW=>⟨Below.only (HBA.out.trans (HAB.out.mono (by omega))) hW (by omega) (by have:=HAB.out.size;omega),((HKA.out.below HAB.out (by omega)).grown hW (by simp;omega)).cell 0⟩)
        have hgB:g<wB.heap.size:=HXB.out.lt
        have HST:=Lib.hid (ST.start HXB.out)
        have k5:wB.cell? ⟨w.heap.size,0,none⟩=some (.slice A i c):=(HBW.out wB (Only.refl _ _)).2
        clear HB HM HMN HXA HXC HTV HPV HPV2 HBC HKA HOT HAB HBA
        go_wp2
        clear k5
        go_loopw [18,131] (fun av iv W=>∃(q:Nat) (bv:Value) (ps:List (Value×List RowI)) (bs:List BkE),iv=.int .i64 (q:Int)∧q≤i∧ps.map Prod.snd=allTabs (textsP l) (pathsP l) (l.take q)∧BksIs (textsP l) (pathsP l) (allTabs (textsP l) (pathsP l) l) (l.take q) bs∧ST wB g (.slice A8 nT c8) (.slice A9 nP c9) W av bv ps bs) (fun _ iv _=>i-(Lib.intOf iv).toNat)
        case atStart=>exact ⟨0,_,[],[],rfl,Nat.zero_le _,rfl,bksIs_nil _ _ _,HST.out⟩
        case round =>
         clear HST
         obtain ⟨q,bv,ps,bs,rfl,hqi,hps,hbs,hS⟩:=hrel
         have HPS:=Lib.hid hps
         have HBS:=Lib.hid hbs
         have HSS:=Lib.hid hS
         clear hps hbs hS
         by_cases hqn:q<i
         ·-- <<r5
          have hq5:(q:Int)<(i:Int):=by omega
          obtain ⟨⟨nm,vl⟩,hb⟩:∃ b,l[q]?=some b:=⟨_,List.getElem?_eq_getElem (by rw [HN.out];exact hqn)⟩
          obtain ⟨kb,ko,kv,rfl,hcw⟩:=HCC.out q _ hb
          have hbw:=HBW.out wr HSS.out.1
          obtain ⟨z0,z1,hk⟩:=hcw wr hbw.1
          have HCW:=Lib.hid (show ∀ W,Below w.heap.size w W→KeysAt W W.heap.size kv vl from fun W hW=>(hcw W hW).2.2)
          have HIB:=Lib.hid (HIN.out _ (List.mem_of_getElem? hb))
          have HBB:=Lib.hid hb
          simp only at z0 z1 hk HIB
          obtain ⟨Ak,ck,rfl,-,-,-⟩:=hk
          obtain ⟨mk,hmk⟩:∃ mk,vl.length=mk:=⟨_,rfl⟩
          have HMK:=Lib.hid hmk
          rw [hmk] at z1 HCW HIB
          clear hcw hb hmk
          have hmk2:mk≤16500:=HIB.out.2.2
          have hmk3:(mk:Int)≤16500:=by omega
          have HG1:=Lib.hid (((Blk.new wr 41 #[.string nm,.slice Ak mk ck]).alloc (.map #[] 0)).alloc (.cells #[.string nm,.slice none 0 0,.slice none 0 0] 139))
          have HG2:=Lib.hid (show Blk _ (wr.heap.size+1+1) _ _ from by
           have:=Blk.new ((wr.alloc (.cells #[.string nm,.slice Ak mk ck] 41)).alloc (.map #[] 0)) 139 #[.string nm,.slice none 0 0,.slice none 0 0]
           simpa only [World.size_alloc] using this)
          have HR0:=Lib.hid (show RMap wr.heap.size (((wr.alloc (.cells #[.string nm,.slice Ak mk ck] 41)).alloc (.map #[] 0)).alloc (.cells #[.string nm,.slice none 0 0,.slice none 0 0] 139)) (wr.heap.size+1) 0 [] from by
           have:RMap wr.heap.size _ _ 0 []:=(RowMap.made (wr.alloc (.cells #[.string nm,.slice Ak mk ck] 41))).alloc (.cells #[.string nm,.slice none 0 0,.slice none 0 0] 139)
           simpa only [World.size_alloc] using this)
          have HB6:=Lib.hid ((((Below.refl wr.heap.size wr).alloc (Nat.le_refl _) (.cells #[.string nm,.slice Ak mk ck] 41)).alloc (by simp) (.map #[] 0)).alloc (by simp;omega) (.cells #[.string nm,.slice none 0 0,.slice none 0 0] 139))
          have k6:(wr.alloc (.cells #[.string nm,.slice Ak mk ck] 41)).cell? ⟨wr.heap.size,0,none⟩=some (.string nm):=(Blk.new wr _ _).cell 0
          have k7:((wr.alloc (.cells #[.string nm,.slice Ak mk ck] 41)).alloc (.map #[] 0)).cell? ⟨wr.heap.size,0,none⟩=some (.string nm):=((Blk.new wr _ _).alloc _).cell 0
          go_upto_region 36 with (fail)
          clear k6 k7 z0 z1
          generalize ((wr.alloc (.cells #[.string nm,.slice Ak mk ck] 41)).alloc (.map #[] 0)).alloc (.cells #[.string nm,.slice none 0 0,.slice none 0 0] 139)=w6 at *
          obtain ⟨Wi,hWi⟩:∃ Wi,Wi=wr:=⟨_,rfl⟩
          subst hWi
          obtain ⟨mr,hmr⟩:∃ mr,Wi.heap.size+1=mr:=⟨_,rfl⟩
          obtain ⟨gy,hgy⟩:∃ gy,mr+1=gy:=⟨_,rfl⟩
          rw [hmr] at HR0 HG2 ⊢
          rw [hgy] at HG2 ⊢
          have hLY:Wi.heap.size≤gy∧mr≠gy:=by omega
          have hLR:Wi.heap.size≤mr∧mr≠gy:=by omega
          have k6:w6.cell? ⟨Wi.heap.size,1,none⟩=some (.slice Ak mk ck):=HG1.out.cell 1
          go_wp2
          clear k6
          go_loopw [142] (fun jv W=>∃(j:Nat) (gv:Value) (gs:List ByteArray) (rps:List (REnt RowI)),jv=.int .i64 (j:Int)∧j≤mk∧L6 Wi gy mr nm W gv gs j rps∧GrAt (textsP l) (pathsP l) vl j rps∧rps.map (fun p=>p.1)=gs) (fun jv _=>mk-(Lib.intOf jv).toNat)
          case atStart=>exact ⟨0,_,[],[],rfl,Nat.zero_le _,⟨HB6.out,HG2.out,World.ownsRow_nil _ _ _ _,HR0.out⟩,grAt_start _ _ _,rfl⟩
          case round =>
           clear HB6 HG2 HR0 HG1
           obtain ⟨j,gv,gs,rps,rfl,hj,hL,hG,hK⟩:=hrel
           have HL:=Lib.hid hL
           have HGR:=Lib.hid hG
           have HK:=Lib.hid hK
           obtain ⟨ng,hng⟩:∃ ng,gs.length=ng:=⟨_,rfl⟩
           have HNG:=Lib.hid hng
           have hng1:ng≤16500:=by
            rw [←hng,←hK,List.length_map]
            have:=hG.2.2
            omega
           obtain ⟨Ag,cg,rfl,-,-,-⟩:=own_form HL.out.2.2.1
           rw [hng] at HL
           clear hL hG hK hng
           by_cases hjm:j<mk
           ·-- <<r6
            have hq6:(j:Int)<(mk:Int):=by omega
            obtain ⟨⟨xp,xt⟩,hx⟩:∃ x,vl[j]?=some x:=⟨_,List.getElem?_eq_getElem (by rw [HMK.out];exact hjm)⟩
            have HSW:=Lib.hid (HSS.out.on HL.out.1)
            obtain ⟨bv,ov,rfl,hbv,y0,y1⟩:=keys_spot (HCW.out _ (HBW.out _ HSW.out.1).1) hx
            have HIX:=Lib.hid (HIB.out.2.1 _ (List.mem_of_getElem? hx))
            have HX:=Lib.hid hx
            simp only at y0 y1 HIX
            have HMV:=Lib.hid (show xp∈pathsP l∧xt∈textsP l from ⟨(poolL_mem _ _).2 (paths_val (List.mem_of_getElem? HBB.out) (List.mem_of_getElem? hx)),(poolL_mem _ _).2 (words_val (List.mem_of_getElem? HBB.out) (List.mem_of_getElem? hx)).2.2⟩)
            clear hx
            have HL6:=Lib.hid (HL.out.alloc (.cells #[.string xp,.string xt] 71))
            have HV6:=Lib.hid (Blk.new wr 71 #[.string xp,.string xt])
            go_upto_region 39 with (fail)
            generalize wr.alloc (.cells #[.string xp,.string xt] 71)=w6 at *
            clear y0 y1
            obtain ⟨gx,hgx⟩:∃ gx,wr.heap.size=gx:=⟨_,rfl⟩
            rw [hgx] at HV6 ⊢
            have hgxy:gy<gx:=by rw [←hgx];exact HL.out.2.1.lt
            clear hgx
            have n0:w6.cell? ⟨gx,0,none⟩=some (.string xp):=HV6.out.cell 0
            have hgs:strOk (grp xp):=by have h1:=grp_size xp;have h2:=HIX.out.1;unfold strOk maxLen;omega
            have HGS:=Lib.hid hgs
            go_upto_region 40 with (go_at_call 65;go_must (refine (bgroup_any xp _ HIX.out.1).mono ?_;rintro e w7 ⟨rfl,hb7⟩;have HL7:=Lib.hid (HL6.out.on hb7);have HV7:=Lib.hid (HV6.out.below hb7 HV6.out.lt);clear hb7 n0))
            obtain ⟨gg,hgg⟩:∃ gg,grp xp=gg:=⟨_,rfl⟩
            rw [hgg] at HGS hgs ⊢
            have HGG:=Lib.hid hgg
            clear hgg HL6 HV6
            have HLK:=Lib.hid (HL7.out.mapAt.look_ok law_str Tryz.underlying137 (zero_rows w7) hgs (key_str hgs))
            clear hgs
            rcases Option.eq_none_or_eq_some (lookF rps gg) with hlf | ⟨u,hlf⟩
            case' inl =>
             have HLF:=Lib.hid hlf
             have hlk1:=HLK.out
             rw [hlf] at hlk1
             simp only [Option.getD_none,Option.isSome_none] at hlk1
             clear hlf HLK
             have m1:w7.cell? ⟨gy,1,none⟩=some (.slice Ag ng cg):=HL7.out.2.1.cell 1
             have HLA:=Lib.hid (HL7.out.alloc (.cells #[.string gg] 9))
             have HLO:=Lib.hid (HLA.out.fst HNG.out)
             have HAR:=Lib.hid (reads_new w7 #[.string gg] 9 1 1 rfl)
             have HAZ:=Lib.hid HLA.out.1.size
             have HVA:=Lib.hid (HV7.out.alloc (.cells #[.string gg] 9))
             go_upto_region 43 with (at_builtin;go_must (refine wpList_append_any _ rfl (.tmp 158) (.tmp 160) _ rfl Wi.heap.size 9 i0 _ 1 16 Tryz.underlying37 hi0 hz0 hz1 hz2 rfl (by omega) _ ng (strsV gs) rfl HLO.out (w7.heap.size+1) (some ⟨w7.heap.size,0,none⟩) 1 1 [.string gg] rfl HAR.out (by simp [Value.oneCell']) (by simp only [maxLen];omega) (by omega) HAZ.out ?_;intro v8 w8 hown8 hg8 hat8;obtain ⟨Ay,cy,rfl,-,-,-⟩:=own_form hown8;have HL8:=Lib.hid (HLA.out.pushG hLY HNG.out hown8 hg8);have HV8:=Lib.hid ((blk_stays HVA.out HLO.out (by decide) hg8).grown (grown_set w8 gy 1 (.slice Ay (ng+1) cy)) (fun e=>by have:=Option.some.inj e;omega));have m2:w8.cell? ⟨gy,1,none⟩=some (.slice Ag ng cg):=(blk_stays HLA.out.2.1 HLO.out (by decide) hg8).cell 1;have m3:w8.frozen? ⟨gy,1,none⟩=false:=(blk_stays HLA.out.2.1 HLO.out (by decide) hg8).frozen 1;clear hown8 hg8 hat8 m1))
             generalize w8.setCell ⟨gy,1,none⟩ (.slice Ay (ng+1) cy)=w9 at *
             obtain ⟨g9,hg9⟩:∃ g9,gs++[gg]=g9:=⟨_,rfl⟩
             have HL9:=Lib.hid (hg9 ▸ HL8.out)
             have HV9:=Lib.hid HV8.out
             have HK9:=Lib.hid (show ∀ v xs,(updM rps gg v xs).map (fun p=>p.1)=g9 from fun v xs=>by rw [updM_keys,HLF.out,if_neg (by simp),HK.out,hg9])
             clear hg9 m2 m3 HL8 HV8 HLA HLO HAR HAZ HVA HL7 HV7 hlk1
            case' inr =>
             have HLF:=Lib.hid hlf
             have hlk1:=HLK.out
             rw [hlf] at hlk1
             simp only [Option.getD_some,Option.isSome_some] at hlk1
             clear hlf HLK
             go_upto_region 43 with (fail)
             obtain ⟨w9,hw9⟩:∃ w9,w9=w7:=⟨_,rfl⟩
             subst hw9
             obtain ⟨g9,hg9⟩:∃ g9,gs=g9:=⟨_,rfl⟩
             have HL9:=Lib.hid (hg9 ▸ HL7.out)
             have HV9:=Lib.hid HV7.out
             have HK9:=Lib.hid (show ∀ v xs,(updM rps gg v xs).map (fun p=>p.1)=g9 from fun v xs=>by rw [updM_keys,HLF.out,if_pos (by simp),HK.out,hg9])
             clear hg9 HL7 HV7 hlk1
            all_goals
             clear HLF
             obtain ⟨u,hu⟩:∃ u,(lookF rps gg).getD (.slice none 0 0)=u:=⟨_,rfl⟩
             have HU:=Lib.hid hu
             have HOU:=Lib.hid (HL9.out.rowAt gg hu)
             clear hu
             obtain ⟨nu,hnu⟩:∃ nu,(lookR rps gg).length=nu:=⟨_,rfl⟩
             have HNU:=Lib.hid hnu
             have hnu1:nu≤16500:=by
              rw [←hnu,HGR.out.1 gg]
              exact Nat.le_trans (rowsB_len _ _ _ _) (by rw [List.length_take];omega)
             obtain ⟨Au,cu,rfl,-,-,-⟩:=own_form HOU.out
             rw [hnu] at HU HOU
             clear hnu
             obtain ⟨ka,hka⟩:∃ ka,idx (pathsP l) xp=ka:=⟨_,rfl⟩
             obtain ⟨kc,hkc⟩:∃ kc,idx (textsP l) xt=kc:=⟨_,rfl⟩
             have hlk2:=HL9.out.mapAt.look law_str Tryz.underlying137 (zero_rows w9) HGS.out (key_str HGS.out)
             rw [HU.out] at hlk2
             have HWM:=HMM.out w9 (HSS.out.on HL9.out.1).1
             have hlk3:=HWM.2.look law_str Tryz.underlying136 (zero_u32 w9) (HPZ2.out xp HMV.out.1) (key_str (HPZ2.out xp HMV.out.1))
             have hlk4:=HWM.1.look law_str Tryz.underlying136 (zero_u32 w9) (HTZ.out xt HMV.out.2) (key_str (HTZ.out xt HMV.out.2))
             have hp3:=numA_all HMV.out.1
             rw [HLP.out,hka] at hp3
             rw [hp3] at hlk3
             have hp4:=numA_all HMV.out.2
             rw [HLT.out,hkc] at hp4
             rw [hp4] at hlk4
             have HKA:=Lib.hid (And.intro hka hkc)
             clear HWM hp3 hp4 hka hkc
             have n0:w9.cell? ⟨gx,0,none⟩=some (.string xp):=HV9.out.cell 0
             have n1:w9.cell? ⟨gx,1,none⟩=some (.string xt):=HV9.out.cell 1
             have HLA:=Lib.hid (HL9.out.alloc (.cells #[.int .u32 (ka:Int),.int .u32 (kc:Int)] 81))
             have HOA:=Lib.hid (HOU.out.alloc (.cells #[.int .u32 (ka:Int),.int .u32 (kc:Int)] 81))
             have HAR:=Lib.hid (reads_new w9 #[.int .u32 (ka:Int),.int .u32 (kc:Int)] 81 2 1 rfl)
             have HAZ:=Lib.hid HLA.out.1.size
             go_wp2_with (at_builtin;go_must (refine wpList_append_any _ rfl (.tmp 167) (.tmp 177) _ rfl Wi.heap.size 81 i1 _ 2 8 Tryz.underlying74 hi1 hy0 hy1 hy2 rfl (by omega) _ nu (rowCells (lookR rps gg)) rfl HOA.out (w9.heap.size+1) (some ⟨w9.heap.size,0,none⟩) 1 1 [.int .u32 (ka:Int),.int .u32 (kc:Int)] rfl HAR.out (by simp [Value.oneCell']) (by simp only [maxLen];omega) (by omega) HAZ.out ?_;intro v10 w10 hown10 hg10 hat10;have hown11:w10.ownsRow Wi.heap.size 81 2 v10 (lookR rps gg++[((ka:Int),(kc:Int))]).length (rowCells (lookR rps gg++[((ka:Int),(kc:Int))])):=(by rw [List.length_append,rowCells_append,HNU.out];exact hown10);obtain ⟨w11,hrun,hM11,hg11⟩:=(HLA.out.mapOn HOA.out hg10).store law_str Tryz.underlying137 (by simp only [maxLen];omega) strL_inj HGS.out (key_str HGS.out) v10;have HL11:=Lib.hid (HLA.out.putR hLR HU.out HOA.out hg10 hown11 hat10 hM11 rfl hg11);clear hown10 hown11 hg10 hat10 hM11 hg11 n0 n1 hlk2 hlk3 hlk4))
             go_roundw
             case rel=>exact ⟨j+1,_,g9,_,by go_num,hjm,HL11.out,(by have:=HGR.out.next HX.out v10;simp only at this;rw [HGG.out,HKA.out.1,HKA.out.2] at this;exact this),HK9.out _ _⟩
             case measure=>simp [Lib.intOf];omega
           ·obtain rfl:mk=j:=by omega
            have hq6:¬ (mk:Int)<(mk:Int):=by omega
            have HGN:=Lib.hid (show GrAt (textsP l) (pathsP l) vl vl.length rps from by rw [HMK.out];exact HGR.out)
            obtain ⟨gs',hgs'⟩:∃ gs',sortT gs=gs':=⟨_,rfl⟩
            have HGL:=Lib.hid (show gs'.length=ng from by rw [←hgs',sortT_len];exact HNG.out)
            have HGE:=Lib.hid (show gs'=groupsB vl from by
             rw [←hgs',←HK.out,sortT_pool HL.out.2.2.2.2.1]
             exact HGN.out.groups)
            have HSO:=Lib.hid (sortS_any (.slice Ag ng cg) gs wr Wi.heap.size 9 (by have:=HL.out.2.2.1;exact this) (by rw [HNG.out];omega))
            unfold SortPost at HSO
            rw [hgs',HNG.out] at HSO
            have HLI:=Lib.hid (lies_of HSS.out hgB hLY)
            have HYB:=Lib.hid (And.intro HGE.out (fun (w7:World) (ho:w7.ownsRow Wi.heap.size 9 1 (.slice Ag ng cg) ng (gs'.map Value.string)) (hg:wr.grownBy w7 (Value.slice Ag ng cg).ownBlock)=>SJ.of (gs':=gs') HSS.out HL.out (by rw [HGL.out];exact ho) hg))
            have k6:wr.cell? ⟨gy,1,none⟩=some (.slice Ag ng cg):=HL.out.2.1.cell 1
            clear hgs' HGR HK HNG HL
            go_upto_region 46 with (go_at_call 42;go_must (refine HSO.out.mono ?_;rintro en w7 ⟨rfl,ho7,hg7⟩;have HJ:=Lib.hid (HYB.out.2 w7 ho7 hg7);have k7:w7.cell? ⟨gy,1,none⟩=some (.slice Ag ng cg):=HJ.out.2.1.cell 1;clear ho7 hg7))
            clear k6 HSO HYB
            obtain ⟨na0,hna0⟩:∃ na0,ps.length=na0:=⟨_,rfl⟩
            have HAL0:=Lib.hid (show (allTabs (textsP l) (pathsP l) (l.take q)).length=na0∧na0≤8580000 from by
             have h1:=congrArg List.length HPS.out
             rw [List.length_map,hna0] at h1
             have h2:=allTabs_len (textsP l) (pathsP l) (l.take q) (fun b hb=>(HIN.out b (List.mem_of_mem_take hb)).2.2)
             rw [List.length_take] at h2
             exact ⟨h1.symm,by omega⟩)
            clear hna0
            have hng3:(ng:Int)≤16500:=by omega
            go_wp2
            clear k7
            go_loopw [18,186] (fun av kv W=>∃(k:Nat) (ps':List (Value×List RowI)) (tw:Value),kv=.int .i64 (k:Int)∧k≤ng∧ps'.map Prod.snd=allTabs (textsP l) (pathsP l) (l.take q)++((gs'.take k).map fun gr=>rowsB (textsP l) (pathsP l) vl gr)∧SJ wB g (.slice A8 nT c8) (.slice A9 nP c9) Wi.heap.size W av bv ps' bs gy nm (.slice Ag ng cg) gs' tw (tsAt na0 k) mr mk rps) (fun _ kv _=>ng-(Lib.intOf kv).toNat)
            case atStart=>exact ⟨0,ps,.slice none 0 0,rfl,Nat.zero_le _,by simp [HPS.out],HJ.out⟩
            case round =>
             clear HJ
             obtain ⟨k,ps',tw,rfl,hk,hps',hJ⟩:=hrel
             have HPT:=Lib.hid hps'
             have HJ:=Lib.hid hJ
             clear hps' hJ
             obtain ⟨na,hna⟩:∃ na,ps'.length=na:=⟨_,rfl⟩
             have HNA:=Lib.hid hna
             have hna2:na=na0+k:=by
              have h1:=congrArg List.length HPT.out
              rw [List.length_map,List.length_append,List.length_map,List.length_take,hna,HAL0.out.1,HGL.out] at h1
              omega
             have HNE:=Lib.hid hna2
             have hna1:na≤8700000:=by have:=HAL0.out.2;omega
             have hna3:(na:Int)≤8700000:=by omega
             obtain ⟨Aa,ca,rfl,-,-,-⟩:=own_form HJ.out.1.2.2.1.1
             obtain ⟨At,ct,rfl,-,-,-⟩:=own_form HJ.out.2.2.2.1
             rw [hna] at HJ ⊢
             rw [tsAt_len] at HJ
             clear hna hna2
             by_cases hkn:k<ng
             ·-- <<r7
              have hq7:(k:Int)<(ng:Int):=by omega
              obtain ⟨gr,hgr⟩:∃ gr,gs'[k]?=some gr:=⟨_,List.getElem?_eq_getElem (by rw [HGL.out];exact hkn)⟩
              have HGT:=Lib.hid hgr
              obtain ⟨Ax,cx,ex,-,-,hRx⟩:=own_form HJ.out.2.2.1
              rw [HGL.out] at ex hRx
              cases ex
              obtain ⟨b1,o1,rfl,hb1,hcl1⟩:=hRx.spot (by omega) (by omega)
              have r0:wr.cell? ⟨b1,o1+k,none⟩=some (.string gr):=hcl1 _ _ (str_at hgr)
              have HGM:=Lib.hid (show gr∈groupsB vl from by rw [←HGE.out];exact List.mem_of_getElem? hgr)
              have hsg:strOk gr:=by
               have h1:=HGM.out
               unfold groupsB at h1
               obtain ⟨v,hv,e⟩:=List.mem_map.1 ((poolL_mem _ _).1 h1)
               have h2:=grp_size v.1
               have h3:=(HIB.out.2.1 v hv).1
               rw [←e]
               unfold strOk maxLen
               omega
              clear hcl1 hgr
              obtain ⟨ar,cr,hlu,hRr⟩:=HJ.out.rowAt HGN.out HGM.out
              have hlk:=HJ.out.2.2.2.2.1.look law_str Tryz.underlying137 (zero_rows wr) hsg (key_str hsg)
              rw [hlu] at hlk
              have HTR:=Lib.hid (tab_rise HE0.out (List.mem_of_getElem? HBB.out) gr)
              simp only at HTR
              obtain ⟨rw',hrw⟩:∃ rw',rowsB (textsP l) (pathsP l) vl gr=rw':=⟨_,rfl⟩
              have hnr1:rw'.length≤16500:=by
               rw [←hrw]
               have:=rowsB_len (textsP l) (pathsP l) vl gr
               have:=HMK.out
               omega
              rw [hrw] at hlk hRr HTR
              have HRW:=Lib.hid hrw
              clear hrw hlu
              obtain ⟨nr,hnr⟩:∃ nr,rw'.length=nr:=⟨_,rfl⟩
              have HTB:=Lib.hid (show Calls Tryz.prog 67 #[.slice (some ar) nr cr] wr (fun e w'=>(∃ A c,e=.returned (.tuple #[.slice A nr c,.int .i64 0])∧OwnRw w' wr.heap.size (.slice A nr c) rw')∧Below wr.heap.size wr w') from by
               have h:=ptable_own ar cr rw' wr hRr (by omega) (by rw [HTR.out.2];exact HTR.out.1)
               rw [HTR.out.2] at h
               rw [←hnr]
               refine h.mono ?_
               rintro e w' ⟨⟨v,rfl,ho⟩,hb⟩
               obtain ⟨A,c,rfl,-,-,-⟩:=own_form ho
               exact ⟨⟨A,c,rfl,ho⟩,hb⟩)
              rw [hnr] at hlk hnr1
              clear hRr hnr HTR
              go_upto_region 50 with (go_at_call 67;go_must (refine HTB.out.mono ?_;rintro en w8 ⟨⟨Av,cv,rfl,ho8⟩,hb8⟩;have HJ8:=Lib.hid (HJ.out.on hb8);have HO8:=Lib.hid (show OwnRw w8 wB.heap.size (.slice Av nr cv) rw' from own_base ho8 HJ.out.size.1);clear ho8 hb8))
              clear r0 hlk HTB
              have m0:w8.cell? ⟨gy,2,none⟩=some (.slice At k ct):=HJ8.out.2.1.cell 2
              have HJA:=Lib.hid (HJ8.out.alloc (.cells #[.int .i64 (na:Int)] 3))
              have HOA:=Lib.hid (show OwnRw (w8.alloc (.cells #[.int .i64 (na:Int)] 3)) wB.heap.size (.slice Av nr cv) rw' from own_more HO8.out ((Below.refl _ w8).alloc (Nat.le_refl _) _))
              have HIR:=Lib.hid (HJA.out.fst (tsAt_len _ _))
              have HAR:=Lib.hid (reads_new w8 #[.int .i64 (na:Int)] 3 1 1 rfl)
              have HAZ:=Lib.hid (show Wi.heap.size≤(w8.alloc (.cells #[.int .i64 (na:Int)] 3)).heap.size from by have:=HJA.out.size.2;have:=hLY.1;omega)
              go_upto_region 53 with (at_builtin;go_must (refine wpList_append_any _ rfl (.tmp 201) (.tmp 204) _ rfl Wi.heap.size 3 i3 _ 1 8 Tryz.underlying62 hi3 hv0 hv1 hv2 rfl (by omega) _ k (natsV (tsAt na0 k)) rfl HIR.out (w8.heap.size+1) (some ⟨w8.heap.size,0,none⟩) 1 1 [.int .i64 (na:Int)] rfl HAR.out (by simp [Value.oneCell']) (by simp only [maxLen];omega) (by omega) HAZ.out ?_;intro v9 w9 hown9 hg9 hat9;obtain ⟨Ay,cy,rfl,-,-,-⟩:=own_form hown9;have HJ9:=Lib.hid (HJA.out.pushTabT HLI.out HOA.out (tsAt_len _ _) hown9 hg9);have m2:w9.cell? ⟨gy,2,none⟩=some (.slice At k ct):=(blk_stays HJA.out.2.1 HIR.out (by decide) hg9).cell 2;have m3:w9.frozen? ⟨gy,2,none⟩=false:=(blk_stays HJA.out.2.1 HIR.out (by decide) hg9).frozen 2;clear hown9 hg9 hat9 m0))
              clear m2 m3 HJA HOA HIR HAR HAZ HJ8 HO8
              generalize w9.setCell ⟨gy,2,none⟩ (.slice Ay (k+1) cy)=w10 at *
              have HJB:=Lib.hid (HJ9.out.1.alloc (.cells #[.slice Av nr cv] 74))
              have HOB:=Lib.hid (show OwnRw (w10.alloc (.cells #[.slice Av nr cv] 74)) wB.heap.size (.slice Av nr cv) rw' from own_more HJ9.out.2 ((Below.refl _ w10).alloc (Nat.le_refl _) _))
              have HAL:=Lib.hid (HJB.out.allR HNA.out)
              have HBR:=Lib.hid (reads_new w10 #[.slice Av nr cv] 74 1 1 rfl)
              have HBZ:=Lib.hid HJB.out.size.1
              go_wp2_with (at_builtin;go_must (refine wpList_append_any _ rfl (.tmp 207) (.tmp 209) _ rfl wB.heap.size 74 i2 _ 1 24 Tryz.underlying130 hi2 hx0 hx1 hx2 rfl (by omega) _ na (ps'.map Prod.fst) rfl HAL.out (w10.heap.size+1) (some ⟨w10.heap.size,0,none⟩) 1 1 [.slice Av nr cv] rfl HBR.out (by simp [Value.oneCell']) (by simp only [maxLen];omega) (by omega) HBZ.out ?_;intro v11 w11 hown11 hg11 hat11;have HJ11:=Lib.hid (HJB.out.pushAllN HNA.out HOB.out hown11 hg11);clear hown11 hg11 hat11))
              go_roundw
              case rel=>exact ⟨k+1,ps'++[(.slice Av nr cv,rw')],.slice Ay (k+1) cy,by go_num,hkn,by rw [List.map_append,HPT.out,List.take_add_one,HGT.out,List.map_append,List.append_assoc];simp [HRW.out],by rw [tsAt_next,←HNE.out];exact HJ11.out⟩
              case measure=>simp [Lib.intOf];omega
             ·obtain rfl:ng=k:=by omega
              have hq7:¬ (ng:Int)<(ng:Int):=by omega
              obtain ⟨nb,hnb⟩:∃ nb,bs.length=nb:=⟨_,rfl⟩
              have HNB:=Lib.hid hnb
              have hnb1:nb≤520:=by
               rw [←hnb,HBS.out.1,List.length_take]
               omega
              obtain ⟨Ab,cb,rfl,-,-,-⟩:=own_form (HJ.out.bksR hnb)
              clear hnb
              have HJW:=Lib.hid (HJ.out.on (((Below.refl _ wr).alloc (Nat.le_refl _) (.cells #[.string nm,.slice Ag ng cg,.slice At ng ct] 139)).drew))
              have HBO:=Lib.hid (HJW.out.bksR HNB.out)
              have HBR:=Lib.hid (show Reads ((wr.alloc (.cells #[.string nm,.slice Ag ng cg,.slice At ng ct] 139)).drew) (wr.heap.size+1) 3 (some ⟨wr.heap.size,0,none⟩) 1 [.string nm,.slice Ag ng cg,.slice At ng ct] from (reads_new wr #[.string nm,.slice Ag ng cg,.slice At ng ct] 139 3 1 rfl).drew)
              have HBZ:=Lib.hid HJW.out.size.1
              have y0:wr.cell? ⟨gy,0,none⟩=some (.string nm):=HJ.out.2.1.cell 0
              have y1:wr.cell? ⟨gy,1,none⟩=some (.slice Ag ng cg):=HJ.out.2.1.cell 1
              have y2:wr.cell? ⟨gy,2,none⟩=some (.slice At ng ct):=HJ.out.2.1.cell 2
              have y3:wr.cell? ⟨g,3,none⟩=some (.slice Ab nb cb):=HJ.out.1.2.1.cell 3
              have HLV:=Lib.hid HLI.out
              have hgl:g<wr.heap.size:=HJ.out.1.2.1.lt
              have hgl2:gy<wr.heap.size:=HJ.out.2.1.lt
              go_upto_region 55 with (fail)
              go_region_law ((refine step_append_any (by rfl) (.tmp 216) (.tmp 218) _ (by rfl) wB.heap.size 139 i4 _ 3 64 Tryz.underlying131 hi4 hu0 hu1 hu2 rfl (by omega) (.slice Ab nb cb) nb (bkCells bs) (by rfl) HBO.out (wr.heap.size+1) (some ⟨wr.heap.size,0,none⟩) 1 1 [.string nm,.slice Ag ng cg,.slice At ng ct] (by rfl) HBR.out (by simp [Value.oneCell']) (by simp only [maxLen];omega) (by omega) HBZ.out ?_;intro v12 w12 hown12 hg12 hat12;obtain ⟨Ac,cc,rfl,-,-,-⟩:=own_form hown12;have HST:=Lib.hid (HJW.out.pushBk HLV.out HNB.out hown12 hg12);have HY:=HJW.out.yStays HLV.out hg12;have y0:=HY.1.cell 0;have y1:=HY.1.cell 1;have y2:=HY.1.cell 2;have y3:=HY.2.cell 3;have y4:=HY.2.frozen 3;clear hown12 hg12 hat12 HY))
              all_goals
               clear y0 y1 y2 y3 y4
               go_wp2
               go_roundw
               case rel=>exact ⟨q+1,_,ps',bs++[⟨nm,.slice Ag ng cg,gs',.slice At ng ct,tsAt na0 ng⟩],by go_num,hqn,by rw [HPT.out,allTabs_next HBB.out,List.take_of_length_le (l:=gs') (by rw [HGL.out];exact Nat.le_refl _),HGE.out],HBS.out.push HBB.out ⟨rfl,HGE.out,by rw [tsAt_len];exact HGL.out.symm,fun j t ht=>by
                obtain ⟨rfl,hj⟩:=tsAt_get ht
                obtain ⟨gr,hgr⟩:∃ gr,gs'[j]?=some gr:=⟨_,List.getElem?_eq_getElem (by rw [HGL.out];exact hj)⟩
                exact ⟨gr,hgr,allTabs_at HBB.out (by rw [←HGE.out];exact hgr) (by rw [HAL0.out.1])⟩⟩,HST.out⟩
               case measure=>simp [Lib.intOf];omega
         ·obtain rfl:i=q:=by omega
          have hq5:¬ (i:Int)<(i:Int):=by omega
          have HTL:=Lib.hid (show l.take i=l from List.take_of_length_le (by rw [HN.out];exact Nat.le_refl _))
          obtain ⟨na,hna⟩:∃ na,ps.length=na:=⟨_,rfl⟩
          obtain ⟨nb,hnb⟩:∃ nb,bs.length=nb:=⟨_,rfl⟩
          have HNA:=Lib.hid hna
          have HNB:=Lib.hid hnb
          have hnb1:nb≤520:=by
           rw [←hnb,HBS.out.1,List.length_take]
           omega
          have hnb2:(nb:Int)≤520:=by omega
          have hna1:na≤8580000:=by
           have h1:=congrArg List.length HPS.out
           rw [List.length_map,hna] at h1
           have h2:=allTabs_len (textsP l) (pathsP l) (l.take i) (fun b hb=>(HIN.out b (List.mem_of_mem_take hb)).2.2)
           rw [List.length_take] at h2
           omega
          rw [HTL.out] at HPS HBS
          obtain ⟨Aa,ca,rfl,-,-,-⟩:=own_form HSS.out.2.2.1.1
          obtain ⟨Ab,cb,rfl,-,-,-⟩:=own_form HSS.out.2.2.2.1
          have HFO:=Lib.hid (pfold_own (pfold_any (.slice Aa ps.length ca) ps wr HSS.out.2.2.1.tabs (fun x hx=>by
            have h1:x.2∈allTabs (textsP l) (pathsP l) l:=by rw [←HPS.out];exact List.mem_map.2 ⟨x,hx,rfl⟩
            obtain ⟨b,hb,gr,e⟩:=allTabs_mem h1
            rw [e]
            exact rowsB_ok (by rw [HLP.out];omega) (by rw [HLT.out];omega) (val_in hb) gr) (fun x hx=>by
            have h1:x.2∈allTabs (textsP l) (pathsP l) l:=by rw [←HPS.out];exact List.mem_map.2 ⟨x,hx,rfl⟩
            obtain ⟨b,hb,gr,e⟩:=allTabs_mem h1
            rw [e]
            have h2:=rowsB_len (textsP l) (pathsP l) b.2 gr
            have h3:=(HIN.out b hb).2.2
            omega) (by rw [hna];omega)) (fun t ht=>by
            rw [HPS.out] at ht
            obtain ⟨b,hb,gr,rfl⟩:=allTabs_mem ht
            exact (tab_rise HE0.out hb gr).1))
          rw [hna] at HSS HFO ⊢
          rw [hnb] at HSS
          clear hna hnb
          have HCB:=Lib.hid (fun (w13:World) (xv kv:Value) (qs:List (Value×List RowI)) (ks:List Nat) (hb:Below wr.heap.size wr w13) (hx:OTabs w13 wr.heap.size xv qs) (hk:w13.ownsRow wr.heap.size 3 1 kv ks.length (natsV ks))=>SF.of HSS.out hgB hb hx hk)
          have HXW:=Lib.hid (show ∀ W,Below wr.heap.size wr W→Blk W g 133 #[.slice A8 nT c8,.slice A9 nP c9,.slice none 0 0,.slice Ab nb cb] from fun W hW=>HSS.out.2.1.below hW HSS.out.2.1.lt)
          go_upto_region 60 with (go_at_call 68;go_must (refine HFO.out.mono ?_;rintro en w13 ⟨⟨xv,kv,qs,ks,rfl,hqs,hOT,hks,hFA⟩,hb13⟩;obtain ⟨Aq,cq,rfl,-,-,-⟩:=own_form hOT.1;obtain ⟨Ak,ck,rfl,-,-,-⟩:=own_form hks;have HSF:=Lib.hid (HCB.out w13 _ _ qs ks hb13 hOT hks);have HX13:=Lib.hid (HXW.out w13 hb13);have HQS:=Lib.hid hqs;have HFA:=Lib.hid hFA;clear hqs hOT hks hFA hb13))
          have d0:w13.cell? ⟨g,2,none⟩=some (.slice none 0 0):=HX13.out.cell 2
          have d1:w13.frozen? ⟨g,2,none⟩=false:=HX13.out.frozen 2
          have d2:(w13.setCell ⟨g,2,none⟩ (.slice Aq qs.length cq)).cell? ⟨g,3,none⟩=some (.slice Ab nb cb):=(HX13.out.set_ 2 _).cell 3
          obtain ⟨nk,hnk⟩:∃ nk,ks.length=nk:=⟨_,rfl⟩
          obtain ⟨nq,hnq⟩:∃ nq,qs.length=nq:=⟨_,rfl⟩
          have HNK:=Lib.hid hnk
          have HNQ:=Lib.hid hnq
          rw [hnk,hnq] at HSF ⊢
          rw [hnq] at d2
          have HKN:=Lib.hid (show nk=na from by
           rw [←hnk,HFA.out.1,List.length_map]
           exact HNA.out)
          clear hnk hnq HFO HCB HXW
          obtain ⟨Bf,hBf⟩:∃ Bf,wr.heap.size=Bf:=⟨_,rfl⟩
          rw [hBf] at HSF
          clear hBf
          rw [HPS.out] at HFA HQS
          go_upto_region 61 with (fail)
          generalize w13.setCell ⟨g,2,none⟩ (.slice Aq nq cq)=wF at *
          clear d0 d1 HX13
          go_wp2
          clear d2
          go_loopw [241] (fun iv W=>∃ q2:Nat,iv=.int .i64 (q2:Int)∧q2≤nb∧SF wB g (.slice A8 nT c8) (.slice A9 nP c9) (.slice Aq nq cq) W (.slice Ab nb cb) qs (turnAt (fun t=>ks.getD t 0) bs q2 0) Bf (.slice Ak nk ck) ks) (fun iv _=>nb-(Lib.intOf iv).toNat)
          case atStart=>exact ⟨0,rfl,Nat.zero_le _,by rw [turnAt_start];exact HSF.out⟩
          case round =>
           clear HSF
           obtain ⟨q2,rfl,hq2,hF⟩:=hrel
           have HF:=Lib.hid hF
           clear hF
           by_cases hqb:q2<nb
           ·-- <<r8
            have hq8:(q2:Int)<(nb:Int):=by omega
            obtain ⟨⟨en,eg,es,et,ek⟩,he0⟩:∃ e,bs[q2]?=some e:=⟨_,List.getElem?_eq_getElem (by rw [HNB.out];exact hqb)⟩
            obtain ⟨Ax,cx,ex,-,-,hRx⟩:=own_form HF.out.2.2.2.1
            rw [turnAt_len,HNB.out] at ex hRx
            cases ex
            obtain ⟨b1,o1,rfl,hb1,hcl1⟩:=hRx.spot (by omega) (by omega)
            have hat:=bkCells_at _ _ _ (turnAt_at (f:=fun t=>ks.getD t 0) 0 he0)
            obtain ⟨ho1,ho2,-⟩:=HF.out.bkAt he0
            have HEL:=Lib.hid (show ∀ k,et.ownBlock=some k→k<wr.heap.size from fun k hk=>(ho2.lt k hk).2)
            obtain ⟨Ag,cg,rfl,-,-,-⟩:=own_form ho1
            obtain ⟨Ae,ce,rfl,-,-,-⟩:=own_form ho2
            have hne1:ek.length≤16500:=by
             obtain ⟨b,hb⟩:∃ b,l[q2]?=some b:=⟨_,List.getElem?_eq_getElem (by have:=HBS.out.1;have:=HNB.out;omega)⟩
             obtain ⟨-,h2,h3,-⟩:=HBS.out.2 q2 _ b he0 hb
             simp only at h2 h3
             have h4:=groupsB_len b.2
             have h5:=(HIN.out b (List.mem_of_getElem? hb)).2.2
             rw [h3,h2]
             omega
            have z0:wr.cell? ⟨b1,o1+q2*3,none⟩=some (.string en):=hcl1 _ _ hat.1
            have z1:wr.cell? ⟨b1,o1+q2*3+1,none⟩=some (.slice Ag es.length cg):=hcl1 _ _ hat.2.1
            have z2:wr.cell? ⟨b1,o1+q2*3+2,none⟩=some (.slice Ae ek.length ce):=hcl1 _ _ hat.2.2
            clear hcl1 hat ho1 ho2
            have HEB:=Lib.hid he0
            clear he0
            obtain ⟨mg,hmg⟩:∃ mg,es.length=mg:=⟨_,rfl⟩
            obtain ⟨ne,hne⟩:∃ ne,ek.length=ne:=⟨_,rfl⟩
            have HNN:=Lib.hid hne
            rw [hmg] at z1 HEB
            rw [hne] at z2 HEB HEL hne1
            clear hmg hne
            have hne2:(ne:Int)≤16500:=by omega
            have HF8:=Lib.hid (HF.out.on ((Below.refl _ wr).alloc (Nat.le_refl _) (.cells #[.string en,.slice Ag mg cg,.slice Ae ne ce] 139)))
            have HZ8:=Lib.hid (Blk.new wr 139 #[.string en,.slice Ag mg cg,.slice Ae ne ce])
            go_upto_region 64 with (fail)
            generalize wr.alloc (.cells #[.string en,.slice Ag mg cg,.slice Ae ne ce] 139)=w14 at *
            obtain ⟨gz,hgz⟩:∃ gz,wr.heap.size=gz:=⟨_,rfl⟩
            rw [hgz] at HZ8 HEL ⊢
            clear hgz z0 z1 z2
            have k2:w14.cell? ⟨gz,2,none⟩=some (.slice Ae ne ce):=HZ8.out.cell 2
            go_wp2
            clear k2
            go_loopw [248] (fun jv W=>∃ j:Nat,jv=.int .i64 (j:Int)∧j≤ne∧SF wB g (.slice A8 nT c8) (.slice A9 nP c9) (.slice Aq nq cq) W (.slice (some ⟨b1,o1,none⟩) nb cb) qs (turnAt (fun t=>ks.getD t 0) bs q2 j) Bf (.slice Ak nk ck) ks∧Blk W gz 139 #[.string en,.slice Ag mg cg,.slice Ae ne ce]) (fun jv _=>ne-(Lib.intOf jv).toNat)
            case atStart=>exact ⟨0,rfl,Nat.zero_le _,HF8.out,HZ8.out⟩
            case round =>
             clear HF8 HZ8 HF
             obtain ⟨j,rfl,hj,hF,hZ⟩:=hrel
             have HF:=Lib.hid hF
             have HZ:=Lib.hid hZ
             clear hF hZ
             by_cases hjn:j<ne
             ·-- <<r9
              have hq9:(j:Int)<(ne:Int):=by omega
              obtain ⟨t,ht⟩:∃ t,ek[j]?=some t:=⟨_,List.getElem?_eq_getElem (by rw [HNN.out];exact hjn)⟩
              obtain ⟨-,hr2,hr3⟩:=HF.out.bkAt HEB.out
              obtain ⟨kE,ce',e1,hB1,hk1⟩:=own_head hr2 (by rw [HNN.out];omega) (by rw [natsV,List.length_map,mix_len,Nat.mul_one])
              rw [HNN.out] at e1 hr2
              cases e1
              have hkz:kE<gz:=HEL.out kE rfl
              have hkf:kE<Bf:=hr3 kE rfl
              have r0:wr.cell? ⟨kE,j,none⟩=some (.int .i64 (t:Int)):=nats_cell (by rw [mix_len,HNN.out];exact hr2) (mix_at ht)
              have f0:wr.frozen? ⟨kE,j,none⟩=false:=World.ownsRow.frozenAt hr2 j
              clear hr2 hr3
              obtain ⟨kk,hkk⟩:∃ kk,ks[t]?=some kk:=by
               obtain ⟨b,hb⟩:∃ b,l[q2]?=some b:=⟨_,List.getElem?_eq_getElem (by have:=HBS.out.1;have:=HNB.out;omega)⟩
               obtain ⟨-,-,-,h4⟩:=HBS.out.2 q2 _ b HEB.out hb
               obtain ⟨gr,-,hgr⟩:=h4 j t ht
               obtain ⟨kk,h5,-⟩:=HFA.out.2 t _ hgr
               exact ⟨kk,h5⟩
              have htk:t<nk:=by rw [←HNK.out];exact (List.getElem?_eq_some_iff.1 hkk).1
              have htk0:(0:Int)≤(t:Int):=by omega
              have htk1:(t:Int)<(nk:Int):=by omega
              have hnk1:(nk:Int)≤8580000:=by have:=HKN.out;omega
              have hw:=HF.out.2.2.2.2.2.2.1
              obtain ⟨kW,ck',e2,hB2,hk2⟩:=own_head hw (by rw [HNK.out];omega) (by rw [natsV,List.length_map,Nat.mul_one])
              rw [HNK.out] at e2
              cases e2
              have r1:wr.cell? ⟨kW,t,none⟩=some (.int .i64 (kk:Int)):=nats_cell hw hkk
              have HNX:=Lib.hid (show SF wB g (.slice A8 nT c8) (.slice A9 nP c9) (.slice Aq nq cq) (wr.setCell ⟨kE,j,none⟩ (.int .i64 (kk:Int))) (.slice (some ⟨b1,o1,none⟩) nb cb) qs (turnAt (fun t=>ks.getD t 0) bs q2 (j+1)) Bf (.slice (some ⟨kW,0,none⟩) nk ck) ks from by
               have h:=HF.out.turnNext (by rw [HNN.out];exact HEB.out) ht
               have hg:ks.getD t 0=kk:=by rw [List.getD_eq_getElem?_getD,hkk];rfl
               simp only [hg] at h
               exact h)
              have HNZ:=Lib.hid (HZ.out.far (p:=⟨kE,j,none⟩) (by simp;omega) (.int .i64 (kk:Int)))
              have y2:wr.cell? ⟨gz,2,none⟩=some (.slice (some ⟨kE,0,none⟩) ne ce):=HZ.out.cell 2
              have y2':(wr.setCell ⟨kE,j,none⟩ (.int .i64 (kk:Int))).cell? ⟨gz,2,none⟩=some (.slice (some ⟨kE,0,none⟩) ne ce):=HNZ.out.cell 2
              have r1':(wr.setCell ⟨kE,j,none⟩ (.int .i64 (kk:Int))).cell? ⟨kW,t,none⟩=some (.int .i64 (kk:Int)):=nats_cell HNX.out.2.2.2.2.2.2.1 hkk
              clear hw hkk
              go_upto_region 67 with (fail)
              go_region_held3 (fun W=>W.cell? ⟨gz,2,none⟩=some (.slice (some ⟨kE,0,none⟩) ne ce)∧W.cell? ⟨kW,t,none⟩=some (.int .i64 (kk:Int))) (go_keep) (fail)
              go_wp2
              go_roundw
              case rel=>exact ⟨j+1,by go_num,hjn,HNX.out.on ((Below.refl _ _).drew),HNZ.out.drew⟩
              case measure=>simp [Lib.intOf];omega
             ·obtain rfl:ne=j:=by omega
              have hq9:¬ (ne:Int)<(ne:Int):=by omega
              go_wp2
              go_roundw
              case rel=>exact ⟨q2+1,by go_num,hqb,by rw [←turnAt_done HEB.out (Nat.le_of_eq HNN.out)];exact HF.out⟩
              case measure=>simp [Lib.intOf];omega
           ·obtain rfl:nb=q2:=by omega
            have hq8:¬ (nb:Int)<(nb:Int):=by omega
            have HTW:=Lib.hid (HTT.out wr HF.out.1)
            have HLA:=Lib.hid (HF.out.lay HLT.out HLP.out HTW.out.1 HTW.out.2 HQS.out (by have h:=bks_fin HBS.out HFA.out;rw [HNB.out] at h;exact h))
            have HBB:=Lib.hid (HBW.out wr HF.out.1).1
            go_wp2
            go_ret2
            exact ⟨.inr ⟨HE0.out,g,rfl,Nat.le_of_lt hgw,HLA.out⟩,HBB.out⟩
 ·have hz1:(e0 == 0)=false:=by simpa using hz
  have HB3:=Lib.hid (HBX2.out.2.1.alloc HBX2.out.2.1.size (.cells #[.int .i64 e0,.int .i64 a0] 54))
  have HV3:=Lib.hid (Blk.new w2 54 #[.int .i64 e0,.int .i64 a0])
  have HNO:=Lib.hid (fun (W:World) (hb:Below w.heap.size w W)=>layPost_no HE0.out hz hb)
  clear HE0
  go_upto_region 3 with (fail)
  generalize w2.alloc (.cells #[.int .i64 e0,.int .i64 a0] 54)=w3 at *
  have k0:w3.cell? ⟨w2.heap.size,0,none⟩=some (.int .i64 e0):=HV3.out.cell 0
  go_quiet (fail)
  go_wp2
  go_ret2
  exact HNO.out _ (below_drewN HB3.out _)
end
section
open Go.RowKit

theorem xor_b (c:Nat)(b:UInt8)(hc:c<4294967296):bits .xor .u32 (c:Int) (b.toNat:Int)=((c ^^^ b.toNat:Nat):Int):=by
 have:=b.toNat_lt
 exact u32_xor_nat c b.toNat hc (by omega)
/-- The bit taken is the remainder. -/
theorem and_one (c:Nat)(hc:c<4294967296):bits .and .u32 (c:Int) 1=((c%2:Nat):Int):=by
 rw [show (1:Int)=((1:Nat):Int) from rfl,u32_and_nat c 1 hc (by omega),nat_mask1]
theorem xor_poly (c:Nat)(hc:c<4294967296):bits .xor .u32 ((c:Int)/2) 3988292384=((c/2 ^^^ 3988292384:Nat):Int):=by
 rw [show ((c:Int)/2)=((c/2:Nat):Int) by omega,show (3988292384:Int)=((3988292384:Nat):Int) from rfl,u32_xor_nat (c/2) 3988292384 (by omega) (by omega)]
theorem one_yes (c:Nat)(hc:c<4294967296)(h:(bits .and .u32 (c:Int) 1 == 1)=true):bits .xor .u32 ((c:Int)/2) 3988292384=((crc1 c:Nat):Int):=by
 rw [and_one c hc] at h
 rw [xor_poly c hc]
 unfold crc1
 rw [if_pos (by have:=of_decide_eq_true h;omega)]
theorem one_no (c:Nat)(hc:c<4294967296)(h:(bits .and .u32 (c:Int) 1 == 1)=false):((c:Int)/2)=((crc1 c:Nat):Int):=by
 rw [and_one c hc] at h
 unfold crc1
 rw [if_neg (by have:=of_decide_eq_false h;omega)]
 omega
theorem all_xor (c:Nat)(h:c<4294967296):4294967295 ^^^ c=4294967295-c:=by
 have e:(BitVec.allOnes 32 ^^^ BitVec.ofNat 32 c).toNat=4294967295 ^^^ c:=by
  rw [BitVec.toNat_xor,BitVec.toNat_allOnes,BitVec.toNat_ofNat,Nat.mod_eq_of_lt (by omega)]
 rw [←e,BitVec.allOnes_xor,BitVec.toNat_not,BitVec.toNat_ofNat,Nat.mod_eq_of_lt (by omega)]
theorem not_raw (l:List UInt8):bits .xor .u32 IntKind.u32.max (crcRaw l:Int)=((crc l:Nat):Int):=by
 have h:=crcRaw_lt l
 rw [show IntKind.u32.max=((4294967295:Nat):Int) from by decide,u32_xor_nat _ _ (by omega) h,all_xor _ h]
 rfl
theorem int_val {k:IntKind}{a b:Int}(h:a=b):Value.int k a=Value.int k b:=by rw [h]

set_option maxHeartbeats 400000 in
theorem crc_any (l:List UInt8)(A:Option Addr)(c:Nat)(B:Nat)(w:World)(hr:RB w B A l)(hm:l.length≤maxLen) :
  Calls Tryz.prog 23 #[.slice A l.length c] w fun e w'=>e=.returned (.int .u32 (crc l:Int))∧w=w':=by
 unfold maxLen at hm
 go_enter Tryz.func23,Tryz.ntmps23
 go_wp2
 go_loop [3,5,6,9] (fun c _ _ i=>∃ k:Nat,k≤l.length∧i=.int .i64 k∧c=.int .u32 (crcRaw (l.take k):Int)) (fun _ _ _ i=>l.length-(intOf i).toNat)
 case atStart=>exact ⟨0,Nat.zero_le _,rfl,rfl⟩
 case round =>
  obtain ⟨k,hk,rfl,rfl⟩:=hrel
  have h1:=crcRaw_lt (l.take k)
  by_cases hlt:k<l.length
  ·obtain ⟨b,off,rfl,hb,hc⟩:=hr.at_ hlt
   have hs:=crcRaw_take hlt
   generalize l.getD k 0=by0 at *
   generalize crcRaw (l.take k)=c0 at *
   have hby:=by0.toNat_lt
   have HX:=Lib.hid (xor_b c0 by0 h1)
   have HS:=Lib.hid hs
   clear hs
   go_wp2
   go_loop [3,6,17] (fun c _ i=>∃ j:Nat,j≤8∧i=.int .i64 j∧c=.int .u32 (crcN j (c0 ^^^ by0.toNat):Int)) (fun _ _ i=>8-(intOf i).toNat)
   case atStart=>exact ⟨0,by omega,rfl,by rw [HX.out];rfl⟩
   case round =>
    obtain ⟨j,hj,rfl,rfl⟩:=hrel
    have h2:=crcN_lt (xorB_lt h1 by0) j
    have hs2:crcN (j+1) (c0 ^^^ by0.toNat)=crc1 (crcN j (c0 ^^^ by0.toNat)):=rfl
    generalize hc1:crcN j (c0 ^^^ by0.toNat)=c1 at *
    have HC:=Lib.hid hc1.symm
    clear hc1
    have HS2:=Lib.hid hs2
    clear hs2
    by_cases hj8:j<8
    ·go_wp2
     ·go_round
      case rel=>exact ⟨j+1,by omega,by go_num,by rw [HS2.out];exact int_val (one_yes c1 h2 ‹_›)⟩
      case measure=>simp [intOf];omega
     ·go_round
      case rel=>exact ⟨j+1,by omega,by go_num,by rw [HS2.out];exact int_val (one_no c1 h2 ‹_›)⟩
      case measure=>simp [intOf];omega
    ·obtain rfl:j=8:=by omega
     go_wp2
     go_round
     case rel=>exact ⟨k+1,by omega,by go_num,by rw [HS.out];exact int_val (by rw [HC.out];rfl)⟩
     case measure=>simp [intOf];omega
  ·obtain rfl:k=l.length:=by omega
   go_wp2
   go_ret
   exact ⟨ret_int (not_raw l),rfl⟩

end
end Go.Proofs.YthdldooilcbmlaaGreatDoor
