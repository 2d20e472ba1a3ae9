/-
  Texts of mine, joined: BunLayS, BunPut. The conditions stand with each.
-/
import Derived.Test.YthdldooilcbmlaaGreatDoorK06
import Derived.Test.YthdldooilcbmlaaGreatDoorK05
import Derived.Test.YthdldooilcbmlaaGreatDoorK07
import Derived.Lib.AppendStr
set_option linter.unusedVariables false
set_option linter.unusedSimpArgs false
namespace Go.Proofs.YthdldooilcbmlaaGreatDoor
section
open Go.RowKit

def strsV (l:List ByteArray):List Value:=l.map Value.string
def natsV (ks:List Nat):List Value:=ks.map fun k:Nat=>Value.int .i64 (k:Int)
theorem own_blkB {w:World}{base r g:Nat}{e t:TypeId}{size n:Nat}{v:Value}{xs:List Value}{cs:Array Value}(h:w.ownsRow base e size v n xs)(hB:Blk w r t cs)(hne:e≠t)(hg:v.ownBlock=some g):g≠r:=by
 rintro rfl
 rcases h.2 with ⟨rfl,-⟩ | ⟨g',cap,cur,rfl,_,hh,_⟩
 ·simp [Value.ownBlock] at hg
 ·simp [Value.ownBlock] at hg
  subst hg
  unfold Blk at hB
  rw [hB] at hh
  cases hh
  exact hne rfl
/-- A row stays where another one has grown. -/
theorem own_stays {w w':World}{B B' size size' n n':Nat}{e e':TypeId}{v u:Value}{xs ys:List Value}(h:w.ownsRow B e size v n xs)(h2:w.ownsRow B' e' size' u n' ys)(hne:e≠e')(hg:w.grownBy w' u.ownBlock):w'.ownsRow B e size v n xs:=h.kept hg (by
 cases hv:v.ownBlock with
 | none=>exact .inl rfl
 | some k=>exact .inr fun e=>own_other h h2 hne k hv e.symm)
theorem own_stays2 {w w':World}{B size n:Nat}{e:TypeId}{v:Value}{xs:List Value}{row:Option Nat}(h:w.ownsRow B e size v n xs)(hg:w.grownBy w' row)(hne:∀ k,v.ownBlock=some k→row≠some k):w'.ownsRow B e size v n xs:=h.kept hg (by
 cases hv:v.ownBlock with
 | none=>exact .inl rfl
 | some k=>exact .inr fun e=>hne k hv e.symm)
/-- A row stays where a block of another type has turned. -/
theorem own_stays3 {w w':World}{B size n r:Nat}{e t:TypeId}{v:Value}{xs:List Value}{cs:Array Value}(h:w.ownsRow B e size v n xs)(hb:Blk w r t cs)(hne:e≠t)(hg:w.grownBy w' (some r)):w'.ownsRow B e size v n xs :=
 own_stays2 h hg fun k hk e=>own_blkB h hb hne hk (Option.some.inj e).symm
theorem blk_stays {w w':World}{B size n r:Nat}{e t:TypeId}{v:Value}{xs:List Value}{cs:Array Value}(hb:Blk w r t cs)(h:w.ownsRow B e size v n xs)(hne:e≠t)(hg:w.grownBy w' v.ownBlock):Blk w' r t cs :=
 hb.grown hg (fun e=>own_blkB h hb hne e.symm rfl)
theorem grown_set (w:World)(g i:Nat)(u:Value):w.grownBy (w.setCell ⟨g,i,none⟩ u) (some g):=(Only.refl g w).setCell (.inl rfl) u
/-- A Book, laid out. -/
structure BkE where
 name:ByteArray
 gv:Value
 gs:List ByteArray
 tv:Value
 ts:List Nat
def bkCells (bs:List BkE):List Value:=bs.flatMap fun e=>[.string e.name,e.gv,e.tv]
theorem bkCells_at:∀(bs:List BkE) (i:Nat) (e:BkE),bs[i]?=some e→(bkCells bs)[i*3]?=some (.string e.name)∧(bkCells bs)[i*3+1]?=some e.gv∧(bkCells bs)[i*3+2]?=some e.tv
 | [],i,e,h=>by simp at h
 | b::bs,0,e,h=>by
  simp only [List.getElem?_cons_zero,Option.some.injEq] at h
  subst h
  exact ⟨rfl,rfl,rfl⟩
 | b::bs,i+1,e,h=>by
  have:=bkCells_at bs i e (by simpa using h)
  unfold bkCells at this ⊢
  rw [List.flatMap_cons,show (i+1)*3=i*3+3 by omega]
  exact this
theorem bkCells_push (bs:List BkE)(e:BkE):bkCells (bs++[e])=bkCells bs++[.string e.name,e.gv,e.tv]:=by simp [bkCells]
def BksOwn (w:World)(B:Nat)(bs:List BkE):Prop:=∀ e∈bs,w.ownsRow B 9 1 e.gv e.gs.length (strsV e.gs)∧w.ownsRow B 3 1 e.tv e.ts.length (natsV e.ts)
def BksApart (bs:List BkE):Prop:=bs.Pairwise fun e e'=>∀ k,e.tv.ownBlock=some k→e'.tv.ownBlock≠some k
/-- The state between Books. -/
def ST (wB:World)(g:Nat)(tv pv:Value)(W:World)(av bv:Value)(ps:List (Value×List RowI))(bs:List BkE):Prop :=
 Only g wB W∧Blk W g 133 #[tv,pv,.slice none 0 0,bv]∧OTabs W wB.heap.size av ps∧W.ownsRow wB.heap.size 139 3 bv bs.length (bkCells bs)∧BksOwn W wB.heap.size bs∧BksApart bs
theorem ST.start {wB:World}{g:Nat}{tv pv:Value}(h:Blk wB g 133 #[tv,pv,.slice none 0 0,.slice none 0 0]):ST wB g tv pv wB (.slice none 0 0) (.slice none 0 0) [] [] :=
 ⟨Only.refl g wB,h,⟨World.ownsRow_nil _ _ _ _,(by simp)⟩,World.ownsRow_nil _ _ _ _,(fun e he=>by cases he),List.Pairwise.nil⟩
section
variable {wB W W':World} {g:Nat} {tv pv av bv:Value} {ps:List (Value×List RowI)} {bs:List BkE}
theorem ST.on (h:ST wB g tv pv W av bv ps bs)(hb:Below W.heap.size W W'):ST wB g tv pv W' av bv ps bs :=
 ⟨h.1.trans (Only.of_below hb),h.2.1.below hb h.2.1.lt,⟨own_more h.2.2.1.1 hb,fun x hx=>own_more (h.2.2.1.2 x hx) hb⟩,own_more h.2.2.2.1 hb,fun e he=>⟨own_more (h.2.2.2.2.1 e he).1 hb,own_more (h.2.2.2.2.1 e he).2 hb⟩,h.2.2.2.2.2⟩
theorem ST.pushAll (h:ST wB g tv pv W av bv ps bs){v av':Value}{t:List RowI}(ho:OwnRw W wB.heap.size v t)(hown:W'.ownsRow wB.heap.size 74 1 av' (ps.length+1) (ps.map Prod.fst++[v]))(hg:W.grownBy W' av.ownBlock):ST wB g tv pv W' av' bv (ps++[(v,t)]) bs:=by
 obtain ⟨h1,h2,⟨h3,h4⟩,h5,h6,h7⟩:=h
 refine ⟨h1.grown hg (fun k hk=>(h3.lt k hk).1),blk_stays h2 h3 (by decide) hg,⟨by simpa using hown,fun x hx=>?_⟩,own_stays h5 h3 (by decide) hg,fun e he=>⟨own_stays (h6 e he).1 h3 (by decide) hg,own_stays (h6 e he).2 h3 (by decide) hg⟩,h7⟩
 rcases List.mem_append.1 hx with hx | hx
 ·exact own_stays (h4 x hx) h3 (by decide) hg
 ·rw [List.mem_singleton.1 hx]
  exact own_stays ho h3 (by decide) hg
theorem ST.grownInt (h:ST wB g tv pv W av bv ps bs){u:Value}{Bu n:Nat}{xs:List Value}(hu:W.ownsRow Bu 3 1 u n xs)(hB:wB.heap.size≤Bu)(hg:W.grownBy W' u.ownBlock)(hbs:∀ e∈bs,∀ k,u.ownBlock=some k→e.tv.ownBlock≠some k):ST wB g tv pv W' av bv ps bs:=by
 obtain ⟨h1,h2,⟨h3,h4⟩,h5,h6,h7⟩:=h
 exact ⟨h1.grown hg (fun k hk=>Nat.le_trans hB (hu.lt k hk).1),blk_stays h2 hu (by decide) hg,⟨own_stays h3 hu (by decide) hg,fun x hx=>own_stays (h4 x hx) hu (by decide) hg⟩,own_stays h5 hu (by decide) hg,
  fun e he=>⟨own_stays (h6 e he).1 hu (by decide) hg,own_stays2 (h6 e he).2 hg fun k hk e2=>hbs e he k e2 hk⟩,h7⟩
theorem ST.set (h:ST wB g tv pv W av bv ps bs){gy:Nat}{cs:Array Value}(hy:Blk W gy 139 cs)(hB:wB.heap.size≤gy)(hgB:g<wB.heap.size)(hbv:bv.ownBlock≠some gy)(i:Nat)(u:Value):ST wB g tv pv (W.setCell ⟨gy,i,none⟩ u) av bv ps bs:=by
 obtain ⟨h1,h2,⟨h3,h4⟩,h5,h6,h7⟩:=h
 have hg:=grown_set W gy i u
 exact ⟨h1.setCell (.inr hB) u,h2.far (by simp;omega) u,⟨own_stays3 h3 hy (by decide) hg,fun x hx=>own_stays3 (h4 x hx) hy (by decide) hg⟩,own_stays2 h5 hg (fun k hk e=>hbv (by rw [hk];exact e.symm)),
  fun e he=>⟨own_stays3 (h6 e he).1 hy (by decide) hg,own_stays3 (h6 e he).2 hy (by decide) hg⟩,h7⟩
theorem ST.pushBk (h:ST wB g tv pv W av bv ps bs)(hgB:g<wB.heap.size)(e:BkE)(he:W.ownsRow wB.heap.size 9 1 e.gv e.gs.length (strsV e.gs)∧W.ownsRow wB.heap.size 3 1 e.tv e.ts.length (natsV e.ts))(hap:∀ e'∈bs,∀ k,e'.tv.ownBlock=some k→e.tv.ownBlock≠some k){bv':Value}
  (hown:W'.ownsRow wB.heap.size 139 3 bv' (bs.length+1) (bkCells bs++[.string e.name,e.gv,e.tv]))(hg:W.grownBy W' bv.ownBlock):ST wB g tv pv (W'.setCell ⟨g,3,none⟩ bv') av bv' ps (bs++[e]):=by
 obtain ⟨h1,h2,⟨h3,h4⟩,h5,h6,h7⟩:=h
 have hset:∀ {t:TypeId} {s n:Nat} {v:Value} {xs:List Value},W'.ownsRow wB.heap.size t s v n xs→(W'.setCell ⟨g,3,none⟩ bv').ownsRow wB.heap.size t s v n xs:=fun hh=>ownsRow_setCell_below hh (a:=⟨g,3,none⟩) hgB bv'
 refine ⟨(h1.grown hg (fun k hk=>(h5.lt k hk).1)).setCell (.inl rfl) _,(blk_stays h2 h5 (by decide) hg).set_ 3 bv',⟨hset (own_stays h3 h5 (by decide) hg),fun x hx=>hset (own_stays (h4 x hx) h5 (by decide) hg)⟩,?_,fun e2 he2=>?_,?_⟩
 ·rw [bkCells_push,List.length_append]
  exact hset hown
 ·rcases List.mem_append.1 he2 with he2 | he2
  ·exact ⟨hset (own_stays (h6 e2 he2).1 h5 (by decide) hg),hset (own_stays (h6 e2 he2).2 h5 (by decide) hg)⟩
  ·rw [List.mem_singleton.1 he2]
   exact ⟨hset (own_stays he.1 h5 (by decide) hg),hset (own_stays he.2 h5 (by decide) hg)⟩
 ·exact List.pairwise_append.2 ⟨h7,List.pairwise_singleton _ _,fun a ha b hb=>by rw [List.mem_singleton.1 hb];exact hap a ha⟩
end
abbrev RMap (Bi:Nat)(W:World)(mr cap:Nat)(rps:List (REnt RowI)):Prop:=RowMap Tryz.prog 9 Bi 81 2 rowCells W mr cap rps
theorem RMap.stays {Bi:Nat}{W W':World}{mr cap:Nat}{rps:List (REnt RowI)}(h:RMap Bi W mr cap rps){u:Value}{Bu size n:Nat}{e:TypeId}{xs:List Value}(hu:W.ownsRow Bu e size u n xs)(hne:81≠e)(hg:W.grownBy W' u.ownBlock):RMap Bi W' mr cap rps :=
 h.kept hg (fun e=>own_map h.1 hu e.symm) fun p hp=>by
  cases hv:p.2.1.ownBlock with
  | none=>exact .inl rfl
  | some k=>exact .inr fun e=>own_other (h.2.2.1 p hp) hu hne k hv e.symm
theorem RMap.staysB {Bi:Nat}{W W':World}{mr cap:Nat}{rps:List (REnt RowI)}(h:RMap Bi W mr cap rps){r:Nat}{t:TypeId}{cs:Array Value}(hb:Blk W r t cs)(hne:81≠t)(hr:mr≠r)(hg:W.grownBy W' (some r)):RMap Bi W' mr cap rps :=
 h.kept hg (fun e=>hr (Option.some.inj e)) fun p hp=>by
  cases hv:p.2.1.ownBlock with
  | none=>exact .inl rfl
  | some k=>exact .inr fun e=>own_blkB (h.2.2.1 p hp) hb hne hv (Option.some.inj e)
/-- The state between a Book's values. -/
def L6 (Wi:World)(gy mr:Nat)(nm:ByteArray)(W:World)(gv:Value)(gs:List ByteArray)(j:Nat)(rps:List (REnt RowI)):Prop :=
 Below Wi.heap.size Wi W∧Blk W gy 139 #[.string nm,gv,.slice none 0 0]∧W.ownsRow Wi.heap.size 9 1 gv gs.length (strsV gs)∧RMap Wi.heap.size W mr j rps
section
variable {Wi W W' W2:World} {gy mr j:Nat} {nm:ByteArray} {gv:Value} {gs:List ByteArray} {rps:List (REnt RowI)}
theorem L6.on (h:L6 Wi gy mr nm W gv gs j rps)(hb:Below W.heap.size W W'):L6 Wi gy mr nm W' gv gs j rps :=
 ⟨h.1.trans (hb.mono h.1.size),h.2.1.below hb h.2.1.lt,own_more h.2.2.1 hb,h.2.2.2.on hb⟩
theorem L6.alloc (h:L6 Wi gy mr nm W gv gs j rps)(o:Obj):L6 Wi gy mr nm (W.alloc o) gv gs j rps:=h.on ((Below.refl _ W).alloc (Nat.le_refl _) o)
theorem L6.fst (h:L6 Wi gy mr nm W gv gs j rps){n:Nat}(hn:gs.length=n):W.ownsRow Wi.heap.size 9 1 gv n (strsV gs):=hn ▸ h.2.2.1
theorem L6.mapAt (h:L6 Wi gy mr nm W gv gs j rps):MapS W mr j rps.length (lookF rps):=h.2.2.2.1
theorem L6.rowAt (h:L6 Wi gy mr nm W gv gs j rps)(s:ByteArray){u:Value}(hu:(lookF rps s).getD (.slice none 0 0)=u):W.ownsRow Wi.heap.size 81 2 u (lookR rps s).length (rowCells (lookR rps s)):=by
 cases hl:lookF rps s with
 | none =>
  rw [hl] at hu
  rw [lookR_none (lookF_none.1 hl),←hu]
  exact World.ownsRow_nil _ _ _ _
 | some v =>
  rw [hl] at hu
  have:=h.2.2.2.2.2.1 _ (look_some hl)
  rw [←hu]
  exact this
theorem L6.pushG (h:L6 Wi gy mr nm W gv gs j rps)(hl:Wi.heap.size≤gy∧mr≠gy){gv':Value}{x:ByteArray}{n:Nat}(hn:gs.length=n)(hown:W'.ownsRow Wi.heap.size 9 1 gv' (n+1) (strsV gs++[.string x]))(hg:W.grownBy W' gv.ownBlock) :
  L6 Wi gy mr nm (W'.setCell ⟨gy,1,none⟩ gv') gv' (gs++[x]) j rps:=by
 obtain ⟨h1,h2,h3,h4⟩:=h
 have a2:=blk_stays h2 h3 (by decide) hg
 have hs:=grown_set W' gy 1 gv'
 have b1:=h1.grown hg h1.size (fun k hk=>(h3.lt k hk).1)
 refine ⟨b1.grown hs b1.size (fun k hk=>by cases hk;exact hl.1),a2.set_ 1 gv',?_,(h4.stays h3 (by decide) hg).staysB a2 (by decide) hl.2 hs⟩
 subst hn
 have:strsV (gs++[x])=strsV gs++[.string x]:=by simp [strsV]
 rw [this,List.length_append]
 exact own_stays3 hown a2 (by decide) hs
theorem L6.mapOn (h:L6 Wi gy mr nm W gv gs j rps){u:Value}{n:Nat}{ys:List Value}(hU:W.ownsRow Wi.heap.size 81 2 u n ys)(hg:W.grownBy W' u.ownBlock):MapS W' mr j rps.length (lookF rps):=h.mapAt.kept hg fun e=>own_map h.mapAt hU e.symm
theorem L6.putR (h:L6 Wi gy mr nm W gv gs j rps)(hl:Wi.heap.size≤mr∧mr≠gy){s:ByteArray}{u v:Value}{xs:List RowI}{n m':Nat}{ys:List Value}(hu:(lookF rps s).getD (.slice none 0 0)=u)(hU:W.ownsRow Wi.heap.size 81 2 u n ys)(hg:W.grownBy W' u.ownBlock)
  (hown:W'.ownsRow Wi.heap.size 81 2 v xs.length (rowCells xs))(hv:v.ownBlock=u.ownBlock∨v.ownBlock=some W.heap.size)(hM:MapS W2 mr (j+1) m' (putMF (lookF rps) s v))(hm':m'=if (lookF rps s).isSome then rps.length else rps.length+1)(hg2:W'.grownBy W2 (some mr)) :
  L6 Wi gy mr nm W2 gv gs (j+1) (updM rps s v xs):=by
 have hM1:=h.mapOn hU hg
 have hm:=h.mapAt
 obtain ⟨h1,h2,h3,h4⟩:=h
 have b1:=h1.grown hg h1.size (fun k hk=>(hU.lt k hk).1)
 have a3:=own_stays h3 hU (by decide) hg
 refine ⟨b1.grown hg2 b1.size (fun k hk=>by cases hk;exact hl.1),(blk_stays h2 hU (by decide) hg).grown hg2 (fun e=>hl.2 (Option.some.inj e).symm),own_stays2 a3 hg2 (fun k hk e=>own_map hM1 a3 (by rw [hk];exact e.symm)),?_⟩
 exact h4.put (fun p hp=>own_map hm (h4.2.2.1 p hp)) hu hg hown hv hM hm' hg2 (own_map hM1 hown)
end
theorem rowsB_len (T P:List ByteArray)(vs:List PKey)(g:ByteArray):(rowsB T P vs g).length≤vs.length:=by
 unfold rowsB
 rw [List.length_map]
 exact List.length_filter_le _ _
/-- The state between a Book's groups. -/
def SJ (wB:World)(g:Nat)(tv pv:Value)(Bi:Nat)(W:World)(av bv:Value)(ps:List (Value×List RowI))(bs:List BkE)(gy:Nat)(nm:ByteArray)(gv:Value)(gs:List ByteArray)(tw:Value)(ts:List Nat)(mr cap:Nat)(rps:List (REnt RowI)):Prop :=
 ST wB g tv pv W av bv ps bs∧Blk W gy 139 #[.string nm,gv,tw]∧W.ownsRow Bi 9 1 gv gs.length (strsV gs)∧W.ownsRow Bi 3 1 tw ts.length (natsV ts)∧RMap Bi W mr cap rps
/-- Where things lie: the round's base, the block of y, the map. -/
def Lies (wB:World)(g Bi gy mr:Nat)(bv:Value)(bs:List BkE):Prop :=
 g<wB.heap.size∧wB.heap.size≤Bi∧Bi≤gy∧mr≠gy∧(∀ k,bv.ownBlock=some k→k<Bi)∧∀ e∈bs,∀ k,e.tv.ownBlock=some k→k<Bi
section
variable {wB W W':World} {g Bi gy mr cap:Nat} {tv pv av bv gv tw:Value} {ps:List (Value×List RowI)} {bs:List BkE} {nm:ByteArray} {gs:List ByteArray} {ts:List Nat} {rps:List (REnt RowI)}
theorem SJ.on (h:SJ wB g tv pv Bi W av bv ps bs gy nm gv gs tw ts mr cap rps)(hb:Below W.heap.size W W'):SJ wB g tv pv Bi W' av bv ps bs gy nm gv gs tw ts mr cap rps :=
 ⟨h.1.on hb,h.2.1.below hb h.2.1.lt,own_more h.2.2.1 hb,own_more h.2.2.2.1 hb,h.2.2.2.2.on hb⟩
theorem SJ.alloc (h:SJ wB g tv pv Bi W av bv ps bs gy nm gv gs tw ts mr cap rps)(o:Obj):SJ wB g tv pv Bi (W.alloc o) av bv ps bs gy nm gv gs tw ts mr cap rps:=h.on ((Below.refl _ W).alloc (Nat.le_refl _) o)
theorem SJ.pushTab (h:SJ wB g tv pv Bi W av bv ps bs gy nm gv gs tw ts mr cap rps)(hl:Lies wB g Bi gy mr bv bs){x:Nat}{tw':Value}(hown:W'.ownsRow Bi 3 1 tw' (ts.length+1) (natsV ts++[.int .i64 (x:Int)]))(hg:W.grownBy W' tw.ownBlock) :
  SJ wB g tv pv Bi (W'.setCell ⟨gy,2,none⟩ tw') av bv ps bs gy nm gv gs tw' (ts++[x]) mr cap rps:=by
 obtain ⟨h1,h2,h3,h4,h5⟩:=h
 obtain ⟨l1,l2,l3,l4,l5,l6⟩:=hl
 have a1:=h1.grownInt h4 l2 hg (fun e he k hk hk2=>by
  have:=l6 e he k hk2
  have:=(h4.lt k hk).1
  omega)
 have a2:=blk_stays h2 h4 (by decide) hg
 have a3:=own_stays h3 h4 (by decide) hg
 have a5:=h5.stays h4 (by decide) hg
 have hs:=grown_set W' gy 2 tw'
 refine ⟨a1.set a2 (Nat.le_trans l2 l3) l1 (fun e=>by have:=l5 _ e;omega) 2 tw',a2.set_ 2 tw',own_stays3 a3 a2 (by decide) hs,?_,a5.staysB a2 (by decide) l4 hs⟩
 rw [List.length_append]
 unfold natsV at hown ⊢
 rw [List.map_append]
 exact own_stays3 hown a2 (by decide) hs
theorem SJ.pushAll (h:SJ wB g tv pv Bi W av bv ps bs gy nm gv gs tw ts mr cap rps){v av':Value}{t:List RowI}(ho:OwnRw W wB.heap.size v t)(hown:W'.ownsRow wB.heap.size 74 1 av' (ps.length+1) (ps.map Prod.fst++[v]))(hg:W.grownBy W' av.ownBlock) :
  SJ wB g tv pv Bi W' av' bv (ps++[(v,t)]) bs gy nm gv gs tw ts mr cap rps:=by
 obtain ⟨h1,h2,h3,h4,h5⟩:=h
 have ha:=h1.2.2.1.1
 exact ⟨h1.pushAll ho hown hg,blk_stays h2 ha (by decide) hg,own_stays h3 ha (by decide) hg,own_stays h4 ha (by decide) hg,h5.stays ha (by decide) hg⟩
end
/-- The state behind Fold. -/
def SF (wB:World)(g:Nat)(tv pv xv:Value)(W:World)(bv:Value)(qs:List (Value×List RowI))(bs:List BkE)(Bf:Nat)(kv:Value)(ks:List Nat):Prop :=
 Only g wB W∧Blk W g 133 #[tv,pv,xv,bv]∧OTabs W wB.heap.size xv qs∧W.ownsRow wB.heap.size 139 3 bv bs.length (bkCells bs)∧BksOwn W wB.heap.size bs∧BksApart bs∧W.ownsRow Bf 3 1 kv ks.length (natsV ks)∧wB.heap.size≤Bf∧∀ e∈bs,∀ k,e.tv.ownBlock=some k→k<Bf
section
variable {wB W W':World} {g Bf:Nat} {tv pv xv av bv kv:Value} {ps qs:List (Value×List RowI)} {bs:List BkE} {ks:List Nat}
theorem SF.of (h:ST wB g tv pv W av bv ps bs)(hgB:g<wB.heap.size)(hb:Below W.heap.size W W')(hx:OTabs W' W.heap.size xv qs)(hk:W'.ownsRow W.heap.size 3 1 kv ks.length (natsV ks)):SF wB g tv pv xv (W'.setCell ⟨g,2,none⟩ xv) bv qs bs W.heap.size kv ks:=by
 have hlt:=fun e he=>(h.2.2.2.2.1 e he).2
 obtain ⟨h1,h2,h3,h5,h6,h7⟩:=h.on hb
 have hW:=h.1.size
 have hset:∀ {t:TypeId} {B s n:Nat} {v:Value} {xs:List Value},wB.heap.size≤B→W'.ownsRow B t s v n xs→(W'.setCell ⟨g,2,none⟩ xv).ownsRow B t s v n xs:=fun hB hh=>ownsRow_setCell_below hh (a:=⟨g,2,none⟩) (Nat.lt_of_lt_of_le hgB hB) xv
 exact ⟨h1.setCell (.inl rfl) _,h2.set_ 2 xv,⟨hset (Nat.le_refl _) (own_base hx.1 hW),fun x hx2=>hset (Nat.le_refl _) (own_base (hx.2 x hx2) hW)⟩,hset (Nat.le_refl _) h5,fun e he=>⟨hset (Nat.le_refl _) (h6 e he).1,hset (Nat.le_refl _) (h6 e he).2⟩,h7,hset hW hk,hW,fun e he k hk2=>((hlt e he).lt k hk2).2⟩
theorem SF.on (h:SF wB g tv pv xv W bv qs bs Bf kv ks)(hb:Below W.heap.size W W'):SF wB g tv pv xv W' bv qs bs Bf kv ks :=
 ⟨h.1.trans (Only.of_below hb),h.2.1.below hb h.2.1.lt,⟨own_more h.2.2.1.1 hb,fun x hx=>own_more (h.2.2.1.2 x hx) hb⟩,own_more h.2.2.2.1 hb,fun e he=>⟨own_more (h.2.2.2.2.1 e he).1 hb,own_more (h.2.2.2.2.1 e he).2 hb⟩,h.2.2.2.2.2.1,own_more h.2.2.2.2.2.2.1 hb,h.2.2.2.2.2.2.2⟩
/-- A number of a Book turned. -/
theorem SF.turn {a k c:Nat}{e:BkE}(h:SF wB g tv pv xv W bv qs bs Bf kv ks)(ha:bs[a]?=some e)(htv:e.tv=.slice (some ⟨k,0,none⟩) e.ts.length c)(j x:Nat) :
  SF wB g tv pv xv (W.setCell ⟨k,j,none⟩ (.int .i64 (x:Int))) bv qs (bs.set a { e with ts:=e.ts.set j x }) Bf kv ks:=by
 obtain ⟨h1,h2,⟨h3,h4⟩,h5,h6,h7,h8,h9,h10⟩:=h
 have hea:=List.mem_of_getElem? ha
 have hi:=(h6 e hea).2
 have hb:e.tv.ownBlock=some k:=by rw [htv];rfl
 have hkb:=(hi.lt k hb).1
 have hg:=grown_set W k j (.int .i64 (x:Int))
 have hgt:W.grownBy (W.setCell ⟨k,j,none⟩ (.int .i64 (x:Int))) e.tv.ownBlock:=by rw [hb];exact hg
 have hst:(W.setCell ⟨k,j,none⟩ (.int .i64 (x:Int))).ownsRow wB.heap.size 3 1 e.tv e.ts.length ((natsV e.ts).set j (.int .i64 (x:Int))):=by
  rw [htv] at hi ⊢
  exact (hi.stored j _).1
 have hal:=(List.getElem?_eq_some_iff.1 ha).1
 have hae:=(List.getElem?_eq_some_iff.1 ha).2
 have hcell:bkCells (bs.set a { e with ts:=e.ts.set j x })=bkCells bs:=by
  unfold bkCells
  rw [List.flatMap_def,List.flatMap_def,List.map_set]
  congr 1
  rw [←hae]
  apply List.ext_getElem?
  intro i
  rw [List.getElem?_set]
  split
  ·rename_i he2
   subst he2
   simp [hal]
  ·rfl
 refine ⟨h1.setCell (.inr hkb) _,blk_stays h2 hi (by decide) hgt,⟨own_stays h3 hi (by decide) hgt,fun x hx=>own_stays (h4 x hx) hi (by decide) hgt⟩,?_,fun e2 he2=>?_,?_,own_stays2 h8 hg (fun q hq e3=>?_),h9,fun e2 he2 q hq=>?_⟩
 ·rw [hcell,List.length_set]
  exact own_stays h5 hi (by decide) hgt
 ·obtain ⟨i,hi2⟩:=List.mem_iff_getElem?.1 he2
  rw [List.getElem?_set] at hi2
  split at hi2
  ·rename_i hai
   subst hai
   cases hi2
   refine ⟨own_stays (h6 e hea).1 hi (by decide) hgt,?_⟩
   simp only [List.length_set]
   unfold natsV at hst ⊢
   rw [List.map_set]
   exact hst
  ·rename_i hai
   have hm:=List.mem_of_getElem? hi2
   refine ⟨own_stays (h6 e2 hm).1 hi (by decide) hgt,own_stays2 (h6 e2 hm).2 hg fun q hq e3=>?_⟩
   have hqk:q=k:=(Option.some.inj e3).symm
   subst hqk
   obtain ⟨hil,hie⟩:=List.getElem?_eq_some_iff.1 hi2
   have hp:=List.pairwise_iff_getElem.1 h7
   rcases Nat.lt_trichotomy a i with h | h | h
   ·have:=hp a i hal hil h q (by rw [hae];exact hb)
    rw [hie] at this
    exact this hq
   ·exact hai h
   ·have:=hp i a hil hal h q (by rw [hie];exact hq)
    rw [hae] at this
    exact this hb
 ·unfold BksApart at h7 ⊢
  have e1:∀ l:List BkE,(l.Pairwise fun e e'=>∀ k,e.tv.ownBlock=some k→e'.tv.ownBlock≠some k)↔(l.map fun e=>e.tv.ownBlock).Pairwise fun a b=>∀ k,a=some k→b≠some k:=fun l=>(List.pairwise_map (f:=fun e:BkE=>e.tv.ownBlock) (R:=fun a b=>∀ k,a=some k→b≠some k)).symm
  rw [e1] at h7 ⊢
  rw [List.map_set]
  have:(bs.map fun e=>e.tv.ownBlock).set a e.tv.ownBlock=bs.map fun e=>e.tv.ownBlock:=by
   apply List.ext_getElem?
   intro i
   rw [List.getElem?_set]
   split
   ·rename_i he2
    subst he2
    simp [hal,hae]
   ·rfl
  rw [this]
  exact h7
 ·have:=(h8.lt q hq).1
  have:=h10 e hea k hb
  have:=Option.some.inj e3
  omega
 ·obtain ⟨i,hi2⟩:=List.mem_iff_getElem?.1 he2
  rw [List.getElem?_set] at hi2
  split at hi2
  ·rename_i hai
   subst hai
   cases hi2
   exact h10 e hea q hq
  ·exact h10 e2 (List.mem_of_getElem? hi2) q hq
end
section
variable {wB Wi W W':World} {g gy mr j:Nat} {tv pv av bv gv:Value} {ps:List (Value×List RowI)} {bs:List BkE} {nm:ByteArray} {gs gs':List ByteArray} {rps:List (REnt RowI)}
/-- Behind the sorting of a Book's groups. -/
theorem SJ.of (hS:ST wB g tv pv Wi av bv ps bs)(hL:L6 Wi gy mr nm W gv gs j rps)(hs:W'.ownsRow Wi.heap.size 9 1 gv gs'.length (strsV gs'))(hg:W.grownBy W' gv.ownBlock):SJ wB g tv pv Wi.heap.size W' av bv ps bs gy nm gv gs' (.slice none 0 0) [] mr j rps :=
 ⟨hS.on (hL.1.grown hg hL.1.size (fun k hk=>(hL.2.2.1.lt k hk).1)),blk_stays hL.2.1 hL.2.2.1 (by decide) hg,hs,World.ownsRow_nil _ _ _ _,hL.2.2.2.stays hL.2.2.1 (by decide) hg⟩
theorem lies_of (hS:ST wB g tv pv Wi av bv ps bs)(hgB:g<wB.heap.size)(hl:Wi.heap.size≤gy∧mr≠gy):Lies wB g Wi.heap.size gy mr bv bs :=
 ⟨hgB,hS.1.size,hl.1,hl.2,fun k hk=>(hS.2.2.2.1.lt k hk).2,fun e he k hk=>((hS.2.2.2.2.1 e he).2.lt k hk).2⟩
end
section
variable {wB W W':World} {g Bi gy mr cap:Nat} {tv pv av bv gv tw:Value} {ps:List (Value×List RowI)} {bs:List BkE} {nm:ByteArray} {gs:List ByteArray} {ts:List Nat} {rps:List (REnt RowI)}
theorem SJ.pushTabT (h:SJ wB g tv pv Bi W av bv ps bs gy nm gv gs tw ts mr cap rps)(hl:Lies wB g Bi gy mr bv bs){v:Value}{t:List RowI}(ho:OwnRw W wB.heap.size v t){x n:Nat}(hn:ts.length=n){tw':Value}(hown:W'.ownsRow Bi 3 1 tw' (n+1) (natsV ts++[.int .i64 (x:Int)]))(hg:W.grownBy W' tw.ownBlock) :
  SJ wB g tv pv Bi (W'.setCell ⟨gy,2,none⟩ tw') av bv ps bs gy nm gv gs tw' (ts++[x]) mr cap rps∧OwnRw (W'.setCell ⟨gy,2,none⟩ tw') wB.heap.size v t:=by
 subst hn
 exact ⟨h.pushTab hl hown hg,own_stays3 (own_stays ho h.2.2.2.1 (by decide) hg) (blk_stays h.2.1 h.2.2.2.1 (by decide) hg) (by decide) (grown_set W' gy 2 tw')⟩
theorem SJ.fst (h:SJ wB g tv pv Bi W av bv ps bs gy nm gv gs tw ts mr cap rps){n:Nat}(hn:ts.length=n):W.ownsRow Bi 3 1 tw n (natsV ts):=hn ▸ h.2.2.2.1
theorem SJ.allR (h:SJ wB g tv pv Bi W av bv ps bs gy nm gv gs tw ts mr cap rps){n:Nat}(hn:ps.length=n):W.ownsRow wB.heap.size 74 1 av n (ps.map Prod.fst):=hn ▸ h.1.2.2.1.1
theorem SJ.bksR (h:SJ wB g tv pv Bi W av bv ps bs gy nm gv gs tw ts mr cap rps){n:Nat}(hn:bs.length=n):W.ownsRow wB.heap.size 139 3 bv n (bkCells bs):=hn ▸ h.1.2.2.2.1
theorem SJ.size (h:SJ wB g tv pv Bi W av bv ps bs gy nm gv gs tw ts mr cap rps):wB.heap.size≤W.heap.size∧gy<W.heap.size:=⟨h.1.1.size,h.2.1.lt⟩
theorem SJ.pushAllN (h:SJ wB g tv pv Bi W av bv ps bs gy nm gv gs tw ts mr cap rps){v av':Value}{t:List RowI}{n:Nat}(hn:ps.length=n)(ho:OwnRw W wB.heap.size v t)(hown:W'.ownsRow wB.heap.size 74 1 av' (n+1) (ps.map Prod.fst++[v]))(hg:W.grownBy W' av.ownBlock) :
  SJ wB g tv pv Bi W' av' bv (ps++[(v,t)]) bs gy nm gv gs tw ts mr cap rps:=by
 subst hn
 exact h.pushAll ho hown hg
/-- A group's rows in the map. -/
theorem SJ.rowAt (h:SJ wB g tv pv Bi W av bv ps bs gy nm gv gs tw ts mr cap rps){T P:List ByteArray}{vs:List PKey}(hG:GrAt T P vs vs.length rps){gr:ByteArray}(hg:gr∈groupsB vs) :
  ∃ a c,(lookF rps gr).getD (.slice none 0 0)=.slice (some a) (rowsB T P vs gr).length c∧RowsR W W.heap.size (.slice (some a) (rowsB T P vs gr).length c) (rowsB T P vs gr):=by
 have hm:gr∈rps.map fun p=>p.1:=by
  rw [hG.2.1 gr,List.take_length]
  unfold groupsB at hg
  exact (poolL_mem _ _).1 hg
 have hne:=rowsB_some (T:=T) (P:=P) hg
 cases hl:lookF rps gr with
 | none=>exact absurd hm (lookF_none.1 hl)
 | some v =>
  have ho:=h.2.2.2.2.2.2.1 _ (look_some hl)
  simp only [hG.row gr] at ho
  obtain ⟨A,c,rfl,h1,h2,h3⟩:=own_form ho
  cases A with
  | none =>
   obtain ⟨ad,he,-⟩:=h3.2 hne
   cases he
  | some a=>exact ⟨a,c,rfl,⟨some a,c,rfl,h1,h2,h3⟩⟩
theorem SJ.yStays (h:SJ wB g tv pv Bi W av bv ps bs gy nm gv gs tw ts mr cap rps)(hl:Lies wB g Bi gy mr bv bs)(hg:W.grownBy W' bv.ownBlock):Blk W' gy 139 #[.string nm,gv,tw]∧Blk W' g 133 #[tv,pv,.slice none 0 0,bv] :=
 ⟨h.2.1.grown hg (fun e=>by have:=hl.2.2.2.2.1 gy e.symm;have:=hl.2.2.1;omega),blk_stays h.1.2.1 h.1.2.2.2.1 (by decide) hg⟩
/-- A Book that is laid out is put behind the others. -/
theorem SJ.pushBk (h:SJ wB g tv pv Bi W av bv ps bs gy nm gv gs tw ts mr cap rps)(hl:Lies wB g Bi gy mr bv bs){n:Nat}(hn:bs.length=n){bv':Value}(hown:W'.ownsRow wB.heap.size 139 3 bv' (n+1) (bkCells bs++[.string nm,gv,tw]))(hg:W.grownBy W' bv.ownBlock) :
  ST wB g tv pv (W'.setCell ⟨g,3,none⟩ bv') av bv' ps (bs++[⟨nm,gv,gs,tw,ts⟩]):=by
 subst hn
 obtain ⟨h1,h2,h3,h4,h5⟩:=h
 exact h1.pushBk hl.1 ⟨nm,gv,gs,tw,ts⟩ ⟨own_base h3 hl.2.1,own_base h4 hl.2.1⟩ (fun e' he' k hk hk2=>by
  have a:=hl.2.2.2.2.2 e' he' k hk
  have b:=(h4.lt k hk2).1
  omega) hown hg
end
/-- The numbers of a Book's tables, as they come. -/
def tsAt (b k:Nat):List Nat:=(List.range k).map fun j=>b+j
theorem tsAt_next (b k:Nat):tsAt b (k+1)=tsAt b k++[b+k]:=by simp [tsAt,List.range_succ]
theorem tsAt_len (b k:Nat):(tsAt b k).length=k:=by simp [tsAt]
theorem tsAt_get {b k j t:Nat}(h:(tsAt b k)[j]?=some t):t=b+j∧j<k:=by
 unfold tsAt at h
 rw [List.getElem?_map,Option.map_eq_some_iff] at h
 obtain ⟨x,hx,rfl⟩:=h
 obtain ⟨hl,he⟩:=List.getElem?_eq_some_iff.1 hx
 simp at hl he
 exact ⟨by omega,hl⟩
/-- The numbers of tables turned: all of the first q Books, j of the next one. -/
def turnAt (f:Nat→Nat)(bs:List BkE)(q j:Nat):List BkE:=bs.mapIdx fun a e=>if a<q then { e with ts:=e.ts.map f } else if a=q then { e with ts:=(e.ts.take j).map f++e.ts.drop j } else e
theorem turnAt_len (f:Nat→Nat)(bs:List BkE)(q j:Nat):(turnAt f bs q j).length=bs.length:=by simp [turnAt]
theorem turnAt_get {f:Nat→Nat}{bs:List BkE}{q j i:Nat}{e:BkE}(h:bs[i]?=some e):(turnAt f bs q j)[i]?=some (if i<q then { e with ts:=e.ts.map f } else if i=q then { e with ts:=(e.ts.take j).map f++e.ts.drop j } else e):=by
 unfold turnAt
 rw [List.getElem?_mapIdx,h]
 rfl
theorem turnAt_none {f:Nat→Nat}{bs:List BkE}{q j i:Nat}(h:bs[i]?=none):(turnAt f bs q j)[i]?=none:=by
 unfold turnAt
 rw [List.getElem?_mapIdx,h]
 rfl
theorem turnAt_start (f:Nat→Nat)(bs:List BkE):turnAt f bs 0 0=bs:=by
 apply List.ext_getElem?
 intro i
 cases h:bs[i]? with
 | none=>exact turnAt_none h
 | some e =>
  rw [turnAt_get h,if_neg (by omega)]
  split
  ·simp
  ·rfl
theorem turnAt_done {f:Nat→Nat}{bs:List BkE}{q j:Nat}{e:BkE}(h:bs[q]?=some e)(hj:e.ts.length≤j):turnAt f bs q j=turnAt f bs (q+1) 0:=by
 apply List.ext_getElem?
 intro i
 cases hi:bs[i]? with
 | none=>rw [turnAt_none hi,turnAt_none hi]
 | some e' =>
  rw [turnAt_get hi,turnAt_get hi]
  rcases Nat.lt_trichotomy i q with h1 | h1 | h1
  ·rw [if_pos h1,if_pos (by omega)]
  ·subst h1
   rw [h] at hi
   cases hi
   rw [if_neg (by omega),if_pos rfl,if_pos (by omega),List.take_of_length_le hj,List.drop_of_length_le hj,List.append_nil]
  ·rw [if_neg (by omega),if_neg (by omega),if_neg (by omega)]
   split
   ·simp
   ·rfl
theorem take_map_next {f:Nat→Nat}{l:List Nat}{j t:Nat}(h:l[j]?=some t):(l.take (j+1)).map f++l.drop (j+1)=((l.take j).map f++l.drop j).set j (f t):=by
 obtain ⟨hj,he⟩:=List.getElem?_eq_some_iff.1 h
 have hd:l.drop j=t::l.drop (j+1):=by rw [List.drop_eq_getElem_cons hj,he]
 rw [hd,List.take_add_one,h,List.map_append,List.set_append]
 simp [Nat.min_eq_left (Nat.le_of_lt hj)]
theorem turnAt_next {f:Nat→Nat}{bs:List BkE}{q j t:Nat}{e:BkE}(h:bs[q]?=some e)(ht:e.ts[j]?=some t) :
  (turnAt f bs q j)[q]?=some { e with ts:=(e.ts.take j).map f++e.ts.drop j }∧turnAt f bs q (j+1)=(turnAt f bs q j).set q { e with ts:=((e.ts.take j).map f++e.ts.drop j).set j (f t) }:=by
 have hq:(turnAt f bs q j)[q]?=some { e with ts:=(e.ts.take j).map f++e.ts.drop j }:=by rw [turnAt_get h,if_neg (by omega),if_pos rfl]
 refine ⟨hq,?_⟩
 apply List.ext_getElem?
 intro i
 rw [List.getElem?_set]
 by_cases hi:q=i
 ·subst hi
  rw [if_pos rfl,if_pos (List.getElem?_eq_some_iff.1 hq).1,turnAt_get h,if_neg (by omega),if_pos rfl,take_map_next ht]
 ·rw [if_neg hi]
  cases hn:bs[i]? with
  | none=>rw [turnAt_none hn,turnAt_none hn]
  | some e' =>
   rw [turnAt_get hn,turnAt_get hn]
   rcases Nat.lt_trichotomy i q with h1 | h1 | h1
   ·rw [if_pos h1,if_pos h1]
   ·exact absurd h1.symm hi
   ·rw [if_neg (by omega),if_neg (by omega),if_neg (by omega),if_neg (by omega)]
/-- Books laid out, tables by their places in LS. -/
def BksIs (T P:List ByteArray)(LS:List (List RowI))(bl:List PStep)(bs:List BkE):Prop :=
 bs.length=bl.length∧∀(i:Nat) (e:BkE) (b:PStep),bs[i]?=some e→bl[i]?=some b→e.name=b.1∧e.gs=groupsB b.2∧e.ts.length=e.gs.length∧∀(j t:Nat),e.ts[j]?=some t→∃ gr,e.gs[j]?=some gr∧LS[t]?=some (rowsB T P b.2 gr)
theorem bksIs_nil (T P:List ByteArray)(LS:List (List RowI)):BksIs T P LS [] []:=⟨rfl,fun i e b h=>by simp at h⟩
theorem BksIs.push {T P:List ByteArray}{LS:List (List RowI)}{l:List PStep}{bs:List BkE}{i:Nat}{b:PStep}{e:BkE}(h:BksIs T P LS (l.take i) bs)(hb:l[i]?=some b)(he:e.name=b.1∧e.gs=groupsB b.2∧e.ts.length=e.gs.length∧∀(j t:Nat),e.ts[j]?=some t→∃ gr,e.gs[j]?=some gr∧LS[t]?=some (rowsB T P b.2 gr)):BksIs T P LS (l.take (i+1)) (bs++[e]):=by
 have hl:(l.take i).length=i:=by
  rw [List.length_take]
  have:=(List.getElem?_eq_some_iff.1 hb).1
  omega
 obtain ⟨h1,h2⟩:=h
 rw [hl] at h1
 have ht:l.take (i+1)=l.take i++[b]:=by rw [List.take_add_one,hb];rfl
 rw [ht]
 refine ⟨by simp [h1,hl],fun k e2 b2 hk hb2=>?_⟩
 rcases Nat.lt_or_ge k i with hki | hki
 ·rw [List.getElem?_append_left (by omega)] at hk hb2
  exact h2 k e2 b2 hk hb2
 ·rw [List.getElem?_append_right (by omega)] at hk hb2
  rw [h1] at hk
  rw [hl] at hb2
  have hk0:k-i=0:=by
   have:=(List.getElem?_eq_some_iff.1 hk).1
   simp at this
   omega
  rw [hk0] at hk hb2
  cases hk
  cases hb2
  exact he
theorem allTabs_next {T P:List ByteArray}{l:List PStep}{i:Nat}{b:PStep}(hb:l[i]?=some b):allTabs T P (l.take (i+1))=allTabs T P (l.take i)++(groupsB b.2).map fun g=>rowsB T P b.2 g:=by
 unfold allTabs
 rw [List.take_add_one,hb,List.flatMap_append]
 simp
theorem allTabs_at {T P:List ByteArray}{l:List PStep}{i j n:Nat}{b:PStep}{gr:ByteArray}(hb:l[i]?=some b)(hg:(groupsB b.2)[j]?=some gr)(hn:n=(allTabs T P (l.take i)).length+j):(allTabs T P l)[n]?=some (rowsB T P b.2 gr):=by
 subst hn
 have h1:allTabs T P l=allTabs T P (l.take (i+1))++allTabs T P (l.drop (i+1)):=by
  unfold allTabs
  rw [←List.flatMap_append,List.take_append_drop]
 have hj:=(List.getElem?_eq_some_iff.1 hg).1
 rw [h1,allTabs_next hb,List.getElem?_append_left (by simp;exact hj),List.getElem?_append_right (by omega)]
 simp [hg]
theorem own_head {w:World}{base n size:Nat}{e:TypeId}{v:Value}{xs:List Value}(h:w.ownsRow base e size v n xs)(hn:0<n)(hl:xs.length=n*size):∃ k c,v=.slice (some ⟨k,0,none⟩) n c∧base≤k∧k<w.heap.size:=by
 obtain ⟨A,c,rfl,h1,h2,h3⟩:=own_form h
 obtain ⟨ad,rfl,-⟩:=h3.2 hn
 obtain ⟨k,o,i⟩:=ad
 have hk:(Value.slice (some ⟨k,o,i⟩) n c).ownBlock=some k:=rfl
 obtain ⟨c',e,-,-⟩:=own_some h hk
 exact ⟨k,c',e,h.lt k hk⟩
theorem natsV_at {ks:List Nat}{i k:Nat}(h:ks[i]?=some k):(natsV ks)[i]?=some (.int .i64 (k:Int)):=by simp [natsV,h]
/-- A cell of a row of numbers. -/
theorem nats_cell {w:World}{base i k b c n:Nat}{ks:List Nat}(h:w.ownsRow base 3 1 (.slice (some ⟨b,0,none⟩) n c) ks.length (natsV ks))(hk:ks[i]?=some k):w.cell? ⟨b,i,none⟩=some (.int .i64 (k:Int)):=by
 obtain ⟨A,c',e,-,-,h3⟩:=own_form h
 cases e
 obtain ⟨b',o,e',-,hc⟩:=h3.spot (by have:=(List.getElem?_eq_some_iff.1 hk).1;omega) (by omega)
 cases e'
 have:=hc _ _ (natsV_at hk)
 simpa using this
theorem turnAt_at {f:Nat→Nat}{bs:List BkE}{q:Nat}{e:BkE}(j:Nat)(h:bs[q]?=some e):(turnAt f bs q j)[q]?=some { e with ts:=(e.ts.take j).map f++e.ts.drop j }:=by rw [turnAt_get h,if_neg (by omega),if_pos rfl]
theorem mix_len (f:Nat→Nat)(l:List Nat)(j:Nat):((l.take j).map f++l.drop j).length=l.length:=by simp;omega
theorem mix_at {f:Nat→Nat}{l:List Nat}{j t:Nat}(h:l[j]?=some t):((l.take j).map f++l.drop j)[j]?=some t:=by
 obtain ⟨hj,-⟩:=List.getElem?_eq_some_iff.1 h
 rw [List.getElem?_append_right (by simp;omega)]
 simp [Nat.min_eq_left (Nat.le_of_lt hj),h]
theorem SF.bkAt {wB W:World}{g Bf q:Nat}{tv pv xv bv kv:Value}{qs:List (Value×List RowI)}{bs:List BkE}{ks:List Nat}{f:Nat→Nat}{j:Nat}{en:ByteArray}{eg et:Value}{es:List ByteArray}{ek:List Nat}(h:SF wB g tv pv xv W bv qs (turnAt f bs q j) Bf kv ks)(he:bs[q]?=some ⟨en,eg,es,et,ek⟩) :
  W.ownsRow wB.heap.size 9 1 eg es.length (strsV es)∧W.ownsRow wB.heap.size 3 1 et ek.length (natsV ((ek.take j).map f++ek.drop j))∧∀ k,et.ownBlock=some k→k<Bf:=by
 have hm:=List.mem_of_getElem? (turnAt_at (f:=f) j he)
 have h1:=h.2.2.2.2.1 _ hm
 have h2:=h.2.2.2.2.2.2.2.2 _ hm
 simp only [mix_len] at h1 h2
 exact ⟨h1.1,h1.2,h2⟩
theorem SF.turnNext {wB W:World}{g Bf q:Nat}{tv pv xv bv kv:Value}{qs:List (Value×List RowI)}{bs:List BkE}{ks:List Nat}{f:Nat→Nat}{j t k c:Nat}{en:ByteArray}{eg:Value}{es:List ByteArray}{ek:List Nat}(h:SF wB g tv pv xv W bv qs (turnAt f bs q j) Bf kv ks)(he:bs[q]?=some ⟨en,eg,es,.slice (some ⟨k,0,none⟩) ek.length c,ek⟩)(ht:ek[j]?=some t) :
  SF wB g tv pv xv (W.setCell ⟨k,j,none⟩ (.int .i64 (f t:Int))) bv qs (turnAt f bs q (j+1)) Bf kv ks:=by
 obtain ⟨hq,hn⟩:=turnAt_next (f:=f) he ht
 rw [hn]
 exact h.turn hq (by show Value.slice (some ⟨k,0,none⟩) ek.length c=Value.slice (some ⟨k,0,none⟩) ((ek.take j).map f++ek.drop j).length c;rw [mix_len]) j (f t)
/-- A bundle's layout, as it can be read. -/
def BksFin (l:List PStep)(bs:List BkE):Prop:=bs.length=l.length∧∀(i:Nat) (e:BkE) (b:PStep),bs[i]?=some e→l[i]?=some b→e.name=b.1∧e.gs=groupsB b.2∧e.ts=(groupsB b.2).map fun gr=>tix (tabsB l) (rowsB (textsP l) (pathsP l) b.2 gr)
def BksR (W:World)(B:Nat)(v:Value)(bs:List BkE):Prop:=∃ A c,v=.slice A bs.length c∧bs.length≤c∧c≤maxLen∧Reads W B 3 A bs.length (bkCells bs)∧∀ e∈bs,Txts W B e.gv e.gs∧IntsR W B e.tv e.ts
theorem IntsR.more {w:World}{B B':Nat}{v:Value}{ks:List Nat}(h:IntsR w B v ks)(hB:B≤B'):IntsR w B' v ks:=by
 obtain ⟨A,c,e,h1,h2,h3⟩:=h
 exact ⟨A,c,e,h1,h2,h3.more hB⟩
theorem IntsR.below {w w':World}{B:Nat}{v:Value}{ks:List Nat}(h:IntsR w B v ks)(hb:Below B w w'):IntsR w' B v ks:=by
 obtain ⟨A,c,e,h1,h2,h3⟩:=h
 exact ⟨A,c,e,h1,h2,h3.below hb⟩
theorem BksR.on {W W':World}{v:Value}{bs:List BkE}(h:BksR W W.heap.size v bs)(hb:Below W.heap.size W W'):BksR W' W'.heap.size v bs:=by
 obtain ⟨A,c,e,h1,h2,h3,h4⟩:=h
 exact ⟨A,c,e,h1,h2,(h3.below hb).more hb.size,fun x hx=>⟨((h4 x hx).1.below hb).more hb.size,((h4 x hx).2.below hb).more hb.size⟩⟩
def LayAt (l:List PStep)(g:Nat)(W:World):Prop:=∃(At:Option Addr) (ct:Nat) (Ap:Option Addr) (cp:Nat) (xv bv:Value) (qs:List (Value×List RowI)) (bs:List BkE),
 Blk W g 133 #[.slice At (textsP l).length ct,.slice Ap (pathsP l).length cp,xv,bv]∧Txts W W.heap.size (.slice At (textsP l).length ct) (textsP l)∧Txts W W.heap.size (.slice Ap (pathsP l).length cp) (pathsP l) ∧
 qs.map Prod.snd=tabsB l∧TabsP W W.heap.size xv qs∧BksR W W.heap.size bv bs∧BksFin l bs
theorem LayAt.on {l:List PStep}{g:Nat}{W W':World}(h:LayAt l g W)(hb:Below W.heap.size W W'):LayAt l g W':=by
 obtain ⟨At,ct,Ap,cp,xv,bv,qs,bs,h1,h2,h3,h4,h5,h6,h7⟩:=h
 exact ⟨At,ct,Ap,cp,xv,bv,qs,bs,h1.below hb h1.lt,(h2.below hb).more hb.size,(h3.below hb).more hb.size,h4,(h5.below hb).more hb.size,h6.on hb,h7⟩
def LayPost (l:List PStep)(w:World)(en:Ending)(w':World):Prop:=(((checkB l).1≠0∧en=.returned (.tuple #[.pointer none,.int .i64 (checkB l).1]))∨((checkB l).1=0∧∃ g:Nat,en=.returned (.tuple #[.pointer (some ⟨g,0,none⟩),.int .i64 0])∧w.heap.size≤g∧LayAt l g w'))∧Below w.heap.size w w'
theorem layPost_no {l:List PStep}{w w':World}{e:Int}(h:(checkB l).1=e)(hz:e≠0)(hb:Below w.heap.size w w'):LayPost l w (.returned (.tuple #[.pointer none,.int .i64 e])) w':=⟨.inl ⟨by rw [h];exact hz,by rw [h]⟩,hb⟩
theorem groupsB_len (vs:List PKey):(groupsB vs).length≤vs.length:=by
 unfold groupsB
 have:=poolL_len (lt:=bl) (vs.map fun v=>grp v.1)
 rw [List.length_map] at this
 exact this
theorem allTabs_len (T P:List ByteArray):∀(l:List PStep),(∀ b∈l,b.2.length≤16500)→(allTabs T P l).length≤16500*l.length
 | [],_=>Nat.le_refl _
 | b::r,h=>by
  have ih:=allTabs_len T P r fun c hc=>h c (by simp [hc])
  have hb:=h b (by simp)
  have hg:=groupsB_len b.2
  unfold allTabs at ih ⊢
  simp only [List.flatMap_cons,List.length_append,List.length_map,List.length_cons]
  omega
theorem rowsB_ok {T P:List ByteArray}{vs:List PKey}(hP:P.length≤100000000)(hT:T.length≤100000000)(hm:∀ v∈vs,v.1∈P∧v.2∈T)(g:ByteArray):RowsOk (rowsB T P vs g):=by
 intro r hr
 unfold rowsB at hr
 obtain ⟨v,hv,rfl⟩:=List.mem_map.1 hr
 have hv2:=hm v (List.mem_filter.1 hv).1
 have h1:=idx_lt hv2.1
 have h2:=idx_lt hv2.2
 simp only
 omega
theorem allTabs_mem {T P:List ByteArray}{l:List PStep}{t:List RowI}(h:t∈allTabs T P l):∃ b∈l,∃ gr,t=rowsB T P b.2 gr:=by
 unfold allTabs at h
 obtain ⟨b,hb,h⟩:=List.mem_flatMap.1 h
 obtain ⟨gr,-,rfl⟩:=List.mem_map.1 h
 exact ⟨b,hb,gr,rfl⟩
theorem val_in {l:List PStep}{b:PStep}(hb:b∈l):∀ v∈b.2,v.1∈pathsP l∧v.2∈textsP l:=fun v hv=>⟨(poolL_mem _ _).2 (paths_val hb hv),(poolL_mem _ _).2 (words_val hb hv).2.2⟩
theorem tab_rise {l:List PStep}(h:(checkB l).1=0){b:PStep}(hb:b∈l)(gr:ByteArray):RiseL kl (rowsB (textsP l) (pathsP l) b.2 gr)∧poolL rl (rowsB (textsP l) (pathsP l) b.2 gr)=rowsB (textsP l) (pathsP l) b.2 gr:=by
 have hv:=((checkB_ok h).2.2 b hb).2.1
 have hm:∀ v∈b.2,v.1∈pathsP l:=fun v hv=>(val_in hb v hv).1
 exact ⟨rowsB_rise (poolL_rise blT _) hv hm gr,rowsB_pool (poolL_rise blT _) hv hm gr⟩
/-- The Books' tables, turned, are the layout's. -/
theorem bks_fin {l:List PStep}{bs:List BkE}{ks:List Nat}(h:BksIs (textsP l) (pathsP l) (allTabs (textsP l) (pathsP l) l) l bs)(hf:FoldAt (allTabs (textsP l) (pathsP l) l) ks):BksFin l (turnAt (fun t=>ks.getD t 0) bs bs.length 0):=by
 refine ⟨by rw [turnAt_len];exact h.1,fun i e b he hb=>?_⟩
 have hi:i<bs.length:=by rw [h.1];exact (List.getElem?_eq_some_iff.1 hb).1
 have he0:bs[i]?=some bs[i]:=List.getElem?_eq_getElem hi
 rw [turnAt_get he0,if_pos hi] at he
 cases he
 obtain ⟨h1,h2,h3,h4⟩:=h.2 i _ b he0 hb
 refine ⟨h1,h2,?_⟩
 apply List.ext_getElem?
 intro j
 rw [List.getElem?_map,List.getElem?_map]
 cases hj:(bs[i].ts)[j]? with
 | none =>
  have:(groupsB b.2)[j]?=none:=by
   rw [List.getElem?_eq_none_iff] at hj ⊢
   rw [←h2]
   omega
  rw [this]
  rfl
 | some t =>
  obtain ⟨gr,hg,ht⟩:=h4 j t hj
  rw [h2] at hg
  rw [hg]
  obtain ⟨k,hk,hk2⟩:=hf.2 t _ ht
  simp only [Option.map_some,Option.some.injEq]
  rw [List.getD_eq_getElem?_getD,hk]
  exact (tix_at (poolL_rise tlT _) hk2).symm
/-- What stands behind the last loop can be read. -/
theorem SF.lay {wB W:World}{g Bf nT nP ct cp:Nat}{At Ap:Option Addr}{xv bv kv:Value}{qs:List (Value×List RowI)}{bs:List BkE}{ks:List Nat}{l:List PStep}(h:SF wB g (.slice At nT ct) (.slice Ap nP cp) xv W bv qs bs Bf kv ks)
  (hT:(textsP l).length=nT)(hP:(pathsP l).length=nP)(h1:Txts W W.heap.size (.slice At nT ct) (textsP l))(h2:Txts W W.heap.size (.slice Ap nP cp) (pathsP l))(hq:qs.map Prod.snd=tabsB l)(hb:BksFin l bs):LayAt l g W:=by
 subst hT hP
 obtain ⟨-,s2,s3,s4,s5,-⟩:=h
 obtain ⟨A,c,rfl,e1,e2,e3⟩:=own_form s4
 exact ⟨At,ct,Ap,cp,xv,_,qs,bs,s2,h1,h2,hq,s3.tabs,⟨A,c,rfl,e1,e2,e3,fun e he=>⟨own_form (s5 e he).1,ints_of_own (s5 e he).2⟩⟩,hb⟩
end
section
open Go.RowKit

/-- Bytes that stand in the variable at gb; theirs is a block of their own from base on. -/
def BV (base:Nat)(W:World)(gb:Nat)(L:List UInt8):Prop:=∃ A c,Blk W gb 26 #[.slice A L.length c]∧OB W base 5 (.slice A L.length c) L∧base≤gb
theorem BV.lt {base:Nat}{W:World}{gb:Nat}{L:List UInt8}(h:BV base W gb L):gb<W.heap.size:=by
 obtain ⟨A,c,h1,-⟩:=h
 exact h1.lt
theorem BV.le {base:Nat}{W:World}{gb:Nat}{L:List UInt8}(h:BV base W gb L):base≤gb:=by
 obtain ⟨A,c,-,-,h1⟩:=h
 exact h1
theorem BV.on {base:Nat}{W W':World}{gb:Nat}{L:List UInt8}(h:BV base W gb L)(hb:Below W.heap.size W W'):BV base W' gb L:=by
 obtain ⟨A,c,h1,h2,h3⟩:=h
 exact ⟨A,c,h1.below hb h1.lt,own_more h2 hb,h3⟩
theorem BV.alloc {base:Nat}{W:World}{gb:Nat}{L:List UInt8}(h:BV base W gb L)(o:Obj):BV base (W.alloc o) gb L:=h.on ((Below.refl _ W).alloc (Nat.le_refl _) o)
theorem BV.put {base:Nat}{W w2:World}{gb:Nat}{L L2:List UInt8}{v:Value}(h:BV base W gb L)(hb:Below W.heap.size W w2)(ho:OB w2 W.heap.size 5 v L2):BV base (w2.setCell ⟨gb,0,none⟩ v) gb L2∧Only gb W (w2.setCell ⟨gb,0,none⟩ v):=by
 obtain ⟨A,c,h1,h2,h3⟩:=h
 obtain ⟨A2,c2,rfl,-,-,-⟩:=OB.form ho
 have hb1:=h1.below hb h1.lt
 exact ⟨⟨A2,c2,hb1.set_ 0 _,own_stays3 (own_base ho (Nat.le_of_lt (Nat.lt_of_le_of_lt h3 h1.lt))) hb1 (by decide) (grown_set w2 gb 0 _),h3⟩,(Only.of_below hb).setCell (.inl rfl) _⟩
theorem blk_ne {W:World}{a b:Nat}{t u:TypeId}{cs ds:Array Value}(h:Blk W a t cs)(h2:Blk W b u ds)(hne:t≠u):a≠b:=by
 rintro rfl
 unfold Blk at h h2
 rw [h] at h2
 cases h2
 exact hne rfl
def PutPostB (base gb:Nat)(L:List UInt8)(w:World)(e:Ending)(w':World):Prop:=e=.returned (.tuple #[])∧BV base w' gb L∧Only gb w w'
set_option maxHeartbeats 2000000 in
theorem bput_any (ks:List Nat)(L:List UInt8)(base gb B n:Nat)(w:World)(hn:ks.length=n)(hV:BV base w gb L)(hB:Blk w B 3 (natsV ks).toArray)(hks:∀ k∈ks,k<4294967296)(hn2:n≤10)(hlen:L.length≤2000000000000) :
  Calls Tryz.prog 70 #[.slice (some ⟨B,0,none⟩) n n,.pointer (some ⟨gb,0,none⟩)] w (PutPostB base gb (L++ks.flatMap (le 4)) w):=by
 have HN:=Lib.hid hn
 have HV0:=Lib.hid hV
 have HB0:=Lib.hid hB
 have HKS:=Lib.hid hks
 have hne:B≠gb:=by
  obtain ⟨A,c,h1,-,-⟩:=hV
  exact blk_ne hB h1 (by decide)
 have hBl:B<w.heap.size:=hB.lt
 clear hn hV hB hks
 have hn3:(n:Int)≤10:=by omega
 go_enter Tryz.func70,Tryz.ntmps70
 go_wp2
 go_loopw [7] (fun kv W=>∃ k:Nat,kv=.int .i64 (k:Int)∧k≤n∧BV base W gb (L++(ks.take k).flatMap (le 4))∧Only gb w W) (fun kv _=>n-(Lib.intOf kv).toNat)
 case atStart=>exact ⟨0,rfl,Nat.zero_le _,by simpa using HV0.out,Only.refl _ _⟩
 case round =>
  obtain ⟨k,rfl,hk,hV,hO⟩:=hrel
  have HV:=Lib.hid hV
  have HO:=Lib.hid hO
  clear hV hO
  by_cases hkn:k<n
  ·have hq:(k:Int)<(n:Int):=by omega
   obtain ⟨x,hx⟩:∃ x,ks[k]?=some x:=⟨_,List.getElem?_eq_getElem (by rw [HN.out];exact hkn)⟩
   have HXL:=Lib.hid (HKS.out x (List.mem_of_getElem? hx))
   have hwp:IntKind.u32.wrap (x:Int)=(x:Int):=by have:=HXL.out;rw [IntKind.wrap_u32];omega
   have r0:wr.cell? ⟨B,k,none⟩=some (.int .i64 (x:Int)):=by
    rw [(HB0.out.grown HO.out (by simpa using hne)).cell k]
    have:=natsV_at hx
    simpa using this
   have HX:=Lib.hid hx
   obtain ⟨L',hL'⟩:∃ L',L++(ks.take k).flatMap (le 4)=L':=⟨_,rfl⟩
   have hl1:L'.length≤4000000000000:=by
    rw [←hL',List.length_append]
    have h1:=flat_le (f:=le 4) (c:=4) (l:=ks.take k) (fun y _=>by rw [le_len];exact Nat.le_refl _)
    rw [List.length_take] at h1
    omega
   have HLQ:=Lib.hid hL'
   rw [hL'] at HV
   clear hx hL'
   obtain ⟨A,c,hb0,ho0,-⟩:=HV.out
   obtain ⟨m,hm⟩:∃ m,L'.length=m:=⟨_,rfl⟩
   obtain ⟨A1,c1,e1,hc1,hc2,hR⟩:=OB.form ho0
   obtain ⟨L2,hL2⟩:∃ L2,L'++le 4 x=L2:=⟨_,rfl⟩
   have HL2:=Lib.hid hL2
   have HP:=Lib.hid (show Calls Tryz.prog 22 #[.slice A1 L'.length c1,.int .u32 (x:Int)] wr (fun e w'=>∃ A2 m2 c2,e=.returned (.slice A2 m2 c2)∧OB w' wr.heap.size 5 (.slice A2 m2 c2) L2∧Below wr.heap.size wr w') from by
    refine (put32_any L' x A1 c1 wr.heap.size wr hR (Nat.le_refl _) (by omega) HXL.out).mono ?_
    rintro e w' ⟨v2,rfl,ho2,hb2⟩
    rw [hL2] at ho2
    obtain ⟨A2,c2,rfl,-,-,-⟩:=OB.form ho2
    exact ⟨A2,_,c2,rfl,ho2,hb2⟩)
   rw [hm] at e1 hb0 HP hl1
   cases e1
   have s0:wr.cell? ⟨gb,0,none⟩=some (.slice A m c):=hb0.cell 0
   have HBQ:=Lib.hid hb0
   clear hb0 ho0 hc1 hc2 hR hm hL2
   go_wp2_with fail
   refine HP.out.mono ?_
   rintro e w2 ⟨A2,m2,c2,rfl,ho2,hb2⟩
   have HVP:=Lib.hid (HV.out.put hb2 ho2)
   have s1:w2.cell? ⟨gb,0,none⟩=some (.slice A m c):=(HBQ.out.below hb2 HBQ.out.lt).cell 0
   have s2:w2.frozen? ⟨gb,0,none⟩=false:=(HBQ.out.below hb2 HBQ.out.lt).frozen 0
   clear ho2 hb2
   go_upto_region 4 with (fail)
   generalize w2.setCell ⟨gb,0,none⟩ (.slice A2 m2 c2)=w3 at *
   clear hwp s0 s1 s2 r0
   go_wp2
   go_roundw
   case rel=>exact ⟨k+1,by go_num,hkn,by rw [flat_next HX.out,←List.append_assoc,HLQ.out,HL2.out];exact HVP.out.1,HO.out.trans HVP.out.2⟩
   case measure=>simp [Lib.intOf];omega
  ·obtain rfl:n=k:=by omega
   have hq:¬ (n:Int)<(n:Int):=by omega
   go_wp2
   go_end0
   exact ⟨rfl,by have:=HV.out;rw [List.take_of_length_le (by rw [HN.out];exact Nat.le_refl _)] at this;exact this,HO.out⟩
/-- One number; two numbers, in a row that is new. -/
theorem put1 (k:Nat)(L:List UInt8)(base gb:Nat)(W:World)(hV:BV base W gb L)(hk:k<4294967296)(hlen:L.length≤2000000000000) :
  Calls Tryz.prog 70 #[.slice (some ⟨W.heap.size,0,none⟩) 1 1,.pointer (some ⟨gb,0,none⟩)] (W.alloc (.cells #[.int .i64 (k:Int)] 3)) (PutPostB base gb (L++le 4 k) W):=by
 refine (bput_any [k] L base gb W.heap.size 1 _ rfl (hV.alloc _) (Blk.new W _ _) (by simpa using hk) (by omega) hlen).mono ?_
 rintro e w' ⟨rfl,h1,h2⟩
 exact ⟨rfl,by simpa using h1,((Only.refl gb W).alloc _).trans h2⟩
theorem put2 (k m:Nat)(L:List UInt8)(base gb:Nat)(W:World)(hV:BV base W gb L)(hk:k<4294967296)(hm:m<4294967296)(hlen:L.length≤2000000000000) :
  Calls Tryz.prog 70 #[.slice (some ⟨W.heap.size,0,none⟩) 2 2,.pointer (some ⟨gb,0,none⟩)] (W.alloc (.cells #[.int .i64 (k:Int),.int .i64 (m:Int)] 3)) (PutPostB base gb (L++(le 4 k++le 4 m)) W):=by
 refine (bput_any [k,m] L base gb W.heap.size 2 _ rfl (hV.alloc _) (Blk.new W _ _) (by simp;omega) (by omega) hlen).mono ?_
 rintro e w' ⟨rfl,h1,h2⟩
 exact ⟨rfl,by simpa using h1,((Only.refl gb W).alloc _).trans h2⟩
end
end Go.Proofs.YthdldooilcbmlaaGreatDoor
