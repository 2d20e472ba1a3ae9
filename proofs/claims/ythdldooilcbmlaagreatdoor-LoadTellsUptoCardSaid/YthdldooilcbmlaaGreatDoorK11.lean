/-
  Texts of mine, joined: LoadI, LoadAsk, LoadMod, BunRdS. The conditions stand with each.
-/
import Derived.Test.YthdldooilcbmlaaGreatDoorK06
import Derived.Test.YthdldooilcbmlaaGreatDoorK10
import Derived.LoopTactic
import Derived.Test.YthdldooilcbmlaaGreatDoorK04
set_option linter.unusedVariables false
set_option linter.unusedSimpArgs false
namespace Go.Proofs.YthdldooilcbmlaaGreatDoor
section
open Go.RowKit

def lsCells (L:List (Nat×Nat)):List Value:=L.flatMap fun x=>[.int .i64 (x.1:Int),.int .i64 (x.2:Int)]
theorem lsCells_snoc (L:List (Nat×Nat))(x:Nat×Nat):lsCells (L++[x])=lsCells L++[.int .i64 (x.1:Int),.int .i64 (x.2:Int)]:=by
 unfold lsCells
 rw [List.flatMap_append]
 simp
theorem lsCells_at {L:List (Nat×Nat)}{i:Nat}{x:Nat×Nat}(h:L[i]?=some x):(lsCells L)[i*2]?=some (.int .i64 (x.1:Int))∧(lsCells L)[i*2+1]?=some (.int .i64 (x.2:Int)):=by
 induction L generalizing i with
 | nil=>cases h
 | cons y L ih =>
  cases i with
  | zero =>
   cases h
   exact ⟨rfl,rfl⟩
  | succ i =>
   have h1:=ih (i:=i) (by simpa using h)
   have e:(i+1)*2=i*2+1+1:=by omega
   rw [e]
   exact h1
def liCells (L:List Nat):List Value:=L.map fun n:Nat=>.int .i64 (n:Int)
theorem liCells_snoc (L:List Nat)(n:Nat):liCells (L++[n])=liCells L++[.int .i64 (n:Int)]:=by unfold liCells;rw [List.map_append];rfl
theorem liCells_at {L:List Nat}{i n:Nat}(h:L[i]?=some n):(liCells L)[i]?=some (.int .i64 (n:Int)):=by unfold liCells;rw [List.getElem?_map,h];rfl
def lbCells:List (Nat×List RowI)→List Value→List Value
 | k::L,v::vs=>.int .i64 (k.1:Int)::v::lbCells L vs
 | _,_=>[]
theorem lbCells_snoc:∀(L:List (Nat×List RowI)) (vs:List Value) (k:Nat×List RowI) (v:Value),vs.length=L.length→lbCells (L++[k]) (vs++[v])=lbCells L vs++[.int .i64 (k.1:Int),v]
 | [],[],_,_,_=>rfl
 | x::L,u::vs,k,v,h=>by
  have:=lbCells_snoc L vs k v (by simpa using h)
  simp only [lbCells,List.cons_append,this]
 | [],_::_,_,_,h=>by simp at h
 | _::_,[],_,_,h=>by simp at h
theorem lbCells_at:∀(L:List (Nat×List RowI)) (vs:List Value) (i:Nat) (k:Nat×List RowI) (v:Value),L[i]?=some k→vs[i]?=some v→(lbCells L vs)[i*2]?=some (.int .i64 (k.1:Int))∧(lbCells L vs)[i*2+1]?=some v
 | x::L,u::vs,0,k,v,h1,h2=>by
  cases h1
  cases h2
  exact ⟨rfl,rfl⟩
 | x::L,u::vs,i+1,k,v,h1,h2=>by
  have h3:=lbCells_at L vs i k v (by simpa using h1) (by simpa using h2)
  have e:(i+1)*2=i*2+1+1:=by omega
  rw [e]
  exact h3
 | [],_,_,_,_,h,_=>by simp at h
 | _::_,[],_,_,_,_,h=>by simp at h
/-- A row of the call's own, at B or above, below C. -/
def RowO (W:World)(B C:Nat)(e:TypeId)(size:Nat)(v:Value)(n:Nat)(xs:List Value):Prop:=W.ownsRow B e size v n xs∧∀ k,v.ownBlock=some k→k<C
section
variable {W W':World} {B C size n:Nat} {e:TypeId} {v:Value} {xs:List Value}
theorem RowO.nil (W:World)(B C:Nat)(e:TypeId)(size:Nat):RowO W B C e size (.slice none 0 0) 0 []:=⟨World.ownsRow_nil _ _ _ _,fun k h=>by simp [Value.ownBlock] at h⟩
theorem RowO.on (h:RowO W B C e size v n xs)(hb:Below W.heap.size W W'):RowO W' B C e size v n xs:=⟨own_more h.1 hb,h.2⟩
theorem RowO.kept {row:Option Nat}(h:RowO W B C e size v n xs)(hg:W.grownBy W' row)(hr:∀ k,row=some k→k<B∨C≤k):RowO W' B C e size v n xs :=
 ⟨own_stays2 h.1 hg fun k hk e=>by have h1:=hr k e;have h2:=(h.1.lt k hk).1;have h3:=h.2 k hk;omega,h.2⟩
theorem RowO.up (h:RowO W B C e size v n xs):RowO W B W.heap.size e size v n xs:=⟨h.1,fun k hk=>(h.1.lt k hk).2⟩
theorem RowO.reads (h:RowO W B C e size v n xs):∃ A c,v=.slice A n c∧n≤c∧c≤maxLen∧Reads W W.heap.size size A n xs:=own_form h.1
end
/-- Books of the call's own. -/
def BksO (W:World)(B C:Nat)(bv:Value)(L:List (Nat×List RowI))(vs:List Value):Prop :=
 RowO W B C 76 2 bv L.length (lbCells L vs)∧vs.length=L.length∧∀(i:Nat) (k:Nat×List RowI) (kv:Value),L[i]?=some k→vs[i]?=some kv→RowO W B C 81 2 kv k.2.length (rowCells k.2)
section
variable {W W':World} {B C:Nat} {bv:Value} {L:List (Nat×List RowI)} {vs:List Value}
theorem BksO.nil (W:World)(B C:Nat):BksO W B C (.slice none 0 0) [] []:=⟨RowO.nil _ _ _ _ _,rfl,fun i k kv h=>by simp at h⟩
theorem BksO.on (h:BksO W B C bv L vs)(hb:Below W.heap.size W W'):BksO W' B C bv L vs:=⟨h.1.on hb,h.2.1,fun i k kv h1 h2=>(h.2.2 i k kv h1 h2).on hb⟩
theorem BksO.kept {row:Option Nat}(h:BksO W B C bv L vs)(hg:W.grownBy W' row)(hr:∀ k,row=some k→k<B∨C≤k):BksO W' B C bv L vs:=⟨h.1.kept hg hr,h.2.1,fun i k kv h1 h2=>(h.2.2 i k kv h1 h2).kept hg hr⟩
theorem BksO.push {bv' kv:Value}{k:Nat×List RowI}{n m:Nat}(h:BksO W B C bv L vs)(hn:L.length=n)(hr:W.ownsRow C 81 2 kv m (rowCells k.2))(hm:k.2.length=m)(hC:B≤C)(hown:W'.ownsRow B 76 2 bv' (n+1) (lbCells L vs++[.int .i64 (k.1:Int),kv]))(hg:W.grownBy W' bv.ownBlock):BksO W' B W'.heap.size bv' (L++[k]) (vs++[kv]):=by
 subst hn
 subst hm
 refine ⟨⟨by rw [lbCells_snoc L vs k kv h.2.1,List.length_append];exact hown,fun q hq=>(hown.lt q hq).2⟩,by simp [h.2.1],fun i j ku hi hj=>?_⟩
 rcases Nat.lt_or_ge i L.length with hl | hl
 ·rw [List.getElem?_append_left hl] at hi
  rw [List.getElem?_append_left (by have:=h.2.1;omega)] at hj
  exact RowO.up (C:=W'.heap.size) ⟨own_stays ((h.2.2 i j ku hi hj).1) h.1.1 (by decide) hg,fun q hq=>Nat.lt_of_lt_of_le ((h.2.2 i j ku hi hj).1.lt q hq).2 hg.size⟩
 ·rw [List.getElem?_append_right hl] at hi
  rw [List.getElem?_append_right (by have:=h.2.1;omega)] at hj
  have h0:i-L.length=0:=by
   have:=(List.getElem?_eq_some_iff.1 hi).1
   simp at this
   omega
  rw [h0] at hi
  rw [show i-vs.length=0 by have:=h.2.1;omega] at hj
  cases hi
  cases hj
  have h3:=own_base (own_stays hr h.1.1 (by decide) hg) hC
  exact ⟨h3,fun q hq=>(h3.lt q hq).2⟩
end
theorem only_new {gx g:Nat}{w W W':World}(h:Only gx w W)(hO:Only g W W')(hg:w.heap.size≤g):Only gx w W':=by
 refine ⟨hO.os.trans h.os,hO.tape.trans h.tape,hO.output.trans h.output,Nat.le_trans h.size hO.size,fun b hb hne=>?_⟩
 rw [hO.block b (Nat.lt_of_lt_of_le hb h.size) (fun e=>by cases e;omega)]
 exact h.block b hb hne
theorem only_row {gx:Nat}{w W W':World}{row:Option Nat}(h:Only gx w W)(hO:W.grownBy W' row)(hg:∀ k,row=some k→w.heap.size≤k∨k=gx):Only gx w W':=by
 refine ⟨hO.os.trans h.os,hO.tape.trans h.tape,hO.output.trans h.output,Nat.le_trans h.size hO.size,fun b hb hne=>?_⟩
 rw [hO.block b (Nat.lt_of_lt_of_le hb h.size) (fun e=>?_)]
 ·exact h.block b hb hne
 ·rcases hg b e.symm with h1 | rfl
  ·omega
  ·exact hne rfl
theorem reads_far {w:World}{B size n gx j:Nat}{A:Option Addr}{xs:List Value}(h:Reads w B size A n xs)(hA:∀ a,A=some a→gx<a.block)(u:Value):Reads (w.setCell ⟨gx,j,none⟩ u) B size A n xs :=
 ⟨h.1,fun hn=>by
  obtain ⟨ad,e,hb,hc⟩:=h.2 hn
  exact ⟨ad,e,hb,fun k v hu=>(World.cell?_setCell_other w ⟨gx,j,none⟩ _ u (fun e2=>by
   have h1:=hA ad e
   have h2:=congrArg Addr.block e2
   rw [block_of_add] at h2
   simp only at h2
   omega)).trans (hc k v hu)⟩⟩
/-- The loader's index under way: its block, the reader, the reader's holder. -/
def LdI (w W:World)(gx gr g c:Nat)(A:Option Addr)(l:List UInt8)(s:RS)(cs:Array Value):Prop :=
 (Only gx w W∧∀ a,A=some a→gx<a.block)∧(gx<w.heap.size∧w.heap.size≤g∧g<gr∧gr<W.heap.size)∧Blk W gx 67 cs∧RdS W g A c l s∧Blk W gr 104 #[.pointer (some ⟨g,0,none⟩)]
section
variable {w W W':World} {gx gr g c:Nat} {A:Option Addr} {l:List UInt8} {s:RS} {cs:Array Value}
theorem LdI.on (h:LdI w W gx gr g c A l s cs)(hb:Below W.heap.size W W'):LdI w W' gx gr g c A l s cs :=
 ⟨⟨h.1.1.trans ((Only.of_below hb)),h.1.2⟩,⟨h.2.1.1,h.2.1.2.1,h.2.1.2.2.1,Nat.lt_of_lt_of_le h.2.1.2.2.2 hb.size⟩,h.2.2.1.below hb h.2.2.1.lt,h.2.2.2.1.on hb,h.2.2.2.2.below hb h.2.2.2.2.lt⟩
theorem LdI.read {s':RS}(h:LdI w W gx gr g c A l s cs)(hO:Only g W W')(hR:RdS W' g A c l s'):LdI w W' gx gr g c A l s' cs :=
 ⟨⟨only_new h.1.1 hO h.2.1.2.1,h.1.2⟩,⟨h.2.1.1,h.2.1.2.1,h.2.1.2.2.1,Nat.lt_of_lt_of_le h.2.1.2.2.2 hO.size⟩,h.2.2.1.grown hO (fun e=>by cases e;have:=h.2.1;omega),hR,h.2.2.2.2.grown hO (fun e=>by cases e;have:=h.2.1;omega)⟩
theorem LdI.turn {row:Option Nat}(h:LdI w W gx gr g c A l s cs)(hg:W.grownBy W' row)(hr:∀ k,row=some k→gr<k):LdI w W' gx gr g c A l s cs :=
 ⟨⟨only_row h.1.1 hg (fun k e=>.inl (by have:=hr k e;have:=h.2.1;omega)),h.1.2⟩,⟨h.2.1.1,h.2.1.2.1,h.2.1.2.2.1,Nat.lt_of_lt_of_le h.2.1.2.2.2 hg.size⟩,h.2.2.1.grown hg (fun e=>by have:=hr gx e.symm;have:=h.2.1;omega),h.2.2.2.1.grown hg (fun k e=>by have:=hr k e;have:=h.2.1;omega),h.2.2.2.2.grown hg (fun e=>by have:=hr gr e.symm;omega)⟩
theorem LdI.set (h:LdI w W gx gr g c A l s cs)(j:Nat)(v:Value):LdI w (W.setCell ⟨gx,j,none⟩ v) gx gr g c A l s (cs.setIfInBounds j v):=by
 have hs:=grown_set W gx j v
 have hx:=h.2.1
 exact ⟨⟨only_row h.1.1 hs (fun k e=>by cases e;exact .inr rfl),h.1.2⟩,⟨hx.1,hx.2.1,hx.2.2.1,by simpa [World.setCell] using hx.2.2.2⟩,h.2.2.1.set_ j v,by
  have hR:=h.2.2.2.1
  exact ⟨hR.blk.grown hs (fun e=>by cases e;omega),reads_far hR.rb h.1.2 v,hR.lc,hR.cm,hR.le⟩,h.2.2.2.2.grown hs (fun e=>by cases e;omega)⟩
end
/-- .. with the texts read, and the mark whether all numbers have been small enough. -/
def LdT (w W:World)(gx gr g c:Nat)(A:Option Addr)(l:List UInt8)(s:RS)(cs:Array Value)(gok:Nat)(b:Bool)(tv:Value)(nT:Nat)(LT:List (Nat×Nat)):Prop :=
 LdI w W gx gr g c A l s cs∧RowO W (gr+1) gok 108 2 tv nT (lsCells LT)∧Blk W gok 4 #[.bool b]∧gr<gok∧gok<W.heap.size
section
variable {w W W':World} {gx gr g c gok nT:Nat} {A:Option Addr} {l:List UInt8} {s:RS} {cs:Array Value} {b:Bool} {tv:Value} {LT:List (Nat×Nat)}
theorem LdT.on (h:LdT w W gx gr g c A l s cs gok b tv nT LT)(hb:Below W.heap.size W W'):LdT w W' gx gr g c A l s cs gok b tv nT LT:=⟨h.1.on hb,h.2.1.on hb,h.2.2.1.below hb h.2.2.1.lt,h.2.2.2.1,Nat.lt_of_lt_of_le h.2.2.2.2 hb.size⟩
theorem LdT.read {s':RS}(h:LdT w W gx gr g c A l s cs gok b tv nT LT)(hO:Only g W W')(hR:RdS W' g A c l s'):LdT w W' gx gr g c A l s' cs gok b tv nT LT :=
 ⟨h.1.read hO hR,h.2.1.kept hO (fun k e=>by cases e;have:=h.1.2.1;exact .inl (by omega)),h.2.2.1.grown hO (fun e=>by cases e;have:=h.1.2.1;have:=h.2.2.2.1;omega),h.2.2.2.1,Nat.lt_of_lt_of_le h.2.2.2.2 hO.size⟩
theorem LdT.turn {row:Option Nat}(h:LdT w W gx gr g c A l s cs gok b tv nT LT)(hg:W.grownBy W' row)(hr:∀ k,row=some k→gok<k):LdT w W' gx gr g c A l s cs gok b tv nT LT :=
 ⟨h.1.turn hg (fun k e=>Nat.lt_trans h.2.2.2.1 (hr k e)),h.2.1.kept hg (fun k e=>.inr (Nat.le_of_lt (hr k e))),h.2.2.1.grown hg (fun e=>Nat.lt_irrefl _ (hr gok e.symm)),h.2.2.2.1,Nat.lt_of_lt_of_le h.2.2.2.2 hg.size⟩
theorem LdT.set (h:LdT w W gx gr g c A l s cs gok b tv nT LT)(j:Nat)(v:Value):LdT w (W.setCell ⟨gx,j,none⟩ v) gx gr g c A l s (cs.setIfInBounds j v) gok b tv nT LT:=by
 have hs:=grown_set W gx j v
 have hx:=h.1.2.1
 exact ⟨h.1.set j v,h.2.1.kept hs (fun k e=>by cases e;exact .inl (by omega)),h.2.2.1.grown hs (fun e=>by cases e;have:=h.2.2.2.1;omega),h.2.2.2.1,by simpa [World.setCell] using h.2.2.2.2⟩
theorem LdT.say (h:LdT w W gx gr g c A l s cs gok b tv nT LT)(b':Bool):LdT w (W.setCell ⟨gok,0,none⟩ (.bool b')) gx gr g c A l s cs gok b' tv nT LT:=by
 have hs:=grown_set W gok 0 (.bool b')
 exact ⟨h.1.turn hs (fun k e=>by cases e;exact h.2.2.2.1),h.2.1.kept hs (fun k e=>by cases e;exact .inr (Nat.le_refl _)),h.2.2.1.set_ 0 _,h.2.2.2.1,by simpa [World.setCell] using h.2.2.2.2⟩
end
/-- .. with the paths read. -/
def LdP (w W:World)(gx gr g c:Nat)(A:Option Addr)(l:List UInt8)(s:RS)(cs:Array Value)(gok:Nat)(b:Bool)(tv:Value)(nT:Nat)(LT:List (Nat×Nat))(pv:Value)(nP:Nat)(LP:List Nat)(CP:Nat):Prop :=
 LdT w W gx gr g c A l s cs gok b tv nT LT∧RowO W (gok+1) CP 3 1 pv nP (liCells LP)∧gok<CP∧CP≤W.heap.size
section
variable {w W W':World} {gx gr g c gok nT nP CP:Nat} {A:Option Addr} {l:List UInt8} {s:RS} {cs:Array Value} {b:Bool} {tv pv:Value} {LT:List (Nat×Nat)} {LP:List Nat}
theorem LdP.on (h:LdP w W gx gr g c A l s cs gok b tv nT LT pv nP LP CP)(hb:Below W.heap.size W W'):LdP w W' gx gr g c A l s cs gok b tv nT LT pv nP LP CP:=⟨h.1.on hb,h.2.1.on hb,h.2.2.1,Nat.le_trans h.2.2.2 hb.size⟩
theorem LdP.read {s':RS}(h:LdP w W gx gr g c A l s cs gok b tv nT LT pv nP LP CP)(hO:Only g W W')(hR:RdS W' g A c l s'):LdP w W' gx gr g c A l s' cs gok b tv nT LT pv nP LP CP :=
 ⟨h.1.read hO hR,h.2.1.kept hO (fun k e=>by cases e;have:=h.1.1.2.1;have:=h.1.2.2.2.1;exact .inl (by omega)),h.2.2.1,Nat.le_trans h.2.2.2 hO.size⟩
theorem LdP.turn {row:Option Nat}(h:LdP w W gx gr g c A l s cs gok b tv nT LT pv nP LP CP)(hg:W.grownBy W' row)(hr:∀ k,row=some k→CP≤k):LdP w W' gx gr g c A l s cs gok b tv nT LT pv nP LP CP :=
 ⟨h.1.turn hg (fun k e=>Nat.lt_of_lt_of_le h.2.2.1 (hr k e)),h.2.1.kept hg (fun k e=>.inr (hr k e)),h.2.2.1,Nat.le_trans h.2.2.2 hg.size⟩
theorem LdP.set (h:LdP w W gx gr g c A l s cs gok b tv nT LT pv nP LP CP)(j:Nat)(v:Value):LdP w (W.setCell ⟨gx,j,none⟩ v) gx gr g c A l s (cs.setIfInBounds j v) gok b tv nT LT pv nP LP CP :=
 ⟨h.1.set j v,h.2.1.kept (grown_set W gx j v) (fun k e=>by cases e;have:=h.1.1.2.1;have:=h.1.2.2.2.1;exact .inl (by omega)),h.2.2.1,by simpa [World.setCell] using h.2.2.2⟩
theorem LdP.say (h:LdP w W gx gr g c A l s cs gok b tv nT LT pv nP LP CP)(b':Bool):LdP w (W.setCell ⟨gok,0,none⟩ (.bool b')) gx gr g c A l s cs gok b' tv nT LT pv nP LP CP :=
 ⟨h.1.say b',h.2.1.kept (grown_set W gok 0 (.bool b')) (fun k e=>by cases e;exact .inl (Nat.lt_succ_self _)),h.2.2.1,by simpa [World.setCell] using h.2.2.2⟩
end
/-- .. with the tables read. -/
def LdX (w W:World)(gx gr g c:Nat)(A:Option Addr)(l:List UInt8)(s:RS)(cs:Array Value)(gok:Nat)(b:Bool)(tv:Value)(nT:Nat)(LT:List (Nat×Nat))(pv:Value)(nP:Nat)(LP:List Nat)(CP:Nat)(xv:Value)(nX:Nat)(LX:List (Nat×Nat))(CX:Nat):Prop :=
 LdP w W gx gr g c A l s cs gok b tv nT LT pv nP LP CP∧RowO W CP CX 108 2 xv nX (lsCells LX)∧CP≤CX∧CX≤W.heap.size
section
variable {w W W':World} {gx gr g c gok nT nP CP nX CX:Nat} {A:Option Addr} {l:List UInt8} {s:RS} {cs:Array Value} {b:Bool} {tv pv xv:Value} {LT LX:List (Nat×Nat)} {LP:List Nat}
theorem LdX.on (h:LdX w W gx gr g c A l s cs gok b tv nT LT pv nP LP CP xv nX LX CX)(hb:Below W.heap.size W W'):LdX w W' gx gr g c A l s cs gok b tv nT LT pv nP LP CP xv nX LX CX:=⟨h.1.on hb,h.2.1.on hb,h.2.2.1,Nat.le_trans h.2.2.2 hb.size⟩
theorem LdX.read {s':RS}(h:LdX w W gx gr g c A l s cs gok b tv nT LT pv nP LP CP xv nX LX CX)(hO:Only g W W')(hR:RdS W' g A c l s'):LdX w W' gx gr g c A l s' cs gok b tv nT LT pv nP LP CP xv nX LX CX :=
 ⟨h.1.read hO hR,h.2.1.kept hO (fun k e=>by cases e;have:=h.1.1.1.2.1;have:=h.1.1.2.2.2.1;have:=h.1.2.2.1;exact .inl (by omega)),h.2.2.1,Nat.le_trans h.2.2.2 hO.size⟩
theorem LdX.turn {row:Option Nat}(h:LdX w W gx gr g c A l s cs gok b tv nT LT pv nP LP CP xv nX LX CX)(hg:W.grownBy W' row)(hr:∀ k,row=some k→CX≤k):LdX w W' gx gr g c A l s cs gok b tv nT LT pv nP LP CP xv nX LX CX :=
 ⟨h.1.turn hg (fun k e=>Nat.le_trans h.2.2.1 (hr k e)),h.2.1.kept hg (fun k e=>.inr (hr k e)),h.2.2.1,Nat.le_trans h.2.2.2 hg.size⟩
theorem LdX.set (h:LdX w W gx gr g c A l s cs gok b tv nT LT pv nP LP CP xv nX LX CX)(j:Nat)(v:Value):LdX w (W.setCell ⟨gx,j,none⟩ v) gx gr g c A l s (cs.setIfInBounds j v) gok b tv nT LT pv nP LP CP xv nX LX CX :=
 ⟨h.1.set j v,h.2.1.kept (grown_set W gx j v) (fun k e=>by cases e;have:=h.1.1.1.2.1;have:=h.1.1.2.2.2.1;have:=h.1.2.2.1;exact .inl (by omega)),h.2.2.1,by simpa [World.setCell] using h.2.2.2⟩
theorem LdX.say (h:LdX w W gx gr g c A l s cs gok b tv nT LT pv nP LP CP xv nX LX CX)(b':Bool):LdX w (W.setCell ⟨gok,0,none⟩ (.bool b')) gx gr g c A l s cs gok b' tv nT LT pv nP LP CP xv nX LX CX :=
 ⟨h.1.say b',h.2.1.kept (grown_set W gok 0 (.bool b')) (fun k e=>by cases e;have:=h.1.2.2.1;exact .inl (by omega)),h.2.2.1,by simpa [World.setCell] using h.2.2.2⟩
end
/-- A Book's block that may have been made already, at C or above. -/
def BkNew (W:World)(C:Nat):Option Nat→Prop
 | none=>True
 | some k=>Blk W k 76 #[.int .i64 0,.slice none 0 0]∧C≤k
theorem BkNew.kept {W W':World}{C g:Nat}{o:Option Nat}(h:BkNew W C o)(hO:W.grownBy W' (some g))(hg:g<C):BkNew W' C o:=by
 cases o with
 | none=>trivial
 | some k=>exact ⟨h.1.grown hO (fun e=>by cases e;have:=h.2;omega),h.2⟩
/-- .. with Books read, below C, and a Book's block that may have been made. -/
def LdK (w W:World)(gx gr g c:Nat)(A:Option Addr)(l:List UInt8)(s:RS)(cs:Array Value)(gok:Nat)(b:Bool)(tv:Value)(nT:Nat)(LT:List (Nat×Nat))(pv:Value)(nP:Nat)(LP:List Nat)(CP:Nat)(xv:Value)(nX:Nat)(LX:List (Nat×Nat))(CX:Nat)(bv:Value)(LB:List (Nat×List RowI))(vs:List Value)(C:Nat)(o:Option Nat):Prop :=
 LdX w W gx gr g c A l s cs gok b tv nT LT pv nP LP CP xv nX LX CX∧BksO W CX C bv LB vs∧BkNew W C o∧CX≤C∧C≤W.heap.size
section
variable {w W W':World} {gx gr g c gok nT nP CP nX CX C:Nat} {A:Option Addr} {l:List UInt8} {s:RS} {cs:Array Value} {b:Bool} {tv pv xv bv:Value} {LT LX:List (Nat×Nat)} {LP:List Nat} {LB:List (Nat×List RowI)} {vs:List Value} {o:Option Nat}
theorem LdX.order (h:LdX w W gx gr g c A l s cs gok b tv nT LT pv nP LP CP xv nX LX CX):gx<w.heap.size∧w.heap.size≤g∧g<gr∧gr<gok∧gok<CP∧CP≤CX∧CX≤W.heap.size:=⟨h.1.1.1.2.1.1,h.1.1.1.2.1.2.1,h.1.1.1.2.1.2.2.1,h.1.1.2.2.2.1,h.1.2.2.1,h.2.2.1,h.2.2.2⟩
theorem LdK.read {s':RS}(h:LdK w W gx gr g c A l s cs gok b tv nT LT pv nP LP CP xv nX LX CX bv LB vs C o)(hO:Only g W W')(hR:RdS W' g A c l s'):LdK w W' gx gr g c A l s' cs gok b tv nT LT pv nP LP CP xv nX LX CX bv LB vs C o:=by
 have ho:=h.1.order
 have hc:=h.2.2.2.1
 exact ⟨h.1.read hO hR,h.2.1.kept hO (fun k e=>by cases e;exact .inl (by omega)),h.2.2.1.kept hO (by omega),hc,Nat.le_trans h.2.2.2.2 hO.size⟩
theorem LdK.say (h:LdK w W gx gr g c A l s cs gok b tv nT LT pv nP LP CP xv nX LX CX bv LB vs C o)(b':Bool):LdK w (W.setCell ⟨gok,0,none⟩ (.bool b')) gx gr g c A l s cs gok b' tv nT LT pv nP LP CP xv nX LX CX bv LB vs C o:=by
 have ho:=h.1.order
 have hc:=h.2.2.2.1
 have hs:=grown_set W gok 0 (.bool b')
 exact ⟨h.1.say b',h.2.1.kept hs (fun k e=>by cases e;exact .inl (by omega)),h.2.2.1.kept hs (by omega),hc,by simpa [World.setCell] using h.2.2.2.2⟩
theorem LdK.made (h:LdK w W gx gr g c A l s cs gok b tv nT LT pv nP LP CP xv nX LX CX bv LB vs C none):LdK w (W.alloc (.cells #[.int .i64 0,.slice none 0 0] 76)) gx gr g c A l s cs gok b tv nT LT pv nP LP CP xv nX LX CX bv LB vs C (some W.heap.size):=by
 have hba:=(Below.refl W.heap.size W).alloc (Nat.le_refl _) (.cells #[.int .i64 0,.slice none 0 0] 76)
 exact ⟨h.1.on hba,h.2.1.on hba,⟨Blk.new W _ _,h.2.2.2.2⟩,h.2.2.2.1,Nat.le_trans h.2.2.2.2 hba.size⟩
theorem BkNew.cells {W:World}{C k:Nat}(h:BkNew W C (some k)):W.cell? ⟨k,0,none⟩=some (.int .i64 0)∧W.cell? ⟨k,1,none⟩=some (.slice none 0 0)∧W.frozen? ⟨k,0,none⟩=false∧W.frozen? ⟨k,1,none⟩=false:=⟨h.1.cell 0,h.1.cell 1,h.1.frozen 0,h.1.frozen 1⟩
theorem LdK.new (h:LdK w W gx gr g c A l s cs gok b tv nT LT pv nP LP CP xv nX LX CX bv LB vs C none)(u:Value):LdX w (W.alloc (.cells #[u,.slice none 0 0] 76)) gx gr g c A l s cs gok b tv nT LT pv nP LP CP xv nX LX CX∧BksO (W.alloc (.cells #[u,.slice none 0 0] 76)) CX C bv LB vs∧Blk (W.alloc (.cells #[u,.slice none 0 0] 76)) W.heap.size 76 #[u,.slice none 0 0]∧CX≤C∧C≤W.heap.size:=by
 have hba:=(Below.refl W.heap.size W).alloc (Nat.le_refl _) (.cells #[u,.slice none 0 0] 76)
 exact ⟨h.1.on hba,h.2.1.on hba,Blk.new W _ _,h.2.2.2.1,h.2.2.2.2⟩
/-- The Book's block written. -/
theorem LdK.put {k:Nat}(h:LdK w W gx gr g c A l s cs gok b tv nT LT pv nP LP CP xv nX LX CX bv LB vs C (some k))(u:Value):LdX w ((W.setCell ⟨k,0,none⟩ u).setCell ⟨k,1,none⟩ (.slice none 0 0)) gx gr g c A l s cs gok b tv nT LT pv nP LP CP xv nX LX CX∧BksO ((W.setCell ⟨k,0,none⟩ u).setCell ⟨k,1,none⟩ (.slice none 0 0)) CX C bv LB vs∧Blk ((W.setCell ⟨k,0,none⟩ u).setCell ⟨k,1,none⟩ (.slice none 0 0)) k 76 #[u,.slice none 0 0]∧CX≤C∧C≤k:=by
 obtain ⟨h1,h2,⟨h3,h4⟩,h5,h6⟩:=h
 have s1:=grown_set W k 0 u
 have s2:=grown_set (W.setCell ⟨k,0,none⟩ u) k 1 (.slice none 0 0)
 exact ⟨(h1.turn s1 (fun q e=>by cases e;omega)).turn s2 (fun q e=>by cases e;omega),(h2.kept s1 (fun q e=>by cases e;exact .inr h4)).kept s2 (fun q e=>by cases e;exact .inr h4),(h3.set_ 0 u).set_ 1 _,h5,h4⟩
end
/-- .. with a Book under way. -/
def LdG (w W:World)(gx gr g c:Nat)(A:Option Addr)(l:List UInt8)(s:RS)(cs:Array Value)(gok:Nat)(b:Bool)(tv:Value)(nT:Nat)(LT:List (Nat×Nat))(pv:Value)(nP:Nat)(LP:List Nat)(CP:Nat)(xv:Value)(nX:Nat)(LX:List (Nat×Nat))(CX:Nat)(bv:Value)(LB:List (Nat×List RowI))(vs:List Value)(C gbk:Nat)(nm gv:Value)(j:Nat)(rs:List RowI):Prop :=
 LdX w W gx gr g c A l s cs gok b tv nT LT pv nP LP CP xv nX LX CX∧BksO W CX C bv LB vs∧Blk W gbk 76 #[nm,gv]∧W.ownsRow (gbk+1) 81 2 gv j (rowCells rs)∧CX≤C∧C≤gbk
section
variable {w W W':World} {gx gr g c gok nT nP CP nX CX C gbk j:Nat} {A:Option Addr} {l:List UInt8} {s:RS} {cs:Array Value} {b:Bool} {tv pv xv bv nm gv:Value} {LT LX:List (Nat×Nat)} {LP:List Nat} {LB:List (Nat×List RowI)} {vs:List Value} {rs:List RowI}
theorem LdG.on (h:LdG w W gx gr g c A l s cs gok b tv nT LT pv nP LP CP xv nX LX CX bv LB vs C gbk nm gv j rs)(hb:Below W.heap.size W W'):LdG w W' gx gr g c A l s cs gok b tv nT LT pv nP LP CP xv nX LX CX bv LB vs C gbk nm gv j rs:=⟨h.1.on hb,h.2.1.on hb,h.2.2.1.below hb h.2.2.1.lt,own_more h.2.2.2.1 hb,h.2.2.2.2⟩
theorem LdG.read {s':RS}(h:LdG w W gx gr g c A l s cs gok b tv nT LT pv nP LP CP xv nX LX CX bv LB vs C gbk nm gv j rs)(hO:Only g W W')(hR:RdS W' g A c l s'):LdG w W' gx gr g c A l s' cs gok b tv nT LT pv nP LP CP xv nX LX CX bv LB vs C gbk nm gv j rs:=by
 have ho:=h.1.order
 have hc:=h.2.2.2.2
 exact ⟨h.1.read hO hR,h.2.1.kept hO (fun k e=>by cases e;exact .inl (by omega)),h.2.2.1.grown hO (fun e=>by cases e;omega),own_stays2 h.2.2.2.1 hO (fun q hq e=>by cases e;have:=(h.2.2.2.1.lt _ hq).1;omega),hc⟩
theorem LdG.say (h:LdG w W gx gr g c A l s cs gok b tv nT LT pv nP LP CP xv nX LX CX bv LB vs C gbk nm gv j rs)(b':Bool):LdG w (W.setCell ⟨gok,0,none⟩ (.bool b')) gx gr g c A l s cs gok b' tv nT LT pv nP LP CP xv nX LX CX bv LB vs C gbk nm gv j rs:=by
 have ho:=h.1.order
 have hc:=h.2.2.2.2
 have hs:=grown_set W gok 0 (.bool b')
 exact ⟨h.1.say b',h.2.1.kept hs (fun k e=>by cases e;exact .inl (by omega)),h.2.2.1.grown hs (fun e=>by cases e;omega),own_stays2 h.2.2.2.1 hs (fun q hq e=>by cases e;have:=(h.2.2.2.1.lt _ hq).1;omega),hc⟩
/-- A group more. -/
theorem LdG.put {gv':Value}{x y:Int}(h:LdG w W gx gr g c A l s cs gok b tv nT LT pv nP LP CP xv nX LX CX bv LB vs C gbk nm gv j rs)(hown:W'.ownsRow (gbk+1) 81 2 gv' (j+1) (rowCells rs++[.int .u32 x,.int .u32 y]))(hg:W.grownBy W' gv.ownBlock) :
  LdG w (W'.setCell ⟨gbk,1,none⟩ gv') gx gr g c A l s cs gok b tv nT LT pv nP LP CP xv nX LX CX bv LB vs C gbk nm gv' (j+1) (rs++[(x,y)]):=by
 have ho:=h.1.order
 have hc:=h.2.2.2.2
 have hu:=fun k e=>(h.2.2.2.1.lt k e).1
 have hs:=grown_set W' gbk 1 gv'
 refine ⟨(h.1.turn hg (fun k e=>by have:=hu k e;omega)).turn hs (fun k e=>by cases e;omega),(h.2.1.kept hg (fun k e=>.inr (by have:=hu k e;omega))).kept hs (fun k e=>by cases e;exact .inr (by omega)),(h.2.2.1.grown hg (fun e=>by have:=hu gbk e.symm;omega)).set_ 1 gv',?_,hc⟩
 rw [rowCells_append]
 exact own_stays2 hown hs (fun q hq e=>by cases e;have:=(hown.lt _ hq).1;omega)
/-- The Book is done. -/
theorem LdG.done {bv':Value}{i na:Nat}(h:LdG w W gx gr g c A l s cs gok b tv nT LT pv nP LP CP xv nX LX CX bv LB vs C gbk (.int .i64 (na:Int)) gv j rs)(hi:LB.length=i)(hj:rs.length=j)(hown:W'.ownsRow CX 76 2 bv' (i+1) (lbCells LB vs++[.int .i64 (na:Int),gv]))(hg:W.grownBy W' bv.ownBlock) :
  LdX w (W'.setCell ⟨gx,4,none⟩ bv') gx gr g c A l s (cs.setIfInBounds 4 bv') gok b tv nT LT pv nP LP CP xv nX LX CX∧BksO (W'.setCell ⟨gx,4,none⟩ bv') CX (W'.setCell ⟨gx,4,none⟩ bv').heap.size bv' (LB++[(na,rs)]) (vs++[gv]):=by
 have ho:=h.1.order
 have hc:=h.2.2.2.2
 have hu:=fun k e=>(h.2.1.1.1.lt k e).1
 have hs:=grown_set W' gx 4 bv'
 have hp:=h.2.1.push (k:=(na,rs)) hi (own_base h.2.2.2.1 (by omega)) hj hc.1 hown hg
 have hz:(W'.setCell ⟨gx,4,none⟩ bv').heap.size=W'.heap.size:=by simp [World.setCell]
 exact ⟨(h.1.turn hg (fun k e=>hu k e)).set 4 bv',by rw [hz];exact hp.kept hs (fun k e=>by cases e;exact .inl (by omega))⟩
end
/-- The loader's index in memory, to be read. -/
def IdxAt (W:World)(gx:Nat)(l:List UInt8)(i:IdxM):Prop:=∃(Ab At Ap Ax Ak:Option Addr) (cb ct cp cx ck:Nat) (vs:List Value),
 Blk W gx 67 #[.slice Ab l.length cb,.slice At i.texts.length ct,.slice Ap i.paths.length cp,.slice Ax i.tabs.length cx,.slice Ak i.books.length ck] ∧
 (l.length≤cb∧cb≤maxLen∧RB W W.heap.size Ab l)∧(i.texts.length≤ct∧ct≤maxLen∧Reads W W.heap.size 2 At i.texts.length (lsCells i.texts))∧(i.paths.length≤cp∧cp≤maxLen∧Reads W W.heap.size 1 Ap i.paths.length (liCells i.paths)) ∧
 (i.tabs.length≤cx∧cx≤maxLen∧Reads W W.heap.size 2 Ax i.tabs.length (lsCells i.tabs))∧(i.books.length≤ck∧ck≤maxLen∧Reads W W.heap.size 2 Ak i.books.length (lbCells i.books vs))∧vs.length=i.books.length ∧
 ∀(j:Nat) (k:Nat×List RowI) (kv:Value),i.books[j]?=some k→vs[j]?=some kv→RowsR W W.heap.size kv k.2
def ReadPost (gx:Nat)(l:List UInt8)(w:World)(e:Ending)(w':World):Prop:=e=.returned (.bool (readOk l))∧Only gx w w'∧(readOk l=true→IdxAt w' gx l (idxM l))
/-- What read has read, as an index. -/
theorem LdX.idx {w W:World}{gx gr g c c1 n gok nT nP CP nX CX C:Nat}{A A1:Option Addr}{l:List UInt8}{s:RS}{b:Bool}{tv pv xv bv:Value}{LT LX:List (Nat×Nat)}{LP:List Nat}{LB:List (Nat×List RowI)}{vs:List Value}
  (h:LdX w W gx gr g c A l s #[.slice A1 n c1,tv,pv,xv,bv] gok b tv nT LT pv nP LP CP xv nX LX CX)(hO:BksO W CX C bv LB vs)(hob:OB w (gx+1) 5 (.slice A1 n c1) l)(hn:l.length=n)(hT:LT.length=nT)(hP:LP.length=nP)(hX:LX.length=nX):IdxAt W gx l ⟨LT,LP,LX,LB⟩:=by
 subst hn hT hP hX
 have h1:OB W (gx+1) 5 (.slice A1 l.length c1) l:=own_stays2 hob h.1.1.1.1.1 (fun k hk e=>by cases e;have:=(hob.lt _ hk).1;omega)
 obtain ⟨A',c',e1,b1,b2,b3⟩:=h1.form
 obtain ⟨At,ct,e2,t1,t2,t3⟩:=h.1.1.2.1.reads
 obtain ⟨Ap,cp,e3,p1,p2,p3⟩:=h.1.2.1.reads
 obtain ⟨Ax,cx,e4,x1,x2,x3⟩:=h.2.1.reads
 obtain ⟨Ak,ck,e5,k1,k2,k3⟩:=hO.1.reads
 have hB:=h.1.1.1.2.2.1
 rw [e1,e2,e3,e4,e5] at hB
 refine ⟨A',At,Ap,Ax,Ak,c',ct,cp,cx,ck,vs,hB,⟨b1,b2,b3⟩,⟨t1,t2,t3⟩,⟨p1,p2,p3⟩,⟨x1,x2,x3⟩,⟨k1,k2,k3⟩,hO.2.1,fun j k kv hj hk=>?_⟩
 obtain ⟨A2,c2,e6,a1,a2,a3⟩:=(hO.2.2 j k kv hj hk).reads
 exact ⟨A2,c2,e6,a1,a2,a3⟩
end
section
open Go.RowKit

theorem IdxAt.on {W W':World}{gx:Nat}{l:List UInt8}{i:IdxM}(h:IdxAt W gx l i)(hb:Below W.heap.size W W'):IdxAt W' gx l i:=by
 obtain ⟨Ab,At,Ap,Ax,Ak,cb,ct,cp,cx,ck,vs,h1,⟨b1,b2,b3⟩,⟨t1,t2,t3⟩,⟨p1,p2,p3⟩,⟨x1,x2,x3⟩,⟨k1,k2,k3⟩,h7,h8⟩:=h
 exact ⟨Ab,At,Ap,Ax,Ak,cb,ct,cp,cx,ck,vs,h1.below hb h1.lt,⟨b1,b2,(b3.below hb).more hb.size⟩,⟨t1,t2,(t3.below hb).more hb.size⟩,⟨p1,p2,(p3.below hb).more hb.size⟩,⟨x1,x2,(x3.below hb).more hb.size⟩,⟨k1,k2,(k3.below hb).more hb.size⟩,h7,fun j k kv hj hk=>by
  obtain ⟨A,c,e,a1,a2,a3⟩:=h8 j k kv hj hk
  exact ⟨A,c,e,a1,a2,(a3.below hb).more hb.size⟩⟩
/-- Where a table stands. -/
theorem IdxAt.tab {W:World}{gx:Nat}{l:List UInt8}{i:IdxM}(h:IdxAt W gx l i){t:Nat}{x:Nat×Nat}(hx:i.tabs[t]?=some x):∃(nX bx ox cx:Nat),t<nX∧∀ W',Below W.heap.size W W'→W'.cell? ⟨gx,3,none⟩=some (.slice (some ⟨bx,ox,none⟩) nX cx)∧W'.cell? ⟨bx,ox+t*2,none⟩=some (.int .i64 (x.1:Int))∧W'.cell? ⟨bx,ox+t*2+1,none⟩=some (.int .i64 (x.2:Int)):=by
 obtain ⟨Ab,At,Ap,Ax,Ak,cb,ct,cp,cx,ck,vs,h1,-,-,-,⟨x1,x2,x3⟩,-,-,-⟩:=h
 have ht:=(List.getElem?_eq_some_iff.1 hx).1
 obtain ⟨bx,ox,rfl,hb,hc⟩:=x3.spot (by omega) (by omega)
 have hat:=lsCells_at hx
 exact ⟨_,bx,ox,cx,ht,fun W' hW=>⟨(h1.below hW h1.lt).cell 3,(hW.cell (p:=⟨bx,ox+t*2,none⟩) hb).trans (hc _ _ hat.1),(hW.cell (p:=⟨bx,ox+t*2+1,none⟩) hb).trans (hc _ _ hat.2)⟩⟩
/-- Where a text stands. -/
theorem IdxAt.txt {W:World}{gx:Nat}{l:List UInt8}{i:IdxM}(h:IdxAt W gx l i){t:Nat}{x:Nat×Nat}(hx:i.texts[t]?=some x):∃(nX bx ox cx:Nat),t<nX∧∀ W',Below W.heap.size W W'→W'.cell? ⟨gx,1,none⟩=some (.slice (some ⟨bx,ox,none⟩) nX cx)∧W'.cell? ⟨bx,ox+t*2,none⟩=some (.int .i64 (x.1:Int))∧W'.cell? ⟨bx,ox+t*2+1,none⟩=some (.int .i64 (x.2:Int)):=by
 obtain ⟨Ab,At,Ap,Ax,Ak,cb,ct,cp,cx,ck,vs,h1,-,⟨x1,x2,x3⟩,-,-,-,-,-⟩:=h
 have ht:=(List.getElem?_eq_some_iff.1 hx).1
 obtain ⟨bx,ox,rfl,hb,hc⟩:=x3.spot (by omega) (by omega)
 have hat:=lsCells_at hx
 exact ⟨_,bx,ox,ct,ht,fun W' hW=>⟨(h1.below hW h1.lt).cell 1,(hW.cell (p:=⟨bx,ox+t*2,none⟩) hb).trans (hc _ _ hat.1),(hW.cell (p:=⟨bx,ox+t*2+1,none⟩) hb).trans (hc _ _ hat.2)⟩⟩
theorem IdxAt.pth {W:World}{gx:Nat}{l:List UInt8}{i:IdxM}(h:IdxAt W gx l i){t x:Nat}(hx:i.paths[t]?=some x):∃(nX bx ox cx:Nat),t<nX∧∀ W',Below W.heap.size W W'→W'.cell? ⟨gx,2,none⟩=some (.slice (some ⟨bx,ox,none⟩) nX cx)∧W'.cell? ⟨bx,ox+t,none⟩=some (.int .i64 (x:Int)):=by
 obtain ⟨Ab,At,Ap,Ax,Ak,cb,ct,cp,cx,ck,vs,h1,-,-,⟨x1,x2,x3⟩,-,-,-,-⟩:=h
 have ht:=(List.getElem?_eq_some_iff.1 hx).1
 obtain ⟨bx,ox,rfl,hb,hc⟩:=x3.spot (by omega) (by omega)
 exact ⟨_,bx,ox,cp,ht,fun W' hW=>⟨(h1.below hW h1.lt).cell 2,(hW.cell (p:=⟨bx,ox+t,none⟩) hb).trans (hc _ _ (liCells_at hx))⟩⟩
/-- Where the bytes stand. -/
theorem IdxAt.byt {W:World}{gx:Nat}{l:List UInt8}{i:IdxM}(h:IdxAt W gx l i):∃(Ab:Option Addr) (cb:Nat),l.length≤cb∧cb≤maxLen∧∀ W',Below W.heap.size W W'→W'.cell? ⟨gx,0,none⟩=some (.slice Ab l.length cb)∧RB W' W.heap.size Ab l:=by
 obtain ⟨Ab,At,Ap,Ax,Ak,cb,ct,cp,cx,ck,vs,h1,⟨b1,b2,b3⟩,-⟩:=h
 exact ⟨Ab,cb,b1,b2,fun W' hW=>⟨(h1.below hW h1.lt).cell 0,b3.below hW⟩⟩
/-- Where the Books stand. -/
theorem IdxAt.bks {W:World}{gx:Nat}{l:List UInt8}{i:IdxM}(h:IdxAt W gx l i):∃(Ak:Option Addr) (ck:Nat),(∀ W',Below W.heap.size W W'→W'.cell? ⟨gx,4,none⟩=some (.slice Ak i.books.length ck))∧∀(j:Nat) (k:Nat×List RowI),i.books[j]?=some k→∃(bk ok:Nat) (Ag:Option Addr) (cg:Nat),Ak=some ⟨bk,ok,none⟩∧k.2.length≤cg∧cg≤maxLen∧∀ W',Below W.heap.size W W'→W'.cell? ⟨bk,ok+j*2,none⟩=some (.int .i64 (k.1:Int))∧W'.cell? ⟨bk,ok+j*2+1,none⟩=some (.slice Ag k.2.length cg)∧Reads W' W.heap.size 2 Ag k.2.length (rowCells k.2):=by
 obtain ⟨Ab,At,Ap,Ax,Ak,cb,ct,cp,cx,ck,vs,h1,-,-,-,-,⟨k1,k2,k3⟩,h7,h8⟩:=h
 refine ⟨Ak,ck,fun W' hW=>(h1.below hW h1.lt).cell 4,fun j k hj=>?_⟩
 have ht:=(List.getElem?_eq_some_iff.1 hj).1
 obtain ⟨bx,ox,rfl,hb,hc⟩:=k3.spot (by omega) (by omega)
 have hv:vs[j]?=some vs[j]:=List.getElem?_eq_getElem (by omega)
 have hat:=lbCells_at i.books vs j k _ hj hv
 obtain ⟨Ag,cg,e,a1,a2,a3⟩:=h8 j k _ hj hv
 rw [e] at hat
 exact ⟨bx,ox,Ag,cg,rfl,a1,a2,fun W' hW=>⟨(hW.cell (p:=⟨bx,ox+j*2,none⟩) hb).trans (hc _ _ hat.1),(hW.cell (p:=⟨bx,ox+j*2+1,none⟩) hb).trans (hc _ _ hat.2),a3.below hW⟩⟩
set_option maxHeartbeats 4000000 in
theorem rows_any {w:World}{gx:Nat}{l:List UInt8}{i:IdxM}(h:IdxAt w gx l i)(hin:IdxIn l i){t:Nat}(ht:t<i.tabs.length)(hl:l.length≤16777216) :
  Calls Tryz.prog 32 #[.pointer (some ⟨gx,0,none⟩),.int .i64 (t:Int)] w fun e w'=>e=.returned (.int .i64 (nrowsM i t:Int))∧∃ k,w.drewN k=w':=by
 obtain ⟨x,hx⟩:∃ x,i.tabs[t]?=some x:=⟨_,List.getElem?_eq_getElem ht⟩
 obtain ⟨nX,bx,ox,cx,hlt,hc⟩:=h.tab hx
 obtain ⟨y0,y1,y2⟩:=hc w (Below.refl _ _)
 obtain ⟨n,hn,hle,-⟩:=hin.tabs x (List.mem_of_getElem? hx)
 have HNR:=Lib.hid (show nrowsM i t=n from by
  unfold nrowsM
  rw [List.getD_eq_getElem?_getD,hx]
  simp only [Option.getD_some]
  omega)
 obtain ⟨a,b⟩:=x
 simp only at hn hle y1 y2
 subst hn
 have hlt2:(t:Int)<(nX:Int):=by omega
 have hx0:(0:Int)≤(t:Int):=by omega
 clear hc hx h hin
 go_enter Tryz.func32,Tryz.ntmps32
 go_wp2
 go_quiet (fail)
 go_wp2
 go_ret
 exact ⟨by
  rw [HNR.out]
  show Ending.returned (.int .i64 (((a:Int)+8*(n:Int)-(a:Int))/8))=_
  rw [show ((a:Int)+8*(n:Int)-(a:Int))/8=(n:Int) by omega],_,rfl⟩
theorem sub_take {l:List UInt8}{W:World}{B:Nat}{A:Option Addr}{c a d:Nat}(h:RB W B A l)(hc:l.length≤c)(had:a+d≤l.length):RB W B (if c=a then A else A.map (·.add a)) ((l.drop a).take d)∧((l.drop a).take d).length=d:=by
 have hlen:((l.drop a).take d).length=d:=by simp;omega
 have hd:=Reads.drop (k:=a) (cap:=c) h (by omega) hc
 have ht:=Reads.take (k:=d) hd (by omega)
 simp only [Nat.mul_one] at ht
 refine ⟨?_,hlen⟩
 unfold RB
 rw [hlen]
 simpa [bvs,List.map_take,List.map_drop] using ht
set_option maxHeartbeats 8000000 in
theorem itext_any {w:World}{gx:Nat}{l:List UInt8}{i:IdxM}(h:IdxAt w gx l i)(hin:IdxIn l i){t:Nat}(ht:t<i.texts.length)(hl:l.length≤16777216) :
  Calls Tryz.prog 29 #[.pointer (some ⟨gx,0,none⟩),.int .i64 (t:Int)] w fun e w'=>e=.returned (.string (textM l i t))∧Below w.heap.size w w':=by
 obtain ⟨x,hx⟩:∃ x,i.texts[t]?=some x:=⟨_,List.getElem?_eq_getElem ht⟩
 obtain ⟨nX,bx,ox,cx,hlt,hc⟩:=h.txt hx
 obtain ⟨Ab,cb,hnc,hcm,hB⟩:=h.byt
 obtain ⟨y0,y1,y2⟩:=hc w (Below.refl _ _)
 obtain ⟨hx1,hx2⟩:=hin.texts x (List.mem_of_getElem? hx)
 have hTX:textM l i t=str ((l.drop x.1).take (x.2-x.1)):=by
  unfold textM
  rw [List.getD_eq_getElem?_getD,hx]
  rfl
 obtain ⟨a,b⟩:=x
 simp only at hx1 hx2 y1 y2 hTX
 have HTX:=Lib.hid hTX
 have hlt2:(t:Int)<(nX:Int):=by omega
 have hx0:(0:Int)≤(t:Int):=by omega
 have hba:=(Below.refl w.heap.size w).alloc (Nat.le_refl _) (.cells #[.int .i64 (a:Int),.int .i64 (b:Int)] 108)
 have hbd:=hba.drew
 have HBD:=Lib.hid hbd
 have HG:=Lib.hid (Blk.new w 108 #[.int .i64 (a:Int),.int .i64 (b:Int)])
 have hb0:=(hB _ hba).1
 have hb1:=(hB _ hbd).2
 obtain ⟨hs1,hs2⟩:=sub_take (c:=cb) hb1 hnc (show a+(b-a)≤l.length by omega)
 have hcv:=conv_rb (P:=Tryz.prog) 26 9 5 (cb-a) Tryz.underlying26 Tryz.underlying5 Tryz.underlying9 hs1
 rw [hs2] at hcv
 obtain ⟨n,hn⟩:∃ n,l.length=n:=⟨_,rfl⟩
 rw [hn] at hb0 hx2 hnc hl
 have hca:(a:Int)≤(cb:Int):=by omega
 have hcb:(b:Int)≤(cb:Int):=by omega
 have had:(a:Int)≤16777216:=by omega
 have hdd:(b:Int)≤16777216:=by omega
 have hab:(a:Int)≤(b:Int):=by omega
 have hb9:(0:Int)≤(b:Int):=by omega
 have ha0:(0:Int)≤(a:Int):=by omega
 obtain ⟨tx,htx⟩:∃ tx,str ((l.drop a).take (b-a))=tx:=⟨_,rfl⟩
 rw [htx] at hcv hTX
 clear hc hB hx h hin hTX hs1 hs2 hb1 hba hbd hn
 go_enter Tryz.func29,Tryz.ntmps29
 go_upto_region 2 with (fail)
 clear y0 y1 y2
 obtain ⟨w1,hw1⟩:∃ w1,w.alloc (.cells #[.int .i64 (a:Int),.int .i64 (b:Int)] 108)=w1:=⟨_,rfl⟩
 rw [hw1] at hcv HBD HG hb0
 rw [hw1]
 obtain ⟨gs,hgs⟩:∃ gs,w.heap.size=gs:=⟨_,rfl⟩
 rw [hgs] at HG
 rw [hgs]
 have y1:w1.cell? ⟨gs,0,none⟩=some (.int .i64 (a:Int)):=HG.out.cell 0
 have y2:w1.cell? ⟨gs,1,none⟩=some (.int .i64 (b:Int)):=HG.out.cell 1
 clear hw1 hgs
 by_cases hcc:cb=a
 ·rw [if_pos hcc] at hcv
  have hcd:=hcc.symm
  subst hcd
  rw [Nat.sub_self] at hcv
  clear hcc
  refine wp_region_M (fun W=>W.cell? ⟨gx,0,none⟩=some (.slice Ab n a)∧W.cell? ⟨gs,0,none⟩=some (.int .i64 (a:Int))∧W.cell? ⟨gs,1,none⟩=some (.int .i64 (b:Int))) 11 (by kernel_rfl) (by go_keep) (fun hHeld=>?_)
  refine wpAnyM_take (i:=0) (d:=(some 13)) (v:=?_) rfl rfl (by kernel_rfl) (by kernel_rfl) (by kernel_rfl) (by kernel_rfl) (by kernel_rfl) (fun _ _ _ h=>h) (Or.inl ⟨by rfl,?_⟩) (by assumption) ?_
  rotate_left
  ·intro w hSw
   (try dsimp only at hSw)
   go_simp
   (try with_reducible rfl)
  (try simp only [Act.put,List.setIfInBounds_toArray,List.set_cons_zero,List.set_cons_succ])
  refine wpAnyM_take (i:=1) (d:=(some 14)) (v:=?_) rfl rfl (by kernel_rfl) (by kernel_rfl) (by kernel_rfl) (by kernel_rfl) (by kernel_rfl) (fun _ _ _ h=>h) (Or.inl ⟨by rfl,?_⟩) (by assumption) ?_
  rotate_left
  ·intro w hSw
   (try dsimp only at hSw)
   go_simp
   (try with_reducible rfl)
  (try simp only [Act.put,List.setIfInBounds_toArray,List.set_cons_zero,List.set_cons_succ])
  refine wpAnyM_take (i:=2) (d:=(some 15)) (v:=?_) rfl rfl (by kernel_rfl) (by kernel_rfl) (by kernel_rfl) (by kernel_rfl) (by kernel_rfl) (fun _ _ _ h=>h) (Or.inl ⟨by rfl,?_⟩) (by assumption) ?_
  rotate_left
  ·intro w hSw
   (try dsimp only at hSw)
   go_simp
   (try with_reducible rfl)
  (try simp only [Act.put,List.setIfInBounds_toArray,List.set_cons_zero,List.set_cons_succ])
  refine wpAnyM_take (i:=3) (d:=(some 16)) (v:=?_) rfl rfl (by kernel_rfl) (by kernel_rfl) (by kernel_rfl) (by kernel_rfl) (by kernel_rfl) (fun _ _ _ h=>h) (Or.inl ⟨by rfl,?_⟩) (by assumption) ?_
  rotate_left
  ·intro w hSw
   (try dsimp only at hSw)
   go_simp
   (try with_reducible rfl)
  (try simp only [Act.put,List.setIfInBounds_toArray,List.set_cons_zero,List.set_cons_succ])
  refine wpAnyM_take (i:=4) (d:=(some 17)) (v:=?_) rfl rfl (by kernel_rfl) (by kernel_rfl) (by kernel_rfl) (by kernel_rfl) (by kernel_rfl) (fun _ _ _ h=>h) (Or.inl ⟨by rfl,?_⟩) (by assumption) ?_
  rotate_left
  ·intro w hSw
   (try dsimp only at hSw)
   go_simp
   (try with_reducible rfl)
  (try simp only [Act.put,List.setIfInBounds_toArray,List.set_cons_zero,List.set_cons_succ])
  refine wpAnyM_take (i:=5) (d:=(some 18)) (v:=?_) rfl rfl (by kernel_rfl) (by kernel_rfl) (by kernel_rfl) (by kernel_rfl) (by kernel_rfl) (fun _ _ _ h=>h) (Or.inl ⟨by rfl,?_⟩) (by assumption) ?_
  rotate_left
  ·intro w hSw
   (try dsimp only at hSw)
   go_simp
   (try with_reducible rfl)
  (try simp only [Act.put,List.setIfInBounds_toArray,List.set_cons_zero,List.set_cons_succ])
  refine wpAnyM_take (i:=6) (d:=(some 19)) (v:=?_) rfl rfl (by kernel_rfl) (by kernel_rfl) (by kernel_rfl) (by kernel_rfl) (by kernel_rfl) (fun _ _ _ h=>h) (Or.inl ⟨by rfl,?_⟩) (by assumption) ?_
  rotate_left
  ·intro w hSw
   (try dsimp only at hSw)
   go_simp
   (try with_reducible rfl)
  (try simp only [Act.put,List.setIfInBounds_toArray,List.set_cons_zero,List.set_cons_succ])
  refine wpAnyM_take (i:=7) (d:=(some 20)) (v:=?_) rfl rfl (by kernel_rfl) (by kernel_rfl) (by kernel_rfl) (by kernel_rfl) (by kernel_rfl) (fun _ _ _ h=>h) (Or.inl ⟨by rfl,?_⟩) (by assumption) ?_
  rotate_left
  ·intro w hSw
   (try dsimp only at hSw)
   go_simp
   (try with_reducible rfl)
  (try simp only [Act.put,List.setIfInBounds_toArray,List.set_cons_zero,List.set_cons_succ])
  refine wpAnyM_take (i:=8) (d:=(some 21)) (v:=?_) rfl rfl (by kernel_rfl) (by kernel_rfl) (by kernel_rfl) (by kernel_rfl) (by kernel_rfl) (fun _ _ _ h=>h) (Or.inl ⟨by rfl,?_⟩) (by assumption) ?_
  rotate_left
  ·intro w hSw
   (try dsimp only at hSw)
   go_simp
   (try with_reducible rfl)
  (try simp only [Act.put,List.setIfInBounds_toArray,List.set_cons_zero,List.set_cons_succ])
  refine wpAnyM_one (i:=9) (by kernel_rfl) ?_
  refine owe_early (i:=9) (d:=(some 22)) rfl rfl (fun K hK=>?_)
  go_simp
  refine hK.out _ _ (by go_keep) (fun hHeld=>?_)
  clear hK K
  (try simp only [Act.put,List.setIfInBounds_toArray,List.set_cons_zero,List.set_cons_succ])
  refine wpAnyM_take (i:=10) (d:=(some 4)) (v:=?_) rfl rfl (by kernel_rfl) (by kernel_rfl) (by kernel_rfl) (by kernel_rfl) (by kernel_rfl) (fun _ _ _ h=>h) (Or.inl ⟨by rfl,?_⟩) (by assumption) ?_
  rotate_left
  ·intro w hSw
   (try dsimp only at hSw)
   go_simp
   (try with_reducible rfl)
  (try simp only [Act.put,List.setIfInBounds_toArray,List.set_cons_zero,List.set_cons_succ])
  refine wpAnyM_done (by kernel_rfl) ?_ _
  (try simp only [Act.put,List.setIfInBounds_toArray,List.set_cons_zero,List.set_cons_succ])
  go_wp2
  go_ret
  exact ⟨by rw [HTX.out,htx];rfl,HBD.out⟩
 ·rw [if_neg hcc] at hcv
  refine wp_region_M (fun W=>W.cell? ⟨gx,0,none⟩=some (.slice Ab n cb)∧W.cell? ⟨gs,0,none⟩=some (.int .i64 (a:Int))∧W.cell? ⟨gs,1,none⟩=some (.int .i64 (b:Int))) 11 (by kernel_rfl) (by go_keep) (fun hHeld=>?_)
  refine wpAnyM_take (i:=0) (d:=(some 13)) (v:=?_) rfl rfl (by kernel_rfl) (by kernel_rfl) (by kernel_rfl) (by kernel_rfl) (by kernel_rfl) (fun _ _ _ h=>h) (Or.inl ⟨by rfl,?_⟩) (by assumption) ?_
  rotate_left
  ·intro w hSw
   (try dsimp only at hSw)
   go_simp
   (try with_reducible rfl)
  (try simp only [Act.put,List.setIfInBounds_toArray,List.set_cons_zero,List.set_cons_succ])
  refine wpAnyM_take (i:=1) (d:=(some 14)) (v:=?_) rfl rfl (by kernel_rfl) (by kernel_rfl) (by kernel_rfl) (by kernel_rfl) (by kernel_rfl) (fun _ _ _ h=>h) (Or.inl ⟨by rfl,?_⟩) (by assumption) ?_
  rotate_left
  ·intro w hSw
   (try dsimp only at hSw)
   go_simp
   (try with_reducible rfl)
  (try simp only [Act.put,List.setIfInBounds_toArray,List.set_cons_zero,List.set_cons_succ])
  refine wpAnyM_take (i:=2) (d:=(some 15)) (v:=?_) rfl rfl (by kernel_rfl) (by kernel_rfl) (by kernel_rfl) (by kernel_rfl) (by kernel_rfl) (fun _ _ _ h=>h) (Or.inl ⟨by rfl,?_⟩) (by assumption) ?_
  rotate_left
  ·intro w hSw
   (try dsimp only at hSw)
   go_simp
   (try with_reducible rfl)
  (try simp only [Act.put,List.setIfInBounds_toArray,List.set_cons_zero,List.set_cons_succ])
  refine wpAnyM_take (i:=3) (d:=(some 16)) (v:=?_) rfl rfl (by kernel_rfl) (by kernel_rfl) (by kernel_rfl) (by kernel_rfl) (by kernel_rfl) (fun _ _ _ h=>h) (Or.inl ⟨by rfl,?_⟩) (by assumption) ?_
  rotate_left
  ·intro w hSw
   (try dsimp only at hSw)
   go_simp
   (try with_reducible rfl)
  (try simp only [Act.put,List.setIfInBounds_toArray,List.set_cons_zero,List.set_cons_succ])
  refine wpAnyM_take (i:=4) (d:=(some 17)) (v:=?_) rfl rfl (by kernel_rfl) (by kernel_rfl) (by kernel_rfl) (by kernel_rfl) (by kernel_rfl) (fun _ _ _ h=>h) (Or.inl ⟨by rfl,?_⟩) (by assumption) ?_
  rotate_left
  ·intro w hSw
   (try dsimp only at hSw)
   go_simp
   (try with_reducible rfl)
  (try simp only [Act.put,List.setIfInBounds_toArray,List.set_cons_zero,List.set_cons_succ])
  refine wpAnyM_take (i:=5) (d:=(some 18)) (v:=?_) rfl rfl (by kernel_rfl) (by kernel_rfl) (by kernel_rfl) (by kernel_rfl) (by kernel_rfl) (fun _ _ _ h=>h) (Or.inl ⟨by rfl,?_⟩) (by assumption) ?_
  rotate_left
  ·intro w hSw
   (try dsimp only at hSw)
   go_simp
   (try with_reducible rfl)
  (try simp only [Act.put,List.setIfInBounds_toArray,List.set_cons_zero,List.set_cons_succ])
  refine wpAnyM_take (i:=6) (d:=(some 19)) (v:=?_) rfl rfl (by kernel_rfl) (by kernel_rfl) (by kernel_rfl) (by kernel_rfl) (by kernel_rfl) (fun _ _ _ h=>h) (Or.inl ⟨by rfl,?_⟩) (by assumption) ?_
  rotate_left
  ·intro w hSw
   (try dsimp only at hSw)
   go_simp
   (try with_reducible rfl)
  (try simp only [Act.put,List.setIfInBounds_toArray,List.set_cons_zero,List.set_cons_succ])
  refine wpAnyM_take (i:=7) (d:=(some 20)) (v:=?_) rfl rfl (by kernel_rfl) (by kernel_rfl) (by kernel_rfl) (by kernel_rfl) (by kernel_rfl) (fun _ _ _ h=>h) (Or.inl ⟨by rfl,?_⟩) (by assumption) ?_
  rotate_left
  ·intro w hSw
   (try dsimp only at hSw)
   go_simp
   (try with_reducible rfl)
  (try simp only [Act.put,List.setIfInBounds_toArray,List.set_cons_zero,List.set_cons_succ])
  refine wpAnyM_take (i:=8) (d:=(some 21)) (v:=?_) rfl rfl (by kernel_rfl) (by kernel_rfl) (by kernel_rfl) (by kernel_rfl) (by kernel_rfl) (fun _ _ _ h=>h) (Or.inl ⟨by rfl,?_⟩) (by assumption) ?_
  rotate_left
  ·intro w hSw
   (try dsimp only at hSw)
   go_simp
   (try with_reducible rfl)
  (try simp only [Act.put,List.setIfInBounds_toArray,List.set_cons_zero,List.set_cons_succ])
  refine wpAnyM_one (i:=9) (by kernel_rfl) ?_
  refine owe_early (i:=9) (d:=(some 22)) rfl rfl (fun K hK=>?_)
  go_simp
  refine hK.out _ _ (by go_keep) (fun hHeld=>?_)
  clear hK K
  (try simp only [Act.put,List.setIfInBounds_toArray,List.set_cons_zero,List.set_cons_succ])
  refine wpAnyM_take (i:=10) (d:=(some 4)) (v:=?_) rfl rfl (by kernel_rfl) (by kernel_rfl) (by kernel_rfl) (by kernel_rfl) (by kernel_rfl) (fun _ _ _ h=>h) (Or.inl ⟨by rfl,?_⟩) (by assumption) ?_
  rotate_left
  ·intro w hSw
   (try dsimp only at hSw)
   go_simp
   (try with_reducible rfl)
  (try simp only [Act.put,List.setIfInBounds_toArray,List.set_cons_zero,List.set_cons_succ])
  refine wpAnyM_done (by kernel_rfl) ?_ _
  (try simp only [Act.put,List.setIfInBounds_toArray,List.set_cons_zero,List.set_cons_succ])
  go_wp2
  go_ret
  exact ⟨by rw [HTX.out,htx];rfl,HBD.out⟩
theorem two_nums {l:List UInt8}(h:l.length=8):rdN l (0,0)=(num (l.take 4),4,0)∧rdN l (4,0)=(num ((l.drop 4).take 4),8,0):=by
 unfold rdN
 simp only
 rw [takeM_zero,takeM_zero,if_neg (by decide),if_neg (by omega),if_neg (by decide),if_neg (by omega)]
 exact ⟨rfl,rfl⟩
set_option maxHeartbeats 8000000 in
theorem irow_any {w:World}{gx:Nat}{l:List UInt8}{i:IdxM}(h:IdxAt w gx l i)(hin:IdxIn l i){t q:Nat}(ht:t<i.tabs.length)(hq:q<nrowsM i t)(hl:l.length≤16777216) :
  Calls Tryz.prog 34 #[.pointer (some ⟨gx,0,none⟩),.int .i64 (t:Int),.int .i64 (q:Int)] w fun e w'=>e=.returned (.tuple #[.int .i64 ((rowM l i t q).1:Int),.int .i64 ((rowM l i t q).2:Int)])∧Below w.heap.size w w':=by
 obtain ⟨x,hx⟩:∃ x,i.tabs[t]?=some x:=⟨_,List.getElem?_eq_getElem ht⟩
 obtain ⟨nX,bx,ox,cx,hlt,hc⟩:=h.tab hx
 obtain ⟨Ab,cb,hnc,hcm,hB⟩:=h.byt
 obtain ⟨y0,y1,-⟩:=hc w (Below.refl _ _)
 obtain ⟨k,hk,hle,-⟩:=hin.tabs x (List.mem_of_getElem? hx)
 have hbd:=(Below.refl w.heap.size w).drew
 have hb0:=(hB w (Below.refl _ _)).1
 have hb1:=(hB _ hbd).2
 have HKP:=Lib.hid (fun (W:World) (hW:Below w.heap.size w W)=>And.intro (hB W hW).1 (And.intro (hc W hW).1 (hc W hW).2.1))
 have hnr:nrowsM i t=k:=by
  unfold nrowsM
  rw [List.getD_eq_getElem?_getD,hx]
  simp only [Option.getD_some]
  omega
 rw [hnr] at hq
 have hrw:rowM l i t q=(num ((l.drop (x.1+8*q)).take 4),num ((l.drop (x.1+8*q+4)).take 4)):=by
  unfold rowM
  rw [List.getD_eq_getElem?_getD,hx]
  rfl
 obtain ⟨a,b⟩:=x
 simp only at hk hle y1 hrw
 obtain ⟨p,hp⟩:∃ p,a+8*q=p:=⟨_,rfl⟩
 obtain ⟨p8,hp8⟩:∃ p8,p+8=p8:=⟨_,rfl⟩
 rw [hp] at hrw
 obtain ⟨hs1,hs2⟩:=sub_take (c:=cb) (a:=p) (d:=p8-p) hb1 hnc (by omega)
 have hs8:((l.drop p).take (p8-p)).length=8:=by rw [hs2];omega
 obtain ⟨hr1,hr2⟩:=two_nums hs8
 rw [show p8-p=8 by omega,List.take_take,show min 4 8=4 by rfl] at hr1
 rw [show p8-p=8 by omega,List.drop_take,List.take_take,List.drop_drop,show min 4 (8-4)=4 by rfl] at hr2
 have HRW:=Lib.hid hrw
 have HR1:=Lib.hid hr1
 have HR2:=Lib.hid hr2
 have HRD:=Lib.hid (oread_any ((l.drop p).take (p8-p)) (if cb=p then Ab else Ab.map (·.add p)) (cb-p) (p8-p) w.drew hs1 hs2 (by omega))
 rw [show p8-p=8 by omega] at HRD
 obtain ⟨n,hn⟩:∃ n,l.length=n:=⟨_,rfl⟩
 rw [hn] at hb0 hnc hl hle HKP
 obtain ⟨q8,hq8⟩:∃ q8,8*q=q8:=⟨_,rfl⟩
 have hw1:IntKind.i64.wrap (8*(q:Int))=(q8:Int):=by rw [IntKind.wrap_i64];omega
 have hw2:IntKind.i64.wrap ((a:Int)+(q8:Int))=(p:Int):=by rw [IntKind.wrap_i64];omega
 have hw3:IntKind.i64.wrap ((p:Int)+8)=(p8:Int):=by rw [IntKind.wrap_i64];omega
 have hpc:(p:Int)≤(cb:Int):=by omega
 have hp8c:(p8:Int)≤(cb:Int):=by omega
 have hpp:(p:Int)≤(p8:Int):=by omega
 have h8:p8-p=8:=by omega
 have hpb:(p:Int)≤16777216:=by omega
 have hqb:(q:Int)≤16777216:=by omega
 have hab:(a:Int)≤16777216:=by omega
 have hlt2:(t:Int)<(nX:Int):=by omega
 clear hc hB hx h hin hrw hr1 hr2 hs1 hs2 hs8 hb1 hbd hn hp hp8 hk hle hq hnr ht hq8
 go_enter Tryz.func34,Tryz.ntmps34
 go_upto_region 1 with (fail)
 by_cases hcc:cb=p
 ·rw [if_pos hcc] at HRD
  have hcd:=hcc.symm
  subst hcd
  rw [Nat.sub_self] at HRD
  clear hcc
  refine wp_region_M (fun W=>W.cell? ⟨gx,0,none⟩=some (.slice Ab n p)∧W.cell? ⟨gx,3,none⟩=some (.slice (some ⟨bx,ox,none⟩) nX cx)∧W.cell? ⟨bx,ox+t*2,none⟩=some (.int .i64 (a:Int))) 30 (by kernel_rfl) (by go_keep) (fun hHeld=>?_)
  refine wpAnyM_take (i:=0) (d:=(some 9)) (v:=?_) rfl rfl (by kernel_rfl) (by kernel_rfl) (by kernel_rfl) (by kernel_rfl) (by kernel_rfl) (fun _ _ _ h=>h) (Or.inl ⟨by rfl,?_⟩) (by assumption) ?_
  rotate_left
  ·intro w hSw
   (try dsimp only at hSw)
   go_simp
   (try with_reducible rfl)
  (try simp only [Act.put,List.setIfInBounds_toArray,List.set_cons_zero,List.set_cons_succ])
  refine wpAnyM_take (i:=1) (d:=(some 10)) (v:=?_) rfl rfl (by kernel_rfl) (by kernel_rfl) (by kernel_rfl) (by kernel_rfl) (by kernel_rfl) (fun _ _ _ h=>h) (Or.inl ⟨by rfl,?_⟩) (by assumption) ?_
  rotate_left
  ·intro w hSw
   (try dsimp only at hSw)
   go_simp
   (try with_reducible rfl)
  (try simp only [Act.put,List.setIfInBounds_toArray,List.set_cons_zero,List.set_cons_succ])
  refine wpAnyM_take (i:=2) (d:=(some 11)) (v:=?_) rfl rfl (by kernel_rfl) (by kernel_rfl) (by kernel_rfl) (by kernel_rfl) (by kernel_rfl) (fun _ _ _ h=>h) (Or.inl ⟨by rfl,?_⟩) (by assumption) ?_
  rotate_left
  ·intro w hSw
   (try dsimp only at hSw)
   go_simp
   (try with_reducible rfl)
  (try simp only [Act.put,List.setIfInBounds_toArray,List.set_cons_zero,List.set_cons_succ])
  refine wpAnyM_take (i:=3) (d:=(some 12)) (v:=?_) rfl rfl (by kernel_rfl) (by kernel_rfl) (by kernel_rfl) (by kernel_rfl) (by kernel_rfl) (fun _ _ _ h=>h) (Or.inl ⟨by rfl,?_⟩) (by assumption) ?_
  rotate_left
  ·intro w hSw
   (try dsimp only at hSw)
   go_simp
   (try with_reducible rfl)
  (try simp only [Act.put,List.setIfInBounds_toArray,List.set_cons_zero,List.set_cons_succ])
  refine wpAnyM_take (i:=4) (d:=(some 13)) (v:=?_) rfl rfl (by kernel_rfl) (by kernel_rfl) (by kernel_rfl) (by kernel_rfl) (by kernel_rfl) (fun _ _ _ h=>h) (Or.inl ⟨by rfl,?_⟩) (by assumption) ?_
  rotate_left
  ·intro w hSw
   (try dsimp only at hSw)
   go_simp
   (try with_reducible rfl)
  (try simp only [Act.put,List.setIfInBounds_toArray,List.set_cons_zero,List.set_cons_succ])
  refine wpAnyM_take (i:=5) (d:=(some 14)) (v:=?_) rfl rfl (by kernel_rfl) (by kernel_rfl) (by kernel_rfl) (by kernel_rfl) (by kernel_rfl) (fun _ _ _ h=>h) (Or.inl ⟨by rfl,?_⟩) (by assumption) ?_
  rotate_left
  ·intro w hSw
   (try dsimp only at hSw)
   go_simp
   (try with_reducible rfl)
  (try simp only [Act.put,List.setIfInBounds_toArray,List.set_cons_zero,List.set_cons_succ])
  refine wpAnyM_take (i:=6) (d:=(some 15)) (v:=?_) rfl rfl (by kernel_rfl) (by kernel_rfl) (by kernel_rfl) (by kernel_rfl) (by kernel_rfl) (fun _ _ _ h=>h) (Or.inl ⟨by rfl,?_⟩) (by assumption) ?_
  rotate_left
  ·intro w hSw
   (try dsimp only at hSw)
   go_simp
   (try with_reducible rfl)
  (try simp only [Act.put,List.setIfInBounds_toArray,List.set_cons_zero,List.set_cons_succ])
  refine wpAnyM_take (i:=7) (d:=(some 16)) (v:=?_) rfl rfl (by kernel_rfl) (by kernel_rfl) (by kernel_rfl) (by kernel_rfl) (by kernel_rfl) (fun _ _ _ h=>h) (Or.inl ⟨by rfl,?_⟩) (by assumption) ?_
  rotate_left
  ·intro w hSw
   (try dsimp only at hSw)
   go_simp
   (try with_reducible rfl)
  (try simp only [Act.put,List.setIfInBounds_toArray,List.set_cons_zero,List.set_cons_succ])
  refine wpAnyM_take (i:=8) (d:=(some 17)) (v:=?_) rfl rfl (by kernel_rfl) (by kernel_rfl) (by kernel_rfl) (by kernel_rfl) (by kernel_rfl) (fun _ _ _ h=>h) (Or.inl ⟨by rfl,?_⟩) (by assumption) ?_
  rotate_left
  ·intro w hSw
   (try dsimp only at hSw)
   go_simp
   (try with_reducible rfl)
  (try simp only [Act.put,List.setIfInBounds_toArray,List.set_cons_zero,List.set_cons_succ])
  refine wpAnyM_take (i:=9) (d:=(some 18)) (v:=?_) rfl rfl (by kernel_rfl) (by kernel_rfl) (by kernel_rfl) (by kernel_rfl) (by kernel_rfl) (fun _ _ _ h=>h) (Or.inl ⟨by rfl,?_⟩) (by assumption) ?_
  rotate_left
  ·intro w hSw
   (try dsimp only at hSw)
   go_simp
   (try with_reducible rfl)
  (try simp only [Act.put,List.setIfInBounds_toArray,List.set_cons_zero,List.set_cons_succ])
  refine wpAnyM_take (i:=10) (d:=(some 19)) (v:=?_) rfl rfl (by kernel_rfl) (by kernel_rfl) (by kernel_rfl) (by kernel_rfl) (by kernel_rfl) (fun _ _ _ h=>h) (Or.inl ⟨by rfl,?_⟩) (by assumption) ?_
  rotate_left
  ·intro w hSw
   (try dsimp only at hSw)
   go_simp
   (try with_reducible rfl)
  (try simp only [Act.put,List.setIfInBounds_toArray,List.set_cons_zero,List.set_cons_succ])
  refine wpAnyM_take (i:=11) (d:=(some 20)) (v:=?_) rfl rfl (by kernel_rfl) (by kernel_rfl) (by kernel_rfl) (by kernel_rfl) (by kernel_rfl) (fun _ _ _ h=>h) (Or.inl ⟨by rfl,?_⟩) (by assumption) ?_
  rotate_left
  ·intro w hSw
   (try dsimp only at hSw)
   go_simp
   (try with_reducible rfl)
  (try simp only [Act.put,List.setIfInBounds_toArray,List.set_cons_zero,List.set_cons_succ])
  refine wpAnyM_take (i:=12) (d:=(some 21)) (v:=?_) rfl rfl (by kernel_rfl) (by kernel_rfl) (by kernel_rfl) (by kernel_rfl) (by kernel_rfl) (fun _ _ _ h=>h) (Or.inl ⟨by rfl,?_⟩) (by assumption) ?_
  rotate_left
  ·intro w hSw
   (try dsimp only at hSw)
   go_simp
   (try with_reducible rfl)
  (try simp only [Act.put,List.setIfInBounds_toArray,List.set_cons_zero,List.set_cons_succ])
  refine wpAnyM_take (i:=13) (d:=(some 22)) (v:=?_) rfl rfl (by kernel_rfl) (by kernel_rfl) (by kernel_rfl) (by kernel_rfl) (by kernel_rfl) (fun _ _ _ h=>h) (Or.inl ⟨by rfl,?_⟩) (by assumption) ?_
  rotate_left
  ·intro w hSw
   (try dsimp only at hSw)
   go_simp
   (try with_reducible rfl)
  (try simp only [Act.put,List.setIfInBounds_toArray,List.set_cons_zero,List.set_cons_succ])
  refine wpAnyM_take (i:=14) (d:=(some 23)) (v:=?_) rfl rfl (by kernel_rfl) (by kernel_rfl) (by kernel_rfl) (by kernel_rfl) (by kernel_rfl) (fun _ _ _ h=>h) (Or.inl ⟨by rfl,?_⟩) (by assumption) ?_
  rotate_left
  ·intro w hSw
   (try dsimp only at hSw)
   go_simp
   (try with_reducible rfl)
  (try simp only [Act.put,List.setIfInBounds_toArray,List.set_cons_zero,List.set_cons_succ])
  refine wpAnyM_take (i:=15) (d:=(some 24)) (v:=?_) rfl rfl (by kernel_rfl) (by kernel_rfl) (by kernel_rfl) (by kernel_rfl) (by kernel_rfl) (fun _ _ _ h=>h) (Or.inl ⟨by rfl,?_⟩) (by assumption) ?_
  rotate_left
  ·intro w hSw
   (try dsimp only at hSw)
   go_simp
   (try with_reducible rfl)
  (try simp only [Act.put,List.setIfInBounds_toArray,List.set_cons_zero,List.set_cons_succ])
  refine wpAnyM_take (i:=16) (d:=(some 25)) (v:=?_) rfl rfl (by kernel_rfl) (by kernel_rfl) (by kernel_rfl) (by kernel_rfl) (by kernel_rfl) (fun _ _ _ h=>h) (Or.inl ⟨by rfl,?_⟩) (by assumption) ?_
  rotate_left
  ·intro w hSw
   (try dsimp only at hSw)
   go_simp
   (try with_reducible rfl)
  (try simp only [Act.put,List.setIfInBounds_toArray,List.set_cons_zero,List.set_cons_succ])
  refine wpAnyM_take (i:=17) (d:=(some 26)) (v:=?_) rfl rfl (by kernel_rfl) (by kernel_rfl) (by kernel_rfl) (by kernel_rfl) (by kernel_rfl) (fun _ _ _ h=>h) (Or.inl ⟨by rfl,?_⟩) (by assumption) ?_
  rotate_left
  ·intro w hSw
   (try dsimp only at hSw)
   go_simp
   (try with_reducible rfl)
  (try simp only [Act.put,List.setIfInBounds_toArray,List.set_cons_zero,List.set_cons_succ])
  refine wpAnyM_take (i:=18) (d:=(some 27)) (v:=?_) rfl rfl (by kernel_rfl) (by kernel_rfl) (by kernel_rfl) (by kernel_rfl) (by kernel_rfl) (fun _ _ _ h=>h) (Or.inl ⟨by rfl,?_⟩) (by assumption) ?_
  rotate_left
  ·intro w hSw
   (try dsimp only at hSw)
   go_simp
   (try with_reducible rfl)
  (try simp only [Act.put,List.setIfInBounds_toArray,List.set_cons_zero,List.set_cons_succ])
  refine wpAnyM_take (i:=19) (d:=(some 28)) (v:=?_) rfl rfl (by kernel_rfl) (by kernel_rfl) (by kernel_rfl) (by kernel_rfl) (by kernel_rfl) (fun _ _ _ h=>h) (Or.inl ⟨by rfl,?_⟩) (by assumption) ?_
  rotate_left
  ·intro w hSw
   (try dsimp only at hSw)
   go_simp
   (try with_reducible rfl)
  (try simp only [Act.put,List.setIfInBounds_toArray,List.set_cons_zero,List.set_cons_succ])
  refine wpAnyM_take (i:=20) (d:=(some 29)) (v:=?_) rfl rfl (by kernel_rfl) (by kernel_rfl) (by kernel_rfl) (by kernel_rfl) (by kernel_rfl) (fun _ _ _ h=>h) (Or.inl ⟨by rfl,?_⟩) (by assumption) ?_
  rotate_left
  ·intro w hSw
   (try dsimp only at hSw)
   go_simp
   (try with_reducible rfl)
  (try simp only [Act.put,List.setIfInBounds_toArray,List.set_cons_zero,List.set_cons_succ])
  refine wpAnyM_take (i:=21) (d:=(some 30)) (v:=?_) rfl rfl (by kernel_rfl) (by kernel_rfl) (by kernel_rfl) (by kernel_rfl) (by kernel_rfl) (fun _ _ _ h=>h) (Or.inl ⟨by rfl,?_⟩) (by assumption) ?_
  rotate_left
  ·intro w hSw
   (try dsimp only at hSw)
   go_simp
   (try with_reducible rfl)
  (try simp only [Act.put,List.setIfInBounds_toArray,List.set_cons_zero,List.set_cons_succ])
  refine wpAnyM_take (i:=22) (d:=(some 31)) (v:=?_) rfl rfl (by kernel_rfl) (by kernel_rfl) (by kernel_rfl) (by kernel_rfl) (by kernel_rfl) (fun _ _ _ h=>h) (Or.inl ⟨by rfl,?_⟩) (by assumption) ?_
  rotate_left
  ·intro w hSw
   (try dsimp only at hSw)
   go_simp
   (try with_reducible rfl)
  (try simp only [Act.put,List.setIfInBounds_toArray,List.set_cons_zero,List.set_cons_succ])
  refine wpAnyM_take (i:=23) (d:=(some 32)) (v:=?_) rfl rfl (by kernel_rfl) (by kernel_rfl) (by kernel_rfl) (by kernel_rfl) (by kernel_rfl) (fun _ _ _ h=>h) (Or.inl ⟨by rfl,?_⟩) (by assumption) ?_
  rotate_left
  ·intro w hSw
   (try dsimp only at hSw)
   go_simp
   (try with_reducible rfl)
  (try simp only [Act.put,List.setIfInBounds_toArray,List.set_cons_zero,List.set_cons_succ])
  refine wpAnyM_take (i:=24) (d:=(some 33)) (v:=?_) rfl rfl (by kernel_rfl) (by kernel_rfl) (by kernel_rfl) (by kernel_rfl) (by kernel_rfl) (fun _ _ _ h=>h) (Or.inl ⟨by rfl,?_⟩) (by assumption) ?_
  rotate_left
  ·intro w hSw
   (try dsimp only at hSw)
   go_simp
   (try with_reducible rfl)
  (try simp only [Act.put,List.setIfInBounds_toArray,List.set_cons_zero,List.set_cons_succ])
  refine wpAnyM_take (i:=25) (d:=(some 34)) (v:=?_) rfl rfl (by kernel_rfl) (by kernel_rfl) (by kernel_rfl) (by kernel_rfl) (by kernel_rfl) (fun _ _ _ h=>h) (Or.inl ⟨by rfl,?_⟩) (by assumption) ?_
  rotate_left
  ·intro w hSw
   (try dsimp only at hSw)
   go_simp
   (try with_reducible rfl)
  (try simp only [Act.put,List.setIfInBounds_toArray,List.set_cons_zero,List.set_cons_succ])
  refine wpAnyM_take (i:=26) (d:=(some 35)) (v:=?_) rfl rfl (by kernel_rfl) (by kernel_rfl) (by kernel_rfl) (by kernel_rfl) (by kernel_rfl) (fun _ _ _ h=>h) (Or.inl ⟨by rfl,?_⟩) (by assumption) ?_
  rotate_left
  ·intro w hSw
   (try dsimp only at hSw)
   go_simp
   (try with_reducible rfl)
  (try simp only [Act.put,List.setIfInBounds_toArray,List.set_cons_zero,List.set_cons_succ])
  refine wpAnyM_take (i:=27) (d:=(some 36)) (v:=?_) rfl rfl (by kernel_rfl) (by kernel_rfl) (by kernel_rfl) (by kernel_rfl) (by kernel_rfl) (fun _ _ _ h=>h) (Or.inl ⟨by rfl,?_⟩) (by assumption) ?_
  rotate_left
  ·intro w hSw
   (try dsimp only at hSw)
   go_simp
   (try with_reducible rfl)
  (try simp only [Act.put,List.setIfInBounds_toArray,List.set_cons_zero,List.set_cons_succ])
  refine wpAnyM_one (i:=28) (by kernel_rfl) ?_
  refine owe_early (i:=28) (d:=(some 37)) rfl rfl (fun K hK=>?_)
  go_simp
  refine HRD.out.mono ?_
  rintro en w3 ⟨g,A7,c7,rfl,hR,hg,hb⟩
  have HR3:=Lib.hid hR
  have HGL:=Lib.hid (show w.heap.size≤g from hg.1)
  have HB3:=Lib.hid (((Below.refl w.heap.size w).drew).trans hb)
  have hkp:=HKP.out w3 HB3.out
  obtain ⟨z0,z1,z2⟩:=hkp
  clear hR hg hb
  refine hK.out _ _ (by go_keep) (fun hHeld=>?_)
  clear hK K
  (try simp only [Act.put,List.setIfInBounds_toArray,List.set_cons_zero,List.set_cons_succ])
  refine wpAnyM_take (i:=29) (d:=(some 8)) (v:=?_) rfl rfl (by kernel_rfl) (by kernel_rfl) (by kernel_rfl) (by kernel_rfl) (by kernel_rfl) (fun _ _ _ h=>h) (Or.inl ⟨by rfl,?_⟩) (by assumption) ?_
  rotate_left
  ·intro w hSw
   (try dsimp only at hSw)
   go_simp
   (try with_reducible rfl)
  (try simp only [Act.put,List.setIfInBounds_toArray,List.set_cons_zero,List.set_cons_succ])
  refine wpAnyM_done (by kernel_rfl) ?_ _
  (try simp only [Act.put,List.setIfInBounds_toArray,List.set_cons_zero,List.set_cons_succ])
  have HU:=Lib.hid (ru32 HR3.out)
  rw [HR1.out] at HU
  have hn1:=rdN_lt ((l.drop p).take 8) (0,0)
  have hn2:=rdN_lt ((l.drop p).take 8) (4,0)
  rw [HR1.out] at hn1
  rw [HR2.out] at hn2
  simp only at hn1 hn2
  obtain ⟨n1,hn1e⟩:∃ n1,num ((l.drop p).take 4)=n1:=⟨_,rfl⟩
  obtain ⟨n2,hn2e⟩:∃ n2,num ((l.drop (p+4)).take 4)=n2:=⟨_,rfl⟩
  rw [hn1e,hn2e] at HRW
  rw [hn1e] at HU hn1
  rw [hn2e] at hn2 HR2
  have hn3:(n1:Int)<4294967296:=by omega
  have hn4:(n2:Int)<4294967296:=by omega
  clear hn1e hn2e
  go_wp2_with fail
  refine HU.out.mono ?_
  rintro en w4 ⟨rfl,hR,hO⟩
  have HB4:=Lib.hid (HB3.out.trans (hO.below (B:=w.heap.size) HGL.out HB3.out.size))
  have HU2:=Lib.hid (ru32 (s:=(4,0)) hR)
  rw [HR2.out] at HU2
  clear hR hO
  go_wp2_with fail
  refine HU2.out.mono ?_
  rintro en w5 ⟨rfl,hR,hO⟩
  have HB5:=Lib.hid (HB4.out.trans (hO.below (B:=w.heap.size) HGL.out HB4.out.size))
  clear hR hO
  go_wp2
  go_ret2
  exact ⟨by rw [HRW.out];rfl,HB5.out⟩
 ·rw [if_neg hcc] at HRD
  refine wp_region_M (fun W=>W.cell? ⟨gx,0,none⟩=some (.slice Ab n cb)∧W.cell? ⟨gx,3,none⟩=some (.slice (some ⟨bx,ox,none⟩) nX cx)∧W.cell? ⟨bx,ox+t*2,none⟩=some (.int .i64 (a:Int))) 30 (by kernel_rfl) (by go_keep) (fun hHeld=>?_)
  refine wpAnyM_take (i:=0) (d:=(some 9)) (v:=?_) rfl rfl (by kernel_rfl) (by kernel_rfl) (by kernel_rfl) (by kernel_rfl) (by kernel_rfl) (fun _ _ _ h=>h) (Or.inl ⟨by rfl,?_⟩) (by assumption) ?_
  rotate_left
  ·intro w hSw
   (try dsimp only at hSw)
   go_simp
   (try with_reducible rfl)
  (try simp only [Act.put,List.setIfInBounds_toArray,List.set_cons_zero,List.set_cons_succ])
  refine wpAnyM_take (i:=1) (d:=(some 10)) (v:=?_) rfl rfl (by kernel_rfl) (by kernel_rfl) (by kernel_rfl) (by kernel_rfl) (by kernel_rfl) (fun _ _ _ h=>h) (Or.inl ⟨by rfl,?_⟩) (by assumption) ?_
  rotate_left
  ·intro w hSw
   (try dsimp only at hSw)
   go_simp
   (try with_reducible rfl)
  (try simp only [Act.put,List.setIfInBounds_toArray,List.set_cons_zero,List.set_cons_succ])
  refine wpAnyM_take (i:=2) (d:=(some 11)) (v:=?_) rfl rfl (by kernel_rfl) (by kernel_rfl) (by kernel_rfl) (by kernel_rfl) (by kernel_rfl) (fun _ _ _ h=>h) (Or.inl ⟨by rfl,?_⟩) (by assumption) ?_
  rotate_left
  ·intro w hSw
   (try dsimp only at hSw)
   go_simp
   (try with_reducible rfl)
  (try simp only [Act.put,List.setIfInBounds_toArray,List.set_cons_zero,List.set_cons_succ])
  refine wpAnyM_take (i:=3) (d:=(some 12)) (v:=?_) rfl rfl (by kernel_rfl) (by kernel_rfl) (by kernel_rfl) (by kernel_rfl) (by kernel_rfl) (fun _ _ _ h=>h) (Or.inl ⟨by rfl,?_⟩) (by assumption) ?_
  rotate_left
  ·intro w hSw
   (try dsimp only at hSw)
   go_simp
   (try with_reducible rfl)
  (try simp only [Act.put,List.setIfInBounds_toArray,List.set_cons_zero,List.set_cons_succ])
  refine wpAnyM_take (i:=4) (d:=(some 13)) (v:=?_) rfl rfl (by kernel_rfl) (by kernel_rfl) (by kernel_rfl) (by kernel_rfl) (by kernel_rfl) (fun _ _ _ h=>h) (Or.inl ⟨by rfl,?_⟩) (by assumption) ?_
  rotate_left
  ·intro w hSw
   (try dsimp only at hSw)
   go_simp
   (try with_reducible rfl)
  (try simp only [Act.put,List.setIfInBounds_toArray,List.set_cons_zero,List.set_cons_succ])
  refine wpAnyM_take (i:=5) (d:=(some 14)) (v:=?_) rfl rfl (by kernel_rfl) (by kernel_rfl) (by kernel_rfl) (by kernel_rfl) (by kernel_rfl) (fun _ _ _ h=>h) (Or.inl ⟨by rfl,?_⟩) (by assumption) ?_
  rotate_left
  ·intro w hSw
   (try dsimp only at hSw)
   go_simp
   (try with_reducible rfl)
  (try simp only [Act.put,List.setIfInBounds_toArray,List.set_cons_zero,List.set_cons_succ])
  refine wpAnyM_take (i:=6) (d:=(some 15)) (v:=?_) rfl rfl (by kernel_rfl) (by kernel_rfl) (by kernel_rfl) (by kernel_rfl) (by kernel_rfl) (fun _ _ _ h=>h) (Or.inl ⟨by rfl,?_⟩) (by assumption) ?_
  rotate_left
  ·intro w hSw
   (try dsimp only at hSw)
   go_simp
   (try with_reducible rfl)
  (try simp only [Act.put,List.setIfInBounds_toArray,List.set_cons_zero,List.set_cons_succ])
  refine wpAnyM_take (i:=7) (d:=(some 16)) (v:=?_) rfl rfl (by kernel_rfl) (by kernel_rfl) (by kernel_rfl) (by kernel_rfl) (by kernel_rfl) (fun _ _ _ h=>h) (Or.inl ⟨by rfl,?_⟩) (by assumption) ?_
  rotate_left
  ·intro w hSw
   (try dsimp only at hSw)
   go_simp
   (try with_reducible rfl)
  (try simp only [Act.put,List.setIfInBounds_toArray,List.set_cons_zero,List.set_cons_succ])
  refine wpAnyM_take (i:=8) (d:=(some 17)) (v:=?_) rfl rfl (by kernel_rfl) (by kernel_rfl) (by kernel_rfl) (by kernel_rfl) (by kernel_rfl) (fun _ _ _ h=>h) (Or.inl ⟨by rfl,?_⟩) (by assumption) ?_
  rotate_left
  ·intro w hSw
   (try dsimp only at hSw)
   go_simp
   (try with_reducible rfl)
  (try simp only [Act.put,List.setIfInBounds_toArray,List.set_cons_zero,List.set_cons_succ])
  refine wpAnyM_take (i:=9) (d:=(some 18)) (v:=?_) rfl rfl (by kernel_rfl) (by kernel_rfl) (by kernel_rfl) (by kernel_rfl) (by kernel_rfl) (fun _ _ _ h=>h) (Or.inl ⟨by rfl,?_⟩) (by assumption) ?_
  rotate_left
  ·intro w hSw
   (try dsimp only at hSw)
   go_simp
   (try with_reducible rfl)
  (try simp only [Act.put,List.setIfInBounds_toArray,List.set_cons_zero,List.set_cons_succ])
  refine wpAnyM_take (i:=10) (d:=(some 19)) (v:=?_) rfl rfl (by kernel_rfl) (by kernel_rfl) (by kernel_rfl) (by kernel_rfl) (by kernel_rfl) (fun _ _ _ h=>h) (Or.inl ⟨by rfl,?_⟩) (by assumption) ?_
  rotate_left
  ·intro w hSw
   (try dsimp only at hSw)
   go_simp
   (try with_reducible rfl)
  (try simp only [Act.put,List.setIfInBounds_toArray,List.set_cons_zero,List.set_cons_succ])
  refine wpAnyM_take (i:=11) (d:=(some 20)) (v:=?_) rfl rfl (by kernel_rfl) (by kernel_rfl) (by kernel_rfl) (by kernel_rfl) (by kernel_rfl) (fun _ _ _ h=>h) (Or.inl ⟨by rfl,?_⟩) (by assumption) ?_
  rotate_left
  ·intro w hSw
   (try dsimp only at hSw)
   go_simp
   (try with_reducible rfl)
  (try simp only [Act.put,List.setIfInBounds_toArray,List.set_cons_zero,List.set_cons_succ])
  refine wpAnyM_take (i:=12) (d:=(some 21)) (v:=?_) rfl rfl (by kernel_rfl) (by kernel_rfl) (by kernel_rfl) (by kernel_rfl) (by kernel_rfl) (fun _ _ _ h=>h) (Or.inl ⟨by rfl,?_⟩) (by assumption) ?_
  rotate_left
  ·intro w hSw
   (try dsimp only at hSw)
   go_simp
   (try with_reducible rfl)
  (try simp only [Act.put,List.setIfInBounds_toArray,List.set_cons_zero,List.set_cons_succ])
  refine wpAnyM_take (i:=13) (d:=(some 22)) (v:=?_) rfl rfl (by kernel_rfl) (by kernel_rfl) (by kernel_rfl) (by kernel_rfl) (by kernel_rfl) (fun _ _ _ h=>h) (Or.inl ⟨by rfl,?_⟩) (by assumption) ?_
  rotate_left
  ·intro w hSw
   (try dsimp only at hSw)
   go_simp
   (try with_reducible rfl)
  (try simp only [Act.put,List.setIfInBounds_toArray,List.set_cons_zero,List.set_cons_succ])
  refine wpAnyM_take (i:=14) (d:=(some 23)) (v:=?_) rfl rfl (by kernel_rfl) (by kernel_rfl) (by kernel_rfl) (by kernel_rfl) (by kernel_rfl) (fun _ _ _ h=>h) (Or.inl ⟨by rfl,?_⟩) (by assumption) ?_
  rotate_left
  ·intro w hSw
   (try dsimp only at hSw)
   go_simp
   (try with_reducible rfl)
  (try simp only [Act.put,List.setIfInBounds_toArray,List.set_cons_zero,List.set_cons_succ])
  refine wpAnyM_take (i:=15) (d:=(some 24)) (v:=?_) rfl rfl (by kernel_rfl) (by kernel_rfl) (by kernel_rfl) (by kernel_rfl) (by kernel_rfl) (fun _ _ _ h=>h) (Or.inl ⟨by rfl,?_⟩) (by assumption) ?_
  rotate_left
  ·intro w hSw
   (try dsimp only at hSw)
   go_simp
   (try with_reducible rfl)
  (try simp only [Act.put,List.setIfInBounds_toArray,List.set_cons_zero,List.set_cons_succ])
  refine wpAnyM_take (i:=16) (d:=(some 25)) (v:=?_) rfl rfl (by kernel_rfl) (by kernel_rfl) (by kernel_rfl) (by kernel_rfl) (by kernel_rfl) (fun _ _ _ h=>h) (Or.inl ⟨by rfl,?_⟩) (by assumption) ?_
  rotate_left
  ·intro w hSw
   (try dsimp only at hSw)
   go_simp
   (try with_reducible rfl)
  (try simp only [Act.put,List.setIfInBounds_toArray,List.set_cons_zero,List.set_cons_succ])
  refine wpAnyM_take (i:=17) (d:=(some 26)) (v:=?_) rfl rfl (by kernel_rfl) (by kernel_rfl) (by kernel_rfl) (by kernel_rfl) (by kernel_rfl) (fun _ _ _ h=>h) (Or.inl ⟨by rfl,?_⟩) (by assumption) ?_
  rotate_left
  ·intro w hSw
   (try dsimp only at hSw)
   go_simp
   (try with_reducible rfl)
  (try simp only [Act.put,List.setIfInBounds_toArray,List.set_cons_zero,List.set_cons_succ])
  refine wpAnyM_take (i:=18) (d:=(some 27)) (v:=?_) rfl rfl (by kernel_rfl) (by kernel_rfl) (by kernel_rfl) (by kernel_rfl) (by kernel_rfl) (fun _ _ _ h=>h) (Or.inl ⟨by rfl,?_⟩) (by assumption) ?_
  rotate_left
  ·intro w hSw
   (try dsimp only at hSw)
   go_simp
   (try with_reducible rfl)
  (try simp only [Act.put,List.setIfInBounds_toArray,List.set_cons_zero,List.set_cons_succ])
  refine wpAnyM_take (i:=19) (d:=(some 28)) (v:=?_) rfl rfl (by kernel_rfl) (by kernel_rfl) (by kernel_rfl) (by kernel_rfl) (by kernel_rfl) (fun _ _ _ h=>h) (Or.inl ⟨by rfl,?_⟩) (by assumption) ?_
  rotate_left
  ·intro w hSw
   (try dsimp only at hSw)
   go_simp
   (try with_reducible rfl)
  (try simp only [Act.put,List.setIfInBounds_toArray,List.set_cons_zero,List.set_cons_succ])
  refine wpAnyM_take (i:=20) (d:=(some 29)) (v:=?_) rfl rfl (by kernel_rfl) (by kernel_rfl) (by kernel_rfl) (by kernel_rfl) (by kernel_rfl) (fun _ _ _ h=>h) (Or.inl ⟨by rfl,?_⟩) (by assumption) ?_
  rotate_left
  ·intro w hSw
   (try dsimp only at hSw)
   go_simp
   (try with_reducible rfl)
  (try simp only [Act.put,List.setIfInBounds_toArray,List.set_cons_zero,List.set_cons_succ])
  refine wpAnyM_take (i:=21) (d:=(some 30)) (v:=?_) rfl rfl (by kernel_rfl) (by kernel_rfl) (by kernel_rfl) (by kernel_rfl) (by kernel_rfl) (fun _ _ _ h=>h) (Or.inl ⟨by rfl,?_⟩) (by assumption) ?_
  rotate_left
  ·intro w hSw
   (try dsimp only at hSw)
   go_simp
   (try with_reducible rfl)
  (try simp only [Act.put,List.setIfInBounds_toArray,List.set_cons_zero,List.set_cons_succ])
  refine wpAnyM_take (i:=22) (d:=(some 31)) (v:=?_) rfl rfl (by kernel_rfl) (by kernel_rfl) (by kernel_rfl) (by kernel_rfl) (by kernel_rfl) (fun _ _ _ h=>h) (Or.inl ⟨by rfl,?_⟩) (by assumption) ?_
  rotate_left
  ·intro w hSw
   (try dsimp only at hSw)
   go_simp
   (try with_reducible rfl)
  (try simp only [Act.put,List.setIfInBounds_toArray,List.set_cons_zero,List.set_cons_succ])
  refine wpAnyM_take (i:=23) (d:=(some 32)) (v:=?_) rfl rfl (by kernel_rfl) (by kernel_rfl) (by kernel_rfl) (by kernel_rfl) (by kernel_rfl) (fun _ _ _ h=>h) (Or.inl ⟨by rfl,?_⟩) (by assumption) ?_
  rotate_left
  ·intro w hSw
   (try dsimp only at hSw)
   go_simp
   (try with_reducible rfl)
  (try simp only [Act.put,List.setIfInBounds_toArray,List.set_cons_zero,List.set_cons_succ])
  refine wpAnyM_take (i:=24) (d:=(some 33)) (v:=?_) rfl rfl (by kernel_rfl) (by kernel_rfl) (by kernel_rfl) (by kernel_rfl) (by kernel_rfl) (fun _ _ _ h=>h) (Or.inl ⟨by rfl,?_⟩) (by assumption) ?_
  rotate_left
  ·intro w hSw
   (try dsimp only at hSw)
   go_simp
   (try with_reducible rfl)
  (try simp only [Act.put,List.setIfInBounds_toArray,List.set_cons_zero,List.set_cons_succ])
  refine wpAnyM_take (i:=25) (d:=(some 34)) (v:=?_) rfl rfl (by kernel_rfl) (by kernel_rfl) (by kernel_rfl) (by kernel_rfl) (by kernel_rfl) (fun _ _ _ h=>h) (Or.inl ⟨by rfl,?_⟩) (by assumption) ?_
  rotate_left
  ·intro w hSw
   (try dsimp only at hSw)
   go_simp
   (try with_reducible rfl)
  (try simp only [Act.put,List.setIfInBounds_toArray,List.set_cons_zero,List.set_cons_succ])
  refine wpAnyM_take (i:=26) (d:=(some 35)) (v:=?_) rfl rfl (by kernel_rfl) (by kernel_rfl) (by kernel_rfl) (by kernel_rfl) (by kernel_rfl) (fun _ _ _ h=>h) (Or.inl ⟨by rfl,?_⟩) (by assumption) ?_
  rotate_left
  ·intro w hSw
   (try dsimp only at hSw)
   go_simp
   (try with_reducible rfl)
  (try simp only [Act.put,List.setIfInBounds_toArray,List.set_cons_zero,List.set_cons_succ])
  refine wpAnyM_take (i:=27) (d:=(some 36)) (v:=?_) rfl rfl (by kernel_rfl) (by kernel_rfl) (by kernel_rfl) (by kernel_rfl) (by kernel_rfl) (fun _ _ _ h=>h) (Or.inl ⟨by rfl,?_⟩) (by assumption) ?_
  rotate_left
  ·intro w hSw
   (try dsimp only at hSw)
   go_simp
   (try with_reducible rfl)
  (try simp only [Act.put,List.setIfInBounds_toArray,List.set_cons_zero,List.set_cons_succ])
  refine wpAnyM_one (i:=28) (by kernel_rfl) ?_
  refine owe_early (i:=28) (d:=(some 37)) rfl rfl (fun K hK=>?_)
  go_simp
  refine HRD.out.mono ?_
  rintro en w3 ⟨g,A7,c7,rfl,hR,hg,hb⟩
  have HR3:=Lib.hid hR
  have HGL:=Lib.hid (show w.heap.size≤g from hg.1)
  have HB3:=Lib.hid (((Below.refl w.heap.size w).drew).trans hb)
  have hkp:=HKP.out w3 HB3.out
  obtain ⟨z0,z1,z2⟩:=hkp
  clear hR hg hb
  refine hK.out _ _ (by go_keep) (fun hHeld=>?_)
  clear hK K
  (try simp only [Act.put,List.setIfInBounds_toArray,List.set_cons_zero,List.set_cons_succ])
  refine wpAnyM_take (i:=29) (d:=(some 8)) (v:=?_) rfl rfl (by kernel_rfl) (by kernel_rfl) (by kernel_rfl) (by kernel_rfl) (by kernel_rfl) (fun _ _ _ h=>h) (Or.inl ⟨by rfl,?_⟩) (by assumption) ?_
  rotate_left
  ·intro w hSw
   (try dsimp only at hSw)
   go_simp
   (try with_reducible rfl)
  (try simp only [Act.put,List.setIfInBounds_toArray,List.set_cons_zero,List.set_cons_succ])
  refine wpAnyM_done (by kernel_rfl) ?_ _
  (try simp only [Act.put,List.setIfInBounds_toArray,List.set_cons_zero,List.set_cons_succ])
  have HU:=Lib.hid (ru32 HR3.out)
  rw [HR1.out] at HU
  have hn1:=rdN_lt ((l.drop p).take 8) (0,0)
  have hn2:=rdN_lt ((l.drop p).take 8) (4,0)
  rw [HR1.out] at hn1
  rw [HR2.out] at hn2
  simp only at hn1 hn2
  obtain ⟨n1,hn1e⟩:∃ n1,num ((l.drop p).take 4)=n1:=⟨_,rfl⟩
  obtain ⟨n2,hn2e⟩:∃ n2,num ((l.drop (p+4)).take 4)=n2:=⟨_,rfl⟩
  rw [hn1e,hn2e] at HRW
  rw [hn1e] at HU hn1
  rw [hn2e] at hn2 HR2
  have hn3:(n1:Int)<4294967296:=by omega
  have hn4:(n2:Int)<4294967296:=by omega
  clear hn1e hn2e
  go_wp2_with fail
  refine HU.out.mono ?_
  rintro en w4 ⟨rfl,hR,hO⟩
  have HB4:=Lib.hid (HB3.out.trans (hO.below (B:=w.heap.size) HGL.out HB3.out.size))
  have HU2:=Lib.hid (ru32 (s:=(4,0)) hR)
  rw [HR2.out] at HU2
  clear hR hO
  go_wp2_with fail
  refine HU2.out.mono ?_
  rintro en w5 ⟨rfl,hR,hO⟩
  have HB5:=Lib.hid (HB4.out.trans (hO.below (B:=w.heap.size) HGL.out HB4.out.size))
  clear hR hO
  go_wp2
  go_ret2
  exact ⟨by rw [HRW.out];rfl,HB5.out⟩
end
section
open Go.RowKit

theorem rowSum_next {i:IdxM}{gs:List RowI}{m:Nat}{x:RowI}(h:gs[m]?=some x):rowSum i (gs.take (m+1))=rowSum i (gs.take m)+nrowsM i x.2.toNat:=by
 unfold rowSum
 rw [List.take_add_one,h,List.map_append,List.sum_append]
 simp
theorem rowSum_le (i:IdxM)(gs:List RowI)(m:Nat):rowSum i (gs.take m)≤rowSum i gs:=by
 have h:rowSum i gs=rowSum i (gs.take m)+rowSum i (gs.drop m):=by
  unfold rowSum
  rw [←List.sum_append,←List.map_append,List.take_append_drop]
 omega
theorem mod_sum {i:IdxM}{j m:Nat}{k:Nat×List RowI}(hk:i.books[j]?=some k)(h:16384<rowSum i (k.2.take m)):modestM i=false:=by
 cases hm:modestM i with
 | false=>rfl
 | true =>
  have h1:=((modestM_ok hm).1 k (List.mem_of_getElem? hk)).1
  have h2:=rowSum_le i k.2 m
  omega
theorem mod_keys {i:IdxM}{j m:Nat}{k:Nat×List RowI}{x y:RowI}(hk:i.books[j]?=some k)(hx:k.2[m]?=some x)(hy:k.2[m+1]?=some y)(h:¬ x.1<y.1):modestM i=false:=by
 cases hm:modestM i with
 | false=>rfl
 | true =>
  have h1:=((modestM_ok hm).1 k (List.mem_of_getElem? hk)).2
  obtain ⟨h2,rfl⟩:=List.getElem?_eq_some_iff.1 hx
  obtain ⟨h3,rfl⟩:=List.getElem?_eq_some_iff.1 hy
  exact absurd (List.pairwise_iff_getElem.1 h1 m (m+1) h2 h3 (Nat.lt_succ_self _)) h
/-- The first m keys rise. -/
def AdjK (gs:List RowI)(m:Nat):Prop:=∀(q:Nat) (x y:RowI),q+1<m→gs[q]?=some x→gs[q+1]?=some y→x.1<y.1
theorem AdjK.rise {gs:List RowI}(h:AdjK gs gs.length):gs.Pairwise fun x y=>x.1<y.1:=by
 have h1:RiseL (fun x y:RowI=>decide (x.1<y.1)) gs:=rise_of_adj (lt:=fun x y:RowI=>decide (x.1<y.1)) (fun a b c h1 h2=>decide_eq_true (Int.lt_trans (of_decide_eq_true h1) (of_decide_eq_true h2))) gs fun j x y hx hy=>decide_eq_true (h j x y (List.getElem?_eq_some_iff.1 hy).1 hx hy)
 exact List.Pairwise.imp (fun h=>of_decide_eq_true h) h1
theorem AdjK.next {gs:List RowI}{m:Nat}(h:AdjK gs m)(hn:∀ q x y,q+1=m→gs[q]?=some x→gs[m]?=some y→x.1<y.1):AdjK gs (m+1):=fun q x y hq hx hy=>by
 rcases Nat.lt_or_ge (q+1) m with h1 | h1
 ·exact h q x y h1 hx hy
 ·have h2:q+1=m:=by omega
  subst h2
  exact hn q x y rfl hx hy
set_option maxHeartbeats 16000000 in
set_option maxRecDepth 100000 in
theorem imodest_any {w:World}{gx:Nat}{l:List UInt8}{i:IdxM}(h:IdxAt w gx l i)(hin:IdxIn l i)(hl:l.length≤16777216)(hb:i.books.length≤16777216)(hg:∀ k∈i.books,k.2.length≤16777216)(hX:i.tabs.length≤16777216)(hT:i.texts.length≤16777216) :
  Calls Tryz.prog 56 #[.pointer (some ⟨gx,0,none⟩)] w fun e w'=>e=.returned (.bool (modestM i))∧Below w.heap.size w w':=by
 have HI:=Lib.hid h
 have HIN:=Lib.hid hin
 have HG:=Lib.hid hg
 obtain ⟨Ak,ck,hK0,hKB⟩:=h.bks
 have HK0:=Lib.hid hK0
 have HKB:=Lib.hid hKB
 obtain ⟨nK,hnK⟩:∃ nK,i.books.length=nK:=⟨_,rfl⟩
 have HNK:=Lib.hid hnK
 rw [hnK] at HK0 hb
 have k0:w.cell? ⟨gx,4,none⟩=some (.slice Ak nK ck):=HK0.out w (Below.refl _ _)
 have hb2:(nK:Int)≤16777216:=by omega
 clear h hin hg hK0 hKB hnK
 go_enter Tryz.func56,Tryz.ntmps56
 go_wp2
 clear k0
 go_loopw [13] (fun iv W=>∃ j:Nat,iv=.int .i64 (j:Int)∧j≤nK∧(∀(q:Nat) (k:Nat×List RowI),q<j→i.books[q]?=some k→modestK i k.2=true)∧Below w.heap.size w W) (fun iv _=>nK-(Lib.intOf iv).toNat)
 case atStart=>exact ⟨0,rfl,Nat.zero_le _,fun q k hq=>absurd hq (Nat.not_lt_zero _),Below.refl _ _⟩
 case round =>
  obtain ⟨j,rfl,hj,hm,hB⟩:=hrel
  have HM:=Lib.hid hm
  have HB:=Lib.hid hB
  clear hm hB
  by_cases hlt:j<nK
  ·have hq:(j:Int)<(nK:Int):=by omega
   obtain ⟨⟨nm,gs⟩,hk⟩:∃ k,i.books[j]?=some k:=⟨_,List.getElem?_eq_getElem (by rw [HNK.out];exact hlt)⟩
   have HKJ:=Lib.hid hk
   obtain ⟨bk,ok,Ag,cg,rfl,hgc,hgm,hfar⟩:=HKB.out j _ hk
   simp only at hgc hfar
   have HFR:=Lib.hid hfar
   have HIB:=Lib.hid ((HIN.out.books _ (List.mem_of_getElem? hk)).2)
   have hng:=HG.out _ (List.mem_of_getElem? hk)
   simp only at hng HIB
   obtain ⟨ng,hng2⟩:∃ ng,gs.length=ng:=⟨_,rfl⟩
   have HNG:=Lib.hid hng2
   rw [hng2] at hng hgc HFR
   have hng3:(ng:Int)≤16777216:=by omega
   obtain ⟨z0,z1,-⟩:=HFR.out wr HB.out
   have hba:=(Below.refl wr.heap.size wr).alloc (Nat.le_refl _) (.cells #[.int .i64 (nm:Int),.slice Ag ng cg] 76)
   have HB1:=Lib.hid (HB.out.trans (hba.mono HB.out.size))
   have HGK:=Lib.hid (Blk.new wr 76 #[.int .i64 (nm:Int),.slice Ag ng cg])
   clear hk hfar hba hng2
   go_upto_region 5 with (fail)
   clear z0 z1 HB
   generalize wr.alloc (.cells #[.int .i64 (nm:Int),.slice Ag ng cg] 76)=w1 at *
   obtain ⟨gk,hgk⟩:∃ gk,wr.heap.size=gk:=⟨_,rfl⟩
   rw [hgk] at HGK
   (try rw [hgk])
   clear hgk
   have y1:w1.cell? ⟨gk,1,none⟩=some (.slice Ag ng cg):=HGK.out.cell 1
   go_wp2
   clear y1
   go_loopw [5,20] (fun rv iv W=>∃ m:Nat,iv=.int .i64 (m:Int)∧m≤ng∧rv=.int .i64 (rowSum i (gs.take m):Int)∧rowSum i (gs.take m)≤16384∧AdjK gs m∧Below w1.heap.size w1 W) (fun _ iv _=>ng-(Lib.intOf iv).toNat)
   case atStart=>exact ⟨0,rfl,Nat.zero_le _,rfl,Nat.zero_le _,fun q x y hq=>absurd hq (by omega),Below.refl _ _⟩
   case round =>
    obtain ⟨m,rfl,hmn,rfl,hsum,hadj,hB⟩:=hrel
    have HAD:=Lib.hid hadj
    have HB:=Lib.hid hB
    clear hadj hB
    by_cases hml:m<ng
    ·have hq2:(m:Int)<(ng:Int):=by omega
     obtain ⟨x,hx⟩:∃ x,gs[m]?=some x:=⟨_,List.getElem?_eq_getElem (by rw [HNG.out];exact hml)⟩
     have HX:=Lib.hid hx
     obtain ⟨a,b,rfl,hal,hbl⟩:=HIB.out x (List.mem_of_getElem? hx)
     have hBW:=HB1.out.trans (HB.out.mono HB1.out.size)
     obtain ⟨-,-,hR⟩:=HFR.out wr hBW
     obtain ⟨bg,og,rfl,hbg,hcl⟩:=hR.spot (by omega) (by omega)
     have hat:=rowCells_at hx
     have z0:wr.cell? ⟨bg,og+m*2,none⟩=some (.int .u32 (a:Int)):=hcl _ _ hat.1
     have z1:wr.cell? ⟨bg,og+m*2+1,none⟩=some (.int .u32 (b:Int)):=hcl _ _ hat.2
     have hsn:=rowSum_next (i:=i) hx
     simp only [Int.toNat_natCast] at hsn
     have hnb:nrowsM i b≤16777216:=by
      obtain ⟨sp,hsp⟩:∃ sp,i.tabs[b]?=some sp:=⟨_,List.getElem?_eq_getElem hbl⟩
      obtain ⟨k9,e1,e2,-⟩:=HIN.out.tabs sp (List.mem_of_getElem? hsp)
      unfold nrowsM
      rw [List.getD_eq_getElem?_getD,hsp]
      simp only [Option.getD_some]
      omega
     have hba:=(Below.refl wr.heap.size wr).alloc (Nat.le_refl _) (.cells #[.int .u32 (a:Int),.int .u32 (b:Int)] 81)
     have HB2:=Lib.hid (HB.out.trans (hba.mono HB.out.size))
     have HGX:=Lib.hid (Blk.new wr 81 #[.int .u32 (a:Int),.int .u32 (b:Int)])
     have HRS:=Lib.hid (rows_any (HI.out.on (hBW.trans (hba.mono hBW.size))) HIN.out hbl hl)
     have ha9:(a:Int)≤16777216:=by omega
     have hb9:(b:Int)≤16777216:=by omega
     obtain ⟨s0,hs0⟩:∃ s0,rowSum i (gs.take m)=s0:=⟨_,rfl⟩
     obtain ⟨nb,hnb0⟩:∃ nb,nrowsM i b=nb:=⟨_,rfl⟩
     rw [hs0,hnb0] at hsn
     rw [hs0] at hsum
     rw [hnb0] at hnb HRS
     have HSN:=Lib.hid hsn
     have hs9:(s0:Int)≤16384:=by omega
     have hn9:(nb:Int)≤16777216:=by omega
     have HCL:=Lib.hid hcl
     have HBW:=Lib.hid hBW
     rw [hs0]
     clear hx hR hcl hat hsn hs0 hnb0 hba hBW hbg
     go_upto_region 8 with (fail)
     clear z0 z1
     generalize wr.alloc (.cells #[.int .u32 (a:Int),.int .u32 (b:Int)] 81)=w2 at *
     obtain ⟨g7,hg7⟩:∃ g7,wr.heap.size=g7:=⟨_,rfl⟩
     rw [hg7] at HGX
     (try rw [hg7])
     clear hg7
     have x0:w2.cell? ⟨g7,0,none⟩=some (.int .u32 (a:Int)):=HGX.out.cell 0
     have x1:w2.cell? ⟨g7,1,none⟩=some (.int .u32 (b:Int)):=HGX.out.cell 1
     go_wp2_with fail
     refine HRS.out.mono ?_
     rintro en w3 ⟨rfl,kd,hw3⟩
     have hd3:Below w2.heap.size w2 w3:=hw3 ▸ below_drawsK w2 kd
     have HB3:=Lib.hid (HB2.out.trans (hd3.mono HB2.out.size))
     have HG7:=Lib.hid (HGX.out.below hd3 HGX.out.lt)
     have HGK3:=Lib.hid (HGK.out.below HB3.out HGK.out.lt)
     clear hw3 hd3 x0 x1 HRS HB2 HGX
     by_cases hs:s0+nb≤16384
     ·have hs1:decide ((16384:Int)<(s0:Int)+(nb:Int))=false:=by simp;omega
      by_cases hm0:m=0
      ·have hm1:decide ((0:Int)<(m:Int))=false:=by simp;omega
       have hm2:decide (0<m)=false:=by simp;omega
       have HM0:=Lib.hid hm0
       clear hm0
       go_upto_region 9 with (fail)
       go_quiet (fail)
       have HQ:=Lib.hid (below_drawsK w3 nq)
       go_wp2
       go_roundw
       case rel=>exact ⟨m+1,by go_num,hml,by rw [HSN.out];go_num,by rw [HSN.out];exact hs,HAD.out.next (fun q x y hq=>by have:=HM0.out;omega),HB3.out.trans (HQ.out.mono HB3.out.size)⟩
       case measure=>simp [Lib.intOf] <;> omega
      ·obtain ⟨m1,hm1⟩:∃ m1,m1+1=m:=⟨m-1,by omega⟩
       have HM1:=Lib.hid hm1
       have hmp:decide ((0:Int)<(m:Int))=true:=by simp;omega
       have hmp2:decide (0<m)=true:=by simp;omega
       have hwm:IntKind.i64.wrap ((m:Int)-1)=(m1:Int):=by rw [IntKind.wrap_i64];omega
       have hml1:(m1:Int)<(ng:Int):=by omega
       have hm10:(0:Int)≤(m1:Int):=by omega
       obtain ⟨y,hy⟩:∃ y,gs[m1]?=some y:=⟨_,List.getElem?_eq_getElem (by rw [HNG.out];omega)⟩
       have HY:=Lib.hid hy
       obtain ⟨a2,b2,rfl,hal2,-⟩:=HIB.out y (List.mem_of_getElem? hy)
       have ha8:(a2:Int)≤16777216:=by omega
       obtain ⟨-,-,hR⟩:=HFR.out w3 (HB1.out.trans (HB3.out.mono HB1.out.size))
       obtain ⟨bg',og',e9,-,hcl3⟩:=hR.spot (by omega) (by omega)
       cases e9
       have hat:=rowCells_at hy
       have v0:w3.cell? ⟨bg,og+m1*2,none⟩=some (.int .u32 (a2:Int)):=hcl3 _ _ hat.1
       have v1:w3.cell? ⟨g7,0,none⟩=some (.int .u32 (a:Int)):=HG7.out.cell 0
       have v2:w3.cell? ⟨gk,1,none⟩=some (.slice (some ⟨bg,og,none⟩) ng cg):=HGK3.out.cell 1
       clear hm0 hm1 hy hR hcl3 hat
       by_cases hak:a2<a
       ·have hak1:decide ((a:Int)≤(a2:Int))=false:=by simp;omega
        have hak2:decide (a≤a2)=false:=by simp;omega
        go_upto_region 9 with (fail)
        go_quiet (fail)
        have HQ:=Lib.hid (below_drawsK w3 nq)
        clear v0 v1 v2
        go_wp2
        go_roundw
        case rel=>exact ⟨m+1,by go_num,hml,by rw [HSN.out];go_num,by rw [HSN.out];exact hs,HAD.out.next (fun q x y hq hx hy2=>by
         have h1:=HM1.out
         obtain rfl:q=m1:=by omega
         rw [HY.out] at hx
         rw [HX.out] at hy2
         cases hx
         cases hy2
         simp only
         omega),HB3.out.trans (HQ.out.mono HB3.out.size)⟩
        case measure=>simp [Lib.intOf] <;> omega
       ·have hak1:decide ((a:Int)≤(a2:Int))=true:=by simp;omega
        have hak2:decide (a≤a2)=true:=by simp;omega
        have HMF:=Lib.hid (mod_keys (m:=m1) HKJ.out HY.out (by rw [HM1.out];exact HX.out) (by simp only;omega))
        go_upto_region 9 with (fail)
        go_quiet (fail)
        have HQ:=Lib.hid (below_drawsK w3 nq)
        clear v0 v1 v2
        go_wp2
        go_ret
        exact ⟨by rw [HMF.out];rfl,HB1.out.trans ((HB3.out.trans (HQ.out.mono HB3.out.size)).mono HB1.out.size)⟩
     ·have hs1:(16384:Int)<(s0:Int)+(nb:Int):=by omega
      have HMF:=Lib.hid (mod_sum (m:=m+1) HKJ.out (by simp only;rw [HSN.out];omega))
      go_upto_region 9 with (fail)
      go_quiet (fail)
      have HQ:=Lib.hid (below_drawsK w3 nq)
      go_wp2
      go_ret
      exact ⟨by rw [HMF.out];rfl,HB1.out.trans ((HB3.out.trans (HQ.out.mono HB3.out.size)).mono HB1.out.size)⟩
    ·obtain rfl:ng=m:=by omega
     have hq2:¬ (ng:Int)<(ng:Int):=by omega
     have HDN:=Lib.hid (show modestK i gs=true from by
      unfold modestK
      rw [List.take_of_length_le (by rw [HNG.out];exact Nat.le_refl _)] at hsum
      have h1:=HAD.out
      rw [←HNG.out] at h1
      rw [decide_eq_true hsum,decide_eq_true h1.rise]
      rfl)
     go_wp2
     go_roundw
     case rel=>exact ⟨j+1,by go_num,hlt,fun q k hq hk=>by
      rcases Nat.lt_or_ge q j with h1 | h1
      ·exact HM.out q k h1 hk
      ·obtain rfl:q=j:=by omega
       rw [HKJ.out] at hk
       cases hk
       exact HDN.out,HB1.out.trans (HB.out.mono HB1.out.size)⟩
     case measure=>simp [Lib.intOf] <;> omega
  ·obtain rfl:nK=j:=by omega
   have hq:¬ (nK:Int)<(nK:Int):=by omega
   have k0:wr.cell? ⟨gx,4,none⟩=some (.slice Ak nK ck):=HK0.out wr HB.out
   have HMD:=Lib.hid (show modestM i=decide (nK≤513) from by
    unfold modestM
    rw [HNK.out]
    have h1:(i.books.all fun k=>modestK i k.2)=true:=List.all_eq_true.2 fun k hk=>by
     obtain ⟨q,hq,rfl⟩:=List.getElem_of_mem hk
     exact HM.out q _ (by rw [←HNK.out];exact hq) (List.getElem?_eq_getElem hq)
    rw [h1,Bool.true_and])
   by_cases h5:nK≤513
   ·have h6:(nK:Int)≤513:=by omega
    go_wp2
    go_ret
    exact ⟨by rw [HMD.out,decide_eq_true h5];rfl,HB.out⟩
   ·have h6:¬ (nK:Int)≤513:=by omega
    go_wp2
    go_ret
    exact ⟨by rw [HMD.out,decide_eq_false h5];rfl,HB.out⟩
end
section
open Go.RowKit

theorem takeM_here {l s rest:List UInt8}{p n:Nat}(hp:p≤l.length)(hd:l.drop p=s++rest)(hn:s.length=n):takeM l p 0 n=(s,p+n,0)∧l.drop (p+n)=rest∧p+n≤l.length:=by
 have h1:l.length-p=s.length+rest.length:=by rw [←List.length_drop,hd,List.length_append]
 refine ⟨?_,?_,by omega⟩
 ·unfold takeM
  rw [if_neg (by simp),if_neg (by omega),if_neg (by omega),Int.toNat_natCast,hd,←hn,List.take_left]
 ·rw [←List.drop_drop,hd,←hn,List.drop_left]
end
end Go.Proofs.YthdldooilcbmlaaGreatDoor
