/-
  Texts of mine, joined: Shelf, PathPrint. The conditions stand with each.
-/
import Derived.Shelf.Strings.BuilderK
import Derived.Shelf.Strings.OnBuilder
import Derived.Test.YthdldooilcbmlaaGreatDoorProg
import Derived.Test.YthdldooilcbmlaaGreatDoorK02
import Derived.WalkMore
import Derived.Lib.MapLaws
import Derived.Laws.StructEq
set_option linter.unusedVariables false
set_option linter.unusedSimpArgs false
namespace Go.Proofs.YthdldooilcbmlaaGreatDoor
section
open Go.Shelf
def shelfRen : Go.Shelf.Ren := ⟨fun | 156 => 126 | 165 => 159 | 166 => 157 | 169 => 139 | 240 => 174 | 241 => 181 | 276 => 187 | 277 => 189 | 167 => 158 | n => n, fun | 31 => 37 | 9 => 9 | 3 => 3 | 4 => 4 | 0 => 0 | 20 => 20 | 72 => 217 | 76 => 221 | 70 => 215 | 37 => 26 | 75 => 220 | 127 => 244 | 164 => 258 | 5 => 5 | 80 => 223 | n => n, fun | n => n⟩
theorem shelf156 : Go.Proofs.Lays.n156 Tryz.prog shelfRen := {
  mixed := by kernel_rfl
  f156 := Tryz.func126.trans (congrArg some (by kernel_rfl))
  f165 := Tryz.func159.trans (congrArg some (by kernel_rfl))
  f166 := Tryz.func157.trans (congrArg some (by kernel_rfl))
  f169 := Tryz.func139.trans (congrArg some (by kernel_rfl))
  f240 := Tryz.func174.trans (congrArg some (by kernel_rfl))
  f241 := Tryz.func181.trans (congrArg some (by kernel_rfl))
  f276 := Tryz.func187.trans (congrArg some (by kernel_rfl))
  f277 := Tryz.func189.trans (congrArg some (by kernel_rfl))
  t0 := Tryz.underlying0
  a0 := Tryz.isAgg0
  z0 := Tryz.sizeOf0
  v0 := Tryz.zeroValue0
  t3 := Tryz.underlying3
  a3 := Tryz.isAgg3
  z3 := Tryz.sizeOf3
  v3 := Tryz.zeroValue3
  t4 := Tryz.underlying4
  a4 := Tryz.isAgg4
  z4 := Tryz.sizeOf4
  v4 := Tryz.zeroValue4
  t9 := Tryz.underlying9
  a9 := Tryz.isAgg9
  z9 := Tryz.sizeOf9
  v9 := Tryz.zeroValue9
  t20 := Tryz.underlying20
  a20 := Tryz.isAgg20
  z20 := Tryz.sizeOf20
  v20 := Tryz.zeroValue20
  t31 := Tryz.underlying37
  a31 := Tryz.isAgg37
  z31 := Tryz.sizeOf37
  v31 := Tryz.zeroValue37
  t37 := Tryz.underlying26
  a37 := Tryz.isAgg26
  z37 := Tryz.sizeOf26
  v37 := Tryz.zeroValue26
  t70 := Tryz.underlying215
  a70 := Tryz.isAgg215
  z70 := Tryz.sizeOf215
  v70 := Tryz.zeroValue215
  t72 := Tryz.underlying217
  a72 := Tryz.isAgg217
  z72 := Tryz.sizeOf217
  v72 := Tryz.zeroValue217
  t75 := Tryz.underlying220
  a75 := Tryz.isAgg220
  z75 := Tryz.sizeOf220
  v75 := Tryz.zeroValue220
  t76 := Tryz.underlying221
  a76 := Tryz.isAgg221
  z76 := Tryz.sizeOf221
  v76 := Tryz.zeroValue221
  t127 := Tryz.underlying244
  a127 := Tryz.isAgg244
  z127 := Tryz.sizeOf244
  v127 := Tryz.zeroValue244
  t164 := Tryz.underlying258
  a164 := Tryz.isAgg258
  z164 := Tryz.sizeOf258
  v164 := Tryz.zeroValue258 }
theorem shelfX : Go.Proofs.Builder.Extra Tryz.prog shelfRen := {
  sizeBuilder := by kernel_rfl
  liesBuilder := by kernel_rfl
  t5 := Tryz.underlying5
  a5 := Tryz.isAgg5
  z5 := Tryz.sizeOf5
  v5 := Tryz.zeroValue5
  infoByte := by kernel_rfl
  cellsByte := by kernel_rfl
  sizeByte := by kernel_rfl
  neB5 := by decide }
theorem shelf166 : Go.Proofs.Lays.n166 Tryz.prog shelfRen := {
  mixed := shelf156.mixed
  f166 := shelf156.f166
  f240 := shelf156.f240
  f276 := shelf156.f276
  t0 := shelf156.t0
  a0 := shelf156.a0
  z0 := shelf156.z0
  v0 := shelf156.v0
  t3 := shelf156.t3
  a3 := shelf156.a3
  z3 := shelf156.z3
  v3 := shelf156.v3
  t4 := shelf156.t4
  a4 := shelf156.a4
  z4 := shelf156.z4
  v4 := shelf156.v4
  t9 := shelf156.t9
  a9 := shelf156.a9
  z9 := shelf156.z9
  v9 := shelf156.v9
  t20 := shelf156.t20
  a20 := shelf156.a20
  z20 := shelf156.z20
  v20 := shelf156.v20
  t37 := shelf156.t37
  a37 := shelf156.a37
  z37 := shelf156.z37
  v37 := shelf156.v37
  t70 := shelf156.t70
  a70 := shelf156.a70
  z70 := shelf156.z70
  v70 := shelf156.v70
  t72 := shelf156.t72
  a72 := shelf156.a72
  z72 := shelf156.z72
  v72 := shelf156.v72
  t75 := shelf156.t75
  a75 := shelf156.a75
  z75 := shelf156.z75
  v75 := shelf156.v75
  t164 := shelf156.t164
  a164 := shelf156.a164
  z164 := shelf156.z164
  v164 := shelf156.v164 }
theorem shelf167 : Go.Proofs.Lays.n167 Tryz.prog shelfRen := {
  mixed := shelf156.mixed
  f167 := Tryz.func158.trans (congrArg some (by kernel_rfl))
  f240 := shelf156.f240
  f276 := shelf156.f276
  t0 := shelf156.t0
  a0 := shelf156.a0
  z0 := shelf156.z0
  v0 := shelf156.v0
  t4 := shelf156.t4
  a4 := shelf156.a4
  z4 := shelf156.z4
  v4 := shelf156.v4
  t5 := shelfX.t5
  a5 := shelfX.a5
  z5 := shelfX.z5
  v5 := shelfX.v5
  t9 := shelf156.t9
  a9 := shelf156.a9
  z9 := shelf156.z9
  v9 := shelf156.v9
  t20 := shelf156.t20
  a20 := shelf156.a20
  z20 := shelf156.z20
  v20 := shelf156.v20
  t37 := shelf156.t37
  a37 := shelf156.a37
  z37 := shelf156.z37
  v37 := shelf156.v37
  t70 := shelf156.t70
  a70 := shelf156.a70
  z70 := shelf156.z70
  v70 := shelf156.v70
  t72 := shelf156.t72
  a72 := shelf156.a72
  z72 := shelf156.z72
  v72 := shelf156.v72
  t75 := shelf156.t75
  a75 := shelf156.a75
  z75 := shelf156.z75
  v75 := shelf156.v75
  t164 := shelf156.t164
  a164 := shelf156.a164
  z164 := shelf156.z164
  v164 := shelf156.v164 }
theorem shelf169 : Go.Proofs.Lays.n169 Tryz.prog shelfRen := {
  mixed := shelf156.mixed
  f169 := shelf156.f169
  t0 := shelf156.t0
  a0 := shelf156.a0
  z0 := shelf156.z0
  v0 := shelf156.v0
  t3 := shelf156.t3
  a3 := shelf156.a3
  z3 := shelf156.z3
  v3 := shelf156.v3
  t9 := shelf156.t9
  a9 := shelf156.a9
  z9 := shelf156.z9
  v9 := shelf156.v9
  t37 := shelf156.t37
  a37 := shelf156.a37
  z37 := shelf156.z37
  v37 := shelf156.v37
  t70 := shelf156.t70
  a70 := shelf156.a70
  z70 := shelf156.z70
  v70 := shelf156.v70
  t72 := shelf156.t72
  a72 := shelf156.a72
  z72 := shelf156.z72
  v72 := shelf156.v72
  t127 := shelf156.t127
  a127 := shelf156.a127
  z127 := shelf156.z127
  v127 := shelf156.v127 }
open Go.RowKit in
theorem sb_byte (B b : Nat) (bs : List Value) (c : Int) (w : World) (h : Lib.IsBuilderF 217 5 B b bs w) (hlen : bs.length + 1 ≤ 140737488355328) (hBw : B ≤ w.heap.size) :
    Calls Tryz.prog 158 #[.pointer (some ⟨b, 0, none⟩), .int .u8 c] w fun e w' => e = .returned .nilIface ∧ (Lib.BuilderAtF 217 5 B b (.pointer (some ⟨b, 0, none⟩)) (bs ++ [.int .u8 c]) w' ∧ Below B w w' ∧ Lib.OthersKept 5 (some b) w w') := Go.Proofs.Any.Builder_WriteByte_k shelf167 shelfX B b bs c w h hlen hBw
open Go.RowKit in
theorem sb_string (B b : Nat) (bs : List Value) (s : ByteArray) (w : World) (h : Lib.IsBuilderF 217 5 B b bs w) (hlen : bs.length + s.size ≤ 140737488355328) (hBw : B ≤ w.heap.size) :
    Calls Tryz.prog 157 #[.pointer (some ⟨b, 0, none⟩), .string s] w fun e w' => e = .returned (.tuple #[.int .i64 s.size, .nilIface]) ∧ (Lib.BuilderAtF 217 5 B b (.pointer (some ⟨b, 0, none⟩)) (bs ++ Lib.strCells s) w' ∧ Below B w w' ∧ Lib.OthersKept 5 (some b) w w') := Go.Proofs.Any.Builder_WriteString_k shelf166 shelfX B b bs s w h hlen hBw
open Go.RowKit in
theorem sb_text (B b : Nat) (l : List UInt8) (w : World) (h : Lib.IsBuilderF 217 5 B b (Lib.byteCells l) w) (hBw : B ≤ w.heap.size) :
    Calls Tryz.prog 139 #[.pointer (some ⟨b, 0, none⟩)] w fun e w' => e = .returned (.string ⟨l.toArray⟩) ∧ (Lib.IsBuilderF 217 5 B b (Lib.byteCells l) w' ∧ Below B w w' ∧ Lib.OthersKept 5 (some b) w w') := Go.Proofs.Any.Builder_String_any_k shelf169 shelfX B b l w h hBw
open Go.RowKit in
theorem sj_none (a : Option Addr) (c : Nat) (sep : ByteArray) (w : World) :
    Calls Tryz.prog 126 #[.slice a 0 c, .string sep] w fun e w' => e = .returned (.string ⟨#[]⟩) ∧ w' = w := Go.Proofs.Any.strings_Join_none shelf156 shelfX a c sep w
open Go.RowKit in
theorem sj_any (bk o c : Nat) (xs : List ByteArray) (sep : ByteArray) (w : World) (hcells : ∀ (j : Nat) x, xs[j]? = some x → w.cell? ⟨bk, o + j, none⟩ = some (.string x)) (hbk : bk < w.heap.size) (hN : xs.length ≤ 140737488355328) (hcap : xs.length ≤ c) (hlen : (Lib.join (xs.map (·.data.toList)) sep.data.toList).length ≤ 140737488355328) :
    Calls Tryz.prog 126 #[.slice (some ⟨bk, o, none⟩) xs.length c, .string sep] w fun e w' => e = .returned (.string ⟨(Lib.join (xs.map (·.data.toList)) sep.data.toList).toArray⟩) ∧ Below w.heap.size w w' := Go.Proofs.Any.strings_Join shelf156 shelfX bk o c xs sep w hcells hbk hN hcap hlen
end
section
open Go.RowKit

def keyOk (ahead:ByteArray)(k:PKey):Bool:=nameOk k.1 && (Op.bytesLess ahead.toList k.1.toList) && (broken k.2).isNone && !ctrlAt k.2 0
def keysOk:ByteArray→List PKey→Bool
 | _,[]=>true
 | ahead,k::ks=>keyOk ahead k && keysOk k.1 ks
def longK (ks:List PKey):Bool:=ks.any fun k=>decide (k.1.size > 64) || decide (k.2.size > 64)
def mayM (st:PStep):Bool×Bool:=if keysOk ByteArray.empty st.2=true then (nameOk st.1,!(decide (st.1.size > 64) || longK st.2)) else (false,false)
def MayPost (st:PStep)(w:World)(en:Ending)(w':World):Prop:=en=.returned (.tuple #[.bool (mayM st).1,.bool (mayM st).2])∧Below w.heap.size w w'
/-- A row of keys, read. -/
def KeysAt (w:World)(B:Nat)(v:Value)(ks:List PKey):Prop:=∃ A c,v=.slice A ks.length c∧ks.length≤c∧c≤maxLen∧Reads w B 2 A ks.length (pairCells ks)
def KeysSmall (ks:List PKey):Prop:=ks.length≤1000000∧∀ k∈ks,k.1.size≤140737488355328∧k.2.size≤140737488355328

theorem bl_total:∀ x y:List UInt8,(Op.bytesLess x y || x == y)=!Op.bytesLess y x
 | [],[]=>by simp [Op.bytesLess]
 | _::_,[]=>by simp [Op.bytesLess]
 | [],_::_=>by simp [Op.bytesLess]
 | a::x,b::y=>by
  have ih:=bl_total x y
  simp only [Op.bytesLess]
  by_cases hab:a=b
  ·subst hab
   have h1:¬ a<a:=by simp
   simp [h1] at ih ⊢
   exact ih
  ·have hba:¬ b=a:=fun e=>hab e.symm
   have h:(a<b)∨(b<a):=by
    rcases Nat.lt_trichotomy a.toNat b.toNat with h | h | h
    ·exact .inl h
    ·exact absurd (UInt8.toNat_inj.1 h) hab
    ·exact .inr h
   rcases h with h | h
   ·have h2:¬ b<a:=fun e=>by have h1:a.toNat<b.toNat:=h;have h3:b.toNat<a.toNat:=e;omega
    simp [h,h2,hba]
   ·have h2:¬ a<b:=fun e=>by have h1:b.toNat<a.toNat:=h;have h3:a.toNat<b.toNat:=e;omega
    simp [h,h2,hab]
theorem keysOk_cons (ah:ByteArray)(ks:List PKey)(p:Nat)(k:PKey)(h:ks[p]?=some k):keysOk ah (ks.drop p)=(keyOk ah k && keysOk k.1 (ks.drop (p+1))):=by
 obtain ⟨hlt,rfl⟩:=List.getElem?_eq_some_iff.1 h
 rw [List.drop_eq_getElem_cons hlt]
 rfl
theorem longK_take (ks:List PKey)(p:Nat)(k:PKey)(h:ks[p]?=some k):longK (ks.take (p+1))=(longK (ks.take p) || (decide (k.1.size > 64) || decide (k.2.size > 64))):=by
 rw [List.take_add_one,h]
 simp [longK]
theorem spot_field0 (x y:Int)(w:World):(Instr.field 116 (.agg #[.int .i64 x,.int .i64 y]) 0).run Tryz.prog w=.ok (.int .i64 x) w:=by kernel_rfl
/-- Where may's loop is. -/
def MayAt (st:PStep)(wA:World)(lv av iv:Value)(wr:World):Prop:=∃(p:Nat) (lg:Bool) (ah:ByteArray),lv=.bool lg∧av=.string ah∧iv=.int .i64 (p:Int)∧p≤st.2.length ∧
 Below wA.heap.size wA wr∧keysOk ByteArray.empty st.2=keysOk ah (st.2.drop p)∧lg=(decide (st.1.size > 64) || longK (st.2.take p))

set_option maxHeartbeats 4000000 in
set_option maxRecDepth 100000 in
theorem may_any (st:PStep)(v:Value)(w:World)(hk:KeysAt w w.heap.size v st.2)(hs:KeysSmall st.2)(hn:st.1.size≤140737488355328) :
  Calls Tryz.prog 124 #[.agg #[.string st.1,v]] w (MayPost st w):=by
 obtain ⟨A,c,rfl,hkc,hcm,hRd⟩:=hk
 obtain ⟨nm,ks⟩:=st
 simp only at hkc hRd hs hn ⊢
 generalize hlen:ks.length=n at *
 go_enter Tryz.func124,Tryz.ntmps124
 go_wp2
 have hq0:(decide ((64:Int)<(nm.size:Int)))=decide (nm.size > 64):=by rw [decide_eq_decide];omega
 generalize (decide ((64:Int)<(nm.size:Int)))=lg0 at *
 have HQ0:=Lib.hid hq0
 clear hq0
 have hb0:=Blk.new w 121 #[.string nm,.slice A n c]
 have HRd:=Lib.hid (hRd.more (Nat.le_refl _) |> fun h=>h.below ((Below.refl w.heap.size w).alloc (Nat.le_refl _) (.cells #[.string nm,.slice A n c] 121)))
 have HBA:=Lib.hid (show Below w.heap.size w (w.alloc (.cells #[.string nm,.slice A n c] 121)) from (Below.refl _ _).alloc (Nat.le_refl _) _)
 generalize w.alloc (.cells #[.string nm,.slice A n c] 121)=wA at *
 go_loopw [2,3,4,5,7,15] (fun _ _ lv av _ iv wr=>MayAt (nm,ks) wA lv av iv wr) (fun _ _ _ _ _ iv _=>n-(Lib.intOf iv).toNat)
 case atStart=>exact ⟨0,_,_,rfl,rfl,rfl,Nat.zero_le _,Below.refl _ _,rfl,by rw [HQ0.out];simp [longK]⟩
 case round =>
  obtain ⟨p,lg,ah,rfl,rfl,rfl,hp,hB,hE,hL⟩:=hrel
  by_cases hlt:p<n
  ·obtain ⟨k,hk⟩:∃ k,ks[p]?=some k:=⟨ks[p]'(by omega),by simp [hlen,hlt]⟩
   have hq1:(p:Int)<(n:Int):=by omega
   have hsk:=hs.2 k (List.mem_of_getElem? hk)
   have hn1:(n:Int)≤1000000:=by have:=hs.1;omega
   obtain ⟨b,o,rfl,hbo,hcells⟩:=(HRd.out.below (hB.mono HBA.out.size)).spot (by omega) (by omega)
   have hat:=pairCells_at ks p k hk
   have r0:=hcells _ _ hat.1
   have r1:wr.cell? ⟨b,o+p*2+1,none⟩=some (.string k.2):=hcells _ _ hat.2
   have HK:=Lib.hid (Blk.new wr 126 #[.string k.1,.string k.2])
   have HNM:=Lib.hid (fun W=>name_ok k.1 W hsk.1)
   have HCK:=Lib.hid (fun W=>check_any k.2 W hsk.2)
   have HCF:=Lib.hid (fun W=>contains_any k.2 W hsk.2)
   have HE:=Lib.hid (hE.trans (keysOk_cons ah ks p k hk))
   have HL:=Lib.hid hL
   have HLT:=Lib.hid (longK_take ks p k hk)
   have HB:=Lib.hid hB
   have HS:=Lib.hid (And.intro hs hsk)
   clear hcells hat hE hL hB hs hsk hk hRd
   have HA1:=Lib.hid (show Below w.heap.size w (wr.alloc (.cells #[.string k.1,.string k.2] 126)) from (HBA.out.trans (HB.out.mono HBA.out.size)).alloc (by have:=HB.out.size;have:=HBA.out.size;omega) _)
   have HA2:=Lib.hid (show w.heap.size≤(wr.alloc (.cells #[.string k.1,.string k.2] 126)).heap.size by have:=HB.out.size;have:=HBA.out.size;simp;omega)
   have hbl:=bl_total k.1.toList ah.toList
   cases hnk:nameOk k.1
   ·have HM:=Lib.hid (show mayM (nm,ks)=(false,false) by unfold mayM;rw [HE.out];simp [keyOk,hnk])
    rw [hnk] at HNM
    clear hnk hbl
    go_wp2_with (first
    | (go_at_call 155;go_loud (refine (HNM.out _).mono ?_;rintro en w1 ⟨rfl,rfl⟩))
    | (go_at_call 75;go_loud (refine (HCK.out _).mono ?_;rintro en w1 ⟨rfl,hB1⟩;have hK1:=HK.out.below hB1 (Blk.lt HK.out);have k10:w1.cell? ⟨wr.heap.size,0,none⟩=some (.string k.1):=hK1.cell 0;have k11:w1.cell? ⟨wr.heap.size,1,none⟩=some (.string k.2):=hK1.cell 1;have HB1:=Lib.hid hB1;have HK1:=Lib.hid hK1;clear hB1 hK1))
    | (go_at_call 156;go_loud (refine (HCF.out _).mono ?_;rintro en w2 ⟨rfl,hB2⟩;have hK2:=HK1.out.below hB2 (Blk.lt HK1.out);have k20:w2.cell? ⟨wr.heap.size,0,none⟩=some (.string k.1):=hK2.cell 0;have k21:w2.cell? ⟨wr.heap.size,1,none⟩=some (.string k.2):=hK2.cell 1;have HB2:=Lib.hid (HB1.out.trans (hB2.mono HB1.out.size));clear hB2 hK2)))
    go_ret2
    exact ⟨by rw [HM.out];rfl,HA1.out⟩
   ·cases hl:Op.bytesLess ah.toList k.1.toList
    ·have HM:=Lib.hid (show mayM (nm,ks)=(false,false) by unfold mayM;rw [HE.out];simp [keyOk,hl])
     rw [hnk] at HNM
     rw [hl] at hbl
     have hbl2:(Op.bytesLess k.1.toList ah.toList || k.1.toList == ah.toList)=true:=hbl
     clear hnk hl hbl
     cases hx:Op.bytesLess k.1.toList ah.toList
     ·rw [hx] at hbl2
      have hy:(k.1.toList == ah.toList)=true:=by simpa using hbl2
      clear hbl2
      go_wp2_with (first
    | (go_at_call 155;go_loud (refine (HNM.out _).mono ?_;rintro en w1 ⟨rfl,rfl⟩))
    | (go_at_call 75;go_loud (refine (HCK.out _).mono ?_;rintro en w1 ⟨rfl,hB1⟩;have hK1:=HK.out.below hB1 (Blk.lt HK.out);have k10:w1.cell? ⟨wr.heap.size,0,none⟩=some (.string k.1):=hK1.cell 0;have k11:w1.cell? ⟨wr.heap.size,1,none⟩=some (.string k.2):=hK1.cell 1;have HB1:=Lib.hid hB1;have HK1:=Lib.hid hK1;clear hB1 hK1))
    | (go_at_call 156;go_loud (refine (HCF.out _).mono ?_;rintro en w2 ⟨rfl,hB2⟩;have hK2:=HK1.out.below hB2 (Blk.lt HK1.out);have k20:w2.cell? ⟨wr.heap.size,0,none⟩=some (.string k.1):=hK2.cell 0;have k21:w2.cell? ⟨wr.heap.size,1,none⟩=some (.string k.2):=hK2.cell 1;have HB2:=Lib.hid (HB1.out.trans (hB2.mono HB1.out.size));clear hB2 hK2)))
      go_ret2
      exact ⟨by rw [HM.out];rfl,HA1.out⟩
     ·clear hbl2
      go_wp2_with (first
    | (go_at_call 155;go_loud (refine (HNM.out _).mono ?_;rintro en w1 ⟨rfl,rfl⟩))
    | (go_at_call 75;go_loud (refine (HCK.out _).mono ?_;rintro en w1 ⟨rfl,hB1⟩;have hK1:=HK.out.below hB1 (Blk.lt HK.out);have k10:w1.cell? ⟨wr.heap.size,0,none⟩=some (.string k.1):=hK1.cell 0;have k11:w1.cell? ⟨wr.heap.size,1,none⟩=some (.string k.2):=hK1.cell 1;have HB1:=Lib.hid hB1;have HK1:=Lib.hid hK1;clear hB1 hK1))
    | (go_at_call 156;go_loud (refine (HCF.out _).mono ?_;rintro en w2 ⟨rfl,hB2⟩;have hK2:=HK1.out.below hB2 (Blk.lt HK1.out);have k20:w2.cell? ⟨wr.heap.size,0,none⟩=some (.string k.1):=hK2.cell 0;have k21:w2.cell? ⟨wr.heap.size,1,none⟩=some (.string k.2):=hK2.cell 1;have HB2:=Lib.hid (HB1.out.trans (hB2.mono HB1.out.size));clear hB2 hK2)))
      go_ret2
      exact ⟨by rw [HM.out];rfl,HA1.out⟩
    ·rw [hnk] at HNM
     rw [hl] at hbl
     have hx:Op.bytesLess k.1.toList ah.toList=false:=by
      cases h:Op.bytesLess k.1.toList ah.toList
      ·rfl
      ·rw [h] at hbl;simp at hbl
     have hy:(k.1.toList == ah.toList)=false:=by
      cases h:(k.1.toList == ah.toList)
      ·rfl
      ·rw [h] at hbl;simp at hbl
     clear hbl
     cases hbr:broken k.2 with
     | some b1 =>
      have HM:=Lib.hid (show mayM (nm,ks)=(false,false) by unfold mayM;rw [HE.out];simp [keyOk,hbr])
      rw [show checkV k.2=.agg #[.int .i64 6,.int .i64 b1] by unfold checkV;rw [hbr];rfl] at HCK
      have hfd:=fun W=>spot_field0 6 (b1:Int) W
      clear hbr hnk hl
      go_wp2_with (first
    | (go_at_call 155;go_loud (refine (HNM.out _).mono ?_;rintro en w1 ⟨rfl,rfl⟩))
    | (go_at_call 75;go_loud (refine (HCK.out _).mono ?_;rintro en w1 ⟨rfl,hB1⟩;have hK1:=HK.out.below hB1 (Blk.lt HK.out);have k10:w1.cell? ⟨wr.heap.size,0,none⟩=some (.string k.1):=hK1.cell 0;have k11:w1.cell? ⟨wr.heap.size,1,none⟩=some (.string k.2):=hK1.cell 1;have HB1:=Lib.hid hB1;have HK1:=Lib.hid hK1;clear hB1 hK1))
    | (go_at_call 156;go_loud (refine (HCF.out _).mono ?_;rintro en w2 ⟨rfl,hB2⟩;have hK2:=HK1.out.below hB2 (Blk.lt HK1.out);have k20:w2.cell? ⟨wr.heap.size,0,none⟩=some (.string k.1):=hK2.cell 0;have k21:w2.cell? ⟨wr.heap.size,1,none⟩=some (.string k.2):=hK2.cell 1;have HB2:=Lib.hid (HB1.out.trans (hB2.mono HB1.out.size));clear hB2 hK2)))
      go_ret2
      exact ⟨by rw [HM.out];rfl,HA1.out.trans (HB1.out.mono HA2.out)⟩
     | none =>
      rw [show checkV k.2=.agg #[.int .i64 0,.int .i64 0] by unfold checkV;rw [hbr];rfl] at HCK
      have hfd:=fun W=>spot_field0 0 0 W
      cases hct:ctrlAt k.2 0
      ·have HM:=Lib.hid (show keysOk ByteArray.empty ks=keysOk k.1 (ks.drop (p+1)) by rw [HE.out];simp [keyOk,hnk,hl,hbr,hct])
       rw [hct] at HCF
       clear hbr hnk hl hct
       have hd1:(decide ((64:Int)<(k.1.size:Int)))=decide (k.1.size > 64):=by rw [decide_eq_decide];omega
       have hd2:(decide ((64:Int)<(k.2.size:Int)))=decide (k.2.size > 64):=by rw [decide_eq_decide];omega
       have HD12:=Lib.hid (And.intro hd1 hd2)
       have HBW:=HB.out.size
       have FIN:=Lib.hid (fun (W:World) (h:Below (wr.alloc (.cells #[.string k.1,.string k.2] 126)).heap.size (wr.alloc (.cells #[.string k.1,.string k.2] 126)) W) (x:Bool) (hx:x=(lg || (decide (k.1.size > 64) || decide (k.2.size > 64))))=>show MayAt (nm,ks) wA (.bool x) (.string k.1) (.int .i64 ((p:Int)+1)) W from
        ⟨p+1,x,k.1,rfl,rfl,by simp,by simp only;omega,(HB.out.alloc HBW _).trans (h.mono (by simp;omega)),HM.out,by rw [hx,HLT.out,HL.out,Bool.or_assoc]⟩)
       clear HBW
       cases lg
       ·by_cases h1:k.1.size > 64
        ·have h1':(64:Int)<(k.1.size:Int):=by omega
         have HD:=Lib.hid h1
         clear h1 hd1 hd2
         go_wp2_with (first
             | (go_at_call 155;go_loud (refine (HNM.out _).mono ?_;rintro en w1 ⟨rfl,rfl⟩))
             | (go_at_call 75;go_loud (refine (HCK.out _).mono ?_;rintro en w1 ⟨rfl,hB1⟩;have hK1:=HK.out.below hB1 (Blk.lt HK.out);have k10:w1.cell? ⟨wr.heap.size,0,none⟩=some (.string k.1):=hK1.cell 0;have k11:w1.cell? ⟨wr.heap.size,1,none⟩=some (.string k.2):=hK1.cell 1;have HB1:=Lib.hid hB1;have HK1:=Lib.hid hK1;clear hB1 hK1))
             | (go_at_call 156;go_loud (refine (HCF.out _).mono ?_;rintro en w2 ⟨rfl,hB2⟩;have hK2:=HK1.out.below hB2 (Blk.lt HK1.out);have k20:w2.cell? ⟨wr.heap.size,0,none⟩=some (.string k.1):=hK2.cell 0;have k21:w2.cell? ⟨wr.heap.size,1,none⟩=some (.string k.2):=hK2.cell 1;have HB2:=Lib.hid (HB1.out.trans (hB2.mono HB1.out.size));clear hB2 hK2)))
         go_roundw
         case rel=>exact FIN.out _ HB2.out true (by simp [HD.out])
         case measure=>simp [Lib.intOf];omega
        ·by_cases h2:k.2.size > 64
         ·have h1':¬ (64:Int)<(k.1.size:Int):=by omega
          have h2':(64:Int)<(k.2.size:Int):=by omega
          have HD:=Lib.hid h2
          clear h1 h2 hd1 hd2
          go_wp2_with (first
              | (go_at_call 155;go_loud (refine (HNM.out _).mono ?_;rintro en w1 ⟨rfl,rfl⟩))
              | (go_at_call 75;go_loud (refine (HCK.out _).mono ?_;rintro en w1 ⟨rfl,hB1⟩;have hK1:=HK.out.below hB1 (Blk.lt HK.out);have k10:w1.cell? ⟨wr.heap.size,0,none⟩=some (.string k.1):=hK1.cell 0;have k11:w1.cell? ⟨wr.heap.size,1,none⟩=some (.string k.2):=hK1.cell 1;have HB1:=Lib.hid hB1;have HK1:=Lib.hid hK1;clear hB1 hK1))
              | (go_at_call 156;go_loud (refine (HCF.out _).mono ?_;rintro en w2 ⟨rfl,hB2⟩;have hK2:=HK1.out.below hB2 (Blk.lt HK1.out);have k20:w2.cell? ⟨wr.heap.size,0,none⟩=some (.string k.1):=hK2.cell 0;have k21:w2.cell? ⟨wr.heap.size,1,none⟩=some (.string k.2):=hK2.cell 1;have HB2:=Lib.hid (HB1.out.trans (hB2.mono HB1.out.size));clear hB2 hK2)))
          go_roundw
          case rel=>exact FIN.out _ HB2.out true (by simp [HD.out])
          case measure=>simp [Lib.intOf];omega
         ·have h1':¬ (64:Int)<(k.1.size:Int):=by omega
          have h2':¬ (64:Int)<(k.2.size:Int):=by omega
          have HD:=Lib.hid (And.intro h1 h2)
          clear h1 h2 hd1 hd2
          go_wp2_with (first
              | (go_at_call 155;go_loud (refine (HNM.out _).mono ?_;rintro en w1 ⟨rfl,rfl⟩))
              | (go_at_call 75;go_loud (refine (HCK.out _).mono ?_;rintro en w1 ⟨rfl,hB1⟩;have hK1:=HK.out.below hB1 (Blk.lt HK.out);have k10:w1.cell? ⟨wr.heap.size,0,none⟩=some (.string k.1):=hK1.cell 0;have k11:w1.cell? ⟨wr.heap.size,1,none⟩=some (.string k.2):=hK1.cell 1;have HB1:=Lib.hid hB1;have HK1:=Lib.hid hK1;clear hB1 hK1))
              | (go_at_call 156;go_loud (refine (HCF.out _).mono ?_;rintro en w2 ⟨rfl,hB2⟩;have hK2:=HK1.out.below hB2 (Blk.lt HK1.out);have k20:w2.cell? ⟨wr.heap.size,0,none⟩=some (.string k.1):=hK2.cell 0;have k21:w2.cell? ⟨wr.heap.size,1,none⟩=some (.string k.2):=hK2.cell 1;have HB2:=Lib.hid (HB1.out.trans (hB2.mono HB1.out.size));clear hB2 hK2)))
          go_roundw
          case rel=>exact FIN.out _ HB2.out (decide ((64:Int)<(k.1.size:Int)) || decide ((64:Int)<(k.2.size:Int))) (by rw [HD12.out.1,HD12.out.2];rfl)
          case measure=>simp [Lib.intOf];omega
       ·clear hd1 hd2
        go_wp2_with (first
            | (go_at_call 155;go_loud (refine (HNM.out _).mono ?_;rintro en w1 ⟨rfl,rfl⟩))
            | (go_at_call 75;go_loud (refine (HCK.out _).mono ?_;rintro en w1 ⟨rfl,hB1⟩;have hK1:=HK.out.below hB1 (Blk.lt HK.out);have k10:w1.cell? ⟨wr.heap.size,0,none⟩=some (.string k.1):=hK1.cell 0;have k11:w1.cell? ⟨wr.heap.size,1,none⟩=some (.string k.2):=hK1.cell 1;have HB1:=Lib.hid hB1;have HK1:=Lib.hid hK1;clear hB1 hK1))
            | (go_at_call 156;go_loud (refine (HCF.out _).mono ?_;rintro en w2 ⟨rfl,hB2⟩;have hK2:=HK1.out.below hB2 (Blk.lt HK1.out);have k20:w2.cell? ⟨wr.heap.size,0,none⟩=some (.string k.1):=hK2.cell 0;have k21:w2.cell? ⟨wr.heap.size,1,none⟩=some (.string k.2):=hK2.cell 1;have HB2:=Lib.hid (HB1.out.trans (hB2.mono HB1.out.size));clear hB2 hK2)))
        go_roundw
        case rel=>exact FIN.out _ HB2.out true (by simp)
        case measure=>simp [Lib.intOf];omega
      ·have HM:=Lib.hid (show mayM (nm,ks)=(false,false) by unfold mayM;rw [HE.out];simp [keyOk,hct])
       rw [hct] at HCF
       clear hbr hnk hl hct
       go_wp2_with (first
    | (go_at_call 155;go_loud (refine (HNM.out _).mono ?_;rintro en w1 ⟨rfl,rfl⟩))
    | (go_at_call 75;go_loud (refine (HCK.out _).mono ?_;rintro en w1 ⟨rfl,hB1⟩;have hK1:=HK.out.below hB1 (Blk.lt HK.out);have k10:w1.cell? ⟨wr.heap.size,0,none⟩=some (.string k.1):=hK1.cell 0;have k11:w1.cell? ⟨wr.heap.size,1,none⟩=some (.string k.2):=hK1.cell 1;have HB1:=Lib.hid hB1;have HK1:=Lib.hid hK1;clear hB1 hK1))
    | (go_at_call 156;go_loud (refine (HCF.out _).mono ?_;rintro en w2 ⟨rfl,hB2⟩;have hK2:=HK1.out.below hB2 (Blk.lt HK1.out);have k20:w2.cell? ⟨wr.heap.size,0,none⟩=some (.string k.1):=hK2.cell 0;have k21:w2.cell? ⟨wr.heap.size,1,none⟩=some (.string k.2):=hK2.cell 1;have HB2:=Lib.hid (HB1.out.trans (hB2.mono HB1.out.size));clear hB2 hK2)))
       go_ret2
       exact ⟨by rw [HM.out];rfl,HA1.out.trans (HB2.out.mono HA2.out)⟩
  ·have hp':p≤ks.length:=hp
   obtain rfl:p=n:=by omega
   clear hp'
   have hq1:¬ (p:Int)<(p:Int):=by omega
   have HNM:=Lib.hid (fun W=>name_ok nm W hn)
   have HM:=Lib.hid (show mayM (nm,ks)=(nameOk nm,!lg) by
    unfold mayM
    rw [hE]
    simp only
    rw [List.drop_of_length_le (by omega)]
    rw [if_pos (by rfl),hL]
    simp only
    rw [List.take_of_length_le (by omega)])
   have hbw:Blk wr w.heap.size 121 #[.string nm,.slice A p c]:=hb0.below hB (Blk.lt hb0)
   have c0:wr.cell? ⟨w.heap.size,0,none⟩=some (.string nm):=hbw.cell 0
   have HB:=Lib.hid hB
   clear hB hE hL hbw hRd
   generalize nameOk nm=b at *
   go_wp2_with (go_at_call 155;refine (HNM.out _).mono ?_;rintro en w1 ⟨rfl,rfl⟩)
   go_ret2
   exact ⟨by rw [HM.out];rfl,HBA.out.trans (HB.out.mono HBA.out.size)⟩
end
section
open Go.RowKit

def dressB (b:UInt8):List UInt8:=if 0≤specialI (b.toNat:Int) then [92,b] else [b]
def dressL (l:List UInt8):List UInt8:=l.flatMap dressB
def keyText (k:PKey):List UInt8:=[91]++k.1.data.toList++[61]++dressL k.2.data.toList++[93]
def textL (st:PStep):List UInt8:=st.1.data.toList++st.2.flatMap keyText
def StepSmall (st:PStep):Prop:=st.1.size≤2000000∧st.2.length≤400000∧∀ k∈st.2,k.1.size≤2000000∧k.2.size≤2000000
theorem dressL_len (l:List UInt8):(dressL l).length≤2*l.length:=by
 induction l with
 | nil=>simp [dressL]
 | cons b l ih =>
  simp only [dressL,List.flatMap_cons,List.length_append,List.length_cons] at ih ⊢
  have:(dressB b).length≤2:=by unfold dressB;split <;> simp
  omega
theorem keyText_len (k:PKey)(h:k.1.size≤2000000∧k.2.size≤2000000):(keyText k).length≤6000003:=by
 have:=dressL_len k.2.data.toList
 simp only [keyText,List.length_append,List.length_cons,List.length_nil,ba_len] at this ⊢
 omega
theorem keysText_len (ks:List PKey)(h:∀ k∈ks,k.1.size≤2000000∧k.2.size≤2000000):(ks.flatMap keyText).length≤ks.length*6000003:=by
 induction ks with
 | nil=>simp
 | cons k ks ih =>
  have h1:=keyText_len k (h k (by simp))
  have h2:=ih fun x hx=>h x (by simp [hx])
  simp only [List.flatMap_cons,List.length_append,List.length_cons]
  omega
theorem textL_len {st:PStep}(h:StepSmall st):(textL st).length≤2500000000000:=by
 have h1:=keysText_len st.2 h.2.2
 have h2:=h.1
 have h3:=h.2.1
 simp only [textL,List.length_append,ba_len]
 omega
theorem textPre_len {st:PStep}(h:StepSmall st)(p:Nat):(st.1.data.toList++(st.2.take p).flatMap keyText).length≤2500000000000:=by
 have h1:=keysText_len (st.2.take p) fun k hk=>h.2.2 k (List.mem_of_mem_take hk)
 have h2:=h.1
 have h3:=h.2.1
 have h4:=List.length_take_le' p st.2
 simp only [List.length_append,ba_len]
 omega
abbrev SB (B:Nat)(l:List UInt8)(w:World):Prop:=Lib.IsBuilderF 217 5 B B (Lib.byteCells l) w
theorem sb_str {B:Nat}{l:List UInt8}{s:ByteArray}{w:World}(h:Lib.BuilderAtF 217 5 B B (.pointer (some ⟨B,0,none⟩)) (Lib.byteCells l++Lib.strCells s) w):SB B (l++s.data.toList) w:=by
 refine .inr ?_
 rw [show Lib.byteCells (l++s.data.toList)=Lib.byteCells l++Lib.strCells s by simp [Lib.byteCells,Lib.strCells]]
 exact h
theorem sb_byt {B:Nat}{l:List UInt8}{b:UInt8}{w:World}(h:Lib.BuilderAtF 217 5 B B (.pointer (some ⟨B,0,none⟩)) (Lib.byteCells l++[.int .u8 (b.toNat:Int)]) w):SB B (l++[b]) w:=by
 refine .inr ?_
 rw [show Lib.byteCells (l++[b])=Lib.byteCells l++[.int .u8 (b.toNat:Int)] by simp [Lib.byteCells]]
 exact h
theorem Blk.others {w w':World}{k:Nat}{t:TypeId}{cs:Array Value}{b:Nat}(h:Blk w k t cs)(hk:Lib.OthersKept 5 (some b) w w')(hb:k≠b)(ht:t≠5):Blk w' k t cs :=
 hk k _ h (by simpa using hb) (fun c fz e=>ht (by cases e;rfl))
def TextPost (st:PStep)(w:World)(en:Ending)(w':World):Prop:=en=.returned (.string (str (textL st)))∧Below w.heap.size w w'

theorem sb_lt {B:Nat}{l:List UInt8}{w:World}(h:SB B l w):B<w.heap.size:=by
 rcases h with h | h <;> exact Lib.BuilderAtF.lt h
def TextAt (nm:ByteArray)(ks:List PKey)(B:Nat)(wA:World)(p:Nat)(wr:World):Prop :=
 SB B (nm.data.toList++(ks.take p).flatMap keyText) wr∧Below B wA wr∧p≤ks.length
def KeyAt (acc:List UInt8)(k:PKey)(B kb:Nat)(wA:World)(q:Nat)(wr:World):Prop :=
 SB B (acc++dressL (k.2.data.toList.take q)) wr∧Below B wA wr∧Blk wr kb 126 #[.string k.1,.string k.2]∧q≤k.2.size
theorem textAt_next {nm:ByteArray}{ks:List PKey}{B:Nat}{wA:World}{p:Nat}{wr:World}{k:PKey}(hk:ks[p]?=some k)
  (h:SB B ((nm.data.toList++(ks.take p).flatMap keyText++([91]++k.1.data.toList++[61]))++dressL k.2.data.toList++[93]) wr)(hb:Below B wA wr):TextAt nm ks B wA (p+1) wr:=by
 have hlt:=(List.getElem?_eq_some_iff.1 hk).1
 refine ⟨?_,hb,by omega⟩
 rw [List.take_add_one,hk]
 simpa [keyText,List.flatMap_append] using h
theorem dressL_take (l:List UInt8)(q:Nat)(b:UInt8)(h:l[q]?=some b):dressL (l.take (q+1))=dressL (l.take q)++dressB b:=by
 rw [List.take_add_one,h]
 simp [dressL,List.flatMap_append]
set_option maxHeartbeats 4000000 in
set_option maxRecDepth 100000 in
theorem text_any (st:PStep)(v:Value)(w:World)(hk:KeysAt w w.heap.size v st.2)(hs:StepSmall st) :
  Calls Tryz.prog 125 #[.agg #[.string st.1,v]] w (TextPost st w):=by
 obtain ⟨A,c,rfl,hkc,hcm,hRd⟩:=hk
 obtain ⟨nm,ks⟩:=st
 simp only at hkc hRd ⊢
 have HS:=Lib.hid hs
 have HP:=Lib.hid (textPre_len hs)
 clear hs
 generalize hlen:ks.length=n at *
 have hn1:(n:Int)≤400000:=by have:=HS.out.2.1;simp only at this;omega
 have HRd:=Lib.hid (hRd.below ((Below.refl w.heap.size w).alloc (Nat.le_refl _) (.cells #[.string nm,.slice A n c] 121)))
 have HBA:=Lib.hid (show Below w.heap.size w (w.alloc (.cells #[.string nm,.slice A n c] 121)) from (Below.refl _ _).alloc (Nat.le_refl _) _)
 have HB0:=Lib.hid (Blk.new w 121 #[.string nm,.slice A n c])
 have HI0:=Lib.hid (show SB (w.heap.size+1) [] ((w.alloc (.cells #[.string nm,.slice A n c] 121)).alloc (.cells #[.pointer none,.slice none 0 0] 217)) from by
  have:=Lib.IsBuilderF.of (Lib.fresh_isBuilder 217 5 (w.alloc (.cells #[.string nm,.slice A n c] 121)))
  rw [World.size_alloc] at this
  exact this)
 have HL0:=Lib.hid (show (Lib.byteCells []).length+nm.size≤140737488355328 by have:=HS.out.1;simp only [Lib.byteCells,List.map_nil,List.length_nil] at this ⊢;omega)
 have HW0:=Lib.hid (show w.heap.size+1≤((w.alloc (.cells #[.string nm,.slice A n c] 121)).alloc (.cells #[.pointer none,.slice none 0 0] 217)).heap.size by simp)
 go_enter Tryz.func125,Tryz.ntmps125
 go_upto_region 3 with (go_at_call 157;go_loud (refine (sb_string (w.heap.size+1) (w.heap.size+1) (Lib.byteCells []) nm _ HI0.out HL0.out HW0.out).mono ?_;rintro en w1 ⟨rfl,hb1,hB1,hO1⟩;have HI1:=Lib.hid (sb_str (l:=[]) hb1);have HB1:=Lib.hid hB1;clear hb1 hB1 hO1))
 have hsb:Blk w1 w.heap.size 121 #[.string nm,.slice A n c]:=(HB0.out.alloc _).below HB1.out (by omega)
 have c1:w1.cell? ⟨w.heap.size,1,none⟩=some (.slice A n c):=hsb.cell 1
 have HBW:=Lib.hid (show Below (w.heap.size+1) (w.alloc (.cells #[.string nm,.slice A n c] 121)) w1 from ((Below.refl _ _).alloc (by simp) _).trans HB1.out)
 clear HI0 HB0 HB1 hsb HL0 HW0
 generalize w.alloc (.cells #[.string nm,.slice A n c] 121)=wA at *
 go_wp2
 have HI:=Lib.hid (show TextAt nm ks (w.heap.size+1) wA 0 w1 from ⟨by simpa using HI1.out,HBW.out,Nat.zero_le _⟩)
 have HSA:=Lib.hid (show w.heap.size+1≤w1.heap.size from Nat.le_of_lt (sb_lt HI1.out))
 clear HI1 HBW c1
 generalize hB:w.heap.size+1=B at *
 have HBe:=Lib.hid hB
 clear hB
 go_loopw [5,6,13,25] (fun _ _ iv _ wr=>∃ p:Nat,iv=.int .i64 (p:Int)∧TextAt nm ks B wA p wr) (fun _ _ iv _ _=>n-(Lib.intOf iv).toNat)
 case atStart=>exact ⟨0,rfl,HI.out⟩
 case round =>
  obtain ⟨p,rfl,hI,hB,hp⟩:=hrel
  by_cases hlt:p<n
  ·obtain ⟨k,hk⟩:∃ k,ks[p]?=some k:=⟨ks[p]'(by omega),by simp [hlen,hlt]⟩
   have hq1:(p:Int)<(n:Int):=by omega
   have hsk:=HS.out.2.2 k (List.mem_of_getElem? hk)
   obtain ⟨b,o,rfl,hbo,hcells⟩:=(HRd.out.below (hB.mono (by have:=HBe.out;omega))).spot (by omega) (by omega)
   have hat:=pairCells_at ks p k hk
   have r0:=hcells _ _ hat.1
   have r1:wr.cell? ⟨b,o+p*2+1,none⟩=some (.string k.2):=hcells _ _ hat.2
   have HK:=Lib.hid (Blk.new wr 126 #[.string k.1,.string k.2])
   have HSK:=Lib.hid hsk
   have HKK:=Lib.hid hk
   have hBs:B<wr.heap.size:=sb_lt hI
   have HI2:=Lib.hid (Lib.IsBuilderF.alloc hI (.cells #[.string k.1,.string k.2] 126))
   have HB2:=Lib.hid (hB.alloc (Nat.le_of_lt hBs) (.cells #[.string k.1,.string k.2] 126))
   have HLB:=Lib.hid hBs
   have HL0:=Lib.hid (show (Lib.byteCells (nm.data.toList++(ks.take p).flatMap keyText)).length+((⟨#[91]⟩:ByteArray)++k.1++(⟨#[61]⟩:ByteArray)).size≤140737488355328 by
    have:=HP.out p
    have:=hsk.1
    rw [Lib.byteCells_length]
    simp only [ByteArray.size_append] at *
    have e1:(⟨#[91]⟩:ByteArray).size=1:=rfl
    have e2:(⟨#[61]⟩:ByteArray).size=1:=rfl
    omega)
   have HW0:=Lib.hid (show B≤(wr.alloc (.cells #[.string k.1,.string k.2] 126)).heap.size by simp;omega)
   have hc1:¬ 9223372036854775807<1+k.1.size:=by have:=hsk.1;omega
   have hc2:¬ 9223372036854775807<1+k.1.size+1:=by have:=hsk.1;omega
   clear hcells hat hI hB hsk hk hRd hBs
   go_upto_region 7 with (go_at_call 157;go_loud (refine (sb_string B B _ _ _ HI2.out HL0.out HW0.out).mono ?_;rintro en w2 ⟨rfl,hb2,hB2,hO2⟩;have HI3:=Lib.hid (sb_str hb2);have HB3:=Lib.hid (HB2.out.trans hB2);have HK3:=Lib.hid (HK.out.others hO2 (by have:=HLB.out;omega) (by decide));clear hb2 hB2 hO2 HI2 HB2 HL0 HW0))
   clear hc1 hc2 HK r0 r1
   have k31:w2.cell? ⟨wr.heap.size,1,none⟩=some (.string k.2):=HK3.out.cell 1
   have HKA:=Lib.hid (show KeyAt (nm.data.toList++(ks.take p).flatMap keyText++((⟨#[91]⟩:ByteArray)++k.1++(⟨#[61]⟩:ByteArray)).data.toList) k B wr.heap.size wA 0 w2 from ⟨by simpa [dressL] using HI3.out,HB3.out,HK3.out,Nat.zero_le _⟩)
   have HKB:=Lib.hid (show B<wr.heap.size from HLB.out)
   clear HI3 HB3 HK3
   generalize wr.heap.size=kb at *
   have HAC:=Lib.hid (show (nm.data.toList++(ks.take p).flatMap keyText++((⟨#[91]⟩:ByteArray)++k.1++(⟨#[61]⟩:ByteArray)).data.toList)=(nm.data.toList++(ks.take p).flatMap keyText++([91]++k.1.data.toList++[61])) by simp)
   have HLA:=Lib.hid (show (nm.data.toList++(ks.take p).flatMap keyText++((⟨#[91]⟩:ByteArray)++k.1++(⟨#[61]⟩:ByteArray)).data.toList).length≤2600000000000 by
    rw [HAC.out]
    have:=HP.out p
    have:=HSK.out.1
    simp only [List.length_append,List.length_cons,List.length_nil,ba_len] at *
    omega)
   generalize (nm.data.toList++(ks.take p).flatMap keyText++((⟨#[91]⟩:ByteArray)++k.1++(⟨#[61]⟩:ByteArray)).data.toList)=acc at *
   go_wp2
   clear k31
   go_loopw [6,25] (fun _ jv wr2=>∃ q:Nat,jv=.int .i64 (q:Int)∧KeyAt acc k B kb wA q wr2) (fun _ jv _=>k.2.size-(Lib.intOf jv).toNat)
   case atStart=>exact ⟨0,rfl,HKA.out⟩
   case round =>
    obtain ⟨q,rfl,hI,hB,hK,hq⟩:=hrel
    by_cases hlq:q<k.2.size
    ·have hq2:(q:Int)<(k.2.size:Int):=by omega
     have hqz:(k.2.size:Int)≤2000000:=by have:=HSK.out.2;omega
     have hb8:k.2.data.toList[q]?=some k.2[q]:=by
      have:q<k.2.data.toList.length:=by rw [ba_len];exact hlq
      rw [List.getElem?_eq_getElem this]
      rfl
     have HD:=Lib.hid (dressL_take _ q _ hb8)
     have k1:wr.cell? ⟨kb,1,none⟩=some (.string k.2):=hK.cell 1
     have HSP:=Lib.hid (fun W=>special_any (k.2[q].toNat:Int) W)
     have HDB:=Lib.hid (show dressB k.2[q]=if 0≤specialI (k.2[q].toNat:Int) then [92,k.2[q]] else [k.2[q]] from rfl)
     have HI:=Lib.hid hI
     have HB:=Lib.hid hB
     have HK:=Lib.hid hK
     have HLQ:=Lib.hid (show (acc++dressL (k.2.data.toList.take q)).length≤2700000000000 by
      have h1:=dressL_len (k.2.data.toList.take q)
      have h2:=List.length_take_le' q k.2.data.toList
      have h3:=HLA.out
      have h4:=HSK.out.2
      rw [ba_len] at h2
      simp only [List.length_append]
      omega)
     have HLs:=Lib.hid (show (Lib.byteCells (acc++dressL (k.2.data.toList.take q))).length+1≤140737488355328 by rw [Lib.byteCells_length];have:=HLQ.out;omega)
     have HWs:=Lib.hid (show B≤wr.heap.size from Nat.le_of_lt (sb_lt hI))
     clear hI hB hK hb8
     generalize specialI (k.2[q].toNat:Int)=sp at *
     by_cases hsp:0≤sp
     ·have HX:=Lib.hid (show dressB k.2[q]=[92,k.2[q]] by rw [HDB.out,if_pos hsp])
      have HLs2:=Lib.hid (show (Lib.byteCells (acc++dressL (k.2.data.toList.take q)++[92])).length+1≤140737488355328 by rw [Lib.byteCells_length];have:=HLQ.out;simp only [List.length_append,List.length_cons,List.length_nil] at *;omega)
      go_wp2_with (first
       | (go_at_call 152;refine (HSP.out _).mono ?_;rintro en w3 ⟨rfl,rfl⟩)
       | (go_at_call_of 158 (Value.int IntKind.u8 92);go_loud (refine (sb_byte B B _ _ _ HI.out HLs.out HWs.out).mono ?_;rintro en w4 ⟨rfl,hb4,hB4,hO4⟩;have HI4:=Lib.hid (sb_byt (b:=92) hb4);have HB4:=Lib.hid (HB.out.trans hB4);have hK4:=HK.out.others hO4 (by have:=HKB.out;omega) (by decide);have k41:w4.cell? ⟨kb,1,none⟩=some (.string k.2):=hK4.cell 1;have HK4:=Lib.hid hK4;have HW4:=Lib.hid (Nat.le_of_lt (sb_lt HI4.out));clear hb4 hB4 hO4 hK4))
       | (go_at_call 158;go_loud (refine (sb_byte B B _ _ _ HI4.out HLs2.out HW4.out).mono ?_;rintro en w5 ⟨rfl,hb5,hB5,hO5⟩;have HI5:=Lib.hid (sb_byt (b:=k.2[q]) hb5);have HB5:=Lib.hid (HB4.out.trans hB5);have HK5:=Lib.hid (HK4.out.others hO5 (by have:=HKB.out;omega) (by decide));clear hb5 hB5 hO5)))
      go_roundw
      case rel=>exact ⟨q+1,by simp,by rw [HD.out,HX.out];simpa using HI5.out,HB5.out,HK5.out,hlq⟩
      case measure=>simp [Lib.intOf];omega
     ·have HX:=Lib.hid (show dressB k.2[q]=[k.2[q]] by rw [HDB.out,if_neg hsp])
      go_wp2_with (first
       | (go_at_call 152;refine (HSP.out _).mono ?_;rintro en w3 ⟨rfl,rfl⟩)
       | (go_at_call 158;go_loud (refine (sb_byte B B _ _ _ HI.out HLs.out HWs.out).mono ?_;rintro en w5 ⟨rfl,hb5,hB5,hO5⟩;have HI5:=Lib.hid (sb_byt (b:=k.2[q]) hb5);have HB5:=Lib.hid (HB.out.trans hB5);have HK5:=Lib.hid (HK.out.others hO5 (by have:=HKB.out;omega) (by decide));clear hb5 hB5 hO5)))
      go_roundw
      case rel=>exact ⟨q+1,by simp,by rw [HD.out,HX.out];simpa using HI5.out,HB5.out,HK5.out,hlq⟩
      case measure=>simp [Lib.intOf];omega
    ·have hq2:¬ (q:Int)<(k.2.size:Int):=by omega
     have HT:=Lib.hid (show k.2.data.toList.take q=k.2.data.toList from List.take_of_length_le (by rw [ba_len];omega))
     rw [HT.out] at hI
     have HI:=Lib.hid hI
     have HB:=Lib.hid hB
     have HLs:=Lib.hid (show (Lib.byteCells (acc++dressL k.2.data.toList)).length+1≤140737488355328 by
      have h1:=dressL_len k.2.data.toList
      have h3:=HLA.out
      have h4:=HSK.out.2
      rw [ba_len] at h1
      rw [Lib.byteCells_length]
      simp only [List.length_append]
      omega)
     have HWs:=Lib.hid (show B≤wr.heap.size from Nat.le_of_lt (sb_lt hI))
     clear hI hB hK
     go_wp2_with (go_at_call 158;go_loud (refine (sb_byte B B _ _ _ HI.out HLs.out HWs.out).mono ?_;rintro en w5 ⟨rfl,hb5,hB5,hO5⟩;have HI5:=Lib.hid (sb_byt (b:=93) hb5);have HB5:=Lib.hid (HB.out.trans hB5);clear hb5 hB5 hO5))
     go_roundw
     case rel=>exact ⟨p+1,by simp,textAt_next HKK.out (by rw [←HAC.out];exact HI5.out) HB5.out⟩
     case measure=>simp [Lib.intOf];omega
  ·have hq1:¬ (p:Int)<(n:Int):=by omega
   have HT:=Lib.hid (show ks.take p=ks from List.take_of_length_le (by omega))
   rw [HT.out] at hI
   have HI:=Lib.hid hI
   have HB:=Lib.hid hB
   have HWs:=Lib.hid (show B≤wr.heap.size from Nat.le_of_lt (sb_lt hI))
   clear hI hB
   go_wp2_with (go_at_call 139;go_loud (refine (sb_text B B _ _ HI.out HWs.out).mono ?_;rintro en w5 ⟨rfl,hb5,hB5,hO5⟩;have HB5:=Lib.hid (HB.out.trans hB5);clear hb5 hB5 hO5))
   go_ret
   exact ⟨rfl,HBA.out.trans (HB5.out.mono (by have:=HBe.out;omega))⟩
end
section
open Go.RowKit

def putF:List PStep→Bool→Nat→List (List UInt8)→Except Int (Bool×Nat×List (List UInt8))
 | [],sh,sz,ts=>.ok (sh,sz,ts)
 | st::l,sh,sz,ts =>
  if (mayM st).1=true then putF l (sh && (mayM st).2) (if sz≤513 then sz+((textL st).length+1) else sz) (if sz≤513 then ts++[textL st] else ts)
  else .error 160
def putM (l:List PStep):Except Int (List UInt8):=match putF l (decide (l.length≤64)) 0 [] with
 | .error e=>.error e
 | .ok (sh,sz,ts)=>if sh=true∧sz≤513 then .ok (Lib.join ts [47]) else .error 3
def putS (r:Except Int (List UInt8)):ByteArray:=match r with
 | .ok t=>str t
 | .error _=>ByteArray.empty
def putE (r:Except Int (List UInt8)):Int:=match r with
 | .ok _=>0
 | .error e=>e
def PutPost (l:List PStep)(w:World)(en:Ending)(w':World):Prop:=en=.returned (.tuple #[.string (putS (putM l)),.int .i64 (putE (putM l))])∧Below w.heap.size w w'
def PutIn (w:World)(A:Option Addr)(ls:List LRow)(l:List PStep)(vs:List Value):Prop :=
 ListsAt w A ls∧flatL ls=stepCells l vs∧sumL ls=l.length∧vs.length=l.length ∧
 (∀(i:Nat) (st:PStep) (kv:Value),l[i]?=some st→vs[i]?=some kv→KeysAt w w.heap.size kv st.2)∧(∀ st∈l,StepSmall st)∧l.length≤600000∧ls.length≤1000
def sumT (ts:List (List UInt8)):Nat:=(ts.map fun t=>t.length+1).sum
theorem joinTail_len (r:List (List UInt8)):(Lib.joinTail [47] r).length=sumT r:=by
 induction r with
 | nil=>rfl
 | cons x r ih =>
  simp only [Lib.joinTail,sumT,List.map_cons,List.flatten_cons,List.length_append,List.sum_cons,List.length_cons,List.length_nil] at ih ⊢
  omega
theorem join_len (ts:List (List UInt8)):(Lib.join ts [47]).length≤sumT ts:=by
 cases ts with
 | nil=>simp [Lib.join_nil]
 | cons x r =>
  rw [Lib.join_cons,List.length_append,joinTail_len]
  simp only [sumT,List.map_cons,List.sum_cons]
  omega
theorem str_back (ts:List (List UInt8)):(ts.map str).map (fun s=>s.data.toList)=ts:=by
 rw [List.map_map]
 exact List.map_id'' (fun t=>by simp [str]) ts
/-- Where put's loop is. -/
def PutAt (l:List PStep)(base:Nat)(wA:World)(v4:Value)(cs:List Value)(p:Nat)(sh:Bool)(sz:Nat)(ts:List (List UInt8))(v:Value)(wr:World):Prop :=
 p≤l.length∧(sz≤2600000000000∧sz=sumT ts)∧ts.length≤p∧putF l (decide (l.length≤64)) 0 []=putF (l.drop p) sh sz ts ∧
 wr.ownsRow base 121 2 v4 l.length cs∧wr.ownsRow base 9 1 v ts.length (ts.map fun t=>.string (str t))∧Below base wA wr
theorem string_info:(Tryz.prog.info? 9).map (fun i=>(i.zero,i.size,i.bytes))=some (some (.string ByteArray.empty),1,16):=by kernel_rfl

theorem own_reads {w:World}{base:Nat}{e:TypeId}{size n c:Nat}{A:Option Addr}{xs:List Value}(h:w.ownsRow base e size (.slice A n c) n xs):Reads w w.heap.size size A n xs:=by
 obtain ⟨A',c',heq,-,-,hrd⟩:=own_form h
 cases heq
 exact hrd
theorem KeysAt.more {w w':World}{B B':Nat}{v:Value}{ks:List PKey}(h:KeysAt w B v ks)(hb:Below B w w')(hB:B≤B'):KeysAt w' B' v ks:=by
 obtain ⟨A,c,e,h1,h2,h3⟩:=h
 exact ⟨A,c,e,h1,h2,(h3.below hb).more hB⟩
theorem StepSmall.keys {st:PStep}(h:StepSmall st):KeysSmall st.2∧st.1.size≤140737488355328 :=
 ⟨⟨by have:=h.2.1;omega,fun k hk=>by have:=h.2.2 k hk;omega⟩,by have:=h.1;omega⟩
theorem putF_step {l:List PStep}{p:Nat}{st:PStep}{sh:Bool}{sz:Nat}{ts:List (List UInt8)}(h:l[p]?=some st):putF (l.drop p) sh sz ts =
  if (mayM st).1=true then putF (l.drop (p+1)) (sh && (mayM st).2) (if sz≤513 then sz+((textL st).length+1) else sz) (if sz≤513 then ts++[textL st] else ts) else .error 160:=by
 obtain ⟨hlt,rfl⟩:=List.getElem?_eq_some_iff.1 h
 rw [List.drop_eq_getElem_cons hlt]
 rfl
set_option maxHeartbeats 4000000 in
theorem put_any (A:Option Addr)(m c:Nat)(ls:List LRow)(l:List PStep)(vs:List Value)(w:World)(hm:ls.length=m)(hP:PutIn w A ls l vs) :
  Calls Tryz.prog 84 #[.slice A m c] w (PutPost l w):=by
 obtain ⟨hL,hflat,hsum,hvl,hK,hS,hn,hln⟩:=hP
 have HC:=Lib.hid (concat_any A m c ls w hm hL (by omega) (by omega))
 have HK:=Lib.hid hK
 have HS:=Lib.hid hS
 have HV:=Lib.hid hvl
 have HFS:=Lib.hid (And.intro hflat hsum)
 have HLN:=Lib.hid hn
 clear hL hflat hsum hvl hK hS hln hm
 go_enter Tryz.func84,Tryz.ntmps84
 go_upto_region 2 with (go_at_call 123;go_loud (refine HC.out.mono ?_;rintro en w1 ⟨v4,rfl,hO1,hB1⟩;rw [HFS.out.1,HFS.out.2] at hO1;have HO1:=Lib.hid hO1;have HB1:=Lib.hid hB1;obtain ⟨A4,c4,rfl,-,-,-⟩:=own_form hO1;clear hO1 hB1))
 have hn1:(l.length:Int)≤600000:=by omega
 have HQ0:=Lib.hid (show (decide ((l.length:Int)≤64))=decide (l.length≤64) by rw [decide_eq_decide];omega)
 go_wp2
 generalize (decide ((l.length:Int)≤64))=sh0 at *
 go_loopw [5,6,7,9,10,11,12,20] (fun sv zv tv _ _ _ _ iv W=>∃(p:Nat) (sh:Bool) (sz:Nat) (ts:List (List UInt8)),sv=.bool sh∧zv=.int .i64 (sz:Int)∧iv=.int .i64 (p:Int)∧PutAt l w.heap.size w1 (.slice A4 l.length c4) (stepCells l vs) p sh sz ts tv W) (fun _ _ _ _ _ _ _ iv _=>l.length-(Lib.intOf iv).toNat)
 case atStart=>exact ⟨0,sh0,0,[],rfl,rfl,rfl,Nat.zero_le _,⟨Nat.zero_le _,rfl⟩,Nat.zero_le _,by rw [HQ0.out];rfl,HO1.out,World.ownsRow_nil _ _ _ _,Below.refl _ _⟩
 case round =>
  obtain ⟨p,sh,sz,ts,rfl,rfl,rfl,hp,⟨hsz,hsum⟩,htl,hF,hrow,htx,hB⟩:=hrel
  have HSUM:=Lib.hid hsum
  clear hsum
  obtain ⟨A7,c7,rfl,-,-,-⟩:=own_form htx
  have HF:=Lib.hid hF
  have HROW:=Lib.hid hrow
  have HTX:=Lib.hid htx
  have HB:=Lib.hid hB
  have HSZ:=Lib.hid (And.intro hsz htl)
  clear hF hrow htx hB
  have hszi:(sz:Int)≤2600000000000:=by omega
  clear hsz htl
  by_cases hlt:p<l.length
  ·obtain ⟨st,hst⟩:∃ st,l[p]?=some st:=⟨l[p],by simp [hlt]⟩
   obtain ⟨kv,hkv⟩:∃ kv,vs[p]?=some kv:=⟨vs[p]'(by have:=HV.out;omega),by have:=HV.out;simp [this,hlt]⟩
   have hq:(p:Int)<(l.length:Int):=by omega
   have hk:=HK.out p st kv hst hkv
   have hs:=HS.out st (List.mem_of_getElem? hst)
   obtain ⟨b,o,rfl,hbo,hcells⟩:=Reads.spot (own_reads HROW.out) (by omega) (by omega)
   have hat:=stepCells_at l vs p st kv hst hkv
   have r0:=hcells _ _ hat.1
   have hw1:w.heap.size≤wr.heap.size:=Nat.le_trans HB1.out.size HB.out.size
   have HKA:=Lib.hid (hk.more ((HB1.out.trans HB.out).alloc hw1 (.cells #[.string st.1,kv] 121)) (show w.heap.size≤(wr.alloc (.cells #[.string st.1,kv] 121)).heap.size by simp;omega))
   obtain ⟨Ak,ck,rfl,-,-,-⟩:=hk
   have r1:wr.cell? ⟨b,o+p*2+1,none⟩=some (.slice Ak st.2.length ck):=hcells _ _ hat.2
   have HBK:=Lib.hid (Blk.new wr 121 #[.string st.1,.slice Ak st.2.length ck])
   have HMAY:=Lib.hid (may_any st _ _ HKA.out hs.keys.1 hs.keys.2)
   have HW1:=Lib.hid hw1
   have HSS:=Lib.hid hs
   have HST:=Lib.hid (putF_step (sh:=sh) (sz:=sz) (ts:=ts) hst)
   clear hcells hat hw1 hs hst hkv
   have HBW:=Lib.hid (show Below w.heap.size w (wr.alloc (.cells #[.string st.1,.slice Ak st.2.length ck] 121)) from (HB1.out.trans HB.out).alloc HW1.out _)
   have HWA:=Lib.hid (show w.heap.size≤(wr.alloc (.cells #[.string st.1,.slice Ak st.2.length ck] 121)).heap.size by have:=HW1.out;simp;omega)
   cases hok:(mayM st).1
   ·have HM:=Lib.hid (show putM l=.error 160 by unfold putM;rw [HF.out,HST.out,hok];rfl)
    have HMP:=Lib.hid (show ∀ en W,MayPost st (wr.alloc (.cells #[.string st.1,.slice Ak st.2.length ck] 121)) en W→en=.returned (.tuple #[.bool false,.bool (mayM st).2])∧Below (wr.alloc (.cells #[.string st.1,.slice Ak st.2.length ck] 121)).heap.size (wr.alloc (.cells #[.string st.1,.slice Ak st.2.length ck] 121)) W from fun en W h=>by
     unfold MayPost at h
     rw [hok] at h
     exact h)
    clear hok
    go_wp2_with (go_at_call 124;go_loud (refine HMAY.out.mono ?_;intro en w2 h2;obtain ⟨rfl,hB2⟩:=HMP.out _ _ h2;have HB2:=Lib.hid hB2;clear h2 hB2))
    go_ret2
    exact ⟨by rw [HM.out];rfl,HBW.out.trans (HB2.out.mono HWA.out)⟩
   ·have HMP:=Lib.hid (show ∀ en W,MayPost st (wr.alloc (.cells #[.string st.1,.slice Ak st.2.length ck] 121)) en W→en=.returned (.tuple #[.bool true,.bool (mayM st).2])∧Below (wr.alloc (.cells #[.string st.1,.slice Ak st.2.length ck] 121)).heap.size (wr.alloc (.cells #[.string st.1,.slice Ak st.2.length ck] 121)) W from fun en W h=>by
     unfold MayPost at h
     rw [hok] at h
     exact h)
    have HF2:=Lib.hid (HF.out.trans (HST.out.trans (if_pos hok)))
    clear hok HF HST
    generalize (mayM st).2=fits at *
    have HTX1:=Lib.hid (HTX.out.alloc (.cells #[.string st.1,.slice Ak st.2.length ck] 121))
    have HROW1:=Lib.hid (HROW.out.alloc (.cells #[.string st.1,.slice Ak st.2.length ck] 121))
    clear HTX HROW
    cases sh
    all_goals
     go_upto_region 12 with (go_at_call 124;go_loud (refine HMAY.out.mono ?_;intro en w2 h2;obtain ⟨rfl,hB2⟩:=HMP.out _ _ h2;have HB2:=Lib.hid hB2;have HK2:=Lib.hid (HBK.out.below hB2 (Blk.lt HBK.out));have HTX2:=Lib.hid (own_more HTX1.out hB2);have HROW2:=Lib.hid (own_more HROW1.out hB2);clear h2 hB2 HTX1 HROW1))
     have k90:w2.cell? ⟨wr.heap.size,0,none⟩=some (.string st.1):=HK2.out.cell 0
     have k91:w2.cell? ⟨wr.heap.size,1,none⟩=some (.slice Ak st.2.length ck):=HK2.out.cell 1
     have HTE:=Lib.hid (text_any st (.slice Ak st.2.length ck) w2 (HKA.out.more HB2.out HB2.out.size) HSS.out)
     have HTL:=Lib.hid (textL_len HSS.out)
     clear HMAY HMP HKA HBK
     have HFF:=Lib.hid HF2.out
     clear HF2
     go_upto_region 13 with (go_at_call 125;go_loud (refine HTE.out.mono ?_;rintro en w3 ⟨rfl,hB3⟩;have HB3:=Lib.hid hB3;have HTX3:=Lib.hid (own_more HTX2.out hB3);have HROW3:=Lib.hid (own_more HROW2.out hB3);clear hB3 HTX2 HROW2))
     generalize textL st=T at *
     have htb:(str T).size=T.length:=by show T.toArray.size=T.length;simp
     have HW2:=Lib.hid (show w.heap.size≤w2.heap.size from Nat.le_trans HWA.out HB2.out.size)
     have HBX:=Lib.hid (show Below w.heap.size w1 w3 from ((HB.out.alloc HW1.out _).trans (HB2.out.mono HWA.out)).trans (HB3.out.mono HW2.out))
     have HTB:=Lib.hid htb
     have htbi:((str T).size:Int)≤2500000000000:=by have:=HTL.out;omega
     clear htb
     by_cases h513:sz≤513
     ·have hq2:(sz:Int)≤513:=by omega
      have HF5:=Lib.hid HFF.out
      have H5:=Lib.hid h513
      obtain ⟨i0,hi0,hz0,hz1,hz2⟩:=info_parts string_info
      have HRD:=Lib.hid (reads_new w3 #[.string (str T)] 9 1 1 rfl)
      have HT4:=Lib.hid (HTX3.out.alloc (.cells #[.string (str T)] 9))
      have HR4:=Lib.hid (HROW3.out.alloc (.cells #[.string (str T)] 9))
      have HB4:=Lib.hid (show w.heap.size≤(w3.alloc (.cells #[.string (str T)] 9)).heap.size by have:=HB3.out.size;have:=HB2.out.size;have:=HWA.out;simp only [World.size_alloc] at *;omega)
      clear h513 HTX3 HROW3 HFF
      go_wp2_with (at_builtin;go_loud (refine wpList_append_any _ rfl (.tmp 39) (.tmp 41) _ rfl w.heap.size 9 i0 _ 1 16 Tryz.underlying37 hi0 hz0 hz1 hz2 rfl (by omega) _ ts.length (ts.map fun t=>.string (str t)) rfl HT4.out (w3.heap.size+1) (some ⟨w3.heap.size,0,none⟩) 1 1 [.string (str T)] rfl (HRD.out) (by simp [Value.oneCell']) (by have:=HSZ.out;simp only [maxLen];omega) (by have:=HSZ.out;omega) HB4.out ?_);intro v3 w5 hown3 hg3 hat3;have HO5:=Lib.hid hown3;have HG5:=Lib.hid hg3;clear hown3 hg3 hat3)
      refine ⟨⟨p+1,_,sz+(T.length+1),ts++[T],rfl,by rw [HTB.out];simp,by simp,hlt,⟨by have:=H5.out;have:=HTL.out;omega,by rw [HSUM.out];simp [sumT]⟩,by have:=HSZ.out.2;simp;omega,?_,?_,?_,?_⟩,by simp [Lib.intOf];omega⟩
      ·rw [HF5.out,if_pos H5.out,if_pos H5.out]
       rfl
      ·refine HR4.out.kept HG5.out ?_
       cases hv:(Value.slice (some ⟨b,o,none⟩) l.length c4).ownBlock with
       | none=>exact .inl rfl
       | some k=>exact .inr fun e=>own_other HR4.out HT4.out (by decide) k hv e.symm
      ·rw [List.length_append,List.map_append]
       exact HO5.out
      ·exact (HBX.out.alloc (Nat.le_trans HW2.out HB3.out.size) _).grown HG5.out HB4.out (fun k hk=>(HT4.out.lt k hk).1)
     ·have hq2:¬ (sz:Int)≤513:=by omega
      have HF5:=Lib.hid HFF.out
      have H5:=Lib.hid h513
      clear h513 HFF
      go_wp2
      refine ⟨⟨p+1,_,sz,ts,rfl,rfl,by simp,hlt,⟨HSZ.out.1,HSUM.out⟩,by have:=HSZ.out.2;omega,?_,HROW3.out,HTX3.out,HBX.out⟩,by simp [Lib.intOf];omega⟩
      rw [HF5.out,if_neg H5.out,if_neg H5.out]
      rfl
  ·obtain rfl:p=l.length:=by omega
   have hq:¬ (l.length:Int)<(l.length:Int):=by omega
   have hF2:putF l (decide (l.length≤64)) 0 []=.ok (sh,sz,ts):=by
    rw [HF.out,List.drop_length]
    rfl
   have HF2:=Lib.hid hF2
   have HBW:=Lib.hid (HB1.out.trans HB.out)
   clear hF2 HF
   cases sh
   ·have HM:=Lib.hid (show putM l=.error 3 by unfold putM;rw [HF2.out];simp)
    go_wp2
    go_ret2
    exact ⟨by rw [HM.out];rfl,HBW.out⟩
   ·by_cases h513:sz≤513
    ·have HM:=Lib.hid (show putM l=.ok (Lib.join ts [47]) by unfold putM;rw [HF2.out];simp [h513])
     have hq2:¬ (512:Int)<(sz:Int)-1:=by omega
     have HJL:=Lib.hid (show (Lib.join ts [47]).length≤513 by have:=join_len ts;have:=HSUM.out;omega)
     clear h513
     cases hts:ts with
     | nil =>
      subst hts
      have HJ:=Lib.hid (sj_none A7 c7 ⟨#[47]⟩ wr)
      go_wp2_with (go_at_call 126;go_loud (refine HJ.out.mono ?_;rintro en w5 ⟨rfl,rfl⟩))
      go_ret2
      exact ⟨by rw [HM.out];rfl,HBW.out⟩
     | cons t0 tr =>
      rw [←hts]
      obtain ⟨bk,o,rfl,hbk,hcells⟩:=Reads.spot (own_reads HTX.out) (by rw [hts];simp) (by omega)
      have hJ:=sj_any bk o c7 (ts.map str) ⟨#[47]⟩ wr (fun j x hx=>hcells j _ (by
       rw [List.getElem?_map] at hx ⊢
       cases hj:ts[j]? with
       | none=>rw [hj] at hx;simp at hx
       | some y=>rw [hj] at hx;simp at hx ⊢;exact hx)) hbk (by rw [List.length_map];have:=HSZ.out.2;omega) (by
        obtain ⟨A',c',heq,h1,-,-⟩:=own_form HTX.out
        cases heq
        rw [List.length_map]
        exact h1) (by rw [str_back];exact Nat.le_trans HJL.out (by omega))
      rw [List.length_map,str_back] at hJ
      have HJ:=Lib.hid hJ
      clear hJ hcells hts
      go_wp2_with (go_at_call 126;go_loud (refine HJ.out.mono ?_;rintro en w5 ⟨rfl,hB5⟩))
      go_ret2
      exact ⟨by rw [HM.out];rfl,HBW.out.trans (hB5.mono HBW.out.size)⟩
    ·have HM:=Lib.hid (show putM l=.error 3 by unfold putM;rw [HF2.out];simp [h513])
     have hq2:(512:Int)<(sz:Int)-1:=by omega
     clear h513
     go_wp2
     go_ret2
     exact ⟨by rw [HM.out];rfl,HBW.out⟩
end
section
open Go.RowKit

theorem nameM_small {s:ByteArray}{p q:Nat}{nm:ByteArray}(h:nameM s p=.ok (nm,q))(hp:p≤s.size):nm.size≤64∧p<q:=by
 obtain ⟨h1,h2,rfl,h4,h5⟩:=nameM_ok h hp
 unfold nameErr at h5
 split at h5
 ·rename_i hlt
  split at h5
  ·rename_i hst
   split at h5
   ·cases h5
   ·rename_i h64
    have hn:nameB s[p]=true:=by simp [nameB,hst]
    have e:=nameEnd_step hlt
    rw [if_pos hn] at e
    have l:=(nameEnd_le (s:=s) (p:=p+1) (by omega)).1
    rw [←e,←h4] at l
    rw [←h4] at h64
    refine ⟨?_,by omega⟩
    simp
    omega
  ·cases h5
 ·cases h5
theorem valF_small (s:ByteArray)(fr:Nat):∀(k q:Nat) (esc:Bool) (out l:List UInt8) (r:Nat),valF k s fr q esc out=.ok (l,r)→l.length≤64:=by
 intro k
 induction k with
 | zero=>intro q esc out l r h;cases h
 | succ k ih =>
  intro q esc out l r h
  simp only [valF] at h
  split at h
  ·split at h
   ·split at h
    ·exact ih _ _ _ _ _ h
    ·cases h
   ·split at h
    ·exact ih _ _ _ _ _ h
    ·split at h
     ·split at h
      ·cases h
      ·rename_i h64
       simp only [Except.ok.injEq,Prod.mk.injEq] at h
       rw [←h.1]
       omega
     ·split at h
      ·cases h
      ·exact ih _ _ _ _ _ h
  ·cases h
theorem valAt_small {s:ByteArray}{fr q r:Nat}{esc:Bool}{out l:List UInt8}(h:valAt s fr q esc out=.ok (l,r)):l.length≤64:=valF_small s fr _ q esc out l r h
def KeysTiny (ks:List PKey):Prop:=∀ k∈ks,k.1.size≤64∧k.2.size≤64
theorem keysF_small (s:ByteArray):∀(k p:Nat) (ks l:List PKey) (q:Nat),p≤s.size→keysF k s p ks=.ok (l,q)→KeysTiny ks→ks.length≤p→KeysTiny l∧l.length≤q:=by
 intro k
 induction k with
 | zero=>intro p ks l q hp h ht hl;simp [keysF] at h;rw [←h.1,←h.2];exact ⟨ht,hl⟩
 | succ k ih =>
  intro p ks l q hp h ht hl
  simp only [keysF] at h
  split at h
  ·rename_i hb
   have hlt:=stands_lt hb
   cases hn:nameM s (p+1) with
   | error e=>rw [hn] at h;cases h
   | ok x =>
    obtain ⟨key,q1⟩:=x
    have hq:=nameM_ok hn (by omega)
    have hsm:=nameM_small hn (by omega)
    rw [hn] at h
    simp only at h
    split at h
    ·split at h
     ·cases hv:valAt s (q1+1) (q1+1) false [] with
      | error e=>rw [hv] at h;cases h
      | ok y =>
       obtain ⟨v,r⟩:=y
       have hr:=valAt_ok hv
       have hvs:=valAt_small hv
       rw [hv] at h
       simp only at h
       refine ih r _ _ _ hr.2 h ?_ (by simp;omega)
       intro k hk
       rcases List.mem_append.1 hk with hk | hk
       ·exact ht k hk
       ·simp at hk
        subst hk
        exact ⟨hsm.1,by show (str v).size≤64;rw [show (str v).size=v.length from by show v.toArray.size=_;simp];exact hvs⟩
     ·cases h
    ·cases h
  ·simp at h
   rw [←h.1,←h.2]
   exact ⟨ht,hl⟩
def StepTiny (st:PStep):Prop:=st.1.size≤64∧st.2.length≤512∧KeysTiny st.2
theorem StepTiny.small {st:PStep}(h:StepTiny st):StepSmall st:=⟨by have:=h.1;omega,by have:=h.2.1;omega,fun k hk=>by have:=h.2.2 k hk;omega⟩
theorem stepM_small {s:ByteArray}{p q:Nat}{st:PStep}(h:stepM s p=.ok (st,q))(hp:p≤s.size)(hs:s.size≤512):StepTiny st:=by
 unfold stepM at h
 cases hn:nameM s p with
 | error e=>rw [hn] at h;cases h
 | ok x =>
  obtain ⟨nm,q1⟩:=x
  have hq:=nameM_ok hn hp
  have hsm:=nameM_small hn hp
  rw [hn] at h
  simp only at h
  cases hk:keysM s q1 [] with
  | error e=>rw [hk] at h;cases h
  | ok y =>
   obtain ⟨ks,r⟩:=y
   rw [hk] at h
   simp at h
   have h1:=keysF_small s _ q1 [] ks r hq.2.1 hk (fun k hk=>(by cases hk)) (Nat.zero_le _)
   have h2:=keysF_ok s _ q1 [] ks r hq.2.1 hk
   rw [←h.1]
   exact ⟨hsm.1,by show ks.length≤512;omega,h1.1⟩
theorem stepsF_small (s:ByteArray)(hs:s.size≤512):∀(k p:Nat) (l m:List PStep),p≤s.size→stepsF k s p l=.ok m→(∀ st∈l,StepTiny st)→l.length≤64→(∀ st∈m,StepTiny st)∧m.length≤64∧0<m.length:=by
 intro k
 induction k with
 | zero=>intro p l m hp h;cases h
 | succ k ih =>
  intro p l m hp h ht hl
  simp only [stepsF] at h
  split at h
  ·cases h
  ·rename_i h64
   cases hn:stepM s p with
   | error e=>rw [hn] at h;cases h
   | ok x =>
    obtain ⟨st,q⟩:=x
    have hq:=stepM_ok hn hp
    have hsm:=stepM_small hn hp hs
    rw [hn] at h
    simp only at h
    have hall:∀ x∈l++[st],StepTiny x:=by
     intro x hx
     rcases List.mem_append.1 hx with hx | hx
     ·exact ht x hx
     ·simp at hx;rw [hx];exact hsm
    split at h
    ·simp at h
     rw [←h]
     exact ⟨hall,by simp;omega,by simp⟩
    ·split at h
     ·rename_i hb
      exact ih (q+1) _ _ (stands_lt hb) h hall (by simp;omega)
     ·cases h
theorem parseM_small {s:ByteArray}{l:List PStep}(h:parseM s=.ok l):(∀ st∈l,StepTiny st)∧l.length≤64∧s.size≤512∧(l=[]↔s.size=0):=by
 unfold parseM at h
 split at h
 ·cases h
 ·rename_i h512
  split at h
  ·cases h
  ·split at h
   ·rename_i h0
    simp at h
    subst h
    exact ⟨fun st hst=>(by cases hst),by simp,by omega,by simp [h0]⟩
   ·rename_i h0
    have:=stepsF_small s (by omega) _ 0 [] l (by omega) h (fun st hst=>(by cases hst)) (by simp)
    refine ⟨this.1,this.2.1,by omega,?_⟩
    constructor
    ·rintro rfl
     simp at this
    ·intro e
     exact absurd e h0
def Bad (x:Int):Prop:=x=3∨x=160
theorem nameErr_bad {s:ByteArray}{p:Nat}{x y:Int}(h:nameErr s p=some (x,y)):Bad x:=by
 unfold nameErr at h
 repeat' split at h
 all_goals first | (simp at h;exact .inl h.1.symm) | (simp at h;exact .inr h.1.symm) | cases h
theorem nameM_bad {s:ByteArray}{p:Nat}{x y:Int}(h:nameM s p=.error (x,y)):Bad x:=by
 unfold nameM at h
 cases hn:nameErr s p with
 | none=>rw [hn] at h;cases h
 | some e =>
  rw [hn] at h
  simp at h
  subst h
  exact nameErr_bad hn
theorem valF_bad (s:ByteArray)(fr:Nat):∀(k q:Nat) (esc:Bool) (out:List UInt8) (x y:Int),valF k s fr q esc out=.error (x,y)→Bad x:=by
 intro k
 induction k with
 | zero=>intro q esc out x y h;simp [valF] at h;exact .inr h.1.symm
 | succ k ih =>
  intro q esc out x y h
  simp only [valF] at h
  repeat' split at h
  all_goals first | exact ih _ _ _ _ _ h | (simp at h;exact .inl h.1.symm) | (simp at h;exact .inr h.1.symm) | cases h
theorem keysF_bad (s:ByteArray):∀(k p:Nat) (ks:List PKey) (x y:Int),keysF k s p ks=.error (x,y)→Bad x:=by
 intro k
 induction k with
 | zero=>intro p ks x y h;cases h
 | succ k ih =>
  intro p ks x y h
  simp only [keysF] at h
  split at h
  ·cases hn:nameM s (p+1) with
   | error e=>rw [hn] at h;simp at h;subst h;exact nameM_bad hn
   | ok z =>
    obtain ⟨key,q1⟩:=z
    rw [hn] at h
    simp only at h
    split at h
    ·split at h
     ·cases hv:valAt s (q1+1) (q1+1) false [] with
      | error e=>rw [hv] at h;simp at h;subst h;exact valF_bad _ _ _ _ _ _ _ _ hv
      | ok z2 =>
       obtain ⟨v,r⟩:=z2
       rw [hv] at h
       simp only at h
       exact ih _ _ _ _ h
     ·simp at h;exact .inr h.1.symm
    ·simp at h;exact .inr h.1.symm
  ·cases h
theorem stepM_bad {s:ByteArray}{p:Nat}{x y:Int}(h:stepM s p=.error (x,y)):Bad x:=by
 unfold stepM at h
 cases hn:nameM s p with
 | error e=>rw [hn] at h;simp at h;subst h;exact nameM_bad hn
 | ok z =>
  obtain ⟨nm,q1⟩:=z
  rw [hn] at h
  simp only at h
  cases hk:keysM s q1 [] with
  | error e=>rw [hk] at h;simp at h;subst h;exact keysF_bad _ _ _ _ _ _ hk
  | ok z2=>rw [hk] at h;simp at h
theorem stepsF_bad (s:ByteArray):∀(k p:Nat) (l:List PStep) (x y:Int),stepsF k s p l=.error (x,y)→Bad x:=by
 intro k
 induction k with
 | zero=>intro p l x y h;simp [stepsF] at h;exact .inl h.1.symm
 | succ k ih =>
  intro p l x y h
  simp only [stepsF] at h
  split at h
  ·simp at h;exact .inl h.1.symm
  ·cases hn:stepM s p with
   | error e=>rw [hn] at h;simp at h;subst h;exact stepM_bad hn
   | ok z =>
    obtain ⟨st,q⟩:=z
    rw [hn] at h
    simp only at h
    split at h
    ·cases h
    ·split at h
     ·exact ih _ _ _ _ h
     ·simp at h;exact .inr h.1.symm
theorem parseM_err {s:ByteArray}{x y:Int}(h:parseM s=.error (x,y)):x=3∨x=6∨x=160:=by
 unfold parseM at h
 split at h
 ·simp at h;exact .inl h.1.symm
 ·split at h
  ·simp at h;exact .inr (.inl h.1.symm)
  ·split at h
   ·cases h
   ·rcases stepsF_bad _ _ _ _ _ _ h with h | h
    ·exact .inl h
    ·exact .inr (.inr h)
end
section
open Go.RowKit

/-- The bytes from a to b. -/
def seg (s:ByteArray)(a b:Nat):List UInt8:=(s.data.toList.drop a).take (b-a)
section
variable {s:ByteArray}
theorem seg_append {a b c:Nat}(h1:a≤b)(h2:b≤c):seg s a b++seg s b c=seg s a c:=by
 unfold seg
 rw [show c-a=(b-a)+(c-b) by omega,List.take_add,List.drop_drop,show a+(b-a)=b by omega]
theorem seg_self (a:Nat):seg s a a=[]:=by simp [seg]
theorem seg_one {p:Nat}(h:p<s.size):seg s p (p+1)=[s[p]]:=by
 have hl:p<s.data.toList.length:=by rw [ba_len];exact h
 unfold seg
 rw [List.drop_eq_getElem_cons hl,show p+1-p=1 by omega]
 rfl
theorem seg_all:seg s 0 s.size=s.data.toList:=by
 unfold seg
 rw [List.drop_zero,Nat.sub_zero,List.take_of_length_le (by rw [ba_len];omega)]
theorem extract_seg (p q:Nat):(s.extract p q).data.toList=seg s p q:=by
 rw [ByteArray.data_extract,Array.toList_extract]
 simp [seg,List.extract_eq_take_drop]
theorem brokenAt_go {p:Nat}(h:p<s.size)(hb:brokenAt s p=none):Utf8.decode s p≠(65533,1)∧brokenAt s (p+(Utf8.decode s p).2)=none:=by
 rw [brokenAt_step h] at hb
 split at hb
 ·cases hb
 ·rename_i hne
  exact ⟨hne,hb⟩
theorem brokenAt_ascii {p:Nat}(h:p<s.size)(hb:brokenAt s p=none)(ha:s[p].toNat<128):brokenAt s (p+1)=none:=by
 have:=(brokenAt_go h hb).2
 rw [decode_ascii s p h ha] at this
 exact this
theorem decode_low {p r n:Nat}(h:p<s.size)(hd:Utf8.decode s p=(r,n))(hr:r<128):s[p].toNat=r∧n=1:=by
 by_cases ha:s[p].toNat<128
 ·rw [decode_ascii s p h ha] at hd
  simp at hd
  omega
 ·have:=(decode_high s p h (by omega)).1
  rw [hd] at this
  simp only at this
  omega
end
theorem encode_rune (r:Nat):(Utf8.encode (r:Int)).data.toList=Lib.encodeRune (r:Int):=by
 unfold Lib.encodeRune
 by_cases h1:r≤127
 ·rw [Lib.encodeRuneZ_one (by omega) (by omega)]
  have hv:Utf8.valid (r:Int)=true:=by simp [Utf8.valid];omega
  simp [Utf8.encode,hv,show r<128 by omega]
 ·by_cases h2:r≤2047
  ·rw [Lib.encodeRuneZ_two (by omega) (by omega)]
   have hv:Utf8.valid (r:Int)=true:=by simp [Utf8.valid];omega
   have e1:((192:Int)+(r:Int)/64).toNat=192+r/64:=by omega
   have e2:((128:Int)+(r:Int)%64).toNat=128+r%64:=by omega
   simp only [Utf8.encode,hv,if_true,Int.toNat_natCast,List.map_cons,List.map_nil,e1,e2]
   rw [if_neg (by omega),if_pos (by omega)]
  ·by_cases h3:r<55296∨(57343<r∧r≤65535)
   ·rw [Lib.encodeRuneZ_three (by omega)]
    have hv:Utf8.valid (r:Int)=true:=by simp [Utf8.valid];omega
    have e1:((224:Int)+(r:Int)/4096).toNat=224+r/4096:=by omega
    have e2:((128:Int)+(r:Int)/64%64).toNat=128+r/64%64:=by omega
    have e3:((128:Int)+(r:Int)%64).toNat=128+r%64:=by omega
    simp only [Utf8.encode,hv,if_true,Int.toNat_natCast,List.map_cons,List.map_nil,e1,e2,e3]
    rw [if_neg (by omega),if_neg (by omega),if_pos (by omega)]
   ·by_cases h4:65536≤r∧r≤1114111
    ·rw [Lib.encodeRuneZ_four (by omega) (by omega)]
     have hv:Utf8.valid (r:Int)=true:=by simp [Utf8.valid];omega
     have e1:((240:Int)+(r:Int)/262144).toNat=240+r/262144:=by omega
     have e2:((128:Int)+(r:Int)/4096%64).toNat=128+r/4096%64:=by omega
     have e3:((128:Int)+(r:Int)/64%64).toNat=128+r/64%64:=by omega
     have e4:((128:Int)+(r:Int)%64).toNat=128+r%64:=by omega
     simp only [Utf8.encode,hv,if_true,Int.toNat_natCast,List.map_cons,List.map_nil,e1,e2,e3,e4]
     rw [if_neg (by omega),if_neg (by omega),if_neg (by omega)]
    ·rw [Lib.encodeRuneZ_bad (by omega)]
     have hv:Utf8.valid (r:Int)=false:=by simp [Utf8.valid];omega
     simp [Utf8.encode,hv,Utf8.runeError]
theorem enc_seg {s:ByteArray}{p:Nat}(h:p<s.size)(hd:Utf8.decode s p≠(65533,1)):(Utf8.encode ((Utf8.decode s p).1:Int)).data.toList=seg s p (p+(Utf8.decode s p).2):=by
 rw [encode_rune,←Lib.decodeL_drop]
 rw [Lib.encode_decode _ (fun e=>by have:=congrArg List.length e;rw [List.length_drop,ba_len] at this;simp at this;omega) (fun e=>hd (by rw [←Lib.decodeL_drop];exact Prod.ext e.1 e.2))]
 unfold seg
 rw [show p+(Lib.decodeL (s.data.toList.drop p)).2-p=(Lib.decodeL (s.data.toList.drop p)).2 by omega]
theorem special_iff (b:UInt8):(0≤specialI (b.toNat:Int))↔(b=91∨b=93∨b=47∨b=61∨b=92):=by
 have h:∀ n:Fin 256,(0≤specialI ((UInt8.ofNat n.val).toNat:Int))↔((UInt8.ofNat n.val)=91∨(UInt8.ofNat n.val)=93∨(UInt8.ofNat n.val)=47∨(UInt8.ofNat n.val)=61∨(UInt8.ofNat n.val)=92):=by decide +kernel
 have:=h ⟨b.toNat,b.toNat_lt⟩
 simpa using this
theorem dressL_append (a b:List UInt8):dressL (a++b)=dressL a++dressL b:=by simp [dressL]
theorem dressB_plain {b:UInt8}(h:¬ (0≤specialI (b.toNat:Int))):dressB b=[b]:=by unfold dressB;rw [if_neg h]
theorem dressL_plain:∀(l:List UInt8),(∀ b∈l,¬ (0≤specialI (b.toNat:Int)))→dressL l=l
 | [],_=>rfl
 | b::l,h=>by
  have h1:=dressB_plain (h b (by simp))
  have h2:=dressL_plain l fun x hx=>h x (by simp [hx])
  simp only [dressL,List.flatMap_cons] at h2 ⊢
  rw [h1,h2]
  rfl
theorem rune_high {r:Nat}(h:128≤r):∀ b∈Lib.encodeRune (r:Int),128≤b.toNat:=by
 intro b hb
 obtain ⟨x,hx,rfl⟩:=List.mem_map.1 hb
 have hx2:=Lib.encodeRuneZ_byte (r:Int) x hx
 have:128≤x:=by
  unfold Lib.encodeRuneZ at hx
  repeat' split at hx
  all_goals (simp at hx;omega)
 have e:x.toNat.toUInt8.toNat=x.toNat:=by simp;omega
 omega
def tailE (esc:Bool):List UInt8:=if esc=true then [92] else []
theorem valF_back (s:ByteArray)(fr:Nat):∀(k q:Nat) (esc:Bool) (out l:List UInt8) (r:Nat),valF k s fr q esc out=.ok (l,r)→brokenAt s q=none→fr≤q→q≤s.size→dressL out++tailE esc=seg s fr q →
  seg s fr r=dressL l++[93]∧brokenAt s r=none∧q<r∧r≤s.size:=by
 intro k
 induction k with
 | zero=>intro q esc out l r h;cases h
 | succ k ih =>
  intro q esc out l r h hb h1 h2 hi
  simp only [valF] at h
  split at h
  ·rename_i hq
   have hgo:=brokenAt_go hq hb
   have hd1:=decode_pos s q
   have hd2:=decode_in hq
   have hd:Utf8.decode s q=((Utf8.decode s q).1,(Utf8.decode s q).2):=rfl
   split at h
   ·rename_i he
    split at h
    ·rename_i hsp
     obtain ⟨hb1,hn1⟩:=decode_low hq hd hsp.1
     have hby:(Utf8.decode s q).1.toUInt8=s[q]:=by rw [←hb1];simp
     rw [hn1,hby] at h
     have hb2:=hgo.2
     rw [hn1] at hb2
     refine (ih _ _ _ _ _ h hb2 (by omega) (by omega) ?_).imp_right fun h=>⟨h.1,by omega,h.2.2⟩
     have hs2:0≤specialI (s[q].toNat:Int):=by rw [hb1];exact hsp.2
     rw [dressL_append,show dressL [s[q]]=[92,s[q]] by simp [dressL,dressB,hs2],←seg_append h1 (Nat.le_succ q),←hi,he,seg_one hq]
     simp [tailE]
    ·cases h
   ·rename_i he
    have he:esc=false:=by simpa using he
    subst he
    split at h
    ·rename_i h92
     obtain ⟨hb1,hn1⟩:=decode_low hq hd (by omega)
     rw [hn1] at h
     have hb2:=hgo.2
     rw [hn1] at hb2
     refine (ih _ _ _ _ _ h hb2 (by omega) (by omega) ?_).imp_right fun h=>⟨h.1,by omega,h.2.2⟩
     have hby:s[q]=92:=UInt8.toNat_inj.1 (by rw [hb1,h92];rfl)
     rw [←seg_append h1 (Nat.le_succ q),←hi,seg_one hq,hby]
     simp [tailE]
    ·split at h
     ·rename_i h92 h93
      split at h
      ·cases h
      ·simp only [Except.ok.injEq,Prod.mk.injEq] at h
       obtain ⟨rfl,rfl⟩:=h
       obtain ⟨hb1,hn1⟩:=decode_low hq hd (by omega)
       have hby:s[q]=93:=UInt8.toNat_inj.1 (by rw [hb1,h93];rfl)
       refine ⟨?_,brokenAt_ascii hq hb (by rw [hb1];omega),by omega,by omega⟩
       rw [←seg_append h1 (Nat.le_succ q),←hi,seg_one hq,hby]
       simp [tailE]
     ·split at h
      ·cases h
      ·rename_i h92 h93 hbad
       refine (ih _ _ _ _ _ h hgo.2 (by omega) hd2 ?_).imp_right fun h=>⟨h.1,by omega,h.2.2⟩
       rw [enc_seg hq hgo.1,dressL_append,←seg_append h1 (show q≤q+(Utf8.decode s q).2 by omega),←hi]
       simp only [tailE,Bool.false_eq_true,if_false,List.append_nil]
       congr 1
       rw [←enc_seg hq hgo.1]
       refine dressL_plain _ ?_
       intro b hbm
       rw [special_iff]
       by_cases hr:(Utf8.decode s q).1<128
       ·have e:(Utf8.encode ((Utf8.decode s q).1:Int)).data.toList=[(Utf8.decode s q).1.toUInt8]:=by
         rw [encode_rune]
         unfold Lib.encodeRune
         rw [Lib.encodeRuneZ_one (by omega) (by omega)]
         simp
        rw [e] at hbm
        simp at hbm
        have hbn:b.toNat=(Utf8.decode s q).1:=by rw [hbm];simp;omega
        have hz:¬ ((Utf8.decode s q).1=91∨(Utf8.decode s q).1=47∨(Utf8.decode s q).1=61):=fun h=>hbad (.inr h)
        rintro (rfl | rfl | rfl | rfl | rfl) <;> simp at hbn <;> omega
       ·rw [encode_rune] at hbm
        have:=rune_high (by omega) b hbm
        rintro (rfl | rfl | rfl | rfl | rfl) <;> simp at this
  ·cases h
theorem nameB_low {b:UInt8}(h:nameB b=true):b.toNat<128:=by
 have hh:∀ n:Fin 256,nameB (UInt8.ofNat n.val)=true→(UInt8.ofNat n.val).toNat<128:=by decide +kernel
 have:=hh ⟨b.toNat,b.toNat_lt⟩
 simp only [UInt8.ofNat_toNat] at this
 exact this h
theorem nameEndF_valid (s:ByteArray):∀ k p,p≤s.size→brokenAt s p=none→brokenAt s (nameEndF k s p)=none:=by
 intro k
 induction k with
 | zero=>intro p _ h;exact h
 | succ k ih =>
  intro p hp h
  simp only [nameEndF]
  split
  ·rename_i hlt
   split
   ·rename_i hn
    exact ih (p+1) hlt (brokenAt_ascii hlt h (nameB_low hn))
   ·exact h
  ·exact h
theorem stands_valid {s:ByteArray}{p:Nat}{b:UInt8}(h:standsB s p b=true)(hb:b.toNat<128)(hv:brokenAt s p=none):brokenAt s (p+1)=none∧seg s p (p+1)=[b]:=by
 obtain ⟨hl,he⟩:=stands_at h
 exact ⟨brokenAt_ascii hl hv (by rw [he];exact hb),by rw [seg_one hl,he]⟩
theorem keysF_back (s:ByteArray):∀(k p:Nat) (ks l:List PKey) (q:Nat),p≤s.size→brokenAt s p=none→keysF k s p ks=.ok (l,q)→l.flatMap keyText=ks.flatMap keyText++seg s p q∧brokenAt s q=none∧p≤q∧q≤s.size:=by
 intro k
 induction k with
 | zero =>
  intro p ks l q hp hb h
  simp [keysF] at h
  rw [←h.1,←h.2,seg_self]
  exact ⟨by simp,hb,Nat.le_refl _,hp⟩
 | succ k ih =>
  intro p ks l q hp hb h
  simp only [keysF] at h
  split at h
  ·rename_i hbr
   have hlt:=stands_lt hbr
   have hv1:=stands_valid hbr (by decide) hb
   cases hn:nameM s (p+1) with
   | error e=>rw [hn] at h;cases h
   | ok x =>
    obtain ⟨key,q1⟩:=x
    have hq:=nameM_ok hn (by omega)
    rw [hn] at h
    simp only at h
    split at h
    ·split at h
     ·rename_i hr he
      have hvn:brokenAt s q1=none:=by rw [hq.2.2.2.1];exact nameEndF_valid s _ _ (by omega) hv1.1
      have hv2:=stands_valid he (by decide) hvn
      have hlt2:=stands_lt he
      cases hv:valAt s (q1+1) (q1+1) false [] with
      | error e=>rw [hv] at h;cases h
      | ok y =>
       obtain ⟨v,r⟩:=y
       rw [hv] at h
       simp only at h
       have hvb:=valF_back s (q1+1) _ (q1+1) false [] v r hv hv2.1 (Nat.le_refl _) (by omega) (by simp [tailE,dressL,seg_self])
       obtain ⟨e1,e2,e3,e4⟩:=ih r _ _ _ hvb.2.2.2 hvb.2.1 h
       refine ⟨?_,e2,by omega,e4⟩
       rw [e1,List.flatMap_append,List.append_assoc]
       congr 1
       rw [←seg_append (show p≤p+1 by omega) (show p+1≤q by omega),←seg_append (show p+1≤q1 by omega) (show q1≤q by omega),←seg_append (show q1≤q1+1 by omega) (show q1+1≤q by omega),←seg_append (show q1+1≤r by omega) e3,
        hv1.2,hv2.2,hvb.1,←extract_seg (p+1) q1,←hq.2.2.1]
       simp [keyText,str]
     ·cases h
    ·cases h
  ·simp at h
   rw [←h.1,←h.2,seg_self]
   exact ⟨by simp,hb,Nat.le_refl _,hp⟩
theorem stepM_back {s:ByteArray}{p q:Nat}{st:PStep}(h:stepM s p=.ok (st,q))(hp:p≤s.size)(hb:brokenAt s p=none):textL st=seg s p q∧brokenAt s q=none∧p≤q∧q≤s.size:=by
 unfold stepM at h
 cases hn:nameM s p with
 | error e=>rw [hn] at h;cases h
 | ok x =>
  obtain ⟨nm,q1⟩:=x
  have hq:=nameM_ok hn hp
  rw [hn] at h
  simp only at h
  cases hk:keysM s q1 [] with
  | error e=>rw [hk] at h;cases h
  | ok y =>
   obtain ⟨ks,r⟩:=y
   rw [hk] at h
   simp at h
   have hvn:brokenAt s q1=none:=by rw [hq.2.2.2.1];exact nameEndF_valid s _ _ hp hb
   obtain ⟨e1,e2,e3,e4⟩:=keysF_back s _ q1 [] ks r hq.2.1 hvn hk
   rw [←h.1,←h.2]
   refine ⟨?_,e2,by omega,e4⟩
   simp only [textL]
   rw [e1,hq.2.2.1,extract_seg,←seg_append hq.1 e3]
   simp
theorem stepsF_back (s:ByteArray):∀(k p:Nat) (l m:List PStep),p≤s.size→brokenAt s p=none→stepsF k s p l=.ok m→∃ rest,m=l++rest∧rest≠[]∧Lib.join (rest.map textL) [47]=seg s p s.size:=by
 intro k
 induction k with
 | zero=>intro p l m hp hb h;cases h
 | succ k ih =>
  intro p l m hp hb h
  simp only [stepsF] at h
  split at h
  ·cases h
  ·cases hn:stepM s p with
   | error e=>rw [hn] at h;cases h
   | ok x =>
    obtain ⟨st,q⟩:=x
    obtain ⟨e1,e2,e3,e4⟩:=stepM_back hn hp hb
    rw [hn] at h
    simp only at h
    split at h
    ·rename_i hq
     simp at h
     exact ⟨[st],h.symm,by simp,by rw [←hq];simp [Lib.join_one,e1]⟩
    ·split at h
     ·rename_i hbr
      have hv:=stands_valid hbr (by decide) e2
      have hlt:=stands_lt hbr
      obtain ⟨rest,r1,r2,r3⟩:=ih (q+1) _ _ hlt hv.1 h
      refine ⟨st::rest,by rw [r1];simp,by simp,?_⟩
      rw [List.map_cons,Lib.join_cons]
      cases rest with
      | nil=>exact absurd rfl r2
      | cons y ys =>
       rw [List.map_cons] at r3 ⊢
       rw [Lib.join_cons] at r3
       have:Lib.joinTail [47] (textL y::List.map textL ys)=[47]++(textL y++Lib.joinTail [47] (List.map textL ys)):=by simp [Lib.joinTail]
       rw [this,r3,e1,←seg_append e3 e4,←seg_append (show q≤q+1 by omega) (show q+1≤s.size by omega),hv.2]
     ·cases h
theorem parse_text {s:ByteArray}{l:List PStep}(h:parseM s=.ok l):Lib.join (l.map textL) [47]=s.data.toList:=by
 unfold parseM at h
 split at h
 ·cases h
 ·split at h
  ·cases h
  ·rename_i hbr
   split at h
   ·rename_i h0
    simp at h
    subst h
    have:s.data.toList=[]:=List.eq_nil_of_length_eq_zero (by rw [ba_len];exact h0)
    rw [this]
    rfl
   ·obtain ⟨rest,r1,r2,r3⟩:=stepsF_back s _ 0 [] l (Nat.zero_le _) hbr h
    rw [r1,List.nil_append,r3,seg_all]
end
section
open Go.RowKit

theorem ba_ext {a b:ByteArray}(h:a.toList=b.toList):a=b:=by
 rw [Lib.toList_data,Lib.toList_data] at h
 obtain ⟨⟨x⟩⟩:=a
 obtain ⟨⟨y⟩⟩:=b
 simp only at h
 rw [h]
theorem ba_beq (a b:ByteArray):(a.toList == b.toList)=decide (a=b):=by
 by_cases h:a=b
 ·subst h;simp
 ·have:a.toList≠b.toList:=fun e=>h (ba_ext e)
  simp [h,this]
/-- A row of steps, read. -/
def StepsR (w:World)(v:Value)(l:List PStep)(vs:List Value):Prop :=
 ∃ A c,v=.slice A l.length c∧l.length≤c∧c≤maxLen∧Reads w w.heap.size 2 A l.length (stepCells l vs)∧vs.length=l.length∧(∀(i:Nat) (st:PStep) (kv:Value),l[i]?=some st→vs[i]?=some kv→KeysAt w w.heap.size kv st.2)
theorem StepsR.more {w w':World}{v:Value}{l:List PStep}{vs:List Value}(h:StepsR w v l vs)(hb:Below w.heap.size w w'):StepsR w' v l vs:=by
 obtain ⟨A,c,e,h1,h2,h3,h4,h5⟩:=h
 exact ⟨A,c,e,h1,h2,(h3.below hb).more hb.size,h4,fun i st kv hi hj=>(h5 i st kv hi hj).more hb hb.size⟩
theorem StepsIn.reads {w:World}{base:Nat}{v:Value}{l:List PStep}{vs:List Value}(h:StepsIn w base v l vs):StepsR w v l vs:=by
 obtain ⟨h1,h2,h3⟩:=h
 obtain ⟨A,c,rfl,a,b,hr⟩:=own_form h2
 refine ⟨A,c,rfl,a,b,hr,h1,fun i st kv hi hj=>?_⟩
 obtain ⟨A',c',rfl,a',b',hr'⟩:=own_form (h3.1 i st kv hi hj)
 exact ⟨A',c',rfl,a',b',hr'⟩
end
section
open Go.RowKit

def ParseSays (s:ByteArray)(w:World)(en:Ending)(w':World):Prop:=Below w.heap.size w w' ∧
 ((∃ x y,parseM s=.error (x,y)∧en=.returned (.tuple #[.slice none 0 0,.agg #[.int .i64 x,.int .i64 y]]))∨(∃ l v,parseM s=.ok l∧en=.returned (.tuple #[v,.agg #[.int .i64 0,.int .i64 0]])∧StepsOwn w' w.heap.size v l))
theorem parse_says (s:ByteArray)(w:World)(hs:s.size≤140737488355328):Calls Tryz.prog 60 #[.string s] w (ParseSays s w):=parse_any s w hs
theorem results_row {fn:Func}{P:Program}{p:Tmp}{ty:TypeId}(h:fn.results=#[.cell p ty])(tmps:Array Value)(w:World)(g:Nat)(t:TypeId)(cs:Array Value)(d:TypeDesc)
  (hp:tmps.getD p undef=.pointer (some ⟨g,0,none⟩))(hg:Blk w g t cs)
  (hu:P.underlying ty=some d)(hd:(match d with | .struct _ | .array _ _=>true | _=>false)=true)(hi:(P.info? ty).map (·.size)=some cs.size):(results fn tmps).run P w=.ok (.agg cs) w :=
 results_cell_row h tmps w g t cs (0,0) d hp hg hu hd hi
theorem check_result {tmps:Array Value}{w:World}{r0:Nat}{x y:Int}(hB:Blk w r0 116 #[.int .i64 x,.int .i64 y])(hp:tmps.getD 2 undef=.pointer (some ⟨r0,0,none⟩)) :
  (results Tryz.f118 tmps).run Tryz.prog w=.ok (.agg #[.int .i64 x,.int .i64 y]) w :=
 results_row Tryz.results118 tmps w r0 116 #[.int .i64 x,.int .i64 y] _ hp hB Tryz.underlying116 rfl spot_info
def errOf (s:ByteArray):Int×Int:=match parseM s with
 | .error e=>e
 | .ok _=>(0,0)
def CheckPost (s:ByteArray)(w:World)(en:Ending)(w':World):Prop:=en=.returned (.agg #[.int .i64 (errOf s).1,.int .i64 (errOf s).2])∧Below w.heap.size w w'
set_option maxHeartbeats 1000000 in
theorem pcheck_any (s:ByteArray)(w:World)(hs:s.size≤140737488355328) :
  Calls Tryz.prog 118 #[.string s] w (CheckPost s w):=by
 have HP:=Lib.hid (fun W=>parse_says s W hs)
 have HB0:=Lib.hid (Blk.new w 116 #[.int .i64 0,.int .i64 0])
 have HBA:=Lib.hid (show Below w.heap.size w (w.alloc (.cells #[.int .i64 0,.int .i64 0] 116)) from (Below.refl _ _).alloc (Nat.le_refl _) _)
 go_enter Tryz.func118,Tryz.ntmps118
 go_upto_region 2 with (go_at_call 60;go_loud (refine (HP.out _).mono ?_;rintro en w1 ⟨hB1,⟨x,y,hE,rfl⟩ | ⟨l,v,hE,rfl,hO⟩⟩;rotate_left;obtain ⟨vs,hI⟩:=hO;obtain ⟨A1,c1,rfl,-,-,-⟩:=own_form hI.2.1;clear hI;rotate_right;all_goals (have HE:=Lib.hid hE;have HB1:=Lib.hid hB1;have HK:=Lib.hid (HB0.out.below hB1 (Blk.lt HB0.out));clear hE hB1)))
 ·have HX:=Lib.hid (show errOf s=(x,y) by unfold errOf;rw [HE.out])
  have hk:=HK.out.alloc (.cells #[.int .i64 x,.int .i64 y] 116)
  have hn:=Blk.new w1 116 #[.int .i64 x,.int .i64 y]
  have HB2:=Lib.hid (show Below w.heap.size w (w1.alloc (.cells #[.int .i64 x,.int .i64 y] 116)) from (HBA.out.trans (HB1.out.mono (by simp))).alloc (by have:=HB1.out.size;simp at this;omega) _)
  generalize w1.alloc (.cells #[.int .i64 x,.int .i64 y] 116)=w2 at *
  obtain ⟨b0,b1,b2,b3,b4,b5⟩:=hk.two (.int .i64 x)
  have k0:w2.cell? ⟨w1.heap.size,0,none⟩=some (.int .i64 x):=hn.cell 0
  have k1:w2.cell? ⟨w1.heap.size,1,none⟩=some (.int .i64 y):=hn.cell 1
  have HK2:=Lib.hid (hk.two_set (.int .i64 x) (.int .i64 y))
  clear hk hn HK
  go_wp2
  refine bodyPost_ret (check_result HK2.out rfl) rfl ⟨by rw [HX.out],(HB2.out.setCell (by simp) _).setCell (by simp) _⟩
 ·have HX:=Lib.hid (show errOf s=(0,0) by unfold errOf;rw [HE.out])
  have hk:=HK.out.alloc (.cells #[.int .i64 0,.int .i64 0] 116)
  have hn:=Blk.new w1 116 #[.int .i64 0,.int .i64 0]
  have HB2:=Lib.hid (show Below w.heap.size w (w1.alloc (.cells #[.int .i64 0,.int .i64 0] 116)) from (HBA.out.trans (HB1.out.mono (by simp))).alloc (by have:=HB1.out.size;simp at this;omega) _)
  generalize w1.alloc (.cells #[.int .i64 0,.int .i64 0] 116)=w2 at *
  obtain ⟨b0,b1,b2,b3,b4,b5⟩:=hk.two (.int .i64 0)
  have k0:w2.cell? ⟨w1.heap.size,0,none⟩=some (.int .i64 0):=hn.cell 0
  have k1:w2.cell? ⟨w1.heap.size,1,none⟩=some (.int .i64 0):=hn.cell 1
  have HK2:=Lib.hid (hk.two_set (.int .i64 0) (.int .i64 0))
  clear hk hn HK
  go_wp2
  refine bodyPost_ret (check_result HK2.out rfl) rfl ⟨by rw [HX.out],(HB2.out.setCell (by simp) _).setCell (by simp) _⟩

theorem stepCells_mem:∀(l:List PStep) (vs:List Value) (u:Value),u∈stepCells l vs→(∃ s,u=.string s)∨(∃(i:Nat) (st:PStep),l[i]?=some st∧vs[i]?=some u)
 | [],_,_,h=>by simp [stepCells] at h
 | _::_,[],_,h=>by simp [stepCells] at h
 | st::l,v::vs,u,h=>by
  simp only [stepCells,List.mem_cons] at h
  rcases h with h | h | h
  ·exact .inl ⟨_,h⟩
  ·exact .inr ⟨0,st,rfl,by rw [h];rfl⟩
  ·rcases stepCells_mem l vs u h with h | ⟨i,st',h1,h2⟩
   ·exact .inl h
   ·exact .inr ⟨i+1,st',by simpa using h1,by simpa using h2⟩
theorem stepCells_one {w:World}{v:Value}{l:List PStep}{vs:List Value}(h:StepsR w v l vs):∀ u∈stepCells l vs,u.oneCell'=true:=by
 intro u hu
 obtain ⟨_,_,_,_,_,_,_,h5⟩:=h
 rcases stepCells_mem l vs u hu with ⟨s,rfl⟩ | ⟨i,st,h1,h2⟩
 ·rfl
 ·obtain ⟨A,c,rfl,_⟩:=h5 i st u h1 h2
  rfl
/-- put of one list of steps. -/
theorem put_one (v:Value)(l:List PStep)(vs:List Value)(w:World)(h:StepsR w v l vs)(hs:∀ st∈l,StepSmall st)(hl:l.length≤600000) :
  Calls Tryz.prog 84 #[.slice (some ⟨w.heap.size,0,none⟩) 1 1] (w.alloc (.cells #[v] 115)) (PutPost l (w.alloc (.cells #[v] 115))):=by
 have hb:Below w.heap.size w (w.alloc (.cells #[v] 115)):=(Below.refl _ _).alloc (Nat.le_refl _) _
 have h':=h.more hb
 have hone:=stepCells_one h'
 obtain ⟨A,c,rfl,h1,h2,h3,h4,h5⟩:=h'
 refine put_any _ 1 1 [(.slice A l.length c,l.length,stepCells l vs)] l vs _ rfl ⟨⟨?_,?_⟩,by simp [flatL],by simp [sumL],h4,h5,hs,hl,by simp⟩
 ·have:=reads_new w #[.slice A l.length c] 115 1 1 rfl
  simpa using this
 ·intro x hx
  simp at hx
  subst hx
  exact ⟨⟨A,c,rfl,h1,h2,h3⟩,hone⟩
end
section
open Go.RowKit

theorem print_any (v:Value)(l:List PStep)(vs:List Value)(w:World)(h:StepsR w v l vs)(hs:∀ st∈l,StepSmall st)(hl:l.length≤600000) :
  Calls Tryz.prog 63 #[v] w (PutPost l w):=by
 have HP:=Lib.hid (put_one v l vs w h hs hl)
 obtain ⟨A,c,rfl,-,-,-,-,-⟩:=h
 go_enter Tryz.func63,Tryz.ntmps63
 go_wp2_with (go_at_call 84;go_loud (refine HP.out.mono ?_;rintro en w1 ⟨rfl,hB1⟩))
 go_ret2
 exact ⟨rfl,((Below.refl _ _).alloc (Nat.le_refl _) _).trans (hB1.mono (by simp))⟩

def rightB (a:ByteArray):Bool:=(errOf a).1 == 0
theorem rightB_ok {a:ByteArray}:rightB a=true↔∃ l,parseM a=.ok l:=by
 unfold rightB errOf
 cases ha:parseM a with
 | ok l=>simp
 | error e =>
  obtain ⟨x,y⟩:=e
  have:=parseM_err ha
  simp
  omega
end
end Go.Proofs.YthdldooilcbmlaaGreatDoor
