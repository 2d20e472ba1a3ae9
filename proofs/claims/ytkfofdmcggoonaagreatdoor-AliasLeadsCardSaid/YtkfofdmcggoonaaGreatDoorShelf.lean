/-
  The shelf's contracts on strings.Builder and strings.Join, laid at this program (printed by a program of mine out of the shelf's own command). No condition beyond those that each names.
-/
import Derived.Shelf.Strings.BuilderK
import Derived.Shelf.Strings.OnBuilder
import Derived.Test.YtkfofdmcggoonaaGreatDoorProg
namespace Go.Proofs.YtkfofdmcggoonaaGreatDoor
open Go.Shelf
def shelfRen : Go.Shelf.Ren := ⟨fun | 156 => 81 | 165 => 106 | 166 => 103 | 169 => 105 | 240 => 113 | 241 => 114 | 276 => 117 | 277 => 118 | 167 => 104 | n => n, fun | 31 => 37 | 9 => 9 | 3 => 3 | 4 => 4 | 0 => 0 | 20 => 20 | 72 => 134 | 76 => 137 | 70 => 131 | 37 => 132 | 75 => 136 | 127 => 150 | 164 => 152 | 5 => 5 | 80 => 76 | n => n, fun | n => n⟩
theorem shelf156 : Go.Proofs.Lays.n156 Tryz.prog shelfRen := {
  mixed := by kernel_rfl
  f156 := Tryz.func81.trans (congrArg some (by kernel_rfl))
  f165 := Tryz.func106.trans (congrArg some (by kernel_rfl))
  f166 := Tryz.func103.trans (congrArg some (by kernel_rfl))
  f169 := Tryz.func105.trans (congrArg some (by kernel_rfl))
  f240 := Tryz.func113.trans (congrArg some (by kernel_rfl))
  f241 := Tryz.func114.trans (congrArg some (by kernel_rfl))
  f276 := Tryz.func117.trans (congrArg some (by kernel_rfl))
  f277 := Tryz.func118.trans (congrArg some (by kernel_rfl))
  t0 := Tryz.underlying0
  a0 := Tryz.isAgg0
  z0 := Tryz.sizeOf0
  v0 := Tryz.zeroValue0
  t3 := Tryz.underlying3
  a3 := Tryz.isAgg3
  z3 := Tryz.sizeOf3
  v3 := Tryz.zeroValue3
  t4 := Tryz.underlying4
  a4 := Tryz.isAgg4
  z4 := Tryz.sizeOf4
  v4 := Tryz.zeroValue4
  t9 := Tryz.underlying9
  a9 := Tryz.isAgg9
  z9 := Tryz.sizeOf9
  v9 := Tryz.zeroValue9
  t20 := Tryz.underlying20
  a20 := Tryz.isAgg20
  z20 := Tryz.sizeOf20
  v20 := Tryz.zeroValue20
  t31 := Tryz.underlying37
  a31 := Tryz.isAgg37
  z31 := Tryz.sizeOf37
  v31 := Tryz.zeroValue37
  t37 := Tryz.underlying132
  a37 := Tryz.isAgg132
  z37 := Tryz.sizeOf132
  v37 := Tryz.zeroValue132
  t70 := Tryz.underlying131
  a70 := Tryz.isAgg131
  z70 := Tryz.sizeOf131
  v70 := Tryz.zeroValue131
  t72 := Tryz.underlying134
  a72 := Tryz.isAgg134
  z72 := Tryz.sizeOf134
  v72 := Tryz.zeroValue134
  t75 := Tryz.underlying136
  a75 := Tryz.isAgg136
  z75 := Tryz.sizeOf136
  v75 := Tryz.zeroValue136
  t76 := Tryz.underlying137
  a76 := Tryz.isAgg137
  z76 := Tryz.sizeOf137
  v76 := Tryz.zeroValue137
  t127 := Tryz.underlying150
  a127 := Tryz.isAgg150
  z127 := Tryz.sizeOf150
  v127 := Tryz.zeroValue150
  t164 := Tryz.underlying152
  a164 := Tryz.isAgg152
  z164 := Tryz.sizeOf152
  v164 := Tryz.zeroValue152 }
theorem shelfX : Go.Proofs.Builder.Extra Tryz.prog shelfRen := {
  sizeBuilder := by kernel_rfl
  liesBuilder := by kernel_rfl
  t5 := Tryz.underlying5
  a5 := Tryz.isAgg5
  z5 := Tryz.sizeOf5
  v5 := Tryz.zeroValue5
  infoByte := by kernel_rfl
  cellsByte := by kernel_rfl
  sizeByte := by kernel_rfl
  neB5 := by decide }
theorem shelf166 : Go.Proofs.Lays.n166 Tryz.prog shelfRen := {
  mixed := shelf156.mixed
  f166 := shelf156.f166
  f240 := shelf156.f240
  f276 := shelf156.f276
  t0 := shelf156.t0
  a0 := shelf156.a0
  z0 := shelf156.z0
  v0 := shelf156.v0
  t3 := shelf156.t3
  a3 := shelf156.a3
  z3 := shelf156.z3
  v3 := shelf156.v3
  t4 := shelf156.t4
  a4 := shelf156.a4
  z4 := shelf156.z4
  v4 := shelf156.v4
  t9 := shelf156.t9
  a9 := shelf156.a9
  z9 := shelf156.z9
  v9 := shelf156.v9
  t20 := shelf156.t20
  a20 := shelf156.a20
  z20 := shelf156.z20
  v20 := shelf156.v20
  t37 := shelf156.t37
  a37 := shelf156.a37
  z37 := shelf156.z37
  v37 := shelf156.v37
  t70 := shelf156.t70
  a70 := shelf156.a70
  z70 := shelf156.z70
  v70 := shelf156.v70
  t72 := shelf156.t72
  a72 := shelf156.a72
  z72 := shelf156.z72
  v72 := shelf156.v72
  t75 := shelf156.t75
  a75 := shelf156.a75
  z75 := shelf156.z75
  v75 := shelf156.v75
  t164 := shelf156.t164
  a164 := shelf156.a164
  z164 := shelf156.z164
  v164 := shelf156.v164 }
theorem shelf167 : Go.Proofs.Lays.n167 Tryz.prog shelfRen := {
  mixed := shelf156.mixed
  f167 := Tryz.func104.trans (congrArg some (by kernel_rfl))
  f240 := shelf156.f240
  f276 := shelf156.f276
  t0 := shelf156.t0
  a0 := shelf156.a0
  z0 := shelf156.z0
  v0 := shelf156.v0
  t4 := shelf156.t4
  a4 := shelf156.a4
  z4 := shelf156.z4
  v4 := shelf156.v4
  t5 := shelfX.t5
  a5 := shelfX.a5
  z5 := shelfX.z5
  v5 := shelfX.v5
  t9 := shelf156.t9
  a9 := shelf156.a9
  z9 := shelf156.z9
  v9 := shelf156.v9
  t20 := shelf156.t20
  a20 := shelf156.a20
  z20 := shelf156.z20
  v20 := shelf156.v20
  t37 := shelf156.t37
  a37 := shelf156.a37
  z37 := shelf156.z37
  v37 := shelf156.v37
  t70 := shelf156.t70
  a70 := shelf156.a70
  z70 := shelf156.z70
  v70 := shelf156.v70
  t72 := shelf156.t72
  a72 := shelf156.a72
  z72 := shelf156.z72
  v72 := shelf156.v72
  t75 := shelf156.t75
  a75 := shelf156.a75
  z75 := shelf156.z75
  v75 := shelf156.v75
  t164 := shelf156.t164
  a164 := shelf156.a164
  z164 := shelf156.z164
  v164 := shelf156.v164 }
theorem shelf169 : Go.Proofs.Lays.n169 Tryz.prog shelfRen := {
  mixed := shelf156.mixed
  f169 := shelf156.f169
  t0 := shelf156.t0
  a0 := shelf156.a0
  z0 := shelf156.z0
  v0 := shelf156.v0
  t3 := shelf156.t3
  a3 := shelf156.a3
  z3 := shelf156.z3
  v3 := shelf156.v3
  t9 := shelf156.t9
  a9 := shelf156.a9
  z9 := shelf156.z9
  v9 := shelf156.v9
  t37 := shelf156.t37
  a37 := shelf156.a37
  z37 := shelf156.z37
  v37 := shelf156.v37
  t70 := shelf156.t70
  a70 := shelf156.a70
  z70 := shelf156.z70
  v70 := shelf156.v70
  t72 := shelf156.t72
  a72 := shelf156.a72
  z72 := shelf156.z72
  v72 := shelf156.v72
  t127 := shelf156.t127
  a127 := shelf156.a127
  z127 := shelf156.z127
  v127 := shelf156.v127 }
open Go.RowKit in
theorem sb_byte (B b : Nat) (bs : List Value) (c : Int) (w : World) (h : Lib.IsBuilderF 134 5 B b bs w) (hlen : bs.length + 1 ≤ 140737488355328) (hBw : B ≤ w.heap.size) :
    Calls Tryz.prog 104 #[.pointer (some ⟨b, 0, none⟩), .int .u8 c] w fun e w' => e = .returned .nilIface ∧ (Lib.BuilderAtF 134 5 B b (.pointer (some ⟨b, 0, none⟩)) (bs ++ [.int .u8 c]) w' ∧ Below B w w' ∧ Lib.OthersKept 5 (some b) w w') := Go.Proofs.Any.Builder_WriteByte_k shelf167 shelfX B b bs c w h hlen hBw
open Go.RowKit in
theorem sb_string (B b : Nat) (bs : List Value) (s : ByteArray) (w : World) (h : Lib.IsBuilderF 134 5 B b bs w) (hlen : bs.length + s.size ≤ 140737488355328) (hBw : B ≤ w.heap.size) :
    Calls Tryz.prog 103 #[.pointer (some ⟨b, 0, none⟩), .string s] w fun e w' => e = .returned (.tuple #[.int .i64 s.size, .nilIface]) ∧ (Lib.BuilderAtF 134 5 B b (.pointer (some ⟨b, 0, none⟩)) (bs ++ Lib.strCells s) w' ∧ Below B w w' ∧ Lib.OthersKept 5 (some b) w w') := Go.Proofs.Any.Builder_WriteString_k shelf166 shelfX B b bs s w h hlen hBw
open Go.RowKit in
theorem sb_text (B b : Nat) (l : List UInt8) (w : World) (h : Lib.IsBuilderF 134 5 B b (Lib.byteCells l) w) (hBw : B ≤ w.heap.size) :
    Calls Tryz.prog 105 #[.pointer (some ⟨b, 0, none⟩)] w fun e w' => e = .returned (.string ⟨l.toArray⟩) ∧ (Lib.IsBuilderF 134 5 B b (Lib.byteCells l) w' ∧ Below B w w' ∧ Lib.OthersKept 5 (some b) w w') := Go.Proofs.Any.Builder_String_any_k shelf169 shelfX B b l w h hBw
open Go.RowKit in
theorem sj_none (a : Option Addr) (c : Nat) (sep : ByteArray) (w : World) :
    Calls Tryz.prog 81 #[.slice a 0 c, .string sep] w fun e w' => e = .returned (.string ⟨#[]⟩) ∧ w' = w := Go.Proofs.Any.strings_Join_none shelf156 shelfX a c sep w
open Go.RowKit in
theorem sj_any (bk o c : Nat) (xs : List ByteArray) (sep : ByteArray) (w : World) (hcells : ∀ (j : Nat) x, xs[j]? = some x → w.cell? ⟨bk, o + j, none⟩ = some (.string x)) (hbk : bk < w.heap.size) (hN : xs.length ≤ 140737488355328) (hcap : xs.length ≤ c) (hlen : (Lib.join (xs.map (·.data.toList)) sep.data.toList).length ≤ 140737488355328) :
    Calls Tryz.prog 81 #[.slice (some ⟨bk, o, none⟩) xs.length c, .string sep] w fun e w' => e = .returned (.string ⟨(Lib.join (xs.map (·.data.toList)) sep.data.toList).toArray⟩) ∧ Below w.heap.size w w' := Go.Proofs.Any.strings_Join shelf156 shelfX bk o c xs sep w hcells hbk hN hcap hlen
end Go.Proofs.YtkfofdmcggoonaaGreatDoor
