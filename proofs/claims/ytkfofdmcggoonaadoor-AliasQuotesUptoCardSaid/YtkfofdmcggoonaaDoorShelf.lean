/-
  The shelf's contracts on strings.Builder and strings.Join, laid at this program (printed by a program of mine out of the shelf's own command). No condition beyond those that each names.
-/
import Derived.Shelf.Strings.BuilderK
import Derived.Shelf.Strings.OnBuilder
import Derived.Test.YtkfofdmcggoonaaDoorProg
namespace Go.Proofs.YtkfofdmcggoonaaDoor
open Go.Shelf
def shelfRen : Go.Shelf.Ren := ⟨fun | 156 => 81 | 165 => 50 | 166 => 51 | 169 => 55 | 240 => 83 | 241 => 84 | 276 => 117 | 277 => 118 | 167 => 54 | n => n, fun | 31 => 32 | 9 => 9 | 3 => 3 | 4 => 4 | 0 => 0 | 20 => 20 | 72 => 88 | 76 => 95 | 70 => 85 | 37 => 86 | 75 => 94 | 127 => 126 | 164 => 148 | 5 => 5 | 80 => 57 | n => n, fun | n => n⟩
theorem shelf156 : Go.Proofs.Lays.n156 Tryd.prog shelfRen := {
  mixed := by kernel_rfl
  f156 := Tryd.func81.trans (congrArg some (by kernel_rfl))
  f165 := Tryd.func50.trans (congrArg some (by kernel_rfl))
  f166 := Tryd.func51.trans (congrArg some (by kernel_rfl))
  f169 := Tryd.func55.trans (congrArg some (by kernel_rfl))
  f240 := Tryd.func83.trans (congrArg some (by kernel_rfl))
  f241 := Tryd.func84.trans (congrArg some (by kernel_rfl))
  f276 := Tryd.func117.trans (congrArg some (by kernel_rfl))
  f277 := Tryd.func118.trans (congrArg some (by kernel_rfl))
  t0 := Tryd.underlying0
  a0 := Tryd.isAgg0
  z0 := Tryd.sizeOf0
  v0 := Tryd.zeroValue0
  t3 := Tryd.underlying3
  a3 := Tryd.isAgg3
  z3 := Tryd.sizeOf3
  v3 := Tryd.zeroValue3
  t4 := Tryd.underlying4
  a4 := Tryd.isAgg4
  z4 := Tryd.sizeOf4
  v4 := Tryd.zeroValue4
  t9 := Tryd.underlying9
  a9 := Tryd.isAgg9
  z9 := Tryd.sizeOf9
  v9 := Tryd.zeroValue9
  t20 := Tryd.underlying20
  a20 := Tryd.isAgg20
  z20 := Tryd.sizeOf20
  v20 := Tryd.zeroValue20
  t31 := Tryd.underlying32
  a31 := Tryd.isAgg32
  z31 := Tryd.sizeOf32
  v31 := Tryd.zeroValue32
  t37 := Tryd.underlying86
  a37 := Tryd.isAgg86
  z37 := Tryd.sizeOf86
  v37 := Tryd.zeroValue86
  t70 := Tryd.underlying85
  a70 := Tryd.isAgg85
  z70 := Tryd.sizeOf85
  v70 := Tryd.zeroValue85
  t72 := Tryd.underlying88
  a72 := Tryd.isAgg88
  z72 := Tryd.sizeOf88
  v72 := Tryd.zeroValue88
  t75 := Tryd.underlying94
  a75 := Tryd.isAgg94
  z75 := Tryd.sizeOf94
  v75 := Tryd.zeroValue94
  t76 := Tryd.underlying95
  a76 := Tryd.isAgg95
  z76 := Tryd.sizeOf95
  v76 := Tryd.zeroValue95
  t127 := Tryd.underlying126
  a127 := Tryd.isAgg126
  z127 := Tryd.sizeOf126
  v127 := Tryd.zeroValue126
  t164 := Tryd.underlying148
  a164 := Tryd.isAgg148
  z164 := Tryd.sizeOf148
  v164 := Tryd.zeroValue148 }
theorem shelfX : Go.Proofs.Builder.Extra Tryd.prog shelfRen := {
  sizeBuilder := by kernel_rfl
  liesBuilder := by kernel_rfl
  t5 := Tryd.underlying5
  a5 := Tryd.isAgg5
  z5 := Tryd.sizeOf5
  v5 := Tryd.zeroValue5
  infoByte := by kernel_rfl
  cellsByte := by kernel_rfl
  sizeByte := by kernel_rfl
  neB5 := by decide }
theorem shelf166 : Go.Proofs.Lays.n166 Tryd.prog shelfRen := {
  mixed := shelf156.mixed
  f166 := shelf156.f166
  f240 := shelf156.f240
  f276 := shelf156.f276
  t0 := shelf156.t0
  a0 := shelf156.a0
  z0 := shelf156.z0
  v0 := shelf156.v0
  t3 := shelf156.t3
  a3 := shelf156.a3
  z3 := shelf156.z3
  v3 := shelf156.v3
  t4 := shelf156.t4
  a4 := shelf156.a4
  z4 := shelf156.z4
  v4 := shelf156.v4
  t9 := shelf156.t9
  a9 := shelf156.a9
  z9 := shelf156.z9
  v9 := shelf156.v9
  t20 := shelf156.t20
  a20 := shelf156.a20
  z20 := shelf156.z20
  v20 := shelf156.v20
  t37 := shelf156.t37
  a37 := shelf156.a37
  z37 := shelf156.z37
  v37 := shelf156.v37
  t70 := shelf156.t70
  a70 := shelf156.a70
  z70 := shelf156.z70
  v70 := shelf156.v70
  t72 := shelf156.t72
  a72 := shelf156.a72
  z72 := shelf156.z72
  v72 := shelf156.v72
  t75 := shelf156.t75
  a75 := shelf156.a75
  z75 := shelf156.z75
  v75 := shelf156.v75
  t164 := shelf156.t164
  a164 := shelf156.a164
  z164 := shelf156.z164
  v164 := shelf156.v164 }
theorem shelf167 : Go.Proofs.Lays.n167 Tryd.prog shelfRen := {
  mixed := shelf156.mixed
  f167 := Tryd.func54.trans (congrArg some (by kernel_rfl))
  f240 := shelf156.f240
  f276 := shelf156.f276
  t0 := shelf156.t0
  a0 := shelf156.a0
  z0 := shelf156.z0
  v0 := shelf156.v0
  t4 := shelf156.t4
  a4 := shelf156.a4
  z4 := shelf156.z4
  v4 := shelf156.v4
  t5 := shelfX.t5
  a5 := shelfX.a5
  z5 := shelfX.z5
  v5 := shelfX.v5
  t9 := shelf156.t9
  a9 := shelf156.a9
  z9 := shelf156.z9
  v9 := shelf156.v9
  t20 := shelf156.t20
  a20 := shelf156.a20
  z20 := shelf156.z20
  v20 := shelf156.v20
  t37 := shelf156.t37
  a37 := shelf156.a37
  z37 := shelf156.z37
  v37 := shelf156.v37
  t70 := shelf156.t70
  a70 := shelf156.a70
  z70 := shelf156.z70
  v70 := shelf156.v70
  t72 := shelf156.t72
  a72 := shelf156.a72
  z72 := shelf156.z72
  v72 := shelf156.v72
  t75 := shelf156.t75
  a75 := shelf156.a75
  z75 := shelf156.z75
  v75 := shelf156.v75
  t164 := shelf156.t164
  a164 := shelf156.a164
  z164 := shelf156.z164
  v164 := shelf156.v164 }
theorem shelf169 : Go.Proofs.Lays.n169 Tryd.prog shelfRen := {
  mixed := shelf156.mixed
  f169 := shelf156.f169
  t0 := shelf156.t0
  a0 := shelf156.a0
  z0 := shelf156.z0
  v0 := shelf156.v0
  t3 := shelf156.t3
  a3 := shelf156.a3
  z3 := shelf156.z3
  v3 := shelf156.v3
  t9 := shelf156.t9
  a9 := shelf156.a9
  z9 := shelf156.z9
  v9 := shelf156.v9
  t37 := shelf156.t37
  a37 := shelf156.a37
  z37 := shelf156.z37
  v37 := shelf156.v37
  t70 := shelf156.t70
  a70 := shelf156.a70
  z70 := shelf156.z70
  v70 := shelf156.v70
  t72 := shelf156.t72
  a72 := shelf156.a72
  z72 := shelf156.z72
  v72 := shelf156.v72
  t127 := shelf156.t127
  a127 := shelf156.a127
  z127 := shelf156.z127
  v127 := shelf156.v127 }
open Go.RowKit in
theorem sb_byte (B b : Nat) (bs : List Value) (c : Int) (w : World) (h : Lib.IsBuilderF 88 5 B b bs w) (hlen : bs.length + 1 ≤ 140737488355328) (hBw : B ≤ w.heap.size) :
    Calls Tryd.prog 54 #[.pointer (some ⟨b, 0, none⟩), .int .u8 c] w fun e w' => e = .returned .nilIface ∧ (Lib.BuilderAtF 88 5 B b (.pointer (some ⟨b, 0, none⟩)) (bs ++ [.int .u8 c]) w' ∧ Below B w w' ∧ Lib.OthersKept 5 (some b) w w') := Go.Proofs.Any.Builder_WriteByte_k shelf167 shelfX B b bs c w h hlen hBw
open Go.RowKit in
theorem sb_string (B b : Nat) (bs : List Value) (s : ByteArray) (w : World) (h : Lib.IsBuilderF 88 5 B b bs w) (hlen : bs.length + s.size ≤ 140737488355328) (hBw : B ≤ w.heap.size) :
    Calls Tryd.prog 51 #[.pointer (some ⟨b, 0, none⟩), .string s] w fun e w' => e = .returned (.tuple #[.int .i64 s.size, .nilIface]) ∧ (Lib.BuilderAtF 88 5 B b (.pointer (some ⟨b, 0, none⟩)) (bs ++ Lib.strCells s) w' ∧ Below B w w' ∧ Lib.OthersKept 5 (some b) w w') := Go.Proofs.Any.Builder_WriteString_k shelf166 shelfX B b bs s w h hlen hBw
open Go.RowKit in
theorem sb_text (B b : Nat) (l : List UInt8) (w : World) (h : Lib.IsBuilderF 88 5 B b (Lib.byteCells l) w) (hBw : B ≤ w.heap.size) :
    Calls Tryd.prog 55 #[.pointer (some ⟨b, 0, none⟩)] w fun e w' => e = .returned (.string ⟨l.toArray⟩) ∧ (Lib.IsBuilderF 88 5 B b (Lib.byteCells l) w' ∧ Below B w w' ∧ Lib.OthersKept 5 (some b) w w') := Go.Proofs.Any.Builder_String_any_k shelf169 shelfX B b l w h hBw
open Go.RowKit in
theorem sj_none (a : Option Addr) (c : Nat) (sep : ByteArray) (w : World) :
    Calls Tryd.prog 81 #[.slice a 0 c, .string sep] w fun e w' => e = .returned (.string ⟨#[]⟩) ∧ w' = w := Go.Proofs.Any.strings_Join_none shelf156 shelfX a c sep w
open Go.RowKit in
theorem sj_any (bk o c : Nat) (xs : List ByteArray) (sep : ByteArray) (w : World) (hcells : ∀ (j : Nat) x, xs[j]? = some x → w.cell? ⟨bk, o + j, none⟩ = some (.string x)) (hbk : bk < w.heap.size) (hN : xs.length ≤ 140737488355328) (hcap : xs.length ≤ c) (hlen : (Lib.join (xs.map (·.data.toList)) sep.data.toList).length ≤ 140737488355328) :
    Calls Tryd.prog 81 #[.slice (some ⟨bk, o, none⟩) xs.length c, .string sep] w fun e w' => e = .returned (.string ⟨(Lib.join (xs.map (·.data.toList)) sep.data.toList).toArray⟩) ∧ Below w.heap.size w w' := Go.Proofs.Any.strings_Join shelf156 shelfX bk o c xs sep w hcells hbk hN hcap hlen
end Go.Proofs.YtkfofdmcggoonaaDoor
