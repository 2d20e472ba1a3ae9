/-
  The shelf's contracts on strings.Builder and strings.Join, laid at this program (printed by a program of mine out of the shelf's own command). No condition beyond those that each names.
-/
import Derived.Shelf.Strings.BuilderK
import Derived.Shelf.Strings.OnBuilder
import Derived.Test.YtjebaibcfmjinaaProg
namespace Go.Proofs.Ytjebaibcfmjinaa
open Go.Shelf
def shelfRen : Go.Shelf.Ren := ⟨fun | 156 => 56 | 165 => 79 | 166 => 76 | 169 => 78 | 240 => 98 | 241 => 99 | 276 => 111 | 277 => 112 | 167 => 77 | n => n, fun | 31 => 86 | 9 => 9 | 3 => 3 | 4 => 4 | 0 => 0 | 20 => 20 | 72 => 106 | 76 => 109 | 70 => 103 | 37 => 104 | 75 => 108 | 127 => 127 | 164 => 135 | 5 => 5 | 80 => 90 | n => n, fun | n => n⟩
theorem shelf156 : Go.Proofs.Lays.n156 Try.prog shelfRen := {
  mixed := by kernel_rfl
  f156 := Try.func56.trans (congrArg some (by kernel_rfl))
  f165 := Try.func79.trans (congrArg some (by kernel_rfl))
  f166 := Try.func76.trans (congrArg some (by kernel_rfl))
  f169 := Try.func78.trans (congrArg some (by kernel_rfl))
  f240 := Try.func98.trans (congrArg some (by kernel_rfl))
  f241 := Try.func99.trans (congrArg some (by kernel_rfl))
  f276 := Try.func111.trans (congrArg some (by kernel_rfl))
  f277 := Try.func112.trans (congrArg some (by kernel_rfl))
  t0 := Try.underlying0
  a0 := Try.isAgg0
  z0 := Try.sizeOf0
  v0 := Try.zeroValue0
  t3 := Try.underlying3
  a3 := Try.isAgg3
  z3 := Try.sizeOf3
  v3 := Try.zeroValue3
  t4 := Try.underlying4
  a4 := Try.isAgg4
  z4 := Try.sizeOf4
  v4 := Try.zeroValue4
  t9 := Try.underlying9
  a9 := Try.isAgg9
  z9 := Try.sizeOf9
  v9 := Try.zeroValue9
  t20 := Try.underlying20
  a20 := Try.isAgg20
  z20 := Try.sizeOf20
  v20 := Try.zeroValue20
  t31 := Try.underlying86
  a31 := Try.isAgg86
  z31 := Try.sizeOf86
  v31 := Try.zeroValue86
  t37 := Try.underlying104
  a37 := Try.isAgg104
  z37 := Try.sizeOf104
  v37 := Try.zeroValue104
  t70 := Try.underlying103
  a70 := Try.isAgg103
  z70 := Try.sizeOf103
  v70 := Try.zeroValue103
  t72 := Try.underlying106
  a72 := Try.isAgg106
  z72 := Try.sizeOf106
  v72 := Try.zeroValue106
  t75 := Try.underlying108
  a75 := Try.isAgg108
  z75 := Try.sizeOf108
  v75 := Try.zeroValue108
  t76 := Try.underlying109
  a76 := Try.isAgg109
  z76 := Try.sizeOf109
  v76 := Try.zeroValue109
  t127 := Try.underlying127
  a127 := Try.isAgg127
  z127 := Try.sizeOf127
  v127 := Try.zeroValue127
  t164 := Try.underlying135
  a164 := Try.isAgg135
  z164 := Try.sizeOf135
  v164 := Try.zeroValue135 }
theorem shelfX : Go.Proofs.Builder.Extra Try.prog shelfRen := {
  sizeBuilder := by kernel_rfl
  liesBuilder := by kernel_rfl
  t5 := Try.underlying5
  a5 := Try.isAgg5
  z5 := Try.sizeOf5
  v5 := Try.zeroValue5
  infoByte := by kernel_rfl
  cellsByte := by kernel_rfl
  sizeByte := by kernel_rfl
  neB5 := by decide }
theorem shelf166 : Go.Proofs.Lays.n166 Try.prog shelfRen := {
  mixed := shelf156.mixed
  f166 := shelf156.f166
  f240 := shelf156.f240
  f276 := shelf156.f276
  t0 := shelf156.t0
  a0 := shelf156.a0
  z0 := shelf156.z0
  v0 := shelf156.v0
  t3 := shelf156.t3
  a3 := shelf156.a3
  z3 := shelf156.z3
  v3 := shelf156.v3
  t4 := shelf156.t4
  a4 := shelf156.a4
  z4 := shelf156.z4
  v4 := shelf156.v4
  t9 := shelf156.t9
  a9 := shelf156.a9
  z9 := shelf156.z9
  v9 := shelf156.v9
  t20 := shelf156.t20
  a20 := shelf156.a20
  z20 := shelf156.z20
  v20 := shelf156.v20
  t37 := shelf156.t37
  a37 := shelf156.a37
  z37 := shelf156.z37
  v37 := shelf156.v37
  t70 := shelf156.t70
  a70 := shelf156.a70
  z70 := shelf156.z70
  v70 := shelf156.v70
  t72 := shelf156.t72
  a72 := shelf156.a72
  z72 := shelf156.z72
  v72 := shelf156.v72
  t75 := shelf156.t75
  a75 := shelf156.a75
  z75 := shelf156.z75
  v75 := shelf156.v75
  t164 := shelf156.t164
  a164 := shelf156.a164
  z164 := shelf156.z164
  v164 := shelf156.v164 }
theorem shelf167 : Go.Proofs.Lays.n167 Try.prog shelfRen := {
  mixed := shelf156.mixed
  f167 := Try.func77.trans (congrArg some (by kernel_rfl))
  f240 := shelf156.f240
  f276 := shelf156.f276
  t0 := shelf156.t0
  a0 := shelf156.a0
  z0 := shelf156.z0
  v0 := shelf156.v0
  t4 := shelf156.t4
  a4 := shelf156.a4
  z4 := shelf156.z4
  v4 := shelf156.v4
  t5 := shelfX.t5
  a5 := shelfX.a5
  z5 := shelfX.z5
  v5 := shelfX.v5
  t9 := shelf156.t9
  a9 := shelf156.a9
  z9 := shelf156.z9
  v9 := shelf156.v9
  t20 := shelf156.t20
  a20 := shelf156.a20
  z20 := shelf156.z20
  v20 := shelf156.v20
  t37 := shelf156.t37
  a37 := shelf156.a37
  z37 := shelf156.z37
  v37 := shelf156.v37
  t70 := shelf156.t70
  a70 := shelf156.a70
  z70 := shelf156.z70
  v70 := shelf156.v70
  t72 := shelf156.t72
  a72 := shelf156.a72
  z72 := shelf156.z72
  v72 := shelf156.v72
  t75 := shelf156.t75
  a75 := shelf156.a75
  z75 := shelf156.z75
  v75 := shelf156.v75
  t164 := shelf156.t164
  a164 := shelf156.a164
  z164 := shelf156.z164
  v164 := shelf156.v164 }
theorem shelf169 : Go.Proofs.Lays.n169 Try.prog shelfRen := {
  mixed := shelf156.mixed
  f169 := shelf156.f169
  t0 := shelf156.t0
  a0 := shelf156.a0
  z0 := shelf156.z0
  v0 := shelf156.v0
  t3 := shelf156.t3
  a3 := shelf156.a3
  z3 := shelf156.z3
  v3 := shelf156.v3
  t9 := shelf156.t9
  a9 := shelf156.a9
  z9 := shelf156.z9
  v9 := shelf156.v9
  t37 := shelf156.t37
  a37 := shelf156.a37
  z37 := shelf156.z37
  v37 := shelf156.v37
  t70 := shelf156.t70
  a70 := shelf156.a70
  z70 := shelf156.z70
  v70 := shelf156.v70
  t72 := shelf156.t72
  a72 := shelf156.a72
  z72 := shelf156.z72
  v72 := shelf156.v72
  t127 := shelf156.t127
  a127 := shelf156.a127
  z127 := shelf156.z127
  v127 := shelf156.v127 }
open Go.RowKit in
theorem sb_byte (B b : Nat) (bs : List Value) (c : Int) (w : World) (h : Lib.IsBuilderF 106 5 B b bs w) (hlen : bs.length + 1 ≤ 140737488355328) (hBw : B ≤ w.heap.size) :
    Calls Try.prog 77 #[.pointer (some ⟨b, 0, none⟩), .int .u8 c] w fun e w' => e = .returned .nilIface ∧ (Lib.BuilderAtF 106 5 B b (.pointer (some ⟨b, 0, none⟩)) (bs ++ [.int .u8 c]) w' ∧ Below B w w' ∧ Lib.OthersKept 5 (some b) w w') := Go.Proofs.Any.Builder_WriteByte_k shelf167 shelfX B b bs c w h hlen hBw
open Go.RowKit in
theorem sb_string (B b : Nat) (bs : List Value) (s : ByteArray) (w : World) (h : Lib.IsBuilderF 106 5 B b bs w) (hlen : bs.length + s.size ≤ 140737488355328) (hBw : B ≤ w.heap.size) :
    Calls Try.prog 76 #[.pointer (some ⟨b, 0, none⟩), .string s] w fun e w' => e = .returned (.tuple #[.int .i64 s.size, .nilIface]) ∧ (Lib.BuilderAtF 106 5 B b (.pointer (some ⟨b, 0, none⟩)) (bs ++ Lib.strCells s) w' ∧ Below B w w' ∧ Lib.OthersKept 5 (some b) w w') := Go.Proofs.Any.Builder_WriteString_k shelf166 shelfX B b bs s w h hlen hBw
open Go.RowKit in
theorem sb_text (B b : Nat) (l : List UInt8) (w : World) (h : Lib.IsBuilderF 106 5 B b (Lib.byteCells l) w) (hBw : B ≤ w.heap.size) :
    Calls Try.prog 78 #[.pointer (some ⟨b, 0, none⟩)] w fun e w' => e = .returned (.string ⟨l.toArray⟩) ∧ (Lib.IsBuilderF 106 5 B b (Lib.byteCells l) w' ∧ Below B w w' ∧ Lib.OthersKept 5 (some b) w w') := Go.Proofs.Any.Builder_String_any_k shelf169 shelfX B b l w h hBw
open Go.RowKit in
theorem sj_none (a : Option Addr) (c : Nat) (sep : ByteArray) (w : World) :
    Calls Try.prog 56 #[.slice a 0 c, .string sep] w fun e w' => e = .returned (.string ⟨#[]⟩) ∧ w' = w := Go.Proofs.Any.strings_Join_none shelf156 shelfX a c sep w
open Go.RowKit in
theorem sj_any (bk o c : Nat) (xs : List ByteArray) (sep : ByteArray) (w : World) (hcells : ∀ (j : Nat) x, xs[j]? = some x → w.cell? ⟨bk, o + j, none⟩ = some (.string x)) (hbk : bk < w.heap.size) (hN : xs.length ≤ 140737488355328) (hcap : xs.length ≤ c) (hlen : (Lib.join (xs.map (·.data.toList)) sep.data.toList).length ≤ 140737488355328) :
    Calls Try.prog 56 #[.slice (some ⟨bk, o, none⟩) xs.length c, .string sep] w fun e w' => e = .returned (.string ⟨(Lib.join (xs.map (·.data.toList)) sep.data.toList).toArray⟩) ∧ Below w.heap.size w w' := Go.Proofs.Any.strings_Join shelf156 shelfX bk o c xs sep w hcells hbk hN hcap hlen
end Go.Proofs.Ytjebaibcfmjinaa
