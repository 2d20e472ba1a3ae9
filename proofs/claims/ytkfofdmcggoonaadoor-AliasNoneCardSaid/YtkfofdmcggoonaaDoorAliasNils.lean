/-
  The walks of what asks aliases that are not there. No condition.
-/
import Derived.Test.YtkfofdmcggoonaaDoorAliasAsk
namespace Go.Proofs.YtkfofdmcggoonaaDoor
open Go.RowKit

theorem afind_nil (p : ByteArray) (w : World) : Calls Tryd.prog 38 #[.pointer none, .string p] w fun en w' => en = .returned (.tuple #[.agg #[.string ⟨#[]⟩, .string ⟨#[]⟩], .bool false]) ∧ Below w.heap.size w w' := by
  have hB := Blk.new w 60 #[.string ⟨#[]⟩, .string ⟨#[]⟩]
  have HB := Lib.hid hB
  obtain ⟨b0, b1, b2, b3, b4, b5⟩ := hB.two (.string ⟨#[]⟩)
  clear hB
  go_enter Tryd.func38, Tryd.ntmps38
  go_wp2
  (try simp only [Exit.inBlock, Exit.then])
  exact bodyPost_ret (afind_result HB.out rfl rfl) rfl ⟨rfl, (Below.refl _ _).alloc (Nat.le_refl _) _⟩
theorem agroup_nil (p : ByteArray) (w : World) : Calls Tryd.prog 11 #[.pointer none, .string p] w fun en w' => en = .returned (.tuple #[.string ⟨#[]⟩, .bool false]) ∧ Below w.heap.size w w' := by
  go_enter Tryd.func11, Tryd.ntmps11
  go_wp2_with fail
  refine (afind_nil p w).mono ?_
  rintro en w1 ⟨rfl, hb⟩
  have HB := Lib.hid hb
  clear hb
  go_wp2
  go_ret2
  exact ⟨rfl, HB.out.alloc HB.out.size _⟩
theorem alead_nil (p : ByteArray) (w : World) : Calls Tryd.prog 12 #[.pointer none, .string p] w fun en w' => en = .returned (.tuple #[.string ⟨#[]⟩, .bool false]) ∧ Below w.heap.size w w' := by
  go_enter Tryd.func12, Tryd.ntmps12
  go_wp2_with fail
  refine (afind_nil p w).mono ?_
  rintro en w1 ⟨rfl, hb⟩
  have HB := Lib.hid hb
  clear hb
  go_wp2
  go_ret2
  exact ⟨rfl, HB.out.alloc HB.out.size _⟩
theorem away_nil (p : ByteArray) (w : World) : Calls Tryd.prog 13 #[.pointer none, .string p] w fun en w' => en = .returned (.slice none 0 0) ∧ w' = w := by
  go_enter Tryd.func13, Tryd.ntmps13
  go_wp2
  go_ret
  exact ⟨rfl, rfl⟩
theorem aall_nil (w : World) : Calls Tryd.prog 14 #[.pointer none] w fun en w' => en = .returned (.slice none 0 0) ∧ w' = w := by
  go_enter Tryd.func14, Tryd.ntmps14
  go_wp2
  go_ret
  exact ⟨rfl, rfl⟩
end Go.Proofs.YtkfofdmcggoonaaDoor
