/-
  The walks of the reader's methods. Condition: the bytes are within the reach.
-/
import Derived.Test.YtfpepdjffehbcaaGreatOctReader
set_option linter.unusedVariables false
set_option linter.unusedSimpArgs false
namespace Go.Proofs.YtfpepdjffehbcaaGreat
open Go.RowKit

set_option maxHeartbeats 400000 in
theorem u16_any (g c : Nat) (A : Option Addr) (l : List UInt8) (at_ : Nat) (err : Int) (w : World) (hr : Rd w g A c l at_ err) :
    Calls Tryz.prog 31 #[.pointer (some ⟨g, 0, none⟩)] w (After g c A l (takeM l at_ err 2) (.int .u16 (num (takeM l at_ err 2).1 : Int)) w) := by
  have hlt : num (takeM l at_ err 2).1 < 65536 := num_lt_take l at_ 2 err
  have hC := number_any g c A l at_ 2 err w hr (by omega)
  have HC := Lib.hid hC
  clear hC
  generalize takeM l at_ err 2 = m at *
  go_enter Tryz.func31, Tryz.ntmps31
  go_wp2_with (go_at_call 61; refine HC.out.mono ?_; rintro e w1 ⟨rfl, hR, hO⟩)
  go_ret
  exact ⟨rfl, hR, hO⟩
set_option maxHeartbeats 400000 in
theorem u32_any (g c : Nat) (A : Option Addr) (l : List UInt8) (at_ : Nat) (err : Int) (w : World) (hr : Rd w g A c l at_ err) :
    Calls Tryz.prog 32 #[.pointer (some ⟨g, 0, none⟩)] w (After g c A l (takeM l at_ err 4) (.int .u32 (num (takeM l at_ err 4).1 : Int)) w) := by
  have hlt : num (takeM l at_ err 4).1 < 4294967296 := num_lt_take l at_ 4 err
  have hC := number_any g c A l at_ 4 err w hr (by omega)
  have HC := Lib.hid hC
  clear hC
  generalize takeM l at_ err 4 = m at *
  go_enter Tryz.func32, Tryz.ntmps32
  go_wp2_with (go_at_call 61; refine HC.out.mono ?_; rintro e w1 ⟨rfl, hR, hO⟩)
  go_ret
  exact ⟨rfl, hR, hO⟩
theorem after_own {g c : Nat} {A : Option Addr} {l : List UInt8} {at_ : Nat} {err : Int} {w w' : World} (h : Rd w g A c l at_ err) (hb : Below w.heap.size w w') : Rd w' g A c l at_ err :=
  ⟨h.blk.below hb h.blk.lt, h.rb.below (hb.mono (Nat.le_of_lt h.blk.lt)), h.lc, h.cm, h.le⟩

/-- What Raw leaves: a row of the call's own. -/
def RawLeft (g c : Nat) (A : Option Addr) (l : List UInt8) (m : List UInt8 × Nat × Int) (w : World) (e : Ending) (w' : World) : Prop :=
  ∃ v, e = .returned v ∧ OB w' w.heap.size 5 v m.1 ∧ Rd w' g A c l m.2.1 m.2.2 ∧ Only g w w'
set_option maxHeartbeats 400000 in
theorem raw_any (g c : Nat) (A : Option Addr) (l : List UInt8) (at_ : Nat) (err n : Int) (w : World) (hr : Rd w g A c l at_ err) (hlen : l.length ≤ 140737488355328) :
    Calls Tryz.prog 30 #[.pointer (some ⟨g, 0, none⟩), .int .i64 n] w (RawLeft g c A l (takeM l at_ err n) w) := by
  have hm : (takeM l at_ err n).1.length ≤ 140737488355328 := by
    unfold takeM
    repeat' split
    all_goals simp
    omega
  have hC := take_any g c A l at_ err n w hr
  have HC := Lib.hid hC
  clear hC
  generalize takeM l at_ err n = m at *
  go_enter Tryz.func30, Tryz.ntmps30
  go_wp2_with (first | (go_at_call 60; refine HC.out.mono ?_; rintro e w1 ⟨A', c', rfl, hb, hc1, hc2, hR, hO⟩) | (go_at_call 59; refine (bclone_any m.1 A' c' g w1 hb (by have := hR.blk.lt; omega) hm).mono ?_; rintro e w2 ⟨v2, rfl, ho2, hb2⟩))
  go_ret
  have hz : w.heap.size ≤ w1.heap.size := hO.size
  exact ⟨v2, rfl, ho2.base hz, after_own hR hb2, hO.trans (Only.of_below hb2)⟩

set_option maxHeartbeats 400000 in
theorem err_any (g c : Nat) (A : Option Addr) (l : List UInt8) (at_ : Nat) (err : Int) (w : World) (hr : Rd w g A c l at_ err) :
    Calls Tryz.prog 33 #[.pointer (some ⟨g, 0, none⟩)] w fun e w' => e = .returned (.int .i64 err) ∧ w = w' := by
  have c2 := hr.c2
  go_enter Tryz.func33, Tryz.ntmps33
  go_wp2
  go_ret
  exact ⟨rfl, rfl⟩
set_option maxHeartbeats 400000 in
theorem left_any (g c : Nat) (A : Option Addr) (l : List UInt8) (at_ : Nat) (err : Int) (w : World) (hr : Rd w g A c l at_ err) :
    Calls Tryz.prog 35 #[.pointer (some ⟨g, 0, none⟩)] w fun e w' => e = .returned (.int .i64 ((l.length : Int) - at_)) ∧ ∃ k, w.drewN k = w' := by
  have c0 := hr.c0
  have c1 := hr.c1
  have hlc := hr.lc
  have hcm := hr.cm
  have hle := hr.le
  unfold maxLen at hcm
  go_enter Tryz.func35, Tryz.ntmps35
  go_wp2
  go_quiet (fail)
  go_wp2
  go_ret
  exact ⟨rfl, _, rfl⟩
end Go.Proofs.YtfpepdjffehbcaaGreat
