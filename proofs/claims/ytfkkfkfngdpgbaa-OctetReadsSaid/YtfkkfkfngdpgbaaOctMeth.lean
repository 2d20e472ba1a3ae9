/-
  The walks of the reader's methods. Condition: the bytes are within the reach.
-/
import Derived.Test.YtfkkfkfngdpgbaaOctReader
namespace Go.Proofs.Ytfkkfkfngdpgbaa
open Go.RowKit

set_option maxHeartbeats 400000 in
theorem u16_any (g c : Nat) (A : Option Addr) (l : List UInt8) (at_ : Nat) (err : Int) (w : World) (hr : Rd w g A c l at_ err) :
    Calls Try.prog 17 #[.pointer (some ⟨g, 0, none⟩)] w (After g c A l (takeM l at_ err 2) (.int .u16 (num (takeM l at_ err 2).1 : Int)) w) := by
  have hlt : num (takeM l at_ err 2).1 < 65536 := num_lt_take l at_ 2 err
  have hC := number_any g c A l at_ 2 err w hr (by omega)
  have HC := Lib.hid hC
  clear hC
  generalize takeM l at_ err 2 = m at *
  go_enter Try.func17, Try.ntmps17
  go_wp2_with (go_at_call 26; refine HC.out.mono ?_; rintro e w1 ⟨rfl, hR, hO⟩)
  go_ret
  exact ⟨rfl, hR, hO⟩
set_option maxHeartbeats 400000 in
theorem u32_any (g c : Nat) (A : Option Addr) (l : List UInt8) (at_ : Nat) (err : Int) (w : World) (hr : Rd w g A c l at_ err) :
    Calls Try.prog 18 #[.pointer (some ⟨g, 0, none⟩)] w (After g c A l (takeM l at_ err 4) (.int .u32 (num (takeM l at_ err 4).1 : Int)) w) := by
  have hlt : num (takeM l at_ err 4).1 < 4294967296 := num_lt_take l at_ 4 err
  have hC := number_any g c A l at_ 4 err w hr (by omega)
  have HC := Lib.hid hC
  clear hC
  generalize takeM l at_ err 4 = m at *
  go_enter Try.func18, Try.ntmps18
  go_wp2_with (go_at_call 26; refine HC.out.mono ?_; rintro e w1 ⟨rfl, hR, hO⟩)
  go_ret
  exact ⟨rfl, hR, hO⟩
set_option maxHeartbeats 400000 in
theorem u16_nil (w : World) : Calls Try.prog 17 #[.pointer none] w fun e w' => e = .returned (.int .u16 0) ∧ w = w' := by
  go_enter Try.func17, Try.ntmps17
  go_wp2_with (go_at_call 26; refine (number_nil _ _).mono ?_; rintro e w1 ⟨rfl, rfl⟩)
  go_ret
  exact ⟨rfl, rfl⟩
set_option maxHeartbeats 400000 in
theorem u32_nil (w : World) : Calls Try.prog 18 #[.pointer none] w fun e w' => e = .returned (.int .u32 0) ∧ w = w' := by
  go_enter Try.func18, Try.ntmps18
  go_wp2_with (go_at_call 26; refine (number_nil _ _).mono ?_; rintro e w1 ⟨rfl, rfl⟩)
  go_ret
  exact ⟨rfl, rfl⟩
set_option maxHeartbeats 400000 in
theorem raw_nil (n : Int) (w : World) : Calls Try.prog 22 #[.pointer none, .int .i64 n] w fun e w' => e = .returned (.slice none 0 0) ∧ w = w' := by
  go_enter Try.func22, Try.ntmps22
  go_wp2
  go_ret
  exact ⟨rfl, rfl⟩
set_option maxHeartbeats 400000 in
theorem seek_nil (n : Int) (w : World) : Calls Try.prog 23 #[.pointer none, .int .i64 n] w fun e w' => e = .returned (.int .i64 1) ∧ w = w' := by
  go_enter Try.func23, Try.ntmps23
  go_wp2
  go_ret
  exact ⟨rfl, rfl⟩
set_option maxHeartbeats 400000 in
theorem at_nil (w : World) : Calls Try.prog 24 #[.pointer none] w fun e w' => e = .returned (.int .i64 0) ∧ w = w' := by
  go_enter Try.func24, Try.ntmps24
  go_wp2
  go_ret
  exact ⟨rfl, rfl⟩
set_option maxHeartbeats 400000 in
theorem left_nil (w : World) : Calls Try.prog 19 #[.pointer none] w fun e w' => e = .returned (.int .i64 0) ∧ w = w' := by
  go_enter Try.func19, Try.ntmps19
  go_wp2
  go_ret
  exact ⟨rfl, rfl⟩
set_option maxHeartbeats 400000 in
theorem err_nil (w : World) : Calls Try.prog 20 #[.pointer none] w fun e w' => e = .returned (.int .i64 1) ∧ w = w' := by
  go_enter Try.func20, Try.ntmps20
  go_wp2
  go_ret
  exact ⟨rfl, rfl⟩

theorem after_own {g c : Nat} {A : Option Addr} {l : List UInt8} {at_ : Nat} {err : Int} {w w' : World} (h : Rd w g A c l at_ err) (hb : Below w.heap.size w w') : Rd w' g A c l at_ err :=
  ⟨h.blk.below hb h.blk.lt, h.rb.below (hb.mono (Nat.le_of_lt h.blk.lt)), h.lc, h.cm, h.le⟩

/-- What Raw leaves: a row of the call's own. -/
def RawLeft (g c : Nat) (A : Option Addr) (l : List UInt8) (m : List UInt8 × Nat × Int) (w : World) (e : Ending) (w' : World) : Prop :=
  ∃ v, e = .returned v ∧ OB w' w.heap.size 5 v m.1 ∧ Rd w' g A c l m.2.1 m.2.2 ∧ Only g w w'
set_option maxHeartbeats 400000 in
theorem raw_any (g c : Nat) (A : Option Addr) (l : List UInt8) (at_ : Nat) (err n : Int) (w : World) (hr : Rd w g A c l at_ err) (hlen : l.length ≤ 140737488355328) :
    Calls Try.prog 22 #[.pointer (some ⟨g, 0, none⟩), .int .i64 n] w (RawLeft g c A l (takeM l at_ err n) w) := by
  have hm : (takeM l at_ err n).1.length ≤ 140737488355328 := by
    unfold takeM
    repeat' split
    all_goals simp
    omega
  have hC := take_any g c A l at_ err n w hr
  have HC := Lib.hid hC
  clear hC
  generalize takeM l at_ err n = m at *
  go_enter Try.func22, Try.ntmps22
  go_wp2_with (first | (go_at_call 27; refine HC.out.mono ?_; rintro e w1 ⟨A', c', rfl, hb, hc1, hc2, hR, hO⟩) | (go_at_call 25; refine (clone_any m.1 A' c' g w1 hb (by have := hR.blk.lt; omega) hm).mono ?_; rintro e w2 ⟨v2, rfl, ho2, hb2⟩))
  go_ret
  have hz : w.heap.size ≤ w1.heap.size := hO.size
  exact ⟨v2, rfl, ho2.base hz, after_own hR hb2, hO.trans (Only.of_below hb2)⟩

set_option maxHeartbeats 400000 in
theorem at_any (g c : Nat) (A : Option Addr) (l : List UInt8) (at_ : Nat) (err : Int) (w : World) (hr : Rd w g A c l at_ err) :
    Calls Try.prog 24 #[.pointer (some ⟨g, 0, none⟩)] w fun e w' => e = .returned (.int .i64 (at_ : Int)) ∧ w = w' := by
  have c1 := hr.c1
  go_enter Try.func24, Try.ntmps24
  go_wp2
  go_ret
  exact ⟨rfl, rfl⟩
set_option maxHeartbeats 400000 in
theorem err_any (g c : Nat) (A : Option Addr) (l : List UInt8) (at_ : Nat) (err : Int) (w : World) (hr : Rd w g A c l at_ err) :
    Calls Try.prog 20 #[.pointer (some ⟨g, 0, none⟩)] w fun e w' => e = .returned (.int .i64 err) ∧ w = w' := by
  have c2 := hr.c2
  go_enter Try.func20, Try.ntmps20
  go_wp2
  go_ret
  exact ⟨rfl, rfl⟩
set_option maxHeartbeats 400000 in
theorem left_any (g c : Nat) (A : Option Addr) (l : List UInt8) (at_ : Nat) (err : Int) (w : World) (hr : Rd w g A c l at_ err) :
    Calls Try.prog 19 #[.pointer (some ⟨g, 0, none⟩)] w fun e w' => e = .returned (.int .i64 ((l.length : Int) - at_)) ∧ ∃ k, w.drewN k = w' := by
  have c0 := hr.c0
  have c1 := hr.c1
  have hlc := hr.lc
  have hcm := hr.cm
  have hle := hr.le
  unfold maxLen at hcm
  go_enter Try.func19, Try.ntmps19
  go_wp2
  go_quiet (fail)
  go_wp2
  go_ret
  exact ⟨rfl, _, rfl⟩
set_option maxHeartbeats 400000 in
theorem seek_bad (g c : Nat) (A : Option Addr) (l : List UInt8) (at_ : Nat) (err n : Int) (w : World) (hr : Rd w g A c l at_ err) (hn : n < 0 ∨ (l.length : Int) < n) :
    Calls Try.prog 23 #[.pointer (some ⟨g, 0, none⟩), .int .i64 n] w fun e w' => e = .returned (.int .i64 2) ∧ w = w' := by
  have c0 := hr.c0
  rcases hn with hn | hn
  · go_enter Try.func23, Try.ntmps23
    go_wp2
    go_ret
    exact ⟨rfl, rfl⟩
  · have hn0 : ¬ n < 0 := by omega
    have hd : decide (n < 0) = false := by simpa using hn0
    go_enter Try.func23, Try.ntmps23
    go_wp2
    go_ret
    exact ⟨rfl, rfl⟩
set_option maxHeartbeats 400000 in
theorem seek_ok (g c : Nat) (A : Option Addr) (l : List UInt8) (at_ n : Nat) (err : Int) (w : World) (hr : Rd w g A c l at_ err) (hn : n ≤ l.length) :
    Calls Try.prog 23 #[.pointer (some ⟨g, 0, none⟩), .int .i64 (n : Int)] w (After g c A l ([], n, 0) (.int .i64 0) w) := by
  have c0 := hr.c0
  have f1 := hr.blk.frozen 1
  have f2 := hr.blk.frozen 2
  have c1 := hr.c1
  have c2 := hr.c2
  have hn0 : ¬ (n : Int) < 0 := by omega
  have hd : decide ((n : Int) < 0) = false := by simp
  go_enter Try.func23, Try.ntmps23
  go_wp2
  go_outline
  go_ret
  exact ⟨rfl, (hr.goto_ hn).err 0, ((Only.refl g w).setCell (.inl rfl) _).setCell (.inl rfl) _⟩
end Go.Proofs.Ytfkkfkfngdpgbaa
