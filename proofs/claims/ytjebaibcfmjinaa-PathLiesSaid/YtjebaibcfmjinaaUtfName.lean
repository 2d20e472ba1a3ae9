/-
  The walks of utf.Name and of strings.ContainsFunc at path.control. Condition: the string is within the reach.
-/
import Derived.Test.YtjebaibcfmjinaaPathVal
namespace Go.Proofs.Ytjebaibcfmjinaa
open Go.RowKit

def allB (s : ByteArray) : Bool := decide (0 < s.size) && decide (nameEnd s 0 = s.size)
def nameOk (s : ByteArray) : Bool := if h : 0 < s.size then decide (nameEnd s 0 = s.size) && startB s[0] else false

set_option maxHeartbeats 1000000 in
theorem all_any (s : ByteArray) (w : World) (hs : s.size ≤ 140737488355328) :
    Calls Try.prog 96 #[.string s, .func (.func 94) #[] #[]] w fun en w' => en = .returned (.bool (allB s)) ∧ w' = w := by
  go_enter Try.func96, Try.ntmps96
  go_wp2
  go_loopw [5, 8] (fun _ iv wr => wr = w ∧ ∃ p : Nat, iv = .int .i64 p ∧ p ≤ s.size ∧ nameEnd s 0 = nameEnd s p) (fun _ iv _ => s.size - (Lib.intOf iv).toNat)
  case atStart => exact ⟨rfl, 0, rfl, Nat.zero_le _, rfl⟩
  case round =>
    obtain ⟨rfl, p, rfl, hp, hE⟩ := hrel
    by_cases hlt : p < s.size
    · have hq : (p : Int) < (s.size : Int) := by omega
      have HN := Lib.hid (fun W => nbyte_any s[p] W)
      have HE := Lib.hid (nameEnd_step hlt)
      cases hb : nameB s[p]
      · rw [hb] at HN HE
        have HX := Lib.hid (show allB s = false by unfold allB; rw [hE, HE.out]; simp; omega)
        clear HE hE hb
        go_wp2_with (go_at_call 94; refine (HN.out _).mono ?_; rintro en w1 ⟨rfl, rfl⟩)
        go_ret
        exact ⟨by rw [HX.out]; rfl, rfl⟩
      · rw [hb] at HN HE
        have HX := Lib.hid (show nameEnd s 0 = nameEnd s (p + 1) by rw [hE, HE.out]; rfl)
        clear HE hE hb
        go_wp2_with (go_at_call 94; refine (HN.out _).mono ?_; rintro en w1 ⟨rfl, rfl⟩)
        go_roundw
        case rel => exact ⟨trivial, p + 1, by simp, by omega, HX.out⟩
        case measure => simp [Lib.intOf]; omega
    · have hq : ¬ (p : Int) < (s.size : Int) := by omega
      have hE2 := nameEnd_end hlt
      have HX := Lib.hid (show allB s = !s.toList.isEmpty by
        unfold allB
        rw [hE, hE2, Lib.toList_data]
        obtain rfl : p = s.size := by omega
        cases hd : s.data.toList with
        | nil =>
          have : s.size = 0 := by rw [← ba_len, hd]; rfl
          simp [this]
        | cons _ _ =>
          have : 0 < s.size := by rw [← ba_len, hd]; simp
          simp [this])
      clear hE hE2
      go_wp2
      go_ret
      exact ⟨by rw [HX.out]; rfl, rfl⟩
theorem name_ok (s : ByteArray) (w : World) (hs : s.size ≤ 140737488355328) :
    Calls Try.prog 73 #[.string s] w fun en w' => en = .returned (.bool (nameOk s)) ∧ w' = w := by
  have HA := Lib.hid (fun W => all_any s W hs)
  by_cases h0 : 0 < s.size
  · have HS := Lib.hid (fun W => start_any s[0] W)
    have hq : (0 : Int) < (s.size : Int) := by omega
    by_cases he : nameEnd s 0 = s.size
    · have HX := Lib.hid (show nameOk s = startB s[0] by unfold nameOk; rw [dif_pos h0]; simp [he])
      rw [show allB s = true by unfold allB; simp [h0, he]] at HA
      generalize startB s[0] = b at *
      clear he
      go_enter Try.func73, Try.ntmps73
      go_wp2_with (first | (go_at_call 96; refine (HA.out _).mono ?_; rintro en w1 ⟨rfl, rfl⟩) | (go_at_call 93; refine (HS.out _).mono ?_; rintro en w1 ⟨rfl, rfl⟩))
      go_ret
      exact ⟨by rw [HX.out]; rfl, rfl⟩
    · have HX := Lib.hid (show nameOk s = false by unfold nameOk; rw [dif_pos h0]; simp [he])
      rw [show allB s = false by unfold allB; simp [he]] at HA
      clear he
      go_enter Try.func73, Try.ntmps73
      go_wp2_with (first | (go_at_call 96; refine (HA.out _).mono ?_; rintro en w1 ⟨rfl, rfl⟩))
      go_ret
      exact ⟨by rw [HX.out]; rfl, rfl⟩
  · have HX := Lib.hid (show nameOk s = false by unfold nameOk; rw [dif_neg h0])
    rw [show allB s = false by unfold allB; simp; omega] at HA
    clear h0
    go_enter Try.func73, Try.ntmps73
    go_wp2_with (first | (go_at_call 96; refine (HA.out _).mono ?_; rintro en w1 ⟨rfl, rfl⟩))
    go_ret
    exact ⟨by rw [HX.out]; rfl, rfl⟩

/-- Does a control rune stand in it? -/
def ctrlF : Nat → ByteArray → Nat → Bool
  | 0, _, _ => false
  | k + 1, s, p => if p < s.size then (if controlR ((Utf8.decode s p).1 : Int) = true then true else ctrlF k s (p + (Utf8.decode s p).2)) else false
def ctrlAt (s : ByteArray) (p : Nat) : Bool := ctrlF (s.size - p) s p
theorem ctrlF_fuel (s : ByteArray) : ∀ (k j p : Nat), s.size ≤ p + k → k ≤ j → ctrlF j s p = ctrlF k s p := by
  intro k
  induction k with
  | zero =>
    intro j p h1 h2
    cases j with
    | zero => rfl
    | succ j => simp only [ctrlF]; rw [if_neg (by omega)]
  | succ k ih =>
    intro j p h1 h2
    cases j with
    | zero => omega
    | succ j =>
      have := decode_pos s p
      simp only [ctrlF]
      rw [ih j _ (by omega) (by omega)]
theorem ctrl_step {s : ByteArray} {p : Nat} (h : p < s.size) : ctrlAt s p = if controlR ((Utf8.decode s p).1 : Int) = true then true else ctrlAt s (p + (Utf8.decode s p).2) := by
  have hd := decode_pos s p
  unfold ctrlAt
  rw [show s.size - p = (s.size - p - 1) + 1 by omega]
  simp only [ctrlF]
  rw [if_pos h]
  split
  · rfl
  · exact ctrlF_fuel s _ _ _ (by omega) (by omega)
theorem ctrl_end {s : ByteArray} {p : Nat} (h : ¬ p < s.size) : ctrlAt s p = false := by
  unfold ctrlAt
  rw [show s.size - p = 0 by omega]
  rfl
set_option maxHeartbeats 2000000 in
theorem indexfunc_any (s : ByteArray) (w : World) (hs : s.size ≤ 140737488355328) :
    Calls Try.prog 110 #[.string s, .func (.func 75) #[] #[], .bool true] w fun en w' => (∃ k : Int, en = .returned (.int .i64 k) ∧ decide (0 ≤ k) = ctrlAt s 0) ∧ Below w.heap.size w w' := by
  go_enter Try.func110, Try.ntmps110
  go_wp2
  go_loopw [6, 7, 8] (fun _ _ _ wr => ∃ p : Nat, w.iter s p = wr ∧ p ≤ s.size ∧ ctrlAt s 0 = ctrlAt s p) (fun _ _ _ wr => s.size - wr.iterPos w.heap.size)
  case atStart => exact ⟨0, rfl, Nat.zero_le _, rfl⟩
  case round =>
    obtain ⟨p, rfl, hp0, hE⟩ := hrel
    have HB := Lib.hid (fun q => show Below w.heap.size w (w.iter s q) from (Below.refl _ _).alloc (Nat.le_refl _) _)
    by_cases hp : p < s.size
    · have hnx := fun ty => run_next_any (P := Try.prog) w s p ty hp
      have hn1 := decode_pos s p
      have hn2 := decode_in hp
      have HN := Lib.hid (ctrl_step hp)
      have hr := decode_le s p
      generalize Utf8.decode s p = d at *
      obtain ⟨r, n⟩ := d
      simp only at hnx hn1 hn2 hr HN
      have HM := Lib.hid (show s.size - ((w.iter s (p + n)).iterPos w.heap.size) < s.size - ((w.iter s p).iterPos w.heap.size) by
        rw [World.iterPos_iter, World.iterPos_iter]
        omega)
      have HC := Lib.hid (fun W => control_any (r : Int) W)
      cases hc : controlR (r : Int)
      · rw [hc] at HC HN
        have HX := Lib.hid (show ctrlAt s 0 = ctrlAt s (p + n) by rw [hE, HN.out]; rfl)
        clear hE hc HN
        go_wp2_with (go_at_call 75; refine (HC.out _).mono ?_; rintro en w3 ⟨rfl, rfl⟩)
        go_roundw
        case rel => exact ⟨p + n, rfl, hn2, HX.out⟩
        case measure => exact HM.out
      · rw [hc] at HC HN
        have HX := Lib.hid (show ctrlAt s 0 = true by rw [hE, HN.out]; rfl)
        clear hE hc HN
        go_wp2_with (go_at_call 75; refine (HC.out _).mono ?_; rintro en w3 ⟨rfl, rfl⟩)
        go_ret
        exact ⟨⟨p, rfl, by rw [HX.out]; simp⟩, HB.out _⟩
    · obtain rfl : p = s.size := by omega
      have hnx := fun ty => run_next_end (P := Try.prog) w s s.size ty (by omega)
      have HX := Lib.hid (show ctrlAt s 0 = false by rw [hE]; exact ctrl_end (by omega))
      clear hE
      go_wp2
      go_ret
      exact ⟨⟨-1, rfl, by rw [HX.out]; simp⟩, HB.out _⟩
theorem indexfunc2_any (s : ByteArray) (w : World) (hs : s.size ≤ 140737488355328) :
    Calls Try.prog 97 #[.string s, .func (.func 75) #[] #[]] w fun en w' => (∃ k : Int, en = .returned (.int .i64 k) ∧ decide (0 ≤ k) = ctrlAt s 0) ∧ Below w.heap.size w w' := by
  have H := Lib.hid (fun W => indexfunc_any s W hs)
  go_enter Try.func97, Try.ntmps97
  go_wp2_with (go_at_call 110; refine (H.out _).mono ?_; rintro en w1 ⟨⟨k, rfl, hk⟩, hb⟩)
  go_ret
  exact ⟨⟨k, rfl, hk⟩, hb⟩
theorem contains_any (s : ByteArray) (w : World) (hs : s.size ≤ 140737488355328) :
    Calls Try.prog 74 #[.string s, .func (.func 75) #[] #[]] w fun en w' => en = .returned (.bool (ctrlAt s 0)) ∧ Below w.heap.size w w' := by
  have H := Lib.hid (fun W => indexfunc2_any s W hs)
  go_enter Try.func74, Try.ntmps74
  go_wp2_with (go_at_call 97; refine (H.out _).mono ?_; rintro en w1 ⟨⟨k, rfl, hk⟩, hb⟩; have HK := Lib.hid hk; clear hk)
  go_ret
  exact ⟨by rw [← HK.out]; rfl, hb⟩
end Go.Proofs.Ytjebaibcfmjinaa
