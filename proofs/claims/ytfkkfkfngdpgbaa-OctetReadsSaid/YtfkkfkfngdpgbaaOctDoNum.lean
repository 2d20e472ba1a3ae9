/-
  The walk of the reference's Do, the numbers; and Do as a whole. Condition: the bytes are within the reach.
-/
import Derived.Test.YtfkkfkfngdpgbaaOctDo
import Derived.Test.YtfkkfkfngdpgbaaCrc
namespace Go.Proofs.Ytfkkfkfngdpgbaa
open Go.RowKit

theorem num_drop (r : List UInt8) {k : Nat} (h : k < r.length) : num (r.drop k) = (r.getD k 0).toNat + 256 * num (r.drop (k + 1)) := by
  rw [List.drop_eq_getElem_cons h]
  simp only [num]
  rw [List.getD_eq_getElem?_getD, List.getElem?_eq_getElem h]
  rfl
set_option maxHeartbeats 2000000 in
theorem do_num (l : List UInt8) (A : Option Addr) (c at_ n B : Nat) (k m : Int) (w : World) (hr : RB w B A l) (hB : B ≤ w.heap.size) (hn : at_ + n ≤ l.length) (hlc : l.length ≤ c) (hl : l.length ≤ 140737488355328)
    (hkn : (k = 0 ∧ n = 2) ∨ (k = 1 ∧ n = 4)) :
    Calls Try.prog 21 #[.agg #[.slice A l.length c, .int .i64 (at_ : Int), .int .i64 0], .agg #[.int .i64 k, .int .i64 m]] w (Did A l.length c (num ((l.drop at_).take n), [], 0, at_ + n, 0) w) := by
  have hlen : ((l.drop at_).take n).length = n := by simp; omega
  have hrb := rb_part hr hn hlc
  have hnl := num_lt ((l.drop at_).take n)
  have hdr := fun j => num_drop ((l.drop at_).take n) (k := j)
  generalize (l.drop at_).take n = r at *
  have HR := Lib.hid hrb
  have HL := Lib.hid hlen
  have HD := Lib.hid hdr
  have hrn : n ≤ r.length := by omega
  clear hrb hlen hdr hnl
  rcases hkn with ⟨rfl, rfl⟩ | ⟨rfl, rfl⟩
  · have hds : decide ((l.length : Int) - at_ < 2) = false := by simp; omega
    have hca : ¬ c = at_ := by omega
    have hrb := HR.out
    rw [if_neg hca] at hrb
    have hrb4 := fun (o1 o2 o3 o4 : Obj) => Reads.below hrb ((below4 w o1 o2 o3 o4).mono hB)
    have HRB := Lib.hid hrb
    have HR4 := Lib.hid hrb4
    clear hrb hrb4
    go_enter Try.func21, Try.ntmps21
    go_wp2
    have hr4 := HR4.out (.cells #[.slice A l.length c, .int .i64 ((at_ : Int) + 2), .int .i64 0] 46) (.cells #[.int .i64 0, .int .i64 m] 48) (.cells #[.slice none 0 0, .int .i64 0, .int .i64 0] 46) (.cells #[.int .u32 0, .slice none 0 0, .int .i64 0] 50)
    generalize hw4 : (((w.alloc (.cells #[.slice A l.length c, .int .i64 ((at_ : Int) + 2), .int .i64 0] 46)).alloc (.cells #[.int .i64 0, .int .i64 m] 48)).alloc (.cells #[.slice none 0 0, .int .i64 0, .int .i64 0] 46)).alloc (.cells #[.int .u32 0, .slice none 0 0, .int .i64 0] 50) = w4 at *
    have HW4 := Lib.hid hw4
    clear hw4
    generalize hA' : Option.map (fun x => Addr.add x at_) A = A' at *
    have HA' := Lib.hid hA'
    clear hA'
    go_loop [8, 9] (fun x i => ∃ j : Nat, j ≤ 2 ∧ i = .int .i64 ((j : Int) - 1) ∧ x = .int .u32 ((num (r.drop j) : Nat) : Int)) (fun _ i => (intOf i + 1).toNat)
    case atStart => exact ⟨2, Nat.le_refl _, rfl, by rw [List.drop_eq_nil_of_le (by have := HL.out; omega)]; rfl⟩
    case round =>
      obtain ⟨j, hj, rfl, rfl⟩ := hrel
      by_cases hj0 : j = 0
      · subst hj0
        obtain rfl := HW4.out
        rw [show (((0 : Nat) : Int) - 1) = -1 from rfl, List.drop_zero]
        go_wp2
        refine bodyPost_ret (v := .tuple #[.agg #[.slice A l.length c, .int .i64 ((at_ : Int) + 2), .int .i64 0], .agg #[.int .u32 (num r : Int), .slice none 0 0, .int .i64 0]]) (by simp [results, Try.results21, go_sem]) rfl ?_
        exact ⟨none, 0, rfl, Reads.none_, (fun _ h => by cases h), below4 w _ _ _ _⟩
      · obtain ⟨q, rfl⟩ : ∃ q, j = q + 1 := ⟨j - 1, by omega⟩
        have hq : q < r.length := by omega
        obtain ⟨b, off, hbo, hbB, hc⟩ := RB.at_ hr4 hq
        subst hbo
        have hx := num_lt (r.drop (q + 1))
        have hx2 : num (r.drop (q + 1)) < 16777216 := Nat.lt_of_lt_of_le hx (by
          have : (r.drop (q + 1)).length ≤ 3 := by rw [List.length_drop, HL.out]; omega
          exact Nat.le_trans (Nat.pow_le_pow_right (by omega) this) (by omega))
        clear hx
        have HQ := Lib.hid (HD.out q hq)
        have hby := (r.getD q 0).toNat_lt
        generalize r.getD q 0 = by0 at *
        generalize num (r.drop (q + 1)) = x0 at *
        rw [show (((q + 1 : Nat) : Int) - 1) = (q : Int) by omega]
        go_wp2
        go_round
        case rel => exact ⟨q, by omega, rfl, int_val (by rw [HQ.out]; omega)⟩
        case measure => simp [intOf]
  · have hds : decide ((l.length : Int) - at_ < 4) = false := by simp; omega
    have hca : ¬ c = at_ := by omega
    have hrb := HR.out
    rw [if_neg hca] at hrb
    have hrb4 := fun (o1 o2 o3 o4 : Obj) => Reads.below hrb ((below4 w o1 o2 o3 o4).mono hB)
    have HRB := Lib.hid hrb
    have HR4 := Lib.hid hrb4
    clear hrb hrb4
    go_enter Try.func21, Try.ntmps21
    go_wp2
    have hr4 := HR4.out (.cells #[.slice A l.length c, .int .i64 ((at_ : Int) + 4), .int .i64 0] 46) (.cells #[.int .i64 1, .int .i64 m] 48) (.cells #[.slice none 0 0, .int .i64 0, .int .i64 0] 46) (.cells #[.int .u32 0, .slice none 0 0, .int .i64 0] 50)
    generalize hw4 : (((w.alloc (.cells #[.slice A l.length c, .int .i64 ((at_ : Int) + 4), .int .i64 0] 46)).alloc (.cells #[.int .i64 1, .int .i64 m] 48)).alloc (.cells #[.slice none 0 0, .int .i64 0, .int .i64 0] 46)).alloc (.cells #[.int .u32 0, .slice none 0 0, .int .i64 0] 50) = w4 at *
    have HW4 := Lib.hid hw4
    clear hw4
    generalize hA' : Option.map (fun x => Addr.add x at_) A = A' at *
    have HA' := Lib.hid hA'
    clear hA'
    go_loop [8, 9] (fun x i => ∃ j : Nat, j ≤ 4 ∧ i = .int .i64 ((j : Int) - 1) ∧ x = .int .u32 ((num (r.drop j) : Nat) : Int)) (fun _ i => (intOf i + 1).toNat)
    case atStart => exact ⟨4, Nat.le_refl _, rfl, by rw [List.drop_eq_nil_of_le (by have := HL.out; omega)]; rfl⟩
    case round =>
      obtain ⟨j, hj, rfl, rfl⟩ := hrel
      by_cases hj0 : j = 0
      · subst hj0
        obtain rfl := HW4.out
        rw [show (((0 : Nat) : Int) - 1) = -1 from rfl, List.drop_zero]
        go_wp2
        refine bodyPost_ret (v := .tuple #[.agg #[.slice A l.length c, .int .i64 ((at_ : Int) + 4), .int .i64 0], .agg #[.int .u32 (num r : Int), .slice none 0 0, .int .i64 0]]) (by simp [results, Try.results21, go_sem]) rfl ?_
        exact ⟨none, 0, rfl, Reads.none_, (fun _ h => by cases h), below4 w _ _ _ _⟩
      · obtain ⟨q, rfl⟩ : ∃ q, j = q + 1 := ⟨j - 1, by omega⟩
        have hq : q < r.length := by omega
        obtain ⟨b, off, hbo, hbB, hc⟩ := RB.at_ hr4 hq
        subst hbo
        have hx := num_lt (r.drop (q + 1))
        have hx2 : num (r.drop (q + 1)) < 16777216 := Nat.lt_of_lt_of_le hx (by
          have : (r.drop (q + 1)).length ≤ 3 := by rw [List.length_drop, HL.out]; omega
          exact Nat.le_trans (Nat.pow_le_pow_right (by omega) this) (by omega))
        clear hx
        have HQ := Lib.hid (HD.out q hq)
        have hby := (r.getD q 0).toNat_lt
        generalize r.getD q 0 = by0 at *
        generalize num (r.drop (q + 1)) = x0 at *
        rw [show (((q + 1 : Nat) : Int) - 1) = (q : Int) by omega]
        go_wp2
        go_round
        case rel => exact ⟨q, by omega, rfl, int_val (by rw [HQ.out]; omega)⟩
        case measure => simp [intOf]

theorem takeM_ok (l : List UInt8) (at_ n : Nat) (h : at_ + n ≤ l.length) : takeM l at_ 0 n = ((l.drop at_).take n, at_ + n, 0) := by
  unfold takeM
  rw [if_neg (by simp), if_neg (by omega), if_neg (by omega), Int.toNat_natCast]
theorem takeM_short (l : List UInt8) (at_ : Nat) (n : Int) (h0 : 0 ≤ n) (h : (l.length : Int) - at_ < n) : takeM l at_ 0 n = ([], at_, 110) := by
  unfold takeM
  rw [if_neg (by simp), if_neg (by omega), if_pos h]
theorem takeM_neg (l : List UInt8) (at_ : Nat) (n : Int) (h0 : n < 0) : takeM l at_ 0 n = ([], at_, 2) := by
  unfold takeM
  rw [if_neg (by simp), if_pos h0]
theorem takeM_err (l : List UInt8) (at_ : Nat) (err n : Int) (h : err ≠ 0) : takeM l at_ err n = ([], at_, err) := by
  unfold takeM
  rw [if_pos h]
/-- Do, whatever is asked. -/
theorem do_any (l : List UInt8) (A : Option Addr) (c at_ B : Nat) (err k n : Int) (w : World) (hr : RB w B A l) (hB : B ≤ w.heap.size) (hle : at_ ≤ l.length) (hlc : l.length ≤ c) (hl : l.length ≤ 140737488355328) (h0 : 0 ≤ k) (h3 : k ≤ 3) :
    Calls Try.prog 21 #[rv A l.length c at_ err, av k n] w (Did A l.length c (doM l at_ err k n) w) := by
  unfold rv av doM
  by_cases hk3 : k = 3
  · subst hk3
    rw [if_pos rfl]
    by_cases hn : n < 0 ∨ (l.length : Int) < n
    · rw [if_pos hn]
      exact do_seek_bad l A c at_ err n w hn
    · rw [if_neg hn]
      obtain ⟨m, rfl⟩ := Int.eq_ofNat_of_zero_le (show 0 ≤ n by omega)
      exact do_seek_ok l A c at_ m err w (by omega)
  · rw [if_neg hk3]
    by_cases he : err = 0
    · subst he
      by_cases hk2 : k = 2
      · subst hk2
        rw [if_pos rfl]
        by_cases hn : n < 0
        · rw [takeM_neg l at_ n hn]
          exact do_neg l A c at_ n w hn
        · by_cases hs : (l.length : Int) - at_ < n
          · rw [takeM_short l at_ n (by omega) hs]
            exact do_short2 l A c at_ n w (by omega) hle hs hl
          · obtain ⟨m, rfl⟩ := Int.eq_ofNat_of_zero_le (show 0 ≤ n by omega)
            rw [takeM_ok l at_ m (by omega)]
            exact do_raw l A c at_ m B w hr hB (by omega) hlc hl
      · rw [if_neg hk2]
        by_cases hk0 : k = 0
        · subst hk0
          simp only [if_true]
          by_cases hs : (l.length : Int) - at_ < 2
          · rw [takeM_short l at_ 2 (by omega) hs]
            exact do_short0 l A c at_ n w hle hs hl
          · have h := takeM_ok l at_ 2 (by omega)
            rw [show (2 : Int) = ((2 : Nat) : Int) from rfl, h]
            exact do_num l A c at_ 2 B 0 n w hr hB (by omega) hlc hl (.inl ⟨rfl, rfl⟩)
        · obtain rfl : k = 1 := by omega
          rw [if_neg (by omega)]
          by_cases hs : (l.length : Int) - at_ < 4
          · rw [takeM_short l at_ 4 (by omega) hs]
            exact do_short1 l A c at_ n w hle hs hl
          · have h := takeM_ok l at_ 4 (by omega)
            rw [show (4 : Int) = ((4 : Nat) : Int) from rfl, h]
            exact do_num l A c at_ 4 B 1 n w hr hB (by omega) hlc hl (.inr ⟨rfl, rfl⟩)
    · have e : (if k = 2 then (0, (takeM l at_ err n).1, 0, (takeM l at_ err n).2.1, (takeM l at_ err n).2.2) else (num (takeM l at_ err (if k = 0 then 2 else 4)).1, [], 0, (takeM l at_ err (if k = 0 then 2 else 4)).2.1, (takeM l at_ err (if k = 0 then 2 else 4)).2.2)) = ((0, [], 0, at_, err) : Nat × List UInt8 × Int × Nat × Int) := by
        rw [takeM_err l at_ err n he, takeM_err l at_ err _ he]
        split <;> rfl
      rw [e]
      exact do_err l A c at_ err k n w (by simpa using hk3) (by simpa using he)
end Go.Proofs.Ytfkkfkfngdpgbaa
