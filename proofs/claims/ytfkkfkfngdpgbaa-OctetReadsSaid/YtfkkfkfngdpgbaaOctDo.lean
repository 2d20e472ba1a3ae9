/-
  The walk of the reference's Do. Condition: the bytes are within the reach.
-/
import Derived.Test.YtfkkfkfngdpgbaaOctMeth
import Derived.Outline
namespace Go.Proofs.Ytfkkfkfngdpgbaa
open Go.RowKit

/-- A reader's value. -/
def rv (A : Option Addr) (n c : Nat) (at_ : Nat) (err : Int) : Value := .agg #[.slice A n c, .int .i64 (at_ : Int), .int .i64 err]
/-- An ask's value. -/
def av (k n : Int) : Value := .agg #[.int .i64 k, .int .i64 n]
/-- What a call tells, as a value. -/
def tv (x : Int) (A : Option Addr) (n c : Nat) (err : Int) : Value := .agg #[.int .u32 x, .slice A n c, .int .i64 err]
/-- Do, in plain numbers and lists: the number, the bytes, the error that is told; where the reader is, its error. -/
def doM (l : List UInt8) (at_ : Nat) (err k n : Int) : Nat × List UInt8 × Int × Nat × Int :=
  if k = 3 then (if n < 0 ∨ (l.length : Int) < n then (0, [], 2, at_, err) else (0, [], 0, n.toNat, 0))
  else if k = 2 then (0, (takeM l at_ err n).1, 0, (takeM l at_ err n).2.1, (takeM l at_ err n).2.2)
  else (num (takeM l at_ err (if k = 0 then 2 else 4)).1, [], 0, (takeM l at_ err (if k = 0 then 2 else 4)).2.1, (takeM l at_ err (if k = 0 then 2 else 4)).2.2)
def Did (A : Option Addr) (n c : Nat) (m : Nat × List UInt8 × Int × Nat × Int) (w : World) (e : Ending) (w' : World) : Prop :=
  ∃ A' c', e = .returned (.tuple #[rv A n c m.2.2.2.1 m.2.2.2.2, tv m.1 A' m.2.1.length c' m.2.2.1]) ∧ RB w' w'.heap.size A' m.2.1 ∧ (∀ ad', A' = some ad' → ∃ ad, A = some ad ∧ ad'.block = ad.block) ∧ Below w.heap.size w w'

theorem below4 (w : World) (o1 o2 o3 o4 : Obj) : Below w.heap.size w ((((w.alloc o1).alloc o2).alloc o3).alloc o4) :=
  ((((Below.refl _ _).alloc (Nat.le_refl _) _).alloc (by simp only [World.size_alloc]; omega) _).alloc (by simp only [World.size_alloc]; omega) _).alloc (by simp only [World.size_alloc]; omega) _
set_option maxHeartbeats 1000000 in
theorem do_seek_bad (l : List UInt8) (A : Option Addr) (c at_ : Nat) (err n : Int) (w : World) (hn : n < 0 ∨ (l.length : Int) < n) :
    Calls Try.prog 21 #[.agg #[.slice A l.length c, .int .i64 (at_ : Int), .int .i64 err], .agg #[.int .i64 3, .int .i64 n]] w (Did A l.length c (0, [], 2, at_, err) w) := by
  rcases hn with hn | hn
  · have hd : decide (n < 0) = true := by simpa using hn
    go_enter Try.func21, Try.ntmps21
    go_wp2
    refine bodyPost_ret (v := .tuple #[.agg #[.slice A l.length c, .int .i64 (at_ : Int), .int .i64 err], .agg #[.int .u32 0, .slice none 0 0, .int .i64 2]]) (by simp [results, Try.results21, go_sem]) rfl ?_
    exact ⟨none, 0, rfl, Reads.none_, (fun _ h => by cases h), below4 w _ _ _ _⟩
  · have hn0 : ¬ n < 0 := by omega
    have hd : decide (n < 0) = false := by simpa using hn0
    go_enter Try.func21, Try.ntmps21
    go_wp2
    refine bodyPost_ret (v := .tuple #[.agg #[.slice A l.length c, .int .i64 (at_ : Int), .int .i64 err], .agg #[.int .u32 0, .slice none 0 0, .int .i64 2]]) (by simp [results, Try.results21, go_sem]) rfl ?_
    exact ⟨none, 0, rfl, Reads.none_, (fun _ h => by cases h), below4 w _ _ _ _⟩
set_option maxHeartbeats 1000000 in
theorem do_seek_ok (l : List UInt8) (A : Option Addr) (c at_ n : Nat) (err : Int) (w : World) (hn : n ≤ l.length) :
    Calls Try.prog 21 #[.agg #[.slice A l.length c, .int .i64 (at_ : Int), .int .i64 err], .agg #[.int .i64 3, .int .i64 (n : Int)]] w (Did A l.length c (0, [], 0, n, 0) w) := by
  have hd : decide ((n : Int) < 0) = false := by simp
  go_enter Try.func21, Try.ntmps21
  go_wp2
  refine bodyPost_ret (v := .tuple #[.agg #[.slice A l.length c, .int .i64 (n : Int), .int .i64 0], .agg #[.int .u32 0, .slice none 0 0, .int .i64 0]]) (by simp [results, Try.results21, go_sem]) rfl ?_
  exact ⟨none, 0, rfl, Reads.none_, (fun _ h => by cases h), below4 w _ _ _ _⟩
set_option maxHeartbeats 1000000 in
theorem do_err (l : List UInt8) (A : Option Addr) (c at_ : Nat) (err k n : Int) (w : World) (hk : (k == 3) = false) (he : (err != 0) = true) :
    Calls Try.prog 21 #[.agg #[.slice A l.length c, .int .i64 (at_ : Int), .int .i64 err], .agg #[.int .i64 k, .int .i64 n]] w (Did A l.length c (0, [], 0, at_, err) w) := by
  go_enter Try.func21, Try.ntmps21
  go_wp2
  refine bodyPost_ret (v := .tuple #[.agg #[.slice A l.length c, .int .i64 (at_ : Int), .int .i64 err], .agg #[.int .u32 0, .slice none 0 0, .int .i64 0]]) (by simp [results, Try.results21, go_sem]) rfl ?_
  exact ⟨none, 0, rfl, Reads.none_, (fun _ h => by cases h), below4 w _ _ _ _⟩
set_option maxHeartbeats 1000000 in
theorem do_neg (l : List UInt8) (A : Option Addr) (c at_ : Nat) (n : Int) (w : World) (hn : n < 0) :
    Calls Try.prog 21 #[.agg #[.slice A l.length c, .int .i64 (at_ : Int), .int .i64 0], .agg #[.int .i64 2, .int .i64 n]] w (Did A l.length c (0, [], 0, at_, 2) w) := by
  go_enter Try.func21, Try.ntmps21
  go_wp2
  refine bodyPost_ret (v := .tuple #[.agg #[.slice A l.length c, .int .i64 (at_ : Int), .int .i64 2], .agg #[.int .u32 0, .slice none 0 0, .int .i64 0]]) (by simp [results, Try.results21, go_sem]) rfl ?_
  exact ⟨none, 0, rfl, Reads.none_, (fun _ h => by cases h), below4 w _ _ _ _⟩
set_option maxHeartbeats 1000000 in
theorem do_short2 (l : List UInt8) (A : Option Addr) (c at_ : Nat) (n : Int) (w : World) (hn : 0 ≤ n) (hle : at_ ≤ l.length) (hs : (l.length : Int) - at_ < n) (hl : l.length ≤ 140737488355328) :
    Calls Try.prog 21 #[.agg #[.slice A l.length c, .int .i64 (at_ : Int), .int .i64 0], .agg #[.int .i64 2, .int .i64 n]] w (Did A l.length c (0, [], 0, at_, 110) w) := by
  have hd : decide (n < 0) = false := by simpa using hn
  go_enter Try.func21, Try.ntmps21
  go_wp2
  refine bodyPost_ret (v := .tuple #[.agg #[.slice A l.length c, .int .i64 (at_ : Int), .int .i64 110], .agg #[.int .u32 0, .slice none 0 0, .int .i64 0]]) (by simp [results, Try.results21, go_sem]) rfl ?_
  exact ⟨none, 0, rfl, Reads.none_, (fun _ h => by cases h), below4 w _ _ _ _⟩
set_option maxHeartbeats 1000000 in
theorem do_short0 (l : List UInt8) (A : Option Addr) (c at_ : Nat) (n : Int) (w : World) (hle : at_ ≤ l.length) (hs : (l.length : Int) - at_ < 2) (_hl : l.length ≤ 140737488355328) :
    Calls Try.prog 21 #[.agg #[.slice A l.length c, .int .i64 (at_ : Int), .int .i64 0], .agg #[.int .i64 0, .int .i64 n]] w (Did A l.length c (0, [], 0, at_, 110) w) := by
  go_enter Try.func21, Try.ntmps21
  go_wp2
  refine bodyPost_ret (v := .tuple #[.agg #[.slice A l.length c, .int .i64 (at_ : Int), .int .i64 110], .agg #[.int .u32 0, .slice none 0 0, .int .i64 0]]) (by simp [results, Try.results21, go_sem]) rfl ?_
  exact ⟨none, 0, rfl, Reads.none_, (fun _ h => by cases h), below4 w _ _ _ _⟩
set_option maxHeartbeats 1000000 in
theorem do_short1 (l : List UInt8) (A : Option Addr) (c at_ : Nat) (n : Int) (w : World) (hle : at_ ≤ l.length) (hs : (l.length : Int) - at_ < 4) (_hl : l.length ≤ 140737488355328) :
    Calls Try.prog 21 #[.agg #[.slice A l.length c, .int .i64 (at_ : Int), .int .i64 0], .agg #[.int .i64 1, .int .i64 n]] w (Did A l.length c (0, [], 0, at_, 110) w) := by
  go_enter Try.func21, Try.ntmps21
  go_wp2
  refine bodyPost_ret (v := .tuple #[.agg #[.slice A l.length c, .int .i64 (at_ : Int), .int .i64 110], .agg #[.int .u32 0, .slice none 0 0, .int .i64 0]]) (by simp [results, Try.results21, go_sem]) rfl ?_
  exact ⟨none, 0, rfl, Reads.none_, (fun _ h => by cases h), below4 w _ _ _ _⟩
theorem rb_part {w : World} {B : Nat} {A : Option Addr} {l : List UInt8} {at_ n c : Nat} (h : RB w B A l) (hn : at_ + n ≤ l.length) (hlc : l.length ≤ c) :
    RB w B (if c = at_ then A else A.map (·.add at_)) ((l.drop at_).take n) := by
  have hd := Reads.drop (k := at_) (cap := c) h (by omega) hlc
  have ht := Reads.take (k := n) hd (by omega)
  simp only [Nat.mul_one] at ht
  have hlen : ((l.drop at_).take n).length = n := by simp; omega
  unfold RB
  rw [hlen]
  simpa [bvs, List.map_take, List.map_drop] using ht
set_option maxHeartbeats 1000000 in
theorem do_raw (l : List UInt8) (A : Option Addr) (c at_ n B : Nat) (w : World) (hr : RB w B A l) (hB : B ≤ w.heap.size) (hn : at_ + n ≤ l.length) (hlc : l.length ≤ c) (hl : l.length ≤ 140737488355328) :
    Calls Try.prog 21 #[.agg #[.slice A l.length c, .int .i64 (at_ : Int), .int .i64 0], .agg #[.int .i64 2, .int .i64 (n : Int)]] w (Did A l.length c (0, (l.drop at_).take n, 0, at_ + n, 0) w) := by
  have hd : decide ((n : Int) < 0) = false := by simp
  have hds : decide ((l.length : Int) - at_ < n) = false := by simp; omega
  have hlen : ((l.drop at_).take n).length = n := by simp; omega
  have HR := Lib.hid (rb_part hr hn hlc)
  have HL := Lib.hid hlen
  clear hlen
  go_enter Try.func21, Try.ntmps21
  go_wp2
  · have e : c = at_ := by assumption
    subst e
    refine bodyPost_ret (v := .tuple #[.agg #[.slice A l.length c, .int .i64 ((c : Int) + (n : Int)), .int .i64 0], .agg #[.int .u32 0, .slice A n 0, .int .i64 0]]) (by simp [results, Try.results21, go_sem]) rfl ?_
    refine ⟨A, 0, ?_, ?_, fun ad' h => ⟨ad', h, rfl⟩, below4 w _ _ _ _⟩
    · unfold rv tv; simp only [HL.out]; rfl
    · have h := HR.out
      rw [if_pos rfl] at h
      exact (Reads.below h ((below4 w _ _ _ _).mono hB)).more (by simp only [World.size_alloc]; omega)
  · have e : ¬ c = at_ := by assumption
    refine bodyPost_ret (v := .tuple #[.agg #[.slice A l.length c, .int .i64 ((at_ : Int) + (n : Int)), .int .i64 0], .agg #[.int .u32 0, .slice (A.map (·.add at_)) n (c - at_), .int .i64 0]]) (by simp [results, Try.results21, go_sem]) rfl ?_
    refine ⟨A.map (·.add at_), c - at_, ?_, ?_, fun ad' h => (by
      obtain ⟨ad, rfl, rfl⟩ := Option.map_eq_some_iff.1 h
      exact ⟨ad, rfl, block_of_add _ _⟩), below4 w _ _ _ _⟩
    · unfold rv tv; simp only [HL.out]; rfl
    · have h := HR.out
      rw [if_neg e] at h
      exact (Reads.below h ((below4 w _ _ _ _).mono hB)).more (by simp only [World.size_alloc]; omega)
end Go.Proofs.Ytfkkfkfngdpgbaa
