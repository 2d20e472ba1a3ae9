/-
  The walks of the reader (octet.Read and its methods). Condition: the bytes are within the reach.
-/
import Derived.Test.YtfpepdjffehbcaaGreatOctRef
import Derived.Test.YtfpepdjffehbcaaGreatBlocks
import Derived.Deep.QuietTactic
import Derived.BigQuiet
set_option linter.unusedVariables false
set_option linter.unusedSimpArgs false
namespace Go.Proofs.YtfpepdjffehbcaaGreat
open Go.RowKit

/-- What a take leaves: what was taken, where the reader is then, its error. -/
def takeM (l : List UInt8) (at_ : Nat) (err n : Int) : List UInt8 × Nat × Int :=
  if err ≠ 0 then ([], at_, err) else if n < 0 then ([], at_, 2) else if n > (l.length : Int) - at_ then ([], at_, 110) else ((l.drop at_).take n.toNat, at_ + n.toNat, 0)

/-- The reader at block g: its bytes lie below g. -/
structure Rd (w : World) (g : Nat) (A : Option Addr) (c : Nat) (l : List UInt8) (at_ : Nat) (err : Int) : Prop where
  blk : Blk w g 113 #[.slice A l.length c, .int .i64 (at_ : Int), .int .i64 err]
  rb : RB w g A l
  lc : l.length ≤ c
  cm : c ≤ maxLen
  le : at_ ≤ l.length

set_option maxHeartbeats 400000 in
theorem read_any (l : List UInt8) (A : Option Addr) (c B : Nat) (w : World) (hr : RB w B A l) (hB : B ≤ w.heap.size) (hlen : l.length ≤ 140737488355328) :
    Calls Tryz.prog 29 #[.slice A l.length c] w fun e w' => ∃ g A' c', e = .returned (.pointer (some ⟨g, 0, none⟩)) ∧ Rd w' g A' c' l 0 0 ∧ w.heap.size ≤ g ∧ Below w.heap.size w w' := by
  go_enter Tryz.func29, Tryz.ntmps29
  go_wp2_with (go_at_call 59; refine (bclone_any l A c B w hr hB hlen).mono ?_; rintro e w1 ⟨v1, rfl, ho1, hb1⟩; obtain ⟨A', c', rfl, hlc, hcm, hrb⟩ := ho1.form)
  go_ret
  exact ⟨w1.heap.size, A', c', rfl, ⟨Blk.new _ _ _, Reads.alloc hrb (Nat.le_refl _) _, hlc, hcm, Nat.zero_le _⟩, hb1.size, hb1.alloc hb1.size _⟩

set_option maxHeartbeats 400000 in
theorem take_err (g c : Nat) (A : Option Addr) (l : List UInt8) (at_ : Nat) (err n : Int) (w : World) (hr : Rd w g A c l at_ err) (he : (err != 0) = true) :
    Calls Tryz.prog 60 #[.pointer (some ⟨g, 0, none⟩), .int .i64 n] w fun e w' => e = .returned (.slice none 0 0) ∧ w = w' := by
  have c2 : w.cell? ⟨g, 2, none⟩ = some (.int .i64 err) := hr.blk.cell 2
  go_enter Tryz.func60, Tryz.ntmps60
  go_wp2
  go_ret
  exact ⟨rfl, rfl⟩

theorem Rd.c0 {w : World} {g : Nat} {A : Option Addr} {c : Nat} {l : List UInt8} {at_ : Nat} {err : Int} (h : Rd w g A c l at_ err) : w.cell? ⟨g, 0, none⟩ = some (.slice A l.length c) := h.blk.cell 0
theorem Rd.c1 {w : World} {g : Nat} {A : Option Addr} {c : Nat} {l : List UInt8} {at_ : Nat} {err : Int} (h : Rd w g A c l at_ err) : w.cell? ⟨g, 1, none⟩ = some (.int .i64 (at_ : Int)) := h.blk.cell 1
theorem Rd.c2 {w : World} {g : Nat} {A : Option Addr} {c : Nat} {l : List UInt8} {at_ : Nat} {err : Int} (h : Rd w g A c l at_ err) : w.cell? ⟨g, 2, none⟩ = some (.int .i64 err) := h.blk.cell 2
theorem Rd.drewN {w : World} {g : Nat} {A : Option Addr} {c : Nat} {l : List UInt8} {at_ : Nat} {err : Int} (h : Rd w g A c l at_ err) (k : Nat) : Rd (w.drewN k) g A c l at_ err := ⟨h.blk.drewN k, h.rb.drewN k, h.lc, h.cm, h.le⟩
theorem Rd.err {w : World} {g : Nat} {A : Option Addr} {c : Nat} {l : List UInt8} {at_ : Nat} {err : Int} (h : Rd w g A c l at_ err) (e : Int) : Rd (w.setCell ⟨g, 2, none⟩ (.int .i64 e)) g A c l at_ e :=
  ⟨h.blk.set_ 2 _, Reads.setCell h.rb (by simp) _, h.lc, h.cm, h.le⟩
theorem Rd.goto_ {w : World} {g : Nat} {A : Option Addr} {c : Nat} {l : List UInt8} {at_ : Nat} {err : Int} (h : Rd w g A c l at_ err) {k : Nat} (hk : k ≤ l.length) : Rd (w.setCell ⟨g, 1, none⟩ (.int .i64 (k : Int))) g A c l k err :=
  ⟨h.blk.set_ 1 _, Reads.setCell h.rb (by simp) _, h.lc, h.cm, hk⟩

set_option maxHeartbeats 400000 in
theorem take_neg (g c : Nat) (A : Option Addr) (l : List UInt8) (at_ : Nat) (n : Int) (w : World) (hr : Rd w g A c l at_ 0) (hn : n < 0) :
    Calls Tryz.prog 60 #[.pointer (some ⟨g, 0, none⟩), .int .i64 n] w fun e w' => e = .returned (.slice none 0 0) ∧ w.setCell ⟨g, 2, none⟩ (.int .i64 2) = w' := by
  have c2 := hr.c2
  have f2 := hr.blk.frozen 2
  go_enter Tryz.func60, Tryz.ntmps60
  go_wp2
  go_ret
  exact ⟨rfl, rfl⟩

set_option maxHeartbeats 400000 in
theorem take_short (g c : Nat) (A : Option Addr) (l : List UInt8) (at_ : Nat) (n : Int) (w : World) (hr : Rd w g A c l at_ 0) (hn : 0 ≤ n) (hn' : (l.length : Int) - at_ < n) :
    Calls Tryz.prog 60 #[.pointer (some ⟨g, 0, none⟩), .int .i64 n] w fun e w' => e = .returned (.slice none 0 0) ∧ ∃ k, (w.drewN k).setCell ⟨g, 2, none⟩ (.int .i64 110) = w' := by
  have c0 := hr.c0
  have c1 := hr.c1
  have c2 := hr.c2
  have f2 := hr.blk.frozen 2
  have hle := hr.le
  have hlc := hr.lc
  have hcm := hr.cm
  unfold maxLen at hcm
  have hnn : ¬ n < 0 := by omega
  have hd : decide (n < 0) = false := by simpa using hnn
  go_enter Tryz.func60, Tryz.ntmps60
  go_wp2
  go_quiet (fail)
  go_wp2
  go_ret
  exact ⟨rfl, _, rfl⟩

def TookOk (g c : Nat) (A : Option Addr) (l : List UInt8) (at_ n : Nat) (w : World) (e : Ending) (w' : World) : Prop :=
  ∃ A' c', e = .returned (.slice A' ((l.drop at_).take n).length c') ∧ RB w' g A' ((l.drop at_).take n) ∧ ((l.drop at_).take n).length = n ∧ n ≤ c' ∧ c' ≤ maxLen ∧ Rd w' g A c l (at_ + n) 0 ∧ Only g w w'
theorem tookOk_of {g c : Nat} {A A' : Option Addr} {l : List UInt8} {at_ n : Nat} {w : World} (hr : Rd w g A c l at_ 0) (hn : at_ + n ≤ l.length) (i k : Nat) (hA : A' = if c = at_ then A else A.map (·.add at_)) :
    TookOk g c A l at_ n w (.returned (.slice A' n (c - at_))) (((w.drewN i).setCell ⟨g, 1, none⟩ (.int .i64 ((at_ : Int) + (n : Int)))).drewN k) := by
  have hlen : ((l.drop at_).take n).length = n := by simp; omega
  have hlc := hr.lc
  have hcm := hr.cm
  have hb : RB (((w.drewN i).setCell ⟨g, 1, none⟩ (.int .i64 ((at_ : Int) + (n : Int)))).drewN k) g A l := (Reads.setCell (hr.rb.drewN i) (by simp) _).drewN k
  have hd := Reads.drop (k := at_) (cap := c) hb (by omega) hlc
  have ht := Reads.take (k := n) hd (by omega)
  simp only [Nat.mul_one] at ht
  rw [← hA] at ht
  have hR := (((hr.drewN i).goto_ (k := at_ + n) hn).drewN k)
  rw [show (((at_ + n : Nat)) : Int) = (at_ : Int) + (n : Int) by omega] at hR
  refine ⟨A', c - at_, by rw [hlen], ?_, hlen, by omega, by omega, hR, ?_⟩
  · unfold RB
    rw [hlen]
    simpa [bvs, List.map_take, List.map_drop] using ht
  · exact ((((Only.refl g w).drewN i).setCell (.inl rfl) _).drewN k)
theorem tookOk_same {g : Nat} {A : Option Addr} {l : List UInt8} {at_ n : Nat} {w : World} (hr : Rd w g A at_ l at_ 0) (hn : at_ + n ≤ l.length) (i k : Nat) :
    TookOk g at_ A l at_ n w (.returned (.slice A n 0)) (((w.drewN i).setCell ⟨g, 1, none⟩ (.int .i64 ((at_ : Int) + (n : Int)))).drewN k) := by
  have h := tookOk_of (A' := A) hr hn i k (by rw [if_pos rfl])
  rwa [Nat.sub_self] at h
set_option maxHeartbeats 400000 in
theorem take_ok (g c : Nat) (A : Option Addr) (l : List UInt8) (at_ n : Nat) (w : World) (hr : Rd w g A c l at_ 0) (hn' : at_ + n ≤ l.length) :
    Calls Tryz.prog 60 #[.pointer (some ⟨g, 0, none⟩), .int .i64 (n : Int)] w (TookOk g c A l at_ n w) := by
  have c0 := hr.c0
  have c1 := hr.c1
  have c2 := hr.c2
  have f1 := hr.blk.frozen 1
  have hle := hr.le
  have hlc := hr.lc
  have hcm := hr.cm
  unfold maxLen at hcm
  have hnn : ¬ (n : Int) < 0 := by omega
  have hd : decide ((n : Int) < 0) = false := by simp
  have hns : ¬ (l.length : Int) - at_ < n := by omega
  have hds : decide ((l.length : Int) - at_ < n) = false := by simpa using hns
  go_enter Tryz.func60, Tryz.ntmps60
  go_wp2
  go_quiet (fail)
  go_wp2
  go_quiet (fail)
  go_wp2
  all_goals go_ret
  · have e : c = at_ := by assumption
    subst e
    exact tookOk_same hr hn' _ _
  · exact tookOk_of (A' := A.map (·.add at_)) hr hn' _ _ (by rw [if_neg ‹_›])

/-- What a take leaves, whatever it is asked. -/
def Took (g c : Nat) (A : Option Addr) (l : List UInt8) (m : List UInt8 × Nat × Int) (w : World) (e : Ending) (w' : World) : Prop :=
  ∃ A' c', e = .returned (.slice A' m.1.length c') ∧ RB w' g A' m.1 ∧ m.1.length ≤ c' ∧ c' ≤ maxLen ∧ Rd w' g A c l m.2.1 m.2.2 ∧ Only g w w'
theorem take_any (g c : Nat) (A : Option Addr) (l : List UInt8) (at_ : Nat) (err n : Int) (w : World) (hr : Rd w g A c l at_ err) :
    Calls Tryz.prog 60 #[.pointer (some ⟨g, 0, none⟩), .int .i64 n] w (Took g c A l (takeM l at_ err n) w) := by
  unfold takeM
  by_cases he : err = 0
  · subst he
    rw [if_neg (by simp)]
    by_cases hn : n < 0
    · rw [if_pos hn]
      refine (take_neg g c A l at_ n w hr hn).mono ?_
      rintro e w' ⟨rfl, rfl⟩
      exact ⟨none, 0, rfl, Reads.none_, Nat.le_refl _, by simp [maxLen], hr.err 2, (Only.refl g w).setCell (.inl rfl) _⟩
    · rw [if_neg hn]
      by_cases hs : (l.length : Int) - at_ < n
      · rw [if_pos hs]
        refine (take_short g c A l at_ n w hr (by omega) hs).mono ?_
        rintro e w' ⟨rfl, k, rfl⟩
        exact ⟨none, 0, rfl, Reads.none_, Nat.le_refl _, by simp [maxLen], (hr.drewN k).err 110, ((Only.refl g w).drewN k).setCell (.inl rfl) _⟩
      · rw [if_neg hs]
        obtain ⟨k, rfl⟩ := Int.eq_ofNat_of_zero_le (show 0 ≤ n by omega)
        refine (take_ok g c A l at_ k w hr (by have := hr.le; omega)).mono ?_
        rintro e w' ⟨A', c', he, hb, hl, hc1, hc2, hR, hO⟩
        exact ⟨A', c', he, hb, by simp only [Int.toNat_natCast]; omega, hc2, hR, hO⟩
  · rw [if_pos he]
    refine (take_err g c A l at_ err n w hr (by simpa using he)).mono ?_
    rintro e w' ⟨rfl, rfl⟩
    exact ⟨none, 0, rfl, Reads.none_, Nat.le_refl _, by simp [maxLen], hr, Only.refl g w⟩
theorem takeM_len (l : List UInt8) (at_ : Nat) (err n : Int) : (takeM l at_ err n).1.length ≤ n.toNat := by
  unfold takeM
  split
  · simp
  · split
    · simp
    · split
      · simp
      · simp; omega

theorem num_snoc (l : List UInt8) (b : UInt8) : num (l ++ [b]) = num l + 256 ^ l.length * b.toNat := by
  induction l with
  | nil => simp [num]
  | cons a l ih =>
    simp only [List.cons_append, num, ih, List.length_cons, Nat.pow_succ]
    rw [Nat.mul_add, Nat.add_assoc, Nat.mul_comm (256 ^ l.length) 256, Nat.mul_assoc]
theorem num_lt (l : List UInt8) : num l < 256 ^ l.length := by
  induction l with
  | nil => simp [num]
  | cons a l ih =>
    have := a.toNat_lt
    simp only [num, List.length_cons, Nat.pow_succ]
    omega

theorem or_step (x b k : Nat) (hx : x < 256 ^ k) (hb : b < 256) (hk : k < 4) : bits .or .u32 (x : Int) ((b : Int) * 2 ^ (8 * k) % 4294967296) = ((x + 256 ^ k * b : Nat) : Int) := by
  have key : ∀ p : Nat, p * 256 ≤ 4294967296 → x < p → (∃ i, p = 2 ^ i) → bits .or .u32 (x : Int) ((b : Int) * (p : Int) % 4294967296) = ((x + p * b : Nat) : Int) := by
    rintro p hp hxp ⟨i, rfl⟩
    have hbp : 2 ^ i * b ≤ 2 ^ i * 255 := Nat.mul_le_mul_left _ (by omega)
    have e1 : ((b : Int) * ((2 ^ i : Nat) : Int) % 4294967296) = ((2 ^ i * b : Nat) : Int) := by
      rw [← Int.natCast_mul, Nat.mul_comm b]
      omega
    rw [e1, u32_or_nat _ _ (by omega) (by omega), Nat.or_comm, nat_join i _ _ (Nat.mul_mod_right _ _) hxp, Nat.add_comm]
  have h4 : k = 0 ∨ k = 1 ∨ k = 2 ∨ k = 3 := by omega
  rcases h4 with rfl | rfl | rfl | rfl
  · exact key 1 (by omega) hx ⟨0, rfl⟩
  · exact key 256 (by omega) hx ⟨8, rfl⟩
  · exact key 65536 (by omega) hx ⟨16, rfl⟩
  · exact key 16777216 (by omega) hx ⟨24, rfl⟩

/-- What the reader is behind a call that takes. -/
def After (g c : Nat) (A : Option Addr) (l : List UInt8) (m : List UInt8 × Nat × Int) (v : Value) (w : World) (e : Ending) (w' : World) : Prop :=
  e = .returned v ∧ Rd w' g A c l m.2.1 m.2.2 ∧ Only g w w'
set_option maxHeartbeats 400000 in
theorem number_nil (n : Int) (w : World) :
    Calls Tryz.prog 61 #[.pointer none, .int .i64 n] w fun e w' => e = .returned (.int .u32 0) ∧ w = w' := by
  go_enter Tryz.func61, Tryz.ntmps61
  go_wp2
  go_ret
  exact ⟨rfl, rfl⟩
set_option maxHeartbeats 1000000 in
theorem number_any (g c : Nat) (A : Option Addr) (l : List UInt8) (at_ n : Nat) (err : Int) (w : World) (hr : Rd w g A c l at_ err) (hn : n ≤ 4) :
    Calls Tryz.prog 61 #[.pointer (some ⟨g, 0, none⟩), .int .i64 (n : Int)] w (After g c A l (takeM l at_ err n) (.int .u32 (num (takeM l at_ err n).1 : Int)) w) := by
  have hlen := takeM_len l at_ err n
  rw [Int.toNat_natCast] at hlen
  go_enter Tryz.func61, Tryz.ntmps61
  go_wp2_with (go_at_call 60; refine (take_any g c A l at_ err n w hr).mono ?_; generalize takeM l at_ err n = m at *; rintro e w1 ⟨A', c', rfl, hb, hc1, hc2, hR, hO⟩)
  generalize m.1 = r at *
  go_loop [5, 6, 7, 16] (fun x _ _ i => ∃ k : Nat, k ≤ r.length ∧ i = .int .i64 k ∧ x = .int .u32 (num (r.take k) : Int)) (fun _ _ _ i => r.length - (intOf i).toNat)
  case atStart => exact ⟨0, Nat.zero_le _, rfl, rfl⟩
  case round =>
    obtain ⟨k, hk, rfl, rfl⟩ := hrel
    by_cases hlt : k < r.length
    · obtain ⟨b, off, rfl, hbB, hc⟩ := hb.at_ hlt
      have h8 : (0 : Int) ≤ 8 * (k : Int) := by omega
      have h32 : 8 * (k : Int) < 32 := by omega
      have hs := num_snoc (r.take k) (r.getD k 0)
      have hx := num_lt (r.take k)
      rw [← take_snoc r 0 hlt] at hs
      rw [show (r.take k).length = k by simp; omega] at hs hx
      have hst := or_step _ _ k hx (r.getD k 0).toNat_lt (by omega)
      rw [← hs] at hst
      have HS := Lib.hid hst
      clear hst hs hx
      generalize num (r.take k) = x0 at *
      generalize r.getD k 0 = by0 at *
      have hby := by0.toNat_lt
      go_wp2
      go_round
      case rel => exact ⟨k + 1, by omega, by go_num, by rw [← HS.out]⟩
      case measure => simp [intOf]; omega
    · obtain rfl : k = r.length := by omega
      go_wp2
      go_ret
      exact ⟨rfl, hR, hO⟩

theorem num_lt_take (l : List UInt8) (at_ n : Nat) (err : Int) : num (takeM l at_ err n).1 < 256 ^ n := by
  have h1 := num_lt (takeM l at_ err n).1
  have h2 := takeM_len l at_ err n
  rw [Int.toNat_natCast] at h2
  exact Nat.lt_of_lt_of_le h1 (Nat.pow_le_pow_right (by omega) h2)

end Go.Proofs.YtfpepdjffehbcaaGreat
