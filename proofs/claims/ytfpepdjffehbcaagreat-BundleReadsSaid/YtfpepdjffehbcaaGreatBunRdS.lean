/-
  A reader over bytes that hold what is asked for: what is read, and what is left. Conditions: the bytes are within the reach.
-/
import Derived.Test.YtfpepdjffehbcaaGreatOctRaw
import Derived.Test.YtfpepdjffehbcaaGreatPoolPool
set_option linter.unusedVariables false
set_option linter.unusedSimpArgs false
namespace Go.Proofs.YtfpepdjffehbcaaGreat
open Go.RowKit

/-- The reader at block g stands ahead of these bytes, with no error. -/
def Ahead (w : World) (g c : Nat) (A : Option Addr) (l rest : List UInt8) : Prop := ∃ p, Rd w g A c l p 0 ∧ l.drop p = rest
theorem Ahead.on {w w' : World} {g c : Nat} {A : Option Addr} {l rest : List UInt8} (h : Ahead w g c A l rest) (hb : Below w.heap.size w w') : Ahead w' g c A l rest := by
  obtain ⟨p, h1, h2⟩ := h
  exact ⟨p, after_own h1 hb, h2⟩
theorem Ahead.lt {w : World} {g c : Nat} {A : Option Addr} {l rest : List UInt8} (h : Ahead w g c A l rest) : g < w.heap.size := by
  obtain ⟨p, h1, h2⟩ := h
  exact h1.blk.lt
theorem Ahead.grown {w w' : World} {g c : Nat} {A : Option Addr} {l rest : List UInt8} {row : Option Nat} (h : Ahead w g c A l rest) (hg : w.grownBy w' row) (hr : ∀ k, row = some k → g < k) : Ahead w' g c A l rest := by
  obtain ⟨p, h1, h2⟩ := h
  have hb : Below g w w' := (Below.refl g w).grown hg (Nat.le_of_lt h1.blk.lt) (fun k hk => Nat.le_of_lt (hr k hk))
  exact ⟨p, ⟨h1.blk.grown hg (fun e => by have := hr _ e.symm; omega), h1.rb.below hb, h1.lc, h1.cm, h1.le⟩, h2⟩
theorem takeM_here {l s rest : List UInt8} {p n : Nat} (hp : p ≤ l.length) (hd : l.drop p = s ++ rest) (hn : s.length = n) : takeM l p 0 n = (s, p + n, 0) ∧ l.drop (p + n) = rest ∧ p + n ≤ l.length := by
  have h1 : l.length - p = s.length + rest.length := by rw [← List.length_drop, hd, List.length_append]
  refine ⟨?_, ?_, by omega⟩
  · unfold takeM
    rw [if_neg (by simp), if_neg (by omega), if_neg (by omega), Int.toNat_natCast, hd, ← hn, List.take_left]
  · rw [← List.drop_drop, hd, ← hn, List.drop_left]
theorem ahead32 {w : World} {g c x : Nat} {A : Option Addr} {l rest : List UInt8} (h : Ahead w g c A l (le 4 x ++ rest)) (hx : x < 4294967296) :
    Calls Tryz.prog 32 #[.pointer (some ⟨g, 0, none⟩)] w fun e w' => e = .returned (.int .u32 (x : Int)) ∧ Ahead w' g c A l rest ∧ Only g w w' := by
  obtain ⟨p, h1, h2⟩ := h
  obtain ⟨h3, h4, -⟩ := takeM_here h1.le h2 (le_len 4 x)
  refine (u32_any g c A l p 0 w h1).mono ?_
  rintro e w' ⟨rfl, hR, hO⟩
  rw [show ((4 : Nat) : Int) = (4 : Int) from rfl] at h3
  rw [h3] at hR ⊢
  refine ⟨?_, ⟨_, hR, h4⟩, hO⟩
  simp only [num_le]
  rw [Nat.mod_eq_of_lt (by omega)]
theorem ahead16 {w : World} {g c x : Nat} {A : Option Addr} {l rest : List UInt8} (h : Ahead w g c A l (le 2 x ++ rest)) (hx : x < 65536) :
    Calls Tryz.prog 31 #[.pointer (some ⟨g, 0, none⟩)] w fun e w' => e = .returned (.int .u16 (x : Int)) ∧ Ahead w' g c A l rest ∧ Only g w w' := by
  obtain ⟨p, h1, h2⟩ := h
  obtain ⟨h3, h4, -⟩ := takeM_here h1.le h2 (le_len 2 x)
  refine (u16_any g c A l p 0 w h1).mono ?_
  rintro e w' ⟨rfl, hR, hO⟩
  rw [show ((2 : Nat) : Int) = (2 : Int) from rfl] at h3
  rw [h3] at hR ⊢
  refine ⟨?_, ⟨_, hR, h4⟩, hO⟩
  simp only [num_le]
  rw [Nat.mod_eq_of_lt (by omega)]
theorem aheadRaw {w : World} {g c n : Nat} {A : Option Addr} {l s rest : List UInt8} (h : Ahead w g c A l (s ++ rest)) (hn : s.length = n) (hl : l.length ≤ 140737488355328) :
    Calls Tryz.prog 30 #[.pointer (some ⟨g, 0, none⟩), .int .i64 (n : Int)] w fun e w' => ∃ v, e = .returned v ∧ OB w' w.heap.size 5 v s ∧ Ahead w' g c A l rest ∧ Only g w w' := by
  obtain ⟨p, h1, h2⟩ := h
  obtain ⟨h3, h4, -⟩ := takeM_here h1.le h2 hn
  refine (raw_any g c A l p 0 (n : Int) w h1 hl).mono ?_
  rintro e w' ⟨v, rfl, ho, hR, hO⟩
  rw [h3] at ho hR
  exact ⟨v, rfl, ho, ⟨_, hR, h4⟩, hO⟩
theorem aheadErr {w : World} {g c : Nat} {A : Option Addr} {l rest : List UInt8} (h : Ahead w g c A l rest) :
    Calls Tryz.prog 33 #[.pointer (some ⟨g, 0, none⟩)] w fun e w' => e = .returned (.int .i64 0) ∧ w = w' := by
  obtain ⟨p, h1, h2⟩ := h
  exact err_any g c A l p 0 w h1
theorem aheadLeft {w : World} {g c : Nat} {A : Option Addr} {l rest : List UInt8} (h : Ahead w g c A l rest) :
    Calls Tryz.prog 35 #[.pointer (some ⟨g, 0, none⟩)] w fun e w' => e = .returned (.int .i64 (rest.length : Int)) ∧ ∃ k, w.drewN k = w' := by
  obtain ⟨p, h1, h2⟩ := h
  refine (left_any g c A l p 0 w h1).mono ?_
  rintro e w' ⟨rfl, hk⟩
  refine ⟨?_, hk⟩
  have h3 := h1.le
  rw [← h2, List.length_drop]
  congr 2
  omega
/-- A text of a list; none where there is none. -/
def atT (M : List ByteArray) (i : Nat) : ByteArray := M.getD i ⟨#[]⟩
set_option maxHeartbeats 2000000 in
theorem rdat_any (M : List ByteArray) (v : Value) (i : Nat) (w : World) (h : Txts w w.heap.size v M) (hi : i < 4294967296) :
    Calls Tryz.prog 34 #[v, .int .u32 (i : Int)] w fun e w' => e = .returned (.string (atT M i)) ∧ w = w' := by
  obtain ⟨A, c, rfl, h1, h2, h3⟩ := h
  unfold maxLen at h2
  obtain ⟨n, hn⟩ : ∃ n, M.length = n := ⟨_, rfl⟩
  rw [hn] at h1 h3 ⊢
  have hi2 : (i : Int) < 4294967296 := by omega
  by_cases hin : i < n
  · obtain ⟨bt, ot, rfl, hbt, hcl⟩ := h3.spot (by omega) (by omega)
    obtain ⟨x, hx⟩ : ∃ x, M[i]? = some x := ⟨_, List.getElem?_eq_getElem (by omega)⟩
    have y0 : w.cell? ⟨bt, ot + i, none⟩ = some (.string x) := hcl i _ (by simp [hx])
    have HX := Lib.hid (show atT M i = x from by unfold atT; rw [List.getD_eq_getElem?_getD, hx]; rfl)
    have hq : (i : Int) < (n : Int) := by omega
    have hq2 : ¬ ((n : Int) ≤ (i : Int)) := by omega
    clear hcl hx hn h3
    go_enter Tryz.func34, Tryz.ntmps34
    go_wp2
    go_ret
    exact ⟨by rw [HX.out]; rfl, rfl⟩
  · have HX := Lib.hid (show atT M i = ⟨#[]⟩ from by unfold atT; rw [List.getD_eq_getElem?_getD, List.getElem?_eq_none (by omega)]; rfl)
    have hq : (n : Int) ≤ (i : Int) := by omega
    clear hn h3
    go_enter Tryz.func34, Tryz.ntmps34
    go_wp2
    go_ret
    exact ⟨by rw [HX.out]; rfl, rfl⟩
end Go.Proofs.YtfpepdjffehbcaaGreat
