/-
  One byte of a row of the call's own is turned: what the row holds then. Plain lemmas over memory; no condition.
-/
import Derived.Test.YtfkkfkfngdpgbaaOctWakes
import Derived.Test.YtfkkfkfngdpgbaaCrcBurst
namespace Go.Proofs.Ytfkkfkfngdpgbaa
open Go.RowKit

theorem ob_at {w : World} {base g cap : Nat} {e : TypeId} {l : List UInt8} {n i : Nat} (h : OB w base e (.slice (some ⟨g, 0, none⟩) n cap) l) (hi : i < l.length) :
    w.cell? ⟨g, i, none⟩ = some (.int .u8 ((l.getD i 0).toNat : Int)) ∧ w.frozen? ⟨g, i, none⟩ = false := by
  have hn : n = l.length := by
    obtain ⟨A, c, hv, _⟩ := h.form
    injection hv
  subst hn
  have hc := World.ownsRow.cells (g := g) h rfl i (bv (l.getD i 0)) (by simp [bvs, hi])
  refine ⟨?_, World.ownsRow.frozenAt h i⟩
  have ha : (⟨g, 0, none⟩ : Addr).add i = ⟨g, i, none⟩ := by by_cases hj : i = 0 <;> simp [Addr.add, hj]
  rw [ha] at hc
  exact hc
theorem ob_set {w : World} {base g cap : Nat} {e : TypeId} {l : List UInt8} {n i : Nat} (h : OB w base e (.slice (some ⟨g, 0, none⟩) n cap) l) (b : UInt8) :
    OB (w.setCell ⟨g, i, none⟩ (bv b)) base e (.slice (some ⟨g, 0, none⟩) n cap) (l.set i b) ∧ w.grownBy (w.setCell ⟨g, i, none⟩ (bv b)) (some g) := by
  have hn : n = l.length := by
    obtain ⟨A, c, hv, _⟩ := h.form
    injection hv
  subst hn
  have hs := World.ownsRow.stored h i (bv b)
  refine ⟨?_, hs.2⟩
  have h1 := hs.1
  unfold OB
  rw [List.length_set]
  have e2 : (bvs l).set i (bv b) = bvs (l.set i b) := by simp [bvs, List.map_set]
  rw [← e2]
  exact h1
theorem burst_val (x k : Nat) (b : UInt8) (hk : k < 4) : Value.int .u8 (bits .xor .u8 (b.toNat : Int) ((x : Int) / 2 ^ (8 * k) % 256)) = bv (b ^^^ (le 4 x).getD k 0) := by
  have e : ((x : Int) / 2 ^ (8 * k) % 256) = ((x / 2 ^ (8 * k) % 256 : Nat) : Int) := by simp
  unfold bv
  rw [e, ← le_byte x k hk, u8_xor_nat _ _ b.toNat_lt ((le 4 x).getD k 0).toNat_lt, UInt8.toNat_xor]
theorem ob_burst {w : World} {base g cap : Nat} {e : TypeId} {l : List UInt8} {n a k x at_ : Nat} {b : UInt8} (h : OB w base e (.slice (some ⟨g, 0, none⟩) n cap) (burst l a x k)) (hb : (burst l a x k).getD (a + k) 0 = b) (hk : k < 4) (hat : at_ = a + k) :
    OB (w.setCell ⟨g, at_, none⟩ (.int .u8 (bits .xor .u8 (b.toNat : Int) ((x : Int) / 2 ^ (8 * k) % 256)))).drew base e (.slice (some ⟨g, 0, none⟩) n cap) (burst l a x (k + 1)) := by
  subst hat; subst hb
  rw [burst_val x k _ hk]
  exact (ob_set h _).1
theorem same_crc (l : List UInt8) (a x : Nat) (h : a + 4 ≤ l.length) (hx : x < 4294967296) : (((crc (burst l a x 4) : Int) == (crc l : Int)) == ((x : Int) == 0)) = true := by
  have hb := burst_crc l a x h hx
  by_cases h0 : x = 0
  · rw [hb.2 h0, h0]
    simp
  · have h1 : ((crc (burst l a x 4) : Int) == (crc l : Int)) = false := by
      rw [beq_eq_false_iff_ne]
      intro e
      exact h0 (hb.1 (by omega))
    have h2 : ((x : Int) == 0) = false := by
      rw [beq_eq_false_iff_ne]
      omega
    rw [h1, h2]
    rfl
end Go.Proofs.Ytfkkfkfngdpgbaa
