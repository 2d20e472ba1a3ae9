/-
  What was put is read as the same: plain lists, and the readers' contracts at such lists. No condition but the reach.
-/
import Derived.Test.YtfkkfkfngdpgbaaOctWakes
namespace Go.Proofs.Ytfkkfkfngdpgbaa
open Go.RowKit

/-- Numbers, each by its n lowest bytes. -/
def enc (n : Nat) (ns : List Nat) : List UInt8 := ns.flatMap (le n)
theorem enc_len (n : Nat) (ns : List Nat) : (enc n ns).length = n * ns.length := by
  induction ns with
  | nil => simp [enc]
  | cons x ns ih =>
    have : enc n (x :: ns) = le n x ++ enc n ns := by simp [enc]
    rw [this, List.length_append, le_len, ih, List.length_cons, Nat.mul_add]
    omega
theorem enc_snoc (n : Nat) (ns : List Nat) {k : Nat} (h : k < ns.length) : enc n (ns.take (k + 1)) = enc n (ns.take k) ++ le n (ns.getD k 0) := by
  rw [take_snoc ns 0 h]
  simp [enc]
theorem enc_part (n : Nat) (ns : List Nat) {k : Nat} (h : k < ns.length) : enc n ns = enc n (ns.take k) ++ (le n (ns.getD k 0) ++ enc n (ns.drop (k + 1))) := by
  have e : ns = ns.take k ++ (ns.getD k 0 :: ns.drop (k + 1)) := by
    conv => lhs; rw [← List.take_append_drop k ns]
    congr 1
    rw [List.drop_eq_getElem_cons h]
    simp [List.getD_eq_getElem?_getD, h]
  conv => lhs; rw [e]
  simp [enc]
theorem takeM_here (p q r : List UInt8) (n : Nat) (h : q.length = n) : takeM (p ++ (q ++ r)) p.length 0 n = (q, p.length + n, 0) := by
  unfold takeM
  rw [if_neg (by simp), if_neg (by omega), if_neg (by simp; omega)]
  simp [h]
theorem takeM_part (n : Nat) (p : List UInt8) (ns : List Nat) (r : List UInt8) {k : Nat} (h : k < ns.length) : takeM (p ++ (enc n ns ++ r)) (p.length + n * k) 0 n = (le n (ns.getD k 0), p.length + n * (k + 1), 0) := by
  have e : p ++ (enc n ns ++ r) = (p ++ enc n (ns.take k)) ++ (le n (ns.getD k 0) ++ (enc n (ns.drop (k + 1)) ++ r)) := by
    conv => lhs; rw [enc_part n ns h]
    simp
  have hl : (p ++ enc n (ns.take k)).length = p.length + n * k := by
    rw [List.length_append, enc_len, List.length_take, Nat.min_eq_left (by omega)]
  have := takeM_here (p ++ enc n (ns.take k)) (le n (ns.getD k 0)) (enc n (ns.drop (k + 1)) ++ r) n (le_len _ _)
  rw [← e, hl] at this
  rw [this, Nat.mul_add, Nat.add_assoc]
  simp

/-- Numbers as the model holds them. -/
def nvs (k : IntKind) (ns : List Nat) : List Value := ns.map fun x : Nat => Value.int k (x : Int)
theorem nums_of_ints (k : IntKind) : ∀ zs : List Int, (∀ n ∈ zs, 0 ≤ n) → zs.map (Value.int k) = nvs k (zs.map Int.toNat)
  | [], _ => rfl
  | n :: zs, h => by
    have h1 := h n (by simp)
    have h2 := nums_of_ints k zs (fun m hm => h m (by simp [hm]))
    simp only [nvs, List.map_cons, List.map_map] at h2 ⊢
    rw [h2]
    congr 2
    omega
theorem nums_of_row {k : IntKind} {w : World} {a : Option Addr} {len cap : Nat} {zs : List Int} (bits : Nat) (hk : ∀ n, (Lit.int k n).wf = true → 0 ≤ n ∧ n < (bits : Int))
    (h : (a = none ∧ len = 0 ∧ cap = 0 ∧ zs = []) ∨ ∃ x, a = some x ∧ len ≤ cap ∧ cap ≤ maxLen ∧ zs.length = cap ∧ (∀ i, i < zs.length → w.cell? (x.add i) = some (.int k (zs.getD i 0))) ∧ ∀ n ∈ zs, (Lit.int k n).wf = true) :
    ∃ ns : List Nat, len = ns.length ∧ Reads w w.heap.size 1 a ns.length (nvs k ns) ∧ ns.length ≤ cap ∧ ns.length ≤ maxLen ∧ ∀ x ∈ ns, x < bits := by
  obtain ⟨hr, hl, hm, hc, hw⟩ := reads_of_row h
  rw [nums_of_ints k _ (fun n hn => (hk n (hw n hn)).1)] at hr
  have hlen : ((zs.take len).map Int.toNat).length = len := by have := hr.1; simpa [nvs] using this
  refine ⟨(zs.take len).map Int.toNat, hlen.symm, ?_, by omega, by omega, fun x hx => ?_⟩
  · rw [hlen]
    exact hr
  · obtain ⟨n, hn, rfl⟩ := List.mem_map.1 hx
    have := hk n (hw n hn)
    omega
theorem nums_at {k : IntKind} {w : World} {B : Nat} {A : Option Addr} {ns : List Nat} {i : Nat} (h : Reads w B 1 A ns.length (nvs k ns)) (hi : i < ns.length) :
    ∃ b off, A = some ⟨b, off, none⟩ ∧ b < B ∧ w.cell? ⟨b, off + i, none⟩ = some (.int k ((ns.getD i 0 : Nat) : Int)) := by
  obtain ⟨b, off, u, e, hb, hu, hc⟩ := Reads.at_ h hi
  refine ⟨b, off, e, hb, ?_⟩
  rw [hc, ← hu]
  simp [nvs, hi]
theorem getD_lt {ns : List Nat} {b i : Nat} (h : ∀ x ∈ ns, x < b) (hi : i < ns.length) : ns.getD i 0 < b := by
  rw [List.getD_eq_getElem?_getD, List.getElem?_eq_getElem hi]
  exact h _ (List.getElem_mem hi)

theorem u16_at (g c : Nat) (A : Option Addr) (p : List UInt8) (ns : List Nat) (r L : List UInt8) (hL : L = p ++ (enc 2 ns ++ r)) (k at_ : Nat) (hat : at_ = p.length + 2 * k) (hk : k < ns.length) (hn : ∀ x ∈ ns, x < 65536) (w : World) (hr : Rd w g A c L at_ 0) :
    Calls Try.prog 17 #[.pointer (some ⟨g, 0, none⟩)] w (After g c A L ([], p.length + 2 * (k + 1), 0) (.int .u16 ((ns.getD k 0 : Nat) : Int)) w) := by
  subst hL; subst hat
  have h := u16_any g c A _ _ 0 w hr
  rw [show (2 : Int) = ((2 : Nat) : Int) from rfl, takeM_part 2 p ns r hk] at h
  rw [num_le, Nat.mod_eq_of_lt (getD_lt hn hk)] at h
  exact h
theorem u32_at (g c : Nat) (A : Option Addr) (p : List UInt8) (ns : List Nat) (r L : List UInt8) (hL : L = p ++ (enc 4 ns ++ r)) (k at_ : Nat) (hat : at_ = p.length + 4 * k) (hk : k < ns.length) (hn : ∀ x ∈ ns, x < 4294967296) (w : World) (hr : Rd w g A c L at_ 0) :
    Calls Try.prog 18 #[.pointer (some ⟨g, 0, none⟩)] w (After g c A L ([], p.length + 4 * (k + 1), 0) (.int .u32 ((ns.getD k 0 : Nat) : Int)) w) := by
  subst hL; subst hat
  have h := u32_any g c A _ _ 0 w hr
  rw [show (4 : Int) = ((4 : Nat) : Int) from rfl, takeM_part 4 p ns r hk] at h
  rw [num_le, Nat.mod_eq_of_lt (getD_lt hn hk)] at h
  exact h
end Go.Proofs.Ytfkkfkfngdpgbaa
