/-
  The checksum is linear and finds bursts; plain numbers and lists; no program in sight, no condition.
-/
import Derived.Test.YtfkkfkfngdpgbaaCrcLaw
import Derived.Test.YtfkkfkfngdpgbaaOctLaw
namespace Go.Proofs.Ytfkkfkfngdpgbaa

theorem all_xor' (c : Nat) (h : c < 4294967296) : 4294967295 ^^^ c = 4294967295 - c := by
  have e : (BitVec.allOnes 32 ^^^ BitVec.ofNat 32 c).toNat = 4294967295 ^^^ c := by
    rw [BitVec.toNat_xor, BitVec.toNat_allOnes, BitVec.toNat_ofNat, Nat.mod_eq_of_lt (by omega)]
  rw [← e, BitVec.allOnes_xor, BitVec.toNat_not, BitVec.toNat_ofNat, Nat.mod_eq_of_lt (by omega)]
theorem half_xor (x y : Nat) : (x ^^^ y) / 2 = x / 2 ^^^ y / 2 := by
  apply Nat.eq_of_testBit_eq
  intro i
  simp [Nat.testBit_div_two]
theorem odd_xor (x y : Nat) : (x ^^^ y) % 2 = (x % 2 + y % 2) % 2 := by
  have h := Nat.xor_mod_two_pow (a := x) (b := y) (n := 1)
  rw [show (2 : Nat) ^ 1 = 2 from rfl] at h
  rw [h]
  rcases Nat.mod_two_eq_zero_or_one x with hx | hx <;> rcases Nat.mod_two_eq_zero_or_one y with hy | hy <;> rw [hx, hy] <;> rfl
theorem crc1_xor (x y : Nat) : crc1 (x ^^^ y) = crc1 x ^^^ crc1 y := by
  have h := odd_xor x y
  unfold crc1
  rw [half_xor]
  rcases Nat.mod_two_eq_zero_or_one x with hx | hx <;> rcases Nat.mod_two_eq_zero_or_one y with hy | hy <;> rw [hx, hy] at h
  · rw [if_neg (by omega), if_neg (by omega), if_neg (by omega)]
  · rw [if_pos (by omega), if_neg (by omega), if_pos (by omega), Nat.xor_assoc]
  · rw [if_pos (by omega), if_pos (by omega), if_neg (by omega), Nat.xor_assoc, Nat.xor_comm (y / 2), ← Nat.xor_assoc]
  · rw [if_neg (by omega), if_pos (by omega), if_pos (by omega)]
    rw [Nat.xor_assoc (x / 2), Nat.xor_comm 3988292384, Nat.xor_assoc (y / 2), Nat.xor_self, Nat.xor_zero]
theorem crcN_xor (k x y : Nat) : crcN k (x ^^^ y) = crcN k x ^^^ crcN k y := by
  induction k with
  | zero => rfl
  | succ k ih => simp only [crcN, ih, crc1_xor]
theorem crcN_add (j k x : Nat) : crcN (j + k) x = crcN j (crcN k x) := by
  induction j with
  | zero => simp [crcN]
  | succ j ih => rw [Nat.add_right_comm]; simp only [crcN, ih]
theorem crc1_zero {z : Nat} (h : z < 4294967296) (hz : crc1 z = 0) : z = 0 := by
  unfold crc1 at hz
  split at hz
  · rename_i hodd
    exfalso
    have : z / 2 = 3988292384 := by
      have h2 : z / 2 ^^^ 3988292384 ^^^ 3988292384 = 0 ^^^ 3988292384 := by rw [hz]
      rw [Nat.xor_assoc, Nat.xor_self, Nat.xor_zero, Nat.zero_xor] at h2
      exact h2
    omega
  · rename_i hodd
    omega
theorem crcN_zero (k : Nat) : ∀ {z : Nat}, z < 4294967296 → crcN k z = 0 → z = 0 := by
  induction k with
  | zero => intro z _ h; exact h
  | succ k ih => intro z hz h; exact ih hz (crc1_zero (crcN_lt hz k) h)
theorem crcN_nought (k : Nat) : crcN k 0 = 0 := by
  induction k with
  | zero => rfl
  | succ k ih => simp only [crcN, ih]; rfl
/-- Bits that are shifted out unseen. -/
theorem crcN_shift (k x : Nat) : crcN k (2 ^ k * x) = x := by
  induction k generalizing x with
  | zero => simp [crcN]
  | succ k ih =>
    have e : 2 ^ (k + 1) * x = 2 ^ k * (2 * x) := by rw [Nat.pow_succ, Nat.mul_assoc]
    simp only [crcN]
    rw [e, ih]
    unfold crc1
    rw [if_neg (by omega)]
    omega
theorem nat_in (x y : Nat) : crcN 8 x ^^^ y = crcN 8 (x ^^^ 256 * y) := by
  rw [crcN_xor]
  congr 1
  exact (crcN_shift 8 y).symm
theorem split_byte (x : Nat) : x % 256 ^^^ 256 * (x / 256) = x := by
  apply Nat.eq_of_testBit_eq
  intro i
  have e : (256 * (x / 256)).testBit i = (decide (8 ≤ i) && (x / 2 ^ 8).testBit (i - 8)) := by
    rw [show (256 * (x / 256)) = 2 ^ 8 * (x / 2 ^ 8) from rfl, Nat.testBit_two_pow_mul]
  have e3 : (x % 256).testBit i = (decide (i < 8) && x.testBit i) := Nat.testBit_mod_two_pow x 8 i
  rw [Nat.testBit_xor, e, e3, Nat.testBit_div_two_pow]
  by_cases hi : i < 8
  · simp [hi, show ¬ 8 ≤ i by omega]
  · simp [hi, show 8 ≤ i by omega]
theorem fold_le (n : Nat) : ∀ s x, x < 256 ^ n → (le n x).foldl crcB s = crcN (8 * n) (s ^^^ x) := by
  induction n with
  | zero =>
    intro s x hx
    have : x = 0 := by simpa using hx
    subst this
    simp [le, crcN]
  | succ n ih =>
    intro s x hx
    simp only [le, List.foldl_cons]
    rw [ih _ _ (by rw [Nat.pow_succ] at hx; omega)]
    unfold crcB
    rw [byte_of, nat_in, Nat.xor_assoc, split_byte, ← crcN_add]
    rfl
/-- Four bytes are a word. -/
theorem fold_word (s x : Nat) (hx : x < 4294967296) : (le 4 x).foldl crcB s = crcN 32 (s ^^^ x) := fold_le 4 s x hx

/-- Bytes with their own checksum behind always have the same one. -/
theorem crc_self (l : List UInt8) : crc (l ++ le 4 (crc l)) = 558161692 := by
  have h := crcRaw_lt l
  have hx : crcRaw l ^^^ crc l = 4294967295 := by
    have h1 : 4294967295 ^^^ crcRaw l = crc l := all_xor' _ h
    rw [← h1, Nat.xor_comm 4294967295, ← Nat.xor_assoc, Nat.xor_self, Nat.zero_xor]
  have e : crcRaw (l ++ le 4 (crc l)) = crcN 32 4294967295 := by
    unfold crcRaw at *
    rw [List.foldl_append, fold_word _ _ (crc_lt l), hx]
  unfold crc at e ⊢
  rw [e]
  decide +kernel

/-- Bytes by bytes. -/
def xorL (l m : List UInt8) : List UInt8 := List.zipWith (· ^^^ ·) l m
theorem fold_xor : ∀ (l m : List UInt8) (s t : Nat), l.length = m.length → (xorL l m).foldl crcB (s ^^^ t) = l.foldl crcB s ^^^ m.foldl crcB t
  | [], [], _, _, _ => by simp [xorL]
  | a :: l, b :: m, s, t, h => by
    have hl : l.length = m.length := by simpa using h
    simp only [xorL, List.zipWith_cons_cons, List.foldl_cons]
    have e : crcB (s ^^^ t) (a ^^^ b) = crcB s a ^^^ crcB t b := by
      unfold crcB
      rw [← crcN_xor, UInt8.toNat_xor]
      congr 1
      rw [Nat.xor_assoc, Nat.xor_assoc, ← Nat.xor_assoc t, Nat.xor_comm t, Nat.xor_assoc]
    rw [e]
    exact fold_xor l m _ _ hl
  | [], _ :: _, _, _, h => by simp at h
  | _ :: _, [], _, _, h => by simp at h
theorem fold_zero : ∀ (l : List UInt8) {z : Nat}, z < 4294967296 → (∀ b ∈ l, b = 0) → l.foldl crcB z = 0 → z = 0
  | [], _, _, _, h => h
  | b :: l, z, hz, hb, h => by
    have h0 : b = 0 := hb b (by simp)
    subst h0
    have := fold_zero l (crcB_lt hz 0) (fun b hb' => hb b (by simp [hb'])) h
    unfold crcB at this
    rw [show (0 : UInt8).toNat = 0 from rfl, Nat.xor_zero] at this
    exact crcN_zero 8 hz this
theorem fold_nought (n : Nat) : (List.replicate n (0 : UInt8)).foldl crcB 0 = 0 := by
  induction n with
  | zero => rfl
  | succ n ih =>
    rw [List.replicate_succ, List.foldl_cons, show crcB 0 0 = 0 from by unfold crcB; exact crcN_nought 8]
    exact ih
/-- BURSTS: four bytes side by side, turned by x, have another checksum just if x is not 0. -/
theorem crc_burst (p q r : List UInt8) (x : Nat) (hq : q.length = 4) (hx : x < 4294967296) : crc (p ++ (xorL q (le 4 x) ++ r)) = crc (p ++ (q ++ r)) ↔ x = 0 := by
  have hs := crcRaw_lt p
  have hr1 := crcRaw_lt (p ++ (xorL q (le 4 x) ++ r))
  have hr2 := crcRaw_lt (p ++ (q ++ r))
  have key : crcRaw (p ++ (xorL q (le 4 x) ++ r)) = crcRaw (p ++ (q ++ r)) ^^^ (List.replicate r.length (0 : UInt8)).foldl crcB (crcN 32 x) := by
    unfold crcRaw
    simp only [List.foldl_append]
    have h1 := fold_xor q (le 4 x) (p.foldl crcB 4294967295) 0 (by rw [le_len]; exact hq)
    rw [Nat.xor_zero, fold_word _ _ hx, Nat.zero_xor] at h1
    rw [h1]
    have h2 := fold_xor r (List.replicate r.length 0) (q.foldl crcB (p.foldl crcB 4294967295)) (crcN 32 x) (by simp)
    have e : xorL r (List.replicate r.length 0) = r := by
      clear h1 h2 hr1 hr2
      induction r with
      | nil => rfl
      | cons a r ih =>
        simp only [xorL, List.length_cons, List.replicate_succ, List.zipWith_cons_cons, UInt8.xor_zero] at ih ⊢
        rw [ih]
    rw [e] at h2
    exact h2
  constructor
  · intro h
    have e : crcRaw (p ++ (xorL q (le 4 x) ++ r)) = crcRaw (p ++ (q ++ r)) := by unfold crc at h; omega
    rw [e] at key
    have hz : (List.replicate r.length (0 : UInt8)).foldl crcB (crcN 32 x) = 0 := by
      have h2 : crcRaw (p ++ (q ++ r)) ^^^ crcRaw (p ++ (q ++ r)) = crcRaw (p ++ (q ++ r)) ^^^ (crcRaw (p ++ (q ++ r)) ^^^ (List.replicate r.length (0 : UInt8)).foldl crcB (crcN 32 x)) := by rw [← key]
      rw [← Nat.xor_assoc, Nat.xor_self, Nat.zero_xor] at h2
      exact h2.symm
    have := fold_zero _ (crcN_lt hx 32) (fun b hb => (List.mem_replicate.1 hb).2) hz
    exact crcN_zero 32 hx this
  · intro h
    subst h
    rw [crcN_nought, fold_nought, Nat.xor_zero] at key
    unfold crc
    rw [key]

/-- The bytes once k of the four are turned. -/
def burst (l : List UInt8) (a x : Nat) : Nat → List UInt8
  | 0 => l
  | k + 1 => (burst l a x k).set (a + k) ((burst l a x k).getD (a + k) 0 ^^^ (le 4 x).getD k 0)
theorem burst_len (l : List UInt8) (a x k : Nat) : (burst l a x k).length = l.length := by
  induction k with
  | zero => rfl
  | succ k ih => simp [burst, ih]
theorem burst_get (l : List UInt8) (a x : Nat) : ∀ k i, (burst l a x k)[i]? = if a ≤ i ∧ i < a + k then l[i]?.map (· ^^^ (le 4 x).getD (i - a) 0) else l[i]? := by
  intro k
  induction k with
  | zero => intro i; rw [if_neg (by omega)]; rfl
  | succ k ih =>
    intro i
    simp only [burst]
    rw [List.getElem?_set, burst_len]
    by_cases hi : a + k = i
    · subst hi
      rw [if_pos rfl]
      have h0 := ih (a + k)
      rw [if_neg (by omega)] at h0
      by_cases hl : a + k < l.length
      · rw [if_pos hl, if_pos (by omega), List.getD_eq_getElem?_getD, h0, List.getElem?_eq_getElem hl]
        simp
      · rw [if_neg hl, if_pos (by omega), List.getElem?_eq_none (by omega)]
        rfl
    · rw [if_neg hi, ih i]
      by_cases h1 : a ≤ i ∧ i < a + k
      · rw [if_pos h1, if_pos (by omega)]
      · rw [if_neg h1, if_neg (by omega)]
theorem burst_four (l : List UInt8) (a x : Nat) (h : a + 4 ≤ l.length) : burst l a x 4 = l.take a ++ (xorL ((l.drop a).take 4) (le 4 x) ++ l.drop (a + 4)) := by
  apply List.ext_getElem?
  intro i
  have hx : (xorL ((l.drop a).take 4) (le 4 x)).length = 4 := by
    simp only [xorL, List.length_zipWith, List.length_take, List.length_drop, le_len]
    omega
  have ht : (l.take a).length = a := by rw [List.length_take]; omega
  rw [burst_get]
  by_cases h1 : i < a
  · rw [if_neg (by omega), List.getElem?_append_left (by omega), List.getElem?_take, if_pos h1]
  · rw [List.getElem?_append_right (by omega), ht]
    by_cases h2 : i < a + 4
    · rw [if_pos (by omega), List.getElem?_append_left (by omega)]
      simp only [xorL, List.getElem?_zipWith]
      rw [List.getElem?_take, if_pos (by omega), List.getElem?_drop, show a + (i - a) = i by omega, List.getElem?_eq_getElem (by omega), List.getElem?_eq_getElem (by rw [le_len]; omega)]
      simp [List.getD_eq_getElem?_getD, le_len, show i - a < 4 by omega]
    · rw [if_neg (by omega), List.getElem?_append_right (by omega), hx, List.getElem?_drop]
      congr 1
      omega
theorem burst_crc (l : List UInt8) (a x : Nat) (h : a + 4 ≤ l.length) (hx : x < 4294967296) : crc (burst l a x 4) = crc l ↔ x = 0 := by
  have hl : l = l.take a ++ ((l.drop a).take 4 ++ l.drop (a + 4)) := by
    rw [show l.drop (a + 4) = (l.drop a).drop 4 by rw [List.drop_drop], List.take_append_drop, List.take_append_drop]
  rw [burst_four l a x h]
  conv => lhs; rhs; rw [hl]
  exact crc_burst _ _ _ x (by rw [List.length_take, List.length_drop]; omega) hx
theorem le_byte (x k : Nat) (hk : k < 4) : ((le 4 x).getD k 0).toNat = x / 2 ^ (8 * k) % 256 := by
  have h4 : k = 0 ∨ k = 1 ∨ k = 2 ∨ k = 3 := by omega
  rcases h4 with rfl | rfl | rfl | rfl
  · simp only [le, List.getD_cons_zero, byte_of, Nat.mul_zero, Nat.pow_zero, Nat.div_one]
  · simp only [le, List.getD_cons_zero, List.getD_cons_succ, byte_of]
  · simp only [le, List.getD_cons_zero, List.getD_cons_succ, byte_of, Nat.div_div_eq_div_mul]
  · simp only [le, List.getD_cons_zero, List.getD_cons_succ, byte_of, Nat.div_div_eq_div_mul]
end Go.Proofs.Ytfkkfkfngdpgbaa
