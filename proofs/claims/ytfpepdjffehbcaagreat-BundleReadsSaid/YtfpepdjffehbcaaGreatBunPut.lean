/-
  The closure put of a layout's bytes: numbers behind the bytes that stand in a variable. Condition: the bytes are within the reach.
-/
import Derived.Test.YtfpepdjffehbcaaGreatBunLayS
import Derived.Test.YtfpepdjffehbcaaGreatBunBytesP
import Derived.Test.YtfpepdjffehbcaaGreatOctPut
import Derived.Lib.AppendStr
set_option linter.unusedVariables false
set_option linter.unusedSimpArgs false
namespace Go.Proofs.YtfpepdjffehbcaaGreat
open Go.RowKit

/-- Bytes that stand in the variable at gb; theirs is a block of their own from base on. -/
def BV (base : Nat) (W : World) (gb : Nat) (L : List UInt8) : Prop := ∃ A c, Blk W gb 27 #[.slice A L.length c] ∧ OB W base 5 (.slice A L.length c) L ∧ base ≤ gb
theorem BV.lt {base : Nat} {W : World} {gb : Nat} {L : List UInt8} (h : BV base W gb L) : gb < W.heap.size := by
  obtain ⟨A, c, h1, -⟩ := h
  exact h1.lt
theorem BV.le {base : Nat} {W : World} {gb : Nat} {L : List UInt8} (h : BV base W gb L) : base ≤ gb := by
  obtain ⟨A, c, -, -, h1⟩ := h
  exact h1
theorem BV.on {base : Nat} {W W' : World} {gb : Nat} {L : List UInt8} (h : BV base W gb L) (hb : Below W.heap.size W W') : BV base W' gb L := by
  obtain ⟨A, c, h1, h2, h3⟩ := h
  exact ⟨A, c, h1.below hb h1.lt, own_more h2 hb, h3⟩
theorem BV.alloc {base : Nat} {W : World} {gb : Nat} {L : List UInt8} (h : BV base W gb L) (o : Obj) : BV base (W.alloc o) gb L := h.on ((Below.refl _ W).alloc (Nat.le_refl _) o)
theorem BV.put {base : Nat} {W w2 : World} {gb : Nat} {L L2 : List UInt8} {v : Value} (h : BV base W gb L) (hb : Below W.heap.size W w2) (ho : OB w2 W.heap.size 5 v L2) : BV base (w2.setCell ⟨gb, 0, none⟩ v) gb L2 ∧ Only gb W (w2.setCell ⟨gb, 0, none⟩ v) := by
  obtain ⟨A, c, h1, h2, h3⟩ := h
  obtain ⟨A2, c2, rfl, -, -, -⟩ := OB.form ho
  have hb1 := h1.below hb h1.lt
  exact ⟨⟨A2, c2, hb1.set_ 0 _, own_stays3 (own_base ho (Nat.le_of_lt (Nat.lt_of_le_of_lt h3 h1.lt))) hb1 (by decide) (grown_set w2 gb 0 _), h3⟩, (Only.of_below hb).setCell (.inl rfl) _⟩
theorem blk_ne {W : World} {a b : Nat} {t u : TypeId} {cs ds : Array Value} (h : Blk W a t cs) (h2 : Blk W b u ds) (hne : t ≠ u) : a ≠ b := by
  rintro rfl
  unfold Blk at h h2
  rw [h] at h2
  cases h2
  exact hne rfl
def PutPostB (base gb : Nat) (L : List UInt8) (w : World) (e : Ending) (w' : World) : Prop := e = .returned (.tuple #[]) ∧ BV base w' gb L ∧ Only gb w w'
set_option maxHeartbeats 2000000 in
theorem bput_any (ks : List Nat) (L : List UInt8) (base gb B n : Nat) (w : World) (hn : ks.length = n) (hV : BV base w gb L) (hB : Blk w B 3 (natsV ks).toArray) (hks : ∀ k ∈ ks, k < 4294967296) (hn2 : n ≤ 10) (hlen : L.length ≤ 100000000000) :
    Calls Tryz.prog 67 #[.slice (some ⟨B, 0, none⟩) n n, .pointer (some ⟨gb, 0, none⟩)] w (PutPostB base gb (L ++ ks.flatMap (le 4)) w) := by
  have HN := Lib.hid hn
  have HV0 := Lib.hid hV
  have HB0 := Lib.hid hB
  have HKS := Lib.hid hks
  have hne : B ≠ gb := by
    obtain ⟨A, c, h1, -, -⟩ := hV
    exact blk_ne hB h1 (by decide)
  have hBl : B < w.heap.size := hB.lt
  clear hn hV hB hks
  have hn3 : (n : Int) ≤ 10 := by omega
  go_enter Tryz.func67, Tryz.ntmps67
  go_wp2
  go_loopw [7] (fun kv W => ∃ k : Nat, kv = .int .i64 (k : Int) ∧ k ≤ n ∧ BV base W gb (L ++ (ks.take k).flatMap (le 4)) ∧ Only gb w W) (fun kv _ => n - (Lib.intOf kv).toNat)
  case atStart => exact ⟨0, rfl, Nat.zero_le _, by simpa using HV0.out, Only.refl _ _⟩
  case round =>
    obtain ⟨k, rfl, hk, hV, hO⟩ := hrel
    have HV := Lib.hid hV
    have HO := Lib.hid hO
    clear hV hO
    by_cases hkn : k < n
    · have hq : (k : Int) < (n : Int) := by omega
      obtain ⟨x, hx⟩ : ∃ x, ks[k]? = some x := ⟨_, List.getElem?_eq_getElem (by rw [HN.out]; exact hkn)⟩
      have HXL := Lib.hid (HKS.out x (List.mem_of_getElem? hx))
      have hwp : IntKind.u32.wrap (x : Int) = (x : Int) := by have := HXL.out; rw [IntKind.wrap_u32]; omega
      have r0 : wr.cell? ⟨B, k, none⟩ = some (.int .i64 (x : Int)) := by
        rw [(HB0.out.grown HO.out (by simpa using hne)).cell k]
        have := natsV_at hx
        simpa using this
      have HX := Lib.hid hx
      obtain ⟨L', hL'⟩ : ∃ L', L ++ (ks.take k).flatMap (le 4) = L' := ⟨_, rfl⟩
      have hl1 : L'.length ≤ 200000000000 := by
        rw [← hL', List.length_append]
        have h1 := flat_le (f := le 4) (c := 4) (l := ks.take k) (fun y _ => by rw [le_len]; exact Nat.le_refl _)
        rw [List.length_take] at h1
        omega
      have HLQ := Lib.hid hL'
      rw [hL'] at HV
      clear hx hL'
      obtain ⟨A, c, hb0, ho0, -⟩ := HV.out
      obtain ⟨m, hm⟩ : ∃ m, L'.length = m := ⟨_, rfl⟩
      obtain ⟨A1, c1, e1, hc1, hc2, hR⟩ := OB.form ho0
      obtain ⟨L2, hL2⟩ : ∃ L2, L' ++ le 4 x = L2 := ⟨_, rfl⟩
      have HL2 := Lib.hid hL2
      have HP := Lib.hid (show Calls Tryz.prog 68 #[.slice A1 L'.length c1, .int .u32 (x : Int)] wr (fun e w' => ∃ A2 m2 c2, e = .returned (.slice A2 m2 c2) ∧ OB w' wr.heap.size 5 (.slice A2 m2 c2) L2 ∧ Below wr.heap.size wr w') from by
        refine (put32_any L' x A1 c1 wr.heap.size wr hR (Nat.le_refl _) (by omega) HXL.out).mono ?_
        rintro e w' ⟨v2, rfl, ho2, hb2⟩
        rw [hL2] at ho2
        obtain ⟨A2, c2, rfl, -, -, -⟩ := OB.form ho2
        exact ⟨A2, _, c2, rfl, ho2, hb2⟩)
      rw [hm] at e1 hb0 HP hl1
      cases e1
      have s0 : wr.cell? ⟨gb, 0, none⟩ = some (.slice A m c) := hb0.cell 0
      have HBQ := Lib.hid hb0
      clear hb0 ho0 hc1 hc2 hR hm hL2
      go_wp2_with fail
      refine HP.out.mono ?_
      rintro e w2 ⟨A2, m2, c2, rfl, ho2, hb2⟩
      have HVP := Lib.hid (HV.out.put hb2 ho2)
      have s1 : w2.cell? ⟨gb, 0, none⟩ = some (.slice A m c) := (HBQ.out.below hb2 HBQ.out.lt).cell 0
      have s2 : w2.frozen? ⟨gb, 0, none⟩ = false := (HBQ.out.below hb2 HBQ.out.lt).frozen 0
      clear ho2 hb2
      go_upto_region 4 with (fail)
      generalize w2.setCell ⟨gb, 0, none⟩ (.slice A2 m2 c2) = w3 at *
      clear hwp s0 s1 s2 r0
      go_wp2
      go_roundw
      case rel => exact ⟨k + 1, by go_num, hkn, by rw [flat_next HX.out, ← List.append_assoc, HLQ.out, HL2.out]; exact HVP.out.1, HO.out.trans HVP.out.2⟩
      case measure => simp [Lib.intOf]; omega
    · obtain rfl : n = k := by omega
      have hq : ¬ (n : Int) < (n : Int) := by omega
      go_wp2
      go_end0
      exact ⟨rfl, by have := HV.out; rw [List.take_of_length_le (by rw [HN.out]; exact Nat.le_refl _)] at this; exact this, HO.out⟩
/-- One number; two numbers, in a row that is new. -/
theorem put1 (k : Nat) (L : List UInt8) (base gb : Nat) (W : World) (hV : BV base W gb L) (hk : k < 4294967296) (hlen : L.length ≤ 100000000000) :
    Calls Tryz.prog 67 #[.slice (some ⟨W.heap.size, 0, none⟩) 1 1, .pointer (some ⟨gb, 0, none⟩)] (W.alloc (.cells #[.int .i64 (k : Int)] 3)) (PutPostB base gb (L ++ le 4 k) W) := by
  refine (bput_any [k] L base gb W.heap.size 1 _ rfl (hV.alloc _) (Blk.new W _ _) (by simpa using hk) (by omega) hlen).mono ?_
  rintro e w' ⟨rfl, h1, h2⟩
  exact ⟨rfl, by simpa using h1, ((Only.refl gb W).alloc _).trans h2⟩
theorem put2 (k m : Nat) (L : List UInt8) (base gb : Nat) (W : World) (hV : BV base W gb L) (hk : k < 4294967296) (hm : m < 4294967296) (hlen : L.length ≤ 100000000000) :
    Calls Tryz.prog 67 #[.slice (some ⟨W.heap.size, 0, none⟩) 2 2, .pointer (some ⟨gb, 0, none⟩)] (W.alloc (.cells #[.int .i64 (k : Int), .int .i64 (m : Int)] 3)) (PutPostB base gb (L ++ (le 4 k ++ le 4 m)) W) := by
  refine (bput_any [k, m] L base gb W.heap.size 2 _ rfl (hV.alloc _) (Blk.new W _ _) (by simp; omega) (by omega) hlen).mono ?_
  rintro e w' ⟨rfl, h1, h2⟩
  exact ⟨rfl, by simpa using h1, ((Only.refl gb W).alloc _).trans h2⟩
end Go.Proofs.YtfpepdjffehbcaaGreat
