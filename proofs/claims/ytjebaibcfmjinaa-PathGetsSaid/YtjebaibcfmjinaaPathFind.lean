/-
  The walks of path.find, its closure and slices.IndexFunc at keys. Condition: at most 1000000 keys.
-/
import Derived.Test.YtjebaibcfmjinaaPathRest
namespace Go.Proofs.Ytjebaibcfmjinaa
open Go.RowKit

theorem find1_any (k : PKey) (key : ByteArray) (b : Nat) (w : World) (hb : w.cell? ⟨b, 0, none⟩ = some (.string key)) (hlt : b < w.heap.size) :
    Calls Try.prog 62 #[.agg #[.string k.1, .string k.2], .pointer (some ⟨b, 0, none⟩)] w fun en w' => en = .returned (.bool (decide (k.1 = key))) ∧ Below w.heap.size w w' := by
  obtain ⟨ka, kv⟩ := k
  have HB := Lib.hid ((Below.refl w.heap.size w).alloc (Nat.le_refl _) (.cells #[.string ka, .string kv] 51))
  have hD : (ka.toList == key.toList) = decide (ka = key) := ba_beq ka key
  have HD := Lib.hid hD
  generalize decide (ka = key) = d at *
  clear hD
  go_enter Try.func62, Try.ntmps62
  go_wp2
  go_ret
  exact ⟨by rw [← HD.out]; rfl, HB.out⟩
/-- What find tells. -/
def FindIs (ks : List PKey) (key : ByteArray) (r : Int) : Prop :=
  (∃ i k, r = (i : Nat) ∧ ks[i]? = some k ∧ k.1 = key ∧ ∀ k' ∈ ks.take i, k'.1 ≠ key) ∨ (r = -1 ∧ ∀ k' ∈ ks, k'.1 ≠ key)
set_option maxHeartbeats 1000000 in
theorem indexfunc_keys (v : Value) (ks : List PKey) (key : ByteArray) (b : Nat) (w : World) (h : KeysAt w w.heap.size v ks) (hk : ks.length ≤ 1000000) (hb : w.cell? ⟨b, 0, none⟩ = some (.string key)) (hlt : b < w.heap.size) :
    Calls Try.prog 61 #[v, .func (.func 62) #[] #[.pointer (some ⟨b, 0, none⟩)]] w fun en w' => (∃ r, en = .returned (.int .i64 r) ∧ FindIs ks key r) ∧ Below w.heap.size w w' := by
  obtain ⟨A, c, rfl, hc, hm, hR⟩ := h
  have HR := Lib.hid hR
  clear hR
  generalize hn : ks.length = n at *
  have HN := Lib.hid hn
  have hn1 : (n : Int) ≤ 1000000 := by omega
  clear hn hc
  have HBC := Lib.hid (And.intro hb hlt)
  clear hb hlt
  go_enter Try.func61, Try.ntmps61
  go_wp2
  go_loopw [5, 8] (fun _ iv wr => ∃ p : Nat, iv = .int .i64 (p : Int) ∧ p ≤ n ∧ (∀ k' ∈ ks.take p, k'.1 ≠ key) ∧ Below w.heap.size w wr) (fun _ iv _ => n - (Lib.intOf iv).toNat)
  case atStart => exact ⟨0, rfl, Nat.zero_le _, by simp, Below.refl _ _⟩
  case round =>
    obtain ⟨p, rfl, hp, hT, hB⟩ := hrel
    have HB := Lib.hid hB
    have HT := Lib.hid hT
    clear hT
    by_cases hlt : p < n
    · obtain ⟨x, hx⟩ : ∃ x, ks[p]? = some x := ⟨ks[p]'(by have := HN.out; omega), by have := HN.out; simp [this, hlt]⟩
      have hq : (p : Int) < (n : Int) := by omega
      obtain ⟨b1, o1, rfl, hb1, hcl1⟩ := (HR.out.below hB).spot (by omega) (by omega)
      have hb1w : b1 < wr.heap.size := Nat.lt_of_lt_of_le hb1 hB.size
      have ha1 := pairCells_at ks p x hx
      have r0 := hcl1 _ _ ha1.1
      have r1 : wr.cell? ⟨b1, o1 + p * 2 + 1, none⟩ = some (.string x.2) := hcl1 _ _ ha1.2
      have HC := Lib.hid (find1_any x key b wr ((hB.cell (p := ⟨b, 0, none⟩) HBC.out.2).trans HBC.out.1) (Nat.lt_of_lt_of_le HBC.out.2 hB.size))
      have HX := Lib.hid hx
      clear hcl1 ha1 hx hB
      by_cases he : x.1 = key
      · have HD := Lib.hid (show decide (x.1 = key) = true by simp [he])
        rw [HD.out] at HC
        have HE := Lib.hid he
        clear he
        go_wp2_with (go_at_call 62; go_loud (refine HC.out.mono ?_; rintro en w1 ⟨rfl, hB1⟩))
        go_ret
        exact ⟨⟨(p : Int), rfl, .inl ⟨p, x, rfl, HX.out, HE.out, HT.out⟩⟩, HB.out.trans (hB1.mono HB.out.size)⟩
      · have HD := Lib.hid (show decide (x.1 = key) = false by simp [he])
        rw [HD.out] at HC
        have HE := Lib.hid he
        clear he
        go_wp2_with (go_at_call 62; go_loud (refine HC.out.mono ?_; rintro en w1 ⟨rfl, hB1⟩))
        refine ⟨⟨p + 1, by simp, hlt, ?_, HB.out.trans (hB1.mono HB.out.size)⟩, by simp [Lib.intOf]; omega⟩
        intro k' hk'
        rw [List.take_add_one, HX.out] at hk'
        rcases List.mem_append.1 hk' with h | h
        · exact HT.out k' h
        · simp at h
          subst h
          exact HE.out
    · obtain rfl : p = n := by omega
      have hq : ¬ (p : Int) < (p : Int) := by omega
      clear hB
      go_wp2
      go_ret
      refine ⟨⟨-1, rfl, .inr ⟨rfl, ?_⟩⟩, HB.out⟩
      have := HT.out
      rwa [List.take_of_length_le (by have := HN.out; omega)] at this
theorem find_any (nm key : ByteArray) (kv : Value) (ks : List PKey) (w : World) (h : KeysAt w w.heap.size kv ks) (hk : ks.length ≤ 1000000) :
    Calls Try.prog 40 #[.agg #[.string nm, kv], .string key] w fun en w' => (∃ r, en = .returned (.int .i64 r) ∧ FindIs ks key r) ∧ Below w.heap.size w w' := by
  obtain ⟨A, c, rfl, hc, hm, hR⟩ := id h
  have hB2 : Below w.heap.size w ((w.alloc (.cells #[.string nm, .slice A ks.length c] 40)).alloc (.cells #[.string key] 9)) := ((Below.refl _ w).alloc (Nat.le_refl _) _).alloc (by simp) _
  have HI := Lib.hid (indexfunc_keys (.slice A ks.length c) ks key (w.heap.size + 1) ((w.alloc (.cells #[.string nm, .slice A ks.length c] 40)).alloc (.cells #[.string key] 9)) (h.more hB2 hB2.size) hk (by simp) (by simp))
  have HB2 := Lib.hid hB2
  clear h hB2 hR
  go_enter Try.func40, Try.ntmps40
  go_wp2_with (go_at_call 61; go_loud (refine HI.out.mono ?_; rintro en w1 ⟨⟨r, rfl, hF⟩, hB1⟩; have HF := Lib.hid hF; clear hF))
  go_ret
  exact ⟨⟨_, rfl, HF.out⟩, HB2.out.trans (hB1.mono HB2.out.size)⟩
end Go.Proofs.Ytjebaibcfmjinaa
