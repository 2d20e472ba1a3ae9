/-
  The document's four once more: which block it writes; and what lies between two numbers is held. Condition: as Ref22's.
-/
import Derived.Test.YtfpepdjffehbcaaGreatRef22C
import Derived.Test.YtfpepdjffehbcaaGreatRefFresh
set_option linter.unusedVariables false
set_option linter.unusedSimpArgs false
namespace Go.Proofs.YtfpepdjffehbcaaGreat
open Go.RowKit

theorem grown_after {w w2 w3 : World} {row : Option Nat} (hb : Below w.heap.size w w2) (hg : w2.grownBy w3 row) : w.grownBy w3 row :=
  ⟨hg.os.trans hb.os, hg.tape.trans hb.tape, hg.output.trans hb.output, Nat.le_trans hb.size hg.size, fun i hi hne => (hg.block i (Nat.lt_of_lt_of_le hi hb.size) hne).trans (hb.block i hi)⟩
set_option maxHeartbeats 2000000 in
theorem rfour2_any (v : Value) (L : List UInt8) (x base : Nat) (w : World) (h : OB w base 5 v L) (hb : base ≤ w.heap.size) (hx : x < 4294967296) (hlen : L.length ≤ 100000000000) :
    Calls Tryz.prog 41 #[v, .int .u32 (x : Int)] w fun e w' => (∃ A n c, e = .returned (.slice A n c) ∧ OB w' base 5 (.slice A n c) (L ++ le 4 x) ∧ ∀ b, (Value.slice A n c).ownBlock = some b → v.ownBlock = some b ∨ w.heap.size ≤ b) ∧ Below base w w' ∧ w.grownBy w' v.ownBlock := by
  have HO := Lib.hid h
  obtain ⟨A, c, rfl, -, -, -⟩ := OB.form h
  obtain ⟨n, hn⟩ : ∃ n, L.length = n := ⟨_, rfl⟩
  have HN := Lib.hid hn
  rw [hn] at HO hlen ⊢
  clear hn h
  have HLO := Lib.hid (show Calls Tryz.prog 71 #[.int .u32 (x : Int), .int .i64 4] w (fun e w' => ∃ A2 c2, e = .returned (.slice A2 4 c2) ∧ RB w' w'.heap.size A2 (le 4 x) ∧ Below w.heap.size w w') from by
    refine (low_any 4 x w (by omega) hx).mono ?_
    rintro e w' ⟨v2, rfl, ho2, hb2⟩
    obtain ⟨A2, c2, rfl, -, -, hR⟩ := OB.form ho2
    exact ⟨A2, c2, by simp [le_len], hR, hb2⟩)
  obtain ⟨i0, hi0, hz0, hz1, hz2⟩ := info_parts byte_info
  go_enter Tryz.func41, Tryz.ntmps41
  go_wp2_with (first
    | (go_at_call 71; go_must (refine HLO.out.mono ?_; rintro en w2 ⟨A2, c2, rfl, hr2, hb2⟩; have HB2 := Lib.hid hb2; have HR2 := Lib.hid hr2; have HO2 := Lib.hid (show w2.ownsRow base 5 1 (.slice A n c) n (bvs L) from by have h := own_more HO.out hb2; rw [HN.out] at h; exact h); have HZ2 := Lib.hid (show base ≤ w2.heap.size from Nat.le_trans hb hb2.size); clear hb2 hr2))
    | (at_builtin; go_must (refine wpList_append_any _ rfl (.tmp 5) (.tmp 7) _ rfl base 5 i0 _ 1 1 Tryz.underlying27 hi0 hz0 hz1 hz2 rfl (by omega) _ n (bvs L) rfl HO2.out w2.heap.size A2 4 c2 (bvs (le 4 x)) rfl (by have h := HR2.out; unfold RB at h; rw [le_len] at h; exact h) (bvs_one _) (by simp only [maxLen]; omega) (by omega) HZ2.out ?_; intro v3 w3 hown3 hg3 hat3; have HO3 := Lib.hid hown3; have HB3 := Lib.hid ((HB2.out.mono hb).grown hg3 HZ2.out (fun k hk => (HO2.out.lt k hk).1)); have HG3 := Lib.hid (grown_after HB2.out hg3); have HA3 := Lib.hid hat3; clear hown3 hg3 hat3)))
  go_ret
  obtain ⟨A3, c3, rfl, -, -, -⟩ := own_form HO3.out
  refine ⟨⟨A3, _, c3, rfl, ?_, fun b hb3 => ?_⟩, HB3.out, HG3.out⟩
  rotate_left
  · rcases HA3.out with e | e
    · exact .inl (e ▸ hb3)
    · rw [e] at hb3
      cases hb3
      exact .inr HB2.out.size
  have := HO3.out
  rw [← bvs_append] at this
  unfold OB
  rw [List.length_append, le_len, HN.out]
  exact this
/-- What lies between a and z is as in wG, and a slice's block lies elsewhere. -/
def Held (a z : Nat) (v : Value) (wG W : World) : Prop := z ≤ W.heap.size ∧ (∀ k, a ≤ k → k < z → W.heap[k]? = wG.heap[k]?) ∧ ∀ b, v.ownBlock = some b → b < a ∨ z ≤ b
theorem Held.on {a z : Nat} {v : Value} {wG W W' : World} (h : Held a z v wG W) (hb : Below W.heap.size W W') : Held a z v wG W' :=
  ⟨Nat.le_trans h.1 hb.size, fun k h1 h2 => (hb.block k (Nat.lt_of_lt_of_le h2 h.1)).trans (h.2.1 k h1 h2), h.2.2⟩
theorem Held.four {a z : Nat} {v u : Value} {wG W W' : World} (h : Held a z v wG W) (hg : W.grownBy W' v.ownBlock) (hu : ∀ b, u.ownBlock = some b → v.ownBlock = some b ∨ W.heap.size ≤ b) : Held a z u wG W' := by
  refine ⟨Nat.le_trans h.1 hg.size, fun k h1 h2 => (hg.block k (Nat.lt_of_lt_of_le h2 h.1) (fun e => ?_)).trans (h.2.1 k h1 h2), fun b hb => ?_⟩
  · rcases h.2.2 k e.symm with h3 | h3 <;> omega
  · rcases hu b hb with h3 | h3
    · exact h.2.2 b h3
    · have := h.1
      exact .inr (by omega)
theorem held_reads {a z size n : Nat} {A : Option Addr} {v : Value} {xs : List Value} {wG W : World} (h : Reads wG z size A n xs) (hf : ∀ b, A = some b → a ≤ b.block) (hH : Held a z v wG W) : Reads W W.heap.size size A n xs := by
  refine ⟨h.1, fun hp => ?_⟩
  obtain ⟨b, rfl, hb, hc⟩ := h.2 hp
  refine ⟨b, rfl, Nat.lt_of_lt_of_le hb hH.1, fun j u hu => ?_⟩
  have hk := hH.2.1 b.block (hf b rfl) hb
  have hbl : (b.add j).block = b.block := by by_cases hj : j = 0 <;> simp [Addr.add, hj]
  rw [← hc j u hu]
  exact World.cell?_of_block (w := wG) (by rw [hbl]; exact hk)
theorem held_txts {a z : Nat} {v u : Value} {l : List ByteArray} {wG W : World} (h : Txts wG z u l) (hf : Fr a u) (hH : Held a z v wG W) : Txts W W.heap.size u l := by
  obtain ⟨A, c, rfl, h1, h2, h3⟩ := h
  exact ⟨A, c, rfl, h1, h2, held_reads h3 (fun b e => hf b.block (by rw [e]; rfl)) hH⟩
theorem held_rows {a z : Nat} {v u : Value} {l : List RowI} {wG W : World} (h : RowsR wG z u l) (hf : Fr a u) (hH : Held a z v wG W) : RowsR W W.heap.size u l := by
  obtain ⟨A, c, rfl, h1, h2, h3⟩ := h
  exact ⟨A, c, rfl, h1, h2, held_reads h3 (fun b e => hf b.block (by rw [e]; rfl)) hH⟩
theorem held_blk {a z g : Nat} {t : TypeId} {cs : Array Value} {v : Value} {wG W : World} (h : Blk wG g t cs) (ha : a ≤ g) (hz : g < z) (hH : Held a z v wG W) : Blk W g t cs := (hH.2.1 g ha hz).trans h
end Go.Proofs.YtfpepdjffehbcaaGreat
