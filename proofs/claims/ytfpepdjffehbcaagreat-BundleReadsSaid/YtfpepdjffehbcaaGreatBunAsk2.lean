/-
  What the laws ask of small bundles: bytes.Equal, and Encode of a bundle that is cut. Condition: they are within the reach.
-/
import Derived.Test.YtfpepdjffehbcaaGreatBunSame
import Derived.Test.YtfpepdjffehbcaaGreatRegM
set_option linter.unusedVariables false
set_option linter.unusedSimpArgs false
namespace Go.Proofs.YtfpepdjffehbcaaGreat
open Go.RowKit

set_option maxHeartbeats 1000000 in
theorem beq_any (l m : List UInt8) (A A' : Option Addr) (c c' n n' : Nat) (w : World) (h1 : RB w w.heap.size A l) (h2 : RB w w.heap.size A' m) (hn : l.length = n) (hm : m.length = n') :
    Calls Tryz.prog 15 #[.slice A n c, .slice A' n' c'] w fun e w' => e = .returned (.bool (decide (l = m))) ∧ w = w' := by
  have hc1 := conv_rb (P := Tryz.prog) 27 9 5 c Tryz.underlying27 Tryz.underlying5 Tryz.underlying9 h1
  have hc2 := conv_rb (P := Tryz.prog) 27 9 5 c' Tryz.underlying27 Tryz.underlying5 Tryz.underlying9 h2
  rw [hn] at hc1
  rw [hm] at hc2
  have hbq : ((str l).toList == (str m).toList) = decide (l = m) := by
    rw [str_toList, str_toList, Bool.eq_iff_iff]
    simp
  obtain ⟨y, hy⟩ : ∃ y, decide (l = m) = y := ⟨_, rfl⟩
  rw [hy] at hbq ⊢
  obtain ⟨s1, hs1⟩ : ∃ s1, str l = s1 := ⟨_, rfl⟩
  obtain ⟨s2, hs2⟩ : ∃ s2, str m = s2 := ⟨_, rfl⟩
  rw [hs1] at hc1 hbq
  rw [hs2] at hc2 hbq
  clear hs1 hs2 hy h1 h2 hn hm
  go_enter Tryz.func15, Tryz.ntmps15
  go_wp2
  go_ret
  exact ⟨rfl, rfl⟩
/-- Encode of a small bundle that may be. -/
theorem enc_yes {v : Value} {l : List PStep} {vs : List Value} {w : World} (h : StepsR w v l vs) (hin : InB l) (hs : CutSm l) (hc : (checkB l).1 = 0) :
    Calls Tryz.prog 10 #[.agg #[v]] w fun e w' => ∃ A m c, e = .returned (.tuple #[.slice A m c, .int .i64 0]) ∧ (bytesB l).length = m ∧ OB w' w.heap.size 5 (.slice A m c) (bytesB l) ∧ Below w.heap.size w w' := by
  refine (bencode_any v l vs w h hin).mono ?_
  rintro e w' ⟨⟨h1, -⟩ | ⟨-, h1, -⟩ | ⟨-, -, v2, rfl, ho⟩, hb⟩
  · exact absurd hc h1
  · exact absurd (enc_fits hc hs) (by omega)
  · obtain ⟨A, c, rfl, -, -, -⟩ := OB.form ho
    exact ⟨A, _, c, rfl, rfl, ho, hb⟩
theorem enc_no {v : Value} {l : List PStep} {vs : List Value} {w : World} (h : StepsR w v l vs) (hin : InB l) {k : Int} (hk : (checkB l).1 = k) (hc : k ≠ 0) :
    Calls Tryz.prog 10 #[.agg #[v]] w fun e w' => e = .returned (.tuple #[.slice none 0 0, .int .i64 k]) ∧ Below w.heap.size w w' := by
  refine (bencode_any v l vs w h hin).mono ?_
  rintro e w' ⟨⟨-, rfl⟩ | ⟨h1, -⟩ | ⟨h1, -⟩, hb⟩
  · exact ⟨by rw [hk], hb⟩
  · exact absurd (hk.symm.trans h1) hc
  · exact absurd (hk.symm.trans h1) hc
theorem enc_some {l : List PStep} {f : FuncId} {args : Array Value} {w : World} (h : Calls Tryz.prog f args w (EncPost l w)) : Calls Tryz.prog f args w fun e w' => ∃ A m c k, e = .returned (.tuple #[.slice A m c, .int .i64 k]) ∧ Below w.heap.size w w' := by
  refine h.mono ?_
  rintro e w' ⟨⟨-, rfl⟩ | ⟨-, -, rfl⟩ | ⟨-, -, v2, rfl, ho⟩, hb⟩
  · exact ⟨_, _, _, _, rfl, hb⟩
  · exact ⟨_, _, _, _, rfl, hb⟩
  · obtain ⟨A, c, rfl, -, -, -⟩ := OB.form ho
    exact ⟨A, _, c, _, rfl, hb⟩
theorem size_yes {v : Value} {l : List PStep} {vs : List Value} {w : World} (h : StepsR w v l vs) (hin : InB l) (hc : (checkB l).1 = 0) :
    Calls Tryz.prog 11 #[.agg #[v]] w fun e w' => e = .returned (.tuple #[.int .i64 ((bytesB l).length : Int), .int .i64 0]) ∧ Below w.heap.size w w' := by
  refine (bsize_any v l vs w h hin).mono ?_
  rintro e w' ⟨⟨h1, -⟩ | ⟨-, x, rfl, rfl⟩, hb⟩
  · exact absurd hc h1
  · exact ⟨rfl, hb⟩
theorem size_no {v : Value} {l : List PStep} {vs : List Value} {w : World} (h : StepsR w v l vs) (hin : InB l) {k : Int} (hk : (checkB l).1 = k) (hc : k ≠ 0) :
    Calls Tryz.prog 11 #[.agg #[v]] w fun e w' => e = .returned (.tuple #[.int .i64 0, .int .i64 k]) ∧ Below w.heap.size w w' := by
  refine (bsize_any v l vs w h hin).mono ?_
  rintro e w' ⟨⟨-, rfl⟩ | ⟨h1, -⟩, hb⟩
  · exact ⟨by rw [hk], hb⟩
  · exact absurd (hk.symm.trans h1) hc
/-- A bundle in a variable turned by cut: the variable's block, and the bundle. -/
theorem cut_in {W' : World} {h0 : Nat} {x u : Value} {l : List PStep} {vs : List Value} (hB : Blk W' h0 24 #[x]) {base : Nat} (hO : BunOwn W' base u l vs) : Blk (W'.setCell ⟨h0, 0, none⟩ u) h0 24 #[u] ∧ BunOwn (W'.setCell ⟨h0, 0, none⟩ u) base u l vs := by
  have hs := grown_set W' h0 0 u
  exact ⟨hB.set_ 0 u, own_stays3 hO.1 hB (by decide) hs, hO.2.1, fun i b ku hi hj => own_stays3 (hO.2.2 i b ku hi hj) hB (by decide) hs⟩
theorem bunown_set {W : World} {h0 : Nat} {x u v : Value} {l : List PStep} {vs : List Value} (hB : Blk W h0 24 #[x]) {base : Nat} (hO : BunOwn W base v l vs) : BunOwn (W.setCell ⟨h0, 0, none⟩ u) base v l vs := by
  have hs := grown_set W h0 0 u
  exact ⟨own_stays3 hO.1 hB (by decide) hs, hO.2.1, fun i b ku hi hj => own_stays3 (hO.2.2 i b ku hi hj) hB (by decide) hs⟩
end Go.Proofs.YtfpepdjffehbcaaGreat
