/-
  The walks of slices.Clone at []byte, octet.Put16 and octet.Put32: what they make is a row of the call's own; what was there stays. Condition: the bytes are within the reach.
-/
import Derived.Test.YtfpepdjffehbcaaGreatProg
import Derived.Test.YtfpepdjffehbcaaGreatBlocks
import Derived.Test.YtfpepdjffehbcaaGreatOctLaw
import Derived.Outline
import Derived.Lib.Hide
import Derived.Lib.SliceRun
set_option linter.unusedVariables false
set_option linter.unusedSimpArgs false
namespace Go.Proofs.YtfpepdjffehbcaaGreat
open Go.RowKit

theorem byte_info : (Tryz.prog.info? 5).map (fun i => (i.zero, i.size, i.bytes)) = some (some (.int .u8 0), 1, 1) := by kernel_rfl

/-- What a call that makes a slice of bytes leaves. -/
def MadeB (w : World) (e0 : TypeId) (l : List UInt8) (e : Ending) (w' : World) : Prop := ∃ v, e = .returned v ∧ OB w' w.heap.size e0 v l ∧ Below w.heap.size w w'

set_option maxHeartbeats 400000 in
theorem bclone_any (l : List UInt8) (A : Option Addr) (c B : Nat) (w : World) (hr : RB w B A l) (hB : B ≤ w.heap.size) (hlen : l.length ≤ 140737488355328) :
    Calls Tryz.prog 59 #[.slice A l.length c] w (MadeB w 5 l) := by
  obtain ⟨i0, hi0, hz0, hz1, hz2⟩ := info_parts byte_info
  rcases A with _ | ad
  · have hl : l = [] := by
      rcases Nat.eq_zero_or_pos l.length with h0 | h0
      · exact List.eq_nil_of_length_eq_zero h0
      · obtain ⟨_, h, _⟩ := hr.2 h0
        cases h
    subst hl
    have heq := fun W => Lib.run_eql_slice_nil (P := Tryz.prog) W 27 5 none 0 c 0 0 Tryz.underlying27
    simp only [List.length_nil]
    go_enter Tryz.func59, Tryz.ntmps59
    go_wp2
    go_ret
    exact ⟨_, rfl, World.ownsRow_nil _ _ _ _, Below.refl _ _⟩
  · have heq := fun W => Lib.run_eql_slice_nil (P := Tryz.prog) W 27 5 (some ad) l.length c 0 0 Tryz.underlying27
    go_enter Tryz.func59, Tryz.ntmps59
    go_wp2_with (at_builtin; refine wpList_append_any _ rfl (.tmp 5) (.tmp 6) _ rfl w.heap.size 5 i0 _ 1 1 Tryz.underlying27 hi0 hz0 hz1 hz2 rfl (by omega) (.slice (some ⟨w.heap.size, 0, none⟩) 0 0) 0 [] rfl (World.ownsRow_made _ _ 0 (Nat.le_refl _) (by simp [maxLen]) rfl) B (some ad) l.length c (bvs l) rfl (Reads.alloc hr hB _) (bvs_one l) (by simp only [maxLen]; omega) (by omega) (by simp) ?_; intro v1 w1 hown1 hg1 hat1)
    go_ret
    refine ⟨v1, rfl, by unfold OB; simpa using hown1, ((Below.refl _ _).alloc (Nat.le_refl _) _).grown hg1 (by simp) (fun k hk => ?_)⟩
    simp [Value.ownBlock] at hk
    omega

set_option maxHeartbeats 400000 in
theorem put16_any (l : List UInt8) (x : Nat) (A : Option Addr) (c B : Nat) (w : World) (hr : RB w B A l) (hB : B ≤ w.heap.size) (hlen : l.length ≤ 140737488355320) (hx : x < 65536) :
    Calls Tryz.prog 66 #[.slice A l.length c, .int .u16 (x : Int)] w (MadeB w 5 (l ++ le 2 x)) := by
  obtain ⟨i0, hi0, hz0, hz1, hz2⟩ := info_parts byte_info
  go_enter Tryz.func66, Tryz.ntmps66
  have hle := le2 x hx
  have HL := Lib.hid hle
  clear hle
  go_wp2_with (first | (go_at_call 59; refine (bclone_any l A c B w hr hB (by omega)).mono ?_; rintro e w1 ⟨v1, rfl, ho1, hb1⟩) | (at_builtin; refine wpList_append_any _ rfl (.tmp 6) (.tmp 12) _ rfl w.heap.size 5 i0 _ 1 1 Tryz.underlying27 hi0 hz0 hz1 hz2 rfl (by omega) v1 l.length (bvs l) rfl (ho1.alloc _) (w1.heap.size + 1) (some ⟨w1.heap.size, 0, none⟩) 2 2 _ rfl (reads_new w1 _ 5 1 2 rfl) (by simp [Value.oneCell']) (by simp only [maxLen]; omega) (by omega) (by have := hb1.size; simp; omega) ?_; intro v2 w2 hown2 hg2 hat2))
  go_ret
  have hz := hb1.size
  refine ⟨v2, rfl, ?_, (hb1.alloc hz _).grown hg2 (by simp; omega) (fun k hk => (ho1.lt k hk).1)⟩
  unfold OB
  rw [bvs_append, HL.out, List.length_append, le_len]
  exact hown2

set_option maxHeartbeats 400000 in
theorem put32_any (l : List UInt8) (x : Nat) (A : Option Addr) (c B : Nat) (w : World) (hr : RB w B A l) (hB : B ≤ w.heap.size) (hlen : l.length ≤ 140737488355320) (hx : x < 4294967296) :
    Calls Tryz.prog 68 #[.slice A l.length c, .int .u32 (x : Int)] w (MadeB w 5 (l ++ le 4 x)) := by
  obtain ⟨i0, hi0, hz0, hz1, hz2⟩ := info_parts byte_info
  go_enter Tryz.func68, Tryz.ntmps68
  have hle := le4 x hx
  have HL := Lib.hid hle
  clear hle
  go_wp2_with (first | (go_at_call 59; refine (bclone_any l A c B w hr hB (by omega)).mono ?_; rintro e w1 ⟨v1, rfl, ho1, hb1⟩) | (at_builtin; refine wpList_append_any _ rfl (.tmp 6) (.tmp 18) _ rfl w.heap.size 5 i0 _ 1 1 Tryz.underlying27 hi0 hz0 hz1 hz2 rfl (by omega) v1 l.length (bvs l) rfl (ho1.alloc _) (w1.heap.size + 1) (some ⟨w1.heap.size, 0, none⟩) 4 4 _ rfl (reads_new w1 _ 5 1 4 rfl) (by simp [Value.oneCell']) (by simp only [maxLen]; omega) (by omega) (by have := hb1.size; simp; omega) ?_; intro v2 w2 hown2 hg2 hat2))
  go_ret
  have hz := hb1.size
  refine ⟨v2, rfl, ?_, (hb1.alloc hz _).grown hg2 (by simp; omega) (fun k hk => (ho1.lt k hk).1)⟩
  unfold OB
  rw [bvs_append, HL.out, List.length_append, le_len]
  exact hown2
end Go.Proofs.YtfpepdjffehbcaaGreat
