/-
  The walk of pool.Diff. Condition: the tables are within the reach.
-/
import Derived.Test.YtagekiaejhjpnaaPoolSeek
import Derived.Test.YtagekiaejhjpnaaAppend
import Derived.Test.YtagekiaejhjpnaaPoolCmp
import Derived.Test.YtagekiaejhjpnaaTabLaw
import Derived.Test.YtagekiaejhjpnaaPoolRows
namespace Go.Proofs.Ytagekiaejhjpnaa
open Go.RowKit

theorem seek_mem {a : List RowI} {r : RowI} {v e : Int} (hr : RiseL kl a) (h : SeekT a r.1 v e) : (e = 0 ∧ v = r.2) ↔ r ∈ a := by
  rcases h with ⟨h, -⟩ | ⟨-, h, -, he⟩ | ⟨-, he, h⟩
  · exact absurd hr h
  · exact ⟨fun ⟨h1, _⟩ => by omega, fun hm => absurd rfl (h r hm)⟩
  · exact ⟨fun ⟨_, h2⟩ => by rw [h2] at h; exact h, fun hm => ⟨he, by have := kl_inj hr h hm rfl; rw [← this]⟩⟩
def diffF (a l : List RowI) : List RowI := l.filter fun r => decide (r ∉ a)
def diffL (a b : List RowI) : List RowI := if RiseL kl a ∧ RiseL kl b then diffF a b else []
theorem diff_snoc {a l : List RowI} {p : Nat} {r : RowI} (h : l[p]? = some r) : diffF a (l.take (p + 1)) = if r ∈ a then diffF a (l.take p) else diffF a (l.take p) ++ [r] := by
  unfold diffF
  rw [List.take_add_one, h, List.filter_append]
  by_cases hm : r ∈ a <;> simp [hm]
theorem diff_len (a l : List RowI) : (diffF a l).length ≤ l.length := List.length_filter_le _ _
def DiffPost (a b : List RowI) (w : World) (e : Ending) (w' : World) : Prop := (∃ v, e = .returned v ∧ w'.ownsRow w.heap.size 38 2 v (diffL a b).length (rowCells (diffL a b))) ∧ Below w.heap.size w w'
set_option maxRecDepth 100000 in
set_option maxHeartbeats 8000000 in
theorem diff_any (va vb : Value) (a b : List RowI) (w : World) (ha : RowsR w w.heap.size va a) (hb : RowsR w w.heap.size vb b) (hla : a.length * 8 ≤ 140737488351232) (hlb : b.length * 8 ≤ 140737488351232) :
    Calls Try.prog 17 #[va, vb] w (DiffPost a b w) := by
  have HTA := Lib.hid ha
  have HTB := Lib.hid hb
  obtain ⟨A, ca, rfl, hca, hma, hra⟩ := ha
  obtain ⟨B, cb, rfl, hcb, hmb, hrb⟩ := hb
  have HRB := Lib.hid hrb
  unfold maxLen at hma hmb
  have hna : (a.length : Int) ≤ 17592186043904 := by omega
  have hnb : (b.length : Int) ≤ 17592186043904 := by omega
  have HIA := Lib.hid (istable_any _ a w HTA.out)
  have HIB := Lib.hid (fun q => istable_any _ b (w.drewN q) HTB.out)
  clear hra hrb hca hcb
  by_cases hra : RiseL kl a
  · have hda : decide (RiseL kl a) = true := by simpa using hra
    rw [hda] at HIA
    by_cases hrb : RiseL kl b
    · have hdb : decide (RiseL kl b) = true := by simpa using hrb
      rw [hdb] at HIB
      have HDL := Lib.hid (show diffL a b = diffF a b by unfold diffL; rw [if_pos ⟨hra, hrb⟩])
      have HRI := Lib.hid hra
      obtain ⟨i0, hi0, hz0, hz1, hz2⟩ := info_parts row_info
      clear hra hrb hda hdb
      go_enter Try.func17, Try.ntmps17
      go_wp2_with (first
        | (go_at_call_of 27 (#[Value.slice A a.length ca]); go_loud (refine HIA.out.mono ?_; rintro e w1 ⟨v1, q, rfl, rfl, rfl⟩))
        | (go_at_call 27; go_loud (refine (HIB.out _).mono ?_; rintro e w1 ⟨v1, q, rfl, rfl, rfl⟩)))
      go_loopw [5, 20] (fun ov iv wr => ∃ p : Nat, iv = .int .i64 (p : Int) ∧ p ≤ b.length ∧ wr.ownsRow w.heap.size 38 2 ov (diffF a (b.take p)).length (rowCells (diffF a (b.take p))) ∧ Below w.heap.size w wr) (fun _ iv _ => b.length - (Lib.intOf iv).toNat)
      case atStart => exact ⟨0, rfl, Nat.zero_le _, World.ownsRow_nil _ _ _ _, below_drewN (Below.refl _ _) _⟩
      case round =>
        obtain ⟨p, rfl, hp, hO, hB⟩ := hrel
        have HO := Lib.hid hO
        have HB := Lib.hid hB
        clear hO hB
        by_cases hlt : p < b.length
        · obtain ⟨x, hx⟩ := at_lt hlt
          have hq : (p : Int) < (b.length : Int) := by omega
          obtain ⟨b1, o1, rfl, hb1, hcl1⟩ := (HRB.out.below HB.out).spot (by omega) (by omega)
          have r0 := hcl1 _ _ (rowCells_at hx).1
          have r1 : wr.cell? ⟨b1, o1 + p * 2 + 1, none⟩ = some (.int .u32 x.2) := hcl1 _ _ (rowCells_at hx).2
          have HX := Lib.hid hx
          have hdl : (diffF a (b.take p)).length ≤ p := Nat.le_trans (diff_len _ _) (List.length_take_le _ _)
          have HSK := Lib.hid (pseek_any _ a x.1 (wr.alloc (.cells #[.int .u32 x.1, .int .u32 x.2] 38)) (HTA.out.on (HB.out.alloc HB.out.size _)) (by omega))
          have HN2 := Lib.hid (new_two wr 38 (.int .u32 x.1) (.int .u32 x.2))
          clear hcl1 hx
          go_upto_region 8 with (go_at_call 26; go_loud (refine HSK.out.mono ?_; rintro en w2 ⟨⟨k, e, rfl, hS⟩, hb2⟩; have HS := Lib.hid (seek_mem HRI.out hS); have k0 : w2.cell? ⟨wr.heap.size, 0, none⟩ = some (.int .u32 x.1) := (hb2.cell (p := ⟨wr.heap.size, 0, none⟩) (by simp)).trans HN2.out.1; have k1 : w2.cell? ⟨wr.heap.size, 1, none⟩ = some (.int .u32 x.2) := (hb2.cell (p := ⟨wr.heap.size, 1, none⟩) (by simp)).trans HN2.out.2; have HO2 := Lib.hid (own_more (HO.out.alloc (.cells #[.int .u32 x.1, .int .u32 x.2] 38)) hb2); have HB2 := Lib.hid (show Below w.heap.size w w2 from (HB.out.alloc HB.out.size _).trans (hb2.mono (by have := HB.out.size; simp; omega))); clear hS hb2))
          by_cases hm : x ∈ a
          · obtain ⟨rfl, rfl⟩ := HS.out.2 hm
            have HM := Lib.hid hm
            have hb : (x.2 == x.2) = true := by simp
            clear hm
            go_wp2
            go_roundw
            case rel =>
              refine ⟨p + 1, by go_num, hlt, ?_, HB2.out⟩
              rw [diff_snoc HX.out, if_pos HM.out]
              exact HO2.out
            case measure => simp [Lib.intOf]; omega
          · have HM := Lib.hid hm
            by_cases he : e = 0
            · have hk : ¬ k = x.2 := fun h => hm (HS.out.1 ⟨he, h⟩)
              have hk2 : (k == x.2) = false := by simpa using hk
              subst he
              clear hm hk
              have HA := Lib.hid (And.intro (HO2.out.alloc (.cells #[.int .u32 x.1, .int .u32 x.2] 38)) (And.intro (reads_new w2 #[.int .u32 x.1, .int .u32 x.2] 38 2 1 rfl) (show w.heap.size ≤ (w2.alloc (.cells #[.int .u32 x.1, .int .u32 x.2] 38)).heap.size by have := HB2.out.size; simp; omega)))
              go_wp2_with (at_builtin; go_loud (refine wpList_append_any _ rfl (.tmp 39) (.tmp 41) _ rfl w.heap.size 38 i0 _ 2 8 Try.underlying33 hi0 hz0 hz1 hz2 rfl (by omega) _ (diffF a (b.take p)).length (rowCells (diffF a (b.take p))) rfl HA.out.1 (w2.heap.size + 1) (some ⟨w2.heap.size, 0, none⟩) 1 1 [.int .u32 x.1, .int .u32 x.2] rfl HA.out.2.1 (by simp [Value.oneCell']) (by simp only [maxLen]; omega) (by omega) HA.out.2.2 ?_); intro v3 w3 hown3 hg3 hat3; have HOW := Lib.hid hown3; have HG := Lib.hid hg3; clear hown3 hg3 hat3)
              go_roundw
              case rel =>
                refine ⟨p + 1, by go_num, hlt, ?_, (HB2.out.alloc HB2.out.size _).grown HG.out HA.out.2.2 (fun k hk => (HO2.out.lt k hk).1)⟩
                rw [diff_snoc HX.out, if_neg HM.out, List.length_append, rowCells_append]
                exact HOW.out
              case measure => simp [Lib.intOf]; omega
            · have he2 : (e == 0) = false := by simpa using he
              clear hm
              have HA := Lib.hid (And.intro (HO2.out.alloc (.cells #[.int .u32 x.1, .int .u32 x.2] 38)) (And.intro (reads_new w2 #[.int .u32 x.1, .int .u32 x.2] 38 2 1 rfl) (show w.heap.size ≤ (w2.alloc (.cells #[.int .u32 x.1, .int .u32 x.2] 38)).heap.size by have := HB2.out.size; simp; omega)))
              go_wp2_with (at_builtin; go_loud (refine wpList_append_any _ rfl (.tmp 39) (.tmp 41) _ rfl w.heap.size 38 i0 _ 2 8 Try.underlying33 hi0 hz0 hz1 hz2 rfl (by omega) _ (diffF a (b.take p)).length (rowCells (diffF a (b.take p))) rfl HA.out.1 (w2.heap.size + 1) (some ⟨w2.heap.size, 0, none⟩) 1 1 [.int .u32 x.1, .int .u32 x.2] rfl HA.out.2.1 (by simp [Value.oneCell']) (by simp only [maxLen]; omega) (by omega) HA.out.2.2 ?_); intro v3 w3 hown3 hg3 hat3; have HOW := Lib.hid hown3; have HG := Lib.hid hg3; clear hown3 hg3 hat3)
              go_roundw
              case rel =>
                refine ⟨p + 1, by go_num, hlt, ?_, (HB2.out.alloc HB2.out.size _).grown HG.out HA.out.2.2 (fun k hk => (HO2.out.lt k hk).1)⟩
                rw [diff_snoc HX.out, if_neg HM.out, List.length_append, rowCells_append]
                exact HOW.out
              case measure => simp [Lib.intOf]; omega
        · obtain rfl : p = b.length := by omega
          have hq : ¬ (b.length : Int) < (b.length : Int) := by omega
          rw [List.take_length] at HO
          go_wp2
          go_ret
          exact ⟨⟨_, rfl, by rw [HDL.out]; exact HO.out⟩, HB.out⟩
    · have hdb : decide (RiseL kl b) = false := by simpa using hrb
      rw [hdb] at HIB
      have HDL := Lib.hid (show diffL a b = [] by unfold diffL; rw [if_neg (fun h => hrb h.2)])
      clear hra hrb hda hdb
      go_enter Try.func17, Try.ntmps17
      go_wp2_with (first
        | (go_at_call_of 27 (#[Value.slice A a.length ca]); go_loud (refine HIA.out.mono ?_; rintro e w1 ⟨v1, q, rfl, rfl, rfl⟩))
        | (go_at_call 27; go_loud (refine (HIB.out _).mono ?_; rintro e w1 ⟨v1, q, rfl, rfl, rfl⟩)))
      go_ret
      exact ⟨⟨_, rfl, by rw [HDL.out]; exact World.ownsRow_nil _ _ _ _⟩, below_drewN (Below.refl _ _) _⟩
  · have hda : decide (RiseL kl a) = false := by simpa using hra
    rw [hda] at HIA
    have HDL := Lib.hid (show diffL a b = [] by unfold diffL; rw [if_neg (fun h => hra h.1)])
    clear hra hda
    go_enter Try.func17, Try.ntmps17
    go_wp2_with (go_at_call 27; go_loud (refine HIA.out.mono ?_; rintro e w1 ⟨v1, q, rfl, rfl, rfl⟩))
    go_ret
    exact ⟨⟨_, rfl, by rw [HDL.out]; exact World.ownsRow_nil _ _ _ _⟩, below_drewN (Below.refl _ _) _⟩
end Go.Proofs.Ytagekiaejhjpnaa
