/-
  The walk of the law's spoil: it writes over rows of its caller's own. Condition: the bundle lies in rows of its own.
-/
import Derived.Test.YtfpepdjffehbcaaGreatBunSort
set_option linter.unusedVariables false
set_option linter.unusedSimpArgs false
namespace Go.Proofs.YtfpepdjffehbcaaGreat
open Go.RowKit

theorem own_any_set {w : World} {base n size : Nat} {e : TypeId} {v : Value} {xs : List Value} (h : w.ownsRow base e size v n xs) (g o : Nat) (u : Value) : ∃ ys, (w.setCell ⟨g, o, none⟩ u).ownsRow base e size v n ys := by
  obtain ⟨h1, h2⟩ := id h
  rcases h2 with ⟨rfl, rfl⟩ | ⟨g', cap, cur, rfl, -⟩
  · exact ⟨[], World.ownsRow_nil _ _ _ _⟩
  · by_cases e : g' = g
    · subst e
      exact ⟨_, own_set h o u⟩
    · exact ⟨xs, h.kept (grown_set w g o u) (.inr fun e2 => e (Option.some.inj e2))⟩
/-- A bundle's rows, whatever they hold. -/
def BunAny (W : World) (base : Nat) (l : List PStep) (vs : List Value) : Prop := vs.length = l.length ∧ ∀ (i : Nat) (b : PStep) (kv : Value), l[i]? = some b → vs[i]? = some kv → ∃ ys, W.ownsRow base 59 2 kv b.2.length ys
theorem BunOwn.any {W : World} {base : Nat} {v : Value} {l : List PStep} {vs : List Value} (h : BunOwn W base v l vs) : BunAny W base l vs := ⟨h.2.1, fun i b kv h1 h2 => ⟨_, h.2.2 i b kv h1 h2⟩⟩
theorem BunAny.on {W W' : World} {base : Nat} {l : List PStep} {vs : List Value} (h : BunAny W base l vs) (hb : Below W.heap.size W W') : BunAny W' base l vs := ⟨h.1, fun i b kv h1 h2 => by
  obtain ⟨ys, h3⟩ := h.2 i b kv h1 h2
  exact ⟨ys, own_more h3 hb⟩⟩
theorem BunAny.set {W : World} {base : Nat} {l : List PStep} {vs : List Value} (h : BunAny W base l vs) (g o : Nat) (u : Value) : BunAny (W.setCell ⟨g, o, none⟩ u) base l vs := ⟨h.1, fun i b kv h1 h2 => by
  obtain ⟨ys, h3⟩ := h.2 i b kv h1 h2
  exact own_any_set h3 g o u⟩
theorem at_two {l : List Value} {n i : Nat} (h : l.length = n * 2) (hi : i < n) : ∃ x y, l[i * 2]? = some x ∧ l[i * 2 + 1]? = some y := ⟨_, _, List.getElem?_eq_getElem (by omega), List.getElem?_eq_getElem (by omega)⟩
set_option maxHeartbeats 4000000 in
set_option maxRecDepth 100000 in
theorem spoil_any (u : Value) (r : List PStep) (us : List Value) (base : Nat) (w : World) (h : BunOwn w base u r us) (hb : base ≤ w.heap.size) (hn : r.length ≤ 100000000) (hm : ∀ b ∈ r, b.2.length ≤ 100000000) :
    Calls Tryz.prog 27 #[.agg #[u]] w fun e w' => e = .returned (.tuple #[]) ∧ Below base w w' := by
  have HO := Lib.hid h.1
  have HVL := Lib.hid h.2.1
  have HA := Lib.hid h.any
  have HM := Lib.hid hm
  obtain ⟨Au, cu, rfl, -, -, -⟩ := own_form h.1
  obtain ⟨n, hN⟩ : ∃ n, r.length = n := ⟨_, rfl⟩
  have HN := Lib.hid hN
  rw [hN] at HO hn ⊢
  clear hN h hm
  have hn2 : (n : Int) ≤ 100000000 := by omega
  have HB1 := Lib.hid ((Below.refl w.heap.size w).alloc (Nat.le_refl _) (.cells #[.slice Au n cu] 24))
  have HG1 := Lib.hid (Blk.new w 24 #[.slice Au n cu])
  have k0 : (w.alloc (.cells #[.slice Au n cu] 24)).cell? ⟨w.heap.size, 0, none⟩ = some (.slice Au n cu) := HG1.out.cell 0
  go_enter Tryz.func27, Tryz.ntmps27
  go_wp2
  clear k0
  have HS0 := Lib.hid (show Below base w (w.alloc (.cells #[.slice Au n cu] 24)) from HB1.out.mono hb)
  have HOA := Lib.hid (own_more HO.out HB1.out)
  have HAA := Lib.hid (HA.out.on HB1.out)
  clear HO HA HB1
  generalize w.alloc (.cells #[.slice Au n cu] 24) = w1 at *
  obtain ⟨g0, hg0⟩ : ∃ g0, w.heap.size = g0 := ⟨_, rfl⟩
  have HG0 := Lib.hid hg0
  rw [hg0] at HG1 hb ⊢
  clear hg0
  go_loopw [9] (fun iv W => ∃ i : Nat, iv = .int .i64 (i : Int) ∧ i ≤ n ∧ Below base w W ∧ Blk W g0 24 #[.slice Au n cu] ∧ W.ownsRow base 56 2 (.slice Au n cu) n (stepCells r us) ∧ BunAny W base r us ∧ base ≤ W.heap.size) (fun iv _ => n - (Lib.intOf iv).toNat)
  case atStart => exact ⟨0, rfl, Nat.zero_le _, HS0.out, HG1.out, HOA.out, HAA.out, by have := HG1.out.lt; omega⟩
  case round =>
    clear HS0 HG1 HOA HAA
    obtain ⟨i, rfl, hi, hB, hG, hO, hA, hZ⟩ := hrel
    have HB := Lib.hid hB
    have HG := Lib.hid hG
    have HO := Lib.hid hO
    have HA := Lib.hid hA
    clear hB hG hO hA
    by_cases hlt : i < n
    · have hq : (i : Int) < (n : Int) := by omega
      obtain ⟨⟨nm, vl⟩, hb2⟩ : ∃ b, r[i]? = some b := ⟨_, List.getElem?_eq_getElem (by rw [HN.out]; exact hlt)⟩
      obtain ⟨kv, hkv⟩ : ∃ kv, us[i]? = some kv := ⟨_, List.getElem?_eq_getElem (by rw [HVL.out, HN.out]; exact hlt)⟩
      have hat := stepCells_at r us i _ kv hb2 hkv
      obtain ⟨A', c', e', -, -, hR⟩ := own_form HO.out
      cases e'
      obtain ⟨gu, ou, rfl, hgu, hcl⟩ := hR.spot (by omega) (by omega)
      have z0 : wr.cell? ⟨gu, ou + i * 2, none⟩ = some (.string nm) := hcl _ _ hat.1
      have z1 : wr.cell? ⟨gu, ou + i * 2 + 1, none⟩ = some kv := hcl _ _ hat.2
      obtain ⟨ys, hys⟩ := HA.out.2 i _ kv hb2 hkv
      obtain ⟨Ak, ck, rfl, -, -, -⟩ := own_form hys
      have HMK := Lib.hid (HM.out _ (List.mem_of_getElem? hb2))
      have HKB := Lib.hid (And.intro hb2 hkv)
      simp only at z1 HMK HKB
      obtain ⟨mk, hmk⟩ : ∃ mk, vl.length = mk := ⟨_, rfl⟩
      have HML := Lib.hid hmk
      rw [hmk] at z1 HMK HKB
      have hmk1 : mk ≤ 100000000 := HMK.out
      have hmk2 : (mk : Int) ≤ 100000000 := by omega
      clear hb2 hkv hat hR hcl hys hmk
      have hba := (Below.refl wr.heap.size wr).alloc (Nat.le_refl _) (.cells #[.string nm, .slice Ak mk ck] 56)
      have HB2 := Lib.hid (HB.out.trans (hba.mono hZ))
      have HG2 := Lib.hid (HG.out.below hba HG.out.lt)
      have HO2 := Lib.hid (own_more HO.out hba)
      have HA2 := Lib.hid (HA.out.on hba)
      have HK2 := Lib.hid (Blk.new wr 56 #[.string nm, .slice Ak mk ck])
      have hZ2 : base ≤ (wr.alloc (.cells #[.string nm, .slice Ak mk ck] 56)).heap.size := by simp; omega
      clear HB HG HO HA hba
      go_upto_region 4 with (fail)
      generalize wr.alloc (.cells #[.string nm, .slice Ak mk ck] 56) = w4 at *
      obtain ⟨gk, hgk⟩ : ∃ gk, wr.heap.size = gk := ⟨_, rfl⟩
      rw [hgk] at HK2 hZ ⊢
      clear hgk z0 z1
      have y1 : w4.cell? ⟨gk, 1, none⟩ = some (.slice Ak mk ck) := HK2.out.cell 1
      go_wp2
      clear y1
      go_loopw [16] (fun jv W => ∃ j : Nat, jv = .int .i64 (j : Int) ∧ j ≤ mk ∧ Below base w W ∧ Blk W g0 24 #[.slice (some ⟨gu, ou, none⟩) n cu] ∧ W.ownsRow base 56 2 (.slice (some ⟨gu, ou, none⟩) n cu) n (stepCells r us) ∧ BunAny W base r us ∧ base ≤ W.heap.size ∧ Blk W gk 56 #[.string nm, .slice Ak mk ck]) (fun jv _ => mk - (Lib.intOf jv).toNat)
      case atStart => exact ⟨0, rfl, Nat.zero_le _, HB2.out, HG2.out, HO2.out, HA2.out, hZ2, HK2.out⟩
      case round =>
        clear HB2 HG2 HO2 HA2 HK2 hZ2
        obtain ⟨j, rfl, hj, hB, hG, hO, hA, hZ3, hK⟩ := hrel
        have HB := Lib.hid hB
        have HG := Lib.hid hG
        have HO := Lib.hid hO
        have HA := Lib.hid hA
        have HK := Lib.hid hK
        clear hB hG hO hA hK
        by_cases hjm : j < mk
        · have hq2 : (j : Int) < (mk : Int) := by omega
          have y1 : wr.cell? ⟨gk, 1, none⟩ = some (.slice Ak mk ck) := HK.out.cell 1
          obtain ⟨ys, hys⟩ := HA.out.2 i _ _ HKB.out.1 HKB.out.2
          simp only at hys
          rw [HML.out] at hys
          have hyl : ys.length = mk * 2 := hys.1
          obtain ⟨gv, cv, e1, hgv, -⟩ := own_head hys (by omega) hyl
          cases e1
          obtain ⟨x, y, hx, hy⟩ := at_two hyl hjm
          have q0 : wr.cell? ⟨gv, j * 2, none⟩ = some x := own_cell hys _ _ hx
          have q1 : wr.cell? ⟨gv, j * 2 + 1, none⟩ = some y := own_cell hys _ _ hy
          have q2 : wr.frozen? ⟨gv, j * 2, none⟩ = false := own_free hys _
          have q3 : wr.frozen? ⟨gv, j * 2 + 1, none⟩ = false := own_free hys _
          have HY := Lib.hid hys
          clear hys hyl hx hy
          go_wp2
          go_roundw
          case rel =>
            have s1 := grown_set wr gv (j * 2) (.string ⟨#[33]⟩)
            have o1 := own_set HY.out (j * 2) (.string ⟨#[33]⟩)
            have s2 := grown_set (wr.setCell ⟨gv, j * 2, none⟩ (.string ⟨#[33]⟩)) gv (j * 2 + 1) (.string ⟨#[]⟩)
            exact ⟨j + 1, by go_num, hjm, (HB.out.setCell (by simpa using hgv) _).setCell (by simpa using hgv) _, blk_stays (blk_stays HG.out HY.out (by decide) s1) o1 (by decide) s2, own_stays (own_stays HO.out HY.out (by decide) s1) o1 (by decide) s2, (HA.out.set _ _ _).set _ _ _, by simpa [World.setCell] using hZ3, blk_stays (blk_stays HK.out HY.out (by decide) s1) o1 (by decide) s2⟩
          case measure => simp [Lib.intOf]; omega
        · obtain rfl : mk = j := by omega
          have hq2 : ¬ (mk : Int) < (mk : Int) := by omega
          go_wp2
          go_roundw
          case rel => exact ⟨i + 1, by go_num, hlt, HB.out, HG.out, HO.out, HA.out, hZ3⟩
          case measure => simp [Lib.intOf]; omega
    · obtain rfl : i = n := by omega
      have hq : ¬ (i : Int) < (i : Int) := by omega
      have k0 : wr.cell? ⟨g0, 0, none⟩ = some (.slice Au i cu) := HG.out.cell 0
      go_wp2
      clear k0
      go_loopw [29] (fun jv W => ∃ (j : Nat) (zs : List Value), jv = .int .i64 (j : Int) ∧ j ≤ i ∧ Below base w W ∧ Blk W g0 24 #[.slice Au i cu] ∧ W.ownsRow base 56 2 (.slice Au i cu) i zs ∧ base ≤ W.heap.size) (fun jv _ => i - (Lib.intOf jv).toNat)
      case atStart => exact ⟨0, _, rfl, Nat.zero_le _, HB.out, HG.out, HO.out, hZ⟩
      case round =>
        clear HB HG HO HA hZ
        obtain ⟨j, zs, rfl, hj, hB, hG, hO, hZ3⟩ := hrel
        have HB := Lib.hid hB
        have HG := Lib.hid hG
        clear hB hG
        by_cases hjm : j < i
        · have hq2 : (j : Int) < (i : Int) := by omega
          have hyl : zs.length = i * 2 := hO.1
          obtain ⟨gv, cv, e1, hgv, -⟩ := own_head hO (by omega) hyl
          cases e1
          have k0 : wr.cell? ⟨g0, 0, none⟩ = some (.slice (some ⟨gv, 0, none⟩) i cu) := HG.out.cell 0
          obtain ⟨x, y, hx, hy⟩ := at_two hyl hjm
          have q0 : wr.cell? ⟨gv, j * 2, none⟩ = some x := own_cell hO _ _ hx
          have q2 : wr.frozen? ⟨gv, j * 2, none⟩ = false := own_free hO _
          have HO := Lib.hid hO
          clear hO hyl hx hy
          go_wp2
          go_roundw
          case rel => exact ⟨j + 1, _, by go_num, hjm, HB.out.setCell (by simpa using hgv) _, blk_stays HG.out HO.out (by decide) (grown_set wr gv (j * 2) _), own_set HO.out _ _, by simpa [World.setCell] using hZ3⟩
          case measure => simp [Lib.intOf]; omega
        · obtain rfl : i = j := by omega
          have hq2 : ¬ (i : Int) < (i : Int) := by omega
          go_wp2
          exact bodyPost_end (results_none Tryz.results27 _ _ _) rfl ⟨rfl, HB.out⟩
end Go.Proofs.YtfpepdjffehbcaaGreat
