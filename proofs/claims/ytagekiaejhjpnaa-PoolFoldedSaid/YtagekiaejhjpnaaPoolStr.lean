/-
  The walks of what looks at lists of texts (does a list rise; where does a text stand; are two lists alike). Condition: the lists are within the reach.
-/
import Derived.Test.YtagekiaejhjpnaaProg
import Derived.Lib.Hide
import Derived.Test.YtagekiaejhjpnaaRiseLaw
import Derived.Test.YtagekiaejhjpnaaBlocks
import Derived.Shelf.SlSorted.Search
import Derived.Deep.QuietTactic
import Derived.BigQuiet
import Derived.Deep.RegionHeld3
import Derived.WalkKit
import Derived.Outline
import Derived.LoopTactic
import Derived.Deep.DeepCutAuto
namespace Go.Proofs.Ytagekiaejhjpnaa
open Go.RowKit

/-- A list of texts, read. -/
def Txts (w : World) (B : Nat) (v : Value) (l : List ByteArray) : Prop := ∃ A c, v = .slice A l.length c ∧ l.length ≤ c ∧ c ≤ maxLen ∧ Reads w B 1 A l.length (l.map Value.string)
theorem Txts.below {w w' : World} {B : Nat} {v : Value} {l : List ByteArray} (h : Txts w B v l) (hb : Below B w w') : Txts w' B v l := by
  obtain ⟨A, c, e, h1, h2, h3⟩ := h
  exact ⟨A, c, e, h1, h2, h3.below hb⟩
theorem Txts.more {w : World} {B B' : Nat} {v : Value} {l : List ByteArray} (h : Txts w B v l) (hB : B ≤ B') : Txts w B' v l := by
  obtain ⟨A, c, e, h1, h2, h3⟩ := h
  exact ⟨A, c, e, h1, h2, Reads.more h3 hB⟩
theorem Txts.on {w w' : World} {v : Value} {l : List ByteArray} (h : Txts w w.heap.size v l) (hb : Below w.heap.size w w') : Txts w' w'.heap.size v l := (h.below hb).more hb.size
theorem txts_of_own {w : World} {base : Nat} {e : TypeId} {v : Value} {l : List ByteArray} (h : w.ownsRow base e 1 v l.length (l.map Value.string)) : Txts w w.heap.size v l := own_form h
theorem str_at {l : List ByteArray} {i : Nat} {x : ByteArray} (h : l[i]? = some x) : (l.map Value.string)[i]? = some (.string x) := by simp [h]
theorem ba_eqT {a b : ByteArray} (h : a.toList = b.toList) : a = b := by
  rw [Lib.toList_data, Lib.toList_data] at h
  obtain ⟨⟨x⟩⟩ := a
  obtain ⟨⟨y⟩⟩ := b
  simp only at h
  rw [h]
theorem at_lt {α : Type} {l : List α} {p : Nat} (h : p < l.length) : ∃ x, l[p]? = some x := ⟨l[p], by simp [h]⟩
/-- What the document's At tells. -/
def AtIs (l : List ByteArray) (s : ByteArray) (r : Int) : Prop := (∃ i : Nat, r = (i : Int) ∧ l[i]? = some s ∧ ∀ j, j < i → l[j]? ≠ some s) ∨ (r = -1 ∧ s ∉ l)
def QPost (P : Value → Prop) (w : World) (e : Ending) (w' : World) : Prop := ∃ v q, e = .returned v ∧ P v ∧ w' = w.drewN q

set_option maxHeartbeats 2000000 in
theorem ispool_any (v : Value) (l : List ByteArray) (w : World) (h : Txts w w.heap.size v l) :
    Calls Try.prog 15 #[v] w (QPost (fun r => r = .bool (decide (RiseL bl l))) w) := by
  obtain ⟨A, c, rfl, hc, hm, hR⟩ := h
  have HR := Lib.hid hR
  unfold maxLen at hm
  clear hR
  generalize hn : l.length = n at *
  have HN := Lib.hid hn
  have hn1 : (n : Int) ≤ 9223372036854775807 := by omega
  clear hn hc
  go_enter Try.func15, Try.ntmps15
  go_wp2
  go_loopw [3] (fun iv wr => ∃ p q : Nat, iv = .int .i64 ((p : Int) + 1) ∧ p ≤ n ∧ (∀ (j : Nat) (x y : ByteArray), j < p → l[j]? = some x → l[j + 1]? = some y → bl x y = true) ∧ wr = w.drewN q) (fun iv _ => (n + 2) - (Lib.intOf iv).toNat)
  case atStart => exact ⟨0, 0, rfl, Nat.zero_le _, fun j x y h => absurd h (by omega), rfl⟩
  case round =>
    obtain ⟨p, q, rfl, hp, hT, rfl⟩ := hrel
    have HT := Lib.hid hT
    clear hT
    by_cases hlt : p + 1 < n
    · obtain ⟨x, hx⟩ := at_lt (l := l) (p := p) (by have := HN.out; omega)
      obtain ⟨y, hy⟩ := at_lt (l := l) (p := p + 1) (by have := HN.out; omega)
      have hq : (p : Int) + 1 < (n : Int) := by omega
      obtain ⟨b1, o1, rfl, hb1, hcl1⟩ := HR.out.spot (by omega) (by omega)
      have r0 := hcl1 _ _ (str_at hx)
      have r1 : w.cell? ⟨b1, o1 + (p + 1), none⟩ = some (.string y) := hcl1 _ _ (str_at hy)
      have hs1 : IntKind.i64.wrap ((p : Int) + 1 - 1) = (p : Int) := by rw [IntKind.wrap_i64]; omega
      have hs2 : ((p : Int) + 1).toNat = p + 1 := by omega
      have hs3 : (0 : Int) ≤ (p : Int) + 1 := by omega
      have hs4 : (p : Int) < (n : Int) := by omega
      have HX := Lib.hid (And.intro hx hy)
      clear hcl1 hx hy
      cases hb : Op.bytesLess x.toList y.toList
      · have HNR := Lib.hid (show decide (RiseL bl l) = false by
          rw [decide_eq_false_iff_not]
          intro hr
          have := rise_at hr HX.out.1 HX.out.2 (by omega)
          unfold bl at this
          rw [hb] at this
          cases this)
        go_upto_region 5 with (fail)
        go_quiet (fail)
        go_wp2
        go_ret
        exact ⟨_, q + nq, rfl, (show Value.bool false = _ from congrArg Value.bool HNR.out.symm), by rw [World.drewN_drewN]⟩
      · have HB := Lib.hid hb
        go_upto_region 5 with (fail)
        go_quiet (fail)
        go_wp2
        go_roundw
        case rel =>
          refine ⟨p + 1, q + nq, by go_num, by omega, fun j a b hj ha hb => ?_, rfl⟩
          rcases Nat.lt_or_ge j p with h | h
          · exact HT.out j a b h ha hb
          · obtain rfl : j = p := by omega
            rw [HX.out.1] at ha
            rw [HX.out.2] at hb
            cases ha
            cases hb
            exact HB.out
        case measure => simp [Lib.intOf]; omega
    · have hq : ¬ (p : Int) + 1 < (n : Int) := by omega
      have HYR := Lib.hid (show decide (RiseL bl l) = true by
        rw [decide_eq_true_iff]
        refine rise_of_adj blT.tr l fun j x y hx hy => ?_
        have := (List.getElem?_eq_some_iff.1 hy).1
        have := HN.out
        exact HT.out j x y (by omega) hx hy)
      go_wp2
      go_ret
      exact ⟨_, _, rfl, (show Value.bool true = _ from congrArg Value.bool HYR.out.symm), rfl⟩

set_option maxHeartbeats 2000000 in
theorem rising_any (v : Value) (l : List ByteArray) (w : World) (h : Txts w w.heap.size v l) :
    Calls Try.prog 16 #[v] w (QPost (fun r => r = .bool (decide (RiseL bl l))) w) := by
  obtain ⟨A, c, rfl, hc, hm, hR⟩ := h
  have HR := Lib.hid hR
  unfold maxLen at hm
  clear hR
  generalize hn : l.length = n at *
  have HN := Lib.hid hn
  have hn1 : (n : Int) ≤ 9223372036854775807 := by omega
  clear hn hc
  go_enter Try.func16, Try.ntmps16
  go_wp2
  go_loopw [3] (fun iv wr => ∃ p q : Nat, iv = .int .i64 ((p : Int) + 1) ∧ p ≤ n ∧ (∀ (j : Nat) (x y : ByteArray), j < p → l[j]? = some x → l[j + 1]? = some y → bl x y = true) ∧ wr = w.drewN q) (fun iv _ => (n + 2) - (Lib.intOf iv).toNat)
  case atStart => exact ⟨0, 0, rfl, Nat.zero_le _, fun j x y h => absurd h (by omega), rfl⟩
  case round =>
    obtain ⟨p, q, rfl, hp, hT, rfl⟩ := hrel
    have HT := Lib.hid hT
    clear hT
    by_cases hlt : p + 1 < n
    · obtain ⟨x, hx⟩ := at_lt (l := l) (p := p) (by have := HN.out; omega)
      obtain ⟨y, hy⟩ := at_lt (l := l) (p := p + 1) (by have := HN.out; omega)
      have hq : (p : Int) + 1 < (n : Int) := by omega
      obtain ⟨b1, o1, rfl, hb1, hcl1⟩ := HR.out.spot (by omega) (by omega)
      have r0 := hcl1 _ _ (str_at hx)
      have r1 : w.cell? ⟨b1, o1 + (p + 1), none⟩ = some (.string y) := hcl1 _ _ (str_at hy)
      have hs1 : IntKind.i64.wrap ((p : Int) + 1 - 1) = (p : Int) := by rw [IntKind.wrap_i64]; omega
      have hs2 : ((p : Int) + 1).toNat = p + 1 := by omega
      have hs3 : (0 : Int) ≤ (p : Int) + 1 := by omega
      have hs4 : (p : Int) < (n : Int) := by omega
      have HX := Lib.hid (And.intro hx hy)
      clear hcl1 hx hy
      cases hb : Op.bytesLess x.toList y.toList
      · have HNR := Lib.hid (show decide (RiseL bl l) = false by
          rw [decide_eq_false_iff_not]
          intro hr
          have := rise_at hr HX.out.1 HX.out.2 (by omega)
          unfold bl at this
          rw [hb] at this
          cases this)
        go_upto_region 5 with (fail)
        go_quiet (fail)
        go_wp2
        go_ret
        exact ⟨_, q + nq, rfl, (show Value.bool false = _ from congrArg Value.bool HNR.out.symm), by rw [World.drewN_drewN]⟩
      · have HB := Lib.hid hb
        go_upto_region 5 with (fail)
        go_quiet (fail)
        go_wp2
        go_roundw
        case rel =>
          refine ⟨p + 1, q + nq, by go_num, by omega, fun j a b hj ha hb => ?_, rfl⟩
          rcases Nat.lt_or_ge j p with h | h
          · exact HT.out j a b h ha hb
          · obtain rfl : j = p := by omega
            rw [HX.out.1] at ha
            rw [HX.out.2] at hb
            cases ha
            cases hb
            exact HB.out
        case measure => simp [Lib.intOf]; omega
    · have hq : ¬ (p : Int) + 1 < (n : Int) := by omega
      have HYR := Lib.hid (show decide (RiseL bl l) = true by
        rw [decide_eq_true_iff]
        refine rise_of_adj blT.tr l fun j x y hx hy => ?_
        have := (List.getElem?_eq_some_iff.1 hy).1
        have := HN.out
        exact HT.out j x y (by omega) hx hy)
      go_wp2
      go_ret
      exact ⟨_, _, rfl, (show Value.bool true = _ from congrArg Value.bool HYR.out.symm), rfl⟩

set_option maxHeartbeats 2000000 in
theorem refat_any (v : Value) (l : List ByteArray) (s : ByteArray) (w : World) (h : Txts w w.heap.size v l) :
    Calls Try.prog 12 #[v, .string s] w (QPost (fun r => ∃ k, r = .int .i64 k ∧ AtIs l s k) w) := by
  obtain ⟨A, c, rfl, hc, hm, hR⟩ := h
  have HR := Lib.hid hR
  unfold maxLen at hm
  clear hR
  generalize hn : l.length = n at *
  have HN := Lib.hid hn
  have hn1 : (n : Int) ≤ 9223372036854775807 := by omega
  clear hn hc
  go_enter Try.func12, Try.ntmps12
  go_wp2
  go_loop [5] (fun iv => ∃ p : Nat, iv = .int .i64 (p : Int) ∧ p ≤ n ∧ (∀ j, j < p → l[j]? ≠ some s)) (fun iv => n - (Lib.intOf iv).toNat)
  case atStart => exact ⟨0, rfl, Nat.zero_le _, fun j h => absurd h (by omega)⟩
  case round =>
    obtain ⟨p, rfl, hp, hT⟩ := hrel
    have HT := Lib.hid hT
    clear hT
    by_cases hlt : p < n
    · obtain ⟨x, hx⟩ := at_lt (l := l) (p := p) (by have := HN.out; omega)
      have hq : (p : Int) < (n : Int) := by omega
      obtain ⟨b1, o1, rfl, hb1, hcl1⟩ := HR.out.spot (by omega) (by omega)
      have r0 := hcl1 _ _ (str_at hx)
      have HX := Lib.hid hx
      clear hcl1 hx
      by_cases he : x.toList = s.toList
      · have hE := ba_eqT he
        have HE := Lib.hid (show l[p]? = some s by rw [HX.out, hE])
        clear hE
        go_wp2
        go_ret
        exact ⟨_, 0, rfl, ⟨_, rfl, .inl ⟨p, rfl, HE.out, HT.out⟩⟩, rfl⟩
      · have hb : (x.toList == s.toList) = false := by simpa using he
        have HE := Lib.hid (show l[p]? ≠ some s by rw [HX.out]; intro e; injection e with e; exact he (by rw [e]))
        go_wp2
        go_round
        case rel =>
          refine ⟨p + 1, by go_num, by omega, fun j hj => ?_⟩
          rcases Nat.lt_or_ge j p with h | h
          · exact HT.out j h
          · obtain rfl : j = p := by omega
            exact HE.out
        case measure => simp [Lib.intOf]; omega
    · have hq : ¬ (p : Int) < (n : Int) := by omega
      have HNI := Lib.hid (show s ∉ l from fun hs => by
        obtain ⟨j, hj, e⟩ := List.mem_iff_getElem.1 hs
        exact HT.out j (by have := HN.out; omega) (by simp [hj, e]))
      go_wp2
      go_ret
      exact ⟨_, 0, rfl, ⟨_, rfl, .inr ⟨rfl, HNI.out⟩⟩, rfl⟩

set_option maxHeartbeats 2000000 in
theorem same_any (v1 v2 : Value) (l m : List ByteArray) (w : World) (h1 : Txts w w.heap.size v1 l) (h2 : Txts w w.heap.size v2 m) :
    Calls Try.prog 14 #[v1, v2] w (QPost (fun r => r = .bool (decide (l = m))) w) := by
  obtain ⟨A1, c1, rfl, hc1, hm1, hR1⟩ := h1
  obtain ⟨A2, c2, rfl, hc2, hm2, hR2⟩ := h2
  have HR1 := Lib.hid hR1
  have HR2 := Lib.hid hR2
  unfold maxLen at hm1 hm2
  clear hR1 hR2
  by_cases hlen : l.length = m.length
  · have HLEN := Lib.hid hlen
    rw [← hlen]
    generalize hn : l.length = n at *
    have HN := Lib.hid hn
    have hn1 : (n : Int) ≤ 9223372036854775807 := by omega
    clear hlen hn hc1 hc2 hm1 hm2
    go_enter Try.func14, Try.ntmps14
    go_wp2
    go_loopw [13] (fun iv wr => ∃ p q : Nat, iv = .int .i64 (p : Int) ∧ p ≤ n ∧ l.take p = m.take p ∧ wr = w.drewN q) (fun iv _ => n - (Lib.intOf iv).toNat)
    case atStart => exact ⟨0, 0, rfl, Nat.zero_le _, by simp, rfl⟩
    case round =>
      obtain ⟨p, q, rfl, hp, hT, rfl⟩ := hrel
      have HT := Lib.hid hT
      clear hT
      by_cases hlt : p < n
      · obtain ⟨x, hx⟩ := at_lt (l := l) (p := p) (by have := HN.out; omega)
        obtain ⟨y, hy⟩ := at_lt (l := m) (p := p) (by have := HLEN.out; omega)
        have hq : (p : Int) < (n : Int) := by omega
        obtain ⟨b1, o1, rfl, hb1, hcl1⟩ := HR1.out.spot (by omega) (by omega)
        obtain ⟨b2, o2, rfl, hb2, hcl2⟩ := HR2.out.spot (by have := HLEN.out; omega) (by omega)
        have r0 := hcl1 _ _ (str_at hx)
        have r1 := hcl2 _ _ (str_at hy)
        have HX := Lib.hid (And.intro hx hy)
        clear hcl1 hcl2 hx hy
        by_cases he : x.toList = y.toList
        · have hE := ba_eqT he
          subst hE
          clear he
          go_upto_region 7 with (fail)
          go_quiet (fail)
          go_wp2
          go_roundw
          case rel => exact ⟨p + 1, q + nq, by go_num, hlt, by rw [List.take_add_one, List.take_add_one, HT.out, HX.out.1, HX.out.2], rfl⟩
          case measure => simp [Lib.intOf]; omega
        · have hb : (x.toList == y.toList) = false := by simpa using he
          have HNE := Lib.hid (show decide (l = m) = false by
            rw [decide_eq_false_iff_not]
            rintro rfl
            have h := HX.out
            rw [h.1] at h
            exact he (by rw [Option.some.inj h.2]))
          go_upto_region 7 with (fail)
          go_quiet (fail)
          go_wp2
          go_ret
          exact ⟨_, q + nq, rfl, (show Value.bool false = _ from congrArg Value.bool HNE.out.symm), by rw [World.drewN_drewN]⟩
      · obtain rfl : p = n := by omega
        have hq : ¬ (p : Int) < (p : Int) := by omega
        have HEQ := Lib.hid (show decide (l = m) = true by
          rw [decide_eq_true_iff]
          have hT := HT.out
          rwa [List.take_of_length_le (by have := HN.out; omega), List.take_of_length_le (by have := HLEN.out; omega)] at hT)
        go_wp2
        go_ret
        exact ⟨_, _, rfl, (show Value.bool true = _ from congrArg Value.bool HEQ.out.symm), rfl⟩
  · have HNE := Lib.hid (show decide (l = m) = false by
      rw [decide_eq_false_iff_not]
      rintro rfl
      exact hlen rfl)
    have hne : ((l.length : Int) == (m.length : Int)) = false := by rw [beq_eq_false_iff_ne]; omega
    have hne2 : ¬ (l.length : Int) = (m.length : Int) := by omega
    clear hlen
    go_enter Try.func14, Try.ntmps14
    go_wp2
    go_ret
    exact ⟨_, 0, rfl, (show Value.bool false = _ from congrArg Value.bool HNE.out.symm), rfl⟩
end Go.Proofs.Ytagekiaejhjpnaa
