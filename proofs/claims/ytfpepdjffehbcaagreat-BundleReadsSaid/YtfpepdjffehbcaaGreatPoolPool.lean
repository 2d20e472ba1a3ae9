/-
  The walks of what looks at lists of texts (does a list rise; where does a text stand; are two lists alike). Condition: the lists are within the reach.
-/
import Derived.Test.YtfpepdjffehbcaaGreatProg
import Derived.Lib.Hide
import Derived.Test.YtfpepdjffehbcaaGreatRiseLaw
import Derived.Test.YtfpepdjffehbcaaGreatBlocks
import Derived.Shelf.SlSorted.Search
import Derived.Deep.QuietTactic
import Derived.BigQuiet
import Derived.Deep.RegionHeld3
import Derived.WalkKit
import Derived.Outline
import Derived.LoopTactic
import Derived.Deep.DeepCutAuto
import Derived.Laws.AppendOwn
import Derived.Lib.AppendZeros
import Derived.Maps.Own
import Derived.Maps.OwnOps
import Derived.Maps.OwnSet
import Derived.Maps.Views
import Derived.StringKeys
import Derived.Test.YtfpepdjffehbcaaGreatSortSLay
set_option linter.unusedVariables false
set_option linter.unusedSimpArgs false
namespace Go.Proofs.YtfpepdjffehbcaaGreat
open Go.RowKit

/-- A list of texts, read. -/
def Txts (w : World) (B : Nat) (v : Value) (l : List ByteArray) : Prop := ∃ A c, v = .slice A l.length c ∧ l.length ≤ c ∧ c ≤ maxLen ∧ Reads w B 1 A l.length (l.map Value.string)
theorem Txts.below {w w' : World} {B : Nat} {v : Value} {l : List ByteArray} (h : Txts w B v l) (hb : Below B w w') : Txts w' B v l := by
  obtain ⟨A, c, e, h1, h2, h3⟩ := h
  exact ⟨A, c, e, h1, h2, h3.below hb⟩
theorem Txts.more {w : World} {B B' : Nat} {v : Value} {l : List ByteArray} (h : Txts w B v l) (hB : B ≤ B') : Txts w B' v l := by
  obtain ⟨A, c, e, h1, h2, h3⟩ := h
  exact ⟨A, c, e, h1, h2, Reads.more h3 hB⟩
theorem Txts.on {w w' : World} {v : Value} {l : List ByteArray} (h : Txts w w.heap.size v l) (hb : Below w.heap.size w w') : Txts w' w'.heap.size v l := (h.below hb).more hb.size
theorem txts_of_own {w : World} {base : Nat} {e : TypeId} {v : Value} {l : List ByteArray} (h : w.ownsRow base e 1 v l.length (l.map Value.string)) : Txts w w.heap.size v l := own_form h
theorem str_at {l : List ByteArray} {i : Nat} {x : ByteArray} (h : l[i]? = some x) : (l.map Value.string)[i]? = some (.string x) := by simp [h]
theorem ba_eqT {a b : ByteArray} (h : a.toList = b.toList) : a = b := by
  rw [Lib.toList_data, Lib.toList_data] at h
  obtain ⟨⟨x⟩⟩ := a
  obtain ⟨⟨y⟩⟩ := b
  simp only at h
  rw [h]
theorem at_lt {α : Type} {l : List α} {p : Nat} (h : p < l.length) : ∃ x, l[p]? = some x := ⟨l[p], by simp [h]⟩
/-- What the document's At tells. -/
def AtIs (l : List ByteArray) (s : ByteArray) (r : Int) : Prop := (∃ i : Nat, r = (i : Int) ∧ l[i]? = some s ∧ ∀ j, j < i → l[j]? ≠ some s) ∨ (r = -1 ∧ s ∉ l)
def QPost (P : Value → Prop) (w : World) (e : Ending) (w' : World) : Prop := ∃ v q, e = .returned v ∧ P v ∧ w' = w.drewN q

end Go.Proofs.YtfpepdjffehbcaaGreat
/-
  The walk of the document's Put: a rising list with one text more. Condition: at most 1000000 texts.
-/
set_option linter.unusedVariables false
set_option linter.unusedSimpArgs false
namespace Go.Proofs.YtfpepdjffehbcaaGreat
open Go.RowKit

theorem str_info : (Tryz.prog.info? 9).map (fun i => (i.zero, i.size, i.bytes)) = some (some (.string ByteArray.empty), 1, 16) := by kernel_rfl
theorem strs_take {l : List ByteArray} {p : Nat} {x : ByteArray} (h : l[p]? = some x) : (l.take (p + 1)).map Value.string = (l.take p).map Value.string ++ [.string x] := by
  rw [List.take_add_one, h]
  simp
def PutTPost (l : List ByteArray) (s : ByteArray) (w : World) (e : Ending) (w' : World) : Prop := (∃ v, e = .returned v ∧ Txts w' w'.heap.size v (insL bl l s)) ∧ Below w.heap.size w w'
/-- What the second half of the loop adds. -/
theorem put_mid {l : List ByteArray} {s : ByteArray} {p : Nat} (hp : p ≤ l.length) : (l.take p ++ s :: l.drop p).length = l.length + 1 ∧ ((l.take p ++ s :: l.drop p).take (p + 1)).map Value.string = (l.take p).map Value.string ++ [.string s] ∧
    ∀ j x, p ≤ j → l[j]? = some x → (l.take p ++ s :: l.drop p)[j + 1]? = some x := by
  have h1 : (l.take p).length = p := by rw [List.length_take]; omega
  refine ⟨by simp; omega, ?_, fun j x hj hx => ?_⟩
  · rw [List.take_append, h1, show p + 1 - p = 1 by omega, List.take_take]
    simp
  · rw [List.getElem?_append_right (by omega), h1, show j + 1 - p = (j - p) + 1 by omega, List.getElem?_cons_succ, List.getElem?_drop, show p + (j - p) = j by omega]
    exact hx
set_option maxHeartbeats 8000000 in
theorem put_any (v : Value) (l : List ByteArray) (s : ByteArray) (w : World) (h : Txts w w.heap.size v l) (hlen : l.length ≤ 1000000) :
    Calls Tryz.prog 47 #[v, .string s] w (PutTPost l s w) := by
  obtain ⟨A, c, rfl, hc, hm, hR⟩ := id h
  have HT0 := Lib.hid h
  have HR := Lib.hid hR
  unfold maxLen at hm
  clear hR h
  generalize hn : l.length = n at *
  have HN := Lib.hid hn
  have hn1 : (n : Int) ≤ 1000000 := by omega
  clear hn
  obtain ⟨i0, hi0, hz0, hz1, hz2⟩ := info_parts str_info
  go_enter Tryz.func47, Tryz.ntmps47
  go_wp2
  go_loopw [5, 6] (fun ov iv wr => ∃ p : Nat, iv = .int .i64 (p : Int) ∧ p ≤ n ∧ (∀ j x, j < p → l[j]? = some x → bl x s = true) ∧ wr.ownsRow w.heap.size 9 1 ov p ((l.take p).map Value.string) ∧ Below w.heap.size w wr) (fun _ iv _ => n - (Lib.intOf iv).toNat)
  case atStart => exact ⟨0, rfl, Nat.zero_le _, fun j x h => absurd h (by omega), World.ownsRow_nil _ _ _ _, Below.refl _ _⟩
  case round =>
    obtain ⟨p, rfl, hp, hT, hO, hB⟩ := hrel
    have HT := Lib.hid hT
    have HO := Lib.hid hO
    have HB := Lib.hid hB
    clear hT hO hB
    by_cases hlt : p < n
    · obtain ⟨x, hx⟩ := at_lt (l := l) (p := p) (by have := HN.out; omega)
      have hq : (p : Int) < (n : Int) := by omega
      obtain ⟨b1, o1, rfl, hb1, hcl1⟩ := (HR.out.below HB.out).spot (by omega) (by omega)
      have r0 := hcl1 _ _ (str_at hx)
      have HX := Lib.hid hx
      clear hcl1 hx
      cases hb : Op.bytesLess x.toList s.toList
      · by_cases he : x.toList = s.toList
        · have he2 : (x.toList == s.toList) = true := by simpa using he
          have HIN := Lib.hid (show insL bl l s = l by
            rw [insL_split l s p HT.out (by rw [HN.out]; omega) (fun y hy => by rw [HX.out] at hy; cases hy; exact hb), if_pos (by rw [HX.out, ba_eqT he])])
          clear he
          go_wp2
          go_ret
          refine ⟨⟨_, rfl, ?_⟩, HB.out⟩
          rw [HIN.out]
          exact HT0.out.on HB.out
        · have he2 : (x.toList == s.toList) = false := by simpa using he
          have HIN := Lib.hid (show insL bl l s = l.take p ++ s :: l.drop p by
            rw [insL_split l s p HT.out (by rw [HN.out]; omega) (fun y hy => by rw [HX.out] at hy; cases hy; exact hb), if_neg (by rw [HX.out]; intro e; exact he (by rw [Option.some.inj e]))])
          clear he
          have HA := Lib.hid (And.intro (HO.out.alloc (.cells #[.string s] 9)) (And.intro (reads_new wr #[.string s] 9 1 1 rfl) (show w.heap.size ≤ (wr.alloc (.cells #[.string s] 9)).heap.size by have := HB.out.size; simp; omega)))
          have HMID := Lib.hid (put_mid (s := s) (show p ≤ l.length by rw [HN.out]; exact hp))
          go_wp2_with (at_builtin; go_loud (refine wpList_append_any _ rfl (.tmp 41) (.tmp 43) _ rfl w.heap.size 9 i0 _ 1 16 Tryz.underlying40 hi0 hz0 hz1 hz2 rfl (by omega) _ p ((l.take p).map Value.string) rfl HA.out.1 (wr.heap.size + 1) (some ⟨wr.heap.size, 0, none⟩) 1 1 [.string s] rfl HA.out.2.1 (by simp [Value.oneCell']) (by simp only [maxLen]; omega) (by omega) HA.out.2.2 ?_); intro v3 w3 hown3 hg3 hat3; have HOW := Lib.hid (HMID.out.2.1.symm.subst (motive := fun z => w3.ownsRow w.heap.size 9 1 v3 (p + 1) z) hown3); have HB3 := Lib.hid (show Below w.heap.size w w3 from (HB.out.alloc HB.out.size _).grown hg3 HA.out.2.2 (fun k hk => (HO.out.lt k hk).1)); clear hown3 hg3 hat3)
          clear HA HO HB
          generalize l.take p ++ s :: l.drop p = m at *
          go_loopw [5, 6] (fun ov iv wr => ∃ j : Nat, iv = .int .i64 (j : Int) ∧ p ≤ j ∧ j ≤ n ∧ wr.ownsRow w.heap.size 9 1 ov (j + 1) ((m.take (j + 1)).map Value.string) ∧ Below w.heap.size w wr) (fun _ iv _ => n - (Lib.intOf iv).toNat)
          case atStart => exact ⟨p, rfl, Nat.le_refl _, hp, HOW.out, HB3.out⟩
          case round =>
            obtain ⟨j, rfl, hpj, hj, hO, hB⟩ := hrel
            have HO := Lib.hid hO
            have HB := Lib.hid hB
            clear hO hB
            by_cases hlt2 : j < n
            · obtain ⟨y, hy⟩ := at_lt (l := l) (p := j) (by have := HN.out; omega)
              have hq2 : (j : Int) < (n : Int) := by omega
              have HMY := Lib.hid (HMID.out.2.2 j y hpj hy)
              have HY := Lib.hid hy
              obtain ⟨b2, o2, e2, hb2, hcl2⟩ := (HR.out.below HB.out).spot (by omega) (by omega)
              cases e2
              have r2 := hcl2 _ _ (str_at hy)
              clear hcl2 hy
              have HA := Lib.hid (And.intro (HO.out.alloc (.cells #[.string y] 9)) (And.intro (reads_new wr #[.string y] 9 1 1 rfl) (show w.heap.size ≤ (wr.alloc (.cells #[.string y] 9)).heap.size by have := HB.out.size; simp; omega)))
              go_wp2_with (at_builtin; go_loud (refine wpList_append_any _ rfl (.tmp 49) (.tmp 54) _ rfl w.heap.size 9 i0 _ 1 16 Tryz.underlying40 hi0 hz0 hz1 hz2 rfl (by omega) _ (j + 1) ((m.take (j + 1)).map Value.string) rfl HA.out.1 (wr.heap.size + 1) (some ⟨wr.heap.size, 0, none⟩) 1 1 [.string y] rfl HA.out.2.1 (by simp [Value.oneCell']) (by simp only [maxLen]; omega) (by omega) HA.out.2.2 ?_); intro v4 w4 hown3 hg3 hat3; have HOX := Lib.hid hown3; have HG := Lib.hid hg3; clear hown3 hg3 hat3)
              go_roundw
              case rel =>
                refine ⟨j + 1, by go_num, by omega, hlt2, by rw [strs_take HMY.out]; exact HOX.out, ?_⟩
                exact (HB.out.alloc HB.out.size _).grown HG.out HA.out.2.2 (fun k hk => (HO.out.lt k hk).1)
              case measure => simp [Lib.intOf]; omega
            · obtain rfl : j = n := by omega
              have hq2 : ¬ (j : Int) < (j : Int) := by omega
              have HZ := Lib.hid (show m.take (j + 1) = m from List.take_of_length_le (by rw [HMID.out.1, HN.out]; exact Nat.le_refl _))
              have HML := Lib.hid (show m.length = j + 1 by rw [HMID.out.1, HN.out])
              rw [HZ.out] at HO
              go_wp2
              go_ret
              refine ⟨⟨_, rfl, ?_⟩, HB.out⟩
              rw [HIN.out]
              exact txts_of_own (by rw [HML.out]; exact HO.out)
      · have HA := Lib.hid (And.intro (HO.out.alloc (.cells #[.string x] 9)) (And.intro (reads_new wr #[.string x] 9 1 1 rfl) (show w.heap.size ≤ (wr.alloc (.cells #[.string x] 9)).heap.size by have := HB.out.size; simp; omega)))
        have HBL := Lib.hid hb
        go_wp2_with (at_builtin; go_loud (refine wpList_append_any _ rfl (.tmp 19) (.tmp 24) _ rfl w.heap.size 9 i0 _ 1 16 Tryz.underlying40 hi0 hz0 hz1 hz2 rfl (by omega) _ p ((l.take p).map Value.string) rfl HA.out.1 (wr.heap.size + 1) (some ⟨wr.heap.size, 0, none⟩) 1 1 [.string x] rfl HA.out.2.1 (by simp [Value.oneCell']) (by simp only [maxLen]; omega) (by omega) HA.out.2.2 ?_); intro v3 w3 hown3 hg3 hat3; have HOW := Lib.hid hown3; have HG := Lib.hid hg3; clear hown3 hg3 hat3)
        go_roundw
        case rel =>
          refine ⟨p + 1, by go_num, hlt, fun j y hj hy => ?_, by rw [strs_take HX.out]; exact HOW.out, ?_⟩
          · rcases Nat.lt_or_ge j p with h | h
            · exact HT.out j y h hy
            · obtain rfl : j = p := by omega
              rw [HX.out] at hy
              cases hy
              exact HBL.out
          · exact (HB.out.alloc HB.out.size _).grown HG.out HA.out.2.2 (fun k hk => (HO.out.lt k hk).1)
        case measure => simp [Lib.intOf]; omega
    · obtain rfl : p = n := by omega
      have hq : ¬ (p : Int) < (p : Int) := by omega
      have HIN := Lib.hid (show insL bl l s = l.take p ++ s :: l.drop p by
        rw [insL_split l s p HT.out (by rw [HN.out]; omega) (fun y hy => by rw [List.getElem?_eq_none (by rw [HN.out]; omega)] at hy; cases hy), if_neg (by rw [List.getElem?_eq_none (by rw [HN.out]; omega)]; simp)])
      have HA := Lib.hid (And.intro (HO.out.alloc (.cells #[.string s] 9)) (And.intro (reads_new wr #[.string s] 9 1 1 rfl) (show w.heap.size ≤ (wr.alloc (.cells #[.string s] 9)).heap.size by have := HB.out.size; simp; omega)))
      have HMID := Lib.hid (put_mid (s := s) (show p ≤ l.length by rw [HN.out]; exact hp))
      go_wp2_with (at_builtin; go_loud (refine wpList_append_any _ rfl (.tmp 41) (.tmp 43) _ rfl w.heap.size 9 i0 _ 1 16 Tryz.underlying40 hi0 hz0 hz1 hz2 rfl (by omega) _ p ((l.take p).map Value.string) rfl HA.out.1 (wr.heap.size + 1) (some ⟨wr.heap.size, 0, none⟩) 1 1 [.string s] rfl HA.out.2.1 (by simp [Value.oneCell']) (by simp only [maxLen]; omega) (by omega) HA.out.2.2 ?_); intro v3 w3 hown3 hg3 hat3; have HOW := Lib.hid (HMID.out.2.1.symm.subst (motive := fun z => w3.ownsRow w.heap.size 9 1 v3 (p + 1) z) hown3); have HB3 := Lib.hid (show Below w.heap.size w w3 from (HB.out.alloc HB.out.size _).grown hg3 HA.out.2.2 (fun k hk => (HO.out.lt k hk).1)); clear hown3 hg3 hat3)
      clear HA HO HB
      generalize l.take p ++ s :: l.drop p = m at *
      go_loopw [5, 6] (fun ov iv wr => ∃ j : Nat, iv = .int .i64 (j : Int) ∧ p ≤ j ∧ j ≤ p ∧ wr.ownsRow w.heap.size 9 1 ov (j + 1) ((m.take (j + 1)).map Value.string) ∧ Below w.heap.size w wr) (fun _ iv _ => p - (Lib.intOf iv).toNat)
      case atStart => exact ⟨p, rfl, Nat.le_refl _, hp, HOW.out, HB3.out⟩
      case round =>
        obtain ⟨j, rfl, hpj, hj, hO, hB⟩ := hrel
        have HO := Lib.hid hO
        have HB := Lib.hid hB
        clear hO hB
        by_cases hlt2 : j < p
        · exact absurd hlt2 (by omega)
        · obtain rfl : j = p := by omega
          have hq2 : ¬ (j : Int) < (j : Int) := by omega
          have HZ := Lib.hid (show m.take (j + 1) = m from List.take_of_length_le (by rw [HMID.out.1, HN.out]; exact Nat.le_refl _))
          have HML := Lib.hid (show m.length = j + 1 by rw [HMID.out.1, HN.out])
          rw [HZ.out] at HO
          go_wp2
          go_ret
          refine ⟨⟨_, rfl, ?_⟩, HB.out⟩
          rw [HIN.out]
          exact txts_of_own (by rw [HML.out]; exact HO.out)
end Go.Proofs.YtfpepdjffehbcaaGreat
/-
  The walks of slices.Grow (of nil) and slices.Concat at texts. Condition: at most 10000000 elements.
-/
set_option linter.unusedVariables false
set_option linter.unusedSimpArgs false
namespace Go.Proofs.YtfpepdjffehbcaaGreat
open Go.RowKit

theorem wpList_append_runS {P : Program} (w : World) {ops : Array Oper} {rest : List Oper} {o : Oper} {a : Act} {Q : Exit → Act → World → Prop} (hgd : o.guard = none) (s x : Operand) (t tn : TypeId)
    (ho : o.op = .call { callee := .builtin .append, args := #[s, x], argTypes := #[t, tn] }) (vs vx : Value) (hs : a.eval s = vs) (hx : a.eval x = vx)
    (v' : Value) (w' : World) (hr : (Builtin.append_ #[t, tn] o.type #[vs, vx]).run P w = .ok v' w') (h : wpList P ops Q rest (a.put o.dst v') w') : wpList P ops Q (o :: rest) a w :=
  Lib.wpList_append_run w hgd s x t tn ho vs vx hs hx v' w' hr h
def GrowPostS (w : World) (en : Ending) (w' : World) : Prop := ∃ v, en = .returned v ∧ w'.ownsRow w.heap.size 9 1 v 0 [] ∧ w.grownBy w' none
set_option maxRecDepth 10000000 in
theorem grow_anyS (n : Nat) (w : World) (hn : n ≤ 10000000) :
    Calls Tryz.prog 114 #[.slice none 0 0, .int .i64 (n : Int)] w (GrowPostS w) := by
  by_cases h0 : n = 0
  · subst h0
    go_enter Tryz.func114, Tryz.ntmps114
    go_wp2
    go_ret
    exact ⟨_, rfl, World.ownsRow_nil _ _ _ _, World.grownBy.refl _ _⟩
  · have hn0 : ¬ (n : Int) < 0 := by omega
    have hn1 : (0 : Int) < (n : Int) := by omega
    have hn2 : (n : Int) ≤ 10000000 := by omega
    obtain ⟨i0, hi0, hz0, hz1, hz2⟩ := info_parts str_info
    have HA := Lib.hid (Lib.run_append_nil_zeros (P := Tryz.prog) w 40 3 40 9 i0 _ .i64 .i64 Tryz.underlying40 Tryz.underlying3 hi0 hz0 n (by omega) (by omega) (by omega) (by rw [hz2]; omega))
    have HO := Lib.hid (show ∀ cap, cap = grownCap w n 0 9 → (w.drew.alloc (.cells (Builtin.zeroCells (Value.string ByteArray.empty).cells n ++ Builtin.zeroCells (Value.string ByteArray.empty).cells (cap - n)) 9)).ownsRow w.heap.size 9 1 (.slice (some ⟨w.heap.size, 0, none⟩) 0 cap) 0 [] from fun cap hc => by
      have hge := grownCap_ge w n 0 9
      have hcm : grownCap w n 0 9 ≤ maxLen := grownCap_le_maxLen w n 0 9 (by simp only [maxLen]; omega)
      have hz : (Value.string ByteArray.empty).cells.size = 1 := rfl
      refine ⟨rfl, .inr ⟨w.heap.size, cap, _, rfl, Nat.le_refl _, heap_alloc_new w.drew _, Nat.zero_le _, by omega, ?_, by simp⟩⟩
      simp only [Array.size_append, size_zeroCells, hz]
      omega)
    have HG := Lib.hid (show ∀ o, w.grownBy (w.drew.alloc o) none from fun o => ⟨rfl, rfl, rfl, by simp, fun k hk _ => Below.heap_alloc w.drew o k hk⟩)
    generalize grownCap w n 0 9 = cap at *
    clear h0
    go_enter Tryz.func114, Tryz.ntmps114
    go_wp2_with (at_builtin; go_loud (refine wpList_append_runS w rfl (.tmp 20) (.tmp 21) _ _ rfl _ _ rfl rfl _ _ HA.out ?_))
    go_ret
    exact ⟨_, rfl, HO.out _ rfl, HG.out _⟩

/-- A row of two-cell elements, read. -/
def RowRS (w : World) (B : Nat) (v : Value) (n : Nat) (xs : List Value) : Prop := ∃ A c, v = .slice A n c ∧ n ≤ c ∧ c ≤ maxLen ∧ Reads w B 1 A n xs
abbrev LRowS := Value × Nat × List Value
def sumLS (ls : List LRowS) : Nat := (ls.map fun x => x.2.1).sum
def flatLS (ls : List LRowS) : List Value := ls.flatMap fun x => x.2.2
theorem sumL_takeS (ls : List LRowS) (p : Nat) (x : LRowS) (h : ls[p]? = some x) : sumLS (ls.take (p + 1)) = sumLS (ls.take p) + x.2.1 := by
  rw [List.take_add_one, h]
  simp [sumLS]
theorem flatL_takeS (ls : List LRowS) (p : Nat) (x : LRowS) (h : ls[p]? = some x) : flatLS (ls.take (p + 1)) = flatLS (ls.take p) ++ x.2.2 := by
  rw [List.take_add_one, h]
  simp [flatLS]
theorem sumL_leS (ls : List LRowS) (p : Nat) : sumLS (ls.take p) ≤ sumLS ls := by
  have : sumLS ls = sumLS (ls.take p) + sumLS (ls.drop p) := by
    conv => lhs; rw [← List.take_append_drop p ls]
    simp only [sumLS, List.map_append, List.sum_append]
  omega
def ConcatPostS (ls : List LRowS) (w : World) (en : Ending) (w' : World) : Prop := ∃ v, en = .returned v ∧ w'.ownsRow w.heap.size 9 1 v (sumLS ls) (flatLS ls) ∧ Below w.heap.size w w'
def ListsAtS (w : World) (A : Option Addr) (ls : List LRowS) : Prop :=
  Reads w w.heap.size 1 A ls.length (ls.map fun x => x.1) ∧ ∀ x ∈ ls, RowRS w w.heap.size x.1 x.2.1 x.2.2 ∧ ∀ u ∈ x.2.2, u.oneCell' = true

set_option maxHeartbeats 4000000 in
theorem concat_anyS (A : Option Addr) (m c : Nat) (ls : List LRowS) (w : World) (hm : ls.length = m) (hl : ListsAtS w A ls) (hn : sumLS ls ≤ 10000000) (hms : m ≤ 1000) :
    Calls Tryz.prog 79 #[.slice A m c] w (ConcatPostS ls w) := by
  have hms2 : (m : Int) ≤ 1000 := by omega
  have HL := Lib.hid hl
  have HM := Lib.hid hm
  have HN := Lib.hid hn
  clear hl hm hn
  go_enter Tryz.func79, Tryz.ntmps79
  go_wp2
  go_loopw [3, 5, 11] (fun sv _ iv wr => wr = w ∧ ∃ p : Nat, sv = .int .i64 (sumLS (ls.take p) : Int) ∧ iv = .int .i64 (p : Int) ∧ p ≤ m) (fun _ _ iv _ => m - (Lib.intOf iv).toNat)
  case atStart => exact ⟨rfl, 0, by simp [sumLS], rfl, Nat.zero_le _⟩
  case round =>
    obtain ⟨rfl, p, rfl, rfl, hp⟩ := hrel
    by_cases hlt : p < m
    · obtain ⟨x, hx⟩ : ∃ x, ls[p]? = some x := ⟨ls[p]'(by have := HM.out; omega), by have := HM.out; simp [this, hlt]⟩
      have hq : (p : Int) < (m : Int) := by omega
      have hmem := HL.out.2 x (List.mem_of_getElem? hx)
      obtain ⟨b, o, rfl, hbo, hcells⟩ := HL.out.1.spot (by have := HM.out; omega) (by omega)
      have hc0 : wr.cell? ⟨b, o + p, none⟩ = some x.1 := hcells p _ (by simp [hx])
      obtain ⟨⟨A1, c1, hv, _, _, _⟩, _⟩ := hmem
      rw [hv] at hc0
      have HT := Lib.hid (sumL_takeS ls p x hx)
      have hs1 : (sumLS (ls.take p) : Int) + (x.2.1 : Int) ≤ 10000000 := by
        have h1 := sumL_leS ls (p + 1)
        have h2 := HN.out
        rw [HT.out] at h1
        omega
      have hs2 : ¬ ((sumLS (ls.take p) : Int) + (x.2.1 : Int)) < 0 := by omega
      generalize sumLS (ls.take p) = sp at *
      clear hcells hv
      go_wp2
      go_roundw
      case rel => exact ⟨trivial, p + 1, by rw [HT.out]; simp, by simp, hlt⟩
      case measure => simp [Lib.intOf]; omega
    · obtain rfl : p = m := by omega
      have hq : ¬ (p : Int) < (p : Int) := by omega
      have HT := Lib.hid (show ls.take p = ls from List.take_of_length_le (by have := HM.out; omega))
      rw [HT.out]
      have HG := Lib.hid (grow_anyS (sumLS ls) wr HN.out)
      have hsz : (sumLS ls : Int) ≤ 10000000 := by have := HN.out; omega
      have HF := Lib.hid (show sumLS ls = sumLS ls from rfl)
      clear hlt hq
      go_upto_region 10 with (go_at_call 114; go_loud (refine HG.out.mono ?_; rintro en w1 ⟨v1, rfl, hO1, hG1⟩; have HO1 := Lib.hid hO1; have HG1 := Lib.hid hG1; clear hO1 hG1))
      have HBl := Lib.hid (show Below wr.heap.size wr w1 from ⟨HG1.out.os, HG1.out.tape, HG1.out.output, HG1.out.size, fun k hk => HG1.out.block k hk (by simp)⟩)
      clear HG HG1
      have HR0 := Lib.hid HL.out.1
      have HR1 := Lib.hid HL.out.2
      clear HL
      generalize hbase : wr.heap.size = base at *
      have HBASE := Lib.hid hbase
      clear hbase
      go_wp2
      go_loopw [6, 8, 27] (fun v _ iv W => ∃ q : Nat, iv = .int .i64 (q : Int) ∧ q ≤ p ∧ W.ownsRow base 9 1 v (sumLS (ls.take q)) (flatLS (ls.take q)) ∧ Below base wr W) (fun _ _ iv _ => p - (Lib.intOf iv).toNat)
      case atStart => exact ⟨0, rfl, Nat.zero_le _, by simpa [sumLS, flatLS] using HO1.out, HBl.out⟩
      case round =>
        obtain ⟨q, rfl, hqp, hown, hB⟩ := hrel
        have HO := Lib.hid hown
        have HB := Lib.hid hB
        clear hown hB
        by_cases hlt : q < p
        · obtain ⟨x, hx⟩ : ∃ x, ls[q]? = some x := ⟨ls[q]'(by have := HM.out; omega), by have := HM.out; simp [this, hlt]⟩
          have hq : (q : Int) < (p : Int) := by omega
          have hmem := HR1.out x (List.mem_of_getElem? hx)
          obtain ⟨b, o, rfl, hbo, hcells⟩ := (HR0.out.below HB.out).spot (by have := HM.out; omega) (by omega)
          have hc0 : wr.cell? ⟨b, o + q, none⟩ = some x.1 := hcells q _ (by simp [hx])
          obtain ⟨⟨A1, c1, hv, _, _, hRd⟩, hone⟩ := hmem
          rw [hv] at hc0
          have HT := Lib.hid (And.intro (sumL_takeS ls q x hx) (flatL_takeS ls q x hx))
          have HS := Lib.hid (show sumLS (ls.take q) + x.2.1 ≤ 10000000 by
            have h1 := sumL_leS ls (q + 1)
            have h2 := HN.out
            rw [HT.out.1] at h1
            omega)
          have HRd := Lib.hid (hRd.below HB.out)
          have HOne := Lib.hid hone
          obtain ⟨i0, hi0, hz0, hz1, hz2⟩ := info_parts str_info
          generalize sumLS (ls.take q) = sq at *
          generalize flatLS (ls.take q) = fq at *
          clear hcells hv hRd hone
          go_wp2_with (at_builtin; go_loud (refine wpList_append_any _ rfl (.tmp 31) (.tmp 32) _ rfl base 9 i0 _ 1 16 Tryz.underlying40 hi0 hz0 hz1 hz2 rfl (by omega) _ sq fq rfl HO.out base A1 x.2.1 c1 x.2.2 rfl HRd.out HOne.out (by have := HS.out; simp only [maxLen]; omega) (by have := HS.out; omega) (by have := HB.out.size; have := HBASE.out; omega) ?_); intro v3 w5 hown3 hg3 hat3; have HO5 := Lib.hid hown3; have HG5 := Lib.hid hg3; have HA5 := Lib.hid hat3; clear hown3 hg3 hat3)
          go_roundw
          case rel => exact ⟨q + 1, by simp, hlt, by rw [HT.out.1, HT.out.2]; exact HO5.out, HB.out.grown HG5.out (by have := HB.out.size; have := HBASE.out; omega) (fun k hk => (HO.out.lt k hk).1)⟩
          case measure => simp [Lib.intOf]; omega
        · have hq : ¬ (q : Int) < (p : Int) := by omega
          have HT2 := Lib.hid (show ls.take q = ls from List.take_of_length_le (by have := HM.out; omega))
          rw [HT2.out] at HO
          go_wp2
          go_ret
          exact ⟨_, rfl, by rw [HBASE.out]; exact HO.out, by rw [HBASE.out]; exact HB.out⟩
end Go.Proofs.YtfpepdjffehbcaaGreat
/-
  A map that the call makes, as a function of its keys (elements as they stand); no program in sight. Plain lemmas; no condition.
-/
set_option linter.unusedVariables false
set_option linter.unusedSimpArgs false
namespace Go.Proofs.YtfpepdjffehbcaaGreat
open Go.RowKit

def rawE (v : Value) : Option (DataW Value × List MemPlace) := some (.held v, [])
/-- Block b is a map of m entries (at most n) that holds f. -/
def MapG {κ : Type} (P : Program) (k : TypeId) (kl : κ → Lit) (ok : κ → Prop) (w : World) (b n m : Nat) (f : κ → Option Value) : Prop :=
  ∃ D : DataW Value, w.ownsMap P k rawE b n D ∧ Maps.size D = m ∧ (∀ s, ok s → Maps.has D (kl s) = (f s).isSome) ∧ ∀ s z, ok s → D.atKey (kl s) (.held z) = .held ((f s).getD z)
section
variable {κ : Type} {P : Program} {k : TypeId} {kl : κ → Lit} {ok : κ → Prop} {w w' : World} {b n m : Nat} {f : κ → Option Value}
theorem MapG.made (w : World) (P : Program) (k : TypeId) (kl : κ → Lit) (ok : κ → Prop) : MapG P k kl ok (w.alloc (.map #[] 0)) w.heap.size 0 0 (fun _ => none) :=
  ⟨.map [], World.ownsMap_made _ _ _ _, rfl, fun _ _ => rfl, fun _ _ _ => rfl⟩
theorem MapG.lt (h : MapG P k kl ok w b n m f) : b < w.heap.size := by obtain ⟨D, h, _⟩ := h; exact h.lt
theorem MapG.kept {row : Option Nat} (h : MapG P k kl ok w b n m f) (hg : w.grownBy w' row) (hne : some b ≠ row) : MapG P k kl ok w' b n m f := by
  obtain ⟨D, h, r⟩ := h; exact ⟨D, h.kept hg hne, r⟩
theorem MapG.below {B : Nat} (h : MapG P k kl ok w b n m f) (hb : Below B w w') (hB : b < B) : MapG P k kl ok w' b n m f := by
  obtain ⟨D, ⟨es, clock, hh, r1⟩, r⟩ := h
  exact ⟨D, ⟨es, clock, (hb.block b hB).trans hh, r1⟩, r⟩
theorem MapG.on (h : MapG P k kl ok w b n m f) (hb : Below w.heap.size w w') : MapG P k kl ok w' b n m f := h.below hb h.lt
theorem MapG.alloc (h : MapG P k kl ok w b n m f) (o : Obj) : MapG P k kl ok (w.alloc o) b n m f := by
  obtain ⟨D, h, r⟩ := h; exact ⟨D, h.alloc o, r⟩
theorem MapG.drewN (h : MapG P k kl ok w b n m f) (q : Nat) : MapG P k kl ok (w.drewN q) b n m f := h
theorem MapG.mono (h : MapG P k kl ok w b n m f) {n' : Nat} (hn : n ≤ n') : MapG P k kl ok w b n' m f := by
  obtain ⟨D, h, r⟩ := h; exact ⟨D, h.mono hn, r⟩
theorem MapG.le (h : MapG P k kl ok w b n m f) : m ≤ n := by
  obtain ⟨D, h, rfl, _⟩ := h
  exact h.size_le
theorem MapG.look {t e : TypeId} (h : MapG P k kl ok w b n m f) (K : Maps.Keyed P k) (ht : P.underlying t = some (.map k e)) {z : Value} (hz : (zeroValue e).run P w = .ok z w) {key : Value} {s : κ} (hs : ok s) (hkey : keyOf P k key = some (kl s)) :
    (Instr.lookup t (.map (some b)) key false).run P w = .ok ((f s).getD z) w := by
  obtain ⟨D, h, -, -, hat⟩ := h
  obtain ⟨v, ps, hrun, hv⟩ := h.lookup K ht hz (show rawE z = some (.held z, []) from rfl) hkey
  rw [hat s z hs] at hv
  simp only [rawE, Option.some.injEq, Prod.mk.injEq, DataW.held.injEq] at hv
  rw [hrun, hv.1]
theorem MapG.look_ok {t e : TypeId} (h : MapG P k kl ok w b n m f) (K : Maps.Keyed P k) (ht : P.underlying t = some (.map k e)) {z : Value} (hz : (zeroValue e).run P w = .ok z w) {key : Value} {s : κ} (hs : ok s) (hkey : keyOf P k key = some (kl s)) :
    (Instr.lookup t (.map (some b)) key true).run P w = .ok (.tuple #[(f s).getD z, .bool (f s).isSome]) w := by
  obtain ⟨D, h, -, hhas, hat⟩ := h
  obtain ⟨v, ps, hrun, hv⟩ := h.look_ok K ht hz (show rawE z = some (.held z, []) from rfl) hkey
  rw [hat s z hs] at hv
  simp only [rawE, Option.some.injEq, Prod.mk.injEq, DataW.held.injEq] at hv
  rw [hrun, hv.1, hhas s hs]
theorem MapG.len {t e : TypeId} (h : MapG P k kl ok w b n m f) (ht : P.underlying t = some (.map k e)) (ty : TypeId) : (Builtin.len_ #[t] ty #[.map (some b)]).run P w = .ok (.int .i64 m) w := by
  obtain ⟨D, h, rfl, _⟩ := h
  exact h.len ht ty
/-- What a store leaves. -/
def putMF [DecidableEq κ] (f : κ → Option Value) (s : κ) (v : Value) : κ → Option Value := fun x => if x = s then some v else f x
theorem MapG.store [DecidableEq κ] {t e : TypeId} (h : MapG P k kl ok w b n m f) (K : Maps.Keyed P k) (ht : P.underlying t = some (.map k e)) (hn : n < maxLen) (hinj : ∀ x y, ok x → ok y → kl x = kl y → x = y) {key : Value} {s : κ} (hs : ok s) (hkey : keyOf P k key = some (kl s)) (v : Value) :
    ∃ w', (Instr.mapUpdate t (.map (some b)) key v).run P w = .ok () w' ∧ MapG P k kl ok w' b (n + 1) (if (f s).isSome then m else m + 1) (putMF f s v) ∧ w.grownBy w' (some b) := by
  obtain ⟨D, h, rfl, hhas, hat⟩ := h
  obtain ⟨w', hrun, h', hg⟩ := h.update K ht hn hkey (show rawE v = some (.held v, []) from rfl)
  have hk := K.key hkey
  refine ⟨w', hrun, ⟨_, h', ?_, fun x hx => ?_, fun x z hx => ?_⟩, hg⟩
  · rw [Maps.size_put (h.tidy K), hhas s hs]
  · unfold putMF
    split
    · rename_i e
      subst e
      rw [Maps.has_put_same h.isMap hk]
      rfl
    · rename_i e
      rw [Maps.has_put_other (fun e' => e (hinj _ _ hx hs e')), hhas x hx]
  · unfold putMF
    split
    · rename_i e
      subst e
      rw [Maps.atKey_put_same h.isMap hk]
      rfl
    · rename_i e
      rw [Maps.atKey_put_other (fun e' => e (hinj _ _ hx hs e')), hat x z hx]
end
/-- Maps of texts. -/
def strL (s : ByteArray) : Lit := .string s.data.toList
def strOk (s : ByteArray) : Prop := s.size ≤ maxLen
theorem strL_inj (x y : ByteArray) (_ : strOk x) (_ : strOk y) (h : strL x = strL y) : x = y := by
  unfold strL at h
  obtain ⟨⟨x⟩⟩ := x
  obtain ⟨⟨y⟩⟩ := y
  simpa using h
end Go.Proofs.YtfpepdjffehbcaaGreat
/-
  slices.Sort at a row of texts of the call's own. Condition: the row is within the reach.
-/
set_option linter.unusedVariables false
set_option linter.unusedSimpArgs false
namespace Go.Proofs.YtfpepdjffehbcaaGreat
open Go.RowKit Go.Shelf Go.Sort

theorem le_bl (x y : List UInt8) : decide (x ≤ y) = !Op.bytesLess y x := by
  rw [bytesLess_eq]
  by_cases h : y < x
  · rw [decide_eq_true h, decide_eq_false (fun hle => hle h)]
    rfl
  · rw [decide_eq_false h, decide_eq_true (show x ≤ y from h)]
    rfl
def baL (s : ByteArray) : List UInt8 := s.data.toList
def baB (l : List UInt8) : ByteArray := ⟨l.toArray⟩
theorem baB_baL (s : ByteArray) : baB (baL s) = s := by
  obtain ⟨⟨x⟩⟩ := s
  rfl
theorem baL_baB (l : List UInt8) : baL (baB l) = l := rfl
theorem enc_ba (s : ByteArray) : encStr (baL s) = .string s := congrArg Value.string (baB_baL s)
theorem map_enc (l : List ByteArray) : (l.map baL).map encStr = l.map Value.string := by
  rw [List.map_map]
  exact List.map_congr_left fun s _ => enc_ba s
/-- What the sort makes of a list. -/
def sortT (l : List ByteArray) : List ByteArray := ((l.map baL).mergeSort fun x y => decide (x ≤ y)).map baB
theorem sortT_perm (l : List ByteArray) : (sortT l).Perm l := by
  have h := (List.mergeSort_perm (l.map baL) (fun x y => decide (x ≤ y))).map baB
  have e : (l.map baL).map baB = l := by
    rw [List.map_map]
    conv => rhs; rw [← List.map_id l]
    exact List.map_congr_left fun s _ => baB_baL s
  rwa [e] at h
theorem sortT_sorted (l : List ByteArray) : (sortT l).Pairwise fun x y => bl y x = false := by
  have h := List.pairwise_mergeSort (le := fun x y : List UInt8 => decide (x ≤ y)) (fun a b c h1 h2 => by
      rw [le_bl] at *
      cases h3 : Op.bytesLess c a
      · rfl
      · cases h4 : Op.bytesLess b a
        · cases h5 : Op.bytesLess a b
          · have := bl_conn _ _ h4 h5
            subst this
            rw [h3] at h2
            cases h2
          · have := bl_trans _ _ _ h3 h5
            rw [this] at h2
            cases h2
        · rw [h4] at h1
          cases h1) (fun a b => by
      rw [le_bl, le_bl]
      cases h3 : Op.bytesLess b a
      · rfl
      · cases h4 : Op.bytesLess a b
        · rfl
        · have := bl_trans _ _ _ h3 h4
          rw [bl_irr] at this
          cases this) (l.map baL)
  unfold sortT
  rw [List.pairwise_map]
  refine h.imp fun {x y} hxy => ?_
  rw [le_bl] at hxy
  unfold bl
  rw [Lib.toList_data, Lib.toList_data]
  simpa [baB] using hxy
theorem sortT_len (l : List ByteArray) : (sortT l).length = l.length := (sortT_perm l).length_eq
/-- A list without doubles, sorted, is its pool. -/
theorem sortT_pool {l : List ByteArray} (hd : l.Nodup) : sortT l = poolL bl l := by
  have hp : l.Perm (poolL bl l) := by
    refine (List.perm_ext_iff_of_nodup hd ?_).2 fun x => (poolL_mem l x).symm
    exact (poolL_rise blT l).imp fun {x y} h => blT.ne h
  exact perm_rising bl (poolL bl l) (sortT l) ((sortT_perm l).trans hp) (poolL_rise blT l) (sortT_sorted l)
theorem own_holdsS {w : World} {base g c : Nat} {e : TypeId} {l : List ByteArray} (h : w.ownsRow base e 1 (.slice (some ⟨g, 0, none⟩) l.length c) l.length (l.map Value.string)) : Holds encStr w g 0 (l.map baL).toArray ∧ g < w.heap.size := by
  have h0 := h
  obtain ⟨h1, h2⟩ := h
  rcases h2 with ⟨h2, -⟩ | ⟨g', cap, cur, hv, hb, hh, hn, hm, hcs, hx⟩
  · cases h2
  · cases hv
    refine ⟨fun j hj => ?_, (Array.getElem?_eq_some_iff.1 hh).1⟩
    have hj2 : j < (l.map baL).length := by simpa using hj
    have hj3 : j < l.length := by simpa using hj2
    have e1 : encStr (l.map baL).toArray[j]! = .string l[j] := by
      rw [_root_.getElem!_pos _ j (by simpa using hj3)]
      simp only [List.getElem_toArray, List.getElem_map]
      exact enc_ba _
    have e2 : (l.map Value.string)[j]? = some (.string l[j]) := by simp [hj3]
    rw [← hx, List.getElem?_take] at e2
    split at e2
    · rw [Array.getElem?_toList] at e2
      constructor
      · rw [e1]
        simp only [World.cell?, hh, Nat.zero_add]
        simpa using e2
      · simp [World.frozen?, hh]
    · cases e2
theorem putRow_block {w : World} (blk : Nat) (d : Array (List UInt8)) (q : Nat) (os : Array Obj) (i : Nat) (hi : i < w.heap.size) (hne : i ≠ blk) : (grow (putRow encStr (Sort.ahead w q) blk 0 d) os).heap[i]? = w.heap[i]? := by
  simp only [grow, putRow, mapBlock, Sort.ahead]
  rw [Array.getElem?_append_left (by simpa using hi), Array.getElem?_modify, if_neg (fun e => hne e.symm)]
theorem putRow_grown {w : World} (blk : Nat) (d : Array (List UInt8)) (q : Nat) (os : Array Obj) : w.grownBy (grow (putRow encStr (Sort.ahead w q) blk 0 d) os) (some blk) :=
  ⟨rfl, rfl, rfl, by simp [grow, putRow, mapBlock, Sort.ahead], fun i hi hne => putRow_block blk d q os i hi (fun e => hne (by rw [e]))⟩
theorem own_sortedS {w : World} {base g c n : Nat} {e : TypeId} {xs : List Value} {l : List ByteArray} (h : w.ownsRow base e 1 (.slice (some ⟨g, 0, none⟩) n c) n xs) (hl : l.length = n) (q : Nat) (os : Array Obj) :
    (grow (putRow encStr (Sort.ahead w q) g 0 (l.map baL).toArray) os).ownsRow base e 1 (.slice (some ⟨g, 0, none⟩) n c) n (l.map Value.string) := by
  obtain ⟨h1, h2⟩ := h
  refine ⟨by simp [hl], ?_⟩
  rcases h2 with ⟨h2, -⟩ | ⟨g', cap, cur, hv, hb, hh, hn, hm, hcs, hx⟩
  · cases h2
  · cases hv
    have hg : g < w.heap.size := (Array.getElem?_eq_some_iff.1 hh).1
    refine .inr ⟨g, c, putCells encStr 0 (l.map baL).toArray cur, rfl, hb, ?_, hn, hm, by simp [putCells, hcs], ?_⟩
    · simp only [grow, putRow, mapBlock, Sort.ahead]
      rw [Array.getElem?_append_left (by simpa using hg), Array.getElem?_modify, if_pos rfl, hh]
      rfl
    · apply List.ext_getElem?
      intro t
      rw [List.getElem?_take]
      split
      · rename_i ht
        have ht2 : t < l.length := by omega
        have hc : t < cur.size := by rw [hcs]; omega
        rw [Array.getElem?_toList]
        simp only [putCells, Array.getElem?_mapIdx, Nat.zero_add, Nat.sub_zero, Nat.zero_le, true_and]
        rw [Array.getElem?_eq_getElem hc]
        simp only [Option.map_some, List.size_toArray, List.length_map]
        rw [if_pos ht2, _root_.getElem!_pos _ t (by simpa using ht2)]
        simp only [List.getElem_toArray, List.getElem_map]
        rw [enc_ba]
        simp [ht2]
      · rename_i ht
        rw [List.getElem?_eq_none (by simp [hl]; omega)]
def SortPost (base : Nat) (e : TypeId) (v : Value) (l : List ByteArray) (w : World) (en : Ending) (w' : World) : Prop := en = .returned (.tuple #[]) ∧ w'.ownsRow base e 1 v l.length ((sortT l).map Value.string) ∧ w.grownBy w' v.ownBlock
theorem sortS_any (v : Value) (l : List ByteArray) (w : World) (base : Nat) (e : TypeId) (ho : w.ownsRow base e 1 v l.length (l.map Value.string)) (hl : l.length < 4611686018427387904) :
    Calls Tryz.prog 51 #[v] w (SortPost base e v l w) := by
  rcases Nat.eq_zero_or_pos l.length with h0 | h0
  · have hl0 : l = [] := List.eq_nil_of_length_eq_zero h0
    subst hl0
    obtain ⟨A, c, rfl, -, -, -⟩ := own_form ho
    exact (Go.Proofs.Any.slices_Sort_string_none sortS A c w).mono fun en w' ⟨h1, h2⟩ => by
      rw [h2]
      exact ⟨h1, by simpa [sortT] using ho, World.grownBy.refl w _⟩
  · obtain ⟨h1, h2⟩ := id ho
    rcases h2 with ⟨-, h2⟩ | ⟨g, c, cur, rfl, -⟩
    · simp at h2
      rw [h2] at h0
      simp at h0
    · obtain ⟨hH, hg⟩ := own_holdsS ho
      have hcon := Go.Proofs.Any.slices_Sort_string sortS g 0 c (l.map baL) w hH hg (by simpa using hl)
      rw [List.length_map] at hcon
      refine hcon.mono ?_
      rintro en w' ⟨h3, q, os, rfl⟩
      have e : ((l.map baL).mergeSort fun x y => decide (x ≤ y)) = (sortT l).map baL := by
        unfold sortT
        rw [List.map_map]
        conv => lhs; rw [← List.map_id ((l.map baL).mergeSort fun x y => decide (x ≤ y))]
        exact List.map_congr_left fun s _ => rfl
      rw [e]
      exact ⟨h3, own_sortedS ho (sortT_len l) q os, putRow_grown g _ q os⟩
end Go.Proofs.YtfpepdjffehbcaaGreat
/-
  The walk of pool.Pool: the pool of lists of texts. Condition: at most 10000000 texts in all, at most 1000 lists.
-/
set_option linter.unusedVariables false
set_option linter.unusedSimpArgs false
namespace Go.Proofs.YtfpepdjffehbcaaGreat
open Go.RowKit

theorem law_str : Maps.Keyed Tryz.prog 9 := Maps.string_keyed Tryz.underlying9
abbrev MapS (w : World) (b n m : Nat) (f : ByteArray → Option Value) : Prop := MapG Tryz.prog 9 strL strOk w b n m f
theorem key_str {s : ByteArray} (h : s.size ≤ maxLen) : keyOf Tryz.prog 9 (.string s) = some (strL s) := Go.WideMaps.keyOf_string_mk Tryz.underlying9 h
theorem zero_bool (w : World) : (zeroValue 4).run Tryz.prog w = .ok (.bool false) w := by kernel_rfl
theorem own_map {κ : Type} {P : Program} {k : TypeId} {kl : κ → Lit} {ok : κ → Prop} {w : World} {b n m : Nat} {f : κ → Option Value} {base : Nat} {e : TypeId} {size c : Nat} {v : Value} {xs : List Value} (h : MapG P k kl ok w b n m f) (ho : w.ownsRow base e size v c xs) : v.ownBlock ≠ some b := by
  obtain ⟨D, ⟨es, clock, hb, _⟩, _⟩ := h
  obtain ⟨h1, h2⟩ := ho
  rcases h2 with ⟨rfl, -⟩ | ⟨g, cap, cur, rfl, -, hh, -⟩
  · simp [Value.ownBlock]
  · intro e
    simp only [Value.ownBlock, Option.some.injEq] at e
    subst e
    rw [hb] at hh
    cases hh
/-- What is read beside a map that is written. -/
theorem reads_map {κ : Type} {P : Program} {k : TypeId} {kl : κ → Lit} {ok : κ → Prop} {w w' : World} {b n m B size c : Nat} {f : κ → Option Value} {A : Option Addr} {xs : List Value} (hm : MapG P k kl ok w b n m f) (h : Reads w B size A c xs) (hO : Only b w w') (hB : B ≤ w.heap.size) : Reads w' B size A c xs := by
  obtain ⟨D, ⟨es, clock, hb, _⟩, _⟩ := hm
  refine ⟨h.1, fun hc => ?_⟩
  obtain ⟨ad, rfl, had, hcl⟩ := h.2 hc
  refine ⟨ad, rfl, had, fun j u hj => ?_⟩
  have h1 := hcl j u hj
  have hne : (ad.add j).block ≠ b := fun e => by
    simp [World.cell?, e, hb] at h1
  exact (World.cell?_of_block (hO.block _ (by rw [block_of_add]; omega) (fun e => hne (Option.some.inj e)))).trans h1
/-- Lists of texts, read. -/
def ListsT (w : World) (A : Option Addr) (ls : List (Value × List ByteArray)) : Prop :=
  Reads w w.heap.size 1 A ls.length (ls.map (·.1)) ∧ ∀ x ∈ ls, Txts w w.heap.size x.1 x.2
def allT (ls : List (Value × List ByteArray)) : List ByteArray := ls.flatMap (·.2)
theorem ListsT.more {w w' : World} {A : Option Addr} {ls : List (Value × List ByteArray)} (h : ListsT w A ls) (hb : Below w.heap.size w w') : ListsT w' A ls :=
  ⟨(h.1.below hb).more hb.size, fun x hx => (h.2 x hx).on hb⟩
theorem str_one {l : List ByteArray} : ∀ u ∈ l.map Value.string, u.oneCell' = true := by
  intro u hu
  obtain ⟨x, -, rfl⟩ := List.mem_map.1 hu
  rfl
theorem lists_at {w : World} {A : Option Addr} {ls : List (Value × List ByteArray)} (h : ListsT w A ls) : ListsAtS w A (ls.map fun x => (x.1, x.2.length, x.2.map Value.string)) ∧ sumLS (ls.map fun x => (x.1, x.2.length, x.2.map Value.string)) = (allT ls).length ∧ flatLS (ls.map fun x => (x.1, x.2.length, x.2.map Value.string)) = (allT ls).map Value.string := by
  refine ⟨⟨by simpa [Function.comp_def] using h.1, fun x hx => ?_⟩, ?_, ?_⟩
  · obtain ⟨y, hy, rfl⟩ := List.mem_map.1 hx
    exact ⟨h.2 y hy, str_one⟩
  · clear h
    induction ls with
    | nil => rfl
    | cons x ls ih => simp only [sumLS, allT, List.map_cons, List.sum_cons, List.flatMap_cons, List.length_append] at ih ⊢; omega
  · clear h
    induction ls with
    | nil => rfl
    | cons x ls ih => simp only [flatLS, allT, List.map_cons, List.flatMap_cons, List.map_append] at ih ⊢; rw [ih]
def PoolPost (l : List ByteArray) (w : World) (e : Ending) (w' : World) : Prop := (∃ v, e = .returned v ∧ w'.ownsRow w.heap.size 9 1 v (poolL bl l).length ((poolL bl l).map Value.string)) ∧ Below w.heap.size w w'
/-- The texts met so far, each once. -/
def MetT (l : List ByteArray) (p : Nat) (out : List ByteArray) : Prop := out.Nodup ∧ (∀ x, x ∈ out ↔ x ∈ l.take p) ∧ out.length ≤ p
def metB (out : List ByteArray) (s : ByteArray) : Bool := out.any fun x => decide (x = s)
theorem metB_iff {out : List ByteArray} {s : ByteArray} : metB out s = true ↔ s ∈ out := by simp [metB]
theorem metB_not {out : List ByteArray} {s : ByteArray} (h : s ∉ out) : metB out s = false := by
  cases e : metB out s
  · rfl
  · exact absurd (metB_iff.1 e) h
def metF (out : List ByteArray) : ByteArray → Option Value := fun s => if metB out s = true then some (.bool true) else none
theorem metF_put (out : List ByteArray) (x : ByteArray) : putMF (metF out) x (.bool true) = metF (out ++ [x]) := by
  funext s
  unfold putMF metF
  by_cases h : s = x
  · rw [if_pos h, if_pos (metB_iff.2 (by simp [h]))]
  · rw [if_neg h]
    by_cases h2 : s ∈ out
    · rw [if_pos (metB_iff.2 h2), if_pos (metB_iff.2 (by simp [h2]))]
    · rw [if_neg (by simp [metB_not h2]), if_neg (by simp [metB_not (show s ∉ out ++ [x] by simp [h2, h])])]
theorem MetT.skip {l : List ByteArray} {p : Nat} {out : List ByteArray} {x : ByteArray} (h : MetT l p out) (hx : l[p]? = some x) (hm : x ∈ out) : MetT l (p + 1) out := by
  refine ⟨h.1, fun y => (h.2.1 y).trans ?_, Nat.le_succ_of_le h.2.2⟩
  rw [List.take_add_one, hx]
  simp only [Option.toList_some, List.mem_append, List.mem_singleton]
  exact ⟨.inl, fun hy => hy.elim id fun e => (h.2.1 y).1 (by rw [e]; exact hm)⟩
theorem MetT.put {l : List ByteArray} {p : Nat} {out : List ByteArray} {x : ByteArray} (h : MetT l p out) (hx : l[p]? = some x) (hm : x ∉ out) : MetT l (p + 1) (out ++ [x]) := by
  refine ⟨List.nodup_append.2 ⟨h.1, by simp, fun a ha b hb e => by simp at hb; subst hb; exact hm (by rw [← e]; exact ha)⟩, fun y => ?_, by have := h.2.2; simp; omega⟩
  rw [List.take_add_one, hx]
  simp only [Option.toList_some, List.mem_append, List.mem_singleton, h.2.1 y]
set_option maxHeartbeats 8000000 in
theorem pool_any (A : Option Addr) (c : Nat) (ls : List (Value × List ByteArray)) (w : World) (hl : ListsT w A ls) (hn : (allT ls).length ≤ 10000000) (hms : ls.length ≤ 1000) (hsz : ∀ x ∈ allT ls, x.size ≤ maxLen) :
    Calls Tryz.prog 63 #[.slice A ls.length c] w (PoolPost (allT ls) w) := by
  have hmm := @run_makeMap Tryz.prog
  have HB0 := Lib.hid ((Below.refl _ w).alloc (Nat.le_refl _) (.map #[] 0))
  obtain ⟨h1, h2, h3⟩ := lists_at (hl.more ((Below.refl _ w).alloc (Nat.le_refl _) (.map #[] 0)))
  have HC := Lib.hid (concat_anyS A ls.length c _ (w.alloc (.map #[] 0)) (by simp) h1 (by rw [h2]; exact hn) hms)
  have HFL := Lib.hid (And.intro h2 h3)
  have HM0 := Lib.hid (show MapS (w.alloc (.map #[] 0)) w.heap.size 0 0 (metF []) from by
    have := MapG.made w Tryz.prog 9 strL strOk
    have e : metF [] = fun _ => none := by funext s; simp [metF, metB]
    rw [e]
    exact this)
  have HSZ := Lib.hid hsz
  have hm1 : (ls.length : Int) ≤ 1000 := by omega
  clear h1 h2 h3 hl hsz
  generalize allT ls = l at *
  obtain ⟨i0, hi0, hz0, hz1, hz2⟩ := info_parts str_info
  go_enter Tryz.func63, Tryz.ntmps63
  go_wp2_with (go_at_call 79; go_loud (refine HC.out.mono ?_; rintro en w1 ⟨v1, rfl, ho1, hb1⟩; rw [HFL.out.1, HFL.out.2] at ho1; obtain ⟨A1, c1, rfl, hc1, hm1, hr1⟩ := own_form ho1; have HB1 := Lib.hid hb1; have HR1 := Lib.hid hr1; clear ho1 hb1 hr1 hc1 hm1))
  clear hmm HC HFL
  have HMP := Lib.hid (HM0.out.on HB1.out)
  have HBB := Lib.hid (show Below w.heap.size w w1 from HB0.out.trans (HB1.out.mono (by simp)))
  clear HM0 HB0 HB1
  generalize hn0 : l.length = n at *
  have HN := Lib.hid hn0
  have hn1 : (n : Int) ≤ 10000000 := by omega
  clear hn0
  obtain ⟨w0, hw0⟩ : ∃ w0, w0 = w := ⟨_, rfl⟩
  go_loopw [4, 11] (fun ov iv wr => ∃ (p : Nat) (out : List ByteArray), iv = .int .i64 (p : Int) ∧ p ≤ n ∧ MetT l p out ∧ wr.ownsRow w1.heap.size 9 1 ov out.length (out.map Value.string) ∧ MapS wr w.heap.size p out.length (metF out) ∧ Only w.heap.size w1 wr) (fun _ iv _ => n - (Lib.intOf iv).toNat)
  case atStart => exact ⟨0, [], rfl, Nat.zero_le _, ⟨List.nodup_nil, fun x => by simp, Nat.le_refl _⟩, World.ownsRow_nil _ _ _ _, HMP.out, Only.refl _ _⟩
  case round =>
    obtain ⟨p, out, rfl, hp, hME, hO, hM, hOn⟩ := hrel
    have HME := Lib.hid hME
    have HO := Lib.hid hO
    have HM := Lib.hid hM
    have HON := Lib.hid hOn
    clear hME hO hM hOn
    have hol : (out.length : Int) ≤ 10000000 := by have := HME.out.2.2; omega
    by_cases hlt : p < n
    · obtain ⟨x, hx⟩ := at_lt (l := l) (p := p) (by have := HN.out; omega)
      have hq : (p : Int) < (n : Int) := by omega
      obtain ⟨b1, o1, rfl, hb1, hcl1⟩ := (reads_map HMP.out HR1.out HON.out (Nat.le_refl _)).spot (by omega) (by omega)
      have r0 := hcl1 _ _ (str_at hx)
      have hsx : x.size ≤ maxLen := HSZ.out x (List.mem_of_getElem? hx)
      have HX := Lib.hid hx
      have hlk := HM.out.look law_str Tryz.underlying80 (zero_bool wr) hsx (key_str hsx)
      clear hcl1 hx
      by_cases hxo : x ∈ out
      · have HXO := Lib.hid hxo
        rw [show (metF out x).getD (.bool false) = .bool true by simp [metF, metB_iff.2 hxo]] at hlk
        clear hxo hsx
        go_wp2
        go_roundw
        case rel => exact ⟨p + 1, out, by go_num, hlt, HME.out.skip HX.out HXO.out, HO.out, HM.out.mono (Nat.le_succ _), HON.out⟩
        case measure => simp [Lib.intOf]; omega
      · have HXO := Lib.hid hxo
        rw [show (metF out x).getD (.bool false) = .bool false by simp [metF, metB_not hxo]] at hlk
        obtain ⟨w2, hrun, hM2, hg2⟩ := HM.out.store law_str Tryz.underlying80 (by simp only [maxLen]; omega) strL_inj hsx (key_str hsx) (.bool true)
        rw [metF_put, show (metF out x).isSome = false by simp [metF, metB_not hxo]] at hM2
        have HM2 := Lib.hid hM2
        have HG2 := Lib.hid hg2
        have HO2 := Lib.hid (HO.out.kept hg2 (.inr (own_map HM.out HO.out)))
        clear hxo hsx hM2 hg2
        have HA := Lib.hid (And.intro (HO2.out.alloc (.cells #[.string x] 9)) (And.intro (reads_new w2 #[.string x] 9 1 1 rfl) (show w1.heap.size ≤ (w2.alloc (.cells #[.string x] 9)).heap.size by have := HON.out.size; have := HG2.out.size; simp; omega)))
        go_wp2_with (at_builtin; go_loud (refine wpList_append_any _ rfl (.tmp 21) (.tmp 23) _ rfl w1.heap.size 9 i0 _ 1 16 Tryz.underlying40 hi0 hz0 hz1 hz2 rfl (by omega) _ out.length (out.map Value.string) rfl HA.out.1 (w2.heap.size + 1) (some ⟨w2.heap.size, 0, none⟩) 1 1 [.string x] rfl HA.out.2.1 (by simp [Value.oneCell']) (by simp only [maxLen]; omega) (by omega) HA.out.2.2 ?_); intro v3 w3 hown3 hg3 hat3; have HOW := Lib.hid hown3; have HG := Lib.hid hg3; clear hown3 hg3 hat3)
        go_roundw
        case rel =>
          refine ⟨p + 1, out ++ [x], by go_num, hlt, HME.out.put HX.out HXO.out, by simpa using HOW.out, ?_, ?_⟩
          · have := (HM2.out.alloc (.cells #[.string x] 9)).kept HG.out (fun e => own_map (HM2.out.alloc (.cells #[.string x] 9)) HA.out.1 e.symm)
            simpa using this
          · have h1 : Only w.heap.size w1 w2 := HON.out.trans HG2.out
            have h2 := h1.alloc (.cells #[.string x] 9)
            refine ⟨HG.out.os.trans h2.os, HG.out.tape.trans h2.tape, HG.out.output.trans h2.output, Nat.le_trans h2.size HG.out.size, fun k hk hne => (HG.out.block k (Nat.lt_of_lt_of_le hk h2.size) (fun e => ?_)).trans (h2.block k hk hne)⟩
            have := (HA.out.1.lt k e.symm).1
            omega
        case measure => simp [Lib.intOf]; omega
    · obtain rfl : p = n := by omega
      have hq : ¬ (p : Int) < (p : Int) := by omega
      have HPE := Lib.hid (show sortT out = poolL bl l from (sortT_pool HME.out.1).trans (poolL_congr blT fun x => by rw [HME.out.2.1 x, List.take_of_length_le (by rw [HN.out]; exact Nat.le_refl _)]))
      have HPL := Lib.hid (show (poolL bl l).length = out.length by rw [← HPE.out, sortT_len])
      have HS := Lib.hid (fun v (h : wr.ownsRow w1.heap.size 9 1 v out.length (out.map Value.string)) => sortS_any v out wr w1.heap.size 9 h (by omega))
      go_wp2_with (go_at_call 51; go_loud (refine (HS.out _ HO.out).mono ?_; rintro en w3 ⟨rfl, ho3, hg3⟩; rw [HPE.out] at ho3; have HO3 := Lib.hid ho3; have HG3 := Lib.hid hg3; clear ho3 hg3))
      go_ret
      refine ⟨⟨_, rfl, by rw [HPL.out]; exact own_base HO3.out HBB.out.size⟩, ?_⟩
      have h1 : Below w.heap.size w wr := ⟨HON.out.os.trans HBB.out.os, HON.out.tape.trans HBB.out.tape, HON.out.output.trans HBB.out.output, Nat.le_trans HBB.out.size HON.out.size, fun k hk => (HON.out.block k (Nat.lt_of_lt_of_le hk HBB.out.size) (fun e => by cases e; omega)).trans (HBB.out.block k hk)⟩
      exact h1.grown HG3.out h1.size (fun k hk => Nat.le_trans HBB.out.size (HO.out.lt k hk).1)
end Go.Proofs.YtfpepdjffehbcaaGreat
