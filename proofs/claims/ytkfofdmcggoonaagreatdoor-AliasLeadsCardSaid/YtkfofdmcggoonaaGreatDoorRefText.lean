/-
  The walks of the document's dress and Text. Condition: the step is small.
-/
import Derived.Test.YtkfofdmcggoonaaGreatDoorPathText
import Derived.Test.YtkfofdmcggoonaaGreatDoorPathRT
import Derived.BigQuiet
namespace Go.Proofs.YtkfofdmcggoonaaGreatDoor
set_option linter.unusedVariables false
set_option linter.unusedSimpArgs false
open Go.RowKit

theorem ba_data {a b : ByteArray} (h : a.data.toList = b.data.toList) : a = b := by
  obtain ⟨⟨x⟩⟩ := a
  obtain ⟨⟨y⟩⟩ := b
  simp at h
  rw [h]
theorem cat_list2 (a b : ByteArray) : (a ++ b).data.toList = a.data.toList ++ b.data.toList := by rw [ByteArray.data_append, Array.toList_append]
theorem str_size (l : List UInt8) : (str l).size = l.length := by show l.toArray.size = l.length; simp
theorem str_list (l : List UInt8) : (str l).data.toList = l := rfl
theorem dress_next {s X : ByteArray} {p : Nat} (h : p < s.size) (hX : X = str (dressL (s.data.toList.take p))) :
    str (dressL (s.data.toList.take (p + 1))) = if 0 ≤ specialI (s[p].toNat : Int) then X ++ (⟨#[92]⟩ : ByteArray) ++ s.extract p (p + 1) else X ++ s.extract p (p + 1) := by
  have hb8 : s.data.toList[p]? = some s[p] := by
    have : p < s.data.toList.length := by rw [ba_len]; exact h
    rw [List.getElem?_eq_getElem this]
    rfl
  have he : (s.extract p (p + 1)).data.toList = [s[p]] := by
    have h1 : (s.extract p (p + 1)).data.toList = (s.data.toList.drop p).take 1 := by
      rw [ByteArray.data_extract, Array.toList_extract]
      simp [List.extract]
    rw [h1, List.drop_eq_getElem_cons (by rw [ba_len]; exact h)]
    rfl
  rw [dressL_take _ p _ hb8, hX]
  have ext : ∀ a b : ByteArray, a.data.toList = b.data.toList → a = b := fun a b h => ba_data h
  split
  · rename_i hs
    apply ext
    simp only [cat_list2, he, str_list]
    unfold dressB
    rw [if_pos hs]
    simp
  · rename_i hs
    apply ext
    simp only [cat_list2, he, str_list]
    unfold dressB
    rw [if_neg hs]

set_option maxHeartbeats 1000000 in
theorem dress_any (s : ByteArray) (w : World) (hs : s.size ≤ 2000000) :
    Calls Tryz.prog 85 #[.string s] w fun en w' => en = .returned (.string (str (dressL s.data.toList))) ∧ w = w' := by
  have hs1 : (s.size : Int) ≤ 2000000 := by omega
  go_enter Tryz.func85, Tryz.ntmps85
  go_wp2
  go_loop [3, 4] (fun ov iv => ∃ (p : Nat) (X : ByteArray), iv = .int .i64 (p : Int) ∧ ov = .string X ∧ p ≤ s.size ∧ X = str (dressL (s.data.toList.take p))) (fun _ iv => s.size - (Lib.intOf iv).toNat)
  case atStart => exact ⟨0, _, rfl, rfl, Nat.zero_le _, rfl⟩
  case round =>
    obtain ⟨p, X, rfl, rfl, hp, hX⟩ := hrel
    by_cases hlt : p < s.size
    · have hq : (p : Int) < (s.size : Int) := by omega
      have HN := Lib.hid (dress_next hlt hX)
      have hxs : X.size ≤ 2 * p := by
        rw [hX]
        have h1 := dressL_len (s.data.toList.take p)
        have h2 := List.length_take_le p s.data.toList
        have h3 : (str (dressL (s.data.toList.take p))).size = (dressL (s.data.toList.take p)).length := by show (dressL (s.data.toList.take p)).toArray.size = _; simp
        omega
      have HSP := Lib.hid (fun W => special_any (s[p].toNat : Int) W)
      obtain ⟨m2, hm2⟩ : ∃ m2, m2 = p + 1 := ⟨_, rfl⟩
      rw [← hm2] at HN
      have HM2 := Lib.hid hm2
      have hm2i : (p : Int) + 1 = (m2 : Int) := by omega
      have hes : (s.extract p m2).size = 1 := by simp; omega
      have hb4 : (p : Int) ≤ (m2 : Int) := by omega
      have hb5 : (m2 : Int) ≤ (s.size : Int) := by omega
      have hb1 : ¬ 9223372036854775807 < X.size + 1 := by omega
      have hb2 : ¬ 9223372036854775807 < X.size + 1 + (min m2 s.size - p) := by omega
      have hb3 : ¬ 9223372036854775807 < X.size + (min m2 s.size - p) := by omega
      generalize specialI (s[p].toNat : Int) = sp at *
      clear hX hes hxs hm2
      by_cases hsp : 0 ≤ sp
      · rw [if_pos hsp] at HN
        go_wp2_with (go_at_call 98; refine (HSP.out _).mono ?_; rintro en w1 ⟨rfl, rfl⟩)
        go_round
        case rel => exact ⟨m2, _, rfl, rfl, by have := HM2.out; omega, HN.out.symm⟩
        case measure => have := HM2.out; simp [Lib.intOf]; omega
      · rw [if_neg hsp] at HN
        go_wp2_with (go_at_call 98; refine (HSP.out _).mono ?_; rintro en w1 ⟨rfl, rfl⟩)
        go_round
        case rel => exact ⟨m2, _, rfl, rfl, by have := HM2.out; omega, HN.out.symm⟩
        case measure => have := HM2.out; simp [Lib.intOf]; omega
    · have hq : ¬ (p : Int) < (s.size : Int) := by omega
      have HX := Lib.hid (show X = str (dressL s.data.toList) by rw [hX, List.take_of_length_le (by rw [ba_len]; omega)])
      clear hX
      go_wp2
      go_ret
      exact ⟨by rw [← HX.out]; rfl, rfl⟩
/-- Where Text's loop is. -/
def RTextAt (nm : ByteArray) (ks : List PKey) (wA : World) (X : ByteArray) (p : Nat) (wr : World) : Prop :=
  X = str (nm.data.toList ++ (ks.take p).flatMap keyText) ∧ Below wA.heap.size wA wr ∧ p ≤ ks.length
theorem rtext_next {nm : ByteArray} {ks : List PKey} {X : ByteArray} {p : Nat} {k : PKey} (hk : ks[p]? = some k) (hX : X = str (nm.data.toList ++ (ks.take p).flatMap keyText)) :
    X ++ ((⟨#[91]⟩ : ByteArray) ++ k.1 ++ (⟨#[61]⟩ : ByteArray) ++ str (dressL k.2.data.toList) ++ (⟨#[93]⟩ : ByteArray)) = str (nm.data.toList ++ (ks.take (p + 1)).flatMap keyText) := by
  rw [List.take_add_one, hk, hX]
  apply ba_data
  simp [str_list, keyText, List.flatMap_append]
set_option maxHeartbeats 4000000 in
set_option maxRecDepth 100000 in
theorem rtext_any (st : PStep) (v : Value) (w : World) (hk : KeysAt w w.heap.size v st.2) (hs : StepSmall st) :
    Calls Tryz.prog 56 #[.agg #[.string st.1, v]] w (TextPost st w) := by
  obtain ⟨A, c, rfl, hkc, hcm, hRd⟩ := hk
  obtain ⟨nm, ks⟩ := st
  simp only at hkc hRd ⊢
  have HS := Lib.hid hs
  have HP := Lib.hid (textPre_len hs)
  clear hs
  generalize hlen : ks.length = n at *
  have HLEN := Lib.hid hlen
  have hn1 : (n : Int) ≤ 400000 := by have := HS.out.2.1; simp only at this; omega
  have HBA := Lib.hid (show Below w.heap.size w (w.alloc (.cells #[.string nm, .slice A n c] 70)) from (Below.refl _ _).alloc (Nat.le_refl _) _)
  have HRd := Lib.hid (hRd.below HBA.out)
  clear hlen hRd
  go_enter Tryz.func56, Tryz.ntmps56
  go_wp2
  generalize (w.alloc (.cells #[.string nm, .slice A n c] 70)) = wA at *
  go_loopw [3, 5, 11] (fun ov _ iv wr => ∃ (p : Nat) (X : ByteArray), iv = .int .i64 (p : Int) ∧ ov = .string X ∧ RTextAt nm ks wA X p wr) (fun _ _ iv _ => n - (Lib.intOf iv).toNat)
  case atStart => exact ⟨0, _, rfl, rfl, by rw [str_self nm]; simp [str], Below.refl _ _, Nat.zero_le _⟩
  case round =>
    obtain ⟨p, X, rfl, rfl, hX, hB, hp⟩ := hrel
    have hB1 := hB
    by_cases hlt : p < n
    · obtain ⟨k, hk⟩ : ∃ k, ks[p]? = some k := ⟨ks[p]'(by rw [HLEN.out]; exact hlt), by simp [HLEN.out, hlt]⟩
      have hq1 : (p : Int) < (n : Int) := by omega
      have hsk := HS.out.2.2 k (List.mem_of_getElem? hk)
      obtain ⟨b, o, rfl, hbo, hcells⟩ := (HRd.out.below (hB.mono HBA.out.size)).spot (by omega) (by omega)
      have hat := pairCells_at ks p k hk
      have r0 := hcells _ _ hat.1
      have r1 : wr.cell? ⟨b, o + p * 2 + 1, none⟩ = some (.string k.2) := hcells _ _ hat.2
      have HD := Lib.hid (fun W => dress_any k.2 W hsk.2)
      have HN := Lib.hid (rtext_next hk hX)
      have hds : (str (dressL k.2.data.toList)).size ≤ 4000000 := by
        have h1 := dressL_len k.2.data.toList
        have h3 : (str (dressL k.2.data.toList)).size = (dressL k.2.data.toList).length := by show (dressL k.2.data.toList).toArray.size = _; simp
        rw [ba_len] at h1
        have := hsk.2
        omega
      have hxs : X.size ≤ 2500000000000 := by
        have h3 : (str (nm.data.toList ++ (ks.take p).flatMap keyText)).size = (nm.data.toList ++ (ks.take p).flatMap keyText).length := by show (nm.data.toList ++ (ks.take p).flatMap keyText).toArray.size = _; simp
        rw [hX, h3]
        exact HP.out p
      have HB2 := Lib.hid (hB.alloc hB.size (.cells #[.string k.1, .string k.2] 33))
      have hk1 := hsk.1
      generalize str (dressL k.2.data.toList) = D at *
      have hc1 : ¬ 9223372036854775807 < 1 + k.1.size := by omega
      have hc2 : ¬ 9223372036854775807 < 1 + k.1.size + 1 := by omega
      have hc3 : ¬ 9223372036854775807 < 1 + k.1.size + 1 + D.size := by omega
      have hc4 : ¬ 9223372036854775807 < 1 + k.1.size + 1 + D.size + 1 := by omega
      have hc5 : ¬ 9223372036854775807 < X.size + (1 + k.1.size + 1 + D.size + 1) := by omega
      clear hcells hat hX hB hsk hk hB1
      go_wp2
      go_quiet ((go_at_call 85; exact quiet_left (HD.out _)))
      go_wp2
      go_roundw
      case rel => exact ⟨p + 1, _, by go_num, rfl, HN.out, below_drewN HB2.out _, by rw [HLEN.out]; exact hlt⟩
      case measure => simp [Lib.intOf]; omega
    · have hq : ¬ (p : Int) < (n : Int) := by omega
      have HX := Lib.hid (show X = str (textL (nm, ks)) by rw [hX, List.take_of_length_le (by rw [HLEN.out]; omega)]; rfl)
      have HBW := Lib.hid (HBA.out.trans (hB.mono HBA.out.size))
      clear hX hB hB1
      go_wp2
      go_ret
      exact ⟨by rw [← HX.out]; rfl, HBW.out⟩
end Go.Proofs.YtkfofdmcggoonaaGreatDoor
