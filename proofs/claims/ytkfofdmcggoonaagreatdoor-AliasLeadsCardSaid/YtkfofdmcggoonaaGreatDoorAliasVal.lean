/-
  The walks of what reads an alias's text: name and value. Condition: the string is within the reach; unicode/utf8's tables lie as their initialisers lay them.
-/
import Derived.Deep.RegionHeld3
import Derived.Test.YtkfofdmcggoonaaGreatDoorAliasScan
import Derived.Test.YtkfofdmcggoonaaGreatDoorDecLay
set_option linter.unusedVariables false
set_option linter.unusedSimpArgs false
namespace Go.Proofs.YtkfofdmcggoonaaGreatDoor
open Go.RowKit Go.Shelf

theorem atOf_as {w : World} {g : Nat} {s : ByteArray} {p : Nat} (h : AS w g s p) : atOf g w = p := by
  unfold atOf
  rw [h.c1]
  simp
theorem ext_nil (s : ByteArray) (q : Nat) : s.extract q q = ByteArray.empty := by
  apply ByteArray.ext
  simp
def ANamePost (g p : Nat) (s : ByteArray) (w : World) (en : Ending) (w' : World) : Prop := en = .returned (.string (s.extract p (aname s p))) ∧ AS w' g s (aname s p) ∧ Only g w w'
theorem aname_mk {g p q : Nat} {s : ByteArray} {w w' : World} {en : Ending} (h : aname s p = q) (he : en = .returned (.string (s.extract p q))) (ha : AS w' g s q) (ho : Only g w w') : ANamePost g p s w en w' := by
  subst h
  exact ⟨he, ha, ho⟩
set_option maxRecDepth 100000 in
set_option maxHeartbeats 4000000 in
theorem aname_any (g p : Nat) (s : ByteArray) (w : World) (h : AS w g s p) (hp : p ≤ s.size) (hs : s.size ≤ 140737488355328) :
    Calls Tryz.prog 35 #[.pointer (some ⟨g, 0, none⟩)] w (ANamePost g p s w) := by
  have HA0 := Lib.hid h
  have c0 := h.c0
  have c1 := h.c1
  clear h
  go_enter Tryz.func35, Tryz.ntmps35
  go_wp2
  clear c0 c1
  go_loopw [8] (fun _ wr => ∃ q : Nat, q ≤ s.size ∧ (q = p ∨ (p < q ∧ aname s p = nameEnd s q)) ∧ AS wr g s q ∧ Only g w wr) (fun _ wr => s.size - atOf g wr)
  case atStart => exact ⟨p, hp, .inl rfl, HA0.out, Only.refl _ _⟩
  case round =>
    obtain ⟨q, hq, hT, hA, hO⟩ := hrel
    have HA := Lib.hid hA
    have HO := Lib.hid hO
    have c0 := hA.c0
    have c1 := hA.c1
    have f1 := Blk.frozen hA 1
    clear hA hO
    by_cases hlt : q < s.size
    · have hq2 : (q : Int) < (s.size : Int) := by omega
      rcases hT with rfl | ⟨hpq, he⟩
      · have HS := Lib.hid (fun W => start_any s[q] W)
        have hpp : ((q : Int) == (q : Int)) = true := by simp
        have hgt : decide (q < q) = false := by simp
        have hgt2 : decide ((q : Int) < (q : Int)) = false := by simp
        cases hst : startB s[q]
        · rw [hst] at HS
          have HN := Lib.hid (show aname s q = q by unfold aname; rw [dif_pos hlt, hst]; rfl)
          clear hst
          go_wp2
          go_quiet ((go_at_call 61; exact quiet_left (HS.out _)))
          go_wp2
          go_quiet (fail)
          go_wp2
          go_ret
          exact aname_mk HN.out (by rw [ext_nil]; rfl) ((HA.out.drewN _).drewN _) ((HO.out.drewN _).drewN _)
        · rw [hst] at HS
          have HN := Lib.hid (show aname s q = nameEnd s (q + 1) by unfold aname; rw [dif_pos hlt, hst, nameEnd_step hlt, astart_name hst]; rfl)
          clear hst
          go_wp2
          go_quiet ((go_at_call 61; exact quiet_left (HS.out _)))
          go_wp2
          go_roundw
          case rel => exact ⟨q + 1, hlt, .inr ⟨by omega, HN.out⟩, (HA.out.drewN _).goto_ (q + 1), (HO.out.drewN _).setCell (.inl rfl) _⟩
          case measure =>
            have e1 := atOf_as ((HA.out.drewN nq).goto_ (q + 1))
            rw [show ((q + 1 : Nat) : Int) = (q : Int) + 1 by omega] at e1
            have e2 := atOf_as HA.out
            rw [e1, e2]
            omega
      · have HS := Lib.hid (fun W => nbyte_any s[q] W)
        have HE := Lib.hid he
        have hpp : ((q : Int) == (p : Int)) = false := by rw [beq_eq_false_iff_ne]; omega
        have hgt : decide (p < q) = true := by simpa using hpq
        have hgt2 : decide ((p : Int) < (q : Int)) = true := by simp; omega
        have hle : (p : Int) ≤ (q : Int) := by omega
        clear he
        cases hst : nameB s[q]
        · rw [hst] at HS
          have HN := Lib.hid (show aname s p = q by rw [HE.out, nameEnd_step hlt, hst]; rfl)
          clear hst
          go_wp2
          go_quiet ((go_at_call 62; exact quiet_left (HS.out _)))
          go_wp2
          go_quiet (fail)
          go_wp2
          go_ret
          exact aname_mk HN.out rfl ((HA.out.drewN _).drewN _) ((HO.out.drewN _).drewN _)
        · rw [hst] at HS
          have HN := Lib.hid (show aname s p = nameEnd s (q + 1) by rw [HE.out, nameEnd_step hlt, hst]; rfl)
          clear hst
          go_wp2
          go_quiet ((go_at_call 62; exact quiet_left (HS.out _)))
          go_wp2
          go_roundw
          case rel => exact ⟨q + 1, hlt, .inr ⟨by omega, HN.out⟩, (HA.out.drewN _).goto_ (q + 1), (HO.out.drewN _).setCell (.inl rfl) _⟩
          case measure =>
            have e1 := atOf_as ((HA.out.drewN nq).goto_ (q + 1))
            rw [show ((q + 1 : Nat) : Int) = (q : Int) + 1 by omega] at e1
            have e2 := atOf_as HA.out
            rw [e1, e2]
            omega
    · have hq3 : decide ((q : Int) < (s.size : Int)) = false := by simp; omega
      have hq4 : ¬ (q : Int) < (s.size : Int) := by omega
      have hqe : (q : Int) ≤ (s.size : Int) := by omega
      rcases hT with rfl | ⟨hpq, h⟩
      · have HN := Lib.hid (show aname s q = q by unfold aname; rw [dif_neg hlt])
        go_wp2
        go_quiet (fail)
        go_wp2
        go_quiet (fail)
        go_wp2
        go_ret
        exact aname_mk HN.out (by rw [ext_nil]; rfl) ((HA.out.drewN _).drewN _) ((HO.out.drewN _).drewN _)
      · have hle : (p : Int) ≤ (q : Int) := by omega
        have HN := Lib.hid (show aname s p = q by rw [h, nameEnd_end hlt])
        clear h
        go_wp2
        go_quiet (fail)
        go_wp2
        go_quiet (fail)
        go_wp2
        go_ret
        exact aname_mk HN.out rfl ((HA.out.drewN _).drewN _) ((HO.out.drewN _).drewN _)
/-- What stands from a place on, decoded. -/
theorem byN_from (s : ByteArray) (p k : Nat) (hp : p ≤ s.size) : byN (s.extract p s.size) k = byN s (p + k) := by
  have hz : (s.extract p s.size).size = s.size - p := by simp
  rcases Nat.lt_or_ge (p + k) s.size with h | h
  · rw [byN_at h, byN_at (by omega)]
    exact congrArg UInt8.toNat (ByteArray.getElem_extract _)
  · have e1 : byN s (p + k) = 0 := by
      unfold byN
      show (s.data[p + k]!).toNat = 0
      rw [getElem!_neg s.data (p + k) (by show ¬ p + k < s.size; omega)]
      rfl
    have e2 : byN (s.extract p s.size) k = 0 := by
      unfold byN
      show ((s.extract p s.size).data[k]!).toNat = 0
      rw [getElem!_neg (s.extract p s.size).data k (by show ¬ k < (s.extract p s.size).size; omega)]
      rfl
    rw [e1, e2]
theorem contN_from (s : ByteArray) (p k : Nat) (hp : p ≤ s.size) : contN (s.extract p s.size) k = contN s (p + k) := by
  unfold contN
  rw [byN_from s p k hp, show (s.extract p s.size).size = s.size - p by simp]
  congr 1
  rw [decide_eq_decide]
  omega
theorem decode_from (s : ByteArray) (p : Nat) (hp : p < s.size) : Lib.decodeGo (s.extract p s.size) = Utf8.decode s p := by
  unfold Lib.decodeGo
  rw [if_neg (by simp; omega), decode_raw, decode_raw]
  simp only [byN_from s p _ (Nat.le_of_lt hp), contN_from s p _ (Nat.le_of_lt hp), Nat.add_zero, Nat.zero_add]
abbrev Tabs (w : World) : Prop := Lib.Utf8Tabs 1 2 w
theorem tabs_only {g : Nat} {w w' : World} (h : Tabs w) (hO : Only g w w') (hg : 3 ≤ g) : Tabs w' := by
  have lt : ∀ {a : Addr} {v : Value}, w.cell? a = some v → a.block < w.heap.size := fun {a v} hc => World.block_lt_of_cell? _ _ hc
  refine ⟨fun c hc => ?_, fun i hi => ⟨?_, ?_⟩⟩
  · have h1 := h.1 c hc
    exact (World.cell?_of_block (hO.block _ (lt h1) (fun e => by have e2 := Option.some.inj e; simp only at e2; omega))).trans h1
  · have h1 := (h.2 i hi).1
    exact (World.cell?_of_block (hO.block _ (lt h1) (fun e => by have e2 := Option.some.inj e; simp only at e2; omega))).trans h1
  · have h1 := (h.2 i hi).2
    exact (World.cell?_of_block (hO.block _ (lt h1) (fun e => by have e2 := Option.some.inj e; simp only at e2; omega))).trans h1
theorem decrune_any (s : ByteArray) (p : Nat) (w : World) (hp : p < s.size) (hT : Tabs w) :
    Calls Tryz.prog 63 #[.string (s.extract p s.size)] w fun e w' => e = .returned (.tuple #[.int .i32 (Utf8.decode s p).1, .int .i64 (Utf8.decode s p).2]) ∧ Below w.heap.size w w' := by
  have h := Go.Proofs.Any.utf8_DecodeRuneInString decL (s.extract p s.size) w hT
  rw [decode_from s p hp] at h
  exact h
/-- What value leaves. -/
def avalueM (s : ByteArray) (p : Nat) : Nat × Option ByteArray :=
  if (standsB s p 39 || standsB s p 34) = true then
    match avalM s (if standsB s p 39 = true then 39 else 34) (p + 1) with
    | (t, true) => (t + 1, some (s.extract (p + 1) t))
    | (t, false) => (t, none)
  else (p, none)
def AValPost (g p : Nat) (s : ByteArray) (w : World) (en : Ending) (w' : World) : Prop :=
  (∃ v, en = .returned (.tuple #[.string v, .bool (avalueM s p).2.isSome]) ∧ ∀ x, (avalueM s p).2 = some x → v = x) ∧ AS w' g s (avalueM s p).1 ∧ Only g w w'
theorem avalue_bad {s : ByteArray} {p t : Nat} {c : UInt8} (h : (standsB s p 39 || standsB s p 34) = true) (hc : (if standsB s p 39 = true then 39 else 34) = c) (ht : avalM s c (p + 1) = (t, false)) : avalueM s p = (t, none) := by
  unfold avalueM
  rw [if_pos h, hc, ht]
theorem avalue_ok {s : ByteArray} {p t : Nat} {c : UInt8} (h : (standsB s p 39 || standsB s p 34) = true) (hc : (if standsB s p 39 = true then 39 else 34) = c) (ht : avalM s c (p + 1) = (t, true)) : avalueM s p = (t + 1, some (s.extract (p + 1) t)) := by
  unfold avalueM
  rw [if_pos h, hc, ht]
theorem aval_no {g p t : Nat} {s v : ByteArray} {w w' : World} {en : Ending} (h : avalueM s p = (t, none)) (he : en = .returned (.tuple #[.string v, .bool false])) (ha : AS w' g s t) (ho : Only g w w') : AValPost g p s w en w' := by
  unfold AValPost
  rw [h]
  exact ⟨⟨v, he, fun x hx => by cases hx⟩, ha, ho⟩
theorem aval_yes {g p t : Nat} {s v : ByteArray} {w w' : World} {en : Ending} (h : avalueM s p = (t, some v)) (he : en = .returned (.tuple #[.string v, .bool true])) (ha : AS w' g s t) (ho : Only g w w') : AValPost g p s w en w' := by
  unfold AValPost
  rw [h]
  exact ⟨⟨v, he, fun x hx => Option.some.inj hx⟩, ha, ho⟩
/-- The walk once the quote is known. -/
def AValAt (g p : Nat) (s : ByteArray) (c : UInt8) (w : World) (q : Nat) (wr : World) : Prop := p + 1 ≤ q ∧ q ≤ s.size ∧ avalM s c (p + 1) = avalM s c q ∧ AS wr g s q ∧ Only g w wr
set_option maxRecDepth 100000 in
set_option maxHeartbeats 8000000 in
theorem avalue_any (g p : Nat) (s : ByteArray) (w : World) (h : AS w g s p) (hp : p ≤ s.size) (hs : s.size ≤ 140737488355328) (hT : Tabs w) (hg : 3 ≤ g) :
    Calls Tryz.prog 37 #[.pointer (some ⟨g, 0, none⟩)] w (AValPost g p s w) := by
  have HA0 := Lib.hid h
  have HTA := Lib.hid (fun W (hO : Only g w W) => tabs_only hT hO hg)
  have HON := Lib.hid (fun W (h : AS W g s p) (b : UInt8) => on_any g p s b W h hs)
  cases hst : (standsB s p 39 || standsB s p 34)
  · obtain ⟨h1, h2⟩ := Bool.or_eq_false_iff.1 hst
    have HNO := Lib.hid (show avalueM s p = (p, none) by unfold avalueM; rw [if_neg (by rw [hst]; simp)])
    have H39 := Lib.hid (fun W h => HON.out W h 39)
    have H34 := Lib.hid (fun W h => HON.out W h 34)
    rw [h1] at H39
    rw [h2] at H34
    clear h h1 h2 hst hT
    go_enter Tryz.func37, Tryz.ntmps37
    go_wp2_with fail
    refine (H39.out _ HA0.out).mono ?_
    rintro en w1 ⟨rfl, q1, rfl⟩
    go_wp2_with fail
    refine (H34.out _ (HA0.out.drewN _)).mono ?_
    rintro en w1 ⟨rfl, q2, rfl⟩
    go_wp2
    go_ret2
    exact aval_no HNO.out rfl (HA0.out.drewN _) ((Only.refl _ _).drewN _)
  · cases h1 : standsB s p 39
    · have h2 : standsB s p 34 = true := by rw [h1] at hst; simpa using hst
      obtain ⟨hlt, hcq⟩ := stands_at h2
      have HST := Lib.hid hst
      have HQC := Lib.hid (show (if standsB s p 39 = true then (39 : UInt8) else 34) = 34 by rw [h1]; rfl)
      have hcb : (s[p].toNat : Int) = 34 := by rw [hcq]; rfl
      have hq0 : (p : Int) < (s.size : Int) := by omega
      have H39 := Lib.hid (fun W h => HON.out W h 39)
      have H34 := Lib.hid (fun W h => HON.out W h 34)
      rw [h1] at H39
      rw [h2] at H34
      clear h h1 h2 hst hT hcq
      go_enter Tryz.func37, Tryz.ntmps37
      go_wp2_with fail
      refine (H39.out _ HA0.out).mono ?_
      rintro en w1 ⟨rfl, q1, rfl⟩
      go_wp2_with fail
      refine (H34.out _ (HA0.out.drewN _)).mono ?_
      rintro en w1 ⟨rfl, q2, rfl⟩
      go_upto_region 3 with (fail)
      have HA3 := Lib.hid (HA0.out.drewN ((q1 + q2)))
      have HO3 := Lib.hid ((Only.refl g w).drewN ((q1 + q2)))
      generalize w.drewN ((q1 + q2)) = w3 at *
      have c0 := HA3.out.c0
      have c1 := HA3.out.c1
      have f1 := Blk.frozen HA3.out 1
      go_quiet (fail)
      go_wp2
      clear c0 c1 f1
      obtain ⟨P, hP⟩ : ∃ P : Nat, P = p + 1 := ⟨_, rfl⟩
      rw [show (p : Int) + 1 = (P : Int) by omega]
      have HP := Lib.hid hP
      have HA4 := Lib.hid ((HA3.out.drewN nq).goto_ P)
      have HO4 := Lib.hid ((HO3.out.drewN nq).setCell (p := ⟨g, 1, none⟩) (.inl rfl) (.int .i64 (P : Int)))
      generalize (w3.drewN nq).setCell ⟨g, 1, none⟩ (.int .i64 (P : Int)) = w4 at *
      have hlt2 : P ≤ s.size := by omega
      clear hP
      go_loopw [37] (fun _ wr => ∃ q : Nat, AValAt g p s 34 w q wr) (fun _ wr => s.size - atOf g wr)
      case atStart => exact ⟨P, by rw [HP.out]; exact Nat.le_refl _, hlt2, by rw [HP.out], HA4.out, HO4.out⟩
      case round =>
        obtain ⟨q, hpq, hqs, hE, hA, hO⟩ := hrel
        have HE := Lib.hid hE
        have HA := Lib.hid hA
        have HO := Lib.hid hO
        have c0 := hA.c0
        have c1 := hA.c1
        have f1 := Blk.frozen hA 1
        have hle : (P : Int) ≤ (q : Int) := by have := HP.out; omega
        have hqe : (q : Int) ≤ (s.size : Int) := by omega
        have hs1 : (s.size : Int) ≤ 140737488355328 := by omega
        clear hE hA hO
        by_cases hq : q < s.size
        · have hq2 : (q : Int) < (s.size : Int) := by omega
          by_cases hqc : s[q] = 34
          · have hqb : ((s[q].toNat : Int) == 34) = true := by rw [hqc]; rfl
            have HM := Lib.hid (show mustM s q (Utf8.encode 34).data.toList = (q + 1, true) by rw [show (Utf8.encode 34).data.toList = [34] by rfl]; simp only [mustM]; rw [if_pos]; unfold standsB; rw [dif_pos hq, hqc]; rfl)
            have HR := Lib.hid (avalue_ok HST.out HQC.out (by rw [HE.out, avalM_step hq, if_pos hqc]))
            have HMU := Lib.hid (fun W (h : AS W g s q) => must_any g q s (Utf8.encode 34) W h hqs hs (by decide))
            clear hqc
            go_wp2
            go_quiet (fail)
            go_wp2
            go_quiet (fail)
            go_wp2_with fail
            refine (HMU.out _ (HA.out.drewN _)).mono ?_
            rintro en wt ⟨he, ha, ho⟩
            rw [HM.out] at he ha
            have HA9 := Lib.hid ha
            have HO9 := Lib.hid ho
            clear ha ho
            subst he
            go_wp2
            go_ret2
            exact aval_yes HR.out (by rw [HP.out]; rfl) HA9.out ((HO.out.drewN _).trans HO9.out)
          · have HNC := Lib.hid hqc
            have hqb : ((s[q].toNat : Int) == 34) = false := by have h1 := beq_dec s[q] 34; rw [show (s[q] == 34) = false by simpa using hqc] at h1; exact h1.symm
            clear hqc
            go_wp2
            go_quiet (fail)
            go_upto_region 7 with (fail)
            have HA6 := Lib.hid (HA.out.drewN nq)
            have HO6 := Lib.hid (HO.out.drewN nq)
            generalize wr.drewN nq = w6 at *
            have k0 := HA6.out.c0
            have k1 := HA6.out.c1
            have HC := Lib.hid (show ∀ X, Below w6.heap.size w6 X → X.cell? ⟨g, 0, none⟩ = some (.string s) ∧ X.cell? ⟨g, 1, none⟩ = some (.int .i64 (q : Int)) from fun X hb => ⟨AS.c0 (Blk.below HA6.out hb (Blk.lt HA6.out)), AS.c1 (Blk.below HA6.out hb (Blk.lt HA6.out))⟩)
            have HTT := Lib.hid (fun X (hb : Below w6.heap.size w6 X) => decrune_any s q X hq (HTA.out X (HO6.out.trans (Only.of_below hb))))
            have HB : Hid (Below w6.heap.size w6 w6.drew) := Lib.hid (below_drewN (Below.refl _ _) 1)
            have HDP := Lib.hid (decode_pos s q)
            have HDI := Lib.hid (decode_in hq)
            have HBAD := Lib.hid (show avBad s q = true → avalueM s p = (q, none) from fun hb => avalue_bad HST.out HQC.out (by rw [HE.out, avalM_step hq, if_neg HNC.out, if_pos hb]))
            have HGO := Lib.hid (show avBad s q = false → avalM s 34 (p + 1) = avalM s 34 (q + (Utf8.decode s q).2) from fun hb => by rw [HE.out, avalM_step hq, if_neg HNC.out, if_neg (by rw [hb]; simp)])
            have HAV := Lib.hid (show avBad s q = (decide (Utf8.decode s q = (65533, 1)) || controlR ((Utf8.decode s q).1 : Int)) from rfl)
            generalize Utf8.decode s q = D at *
            obtain ⟨R, N⟩ := D
            simp only at *
            go_region_held3 (fun w' => w'.cell? ⟨g, 0, none⟩ = some (.string s) ∧ w'.cell? ⟨g, 1, none⟩ = some (.int .i64 (q : Int))) (go_keep) (first
              | (go_at_call 63; go_loud (refine (HTT.out _ HB.out).mono ?_; rintro e wt ⟨rfl, hBt⟩; have HB := Lib.hid (HB.out.trans (hBt.mono HB.out.size)); obtain ⟨k0, k1⟩ := HC.out wt HB.out; clear hBt))
              | fail "no arm")
            all_goals
              have HAW := Lib.hid (show AS _ g s q from Blk.below HA6.out HB.out (Blk.lt HA6.out))
              have HOW := Lib.hid (HO6.out.trans (Only.of_below HB.out))
              have f1 := Blk.frozen HAW.out 1
              generalize wt = wz at *
              have hDI : (q : Int) + (N : Int) ≤ (s.size : Int) := by have := HDI.out; omega
              by_cases hr : R = 65533
              · subst hr
                by_cases hn : N = 1
                · subst hn
                  have HB9 := Lib.hid (HBAD.out (by rw [HAV.out]; rfl))
                  go_wp2
                  go_ret2
                  exact aval_no HB9.out rfl HAW.out HOW.out
                · have hn1 : ((N : Int) == 1) = false := by rw [beq_eq_false_iff_ne]; omega
                  have HG9 := Lib.hid (HGO.out (by rw [HAV.out]; simp [controlR, hn]))
                  go_wp2
                  go_roundw
                  case rel => exact ⟨q + N, by omega, by omega, HG9.out, HAW.out.goto_ (q + N), HOW.out.setCell (.inl rfl) _⟩
                  case measure =>
                    have e1 := atOf_as (HAW.out.goto_ (q + N))
                    rw [show ((q + N : Nat) : Int) = (q : Int) + (N : Int) by omega] at e1
                    have e2 := atOf_as HA.out
                    have e3 := HDP.out
                    rw [e1, e2]
                    omega
              · have hr1 : ((R : Int) == 65533) = false := by rw [beq_eq_false_iff_ne]; omega
                by_cases hl : R < 32
                · have hl1 : (R : Int) < 32 := by omega
                  have hl2 : decide ((R : Int) < 32) = true := by simp; omega
                  have HB9 := Lib.hid (HBAD.out (by rw [HAV.out]; simp only [controlR, hl2, Bool.true_or, Bool.or_true]))
                  clear hl2
                  go_wp2
                  go_ret2
                  exact aval_no HB9.out rfl HAW.out HOW.out
                · have hl1 : ¬ (R : Int) < 32 := by omega
                  by_cases hd : R = 127
                  · subst hd
                    have HB9 := Lib.hid (HBAD.out (by rw [HAV.out]; simp [controlR]))
                    go_wp2
                    go_ret2
                    exact aval_no HB9.out rfl HAW.out HOW.out
                  · have hd1 : ((R : Int) == 127) = false := by rw [beq_eq_false_iff_ne]; omega
                    have HG9 := Lib.hid (HGO.out (by rw [HAV.out]; simp [controlR, hr]; omega))
                    go_wp2
                    go_roundw
                    case rel => exact ⟨q + N, by omega, by omega, HG9.out, HAW.out.goto_ (q + N), HOW.out.setCell (.inl rfl) _⟩
                    case measure =>
                      have e1 := atOf_as (HAW.out.goto_ (q + N))
                      rw [show ((q + N : Nat) : Int) = (q : Int) + (N : Int) by omega] at e1
                      have e2 := atOf_as HA.out
                      have e3 := HDP.out
                      rw [e1, e2]
                      omega
        · have hq3 : decide ((q : Int) < (s.size : Int)) = false := by simp; omega
          have HM := Lib.hid (show mustM s q (Utf8.encode 34).data.toList = (q, false) by rw [show (Utf8.encode 34).data.toList = [34] by rfl]; simp only [mustM]; rw [if_neg]; unfold standsB; rw [dif_neg hq]; simp)
          have HR := Lib.hid (show avalueM s p = (q, none) from avalue_bad HST.out HQC.out (by rw [HE.out, avalM_end hq]))
          have HMU := Lib.hid (fun W (h : AS W g s q) => must_any g q s (Utf8.encode 34) W h hqs hs (by decide))
          go_wp2
          go_quiet (fail)
          go_wp2
          go_quiet (fail)
          go_wp2_with fail
          refine (HMU.out _ (HA.out.drewN _)).mono ?_
          rintro en wt ⟨he, ha, ho⟩
          rw [HM.out] at he ha
          have HA9 := Lib.hid ha
          have HO9 := Lib.hid ho
          clear ha ho
          subst he
          go_wp2
          go_ret2
          exact aval_no HR.out rfl HA9.out ((HO.out.drewN _).trans HO9.out)
    · obtain ⟨hlt, hcq⟩ := stands_at h1
      have HST := Lib.hid hst
      have HQC := Lib.hid (show (if standsB s p 39 = true then (39 : UInt8) else 34) = 39 by rw [h1]; rfl)
      have hcb : (s[p].toNat : Int) = 39 := by rw [hcq]; rfl
      have hq0 : (p : Int) < (s.size : Int) := by omega
      have H39 := Lib.hid (fun W h => HON.out W h 39)
      rw [h1] at H39
      clear h h1 hst hT hcq
      go_enter Tryz.func37, Tryz.ntmps37
      go_wp2_with fail
      refine (H39.out _ HA0.out).mono ?_
      rintro en w1 ⟨rfl, q1, rfl⟩
      go_upto_region 3 with (fail)
      have HA3 := Lib.hid (HA0.out.drewN (q1))
      have HO3 := Lib.hid ((Only.refl g w).drewN (q1))
      generalize w.drewN (q1) = w3 at *
      have c0 := HA3.out.c0
      have c1 := HA3.out.c1
      have f1 := Blk.frozen HA3.out 1
      go_quiet (fail)
      go_wp2
      clear c0 c1 f1
      obtain ⟨P, hP⟩ : ∃ P : Nat, P = p + 1 := ⟨_, rfl⟩
      rw [show (p : Int) + 1 = (P : Int) by omega]
      have HP := Lib.hid hP
      have HA4 := Lib.hid ((HA3.out.drewN nq).goto_ P)
      have HO4 := Lib.hid ((HO3.out.drewN nq).setCell (p := ⟨g, 1, none⟩) (.inl rfl) (.int .i64 (P : Int)))
      generalize (w3.drewN nq).setCell ⟨g, 1, none⟩ (.int .i64 (P : Int)) = w4 at *
      have hlt2 : P ≤ s.size := by omega
      clear hP
      go_loopw [37] (fun _ wr => ∃ q : Nat, AValAt g p s 39 w q wr) (fun _ wr => s.size - atOf g wr)
      case atStart => exact ⟨P, by rw [HP.out]; exact Nat.le_refl _, hlt2, by rw [HP.out], HA4.out, HO4.out⟩
      case round =>
        obtain ⟨q, hpq, hqs, hE, hA, hO⟩ := hrel
        have HE := Lib.hid hE
        have HA := Lib.hid hA
        have HO := Lib.hid hO
        have c0 := hA.c0
        have c1 := hA.c1
        have f1 := Blk.frozen hA 1
        have hle : (P : Int) ≤ (q : Int) := by have := HP.out; omega
        have hqe : (q : Int) ≤ (s.size : Int) := by omega
        have hs1 : (s.size : Int) ≤ 140737488355328 := by omega
        clear hE hA hO
        by_cases hq : q < s.size
        · have hq2 : (q : Int) < (s.size : Int) := by omega
          by_cases hqc : s[q] = 39
          · have hqb : ((s[q].toNat : Int) == 39) = true := by rw [hqc]; rfl
            have HM := Lib.hid (show mustM s q (Utf8.encode 39).data.toList = (q + 1, true) by rw [show (Utf8.encode 39).data.toList = [39] by rfl]; simp only [mustM]; rw [if_pos]; unfold standsB; rw [dif_pos hq, hqc]; rfl)
            have HR := Lib.hid (avalue_ok HST.out HQC.out (by rw [HE.out, avalM_step hq, if_pos hqc]))
            have HMU := Lib.hid (fun W (h : AS W g s q) => must_any g q s (Utf8.encode 39) W h hqs hs (by decide))
            clear hqc
            go_wp2
            go_quiet (fail)
            go_wp2
            go_quiet (fail)
            go_wp2_with fail
            refine (HMU.out _ (HA.out.drewN _)).mono ?_
            rintro en wt ⟨he, ha, ho⟩
            rw [HM.out] at he ha
            have HA9 := Lib.hid ha
            have HO9 := Lib.hid ho
            clear ha ho
            subst he
            go_wp2
            go_ret2
            exact aval_yes HR.out (by rw [HP.out]; rfl) HA9.out ((HO.out.drewN _).trans HO9.out)
          · have HNC := Lib.hid hqc
            have hqb : ((s[q].toNat : Int) == 39) = false := by have h1 := beq_dec s[q] 39; rw [show (s[q] == 39) = false by simpa using hqc] at h1; exact h1.symm
            clear hqc
            go_wp2
            go_quiet (fail)
            go_upto_region 7 with (fail)
            have HA6 := Lib.hid (HA.out.drewN nq)
            have HO6 := Lib.hid (HO.out.drewN nq)
            generalize wr.drewN nq = w6 at *
            have k0 := HA6.out.c0
            have k1 := HA6.out.c1
            have HC := Lib.hid (show ∀ X, Below w6.heap.size w6 X → X.cell? ⟨g, 0, none⟩ = some (.string s) ∧ X.cell? ⟨g, 1, none⟩ = some (.int .i64 (q : Int)) from fun X hb => ⟨AS.c0 (Blk.below HA6.out hb (Blk.lt HA6.out)), AS.c1 (Blk.below HA6.out hb (Blk.lt HA6.out))⟩)
            have HTT := Lib.hid (fun X (hb : Below w6.heap.size w6 X) => decrune_any s q X hq (HTA.out X (HO6.out.trans (Only.of_below hb))))
            have HB : Hid (Below w6.heap.size w6 w6.drew) := Lib.hid (below_drewN (Below.refl _ _) 1)
            have HDP := Lib.hid (decode_pos s q)
            have HDI := Lib.hid (decode_in hq)
            have HBAD := Lib.hid (show avBad s q = true → avalueM s p = (q, none) from fun hb => avalue_bad HST.out HQC.out (by rw [HE.out, avalM_step hq, if_neg HNC.out, if_pos hb]))
            have HGO := Lib.hid (show avBad s q = false → avalM s 39 (p + 1) = avalM s 39 (q + (Utf8.decode s q).2) from fun hb => by rw [HE.out, avalM_step hq, if_neg HNC.out, if_neg (by rw [hb]; simp)])
            have HAV := Lib.hid (show avBad s q = (decide (Utf8.decode s q = (65533, 1)) || controlR ((Utf8.decode s q).1 : Int)) from rfl)
            generalize Utf8.decode s q = D at *
            obtain ⟨R, N⟩ := D
            simp only at *
            go_region_held3 (fun w' => w'.cell? ⟨g, 0, none⟩ = some (.string s) ∧ w'.cell? ⟨g, 1, none⟩ = some (.int .i64 (q : Int))) (go_keep) (first
              | (go_at_call 63; go_loud (refine (HTT.out _ HB.out).mono ?_; rintro e wt ⟨rfl, hBt⟩; have HB := Lib.hid (HB.out.trans (hBt.mono HB.out.size)); obtain ⟨k0, k1⟩ := HC.out wt HB.out; clear hBt))
              | fail "no arm")
            all_goals
              have HAW := Lib.hid (show AS _ g s q from Blk.below HA6.out HB.out (Blk.lt HA6.out))
              have HOW := Lib.hid (HO6.out.trans (Only.of_below HB.out))
              have f1 := Blk.frozen HAW.out 1
              generalize wt = wz at *
              have hDI : (q : Int) + (N : Int) ≤ (s.size : Int) := by have := HDI.out; omega
              by_cases hr : R = 65533
              · subst hr
                by_cases hn : N = 1
                · subst hn
                  have HB9 := Lib.hid (HBAD.out (by rw [HAV.out]; rfl))
                  go_wp2
                  go_ret2
                  exact aval_no HB9.out rfl HAW.out HOW.out
                · have hn1 : ((N : Int) == 1) = false := by rw [beq_eq_false_iff_ne]; omega
                  have HG9 := Lib.hid (HGO.out (by rw [HAV.out]; simp [controlR, hn]))
                  go_wp2
                  go_roundw
                  case rel => exact ⟨q + N, by omega, by omega, HG9.out, HAW.out.goto_ (q + N), HOW.out.setCell (.inl rfl) _⟩
                  case measure =>
                    have e1 := atOf_as (HAW.out.goto_ (q + N))
                    rw [show ((q + N : Nat) : Int) = (q : Int) + (N : Int) by omega] at e1
                    have e2 := atOf_as HA.out
                    have e3 := HDP.out
                    rw [e1, e2]
                    omega
              · have hr1 : ((R : Int) == 65533) = false := by rw [beq_eq_false_iff_ne]; omega
                by_cases hl : R < 32
                · have hl1 : (R : Int) < 32 := by omega
                  have hl2 : decide ((R : Int) < 32) = true := by simp; omega
                  have HB9 := Lib.hid (HBAD.out (by rw [HAV.out]; simp only [controlR, hl2, Bool.true_or, Bool.or_true]))
                  clear hl2
                  go_wp2
                  go_ret2
                  exact aval_no HB9.out rfl HAW.out HOW.out
                · have hl1 : ¬ (R : Int) < 32 := by omega
                  by_cases hd : R = 127
                  · subst hd
                    have HB9 := Lib.hid (HBAD.out (by rw [HAV.out]; simp [controlR]))
                    go_wp2
                    go_ret2
                    exact aval_no HB9.out rfl HAW.out HOW.out
                  · have hd1 : ((R : Int) == 127) = false := by rw [beq_eq_false_iff_ne]; omega
                    have HG9 := Lib.hid (HGO.out (by rw [HAV.out]; simp [controlR, hr]; omega))
                    go_wp2
                    go_roundw
                    case rel => exact ⟨q + N, by omega, by omega, HG9.out, HAW.out.goto_ (q + N), HOW.out.setCell (.inl rfl) _⟩
                    case measure =>
                      have e1 := atOf_as (HAW.out.goto_ (q + N))
                      rw [show ((q + N : Nat) : Int) = (q : Int) + (N : Int) by omega] at e1
                      have e2 := atOf_as HA.out
                      have e3 := HDP.out
                      rw [e1, e2]
                      omega
        · have hq3 : decide ((q : Int) < (s.size : Int)) = false := by simp; omega
          have HM := Lib.hid (show mustM s q (Utf8.encode 39).data.toList = (q, false) by rw [show (Utf8.encode 39).data.toList = [39] by rfl]; simp only [mustM]; rw [if_neg]; unfold standsB; rw [dif_neg hq]; simp)
          have HR := Lib.hid (show avalueM s p = (q, none) from avalue_bad HST.out HQC.out (by rw [HE.out, avalM_end hq]))
          have HMU := Lib.hid (fun W (h : AS W g s q) => must_any g q s (Utf8.encode 39) W h hqs hs (by decide))
          go_wp2
          go_quiet (fail)
          go_wp2
          go_quiet (fail)
          go_wp2_with fail
          refine (HMU.out _ (HA.out.drewN _)).mono ?_
          rintro en wt ⟨he, ha, ho⟩
          rw [HM.out] at he ha
          have HA9 := Lib.hid ha
          have HO9 := Lib.hid ho
          clear ha ho
          subst he
          go_wp2
          go_ret2
          exact aval_no HR.out rfl HA9.out ((HO.out.drewN _).trans HO9.out)
end Go.Proofs.YtkfofdmcggoonaaGreatDoor
