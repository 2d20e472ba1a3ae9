/-
  What an alias's text is read as, plainly; no program in sight. No condition.
-/
import Derived.Test.YtkfofdmcggoonaaGreatDoorPathPrint
import Derived.Test.YtkfofdmcggoonaaGreatDoorRefName
import Derived.Test.YtkfofdmcggoonaaGreatDoorRiseLaw
set_option linter.unusedVariables false
set_option linter.unusedSimpArgs false
namespace Go.Proofs.YtkfofdmcggoonaaGreatDoor
open Go.RowKit

/-- Some bytes stand at a place: the place behind them, or of the first that doesn't; and whether they stand. -/
def mustM (s : ByteArray) : Nat → List UInt8 → Nat × Bool
  | p, [] => (p, true)
  | p, b :: r => if standsB s p b = true then mustM s (p + 1) r else (p, false)
theorem mustM_le (s : ByteArray) : ∀ (l : List UInt8) (p : Nat), p ≤ s.size → p ≤ (mustM s p l).1 ∧ (mustM s p l).1 ≤ s.size ∧ ((mustM s p l).2 = true → (mustM s p l).1 = p + l.length)
  | [], p, h => ⟨Nat.le_refl _, h, fun _ => rfl⟩
  | b :: r, p, h => by
    simp only [mustM]
    split
    · rename_i hb
      obtain ⟨hl, -⟩ := stands_at hb
      have := mustM_le s r (p + 1) hl
      exact ⟨by omega, this.2.1, fun hh => by rw [this.2.2 hh]; simp; omega⟩
    · exact ⟨Nat.le_refl _, h, fun hh => by cases hh⟩
theorem mustM_at (s : ByteArray) (l : List UInt8) (p i : Nat) (h : ∀ j b, j < i → l[j]? = some b → standsB s (p + j) b = true) (hi : i ≤ l.length) : mustM s p l = mustM s (p + i) (l.drop i) := by
  induction i generalizing p l with
  | zero => rfl
  | succ i ih =>
    cases l with
    | nil => simp at hi
    | cons b r =>
      have h0 := h 0 b (by omega) rfl
      simp only [Nat.add_zero] at h0
      simp only [mustM, if_pos h0, List.drop_succ_cons]
      rw [ih r (p + 1) (fun j c hj hc => by have := h (j + 1) c (by omega) (by simpa using hc); rwa [show p + 1 + j = p + (j + 1) by omega]) (by simpa using hi)]
      rw [show p + 1 + i = p + (i + 1) by omega]
/-- Where a name ends; the place itself: there is none. -/
def aname (s : ByteArray) (p : Nat) : Nat := if h : p < s.size then (if startB s[p] = true then nameEnd s p else p) else p
theorem astart_name {b : UInt8} (h : startB b = true) : nameB b = true := by simp [nameB, h]
theorem aname_le {s : ByteArray} {p : Nat} (h : p ≤ s.size) : p ≤ aname s p ∧ aname s p ≤ s.size := by
  unfold aname
  split
  · split
    · exact nameEnd_le h
    · exact ⟨Nat.le_refl _, h⟩
  · exact ⟨Nat.le_refl _, h⟩
/-- Can't the rune that stands here stand in a value? -/
def avBad (s : ByteArray) (p : Nat) : Bool := decide (Utf8.decode s p = (65533, 1)) || controlR ((Utf8.decode s p).1 : Int)
/-- Where a value ends, or what can't stand in it; and whether it ends. -/
def avalF : Nat → ByteArray → UInt8 → Nat → Nat × Bool
  | 0, _, _, p => (p, false)
  | k + 1, s, q, p => if h : p < s.size then (if s[p] = q then (p, true) else if avBad s p = true then (p, false) else avalF k s q (p + (Utf8.decode s p).2)) else (p, false)
def avalM (s : ByteArray) (q : UInt8) (p : Nat) : Nat × Bool := avalF (s.size - p) s q p
theorem avalF_fuel (s : ByteArray) (q : UInt8) : ∀ (k p j : Nat), s.size ≤ p + k → k ≤ j → avalF j s q p = avalF k s q p := by
  intro k
  induction k with
  | zero =>
    intro p j h1 _
    cases j with
    | zero => rfl
    | succ j => simp only [avalF]; rw [dif_neg (by omega)]
  | succ k ih =>
    intro p j h1 h2
    cases j with
    | zero => omega
    | succ j =>
      have hp := decode_pos s p
      simp only [avalF]
      rw [ih (p + (Utf8.decode s p).2) j (by omega) (by omega)]
theorem avalM_step {s : ByteArray} {q : UInt8} {p : Nat} (h : p < s.size) : avalM s q p = if s[p] = q then (p, true) else if avBad s p = true then (p, false) else avalM s q (p + (Utf8.decode s p).2) := by
  have hp := decode_pos s p
  unfold avalM
  rw [show s.size - p = (s.size - p - 1) + 1 by omega]
  simp only [avalF]
  rw [dif_pos h, avalF_fuel s q (s.size - (p + (Utf8.decode s p).2)) (p + (Utf8.decode s p).2) (s.size - p - 1) (by omega) (by omega)]
theorem avalM_end {s : ByteArray} {q : UInt8} {p : Nat} (h : ¬ p < s.size) : avalM s q p = (p, false) := by
  unfold avalM
  rw [show s.size - p = 0 by omega]
  rfl
theorem avalM_le (s : ByteArray) (q : UInt8) : ∀ (k p : Nat), s.size - p ≤ k → p ≤ s.size → p ≤ (avalM s q p).1 ∧ (avalM s q p).1 ≤ s.size ∧ ((avalM s q p).2 = true → standsB s (avalM s q p).1 q = true)
  | k, p, hk, hp => by
    by_cases h : p < s.size
    · rw [avalM_step h]
      split
      · rename_i e
        exact ⟨Nat.le_refl _, hp, fun _ => by unfold standsB; rw [dif_pos h]; simp [e]⟩
      · split
        · exact ⟨Nat.le_refl _, hp, fun hh => by cases hh⟩
        · have h1 := decode_pos s p
          have h2 := decode_in h
          cases k with
          | zero => omega
          | succ k =>
            have := avalM_le s q k (p + (Utf8.decode s p).2) (by omega) h2
            exact ⟨by omega, this.2⟩
    · rw [avalM_end h]
      exact ⟨Nat.le_refl _, hp, fun hh => by cases hh⟩
/-- The order of keys. -/
def pkl (a b : PKey) : Bool := bl a.1 b.1 || (decide (a.1 = b.1) && bl a.2 b.2)
theorem pklT : TotalLt pkl where
  irr a := by simp [pkl, blT.irr]
  tr a b c h1 h2 := by
    simp only [pkl, Bool.or_eq_true, Bool.and_eq_true, decide_eq_true_eq] at *
    rcases h1 with h1 | ⟨e1, h1⟩
    · rcases h2 with h2 | ⟨e2, h2⟩
      · exact .inl (blT.tr _ _ _ h1 h2)
      · exact .inl (by rw [← e2]; exact h1)
    · rcases h2 with h2 | ⟨e2, h2⟩
      · exact .inl (by rw [e1]; exact h2)
      · exact .inr ⟨e1.trans e2, blT.tr _ _ _ h1 h2⟩
  conn a b h1 h2 := by
    simp only [pkl, Bool.or_eq_false_iff, Bool.and_eq_false_iff, decide_eq_false_iff_not] at h1 h2
    have e1 := blT.conn _ _ h1.1 h2.1
    have h3 : bl a.2 b.2 = false := h1.2.elim (fun h => absurd e1 h) id
    have h4 : bl b.2 a.2 = false := h2.2.elim (fun h => absurd e1.symm h) id
    exact Prod.ext e1 (blT.conn _ _ h3 h4)
/-- Keys in their order. -/
def sortK (ks : List PKey) : List PKey := poolL pkl ks
/-- The keys of a step from a place on, as they come. -/
def akeysF : Nat → ByteArray → Nat → List PKey → Except Nat (List PKey × Nat)
  | 0, _, p, _ => .error p
  | k + 1, s, p, ks =>
    if standsB s p 91 = true then
      match mustM s p [91, 64] with
      | (q, false) => .error q
      | (q, true) =>
        if (ks.any fun x => decide (x.1 = s.extract q (aname s q))) = true then .error q
        else if aname s q = q then .error q
        else match mustM s (aname s q) [61] with
          | (r, false) => .error r
          | (r, true) =>
            if (standsB s r 39 || standsB s r 34) = true then
              match avalM s (if standsB s r 39 = true then 39 else 34) (r + 1) with
              | (t, false) => .error t
              | (t, true) => match mustM s (t + 1) [93] with
                | (u, false) => .error u
                | (u, true) => akeysF k s u (ks ++ [(s.extract q (aname s q), s.extract (r + 1) t)])
            else .error r
    else .ok (ks, p)
/-- The steps from a place on. -/
def astepsF : Nat → ByteArray → Nat → List PStep → Except Nat (List PStep)
  | 0, _, p, _ => .error p
  | k + 1, s, p, up =>
    if aname s p = p then .error p
    else match akeysF (s.size + 1) s (aname s p) [] with
      | .error e => .error e
      | .ok (ks, q) =>
        if standsB s q 47 = true then astepsF k s (q + 1) (up ++ [(s.extract p (aname s p), sortK ks)])
        else if q = s.size then .ok (up ++ [(s.extract p (aname s p), sortK ks)]) else .error q
/-- The way up from a place on. -/
def aclimbF : Nat → ByteArray → Nat → List PStep → Bool → Except Nat (List PStep × Nat)
  | 0, _, p, _, _ => .error p
  | k + 1, s, p, up, first =>
    if (first || standsB s p 46) = true then
      if up = [] then .error p
      else match mustM s p [46, 46, 47] with
        | (q, false) => .error q
        | (q, true) => aclimbF k s q up.dropLast false
    else .ok (up, p)
/-- Where an alias's text leads. -/
def targetM (g s : ByteArray) : ByteArray × Int × Int := match parseM g with
  | .error _ => (ByteArray.empty, 2, 0)
  | .ok [] => (ByteArray.empty, 2, 0)
  | .ok (x :: r) => match aclimbF (s.size + 2) s 0 (x :: r) true with
    | .error e => (ByteArray.empty, 230, (e : Int))
    | .ok (up, p) => match astepsF (s.size + 1) s p up with
      | .error e => (ByteArray.empty, 230, (e : Int))
      | .ok l => match putM l with
        | .ok t => (str t, 0, 0)
        | .error _ => (ByteArray.empty, 3, 0)
end Go.Proofs.YtkfofdmcggoonaaGreatDoor
/-
  The walks of what reads an alias's text: must, on, name. Condition: the string is within the reach.
-/
namespace Go.Proofs.YtkfofdmcggoonaaGreatDoor
open Go.RowKit

/-- The scan at block g. -/
def AS (w : World) (g : Nat) (s : ByteArray) (p : Nat) : Prop := Blk w g 74 #[.string s, .int .i64 (p : Int)]
section
variable {w : World} {g p : Nat} {s : ByteArray}
theorem AS.c0 (h : AS w g s p) : w.cell? ⟨g, 0, none⟩ = some (.string s) := Blk.cell h 0
theorem AS.c1 (h : AS w g s p) : w.cell? ⟨g, 1, none⟩ = some (.int .i64 (p : Int)) := Blk.cell h 1
theorem AS.goto_ (h : AS w g s p) (k : Nat) : AS (w.setCell ⟨g, 1, none⟩ (.int .i64 (k : Int))) g s k := Blk.set_ h 1 _
theorem AS.drewN (h : AS w g s p) (k : Nat) : AS (w.drewN k) g s p := Blk.drewN h k
end
set_option maxHeartbeats 1000000 in
theorem on_any (g p : Nat) (s : ByteArray) (b : UInt8) (w : World) (h : AS w g s p) (hs : s.size ≤ 140737488355328) :
    Calls Tryz.prog 33 #[.pointer (some ⟨g, 0, none⟩), .int .u8 (b.toNat : Int)] w fun en w' => en = .returned (.bool (standsB s p b)) ∧ ∃ q, w' = w.drewN q := by
  have c0 := h.c0
  have c1 := h.c1
  unfold standsB
  by_cases hlt : p < s.size
  · rw [dif_pos hlt]
    have hq : (p : Int) < (s.size : Int) := by omega
    cases hb : (s[p] == b)
    all_goals
      rw [beq_dec] at hb
      go_enter Tryz.func33, Tryz.ntmps33
      go_wp2
      go_quiet (fail)
      go_wp2
      go_ret
      exact ⟨rfl, _, rfl⟩
  · rw [dif_neg hlt]
    have hq : decide ((p : Int) < (s.size : Int)) = false := by simp; omega
    go_enter Tryz.func33, Tryz.ntmps33
    go_wp2
    go_quiet (fail)
    go_wp2
    go_ret
    exact ⟨rfl, _, rfl⟩
def MustPost (g p : Nat) (s : ByteArray) (l : List UInt8) (w : World) (en : Ending) (w' : World) : Prop := en = .returned (.bool (mustM s p l).2) ∧ AS w' g s (mustM s p l).1 ∧ Only g w w'
theorem must_mk {g p : Nat} {s : ByteArray} {l : List UInt8} {w w' : World} {en : Ending} {q : Nat} {b : Bool} (h : mustM s p l = (q, b)) (he : en = .returned (.bool b)) (ha : AS w' g s q) (ho : Only g w w') : MustPost g p s l w en w' := by
  unfold MustPost
  rw [h]
  exact ⟨he, ha, ho⟩
set_option maxHeartbeats 2000000 in
theorem must_any (g p : Nat) (s b : ByteArray) (w : World) (h : AS w g s p) (hp : p ≤ s.size) (hs : s.size ≤ 140737488355328) (hb : b.size ≤ 100) :
    Calls Tryz.prog 34 #[.pointer (some ⟨g, 0, none⟩), .string b] w (MustPost g p s b.data.toList w) := by
  have HA0 := Lib.hid h
  have hbl : b.data.toList.length = b.size := by simp
  have HBL := Lib.hid hbl
  clear h hbl
  go_enter Tryz.func34, Tryz.ntmps34
  go_wp2
  go_loopw [5] (fun iv wr => ∃ i q : Nat, iv = .int .i64 (i : Int) ∧ i ≤ b.size ∧ q ≤ s.size ∧ (q = p + i ∧ ∀ j c, j < i → b.data.toList[j]? = some c → standsB s (p + j) c = true) ∧ AS wr g s q ∧ Only g w wr) (fun iv _ => b.size - (Lib.intOf iv).toNat)
  case atStart => exact ⟨0, p, rfl, Nat.zero_le _, hp, ⟨rfl, fun j c hj => absurd hj (by omega)⟩, HA0.out, Only.refl _ _⟩
  case round =>
    obtain ⟨i, q, rfl, hi, hq, hT, hA, hO⟩ := hrel
    have HT := Lib.hid hT
    have HA := Lib.hid hA
    have HO := Lib.hid hO
    have c0 := hA.c0
    have c1 := hA.c1
    have f1 := Blk.frozen hA 1
    clear hT hA hO
    by_cases hlt : i < b.size
    · have hq1 : (i : Int) < (b.size : Int) := by omega
      have HDR := Lib.hid (show mustM s p b.data.toList = mustM s q (b[i] :: b.data.toList.drop (i + 1)) from by
        rw [mustM_at s b.data.toList p i HT.out.2 (by rw [HBL.out]; exact hi), ← HT.out.1, List.drop_eq_getElem_cons (by rw [HBL.out]; exact hlt)]
        rfl)
      by_cases hqs : q < s.size
      · have hq2 : (q : Int) < (s.size : Int) := by omega
        have hne : ((q : Int) == (s.size : Int)) = false := by rw [beq_eq_false_iff_ne]; omega
        cases hv : (s[q] == b[i])
        · have HNO := Lib.hid (show mustM s p b.data.toList = (q, false) by rw [HDR.out]; simp only [mustM]; rw [if_neg]; unfold standsB; rw [dif_pos hqs, hv]; simp)
          rw [beq_dec] at hv
          go_wp2
          go_quiet (fail)
          go_wp2
          go_ret
          exact must_mk HNO.out rfl (HA.out.drewN _) (HO.out.drewN _)
        · have HYES := Lib.hid (show standsB s q b[i] = true by unfold standsB; rw [dif_pos hqs, hv])
          rw [beq_dec] at hv
          go_wp2
          go_quiet (fail)
          go_wp2
          go_roundw
          case rel =>
            refine ⟨i + 1, q + 1, by go_num, hlt, hqs, ⟨by rw [HT.out.1]; omega, fun j c hj hc => ?_⟩, (HA.out.drewN _).goto_ (q + 1), ((HO.out.drewN _).setCell (.inl rfl) _)⟩
            rcases Nat.lt_or_ge j i with h | h
            · exact HT.out.2 j c h hc
            · obtain rfl : j = i := by omega
              rw [← HT.out.1]
              have : c = b[j] := by
                rw [List.getElem?_eq_getElem (by rw [HBL.out]; exact hlt)] at hc
                exact (Option.some.inj hc).symm
              rw [this]
              exact HYES.out
          case measure => simp [Lib.intOf]; omega
      · have heq : ((q : Int) == (s.size : Int)) = true := by simp; omega
        have HNO := Lib.hid (show mustM s p b.data.toList = (q, false) by rw [HDR.out]; simp only [mustM]; rw [if_neg]; unfold standsB; rw [dif_neg hqs]; simp)
        go_wp2
        go_quiet (fail)
        go_wp2
        go_ret
        exact must_mk HNO.out rfl (HA.out.drewN _) (HO.out.drewN _)
    · obtain rfl : i = b.size := by omega
      have hq1 : ¬ (b.size : Int) < (b.size : Int) := by omega
      have HALL := Lib.hid (show mustM s p b.data.toList = (q, true) by
        rw [mustM_at s b.data.toList p b.size HT.out.2 (by rw [HBL.out]; exact Nat.le_refl _), ← HT.out.1, List.drop_eq_nil_of_le (by rw [HBL.out]; exact Nat.le_refl _)]
        rfl)
      go_wp2
      go_ret
      exact must_mk HALL.out rfl HA.out HO.out
end Go.Proofs.YtkfofdmcggoonaaGreatDoor
