/-
  What an alias's text is read as, plainly, step by step; what holds on the way. No condition, no program in sight.
-/
import Derived.Test.YtkfofdmcggoonaaGreatDoorAliasScan
import Derived.Test.YtkfofdmcggoonaaGreatDoorPairs
set_option linter.unusedVariables false
set_option linter.unusedSimpArgs false
namespace Go.Proofs.YtkfofdmcggoonaaGreatDoor
open Go.RowKit

/-- Keys that rise, with one more. -/
def insK : List PKey → PKey → List PKey
  | [], k => [k]
  | x :: xs, k => if Op.bytesLess x.1.toList k.1.toList = true then x :: insK xs k else k :: x :: xs
theorem insK_length : ∀ (ks : List PKey) (k : PKey), (insK ks k).length = ks.length + 1
  | [], _ => rfl
  | x :: xs, k => by
    simp only [insK]
    split
    · simp [insK_length xs k]
    · rfl
theorem insK_mem : ∀ (ks : List PKey) (k x : PKey), x ∈ insK ks k ↔ x = k ∨ x ∈ ks
  | [], k, x => by simp [insK]
  | y :: ys, k, x => by
    simp only [insK]
    split
    · simp only [List.mem_cons, insK_mem ys k x]
      constructor
      · rintro (h | h | h)
        · exact .inr (.inl h)
        · exact .inl h
        · exact .inr (.inr h)
      · rintro (h | h | h)
        · exact .inr (.inl h)
        · exact .inl h
        · exact .inr (.inr h)
    · simp

def DistK (ks : List PKey) : Prop := ks.Pairwise fun x y => x.1 ≠ y.1
theorem distK_snoc {ks : List PKey} {k : PKey} : DistK (ks ++ [k]) ↔ DistK ks ∧ ∀ x ∈ ks, x.1 ≠ k.1 := by
  unfold DistK
  rw [List.pairwise_append]
  constructor
  · rintro ⟨h1, -, h2⟩
    exact ⟨h1, fun x hx => h2 x hx k (by simp)⟩
  · rintro ⟨h1, h2⟩
    exact ⟨h1, List.pairwise_singleton _ _, fun x hx y hy => by simp at hy; rw [hy]; exact h2 x hx⟩
theorem insK_rises : ∀ (ks : List PKey) (k : PKey), RisesK ks → (∀ x ∈ ks, x.1 ≠ k.1) → RisesK (insK ks k)
  | [], k, _, _ => List.pairwise_singleton _ _
  | x :: xs, k, h, hd => by
    obtain ⟨h1, h2⟩ := List.pairwise_cons.1 h
    simp only [insK]
    split
    · rename_i hl
      refine List.pairwise_cons.2 ⟨fun y hy => ?_, insK_rises xs k h2 fun y hy => hd y (by simp [hy])⟩
      rcases (insK_mem _ _ _).1 hy with rfl | hy
      · exact hl
      · exact h1 y hy
    · rename_i hl
      have hx : Op.bytesLess k.1.toList x.1.toList = true := blT.flip (a := x.1) (b := k.1) (by simpa [bl] using hl) (hd x (by simp))
      refine List.pairwise_cons.2 ⟨fun y hy => ?_, h⟩
      rcases List.mem_cons.1 hy with rfl | hy
      · exact hx
      · exact bl_trans _ _ _ hx (h1 y hy)
theorem pkl_of_bl {x y : PKey} (h : Op.bytesLess x.1.toList y.1.toList = true) : pkl x y = true := by
  unfold pkl bl
  rw [h]
  rfl
theorem rises_pkl {ks : List PKey} (h : RisesK ks) : RiseL pkl ks := List.Pairwise.imp (fun h => pkl_of_bl h) h
theorem distK_inj : ∀ {ks : List PKey}, DistK ks → ∀ x ∈ ks, ∀ y ∈ ks, x.1 = y.1 → x = y
  | [], _, x, hx, _, _, _ => by cases hx
  | k :: ks, h, x, hx, y, hy, e => by
    obtain ⟨h1, h2⟩ := List.pairwise_cons.1 h
    rcases List.mem_cons.1 hx with ex | hx2
    · rcases List.mem_cons.1 hy with ey | hy2
      · rw [ex, ey]
      · exact absurd e (by rw [ex]; exact h1 y hy2)
    · rcases List.mem_cons.1 hy with ey | hy2
      · exact absurd e.symm (by rw [ey]; exact h1 x hx2)
      · exact distK_inj h2 x hx2 y hy2 e
theorem sortK_mem (ks : List PKey) (x : PKey) : x ∈ sortK ks ↔ x ∈ ks := poolL_mem ks x
theorem sortK_rises {ks : List PKey} (h : DistK ks) : RisesK (sortK ks) := by
  have hr : RiseL pkl (sortK ks) := poolL_rise pklT ks
  refine List.Pairwise.imp_of_mem (fun {x y} hx hy hxy => ?_) hr
  rw [sortK_mem] at hx hy
  by_cases e : x.1 = y.1
  · rw [distK_inj h x hx y hy e, pklT.irr] at hxy
    cases hxy
  · simp only [pkl, decide_eq_false e, Bool.false_and, Bool.or_false] at hxy
    exact hxy
theorem sortK_snoc {ks : List PKey} {k : PKey} (h : DistK (ks ++ [k])) : insK (sortK ks) k = sortK (ks ++ [k]) := by
  obtain ⟨h1, h2⟩ := distK_snoc.1 h
  refine poolL_eq pklT (rises_pkl (insK_rises _ _ (sortK_rises h1) fun x hx => h2 x ((sortK_mem _ _).1 hx))) fun x => ?_
  rw [insK_mem, sortK_mem, List.mem_append, List.mem_singleton]
  exact Or.comm
theorem sortK_len (ks : List PKey) : (sortK ks).length ≤ ks.length := poolL_len ks
theorem sortK_any (ks : List PKey) (k : ByteArray) : ((sortK ks).any fun x => decide (x.1 = k)) = ks.any fun x => decide (x.1 = k) := by
  rw [Bool.eq_iff_iff, List.any_eq_true, List.any_eq_true]
  exact ⟨fun ⟨x, hx, h⟩ => ⟨x, (sortK_mem _ _).1 hx, h⟩, fun ⟨x, hx, h⟩ => ⟨x, (sortK_mem _ _).2 hx, h⟩⟩
/-- One key from a place on: none stands there, something is wrong, or the key and the place behind it. -/
def akStep (s : ByteArray) (p : Nat) (ks : List PKey) : Except Nat (Option (PKey × Nat)) :=
  if standsB s p 91 = true then
    match mustM s p [91, 64] with
    | (q, false) => .error q
    | (q, true) =>
      if (ks.any fun x => decide (x.1 = s.extract q (aname s q))) = true then .error q
      else if aname s q = q then .error q
      else match mustM s (aname s q) [61] with
        | (r, false) => .error r
        | (r, true) =>
          if (standsB s r 39 || standsB s r 34) = true then
            match avalM s (if standsB s r 39 = true then 39 else 34) (r + 1) with
            | (t, false) => .error t
            | (t, true) => match mustM s (t + 1) [93] with
              | (u, false) => .error u
              | (u, true) => .ok (some ((s.extract q (aname s q), s.extract (r + 1) t), u))
          else .error r
  else .ok none
theorem akeysF_succ (k : Nat) (s : ByteArray) (p : Nat) (ks : List PKey) : akeysF (k + 1) s p ks = match akStep s p ks with
    | .error e => .error e
    | .ok none => .ok (ks, p)
    | .ok (some (x, u)) => akeysF k s u (ks ++ [x]) := by
  simp only [akeysF, akStep]
  by_cases h0 : standsB s p 91 = true
  · simp only [if_pos h0]
    rcases e1 : mustM s p [91, 64] with ⟨q, b⟩
    cases b
    · rfl
    · by_cases hd : (ks.any fun x => decide (x.1 = s.extract q (aname s q))) = true
      · simp only [if_pos hd]
      · by_cases hn : aname s q = q
        · simp only [if_neg hd, if_pos hn]
        · simp only [if_neg hd, if_neg hn]
          rcases e2 : mustM s (aname s q) [61] with ⟨r, b⟩
          cases b
          · rfl
          · by_cases hq : (standsB s r 39 || standsB s r 34) = true
            · simp only [if_pos hq]
              rcases e3 : avalM s (if standsB s r 39 = true then 39 else 34) (r + 1) with ⟨u, b⟩
              cases b
              · rfl
              · dsimp only
                rcases e4 : mustM s (u + 1) [93] with ⟨v, b⟩
                cases b
                · rfl
                · rfl
            · simp only [if_neg hq]
  · simp only [if_neg h0]
theorem akStep_some {s : ByteArray} {p u : Nat} {ks : List PKey} {x : PKey} (hp : p ≤ s.size) (h : akStep s p ks = .ok (some (x, u))) :
    p + 6 ≤ u ∧ u ≤ s.size ∧ (∀ y ∈ ks, y.1 ≠ x.1) ∧ x.1.size ≤ s.size ∧ x.2.size ≤ s.size ∧ x.1 ≠ ByteArray.empty := by
  unfold akStep at h
  split at h
  · have m1 := mustM_le s [91, 64] p hp
    split at h
    · cases h
    · rename_i q e1
      rw [e1] at m1
      have hq : q = p + 2 := m1.2.2 rfl
      have n1 := aname_le (p := q) m1.2.1
      split at h
      · cases h
      · rename_i hd
        split at h
        · cases h
        · rename_i hne
          have m2 := mustM_le s [61] (aname s q) n1.2
          split at h
          · cases h
          · rename_i r e2
            rw [e2] at m2
            have m2a := m2.2.1
            have m2b := m2.1
            have m2c := m2.2.2 rfl
            simp only [List.length_cons, List.length_nil] at m2a m2b m2c
            split at h
            · rename_i hst
              split at h
              · cases h
              · rename_i t e3
                have hr1 : r + 1 ≤ s.size := by
                  rcases Bool.or_eq_true _ _ ▸ hst with h1 | h1
                  · exact (stands_at h1).1
                  · exact (stands_at h1).1
                have v1 := avalM_le s (if standsB s r 39 = true then 39 else 34) (s.size - (r + 1)) (r + 1) (Nat.le_refl _) hr1
                rw [e3] at v1
                have v1a := v1.1
                have v1b := v1.2.1
                simp only at v1a v1b
                have ht := (stands_at (v1.2.2 rfl)).1
                simp only at ht
                have m3 := mustM_le s [93] (t + 1) ht
                split at h
                · cases h
                · rename_i u' e4
                  rw [e4] at m3
                  have m3a := m3.1
                  have m3b := m3.2.1
                  have m3c := m3.2.2 rfl
                  simp only [List.length_cons, List.length_nil] at m3a m3b m3c
                  simp only [Except.ok.injEq, Option.some.injEq, Prod.mk.injEq] at h
                  obtain ⟨rfl, rfl⟩ := h
                  refine ⟨by omega, m3b, fun y hy e => hd (List.any_eq_true.2 ⟨y, hy, decide_eq_true e⟩), by simp; omega, by simp; omega, fun e => ?_⟩
                  have := congrArg ByteArray.size e
                  simp at this
                  omega
            · cases h
  · cases h
theorem akeysF_fuel (s : ByteArray) : ∀ (k p j : Nat) (ks : List PKey), p ≤ s.size → s.size < p + k → k ≤ j → akeysF j s p ks = akeysF k s p ks := by
  intro k
  induction k with
  | zero => intro p j ks h1 h2; omega
  | succ k ih =>
    intro p j ks h1 h2 h3
    cases j with
    | zero => omega
    | succ j =>
      rw [akeysF_succ, akeysF_succ]
      cases hst : akStep s p ks with
      | error e => rfl
      | ok o =>
        cases o with
        | none => rfl
        | some xu =>
          obtain ⟨x, u⟩ := xu
          obtain ⟨a, b, -⟩ := akStep_some h1 hst
          exact ih u j _ b (by omega) (by omega)
def akeysM (s : ByteArray) (p : Nat) (ks : List PKey) : Except Nat (List PKey × Nat) := akeysF (s.size + 1) s p ks
theorem akeysM_eq {s : ByteArray} {p : Nat} {ks : List PKey} (hp : p ≤ s.size) : akeysM s p ks = match akStep s p ks with
    | .error e => .error e
    | .ok none => .ok (ks, p)
    | .ok (some (x, u)) => akeysM s u (ks ++ [x]) := by
  unfold akeysM
  rw [akeysF_succ]
  cases hst : akStep s p ks with
  | error e => rfl
  | ok o =>
    cases o with
    | none => rfl
    | some xu =>
      obtain ⟨x, u⟩ := xu
      obtain ⟨a, b, -⟩ := akStep_some hp hst
      exact (akeysF_fuel s s.size u (s.size + 1) _ b (by omega) (by omega)).symm
theorem akeysM_none {s : ByteArray} {p : Nat} {ks : List PKey} (hp : p ≤ s.size) (h : akStep s p ks = .ok none) : akeysM s p ks = .ok (ks, p) := by rw [akeysM_eq hp, h]
theorem akeysM_bad {s : ByteArray} {p e : Nat} {ks : List PKey} (hp : p ≤ s.size) (h : akStep s p ks = .error e) : akeysM s p ks = .error e := by rw [akeysM_eq hp, h]
theorem akeysM_some {s : ByteArray} {p u : Nat} {ks : List PKey} {x : PKey} (hp : p ≤ s.size) (h : akStep s p ks = .ok (some (x, u))) : akeysM s p ks = akeysM s u (ks ++ [x]) := by rw [akeysM_eq hp, h]

def KeySmall (n : Nat) (x : PKey) : Prop := x.1.size ≤ n ∧ x.2.size ≤ n
theorem akeysM_inv (s : ByteArray) : ∀ (k p : Nat) (ks ks' : List PKey) (q : Nat), s.size - p ≤ k → p ≤ s.size → akeysM s p ks = .ok (ks', q) →
    p ≤ q ∧ q ≤ s.size ∧ (DistK ks → DistK ks') ∧ ks'.length * 4 + p ≤ ks.length * 4 + q ∧ ((∀ x ∈ ks, KeySmall s.size x) → ∀ x ∈ ks', KeySmall s.size x) ∧ standsB s q 91 = false
  | k, p, ks, ks', q, hk, hp, h => by
    rw [akeysM_eq hp] at h
    cases hst : akStep s p ks with
    | error e => rw [hst] at h; cases h
    | ok o =>
      cases o with
      | none =>
        rw [hst] at h
        cases h
        refine ⟨Nat.le_refl _, hp, id, Nat.le_refl _, id, ?_⟩
        cases hb : standsB s p 91
        · rfl
        · unfold akStep at hst
          rw [if_pos hb] at hst
          exfalso
          repeat' split at hst
          all_goals cases hst
      | some xu =>
        obtain ⟨x, u⟩ := xu
        rw [hst] at h
        obtain ⟨a, b, c, d, e, -⟩ := akStep_some hp hst
        cases k with
        | zero => omega
        | succ k =>
          obtain ⟨i1, i2, i3, i4, i5, i6⟩ := akeysM_inv s k u _ ks' q (by omega) b h
          refine ⟨by omega, i2, fun hd => i3 (distK_snoc.2 ⟨hd, c⟩), by simp at i4; omega, fun hs => i5 fun y hy => ?_, i6⟩
          rcases List.mem_append.1 hy with hy | hy
          · exact hs y hy
          · simp at hy
            rw [hy]
            exact ⟨d, e⟩
theorem aclimbF_fuel (s : ByteArray) : ∀ (k p j : Nat) (up : List PStep) (first : Bool), p ≤ s.size → s.size < p + k → k ≤ j → aclimbF j s p up first = aclimbF k s p up first := by
  intro k
  induction k with
  | zero => intro p j up first h1 h2; omega
  | succ k ih =>
    intro p j up first h1 h2 h3
    cases j with
    | zero => omega
    | succ j =>
      simp only [aclimbF]
      split
      · split
        · rfl
        · rcases e1 : mustM s p [46, 46, 47] with ⟨q, b⟩
          cases b
          · rfl
          · have m1 := mustM_le s [46, 46, 47] p h1
            rw [e1] at m1
            have hq : q = p + 3 := m1.2.2 rfl
            exact ih q j _ _ m1.2.1 (by omega) (by omega)
      · rfl
def aclimbM (s : ByteArray) (p : Nat) (up : List PStep) (first : Bool) : Except Nat (List PStep × Nat) := aclimbF (s.size + 2) s p up first
theorem aclimbM_eq {s : ByteArray} {p : Nat} {up : List PStep} {first : Bool} (hp : p ≤ s.size) : aclimbM s p up first =
    if (first || standsB s p 46) = true then
      if up = [] then .error p
      else match mustM s p [46, 46, 47] with
        | (q, false) => .error q
        | (q, true) => aclimbM s q up.dropLast false
    else .ok (up, p) := by
  unfold aclimbM
  rw [show s.size + 2 = (s.size + 1) + 1 by omega]
  conv => lhs; unfold aclimbF
  split
  · split
    · rfl
    · rcases e1 : mustM s p [46, 46, 47] with ⟨q, b⟩
      cases b
      · rfl
      · have m1 := mustM_le s [46, 46, 47] p hp
        rw [e1] at m1
        have hq : q = p + 3 := m1.2.2 rfl
        exact (aclimbF_fuel s (s.size + 1) q (s.size + 1 + 1) _ _ m1.2.1 (by omega) (by omega)).symm
  · rfl
theorem astepsF_fuel (s : ByteArray) : ∀ (k p j : Nat) (up : List PStep), p ≤ s.size → s.size < p + k → k ≤ j → astepsF j s p up = astepsF k s p up := by
  intro k
  induction k with
  | zero => intro p j up h1 h2; omega
  | succ k ih =>
    intro p j up h1 h2 h3
    cases j with
    | zero => omega
    | succ j =>
      simp only [astepsF]
      have n1 := aname_le h1
      by_cases hn : aname s p = p
      · simp only [if_pos hn]
      · simp only [if_neg hn]
        cases e1 : akeysF (s.size + 1) s (aname s p) [] with
        | error e => rfl
        | ok r =>
          obtain ⟨ks, q⟩ := r
          obtain ⟨i1, i2, -⟩ := akeysM_inv s (s.size - aname s p) (aname s p) [] ks q (Nat.le_refl _) n1.2 e1
          simp only
          by_cases h4 : standsB s q 47 = true
          · simp only [if_pos h4]
            have h5 := (stands_at h4).1
            exact ih (q + 1) j _ h5 (by omega) (by omega)
          · simp only [if_neg h4]
def astepsM (s : ByteArray) (p : Nat) (up : List PStep) : Except Nat (List PStep) := astepsF (s.size + 1) s p up
theorem astepsM_eq {s : ByteArray} {p : Nat} {up : List PStep} (hp : p ≤ s.size) : astepsM s p up =
    if aname s p = p then .error p
    else match akeysM s (aname s p) [] with
      | .error e => .error e
      | .ok (ks, q) =>
        if standsB s q 47 = true then astepsM s (q + 1) (up ++ [(s.extract p (aname s p), sortK ks)])
        else if q = s.size then .ok (up ++ [(s.extract p (aname s p), sortK ks)]) else .error q := by
  unfold astepsM
  conv => lhs; unfold astepsF
  have n1 := aname_le hp
  by_cases hn : aname s p = p
  · simp only [if_pos hn]
  · simp only [if_neg hn]
    change (match akeysM s (aname s p) [] with | .error e => _ | .ok (ks, q) => _) = _
    cases e1 : akeysM s (aname s p) [] with
    | error e => rfl
    | ok r =>
      obtain ⟨ks, q⟩ := r
      obtain ⟨i1, i2, -⟩ := akeysM_inv s (s.size - aname s p) (aname s p) [] ks q (Nat.le_refl _) n1.2 e1
      simp only
      by_cases h4 : standsB s q 47 = true
      · simp only [if_pos h4]
        have h5 := (stands_at h4).1
        exact (astepsF_fuel s s.size (q + 1) (s.size + 1) _ h5 (by omega) (by omega)).symm
      · simp only [if_neg h4]
/-- What comes of the steps. -/
def lastM (r : Except Nat (List PStep)) : ByteArray × Int × Int := match r with
  | .error e => (ByteArray.empty, 230, (e : Int))
  | .ok l => match putM l with
    | .ok t => (str t, 0, 0)
    | .error _ => (ByteArray.empty, 3, 0)
/-- What comes of the way up. -/
def tailM (s : ByteArray) (r : Except Nat (List PStep × Nat)) : ByteArray × Int × Int := match r with
  | .error e => (ByteArray.empty, 230, (e : Int))
  | .ok (up, p) => lastM (astepsM s p up)
theorem targetM_err {g s : ByteArray} {e : Int × Int} (h : parseM g = .error e) : targetM g s = (ByteArray.empty, 2, 0) := by unfold targetM; rw [h]
theorem targetM_nil {g s : ByteArray} (h : parseM g = .ok []) : targetM g s = (ByteArray.empty, 2, 0) := by unfold targetM; rw [h]
theorem targetM_ok {g s : ByteArray} {l : List PStep} (h : parseM g = .ok l) (hl : l ≠ []) : targetM g s = tailM s (aclimbM s 0 l true) := by
  unfold targetM
  rw [h]
  cases l with
  | nil => exact absurd rfl hl
  | cons x r =>
    simp only [tailM, lastM, aclimbM, astepsM]
    cases aclimbF (s.size + 2) s 0 (x :: r) true with
    | error e => rfl
    | ok y => rfl
def TargetPost (g s : ByteArray) (w : World) (en : Ending) (w' : World) : Prop := en = .returned (.tuple #[.string (targetM g s).1, spotV (targetM g s).2.1 (targetM g s).2.2]) ∧ Below w.heap.size w w'
theorem target_mk {g s a : ByteArray} {x y : Int} {w w' : World} {en : Ending} {r : Nat} (hr : r = w.heap.size) (h : targetM g s = (a, x, y)) (he : en = .returned (.tuple #[.string a, spotV x y])) (hb : Below r w w') : TargetPost g s w en w' := by
  subst hr
  unfold TargetPost
  rw [h]
  exact ⟨he, hb⟩
/-- The result's cell at r, the rest above it. -/
def TBase (w : World) (r : Nat) (W : World) : Prop := Blk W r 43 #[.int .i64 0, .int .i64 0] ∧ Below r w W ∧ r + 1 ≤ W.heap.size
theorem TBase.below {w W W' : World} {r B : Nat} (h : TBase w r W) (hb : Below B W W') (hB : r + 1 ≤ B) : TBase w r W' := ⟨h.1.below hb (by omega), h.2.1.trans (hb.mono (by omega)), by have := h.2.2; have := hb.size; omega⟩
theorem TBase.grown {w W W' : World} {r : Nat} {row : Option Nat} (h : TBase w r W) (hg : W.grownBy W' row) (hr : ∀ k, row = some k → r + 1 ≤ k) : TBase w r W' :=
  ⟨h.1.grown hg (fun e => by have := hr _ e.symm; omega), h.2.1.grown hg (by have := h.2.2; omega) (fun k hk => by have := hr k hk; omega), by have := h.2.2; have := hg.size; omega⟩
theorem TBase.done {w W : World} {r : Nat} (h : TBase w r W) (x y : Int) : Blk ((W.setCell ⟨r, 0, none⟩ (.int .i64 x)).setCell ⟨r, 1, none⟩ (.int .i64 y)) r 43 #[.int .i64 x, .int .i64 y] ∧ Below r w ((W.setCell ⟨r, 0, none⟩ (.int .i64 x)).setCell ⟨r, 1, none⟩ (.int .i64 y)) :=
  ⟨h.1.two_set _ _, (h.2.1.setCell (p := ⟨r, 0, none⟩) (Nat.le_refl _) _).setCell (p := ⟨r, 1, none⟩) (Nat.le_refl _) _⟩
theorem TBase.alloc {w W : World} {r : Nat} (h : TBase w r W) (o : Obj) : TBase w r (W.alloc o) := h.below ((Below.refl _ W).alloc (Nat.le_refl _) o) h.2.2
theorem TBase.drewN {w W : World} {r : Nat} (h : TBase w r W) (k : Nat) : TBase w r (W.drewN k) := h.below (below_drewN (Below.refl _ W) k) h.2.2
theorem aputF_err : ∀ (l : List PStep) (sh : Bool) (sz : Nat) (ts : List (List UInt8)) (e : Int), putF l sh sz ts = .error e → e = 160
  | [], _, _, _, _, h => by cases h
  | st :: l, sh, sz, ts, e, h => by
    unfold putF at h
    split at h
    · exact aputF_err l _ _ _ e h
    · cases h
      rfl
theorem aputM_err {l : List PStep} {e : Int} (h : putM l = .error e) : e ≠ 0 := by
  unfold putM at h
  split at h
  · rename_i e' h'
    cases h
    have := aputF_err _ _ _ _ _ h'
    omega
  · split at h
    · cases h
    · cases h
      decide
theorem take_get {α : Type} {l : List α} {n i : Nat} {x : α} (h : (l.take n)[i]? = some x) : l[i]? = some x := by
  rw [List.getElem?_take] at h
  split at h
  · exact h
  · cases h
theorem keysOwn_take {w : World} {base : Nat} {l : List PStep} {vs : List Value} (h : KeysOwn w base l vs) (n : Nat) : KeysOwn w base (l.take n) (vs.take n) :=
  ⟨fun i st kv h1 h2 => h.1 i st kv (take_get h1) (take_get h2), fun i j a b kv kv' hij h1 h2 => h.2 i j a b kv kv' hij (take_get h1) (take_get h2)⟩
theorem stepCells_next {l : List PStep} {vs : List Value} {i : Nat} {st : PStep} {kv : Value} (hl : vs.length = l.length) (h1 : l[i]? = some st) (h2 : vs[i]? = some kv) :
    stepCells (l.take (i + 1)) (vs.take (i + 1)) = stepCells (l.take i) (vs.take i) ++ [.string st.1, kv] := by
  rw [List.take_add_one, List.take_add_one, h1, h2]
  exact stepCells_append _ _ _ _ (by simp [hl])
end Go.Proofs.YtkfofdmcggoonaaGreatDoor
