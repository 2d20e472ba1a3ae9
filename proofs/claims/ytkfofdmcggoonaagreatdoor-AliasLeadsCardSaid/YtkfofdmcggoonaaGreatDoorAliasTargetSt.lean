/-
  A scope in which the run jumps back to several labels; no program in sight. No condition.
-/
import Derived.ScopeJumps
import Derived.Test.YtkfofdmcggoonaaGreatDoorBlocks
import Derived.Test.YtkfofdmcggoonaaGreatDoorAliasPlain
import Derived.Test.YtkfofdmcggoonaaGreatDoorContLay
import Derived.Shelf.SlSortCmp.NoneTotal
import Derived.Test.YtkfofdmcggoonaaGreatDoorAliasVal
import Derived.Test.YtkfofdmcggoonaaGreatDoorPathPrint
set_option linter.unusedVariables false
set_option linter.unusedSimpArgs false
namespace Go.Proofs.YtkfofdmcggoonaaGreatDoor
open Go.RowKit

/-- As Q; by a goto to a label: what holds there. -/
def jumpsQ (J : Nat → Act → World → Prop) (Q : Exit → Act → World → Prop) : Exit → Act → World → Prop
  | .goto l, a, w => J l a w
  | e, a, w => Q e a w
theorem wp_scope_labels {P : Program} {a : Act} {w : World} {Q : Exit → Act → World → Prop} {c : Code} (J : Nat → Act → World → Prop) (μ : Nat → Act → World → Nat)
    (first : c.wp P (jumpsQ J Q) a w)
    (pass : ∀ l a w, J l a w → ∃ rest, findLabel c l = some rest ∧ rest.wp P (jumpsQ (fun l' a' w' => J l' a' w' ∧ μ l' a' w' < μ l a w) Q) a w) : (Code.scope c).wp P Q a w := by
  intro b k cs
  have key : ∀ n l a w, μ l a w = n → J l a w → ∃ rest, findLabel c l = some rest ∧ ∃ e a' w', Q e a' w' ∧ Arrives P (lone (b.at a (.code rest :: .inScope c :: k)) cs w) b k cs e a' w' := by
    intro n
    induction n using Nat.strongRecOn with
    | _ n ih =>
      intro l a w hn hJ
      obtain ⟨rest, hf, hp⟩ := pass l a w hJ
      refine ⟨rest, hf, ?_⟩
      obtain ⟨e, a₁, w₁, hq, harr⟩ := hp b (.inScope c :: k) cs
      cases e with
      | normal => exact ⟨.normal, a₁, w₁, hq, Steps.trans harr (.one step_inScope)⟩
      | exit id => exact ⟨.exit id, a₁, w₁, hq, fun k' hk => harr k' (by simp [exitTo, hk])⟩
      | goto l' =>
        obtain ⟨hJ', hlt⟩ := hq
        obtain ⟨rest2, hf2, e₂, a₂, w₂, hq₂, harr₂⟩ := ih _ (by omega) l' a₁ w₁ rfl hJ'
        have hg : gotoIn l' (.inScope c :: k) = some (.code rest2 :: .inScope c :: k) := by simp [gotoIn, hf2]
        exact ⟨e₂, a₂, w₂, hq₂, .of_steps (harr _ hg) harr₂⟩
      | ret => exact ⟨_, a₁, w₁, hq, harr⟩
      | panic ch => exact ⟨_, a₁, w₁, hq, harr⟩
      | outgrown => exact ⟨_, a₁, w₁, hq, harr⟩
  obtain ⟨e, a₁, w₁, hq, harr⟩ := first b (.inScope c :: k) cs
  cases e with
  | normal => exact ⟨.normal, a₁, w₁, hq, .head step_scope (Steps.trans harr (.one step_inScope))⟩
  | exit id => exact ⟨.exit id, a₁, w₁, hq, fun k' hk => .head step_scope (harr k' (by simp [exitTo, hk]))⟩
  | goto l' =>
    obtain ⟨rest, hf, e₂, a₂, w₂, hq₂, harr₂⟩ := key _ l' a₁ w₁ rfl hq
    have hg : gotoIn l' (.inScope c :: k) = some (.code rest :: .inScope c :: k) := by simp [gotoIn, hf]
    exact ⟨e₂, a₂, w₂, hq₂, .of_steps (.head step_scope (harr _ hg)) harr₂⟩
  | ret => exact ⟨_, a₁, w₁, hq, .of_steps (.one step_scope) harr⟩
  | panic ch => exact ⟨_, a₁, w₁, hq, .of_steps (.one step_scope) harr⟩
  | outgrown => exact ⟨_, a₁, w₁, hq, .of_steps (.one step_scope) harr⟩
/-- The run from a label on, below any bound. -/
def PassAt (P : Program) (c : Code) (Q : Exit → Act → World → Prop) (J : Nat → Act → World → Prop) (μ : Nat → Act → World → Nat) (l : Nat) : Prop :=
  ∃ rest, findLabel c l = some (Code.skip.seq rest) ∧ ∀ b a w, J l a w → μ l a w ≤ b → rest.wp P (jumpsQ (fun l' a' w' => J l' a' w' ∧ μ l' a' w' < b) Q) a w
theorem wp_scope4 {P : Program} {a : Act} {w : World} {Q : Exit → Act → World → Prop} {c : Code} (J : Nat → Act → World → Prop) (μ : Nat → Act → World → Nat) (hJ : ∀ l a w, J l a w → l = 0 ∨ l = 1 ∨ l = 2 ∨ l = 3)
    (h0 : PassAt P c Q J μ 0) (h3 : PassAt P c Q J μ 3) (h2 : PassAt P c Q J μ 3 → PassAt P c Q J μ 2) (h1 : PassAt P c Q J μ 2 → PassAt P c Q J μ 1)
    (first : PassAt P c Q J μ 1 → c.wp P (jumpsQ J Q) a w) : (Code.scope c).wp P Q a w := by
  have k2 := h2 h3
  have k1 := h1 k2
  refine wp_scope_labels J μ (first k1) fun l a w hj => ?_
  rcases hJ l a w hj with rfl | rfl | rfl | rfl
  · obtain ⟨rest, hf, h⟩ := h0
    exact ⟨_, hf, wp_seq (wp_skip (h _ a w hj (Nat.le_refl _)))⟩
  · obtain ⟨rest, hf, h⟩ := k1
    exact ⟨_, hf, wp_seq (wp_skip (h _ a w hj (Nat.le_refl _)))⟩
  · obtain ⟨rest, hf, h⟩ := k2
    exact ⟨_, hf, wp_seq (wp_skip (h _ a w hj (Nat.le_refl _)))⟩
  · obtain ⟨rest, hf, h⟩ := h3
    exact ⟨_, hf, wp_seq (wp_skip (h _ a w hj (Nat.le_refl _)))⟩
/-- Into a label from ahead of it. -/
theorem pass_in {P : Program} {c rest : Code} {Q : Exit → Act → World → Prop} {J : Nat → Act → World → Prop} {μ : Nat → Act → World → Nat} {l : Nat} (h : PassAt P c Q J μ l) (hf : findLabel c l = some (Code.skip.seq rest)) (b : Nat) (a : Act) (w : World) (hj : J l a w) (hm : μ l a w ≤ b) :
    rest.wp P (jumpsQ (fun l' a' w' => J l' a' w' ∧ μ l' a' w' < b) Q) a w := by
  obtain ⟨r', hf', h'⟩ := h
  rw [hf] at hf'
  cases hf'
  exact h' b a w hj hm
theorem pass_first {P : Program} {c rest : Code} {Q : Exit → Act → World → Prop} {J : Nat → Act → World → Prop} {μ : Nat → Act → World → Nat} {l : Nat} (h : PassAt P c Q J μ l) (hf : findLabel c l = some (Code.skip.seq rest)) (a : Act) (w : World) (hj : J l a w) :
    rest.wp P (jumpsQ J Q) a w :=
  wp_mono (pass_in h hf _ a w hj (Nat.le_refl _)) fun e a w q => by
    cases e <;> first | exact q | exact q.1
end Go.Proofs.YtkfofdmcggoonaaGreatDoor
/-
  Whether a key stands among a step's keys, and their sort, as alias.Target asks them. Condition: at most 1000000 keys.
-/
namespace Go.Proofs.YtkfofdmcggoonaaGreatDoor
open Go.RowKit Go.Shelf Go.Lib Go.Sort

theorem target1_pred (K : ByteArray) (B : Nat) (w : World) (hB : B < w.heap.size) (hcell : w.cell? ⟨B, 0, none⟩ = some (.string K)) :
    PredBelow Tryz.prog 36 #[.pointer (some ⟨B, 0, none⟩)] (fun x : PKey => .agg ([kA x, kB x] : List Value).toArray) (fun x => decide (x.1 = K)) w := fun W x hb => by
  have hc : W.cell? ⟨B, 0, none⟩ = some (.string K) := (hb.cell (p := ⟨B, 0, none⟩) hB).trans hcell
  have hBW : B < W.heap.size := Nat.lt_of_lt_of_le hB hb.size
  have hne : B ≠ W.heap.size := by omega
  show Calls Tryz.prog 36 #[.agg #[.string x.1, .string x.2], .pointer (some ⟨B, 0, none⟩)] W _
  have he : (x.1.toList == K.toList) = decide (x.1 = K) := ba_beq _ _
  go_enter Tryz.func36, Tryz.ntmps36
  go_wp2
  go_ret
  exact ⟨by simp_all, hb.alloc hb.size _⟩
theorem target2_cmps : Cmps 38 := fun x y W => by
  have hcon := fun W' => compare_any x.1 y.1 W'
  generalize Lib.compareBytes x.1.data.toList y.1.data.toList = r at hcon ⊢
  go_enter Tryz.func38, Tryz.ntmps38
  go_wp2_with (go_at_call 24; refine (hcon _).mono ?_; rintro e w' ⟨rfl, rfl⟩)
  go_ret
  exact ⟨rfl, 0, _, by rw [alloc_eq_grow, alloc_eq_grow, grow_grow]; rfl⟩
theorem cont_none (A : Option Addr) (c : Nat) (fv : Value) (w : World) :
    Calls Tryz.prog 17 #[.slice A 0 c, fv] w fun e w' => e = .returned (.bool false) ∧ Below w.heap.size w w' := by
  have hcon : ∀ W, Calls Tryz.prog 40 #[.slice A 0 c, fv] W fun e w' => e = .returned (.int .i64 (-1)) ∧ w' = W := fun W => by
    go_enter Tryz.func40, Tryz.ntmps40
    go_wp2
    go_loopw [8] (fun iv wr => iv = .int .i64 0 ∧ wr = W) (fun _ _ => 0)
    case atStart => exact ⟨rfl, rfl⟩
    case round =>
      obtain ⟨rfl, rfl⟩ := hrel
      go_wp2
      go_ret
      exact ⟨rfl, rfl⟩
  go_enter Tryz.func17, Tryz.ntmps17
  go_wp2_with (go_at_call 40; refine (hcon _).mono ?_; rintro e w' ⟨rfl, rfl⟩)
  go_ret
  exact ⟨rfl, Below.refl _ _⟩
theorem cont_of (F : FuncId) (cb : Array Value) (eg : ∀ args w, (callFunc F args).run Tryz.prog w = .ok (.enter F args) w) (ks : List PKey) (K : ByteArray) (v : Value) (w : World) (hp : PredBelow Tryz.prog F cb (fun x : PKey => .agg ([kA x, kB x] : List Value).toArray) (fun x => decide (x.1 = K)) w) (hk : KeysAt w w.heap.size v ks) (hn : ks.length ≤ 8796093022208) :
    Calls Tryz.prog 17 #[v, .func (.func F) #[] cb] w fun e w' => e = .returned (.bool (ks.any fun x => decide (x.1 = K))) ∧ Below w.heap.size w w' := by
  obtain ⟨A, c, rfl, -, -, hR⟩ := hk
  rcases Nat.eq_zero_or_pos ks.length with h0 | h0
  · obtain rfl := List.eq_nil_of_length_eq_zero h0
    exact cont_none A c _ w
  · obtain ⟨b, o, rfl, hb, hc⟩ := hR.spot h0 (by omega)
    have h := AnyQ.slices_ContainsFunc contL 2 Tryz.isAgg33 Tryz.sizeOf33 (fun x : PKey => [kA x, kB x]) (fun _ => rfl) (fun x => decide (x.1 = K)) F cb eg b o ks.length c ks w
      hp (Nat.le_refl _) (by omega) hb (fun j hj i v hi => by
        have hx : ks[j]? = some ks[j]! := by rw [List.getElem?_eq_getElem hj, _root_.getElem!_pos ks j hj]
        have hat := pairCells_at ks j _ hx
        generalize ks[j]! = y at hi hat
        match i, hi with
        | 0, hi => simp at hi; rw [← hi]; exact hc _ _ hat.1
        | 1, hi => simp at hi; rw [← hi]; exact hc _ _ hat.2
        | i + 2, hi => simp at hi)
    rw [List.take_of_length_le (Nat.le_refl _)] at h
    exact h
theorem cont_any (ks : List PKey) (K : ByteArray) (B : Nat) (v : Value) (w : World) (hk : KeysAt w w.heap.size v ks) (hn : ks.length ≤ 1000000) (hB : B < w.heap.size) (hcell : w.cell? ⟨B, 0, none⟩ = some (.string K)) :
    Calls Tryz.prog 17 #[v, .func (.func 36) #[] #[.pointer (some ⟨B, 0, none⟩)]] w fun e w' => e = .returned (.bool (ks.any fun x => decide (x.1 = K))) ∧ Below w.heap.size w w' :=
  cont_of 36 _ (enters_of Tryz.func36 (by kernel_rfl) rfl) ks K v w (target1_pred K B w hB hcell) hk (by omega)
/-- The keys of a row of the call's own, sorted in place. -/
theorem asort_of (F : FuncId) (eg : ∀ args w, (callFunc F args).run Tryz.prog w = .ok (.enter F args) w) (hF : Cmps F) (ks : List PKey) (base : Nat) (v : Value) (w : World) (hO : w.ownsRow base 33 2 v ks.length (pairCells ks)) (hD : DistK ks) (hn : ks.length ≤ 8796093022208) :
    Calls Tryz.prog 22 #[v, .func (.func F) #[] #[]] w fun e w' => e = .returned (.tuple #[]) ∧ w'.ownsRow base 33 2 v (sortK ks).length (pairCells (sortK ks)) ∧ (sortK ks).length = ks.length ∧ w.grownBy w' v.ownBlock := by
  obtain ⟨A, c, rfl, -, -, -⟩ := own_form hO
  rcases Nat.eq_zero_or_pos ks.length with h0 | h0
  · obtain rfl := List.eq_nil_of_length_eq_zero h0
    exact (AnyF.slices_SortFunc_none sortP A c _ w).mono fun e w' ⟨he, hw⟩ => ⟨he, by rw [hw]; exact hO, rfl, by rw [hw]; exact World.grownBy.refl _ _⟩
  · obtain ⟨g, rfl, -, -⟩ := own_spot hO h0
    have hO2 : w.ownsRow base 33 2 (.slice (some ⟨g, 0, none⟩) ks.toArray.size c) ks.toArray.size (cells2 kA kB ks.toArray.toList) := by simpa [pairs_cells] using hO
    have hh := own_holds hO2 (by simpa using h0)
    have hperm : ks.Perm (sortK ks) := by
      have : ∀ (n : Nat) (l : List PKey), l.length = n → DistK l → l.Perm (sortK l) := by
        intro n
        induction n with
        | zero =>
          intro l hl _
          obtain rfl := List.eq_nil_of_length_eq_zero hl
          exact List.Perm.refl _
        | succ n ih =>
          intro l hl h
          have hne : l ≠ [] := fun e => by rw [e] at hl; cases hl
          obtain ⟨l, x, rfl⟩ : ∃ a x, l = a ++ [x] := ⟨l.dropLast, l.getLast hne, (List.dropLast_concat_getLast hne).symm⟩
          rw [← sortK_snoc h]
          have h1 := (distK_snoc.1 h).1
          have h2 : ∀ (m : List PKey) (y : PKey), (m ++ [y]).Perm (insK m y) := by
            intro m y
            induction m with
            | nil => exact List.Perm.refl _
            | cons z m ihm =>
              simp only [insK]
              split
              · exact ihm.cons z
              · exact List.perm_append_comm (l₁ := z :: m) (l₂ := [y])
          exact ((ih l (by simpa using hl) h1).append_right [x]).trans (h2 _ x)
      exact this _ ks rfl hD
    have hcon := sort_of F eg hF g c ks.toArray w hh.1 hh.2.1 (by simpa using hn)
    rw [show ks.toArray.size = ks.length by simp] at hcon hO2
    refine hcon.mono fun e w' ⟨he, d', m, os, hpm, hsd, hw⟩ => ?_
    obtain ⟨hd1, hd2⟩ := sorts_to (fun x y : PKey => Op.bytesLess x.1.toList y.1.toList) ks.toArray d' (sortK ks) (by simpa using hpm) (by simpa using hsd) (by simpa using hperm) (sortK_rises hD)
    have hlen : (sortK ks).length = ks.length := hperm.length_eq.symm
    have hd3 : d'.size = ks.length := by rw [hd2]; simp
    have ho := own_sorted (a := kA) (b := kB) hO2 hd3 m os
    rw [← hw, hd1] at ho
    refine ⟨he, by rw [hlen]; exact ho, hlen, ?_⟩
    rw [hw]
    exact sortWorldK_grown _ _ _ _ _ _ _
theorem asort_any (ks : List PKey) (base : Nat) (v : Value) (w : World) (hO : w.ownsRow base 33 2 v ks.length (pairCells ks)) (hD : DistK ks) (hn : ks.length ≤ 1000000) :
    Calls Tryz.prog 22 #[v, .func (.func 38) #[] #[]] w fun e w' => e = .returned (.tuple #[]) ∧ w'.ownsRow base 33 2 v (sortK ks).length (pairCells (sortK ks)) ∧ (sortK ks).length = ks.length ∧ w.grownBy w' v.ownBlock :=
  asort_of 38 (enters_of Tryz.func38 (by kernel_rfl) rfl) target2_cmps ks base v w hO hD (by omega)
end Go.Proofs.YtkfofdmcggoonaaGreatDoor
/-
  One key of an alias's text, plainly: piece by piece as the walk meets them. No condition, no program in sight.
-/
namespace Go.Proofs.YtkfofdmcggoonaaGreatDoor
open Go.RowKit

section
variable {s : ByteArray} {p q r t u : Nat} {ks : List PKey} {v : ByteArray}
theorem akStep_head (h : standsB s p 91 = true) (h1 : mustM s p [91, 64] = (q, false)) : akStep s p ks = .error q := by
  unfold akStep
  rw [if_pos h, h1]
theorem akStep_again (h : standsB s p 91 = true) (h1 : mustM s p [91, 64] = (q, true)) (h2 : (ks.any fun x => decide (x.1 = s.extract q (aname s q))) = true) : akStep s p ks = .error q := by
  unfold akStep
  rw [if_pos h, h1]
  simp only
  rw [if_pos h2]
theorem akStep_none (h : standsB s p 91 = true) (h1 : mustM s p [91, 64] = (q, true)) (h2 : (ks.any fun x => decide (x.1 = s.extract q (aname s q))) = false) (h3 : aname s q = q) : akStep s p ks = .error q := by
  unfold akStep
  rw [if_pos h, h1]
  simp only
  rw [if_neg (by rw [h2]; simp), if_pos h3]
theorem akStep_at (h : standsB s p 91 = true) (h1 : mustM s p [91, 64] = (q, true)) (h2 : (ks.any fun x => decide (x.1 = s.extract q (aname s q))) = false) (h3 : aname s q ≠ q) : akStep s p ks = match mustM s (aname s q) [61] with
    | (r, false) => .error r
    | (r, true) => match avalueM s r with
      | (t, none) => .error t
      | (t, some v) => match mustM s t [93] with
        | (u, false) => .error u
        | (u, true) => .ok (some ((s.extract q (aname s q), v), u)) := by
  unfold akStep
  rw [if_pos h, h1]
  simp only
  rw [if_neg (by rw [h2]; simp), if_neg h3]
  rcases e2 : mustM s (aname s q) [61] with ⟨r, b⟩
  cases b
  · rfl
  · unfold avalueM
    by_cases hq : (standsB s r 39 || standsB s r 34) = true
    · simp only [if_pos hq]
      rcases e3 : avalM s (if standsB s r 39 = true then 39 else 34) (r + 1) with ⟨u, b⟩
      cases b
      · rfl
      · dsimp only
        rcases e4 : mustM s (u + 1) [93] with ⟨v, b⟩
        cases b <;> rfl
    · simp only [if_neg hq]
end
theorem avalueM_le {s : ByteArray} {p : Nat} (hp : p ≤ s.size) : p ≤ (avalueM s p).1 ∧ (avalueM s p).1 ≤ s.size := by
  unfold avalueM
  split
  · rename_i h
    have h1 : p < s.size := by
      rcases Bool.or_eq_true _ _ ▸ h with h1 | h1
      · exact (stands_at h1).1
      · exact (stands_at h1).1
    have v1 := avalM_le s (if standsB s p 39 = true then 39 else 34) (s.size - (p + 1)) (p + 1) (Nat.le_refl _) h1
    split
    · rename_i t e
      rw [e] at v1
      have h2 := (stands_at (v1.2.2 rfl)).1
      have h3 := v1.1
      simp only at h2 h3 ⊢
      omega
    · rename_i t e
      rw [e] at v1
      have h2 := v1.1
      have h3 := v1.2.1
      simp only at h2 h3 ⊢
      omega
  · exact ⟨Nat.le_refl _, hp⟩
end Go.Proofs.YtkfofdmcggoonaaGreatDoor
/-
  What holds at the labels of alias.Target; plain lemmas. No condition beyond those that each names.
-/
namespace Go.Proofs.YtkfofdmcggoonaaGreatDoor
open Go.RowKit

/-- A frame of Target. -/
def TFrame (g s : ByteArray) (r gs gx : Nat) (up : Value) (k : Int) (a' : Act) : Prop := ∃ u : Nat → Value, a' = { tmps := (.string g :: .string s :: u 2 :: u 3 :: u 4 :: .pointer (some ⟨r, 0, none⟩) :: up :: u 7 :: .pointer (some ⟨gs, 0, none⟩) :: .int .i64 k :: .pointer (some ⟨gx, 0, none⟩) :: u 11 :: u 12 :: u 13 :: u 14 :: u 15 :: u 16 :: u 17 :: u 18 :: u 19 :: u 20 :: u 21 :: u 22 :: u 23 :: u 24 :: u 25 :: u 26 :: u 27 :: u 28 :: u 29 :: u 30 :: u 31 :: u 32 :: u 33 :: u 34 :: u 35 :: u 36 :: u 37 :: u 38 :: u 39 :: u 40 :: u 41 :: u 42 :: u 43 :: u 44 :: u 45 :: u 46 :: u 47 :: u 48 :: u 49 :: u 50 :: u 51 :: u 52 :: u 53 :: u 54 :: u 55 :: u 56 :: u 57 :: u 58 :: u 59 :: u 60 :: u 61 :: u 62 :: u 63 :: u 64 :: u 65 :: u 66 :: u 67 :: u 68 :: u 69 :: u 70 :: u 71 :: u 72 :: u 73 :: u 74 :: u 75 :: u 76 :: u 77 :: u 78 :: u 79 :: u 80 :: u 81 :: u 82 :: u 83 :: u 84 :: u 85 :: u 86 :: u 87 :: u 88 :: u 89 :: u 90 :: u 91 :: u 92 :: u 93 :: u 94 :: u 95 :: u 96 :: u 97 :: u 98 :: u 99 :: u 100 :: u 101 :: u 102 :: u 103 :: u 104 :: u 105 :: u 106 :: u 107 :: u 108 :: u 109 :: u 110 :: u 111 :: u 112 :: u 113 :: u 114 :: u 115 :: u 116 :: u 117 :: u 118 :: u 119 :: u 120 :: u 121 :: u 122 :: u 123 :: u 124 :: u 125 :: u 126 :: u 127 :: u 128 :: u 129 :: u 130 :: u 131 :: u 132 :: u 133 :: u 134 :: u 135 :: u 136 :: u 137 :: u 138 :: u 139 :: u 140 :: u 141 :: u 142 :: u 143 :: u 144 :: u 145 :: u 146 :: u 147 :: []).toArray, defers := [] }
theorem tframe_of {g s : ByteArray} {r gs gx : Nat} {up : Value} {k : Int} {a' : Act} (u : Nat → Value) (_hu : u = fun i => a'.tmps.getD i undef) (h : a' = { tmps := (.string g :: .string s :: u 2 :: u 3 :: u 4 :: .pointer (some ⟨r, 0, none⟩) :: up :: u 7 :: .pointer (some ⟨gs, 0, none⟩) :: .int .i64 k :: .pointer (some ⟨gx, 0, none⟩) :: u 11 :: u 12 :: u 13 :: u 14 :: u 15 :: u 16 :: u 17 :: u 18 :: u 19 :: u 20 :: u 21 :: u 22 :: u 23 :: u 24 :: u 25 :: u 26 :: u 27 :: u 28 :: u 29 :: u 30 :: u 31 :: u 32 :: u 33 :: u 34 :: u 35 :: u 36 :: u 37 :: u 38 :: u 39 :: u 40 :: u 41 :: u 42 :: u 43 :: u 44 :: u 45 :: u 46 :: u 47 :: u 48 :: u 49 :: u 50 :: u 51 :: u 52 :: u 53 :: u 54 :: u 55 :: u 56 :: u 57 :: u 58 :: u 59 :: u 60 :: u 61 :: u 62 :: u 63 :: u 64 :: u 65 :: u 66 :: u 67 :: u 68 :: u 69 :: u 70 :: u 71 :: u 72 :: u 73 :: u 74 :: u 75 :: u 76 :: u 77 :: u 78 :: u 79 :: u 80 :: u 81 :: u 82 :: u 83 :: u 84 :: u 85 :: u 86 :: u 87 :: u 88 :: u 89 :: u 90 :: u 91 :: u 92 :: u 93 :: u 94 :: u 95 :: u 96 :: u 97 :: u 98 :: u 99 :: u 100 :: u 101 :: u 102 :: u 103 :: u 104 :: u 105 :: u 106 :: u 107 :: u 108 :: u 109 :: u 110 :: u 111 :: u 112 :: u 113 :: u 114 :: u 115 :: u 116 :: u 117 :: u 118 :: u 119 :: u 120 :: u 121 :: u 122 :: u 123 :: u 124 :: u 125 :: u 126 :: u 127 :: u 128 :: u 129 :: u 130 :: u 131 :: u 132 :: u 133 :: u 134 :: u 135 :: u 136 :: u 137 :: u 138 :: u 139 :: u 140 :: u 141 :: u 142 :: u 143 :: u 144 :: u 145 :: u 146 :: u 147 :: []).toArray, defers := [] }) : TFrame g s r gs gx up k a' := ⟨u, h⟩
theorem StepsIn.keptBlk {w w' : World} {base b : Nat} {v : Value} {l : List PStep} {vs : List Value} {t : TypeId} {cs : Array Value} (h : StepsIn w base v l vs) (hB : Blk w b t cs) (h1 : 33 ≠ t) (hv : v.ownBlock ≠ some b) (hO : Only b w w') : StepsIn w' base v l vs := by
  obtain ⟨hl, h2, h3⟩ := h
  have hst : ∀ (i : Nat) (kv : Value), vs[i]? = some kv → ∃ st, l[i]? = some st := fun i kv hi => StepsIn.step ⟨hl, h2, h3⟩ hi
  refine ⟨hl, h2.kept hO ?_, h3.kept hl hO ?_⟩
  · cases he : v.ownBlock with
    | none => exact .inl rfl
    | some k => exact .inr (by rw [← he]; exact hv)
  · intro i kv k hi hk e
    obtain ⟨st, hs⟩ := hst i kv hi
    have := own_blk (h3.1 i st kv hs hi) hB h1 hk
    simp at e
    exact this e.symm
/-- What holds at each label: the scan at p, x's cell, the steps so far. -/
def TSt (w : World) (r gs gx : Nat) (s : ByteArray) (p : Nat) (L : List PStep) (VS : List Value) (up x1 x2 : Value) (W : World) : Prop :=
  TBase w r W ∧ AS W gs s p ∧ Blk W gx 70 #[x1, x2] ∧ StepsIn W (r + 1) up L VS ∧ up.ownBlock ≠ some gx ∧ p ≤ s.size
section
variable {w W W' : World} {r gs gx p q : Nat} {s : ByteArray} {L : List PStep} {VS : List Value} {up x1 x2 : Value}
theorem tst_scan (h : TSt w r gs gx s p L VS up x1 x2 W) (hr : r < gs) (hgx : gs ≠ gx) (hO : Only gs W W') (hA : AS W' gs s q) (hq : q ≤ s.size) : TSt w r gs gx s q L VS up x1 x2 W' := by
  obtain ⟨h1, h2, h3, h4, h5, -⟩ := h
  refine ⟨h1.grown hO (fun k hk => by cases hk; omega), hA, h3.grown hO (fun e => hgx (by cases e; rfl)), h4.keptBlk h2 (by decide) (fun e => ?_) hO, h5, hq⟩
  exact own_blk h4.2.1 h2 (by decide) e rfl
theorem tst_x (h : TSt w r gs gx s p L VS up x1 x2 W) (hr : r < gx) (hgx : gs ≠ gx) (y1 y2 : Value) : TSt w r gs gx s p L VS up y1 y2 ((W.setCell ⟨gx, 0, none⟩ y1).setCell ⟨gx, 1, none⟩ y2) := by
  obtain ⟨h1, h2, h3, h4, h5, h6⟩ := h
  have hO : Only gx W ((W.setCell ⟨gx, 0, none⟩ y1).setCell ⟨gx, 1, none⟩ y2) := ((Only.refl gx W).setCell (p := ⟨gx, 0, none⟩) (.inl rfl) _).setCell (p := ⟨gx, 1, none⟩) (.inl rfl) _
  exact ⟨h1.grown hO (fun k hk => by cases hk; omega), Blk.grown h2 hO (fun e => hgx (by cases e; rfl)), h3.two_set _ _, h4.keptBlk h3 (by decide) h5 hO, h5, h6⟩
theorem tst_drewN (h : TSt w r gs gx s p L VS up x1 x2 W) (k : Nat) : TSt w r gs gx s p L VS up x1 x2 (W.drewN k) :=
  ⟨h.1.drewN k, h.2.1.drewN k, h.2.2.1.drewN k, h.2.2.2.1, h.2.2.2.2⟩
end
theorem tst_keys {w W W' : World} {r gs gx p B n : Nat} {s : ByteArray} {L : List PStep} {VS : List Value} {up x1 x2 kv : Value} {xs : List Value} (h : TSt w r gs gx s p L VS up x1 x2 W) (hO : W.ownsRow B 33 2 kv n xs) (hB : r + 1 ≤ B)
    (hV : ∀ (i : Nat) (kv' : Value) (k : Nat), VS[i]? = some kv' → kv'.ownBlock = some k → k < B) (_hr : r < gs) (_hgx : gs ≠ gx) (_hx : r < gx) (hg : W.grownBy W' kv.ownBlock) : TSt w r gs gx s p L VS up x1 x2 W' := by
  obtain ⟨h1, h2, h3, h4, h5, h6⟩ := h
  refine ⟨h1.grown hg (fun k hk => by have := (hO.lt k hk).1; omega), Blk.grown h2 hg (fun e => own_blk hO h2 (by decide) e.symm rfl), h3.grown hg (fun e => own_blk hO h3 (by decide) e.symm rfl), ?_, h5, h6⟩
  obtain ⟨a1, a2, a3⟩ := h4
  refine ⟨a1, a2.kept hg ?_, a3.kept a1 hg (fun i kv' k hi hk e => ?_)⟩
  · cases hv : up.ownBlock with
    | none => exact .inl rfl
    | some k => exact .inr fun e => own_other a2 hO (by decide) k hv e.symm
  · have := (hO.lt k e).1
    have := hV i kv' k hi hk
    omega
theorem keys_own {w : World} {base : Nat} {A : Option Addr} {c : Nat} {ks : List PKey} (h : w.ownsRow base 33 2 (.slice A ks.length c) ks.length (pairCells ks)) : KeysAt w w.heap.size (.slice A ks.length c) ks := by
  obtain ⟨A', c', e, h1, h2, h3⟩ := own_form h
  cases e
  exact ⟨A, c, rfl, h1, h2, h3⟩
theorem blk_other {w : World} {a b : Nat} {t t' : TypeId} {cs cs' : Array Value} (h : Blk w a t cs) (h' : Blk w b t' cs') (ht : t ≠ t') : a ≠ b := by
  rintro rfl
  unfold Blk at h h'
  rw [h] at h'
  simp at h'
  exact ht h'.2
theorem own_keptBlk {w w' : World} {base b size n : Nat} {e t : TypeId} {v : Value} {xs : List Value} {cs : Array Value} (h : w.ownsRow base e size v n xs) (hB : Blk w b t cs) (he : e ≠ t) (hO : Only b w w') : w'.ownsRow base e size v n xs := h.kept hO (by
  cases hv : v.ownBlock with
  | none => exact .inl rfl
  | some k => exact .inr fun e2 => own_blk h hB he hv (by cases e2; rfl))
/-- A row of keys of the call's own. -/
def KR (w : World) (B : Nat) (kv : Value) (ks : List PKey) : Prop := w.ownsRow B 33 2 kv ks.length (pairCells ks) ∧ B ≤ w.heap.size
theorem kr_blk {w w' : World} {B b : Nat} {t : TypeId} {kv : Value} {ks : List PKey} {cs : Array Value} (h : KR w B kv ks) (hB : Blk w b t cs) (he : 33 ≠ t) (hO : Only b w w') : KR w' B kv ks :=
  ⟨own_keptBlk h.1 hB he hO, Nat.le_trans h.2 hO.size⟩
theorem kr_more {w w' : World} {B : Nat} {kv : Value} {ks : List PKey} (h : KR w B kv ks) (hb : Below w.heap.size w w') : KR w' B kv ks := ⟨own_more h.1 hb, Nat.le_trans h.2 hb.size⟩
section
variable {w W W' : World} {r gs gx p q : Nat} {s : ByteArray} {L : List PStep} {VS : List Value} {up x1 x2 : Value}
theorem tst_x1 (h : TSt w r gs gx s p L VS up x1 x2 W) (hr : r < gx) (hgx : gs ≠ gx) (y2 : Value) : TSt w r gs gx s p L VS up x1 y2 (W.setCell ⟨gx, 1, none⟩ y2) := by
  obtain ⟨h1, h2, h3, h4, h5, h6⟩ := h
  have hO : Only gx W (W.setCell ⟨gx, 1, none⟩ y2) := (Only.refl gx W).setCell (p := ⟨gx, 1, none⟩) (.inl rfl) _
  exact ⟨h1.grown hO (fun k hk => by cases hk; omega), Blk.grown h2 hO (fun e => hgx (by cases e; rfl)), h3.set_ 1 y2, h4.keptBlk h3 (by decide) h5 hO, h5, h6⟩
theorem tst_on (h : TSt w r gs gx s p L VS up x1 x2 W) (hb : Below W.heap.size W W') : TSt w r gs gx s p L VS up x1 x2 W' := by
  obtain ⟨h1, h2, h3, h4, h5, h6⟩ := h
  exact ⟨h1.below hb h1.2.2, Blk.below h2 hb h2.lt, h3.below hb h3.lt, h4.only (Only.of_below (g := r) hb) (by omega), h5, h6⟩
theorem tst_alloc (h : TSt w r gs gx s p L VS up x1 x2 W) (o : Obj) : TSt w r gs gx s p L VS up x1 x2 (W.alloc o) := tst_on h ((Below.refl _ W).alloc (Nat.le_refl _) o)
theorem tst_at (h : TSt w r gs gx s p L VS up x1 x2 W) (hr : r < gs) (hgx : gs ≠ gx) (hq : q ≤ s.size) : TSt w r gs gx s q L VS up x1 x2 (W.setCell ⟨gs, 1, none⟩ (.int .i64 (q : Int))) :=
  tst_scan h hr hgx ((Only.refl gs W).setCell (p := ⟨gs, 1, none⟩) (.inl rfl) _) (h.2.1.goto_ q) hq
end
theorem tst_push {w W W' : World} {r gs gx p B : Nat} {s : ByteArray} {L : List PStep} {VS : List Value} {up x1 x2 kv v' : Value} {st : PStep} (h : TSt w r gs gx s p L VS up x1 x2 W) (hB : r + 1 ≤ B)
    (hV : ∀ (i : Nat) (kv' : Value) (k : Nat), VS[i]? = some kv' → kv'.ownBlock = some k → k < B) (hk : W.ownsRow B 33 2 kv st.2.length (pairCells st.2)) (hg : W.grownBy W' up.ownBlock)
    (hown : W'.ownsRow (r + 1) 70 2 v' (L.length + 1) (stepCells L VS ++ [.string st.1, kv])) (hat : v'.ownBlock = up.ownBlock ∨ v'.ownBlock = some W.heap.size) : TSt w r gs gx s p (L ++ [st]) (VS ++ [kv]) v' x1 x2 W' := by
  obtain ⟨h1, h2, h3, h4, h5, h6⟩ := h
  refine ⟨h1.grown hg (fun k hk => (h4.2.1.lt k hk).1), Blk.grown h2 hg (fun e => own_blk h4.2.1 h2 (by decide) e.symm rfl), h3.grown hg (fun e => h5 e.symm), StepsIn.push h4 hB hV hk hg hown, ?_, h6⟩
  rcases hat with h | h
  · rw [h]; exact h5
  · rw [h]
    intro e
    have := h3.lt
    cases e
    omega
theorem stepSmall_snoc {n p : Nat} {L : List PStep} {nm : ByteArray} {ks : List PKey} (h : ∀ st ∈ L, StepSmall st) (hn : n ≤ 1048576) (hp : p ≤ n) (h1 : nm.size ≤ n) (h2 : ks.length * 4 ≤ p) (h3 : ∀ x ∈ ks, KeySmall n x) : ∀ st ∈ L ++ [(nm, sortK ks)], StepSmall st := fun st hst => by
  rcases List.mem_append.1 hst with hst | hst
  · exact h st hst
  · rw [List.mem_singleton.1 hst]
    refine ⟨by simp only; omega, by have := sortK_len ks; simp only; omega, fun k hk => ?_⟩
    have := h3 k ((sortK_mem _ _).1 hk)
    exact ⟨by have := this.1; omega, by have := this.2; omega⟩
theorem own_front {w : World} {base size n c m : Nat} {e : TypeId} {A : Option Addr} {xs : List Value} (h : w.ownsRow base e size (.slice A n c) n xs) (hn : 0 < n) (hm : m ≤ n) : w.ownsRow base e size (.slice A m c) m (xs.take (m * size)) := by
  obtain ⟨h1, h2⟩ := h
  have hle : m * size ≤ n * size := Nat.mul_le_mul_right _ hm
  rcases h2 with ⟨-, h2⟩ | ⟨g, cap, cur, hv, hg, hh, hc, hcm, hs, hx⟩
  · omega
  · cases hv
    refine ⟨by rw [List.length_take, h1]; omega, .inr ⟨g, c, cur, rfl, hg, hh, by omega, hcm, hs, ?_⟩⟩
    rw [← hx, List.take_take, Nat.min_eq_left hle]
theorem stepsIn_front {w : World} {base c m : Nat} {A : Option Addr} {l : List PStep} {vs : List Value} (h : StepsIn w base (.slice A l.length c) l vs) (hm : l.length = m + 1) : StepsIn w base (.slice A m c) (l.take m) (vs.take m) := by
  have hl : (l.take m).length = m := by rw [List.length_take]; omega
  refine ⟨by rw [List.length_take, List.length_take, h.1], ?_, keysOwn_take h.2.2 m⟩
  rw [hl, stepCells_take]
  exact own_front h.2.1 (by omega) (by omega)
theorem tst_front {w W : World} {r gs gx p c m : Nat} {s : ByteArray} {A : Option Addr} {L : List PStep} {VS : List Value} {x1 x2 : Value} (h : TSt w r gs gx s p L VS (.slice A L.length c) x1 x2 W) (hm : L.length = m + 1) : TSt w r gs gx s p (L.take m) (VS.take m) (.slice A (L.take m).length c) x1 x2 W := by
  have hl : (L.take m).length = m := by rw [List.length_take]; omega
  obtain ⟨h1, h2, h3, h4, h5, h6⟩ := h
  rw [hl]
  refine ⟨h1, h2, h3, stepsIn_front h4 hm, ?_, h6⟩
  cases A with
  | none => simp [Value.ownBlock]
  | some a => exact h5
theorem keySmall_snoc {n : Nat} {ks : List PKey} {x : PKey} (h : ∀ y ∈ ks, KeySmall n y) (hx : KeySmall n x) : ∀ y ∈ ks ++ [x], KeySmall n y := fun y hy => by
  rcases List.mem_append.1 hy with hy | hy
  · exact h y hy
  · rw [List.mem_singleton.1 hy]; exact hx
def blkOf (v : Value) : Nat := match v with | .pointer (some ad) => ad.block | _ => 0
/-- At 'wrong'. -/
def TAt0 (g s : ByteArray) (w : World) (r : Nat) (a : Act) (W : World) : Prop := ∃ (gs gx : Nat) (up : Value) (k : Int) (p : Nat),
  TFrame g s r gs gx up k a ∧ TBase w r W ∧ AS W gs s p ∧ r < gs ∧ p ≤ s.size ∧ targetM g s = (ByteArray.empty, 230, (p : Int))
/-- At 'climb'. -/
def TAt1 (g s : ByteArray) (w : World) (r : Nat) (p : Nat) (a : Act) (W : World) : Prop := ∃ (gs gx : Nat) (A : Option Addr) (c : Nat) (k : Nat) (L : List PStep) (VS : List Value),
  TFrame g s r gs gx (.slice A L.length c) (k : Int) a ∧ TSt w r gs gx s p L VS (.slice A L.length c) (.string ByteArray.empty) (.slice none 0 0) W ∧ r < gs ∧ gs ≠ gx ∧ r < gx ∧ L.length ≤ c ∧ c ≤ maxLen ∧ L.length + k ≤ 64 ∧
    (∀ st ∈ L, StepSmall st) ∧ targetM g s = tailM s (aclimbM s p L (decide (k = 0)))
/-- At 'step'. -/
def TAt2 (g s : ByteArray) (w : World) (r : Nat) (p : Nat) (a : Act) (W : World) : Prop := ∃ (gs gx : Nat) (up x1 x2 : Value) (k : Int) (L : List PStep) (VS : List Value),
  TFrame g s r gs gx up k a ∧ TSt w r gs gx s p L VS up x1 x2 W ∧ r < gs ∧ gs ≠ gx ∧ r < gx ∧ L.length * 2 ≤ 128 + p ∧
    (∀ st ∈ L, StepSmall st) ∧ targetM g s = lastM (astepsM s p L)
/-- What comes of the keys that are left, and of the steps behind them. -/
def keyM (s nm : ByteArray) (L : List PStep) (r : Except Nat (List PKey × Nat)) : ByteArray × Int × Int := match r with
  | .error e => lastM (.error e)
  | .ok (ks, q) => if standsB s q 47 = true then lastM (astepsM s (q + 1) (L ++ [(nm, sortK ks)])) else if q = s.size then lastM (.ok (L ++ [(nm, sortK ks)])) else lastM (.error q)
/-- At 'key'. -/
def TAt3 (g s : ByteArray) (w : World) (r : Nat) (p : Nat) (a : Act) (W : World) : Prop := ∃ (gs gx B : Nat) (up kv : Value) (k : Int) (L : List PStep) (VS : List Value) (nm : ByteArray) (ks : List PKey),
  TFrame g s r gs gx up k a ∧ TSt w r gs gx s p L VS up (.string nm) kv W ∧ r < gs ∧ gs ≠ gx ∧ r < gx ∧ L.length * 2 + 1 ≤ 128 + p ∧
    (∀ st ∈ L, StepSmall st) ∧ KR W B kv ks ∧ r + 1 ≤ B ∧ (∀ (i : Nat) (kv' : Value) (k : Nat), VS[i]? = some kv' → kv'.ownBlock = some k → k < B) ∧ DistK ks ∧ (∀ x ∈ ks, KeySmall s.size x) ∧ ks.length * 4 ≤ p ∧ nm.size ≤ s.size ∧
    targetM g s = keyM s nm L (akeysM s p ks)
def TJ (g s : ByteArray) (w : World) (r : Nat) (l : Nat) (a : Act) (W : World) : Prop :=
  (l = 0 ∧ TAt0 g s w r a W) ∨ (l = 1 ∧ ∃ p, TAt1 g s w r p a W) ∨ (l = 2 ∧ ∃ p, TAt2 g s w r p a W) ∨ (l = 3 ∧ ∃ p, TAt3 g s w r p a W)
def Tmu (s : ByteArray) (l : Nat) (a : Act) (W : World) : Nat := if l = 0 then 0 else s.size - atOf (blkOf (a.tmps.getD 8 undef)) W + 1
theorem tmu0 {s : ByteArray} {a : Act} {W : World} {bd : Nat} (h : 0 < bd) : Tmu s 0 a W < bd := by
  unfold Tmu
  rw [if_pos rfl]
  exact h
theorem tmu_frame {g s : ByteArray} {r gs gx p : Nat} {up : Value} {k : Int} {a : Act} {W : World} {l : Nat} (hf : TFrame g s r gs gx up k a) (hA : AS W gs s p) (hl : l ≠ 0) : Tmu s l a W = s.size - p + 1 := by
  obtain ⟨u, rfl⟩ := hf
  unfold Tmu
  rw [if_neg hl]
  show s.size - atOf gs W + 1 = _
  rw [atOf_as hA]
theorem target_result {tmps : Array Value} {w : World} {r0 : Nat} {x y : Int} {v : Value} (hB : Blk w r0 43 #[.int .i64 x, .int .i64 y]) (hp : tmps.getD 5 undef = .pointer (some ⟨r0, 0, none⟩)) (hu : tmps.getD 4 undef = v) :
    (results Tryz.f15 tmps).run Tryz.prog w = .ok (.tuple #[v, spotV x y]) w :=
  results_tmp_row Tryz.results15 tmps w r0 43 #[.int .i64 x, .int .i64 y] _ hp hB Tryz.underlying43 rfl spot_info hu
theorem tj0 {g s : ByteArray} {w W : World} {r : Nat} {a : Act} (h : TJ g s w r 0 a W) : TAt0 g s w r a W := by
  rcases h with ⟨-, h⟩ | ⟨h, -⟩ | ⟨h, -⟩ | ⟨h, -⟩
  · exact h
  · cases h
  · cases h
  · cases h
theorem tj1 {g s : ByteArray} {w W : World} {r : Nat} {a : Act} (h : TJ g s w r 1 a W) : ∃ p, TAt1 g s w r p a W := by
  rcases h with ⟨h, -⟩ | ⟨-, h⟩ | ⟨h, -⟩ | ⟨h, -⟩
  · cases h
  · exact h
  · cases h
  · cases h
theorem tj2 {g s : ByteArray} {w W : World} {r : Nat} {a : Act} (h : TJ g s w r 2 a W) : ∃ p, TAt2 g s w r p a W := by
  rcases h with ⟨h, -⟩ | ⟨h, -⟩ | ⟨-, h⟩ | ⟨h, -⟩
  · cases h
  · cases h
  · exact h
  · cases h
theorem tj3 {g s : ByteArray} {w W : World} {r : Nat} {a : Act} (h : TJ g s w r 3 a W) : ∃ p, TAt3 g s w r p a W := by
  rcases h with ⟨h, -⟩ | ⟨h, -⟩ | ⟨h, -⟩ | ⟨-, h⟩
  · cases h
  · cases h
  · cases h
  · exact h
end Go.Proofs.YtkfofdmcggoonaaGreatDoor
