/-
  What is wrong with a bundle, plainly. No condition, no program in sight. A bundle is a list of Books: a name, and pairs of a path and a text.
-/
import Derived.Test.YtfpepdjffehbcaaGreatPathPrint
import Derived.Test.YtfpepdjffehbcaaGreatRiseLaw
import Derived.Test.YtfpepdjffehbcaaGreatPoolCmpT
import Derived.Test.YtfpepdjffehbcaaGreatOctLaw
import Derived.Test.YtfpepdjffehbcaaGreatPoolPool
set_option linter.unusedVariables false
set_option linter.unusedSimpArgs false
namespace Go.Proofs.YtfpepdjffehbcaaGreat
open Go.RowKit

/-- Is a text in a list? -/
def hasT (M : List ByteArray) (p : ByteArray) : Bool := M.any fun q => decide (q = p)
theorem hasT_iff {M : List ByteArray} {p : ByteArray} : hasT M p = true ↔ p ∈ M := by
  unfold hasT
  rw [List.any_eq_true]
  exact ⟨fun ⟨q, h1, h2⟩ => by rw [← of_decide_eq_true h2]; exact h1, fun h => ⟨p, h, by simp⟩⟩
theorem hasT_not {M : List ByteArray} {p : ByteArray} (h : hasT M p = false) : p ∉ M := fun hm => by rw [hasT_iff.2 hm] at h; cases h
/-- The paths that have been met, with one more. -/
def addM (M : List ByteArray) (p : ByteArray) : List ByteArray := if hasT M p = true then M else M ++ [p]
theorem addM_mem (M : List ByteArray) (p q : ByteArray) : q ∈ addM M p ↔ q = p ∨ q ∈ M := by
  unfold addM
  split
  · rename_i h
    exact ⟨.inr, fun h2 => h2.elim (fun e => e ▸ hasT_iff.1 h) id⟩
  · rw [List.mem_append, List.mem_singleton]
    exact Or.comm
theorem addM_nodup {M : List ByteArray} (h : M.Nodup) (p : ByteArray) : (addM M p).Nodup := by
  unfold addM
  split
  · exact h
  · rename_i hp
    rw [List.nodup_append]
    exact ⟨h, by simp, fun a ha b hb e => hp (by rw [List.mem_singleton.1 hb] at e; exact hasT_iff.2 (e ▸ ha))⟩
theorem addM_len (M : List ByteArray) (p : ByteArray) : (addM M p).length = if hasT M p = true then M.length else M.length + 1 := by
  unfold addM
  split <;> simp
/-- What is wrong with a value behind a path. -/
def valE (M : List ByteArray) (ahead : ByteArray) (x : PKey) : Int :=
  if x.1 = ByteArray.empty ∨ rightB x.1 = false then 2
  else if bl ahead x.1 = false then 320
  else if (broken x.2).isSome = true then 6
  else if 4096 < x.2.size ∨ (hasT M x.1 = false ∧ M.length = 16384) then 3
  else 0
/-- .. with the values of a Book: the error, and the paths that have been met. -/
def valsE : List PKey → ByteArray → List ByteArray → Int × List ByteArray
  | [], _, M => (0, M)
  | x :: r, ahead, M => if valE M ahead x = 0 then valsE r x.1 (addM M x.1) else (valE M ahead x, M)
/-- .. with a Book's name behind another one. -/
def nameE (prev : Option ByteArray) (n : ByteArray) : Int :=
  if (broken n).isSome = true then 6
  else if 256 < n.size then 3
  else match prev with
    | none => 0
    | some q => if bl q n = false then 320 else 0
/-- .. with Books from a place on. -/
def booksE : List PStep → Nat → Option ByteArray → List ByteArray → Int × Int
  | [], _, _, _ => (0, 0)
  | b :: r, i, prev, M => if nameE prev b.1 = 0 then
      (if (valsE b.2 ByteArray.empty M).1 = 0 then booksE r (i + 1) (some b.1) (valsE b.2 ByteArray.empty M).2 else ((valsE b.2 ByteArray.empty M).1, (i : Int)))
    else (nameE prev b.1, (i : Int))
def namedN (l : List PStep) : Nat := (l.filter fun b => decide (b.1 ≠ ByteArray.empty)).length
/-- What is wrong with a bundle: the error, and the place. -/
def checkB (l : List PStep) : Int × Int := if 512 < namedN l ∨ 513 < l.length then (3, -1) else booksE l 0 none []
theorem valE_le {M : List ByteArray} {a : ByteArray} {x : PKey} (h : valE M a x = 0) : x.1 ≠ ByteArray.empty ∧ rightB x.1 = true ∧ bl a x.1 = true ∧ (broken x.2).isSome = false ∧ x.2.size ≤ 4096 := by
  unfold valE at h
  split at h
  · exact absurd h (by decide)
  · rename_i h1
    split at h
    · exact absurd h (by decide)
    · rename_i h2
      split at h
      · exact absurd h (by decide)
      · rename_i h3
        split at h
        · exact absurd h (by decide)
        · rename_i h4
          refine ⟨fun e => h1 (.inl e), ?_, by simpa using h2, by simpa using h3, Nat.le_of_not_lt fun e => h4 (.inl e)⟩
          cases hr : rightB x.1
          · exact absurd (.inr hr) h1
          · rfl
theorem valsE_drop {l : List PKey} {j : Nat} {x : PKey} (h : l[j]? = some x) (a : ByteArray) (M : List ByteArray) : valsE (l.drop j) a M = if valE M a x = 0 then valsE (l.drop (j + 1)) x.1 (addM M x.1) else (valE M a x, M) := by
  obtain ⟨hj, rfl⟩ := List.getElem?_eq_some_iff.1 h
  rw [List.drop_eq_getElem_cons hj]
  rfl
theorem booksE_drop {l : List PStep} {j : Nat} {b : PStep} (h : l[j]? = some b) (i : Nat) (prev : Option ByteArray) (M : List ByteArray) : booksE (l.drop j) i prev M = if nameE prev b.1 = 0 then
      (if (valsE b.2 ByteArray.empty M).1 = 0 then booksE (l.drop (j + 1)) (i + 1) (some b.1) (valsE b.2 ByteArray.empty M).2 else ((valsE b.2 ByteArray.empty M).1, (i : Int)))
    else (nameE prev b.1, (i : Int)) := by
  obtain ⟨hj, rfl⟩ := List.getElem?_eq_some_iff.1 h
  rw [List.drop_eq_getElem_cons hj]
  rfl
theorem namedN_step {l : List PStep} {j : Nat} {b : PStep} (h : l[j]? = some b) : namedN (l.take (j + 1)) = namedN (l.take j) + (if b.1 = ByteArray.empty then 0 else 1) := by
  unfold namedN
  rw [List.take_add_one, h, List.filter_append, List.length_append]
  congr 1
  by_cases e : b.1 = ByteArray.empty
  · simp [e]
  · simp [e]
theorem namedN_le (l : List PStep) : namedN l ≤ l.length := List.length_filter_le _ _
/-- Of what is right: the Books' names rise, each Book's paths rise, are right and not empty. -/
def ValsOk (l : List PKey) : Prop := RiseL (fun x y => bl x.1 y.1) l ∧ ∀ x ∈ l, x.1 ≠ ByteArray.empty ∧ rightB x.1 = true ∧ (broken x.2).isSome = false ∧ x.2.size ≤ 4096
theorem valsE_ok : ∀ (l : List PKey) (a : ByteArray) (M : List ByteArray), (valsE l a M).1 = 0 → RiseL (fun x y => bl x.1 y.1) l ∧ (∀ x ∈ l, bl a x.1 = true) ∧ ∀ x ∈ l, x.1 ≠ ByteArray.empty ∧ rightB x.1 = true ∧ (broken x.2).isSome = false ∧ x.2.size ≤ 4096
  | [], a, M, _ => ⟨List.Pairwise.nil, by simp, by simp⟩
  | x :: r, a, M, h => by
    simp only [valsE] at h
    split at h
    · rename_i hv
      obtain ⟨v1, v2, v3, v4, v5⟩ := valE_le hv
      obtain ⟨h1, h2, h3⟩ := valsE_ok r x.1 (addM M x.1) h
      refine ⟨List.pairwise_cons.2 ⟨h2, h1⟩, fun y hy => ?_, fun y hy => ?_⟩
      · rcases List.mem_cons.1 hy with rfl | hy
        · exact v3
        · exact blT.tr _ _ _ v3 (h2 y hy)
      · rcases List.mem_cons.1 hy with rfl | hy
        · exact ⟨v1, v2, v4, v5⟩
        · exact h3 y hy
    · rename_i hv
      exact absurd h hv
theorem booksE_ok : ∀ (l : List PStep) (i : Nat) (prev : Option ByteArray) (M : List ByteArray), (booksE l i prev M).1 = 0 → RiseL (fun x y => bl x.1 y.1) l ∧ (∀ q, prev = some q → ∀ b ∈ l, bl q b.1 = true) ∧ ∀ b ∈ l, b.1.size ≤ 256 ∧ ValsOk b.2
  | [], i, prev, M, _ => ⟨List.Pairwise.nil, by simp, by simp⟩
  | b :: r, i, prev, M, h => by
    simp only [booksE] at h
    split at h
    · rename_i hn
      split at h
      · rename_i hv
        obtain ⟨h1, h2, h3⟩ := booksE_ok r (i + 1) (some b.1) _ h
        have hb : b.1.size ≤ 256 ∧ ∀ q, prev = some q → bl q b.1 = true := by
          unfold nameE at hn
          split at hn
          · exact absurd hn (by decide)
          · split at hn
            · exact absurd hn (by decide)
            · rename_i hs
              refine ⟨by omega, fun q hq => ?_⟩
              subst hq
              simp only at hn
              split at hn
              · exact absurd hn (by decide)
              · rename_i hb
                simpa using hb
        obtain ⟨v1, -, v3⟩ := valsE_ok _ _ _ hv
        refine ⟨List.pairwise_cons.2 ⟨h2 _ rfl, h1⟩, fun q hq y hy => ?_, fun y hy => ?_⟩
        · rcases List.mem_cons.1 hy with rfl | hy
          · exact hb.2 q hq
          · exact blT.tr _ _ _ (hb.2 q hq) (h2 _ rfl y hy)
        · rcases List.mem_cons.1 hy with rfl | hy
          · exact ⟨hb.1, v1, v3⟩
          · exact h3 y hy
      · rename_i hv
        exact absurd h hv
    · rename_i hn
      exact absurd h hn
theorem checkB_ok {l : List PStep} (h : (checkB l).1 = 0) : l.length ≤ 513 ∧ RiseL (fun x y => bl x.1 y.1) l ∧ ∀ b ∈ l, b.1.size ≤ 256 ∧ ValsOk b.2 := by
  unfold checkB at h
  split at h
  · exact absurd h (by decide)
  · rename_i hl
    obtain ⟨h1, -, h3⟩ := booksE_ok _ _ _ _ h
    exact ⟨by omega, h1, h3⟩
/-- The name ahead of the i-th Book. -/
def prevB (l : List PStep) (i : Nat) : Option ByteArray := if i = 0 then none else (l[i - 1]?).map Prod.fst
/-- Where Check's loop over the Books is. -/
def CkAt (l : List PStep) (i : Nat) (M : List ByteArray) : Prop := booksE (l.drop i) i (prevB l i) M = booksE l 0 none []
theorem ckAt_start (l : List PStep) : CkAt l 0 [] := rfl
theorem prevB_next {l : List PStep} {i : Nat} {b : PStep} (h : l[i]? = some b) : prevB l (i + 1) = some b.1 := by
  unfold prevB
  rw [if_neg (by omega), Nat.add_sub_cancel, h]
  rfl
theorem CkAt.name {l : List PStep} {i : Nat} {M : List ByteArray} (h : CkAt l i M) {b : PStep} (hb : l[i]? = some b) (hn : nameE (prevB l i) b.1 ≠ 0) : booksE l 0 none [] = (nameE (prevB l i) b.1, (i : Int)) := by
  unfold CkAt at h
  rw [booksE_drop hb, if_neg hn] at h
  exact h.symm
theorem CkAt.vals {l : List PStep} {i : Nat} {M : List ByteArray} (h : CkAt l i M) {b : PStep} (hb : l[i]? = some b) (hn : nameE (prevB l i) b.1 = 0) {e : Int} {M' : List ByteArray} (hv : valsE b.2 ByteArray.empty M = (e, M')) (he : e ≠ 0) : booksE l 0 none [] = (e, (i : Int)) := by
  unfold CkAt at h
  rw [booksE_drop hb, if_pos hn, hv, if_neg he] at h
  exact h.symm
theorem CkAt.next {l : List PStep} {i : Nat} {M : List ByteArray} (h : CkAt l i M) {b : PStep} (hb : l[i]? = some b) (hn : nameE (prevB l i) b.1 = 0) {M' : List ByteArray} (hv : valsE b.2 ByteArray.empty M = (0, M')) : CkAt l (i + 1) M' := by
  unfold CkAt at h ⊢
  rw [booksE_drop hb, if_pos hn, hv, if_pos rfl] at h
  rw [prevB_next hb]
  exact h
theorem CkAt.done {l : List PStep} {i : Nat} {M : List ByteArray} (h : CkAt l i M) (hi : l.length ≤ i) : booksE l 0 none [] = (0, 0) := by
  unfold CkAt at h
  rw [List.drop_of_length_le hi] at h
  exact h.symm
/-- Where Check's loop over a Book's values is. -/
def VkAt (vs : List PKey) (M0 : List ByteArray) (j : Nat) (ahead : ByteArray) (M : List ByteArray) : Prop := valsE (vs.drop j) ahead M = valsE vs ByteArray.empty M0
theorem vkAt_start (vs : List PKey) (M : List ByteArray) : VkAt vs M 0 ByteArray.empty M := rfl
theorem VkAt.bad {vs : List PKey} {M0 : List ByteArray} {j : Nat} {ahead : ByteArray} {M : List ByteArray} (h : VkAt vs M0 j ahead M) {x : PKey} (hx : vs[j]? = some x) (he : valE M ahead x ≠ 0) : valsE vs ByteArray.empty M0 = (valE M ahead x, M) := by
  unfold VkAt at h
  rw [valsE_drop hx, if_neg he] at h
  exact h.symm
theorem VkAt.next {vs : List PKey} {M0 : List ByteArray} {j : Nat} {ahead : ByteArray} {M : List ByteArray} (h : VkAt vs M0 j ahead M) {x : PKey} (hx : vs[j]? = some x) (he : valE M ahead x = 0) : VkAt vs M0 (j + 1) x.1 (addM M x.1) := by
  unfold VkAt at h ⊢
  rw [valsE_drop hx, if_pos he] at h
  exact h
theorem VkAt.done {vs : List PKey} {M0 : List ByteArray} {j : Nat} {ahead : ByteArray} {M : List ByteArray} (h : VkAt vs M0 j ahead M) (hj : vs.length ≤ j) : valsE vs ByteArray.empty M0 = (0, M) := by
  unfold VkAt at h
  rw [List.drop_of_length_le hj] at h
  exact h.symm
end Go.Proofs.YtfpepdjffehbcaaGreat
/-
  A bundle laid out, and its bytes, plainly. No condition, no program in sight.
-/
set_option linter.unusedVariables false
set_option linter.unusedSimpArgs false
namespace Go.Proofs.YtfpepdjffehbcaaGreat
open Go.RowKit

/-- A path's group: the name of its first step. -/
def grp (p : ByteArray) : ByteArray := match parseM p with
  | .ok (st :: _) => st.1
  | _ => ByteArray.empty
/-- The place of a text in a list. -/
def idx (L : List ByteArray) (s : ByteArray) : Nat := L.findIdx fun x => decide (x = s)
theorem idx_lt {L : List ByteArray} {s : ByteArray} (h : s ∈ L) : idx L s < L.length := List.findIdx_lt_length.2 ⟨s, h, by simp⟩
theorem idx_get {L : List ByteArray} {s : ByteArray} (h : s ∈ L) : L[idx L s]? = some s := by
  have hl := idx_lt h
  rw [List.getElem?_eq_getElem hl]
  have := List.findIdx_getElem (xs := L) (p := fun x => decide (x = s)) (w := hl)
  exact congrArg some (of_decide_eq_true this)
theorem idx_at {L : List ByteArray} (hr : RiseL bl L) {i : Nat} {s : ByteArray} (h : L[i]? = some s) : idx L s = i := rise_inj blT hr (idx_get (List.mem_of_getElem? h)) h
theorem idx_mono {L : List ByteArray} (hr : RiseL bl L) {s t : ByteArray} (hs : s ∈ L) (ht : t ∈ L) (h : bl s t = true) : idx L s < idx L t := by
  have h1 := idx_get hs
  have h2 := idx_get ht
  rcases Nat.lt_trichotomy (idx L s) (idx L t) with hlt | he | hgt
  · exact hlt
  · rw [he, h2] at h1
    cases h1
    rw [blT.irr] at h
    cases h
  · have := rise_at hr h2 h1 hgt
    have h3 := blT.tr _ _ _ h this
    rw [blT.irr] at h3
    cases h3
/-- All texts of a bundle, as they come; all paths. -/
def wordsB (l : List PStep) : List ByteArray := l.flatMap fun b => b.1 :: b.2.flatMap fun v => [grp v.1, v.1, v.2]
def pathsB (l : List PStep) : List ByteArray := l.flatMap fun b => b.2.map Prod.fst
def textsP (l : List PStep) : List ByteArray := poolL bl (wordsB l)
def pathsP (l : List PStep) : List ByteArray := poolL bl (pathsB l)
/-- The groups of a Book. -/
def groupsB (vs : List PKey) : List ByteArray := poolL bl (vs.map fun v => grp v.1)
/-- The rows of a Book and a group. -/
def rowsB (T P : List ByteArray) (vs : List PKey) (g : ByteArray) : List RowI := (vs.filter fun v => decide (grp v.1 = g)).map fun v => ((idx P v.1 : Int), (idx T v.2 : Int))
theorem rowsB_rise {T P : List ByteArray} (hP : RiseL bl P) {vs : List PKey} (hv : RiseL (fun x y => bl x.1 y.1) vs) (hm : ∀ v ∈ vs, v.1 ∈ P) (g : ByteArray) : RiseL kl (rowsB T P vs g) := by
  unfold RiseL rowsB
  rw [List.pairwise_map]
  refine List.Pairwise.imp_of_mem (fun {x y} hx hy h => ?_) (List.Pairwise.filter _ hv)
  have := idx_mono hP (hm x (List.mem_filter.1 hx).1) (hm y (List.mem_filter.1 hy).1) h
  unfold kl
  rw [decide_eq_true_eq]
  omega
theorem kl_to_rl {l : List RowI} (h : RiseL kl l) : RiseL rl l := List.Pairwise.imp (fun {a b} h => rl_iff.2 (.inl (by unfold kl at h; exact of_decide_eq_true h))) h
theorem rowsB_pool {T P : List ByteArray} (hP : RiseL bl P) {vs : List PKey} (hv : RiseL (fun x y => bl x.1 y.1) vs) (hm : ∀ v ∈ vs, v.1 ∈ P) (g : ByteArray) : poolL rl (rowsB T P vs g) = rowsB T P vs g := poolL_self rlT (kl_to_rl (rowsB_rise hP hv hm g))
theorem words_name {l : List PStep} {b : PStep} (hb : b ∈ l) : b.1 ∈ wordsB l := List.mem_flatMap.2 ⟨b, hb, by simp⟩
theorem words_val {l : List PStep} {b : PStep} (hb : b ∈ l) {v : PKey} (hv : v ∈ b.2) : grp v.1 ∈ wordsB l ∧ v.1 ∈ wordsB l ∧ v.2 ∈ wordsB l := by
  refine ⟨List.mem_flatMap.2 ⟨b, hb, List.mem_cons_of_mem _ (List.mem_flatMap.2 ⟨v, hv, by simp⟩)⟩, List.mem_flatMap.2 ⟨b, hb, List.mem_cons_of_mem _ (List.mem_flatMap.2 ⟨v, hv, by simp⟩)⟩, List.mem_flatMap.2 ⟨b, hb, List.mem_cons_of_mem _ (List.mem_flatMap.2 ⟨v, hv, by simp⟩)⟩⟩
theorem paths_val {l : List PStep} {b : PStep} (hb : b ∈ l) {v : PKey} (hv : v ∈ b.2) : v.1 ∈ pathsB l := List.mem_flatMap.2 ⟨b, hb, List.mem_map.2 ⟨v, hv, rfl⟩⟩
/-- The tables of a bundle, as they come; each once. -/
def allTabs (T P : List ByteArray) (l : List PStep) : List (List RowI) := l.flatMap fun b => (groupsB b.2).map fun g => rowsB T P b.2 g
def tabsB (l : List PStep) : List (List RowI) := poolL tl (allTabs (textsP l) (pathsP l) l)
/-- The place of a table in a list. -/
def tix (L : List (List RowI)) (t : List RowI) : Nat := L.findIdx fun x => decide (x = t)
theorem tix_get {L : List (List RowI)} {t : List RowI} (h : t ∈ L) : L[tix L t]? = some t := by
  have hl : tix L t < L.length := List.findIdx_lt_length.2 ⟨t, h, by simp⟩
  rw [List.getElem?_eq_getElem hl]
  have := List.findIdx_getElem (xs := L) (p := fun x => decide (x = t)) (w := hl)
  exact congrArg some (of_decide_eq_true this)
theorem tix_at {L : List (List RowI)} (hr : RiseL tl L) {i : Nat} {t : List RowI} (h : L[i]? = some t) : tix L t = i := rise_inj tlT hr (tix_get (List.mem_of_getElem? h)) h
/-- A bundle's bytes, but for the checksum. -/
def textBy (s : ByteArray) : List UInt8 := le 4 s.size ++ s.data.toList
def tabBy (t : List RowI) : List UInt8 := le 4 t.length ++ t.flatMap fun r => le 4 r.1.toNat ++ le 4 r.2.toNat
def bookBy (T P : List ByteArray) (tabs : List (List RowI)) (b : PStep) : List UInt8 := le 4 (idx T b.1) ++ le 4 (groupsB b.2).length ++ (groupsB b.2).flatMap fun g => le 4 (idx T g) ++ le 4 (tix tabs (rowsB T P b.2 g))
def bodyB (l : List PStep) : List UInt8 :=
  [86, 82, 78, 67] ++ le 2 1 ++ le 4 (textsP l).length ++ (textsP l).flatMap textBy ++ le 4 (pathsP l).length ++ ((pathsP l).flatMap fun s => le 4 (idx (textsP l) s)) ++
    le 4 (tabsB l).length ++ (tabsB l).flatMap tabBy ++ le 4 l.length ++ l.flatMap (bookBy (textsP l) (pathsP l) (tabsB l))
end Go.Proofs.YtfpepdjffehbcaaGreat
/-
  A map from texts to rows that nothing else holds; no program in sight. Plain lemmas; no condition.
-/
set_option linter.unusedVariables false
set_option linter.unusedSimpArgs false
namespace Go.Proofs.YtfpepdjffehbcaaGreat
open Go.RowKit

section
variable {α : Type}
/-- An entry: the key, the row's slice, what the row holds. -/
abbrev REnt (α : Type) := ByteArray × Value × List α
def lookF (ps : List (REnt α)) : ByteArray → Option Value := fun s => (ps.find? fun p => decide (p.1 = s)).map fun p => p.2.1
/-- An entry's row, where there is one. -/
def lookR (ps : List (REnt α)) (s : ByteArray) : List α := ((ps.find? fun p => decide (p.1 = s)).map fun p => p.2.2).getD []
def updM (ps : List (REnt α)) (s : ByteArray) (v : Value) (xs : List α) : List (REnt α) := match ps with
  | [] => [(s, v, xs)]
  | p :: r => if p.1 = s then (s, v, xs) :: r else p :: updM r s v xs
theorem lookF_nil : lookF ([] : List (REnt α)) = fun _ => none := rfl
theorem lookF_upd : ∀ (ps : List (REnt α)) (s : ByteArray) (v : Value) (xs : List α), lookF (updM ps s v xs) = putMF (lookF ps) s v
  | [], s, v, xs => by
    funext t
    unfold lookF putMF updM
    by_cases h : t = s
    · subst h; simp
    · rw [if_neg h]
      simp [Ne.symm h]
  | p :: r, s, v, xs => by
    have ih := lookF_upd r s v xs
    funext t
    have ih2 := congrFun ih t
    unfold lookF putMF at ih2 ⊢
    unfold updM
    by_cases h : p.1 = s
    · rw [if_pos h]
      by_cases e : t = s
      · subst e; simp
      · rw [if_neg e]
        have h1 : ¬ p.1 = t := fun h2 => e (h2.symm.trans h)
        simp [h1, Ne.symm e]
    · rw [if_neg h]
      by_cases e : p.1 = t
      · have h1 : ¬ t = s := fun h2 => h (e.trans h2)
        simp [e, h1]
      · simp only [List.find?_cons, decide_eq_false e]
        exact ih2
theorem lookR_upd : ∀ (ps : List (REnt α)) (s : ByteArray) (v : Value) (xs : List α) (t : ByteArray), lookR (updM ps s v xs) t = if t = s then xs else lookR ps t
  | [], s, v, xs, t => by
    unfold lookR updM
    by_cases h : t = s
    · subst h; simp
    · simp [h, Ne.symm h]
  | p :: r, s, v, xs, t => by
    have ih := lookR_upd r s v xs t
    unfold lookR at ih ⊢
    unfold updM
    by_cases h : p.1 = s
    · rw [if_pos h]
      by_cases e : t = s
      · subst e; simp
      · rw [if_neg e]
        have h1 : ¬ p.1 = t := fun h2 => e (h2.symm.trans h)
        simp [h1, Ne.symm e]
    · rw [if_neg h]
      by_cases e : p.1 = t
      · have h1 : ¬ t = s := fun h2 => h (e.trans h2)
        simp [e, h1]
      · simp only [List.find?_cons, decide_eq_false e]
        exact ih
theorem updM_keys : ∀ (ps : List (REnt α)) (s : ByteArray) (v : Value) (xs : List α), (updM ps s v xs).map (fun p => p.1) = if (lookF ps s).isSome = true then ps.map (fun p => p.1) else ps.map (fun p => p.1) ++ [s]
  | [], s, v, xs => by simp [updM, lookF]
  | p :: r, s, v, xs => by
    have ih := updM_keys r s v xs
    unfold updM
    by_cases h : p.1 = s
    · rw [if_pos h, if_pos (by simp [lookF, h])]
      simp [h]
    · rw [if_neg h, List.map_cons, ih]
      have hl : lookF (p :: r) s = lookF r s := by unfold lookF; simp [h]
      rw [hl]
      by_cases e : (lookF r s).isSome = true
      · rw [if_pos e, if_pos e]
        rfl
      · rw [if_neg e, if_neg e]
        rfl
theorem lookF_none {ps : List (REnt α)} {s : ByteArray} : lookF ps s = none ↔ s ∉ ps.map (fun p => p.1) := by
  unfold lookF
  rw [Option.map_eq_none_iff, List.find?_eq_none]
  simp only [decide_eq_true_eq, List.mem_map, not_exists, not_and]
theorem lookR_none {ps : List (REnt α)} {s : ByteArray} (h : s ∉ ps.map (fun p => p.1)) : lookR ps s = [] := by
  have := lookF_none.2 h
  unfold lookF at this
  rw [Option.map_eq_none_iff] at this
  unfold lookR
  rw [this]
  rfl
theorem look_some {ps : List (REnt α)} {s : ByteArray} {v : Value} (h : lookF ps s = some v) : (s, v, lookR ps s) ∈ ps := by
  unfold lookF at h
  unfold lookR
  cases hf : ps.find? fun p => decide (p.1 = s) with
  | none => rw [hf] at h; cases h
  | some p =>
    rw [hf] at h
    have h1 := List.mem_of_find?_eq_some hf
    have h2 : p.1 = s := by simpa using List.find?_some hf
    simp only [Option.map_some, Option.some.injEq] at h
    obtain ⟨k, u, ys⟩ := p
    simp only at h h2
    subst h h2
    exact h1
/-- Rows that have a block each. -/
def Apart (ps : List (REnt α)) : Prop := ps.Pairwise fun p q => ∀ k, p.2.1.ownBlock = some k → q.2.1.ownBlock ≠ some k
theorem apart_upd {ps : List (REnt α)} (h : Apart ps) {s : ByteArray} {v : Value} {xs : List α} {n : Nat} (hlt : ∀ p ∈ ps, ∀ k, p.2.1.ownBlock = some k → k < n) (hv : (∃ u, lookF ps s = some u ∧ v.ownBlock = u.ownBlock) ∨ v.ownBlock = some n ∨ v.ownBlock = none) : Apart (updM ps s v xs) ∧ ∀ p ∈ updM ps s v xs, p ∈ ps ∨ p.2.1 = v := by
  induction ps with
  | nil => exact ⟨List.pairwise_singleton _ _, fun p hp => by simp only [updM, List.mem_singleton] at hp; exact .inr (by rw [hp])⟩
  | cons p r ih =>
    obtain ⟨h1, h2⟩ := List.pairwise_cons.1 h
    have hlr : ∀ q ∈ r, ∀ k, q.2.1.ownBlock = some k → k < n := fun q hq => hlt q (List.mem_cons_of_mem _ hq)
    unfold updM
    by_cases e : p.1 = s
    · rw [if_pos e]
      refine ⟨List.pairwise_cons.2 ⟨fun q hq k hk hk2 => ?_, h2⟩, fun q hq => ?_⟩
      · simp only at hk
        rcases hv with ⟨u, hu, hvu⟩ | hv | hv
        · have : u = p.2.1 := by
            unfold lookF at hu
            simp [e] at hu
            exact hu.symm
          rw [hvu, this] at hk
          exact h1 q hq k hk hk2
        · rw [hv] at hk
          cases hk
          exact absurd (hlr q hq _ hk2) (Nat.lt_irrefl _)
        · rw [hv] at hk
          cases hk
      · rcases List.mem_cons.1 hq with rfl | hq
        · exact .inr rfl
        · exact .inl (List.mem_cons_of_mem _ hq)
    · rw [if_neg e]
      have hv2 : (∃ u, lookF r s = some u ∧ v.ownBlock = u.ownBlock) ∨ v.ownBlock = some n ∨ v.ownBlock = none := by
        refine hv.imp (fun ⟨u, hu, hvu⟩ => ⟨u, ?_, hvu⟩) id
        unfold lookF at hu ⊢
        simpa [e] using hu
      obtain ⟨i1, i2⟩ := ih h2 hlr hv2
      refine ⟨List.pairwise_cons.2 ⟨fun q hq k hk hk2 => ?_, i1⟩, fun q hq => ?_⟩
      · rcases i2 q hq with hq | hq
        · exact h1 q hq k hk hk2
        · rw [hq] at hk2
          rcases hv2 with ⟨u, hu, hvu⟩ | hv2 | hv2
          · rw [hvu] at hk2
            exact h1 _ (look_some hu) k hk hk2
          · rw [hv2] at hk2
            cases hk2
            exact absurd (hlt p (List.mem_cons_self) _ hk) (Nat.lt_irrefl _)
          · rw [hv2] at hk2
            cases hk2
      · rcases List.mem_cons.1 hq with rfl | hq
        · exact .inl (List.mem_cons_self)
        · exact (i2 q hq).imp (List.mem_cons_of_mem _) id
/-- A map at block b of rows of their own. -/
def RowMap (P : Program) (kt : TypeId) (B : Nat) (e : TypeId) (size : Nat) (enc : List α → List Value) (w : World) (b cap : Nat) (ps : List (REnt α)) : Prop :=
  MapG P kt strL strOk w b cap ps.length (lookF ps) ∧ (ps.map fun p => p.1).Nodup ∧ (∀ p ∈ ps, w.ownsRow B e size p.2.1 p.2.2.length (enc p.2.2)) ∧ Apart ps
variable {P : Program} {kt : TypeId} {B : Nat} {e : TypeId} {size : Nat} {enc : List α → List Value} {w w' : World} {b cap : Nat} {ps : List (REnt α)}
theorem RowMap.made (w : World) : RowMap P kt B e size enc (w.alloc (.map #[] 0)) w.heap.size 0 ([] : List (REnt α)) :=
  ⟨MapG.made w P kt strL strOk, List.nodup_nil, (by simp), List.Pairwise.nil⟩
theorem RowMap.on (h : RowMap P kt B e size enc w b cap ps) (hb : Below w.heap.size w w') : RowMap P kt B e size enc w' b cap ps :=
  ⟨h.1.on hb, h.2.1, fun p hp => own_more (h.2.2.1 p hp) hb, h.2.2.2⟩
theorem RowMap.alloc (h : RowMap P kt B e size enc w b cap ps) (o : Obj) : RowMap P kt B e size enc (w.alloc o) b cap ps :=
  h.on ((Below.refl _ w).alloc (Nat.le_refl _) o)
theorem RowMap.kept {row : Option Nat} (h : RowMap P kt B e size enc w b cap ps) (hg : w.grownBy w' row) (hne : some b ≠ row) (hr : ∀ p ∈ ps, p.2.1.ownBlock = none ∨ p.2.1.ownBlock ≠ row) : RowMap P kt B e size enc w' b cap ps :=
  ⟨h.1.kept hg hne, h.2.1, fun p hp => (h.2.2.1 p hp).kept hg (hr p hp), h.2.2.2⟩
theorem RowMap.lt (h : RowMap P kt B e size enc w b cap ps) {p : REnt α} (hp : p ∈ ps) {k : Nat} (hk : p.2.1.ownBlock = some k) : B ≤ k ∧ k < w.heap.size := (h.2.2.1 p hp).lt k hk
theorem updM_len (ps : List (REnt α)) (s : ByteArray) (v : Value) (xs : List α) : (updM ps s v xs).length = if (lookF ps s).isSome = true then ps.length else ps.length + 1 := by
  have h := congrArg List.length (updM_keys ps s v xs)
  rw [List.length_map] at h
  rw [h]
  split <;> simp
theorem updM_nodup {ps : List (REnt α)} (h : (ps.map fun p => p.1).Nodup) (s : ByteArray) (v : Value) (xs : List α) : ((updM ps s v xs).map fun p => p.1).Nodup := by
  rw [updM_keys]
  split
  · exact h
  · rename_i hs
    have hs2 : lookF ps s = none := by
      cases hl : lookF ps s with
      | none => rfl
      | some v => rw [hl] at hs; exact absurd rfl hs
    exact List.nodup_append.2 ⟨h, by simp, fun a ha b hb e => lookF_none.1 hs2 (by rw [List.mem_singleton.1 hb] at e; exact e ▸ ha)⟩
theorem updM_mem {ps : List (REnt α)} (h : (ps.map fun p => p.1).Nodup) {s : ByteArray} {v : Value} {xs : List α} {p : REnt α} (hp : p ∈ updM ps s v xs) : p = (s, v, xs) ∨ (p ∈ ps ∧ p.1 ≠ s) := by
  induction ps with
  | nil => simp only [updM, List.mem_singleton] at hp; exact .inl hp
  | cons q r ih =>
    rw [List.map_cons] at h
    obtain ⟨h1, h2⟩ := List.nodup_cons.1 h
    unfold updM at hp
    by_cases e : q.1 = s
    · rw [if_pos e] at hp
      rcases List.mem_cons.1 hp with rfl | hp
      · exact .inl rfl
      · exact .inr ⟨List.mem_cons_of_mem _ hp, fun e2 => h1 (by rw [e, ← e2]; exact List.mem_map.2 ⟨p, hp, rfl⟩)⟩
    · rw [if_neg e] at hp
      rcases List.mem_cons.1 hp with rfl | hp
      · exact .inr ⟨List.mem_cons_self, e⟩
      · exact (ih h2 hp).imp id fun ⟨h3, h4⟩ => ⟨List.mem_cons_of_mem _ h3, h4⟩
/-- A row that has grown, stored at its key: w is the world ahead of the append, w1 behind it, w2 behind the store. -/
theorem RowMap.put {w1 w2 : World} (h : RowMap P kt B e size enc w b cap ps) (hbm : ∀ p ∈ ps, p.2.1.ownBlock ≠ some b) {s : ByteArray} {u v : Value} {xs : List α} {cap' m' : Nat}
    (hu : (lookF ps s).getD (.slice none 0 0) = u) (hg : w.grownBy w1 u.ownBlock) (hown : w1.ownsRow B e size v xs.length (enc xs)) (hv : v.ownBlock = u.ownBlock ∨ v.ownBlock = some w.heap.size)
    (hM : MapG P kt strL strOk w2 b cap' m' (putMF (lookF ps) s v)) (hm' : m' = if (lookF ps s).isSome then ps.length else ps.length + 1) (hg2 : w1.grownBy w2 (some b)) (hbv : v.ownBlock ≠ some b) : RowMap P kt B e size enc w2 b cap' (updM ps s v xs) := by
  have hun : lookF ps s = none → u.ownBlock = none := fun hn => by rw [← hu, hn]; rfl
  obtain ⟨a1, a2⟩ := apart_upd (s := s) (v := v) (xs := xs) h.2.2.2 (n := w.heap.size) (fun p hp k hk => (h.lt hp hk).2) (by
    rcases hv with hv | hv
    · cases hl : lookF ps s with
      | none => exact .inr (.inr (by rw [hv]; exact hun hl))
      | some u' =>
        refine .inl ⟨u', rfl, ?_⟩
        rw [hl] at hu
        rw [hv, ← hu]
        rfl
    · exact .inr (.inl hv))
  refine ⟨?_, updM_nodup h.2.1 s v xs, fun p hp => ?_, a1⟩
  · rw [lookF_upd, updM_len, ← hm']
    exact hM
  · rcases updM_mem h.2.1 hp with rfl | ⟨hp, hne⟩
    · refine hown.kept hg2 ?_
      cases hvb : v.ownBlock with
      | none => exact .inl rfl
      | some k => exact .inr fun e => hbv (by rw [hvb]; exact e)
    · refine ((h.2.2.1 p hp).kept hg ?_).kept hg2 (.inr (hbm p hp))
      cases hk : p.2.1.ownBlock with
      | none => exact .inl rfl
      | some k =>
        refine .inr fun e => ?_
        cases hl : lookF ps s with
        | none => rw [hun hl] at e; cases e
        | some u' =>
          have hu' : u' = u := by rw [hl] at hu; exact hu
          have hmem := look_some hl
          rw [hu'] at hmem
          have hpq : p ≠ (s, u, lookR ps s) := fun e2 => hne (by rw [e2])
          have hpw := h.2.2.2
          obtain ⟨i, hi⟩ := List.mem_iff_getElem?.1 hp
          obtain ⟨j, hj⟩ := List.mem_iff_getElem?.1 hmem
          obtain ⟨hi1, hi2⟩ := List.getElem?_eq_some_iff.1 hi
          obtain ⟨hj1, hj2⟩ := List.getElem?_eq_some_iff.1 hj
          have hpw2 := List.pairwise_iff_getElem.1 hpw
          rcases Nat.lt_trichotomy i j with hlt | heq | hgt
          · have := hpw2 i j hi1 hj1 hlt k (by rw [hi2]; exact hk)
            rw [hj2] at this
            exact this e.symm
          · subst heq
            rw [hi] at hj
            exact hpq (Option.some.inj hj)
          · have := hpw2 j i hj1 hi1 hgt k (by rw [hj2]; exact e.symm)
            rw [hi2] at this
            exact this hk
end
end Go.Proofs.YtfpepdjffehbcaaGreat
/-
  The rows of a Book, group by group, as they grow. Plain lemmas; no condition.
-/
set_option linter.unusedVariables false
set_option linter.unusedSimpArgs false
namespace Go.Proofs.YtfpepdjffehbcaaGreat
open Go.RowKit

/-- What the rows of a Book are, j values being read. -/
def GrAt (T P : List ByteArray) (vs : List PKey) (j : Nat) (ps : List (REnt RowI)) : Prop :=
  (∀ g, lookR ps g = rowsB T P (vs.take j) g) ∧ (∀ g, g ∈ ps.map (fun p => p.1) ↔ g ∈ (vs.take j).map fun v => grp v.1) ∧ ps.length ≤ j
theorem grAt_start (T P : List ByteArray) (vs : List PKey) : GrAt T P vs 0 [] := ⟨fun g => rfl, fun g => by simp, Nat.le_refl _⟩
theorem rowsB_next (T P : List ByteArray) {vs : List PKey} {j : Nat} {x : PKey} (hx : vs[j]? = some x) (g : ByteArray) : rowsB T P (vs.take (j + 1)) g = if g = grp x.1 then rowsB T P (vs.take j) g ++ [((idx P x.1 : Int), (idx T x.2 : Int))] else rowsB T P (vs.take j) g := by
  unfold rowsB
  rw [List.take_add_one, hx, List.filter_append, List.map_append]
  by_cases h : g = grp x.1
  · rw [if_pos h]
    simp [h]
  · rw [if_neg h]
    simp [Ne.symm h]
theorem GrAt.next {T P : List ByteArray} {vs : List PKey} {j : Nat} {ps : List (REnt RowI)} (h : GrAt T P vs j ps) {x : PKey} (hx : vs[j]? = some x) (v : Value) : GrAt T P vs (j + 1) (updM ps (grp x.1) v (lookR ps (grp x.1) ++ [((idx P x.1 : Int), (idx T x.2 : Int))])) := by
  refine ⟨fun g => ?_, fun g => ?_, ?_⟩
  · rw [lookR_upd, rowsB_next T P hx]
    by_cases e : g = grp x.1
    · rw [if_pos e, if_pos e, e, h.1]
    · rw [if_neg e, if_neg e, h.1]
  · rw [updM_keys, List.take_add_one, hx, List.map_append, List.mem_append, ← h.2.1 g]
    simp only [Option.toList_some, List.map_cons, List.map_nil, List.mem_singleton]
    split
    · rename_i hs
      refine ⟨.inl, fun hh => hh.elim id fun e => ?_⟩
      rw [e]
      cases hl : lookF ps (grp x.1) with
      | none => rw [hl] at hs; cases hs
      | some u => exact List.mem_map.2 ⟨_, look_some hl, rfl⟩
    · rw [List.mem_append, List.mem_singleton]
  · rw [updM_len]
    have := h.2.2
    split <;> omega
theorem GrAt.groups {T P : List ByteArray} {vs : List PKey} {ps : List (REnt RowI)} (h : GrAt T P vs vs.length ps) : poolL bl (ps.map fun p => p.1) = groupsB vs := by
  refine poolL_congr blT fun g => ?_
  rw [h.2.1 g, List.take_length]
theorem GrAt.row {T P : List ByteArray} {vs : List PKey} {ps : List (REnt RowI)} (h : GrAt T P vs vs.length ps) (g : ByteArray) : lookR ps g = rowsB T P vs g := by
  rw [h.1 g, List.take_length]
theorem rowsB_some {T P : List ByteArray} {vs : List PKey} {g : ByteArray} (h : g ∈ groupsB vs) : 0 < (rowsB T P vs g).length := by
  unfold groupsB at h
  rw [poolL_mem, List.mem_map] at h
  obtain ⟨v, hv, e⟩ := h
  refine List.length_pos_of_mem (a := ((idx P v.1 : Int), (idx T v.2 : Int))) ?_
  exact List.mem_map.2 ⟨v, List.mem_filter.2 ⟨hv, by simpa using e⟩, rfl⟩
end Go.Proofs.YtfpepdjffehbcaaGreat
