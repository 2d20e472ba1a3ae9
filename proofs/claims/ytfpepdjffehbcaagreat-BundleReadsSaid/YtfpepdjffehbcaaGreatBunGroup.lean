/-
  The walks of path.find, its closure and slices.IndexFunc at keys. Condition: at most 1000000 keys.
-/
import Derived.Test.YtfpepdjffehbcaaGreatPathPrint
import Derived.RangeFuncNested
import Derived.RangeFuncBound
import Derived.RangeFuncCalls
import Derived.RangeFuncLeaves
import Derived.Shelf.Abstract
import Derived.Shelf.RegionOpen
import Derived.WalkKit
import Derived.OwnWalkIn
import Derived.TacticsInMore
import Derived.LoopNIn
import Derived.LoopIn
import Derived.Test.YtfpepdjffehbcaaGreatPathParse
import Derived.Test.YtfpepdjffehbcaaGreatBunRows
set_option linter.unusedVariables false
set_option linter.unusedSimpArgs false
namespace Go.Proofs.YtfpepdjffehbcaaGreat
open Go.RowKit

/-- What find tells. -/
def FindIs (ks : List PKey) (key : ByteArray) (r : Int) : Prop :=
  (∃ i k, r = (i : Nat) ∧ ks[i]? = some k ∧ k.1 = key ∧ ∀ k' ∈ ks.take i, k'.1 ≠ key) ∨ (r = -1 ∧ ∀ k' ∈ ks, k'.1 ≠ key)
end Go.Proofs.YtfpepdjffehbcaaGreat
/-
  slices.Backward at steps: the contract of its iterator. Condition: at most 1000000 steps.
-/
namespace Go.Proofs.YtfpepdjffehbcaaGreat
open Go.RowKit Go.Shelf

attribute [local go_sem] Oper.semAt_some

def sliceA : Value → Option Addr | .slice A _ _ => A | _ => none
def sliceN : Value → Nat | .slice _ n _ => n | _ => 0
def sliceC : Value → Nat | .slice _ _ c => c | _ => 0
theorem slice_parts {A : Option Addr} {n c : Nat} : Value.slice (sliceA (.slice A n c)) (sliceN (.slice A n c)) (sliceC (.slice A n c)) = .slice A n c := rfl
/-- What a round of Backward is handed: the place, and the step there. -/
def bkEnc (l : List PStep) (vs : List Value) (i : Fin l.length) : Array Value :=
  #[.int .i64 (i.val : Int), .agg #[.string (l.get i).1, .slice (sliceA (vs.getD i.val undef)) (sliceN (vs.getD i.val undef)) (sliceC (vs.getD i.val undef))]]
/-- These places, from the last one down. -/
def Desc (n : Nat) (pre : List (Fin n)) : Prop := ∀ (a : Nat) (x : Fin n), pre[a]? = some x → x.val + a + 1 = n
theorem desc_nil (n : Nat) : Desc n [] := fun a x h => by simp at h
theorem desc_snoc {n : Nat} {pre : List (Fin n)} {x : Fin n} (h : Desc n pre) (hx : x.val + pre.length + 1 = n) : Desc n (pre ++ [x]) := by
  intro a y hy
  rcases Nat.lt_or_ge a pre.length with h1 | h1
  · rw [List.getElem?_append_left h1] at hy
    exact h a y hy
  · rw [List.getElem?_append_right h1] at hy
    have : a - pre.length = 0 := by
      have := (List.getElem?_eq_some_iff.1 hy).1
      simp at this
      omega
    rw [this] at hy
    simp at hy
    subst hy
    omega
theorem desc_mem {n : Nat} {pre : List (Fin n)} (h : Desc n pre) {i : Fin n} (hi : n < i.val + 1 + pre.length + 0 ∨ n = i.val + pre.length) : i ∈ pre := by
  have hlt : n - 1 - i.val < pre.length := by have := i.isLt; omega
  have h1 := h (n - 1 - i.val) (pre[n - 1 - i.val]) (by simp [hlt])
  have : pre[n - 1 - i.val] = i := Fin.ext (by have := i.isLt; omega)
  rw [← this]
  exact List.getElem_mem hlt

end Go.Proofs.YtfpepdjffehbcaaGreat
/-
  What Get answers, said plainly; Parse's steps. No condition.
-/
set_option linter.unusedVariables false
set_option linter.unusedSimpArgs false
namespace Go.Proofs.YtfpepdjffehbcaaGreat
open Go.RowKit

theorem StepsR.slices {w : World} {v : Value} {l : List PStep} {vs : List Value} (h : StepsR w v l vs) : ∀ u ∈ vs, ∃ a n c, u = Value.slice a n c := by
  obtain ⟨A, c, e, h1, h2, h3, h4, h5⟩ := h
  intro u hu
  obtain ⟨i, hi, rfl⟩ := List.getElem_of_mem hu
  obtain ⟨A', c', e', -⟩ := h5 i (l[i]'(by omega)) vs[i] (by simp [show i < l.length by omega]) (by simp [hi])
  exact ⟨A', _, c', e'⟩
/-- A key's value in the last step of a name. -/
def GetIs (l : List PStep) (nm key : ByteArray) (r : Option ByteArray) : Prop :=
  (r = none ∧ ∀ (st : PStep), st ∈ l → st.1 ≠ nm) ∨ (∃ (i : Nat) (st : PStep), l[i]? = some st ∧ st.1 = nm ∧ (∀ (j : Nat) (st' : PStep), i < j → l[j]? = some st' → st'.1 ≠ nm) ∧
    ((r = none ∧ ∀ (k : PKey), k ∈ st.2 → k.1 ≠ key) ∨ (∃ (j : Nat) (k : PKey), st.2[j]? = some k ∧ k.1 = key ∧ (∀ (k' : PKey), k' ∈ st.2.take j → k'.1 ≠ key) ∧ r = some k.2)))
def parseL (s : ByteArray) : List PStep := match parseM s with | .ok l => l | .error _ => []
def ParseLPost (l : List PStep) (w : World) (en : Ending) (w' : World) : Prop := Below w.heap.size w w' ∧
  ∃ A c x y vs, en = .returned (.tuple #[.slice A l.length c, .agg #[.int .i64 x, .int .i64 y]]) ∧ StepsR w' (.slice A l.length c) l vs
theorem ParsePost.l {s : ByteArray} {w : World} {en : Ending} {w' : World} (h : ParsePost s w en w') : ParseLPost (parseL s) w en w' := by
  obtain ⟨hB, ⟨x, y, hE, rfl⟩ | ⟨l, v, hE, rfl, vs, hO⟩⟩ := h
  · have e : parseL s = [] := by unfold parseL; rw [hE]
    refine ⟨hB, none, 0, x, y, [], by rw [e]; rfl, ?_⟩
    rw [e]
    exact (stepsIn_nil w' 0).reads
  · have e : parseL s = l := by unfold parseL; rw [hE]
    have hr := hO.reads
    obtain ⟨A, c, rfl, -⟩ := id hr
    exact ⟨hB, A, c, 0, 0, vs, by rw [e]; rfl, by rw [e]; exact hr⟩
theorem parseL_small (s : ByteArray) : (∀ st ∈ parseL s, StepTiny st) ∧ (parseL s).length ≤ 64 := by
  unfold parseL
  split
  · rename_i l h
    exact ⟨(parseM_small h).1, (parseM_small h).2.1⟩
  · exact ⟨fun st h => (by cases h), by decide⟩
def GetPost (l : List PStep) (nm key : ByteArray) (w : World) (en : Ending) (w' : World) : Prop := ∃ r, GetIs l nm key r ∧ en = .returned (.tuple #[.string (r.getD ByteArray.empty), .bool r.isSome]) ∧ Below w.heap.size w w'

/-- What find tells of a step's keys. -/
def KeyIs (ks : List PKey) (key : ByteArray) (r : Option ByteArray) : Prop :=
  (r = none ∧ ∀ (k : PKey), k ∈ ks → k.1 ≠ key) ∨ (∃ (j : Nat) (k : PKey), ks[j]? = some k ∧ k.1 = key ∧ (∀ (k' : PKey), k' ∈ ks.take j → k'.1 ≠ key) ∧ r = some k.2)
theorem find_cases (key : ByteArray) : ∀ ks : List PKey, (∃ (j : Nat) (k : PKey), ks[j]? = some k ∧ k.1 = key ∧ ∀ k' ∈ ks.take j, k'.1 ≠ key) ∨ (∀ k' ∈ ks, k'.1 ≠ key)
  | [] => .inr (fun k h => by cases h)
  | k :: ks => by
    by_cases h : k.1 = key
    · exact .inl ⟨0, k, rfl, h, fun k' h => by simp at h⟩
    · rcases find_cases key ks with ⟨j, k', hj, hk, ht⟩ | hn
      · refine .inl ⟨j + 1, k', by simpa using hj, hk, fun x hx => ?_⟩
        rw [List.take_succ_cons] at hx
        rcases List.mem_cons.1 hx with rfl | hx
        · exact h
        · exact ht x hx
      · refine .inr fun x hx => ?_
        rcases List.mem_cons.1 hx with rfl | hx
        · exact h
        · exact hn x hx
theorem keyIs_unique {ks : List PKey} {key : ByteArray} {r r' : Option ByteArray} (h : KeyIs ks key r) (h' : KeyIs ks key r') : r = r' := by
  rcases h with ⟨rfl, hn⟩ | ⟨j, k, hj, hk, ht, rfl⟩
  · rcases h' with ⟨rfl, -⟩ | ⟨j', k', hj', hk', -, rfl⟩
    · rfl
    · exact absurd hk' (hn k' (List.mem_of_getElem? hj'))
  · rcases h' with ⟨rfl, hn⟩ | ⟨j', k', hj', hk', ht', rfl⟩
    · exact absurd hk (hn k (List.mem_of_getElem? hj))
    · rcases Nat.lt_trichotomy j j' with h | rfl | h
      · exact absurd hk (ht' k (List.mem_iff_getElem?.2 ⟨j, by rw [List.getElem?_take]; simp [h, hj]⟩))
      · rw [hj] at hj'; cases hj'; rfl
      · exact absurd hk' (ht k' (List.mem_iff_getElem?.2 ⟨j', by rw [List.getElem?_take]; simp [h, hj']⟩))
theorem getIs_unique {l : List PStep} {nm key : ByteArray} {r r' : Option ByteArray} (h : GetIs l nm key r) (h' : GetIs l nm key r') : r = r' := by
  rcases h with ⟨rfl, hn⟩ | ⟨i, st, hi, hs, hl, hr⟩
  · rcases h' with ⟨rfl, -⟩ | ⟨i', st', hi', hs', -, -⟩
    · rfl
    · exact absurd hs' (hn st' (List.mem_of_getElem? hi'))
  · rcases h' with ⟨rfl, hn⟩ | ⟨i', st', hi', hs', hl', hr'⟩
    · exact absurd hs (hn st (List.mem_of_getElem? hi))
    · rcases Nat.lt_trichotomy i i' with h | rfl | h
      · exact absurd hs' (hl i' st' h hi')
      · rw [hi] at hi'
        cases hi'
        exact keyIs_unique hr hr'
      · exact absurd hs (hl' i st h hi)
end Go.Proofs.YtfpepdjffehbcaaGreat
/-
  The walks of path.Names and its closure: what its iterator tells. Condition: the path is within the reach.
-/
set_option linter.unusedVariables false
set_option linter.unusedSimpArgs false
namespace Go.Proofs.YtfpepdjffehbcaaGreat
open Go.RowKit Go.Shelf

attribute [local go_sem] Oper.semAt_some

/-- Blocks of cells from B on stay. -/
def CellsFrom (B : Nat) (X Y : World) : Prop := X.heap.size ≤ Y.heap.size ∧ ∀ k cs t fr, B ≤ k → X.heap[k]? = some (.cells cs t fr) → Y.heap[k]? = some (.cells cs t fr)
theorem cellsFrom_refl (B : Nat) (X : World) : CellsFrom B X X := ⟨Nat.le_refl _, fun _ _ _ _ _ h => h⟩
theorem cellsFrom_t {B : Nat} {X Y Z : World} (h : CellsFrom B X Y) (k : CellsFrom B Y Z) : CellsFrom B X Z := ⟨Nat.le_trans h.1 k.1, fun i cs t fr hB hi => k.2 i cs t fr hB (h.2 i cs t fr hB hi)⟩
theorem cellsFrom_b {B : Nat} (W : World) (l : Nat) (o o' : Obj) (h : W.heap[l]? = some o) (hc : o.isCells = false) : CellsFrom B W (W.putObj l o') := by
  refine ⟨by simp, fun k cs t fr _ hk => ?_⟩
  have hne : k ≠ l := fun e => by
    subst e
    rw [h] at hk
    cases hk
    cases hc
  rw [World.putObj_heap_other hne]
  exact hk
theorem cellsFrom_below {B : Nat} {X Y : World} (h : Below X.heap.size X Y) : CellsFrom B X Y := ⟨h.size, fun k cs t fr _ hk => (h.block k (Array.getElem?_eq_some_iff.1 hk).1).trans hk⟩
theorem own_from {B base : Nat} {X Y : World} {e : TypeId} {size n : Nat} {v : Value} {xs : List Value} (h : X.ownsRow base e size v n xs) (hb : B ≤ base) (hk : CellsFrom B X Y) : Y.ownsRow base e size v n xs := by
  obtain ⟨h1, h2⟩ := h
  refine ⟨h1, ?_⟩
  rcases h2 with h2 | ⟨g, cap, cur, hv, hg, hh, hr⟩
  · exact .inl h2
  · exact .inr ⟨g, cap, cur, hv, hg, hk.2 g _ _ _ (by omega) hh, hr⟩
theorem grown_of_below {X Y : World} (h : Below X.heap.size X Y) : X.grownBy Y none := ⟨h.os, h.tape, h.output, h.size, fun k hk _ => h.block k hk⟩

/-- The steps whose names are told. -/
def namesOf (s : ByteArray) : List PStep := match parseM s with
  | .ok l => l
  | .error _ => []
def nmEnc (l : List PStep) (i : Fin l.length) : Array Value := #[.int .i64 (i.val : Int), .string (l.get i).1]
/-- These places, from the first one up. -/
def Asc (n : Nat) (pre : List (Fin n)) : Prop := ∀ (a : Nat) (x : Fin n), pre[a]? = some x → x.val = a
theorem asc_nil (n : Nat) : Asc n [] := fun a x h => by simp at h
theorem asc_snoc {n : Nat} {pre : List (Fin n)} {x : Fin n} (h : Asc n pre) (hx : x.val = pre.length) : Asc n (pre ++ [x]) := by
  intro a y hy
  rcases Nat.lt_or_ge a pre.length with h1 | h1
  · rw [List.getElem?_append_left h1] at hy
    exact h a y hy
  · rw [List.getElem?_append_right h1] at hy
    have : a - pre.length = 0 := by
      have := (List.getElem?_eq_some_iff.1 hy).1
      simp at this
      omega
    rw [this] at hy
    simp at hy
    subst hy
    omega
theorem names_any (s : ByteArray) (w : World) :
    Calls Tryz.prog 78 #[.string s] w fun e w' => e = .returned (.func (.func 113) #[] #[.pointer (some ⟨w.heap.size, 0, none⟩)]) ∧ w' = w.alloc (.cells #[.string s] 9) := by
  go_enter Tryz.func78, Tryz.ntmps78
  go_wp2
  go_ret
  exact ⟨rfl, rfl⟩

theorem says_names {s : ByteArray} {W w1 : World} {e : Ending} (h : ParseSays s W e w1) : Below W.heap.size W w1 ∧ ∃ A c x y, e = .returned (.tuple #[.slice A (namesOf s).length c, .agg #[.int .i64 x, .int .i64 y]]) ∧ ∃ vs, vs.length = (namesOf s).length ∧ w1.ownsRow W.heap.size 138 2 (.slice A (namesOf s).length c) (namesOf s).length (stepCells (namesOf s) vs) ∧ (namesOf s).length ≤ 64 ∧ ∀ v ∈ vs, ∃ a k c, v = Value.slice a k c := by
  obtain ⟨hB, ⟨x, y, hE, rfl⟩ | ⟨l, v, hE, rfl, vs, hI⟩⟩ := h
  · have hl : namesOf s = [] := by unfold namesOf; rw [hE]
    rw [hl]
    exact ⟨hB, none, 0, x, y, rfl, [], rfl, World.ownsRow_nil _ _ _ _, by decide, fun _ h => by cases h⟩
  · have hl : namesOf s = l := by unfold namesOf; rw [hE]
    rw [hl]
    obtain ⟨A, c, rfl, -, -, -⟩ := own_form hI.2.1
    exact ⟨hB, A, c, 0, 0, rfl, vs, hI.1, hI.2.1, (parseM_small hE).2.1, StepsR.slices (StepsIn.reads hI)⟩
set_option maxRecDepth 100000 in
set_option maxHeartbeats 4000000 in
theorem names1_in (n : Nat) (hn : 1 ≤ n) (lp Bs n₀ : Nat) (s : ByteArray) (hs : s.size ≤ 140737488355328) (J Jx : List (Fin (namesOf s).length) → World → Prop) (W : World) (hJ : AbidesFrom W.heap.size J)
    (hY : ∀ pre x W1, J pre W1 → pre.length < (namesOf s).length → YieldAt Fence.wide (n - 1) Tryz.prog lp (nmEnc (namesOf s) x) W1 fun e W' =>
      (e = .returned (.bool true) ∧ J (pre ++ [x]) W' ∧ CellsFrom n₀ W1 W') ∨ (e = .returned (.bool false) ∧ Jx (pre ++ [x]) W'))
    (hBs : W.cell? ⟨Bs, 0, none⟩ = some (.string s)) (hn₀ : n₀ ≤ W.heap.size) (h0 : J [] W) :
    CallsIn Fence.wide n Tryz.prog 113 #[.func (.yield lp) #[] #[], .pointer (some ⟨Bs, 0, none⟩)] W fun e W' => (∃ v, e = .returned v) ∧
      ((∃ ys, (Asc (namesOf s).length ys ∧ ys.length = (namesOf s).length) ∧ J ys W') ∨ (∃ pre, (Asc (namesOf s).length pre ∧ 0 < pre.length) ∧ Jx pre W')) := by
  have HP := Lib.hid (fun W => parse_says s W hs)
  have HY := Lib.hid hY
  have HJ := Lib.hid hJ
  clear hY hJ
  refine callsIn_of_wp Tryz.func113 rfl trivial ?_ rfl
  simp only [Tryz.ntmps113, List.size_toArray, List.length_cons, List.length_nil, Nat.reduceAdd, Nat.reduceSub, Array.replicate_succ, Array.replicate_zero, List.push_toArray, List.append_toArray, List.nil_append, List.cons_append]
  have HPN := Lib.hid (fun e w1 => says_names (s := s) (W := W) (e := e) (w1 := w1))
  clear hs
  generalize namesOf s = l at *
  gi_wp2_with (refine ⟨trivial, ?_⟩; gi_at_call 92; go_loud (refine (callsIn_wide.2 (HP.out _)).mono ?_; rintro e w1 hP1; obtain ⟨hB1, A, c, x, y, rfl, vs, hvs, hO, hle, hsl⟩ := HPN.out _ _ hP1; clear hP1; have HB1 := Lib.hid hB1; have HO := Lib.hid hO; have HVS := Lib.hid hvs; have HSL := Lib.hid hsl; clear hB1 hO hvs hsl))
  have hB8 : (l.length : Int) ≤ 64 := by omega
  have HO2 := Lib.hid (show (w1.alloc (.cells #[.int .i64 x, .int .i64 y] 93)).ownsRow W.heap.size 138 2 (.slice A l.length c) l.length (stepCells l vs) from HO.out.alloc _)
  have HJ0 := Lib.hid (show J [] (w1.alloc (.cells #[.int .i64 x, .int .i64 y] 93)) from HJ.out _ _ _ none h0 (grown_of_below (HB1.out.alloc HB1.out.size _)) (fun r e => by cases e))
  clear h0
  gi_loopw [6, 14] (fun _ iv wr => ∃ (q : Nat) (pre : List (Fin l.length)), iv = .int .i64 (q : Int) ∧ q ≤ l.length ∧ pre.length = q ∧ Asc l.length pre ∧ J pre wr ∧ wr.ownsRow W.heap.size 138 2 (.slice A l.length c) l.length (stepCells l vs)) (fun _ iv _ => l.length - (intOf iv).toNat)
  case atStart => exact ⟨0, [], rfl, Nat.zero_le _, rfl, asc_nil _, HJ0.out, HO2.out⟩
  case round =>
    obtain ⟨q, pre, rfl, hq, hpl, hA, hJs, hOw⟩ := hrel
    have HA := Lib.hid (And.intro hA hpl)
    have HOW := Lib.hid hOw
    have HJS := Lib.hid hJs
    clear hA hpl hOw hJs
    by_cases hlt : q < l.length
    · have hq2 : (q : Int) < (l.length : Int) := by omega
      obtain ⟨kv, hkv⟩ : ∃ kv, vs[q]? = some kv := ⟨vs[q]'(by rw [HVS.out]; exact hlt), by simp [HVS.out, hlt]⟩
      obtain ⟨ka, kn, kc, rfl⟩ := HSL.out kv (List.mem_of_getElem? hkv)
      have hg : l[q]? = some (l.get ⟨q, hlt⟩) := by simp [hlt]
      have he : nmEnc l ⟨q, hlt⟩ = #[.int .i64 (q : Int), .string (l.get ⟨q, hlt⟩).1] := rfl
      have hcs := stepCells_at l vs q _ _ hg hkv
      obtain ⟨A', c', e', -, -, hR⟩ := own_form HOW.out
      cases e'
      obtain ⟨b1, o1, rfl, hb1, hcl1⟩ := hR.spot (by omega) (by omega)
      have r0 := hcl1 _ _ hcs.1
      have r1 : wr.cell? ⟨b1, o1 + q * 2 + 1, none⟩ = some (.slice ka kn kc) := hcl1 _ _ hcs.2
      have HN := Lib.hid (show ∀ o, J pre (wr.alloc o) from fun o => HJ.out _ _ _ none HJS.out (World.grownBy_alloc wr o none) (fun r e => by cases e))
      have HYY := Lib.hid (show ∀ o, YieldAt Fence.wide (n - 1) Tryz.prog lp (nmEnc l ⟨q, hlt⟩) (wr.alloc o) _ from fun o => HY.out pre ⟨q, hlt⟩ (wr.alloc o) (HN.out o) (by have := HA.out.2; omega))
      rw [he] at HYY
      clear hcl1 hcs hg hkv he hR
      generalize (l.get ⟨q, hlt⟩).1 = nm at *
      obtain ⟨fn, tmps, assign, body, hy, hRR⟩ := HYY.out (.cells #[.string nm, .slice ka kn kc] 138)
      have HRR := Lib.hid hRR
      clear hRR
      gi_wp2
      refine HRR.out.mono ?_
      rintro e W3 (⟨rfl, hJ3, hk3⟩ | ⟨rfl, hJx3⟩)
      · have HF := Lib.hid (And.intro hJ3 (own_from (HOW.out.alloc _) hn₀ hk3))
        clear hJ3 hk3
        gi_wp2
        go_roundw
        case rel => exact ⟨q + 1, pre ++ [⟨q, hlt⟩], by go_num, hlt, by simp [HA.out.2], asc_snoc HA.out.1 HA.out.2.symm, HF.out.1, HF.out.2⟩
        case measure => simp [intOf]; omega
      · have HF := Lib.hid hJx3
        clear hJx3
        gi_wp2
        refine bodyPost_ret (results_none rfl _ _ _) rfl ?_
        exact ⟨⟨_, rfl⟩, .inr ⟨pre ++ [⟨q, hlt⟩], ⟨asc_snoc HA.out.1 HA.out.2.symm, by simp⟩, HF.out⟩⟩
    · have hq2 : ¬ (q : Int) < (l.length : Int) := by omega
      gi_wp2
      go_end0
      exact ⟨⟨_, rfl⟩, .inl ⟨pre, ⟨HA.out.1, by have := HA.out.2; omega⟩, HJS.out⟩⟩
theorem names_stops (n : Nat) (hn : 1 ≤ n) (Bs n₀ : Nat) (s : ByteArray) (hs : s.size ≤ 140737488355328) (w : World) (hn₀ : n₀ ≤ w.heap.size) (hc : w.cell? ⟨Bs, 0, none⟩ = some (.string s)) :
    SeqStopsK Fence.wide n Tryz.prog 113 #[.pointer (some ⟨Bs, 0, none⟩)] (nmEnc (namesOf s)) (CellsFrom n₀) (fun ys => Asc (namesOf s).length ys ∧ ys.length = (namesOf s).length) (fun pre => Asc (namesOf s).length pre ∧ 0 < pre.length) (namesOf s).length w := fun lp J Jx W hW hJ _ hY h0 =>
  names1_in n hn lp Bs n₀ s hs J Jx W hJ hY ((hW.cell (p := ⟨Bs, 0, none⟩) (World.block_lt_of_cell? _ _ hc)).trans hc) (Nat.le_trans hn₀ hW.size) h0

theorem run_eql_func_nil {P : Program} (w : World) (t : TypeId) (f : Fn) (ts bs : Array Value) (d : TypeDesc) (hd : P.underlying t = some d) (hf : (match d with | .func .. => true | _ => false) = true) : (binOp .eql t (.func f ts bs) .nilFunc).run P w = .ok (.bool false) w := by
  cases d <;> cases hf
  have h : ∀ d : Nat, (Op.equalIn (d + 1) t (.func f ts bs) .nilFunc).run P w = .ok false w := fun d => by
    simp [Op.equalIn, run_underlying hd]
  simp only [binOp]
  simp [Op.equal, Op.maxDepth, h 9999]

theorem ownFrom_only {β : Type} {g : Nat} {w₀ : World} : OwnFrom w₀.heap.size (fun (_ : β) W => Only g w₀ W) := fun _ X Y row hs hg hr =>
  ⟨hg.os.trans hs.os, hg.tape.trans hs.tape, hg.output.trans hs.output, Nat.le_trans hs.size hg.size, fun k hk hne => (hg.block k (Nat.lt_of_lt_of_le hk hs.size) (fun e => by
    have := (hr k e.symm).1
    omega)).trans (hs.block k hk hne)⟩
/-- The marks of loops that are over. -/
def MarksOk (W : World) (Ds : List Nat) : Prop := Ds.Nodup ∧ ∀ D ∈ Ds, W.heap[D]? = some (.deferred (some []))
theorem marks_below {X Y : World} {Ds : List Nat} (h : MarksOk X Ds) (hB : Below X.heap.size X Y) : MarksOk Y Ds := ⟨h.1, fun D hD => (hB.block D (Array.getElem?_eq_some_iff.1 (h.2 D hD)).1).trans (h.2 D hD)⟩
theorem marks_only {X Y : World} {Ds : List Nat} {k : Nat} {t : TypeId} {v : Value} (h : MarksOk X Ds) (hb : Boxed X k t v) (hO : Only k X Y) : MarksOk Y Ds := ⟨h.1, fun D hD => (hO.block D (Array.getElem?_eq_some_iff.1 (h.2 D hD)).1 (fun e => by
  have h1 := h.2 D hD
  have e2 : D = k := Option.some.inj e
  rw [e2, show X.heap[k]? = _ from hb] at h1
  cases h1)).trans (h.2 D hD)⟩
theorem marks_cons {X Y : World} {Ds : List Nat} {D : Nat} (hX : MarksOk X Ds) (h : MarksOk Y Ds) (hD : X.heap.size ≤ D) (hK : Y.heap[D]? = some (.deferred (some []))) : MarksOk Y (D :: Ds) :=
  ⟨List.nodup_cons.2 ⟨fun hm => by have := (Array.getElem?_eq_some_iff.1 (hX.2 D hm)).1; omega, h.1⟩, fun E hE => by
    rcases List.mem_cons.1 hE with rfl | hE
    · exact hK
    · exact h.2 E hE⟩
theorem cellsFrom_set {B : Nat} {W : World} {p : Addr} (hp : p.block < B) (u : Value) : CellsFrom B W (W.setCell p u) :=
  ⟨by simp [World.setCell], fun k cs t fr hk h => (Below.heap_setCell W p u k (by omega)).trans h⟩
/-- What the marks' taking leaves. -/
def Turned (B : Nat) (X Y : World) : Prop := Below B X Y ∧ ∀ (k : Nat) (cs : Array Value) (t : TypeId) (fr : Nat × Nat), X.heap[k]? = some (.cells cs t fr) → Y.heap[k]? = some (.cells cs t fr)
theorem Turned.refl (B : Nat) (X : World) : Turned B X X := ⟨Below.refl _ _, fun _ _ _ _ h => h⟩
theorem Turned.step {B D : Nat} {X Y : World} {o : Obj} (h : Turned B X Y) (hD : B ≤ D) (ho : Y.heap[D]? = some o) (hc : o.isCells = false) (o' : Obj) : Turned B X (Y.putObj D o') := by
  refine ⟨h.1.trans ⟨rfl, rfl, rfl, by simp, fun k hk => World.putObj_heap_other (by omega)⟩, fun k cs t fr hk => ?_⟩
  exact (cellsFrom_b (B := 0) Y D o o' ho hc).2 k cs t fr (Nat.zero_le _) (h.2 k cs t fr hk)
theorem leaves_marks {n : Nat} {P : Program} {fn : Func} {tmps : Array Value} {R : Ending → World → Prop} (B : Nat) : ∀ (Ds : List Nat) (X Y : World), Turned B X Y → (∀ D ∈ Ds, B ≤ D) → MarksOk Y Ds → (∀ Z, Turned B X Z → ∃ v, (results fn tmps).run P Z = .ok v Z ∧ R (.returned v) Z) →
    LeavesInM Fence.wide n P fn tmps R (Ds.map fun D => { target := .collected D, args := #[] }) .returning Y
  | [], X, Y, hT, _, _, hR => by
    obtain ⟨v, hr, hv⟩ := hR Y hT
    exact ⟨v, hr, hv⟩
  | D :: Ds, X, Y, hT, hB, hM, hR => by
    have hD := hM.2 D (by simp)
    refine ⟨by simp, .inl ⟨_, _, rfl, run_takeDeferred hD, ?_⟩⟩
    refine leaves_marks B Ds X _ (hT.step (hB D (by simp)) hD rfl _) (fun E h => hB E (by simp [h])) ⟨(List.nodup_cons.1 hM.1).2, fun E h => ?_⟩ hR
    rw [World.putObj_heap_other (fun e => (List.nodup_cons.1 hM.1).1 (by rw [← e]; exact h))]
    exact hM.2 E (by simp [h])
end Go.Proofs.YtfpepdjffehbcaaGreat
/-
  The walk of bundle's group. Condition: the path is within the reach.
-/
set_option linter.unusedVariables false
set_option linter.unusedSimpArgs false
namespace Go.Proofs.YtfpepdjffehbcaaGreat
open Go.RowKit Go.Shelf

attribute [local go_sem] Oper.semAt_some
def firstName : List PStep → ByteArray
  | st :: _ => st.1
  | [] => ByteArray.empty
theorem grp_names (p : ByteArray) : grp p = firstName (namesOf p) := by
  unfold grp namesOf
  cases h : parseM p with
  | ok l => cases l <;> rfl
  | error e => rfl
/-- The name of the first step that was told. -/
def nmOf (l : List PStep) (pre : List (Fin l.length)) : ByteArray := match pre with
  | i :: _ => (l.get i).1
  | [] => ByteArray.empty
theorem nm_first : ∀ (l : List PStep) (x : Fin l.length), x.val = 0 → (l.get x).1 = firstName l
  | [], x, _ => absurd x.isLt (by simp)
  | _ :: _, ⟨0, _⟩, _ => rfl
  | _ :: _, ⟨_ + 1, _⟩, h => absurd h (by simp)
set_option maxRecDepth 100000 in
set_option maxHeartbeats 4000000 in
theorem bgroup_any (p : ByteArray) (w : World) (hp : p.size ≤ 140737488355328) :
    Calls Tryz.prog 62 #[.string p] w fun en w' => en = .returned (.string (grp p)) ∧ Below w.heap.size w w' := by
  refine (callsIn_wide (n := 9)).1 ?_
  refine callsIn_of_wp_marks Tryz.func62 rfl trivial ?_ rfl
  simp only [Tryz.ntmps62, List.size_toArray, List.length_cons, List.length_nil, Nat.reduceAdd, Nat.reduceSub, Array.replicate_succ, Array.replicate_zero, List.push_toArray, List.append_toArray, List.nil_append, List.cons_append]
  gi_wp2_with (refine ⟨trivial, ?_⟩; gi_at_call 78; go_loud (refine (callsIn_wide.2 (names_any _ _)).mono ?_; rintro e w1 ⟨rfl, rfl⟩))
  obtain ⟨W0, hW0⟩ : ∃ W0, (w.alloc (.cells #[.string ⟨#[]⟩] 9)).alloc (.cells #[.string p] 9) = W0 := ⟨_, rfl⟩
  have bR : Boxed W0 w.heap.size 9 (.string ⟨#[]⟩) := by rw [← hW0]; exact (Boxed.new w _ _).alloc _
  have bN : W0.cell? ⟨w.heap.size + 1, 0, none⟩ = some (.string p) := by
    rw [← hW0]
    have := (Boxed.new (w.alloc (.cells #[.string ⟨#[]⟩] 9)) 9 (.string p)).cell
    rw [World.size_alloc] at this
    exact this
  have hsz : W0.heap.size = w.heap.size + 2 := by rw [← hW0]; simp
  have hB0 : Below w.heap.size w W0 := by rw [← hW0]; exact ((Below.refl _ w).alloc (Nat.le_refl _) _).alloc (by simp) _
  rw [hW0]
  clear hW0
  generalize hr0 : w.heap.size = r0 at *
  refine wpIn_rangeFunc_ownH rfl (by decide) (gf := 113) (lb := #[.pointer (some ⟨r0 + 1, 0, none⟩)]) rfl trivial (enters_of Tryz.func113 (by kernel_rfl) rfl)
    (names_stops 8 (by decide) (r0 + 1) W0.heap.size p hp W0 (Nat.le_refl _) bN) cellsFrom_t (fun W l o o' _ h hc _ => cellsFrom_b W l o o' h hc) (Below.refl _ _) (fun _ => rfl)
    (fun pre W => pre = [] ∧ Boxed W r0 9 (.string ⟨#[]⟩) ∧ Below W0.heap.size W0 W)
    (fun cd pre W => (cd = Code.ret ∧ pre.length = 1) ∧ Boxed W r0 9 (.string (nmOf (namesOf p) pre)) ∧ Below r0 w W)
    (OwnFrom.and (ownFrom_pure _ _) (OwnFrom.and (Own.from (boxed_own _ _ _) _) (ownFrom_below (Nat.le_refl _) (Nat.le_refl _))))
    (fun cd => OwnFrom.and (ownFrom_pure _ _) (OwnFrom.and (Own.from (boxed_own _ _ _) _) (ownFrom_below (by omega) (by omega))))
    ⟨rfl, bR, Below.refl _ _⟩
    (fun i a' W => a' = { tmps := #[.string p, undef, .pointer (some ⟨r0, 0, none⟩), undef, .string ((namesOf p).get i).1, .string p, .func (.func 113) #[] #[.pointer (some ⟨r0 + 1, 0, none⟩)], .int .i64 (i.val : Int), .string ((namesOf p).get i).1, undef], defers := [] })
    (fun i a' => ownFrom_pure _ _)
    ?assign ?body ?done ?stop
  case assign =>
    rintro lp pre i W K hI hK
    have HI := Lib.hid hI
    clear hI
    simp only [nmEnc]
    gi_wp2
    exact hK _ _ (KeepsFrom.refl _ _) (cellsFrom_refl _ _) HI.out rfl
  case body =>
    rintro lp pre i a' W hl ⟨rr, hr⟩ ⟨rfl, bk, hB⟩ rfl hlt
    have HB := Lib.hid hB
    have HK := Lib.hid bk
    have f1 := bk.cell
    have f2 := bk.frozen
    have HN := Lib.hid (show nmOf (namesOf p) ([] ++ [i]) = ((namesOf p).get i).1 from rfl)
    clear hr hB bk hlt hl
    generalize ((namesOf p).get i).1 = nm at *
    gi_wp2
    refine ⟨(KeepsOthers.setCell _ _ _).from _, ⟨rfl, rfl⟩, ?_, ?_⟩
    · rw [HN.out]
      exact HK.out.set (.string nm)
    · exact (hB0.trans (HB.out.mono (by omega))).setCell (p := ⟨r0, 0, none⟩) (Nat.le_refl _) _
  case done =>
    rintro D xs W hD ⟨hDs, hlen⟩ ⟨rfl, bk, hB⟩ hK
    have HG := Lib.hid (show grp p = ByteArray.empty from by
      have hl : (namesOf p).length = 0 := hlen.symm
      rw [grp_names, List.eq_nil_of_length_eq_zero hl]
      rfl)
    have HBX := Lib.hid (show Below w.heap.size w W from by rw [hr0]; exact hB0.trans (hB.mono (by omega)))
    have q6 := bk.cell
    have f6 := bk.frozen
    clear hDs hlen hB
    gi_wp2
    have hK1 := (KeepsOthers.setCell W ⟨r0, 0, none⟩ (.string ⟨#[]⟩)).same D _ hK rfl
    refine ⟨by simp, .inl ⟨_, _, rfl, run_takeDeferred hK1, ?_⟩⟩
    have hc6 := cell_kept (bk.set (.string ⟨#[]⟩)).cell (grownBy_putObj' _ D (.deferred none)) (fun r e => by cases e; exact ⟨_, hK1, rfl⟩)
    refine ⟨.string ⟨#[]⟩, ?_, by rw [HG.out]; rfl, (HBX.out.setCell (p := ⟨r0, 0, none⟩) (by rw [hr0]; exact Nat.le_refl _) _).trans (belowK_b (w := w) (Nat.le_refl _) _ D _ _ (by omega) hK1 rfl rfl)⟩
    simp [results, Tryz.f62, go_sem, hc6]
  case stop =>
    rintro D cd pre W hD hDs ⟨⟨rfl, hl1⟩, bk, hB⟩ hK
    have HG := Lib.hid (show nmOf (namesOf p) pre = grp p from by
      obtain ⟨x, rfl⟩ : ∃ x, pre = [x] := by
        match pre, hl1 with
        | [x], _ => exact ⟨x, rfl⟩
      rw [grp_names]
      exact nm_first _ x (hDs.1 0 x rfl))
    have HBX := Lib.hid (show Below w.heap.size w W from by rw [hr0]; exact hB)
    rw [HG.out] at bk
    clear hDs hl1 hB
    gi_wp2
    refine ⟨by simp, .inl ⟨_, _, rfl, run_takeDeferred hK, ?_⟩⟩
    have hc6 := cell_kept bk.cell (grownBy_putObj' _ D (.deferred none)) (fun r e => by cases e; exact ⟨_, hK, rfl⟩)
    refine ⟨.string (grp p), ?_, rfl, HBX.out.trans (belowK_b (w := w) (Nat.le_refl _) _ D _ _ (by omega) hK rfl rfl)⟩
    simp [results, Tryz.f62, go_sem, hc6]
end Go.Proofs.YtfpepdjffehbcaaGreat
