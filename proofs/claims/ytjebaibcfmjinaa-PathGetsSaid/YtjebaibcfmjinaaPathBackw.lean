/-
  slices.Backward at steps: the contract of its iterator. Condition: at most 1000000 steps.
-/
import Derived.Test.YtjebaibcfmjinaaPathFind
import Derived.RangeFuncNested
import Derived.RangeFuncBound
import Derived.RangeFuncCalls
import Derived.RangeFuncLeaves
import Derived.Shelf.Abstract
import Derived.Shelf.RegionOpen
import Derived.WalkKit
import Derived.OwnWalkIn
import Derived.TacticsInMore
import Derived.LoopNIn
import Derived.LoopIn
namespace Go.Proofs.Ytjebaibcfmjinaa
open Go.RowKit Go.Shelf

attribute [local go_sem] Oper.semAt_some

def sliceA : Value → Option Addr | .slice A _ _ => A | _ => none
def sliceN : Value → Nat | .slice _ n _ => n | _ => 0
def sliceC : Value → Nat | .slice _ _ c => c | _ => 0
theorem slice_parts {A : Option Addr} {n c : Nat} : Value.slice (sliceA (.slice A n c)) (sliceN (.slice A n c)) (sliceC (.slice A n c)) = .slice A n c := rfl
/-- What a round of Backward is handed: the place, and the step there. -/
def bkEnc (l : List PStep) (vs : List Value) (i : Fin l.length) : Array Value :=
  #[.int .i64 (i.val : Int), .agg #[.string (l.get i).1, .slice (sliceA (vs.getD i.val undef)) (sliceN (vs.getD i.val undef)) (sliceC (vs.getD i.val undef))]]
/-- These places, from the last one down. -/
def Desc (n : Nat) (pre : List (Fin n)) : Prop := ∀ (a : Nat) (x : Fin n), pre[a]? = some x → x.val + a + 1 = n
theorem desc_nil (n : Nat) : Desc n [] := fun a x h => by simp at h
theorem desc_snoc {n : Nat} {pre : List (Fin n)} {x : Fin n} (h : Desc n pre) (hx : x.val + pre.length + 1 = n) : Desc n (pre ++ [x]) := by
  intro a y hy
  rcases Nat.lt_or_ge a pre.length with h1 | h1
  · rw [List.getElem?_append_left h1] at hy
    exact h a y hy
  · rw [List.getElem?_append_right h1] at hy
    have : a - pre.length = 0 := by
      have := (List.getElem?_eq_some_iff.1 hy).1
      simp at this
      omega
    rw [this] at hy
    simp at hy
    subst hy
    omega
theorem desc_mem {n : Nat} {pre : List (Fin n)} (h : Desc n pre) {i : Fin n} (hi : n < i.val + 1 + pre.length + 0 ∨ n = i.val + pre.length) : i ∈ pre := by
  have hlt : n - 1 - i.val < pre.length := by have := i.isLt; omega
  have h1 := h (n - 1 - i.val) (pre[n - 1 - i.val]) (by simp [hlt])
  have : pre[n - 1 - i.val] = i := Fin.ext (by have := i.isLt; omega)
  rw [← this]
  exact List.getElem_mem hlt

set_option maxHeartbeats 1000000 in
theorem backward_in (F : Fence) (n : Nat) (hF : F.fn 39) (hro : F.round = none) (a : Option Addr) (len cap : Nat) (w : World) :
    CallsIn F n Try.prog 39 #[.slice a len cap] w fun e w' => e = .returned (.func (.func 60) #[] #[.pointer (some ⟨w.heap.size, 0, none⟩)]) ∧ w' = w.alloc (.cells #[.slice a len cap] 32) := by
  refine callsIn_of_wp Try.func39 rfl hF ?_ hro
  simp only [Try.ntmps39, List.size_toArray, List.length_cons, List.length_nil, Nat.reduceAdd, Nat.reduceSub, Array.replicate_succ, Array.replicate_zero, List.push_toArray, List.append_toArray, List.nil_append, List.cons_append]
  gi_wp2
  go_ret
  exact ⟨rfl, rfl⟩

set_option maxRecDepth 100000 in
set_option maxHeartbeats 2000000 in
theorem backward1_in (F : Fence) (n : Nat) (hF : F.fn 60) (hro : F.round = none) (hn : 1 ≤ n) (lp Bs n₀ : Nat) (A : Option Addr) (cap : Nat) (l : List PStep) (vs : List Value) (hvs : vs.length = l.length)
    (hsl : ∀ v ∈ vs, ∃ a n c, v = Value.slice a n c) (hlen : l.length ≤ 1000000) (J Jx : List (Fin l.length) → World → Prop)
    (hY : ∀ pre x W, J pre W → pre.length < l.length → YieldAt F (n - 1) Try.prog lp (bkEnc l vs x) W fun e W' =>
      (e = .returned (.bool true) ∧ J (pre ++ [x]) W' ∧ Below n₀ W W') ∨ (e = .returned (.bool false) ∧ Jx (pre ++ [x]) W'))
    (W : World) (hBs : W.cell? ⟨Bs, 0, none⟩ = some (.slice A l.length cap)) (hBn : Bs < n₀) (hR : Reads W n₀ 2 A l.length (stepCells l vs)) (h0 : J [] W) :
    CallsIn F n Try.prog 60 #[.func (.yield lp) #[] #[], .pointer (some ⟨Bs, 0, none⟩)] W fun e W' => (∃ v, e = .returned v) ∧
      ((∃ ys, (Desc l.length ys ∧ ys.length = l.length) ∧ J ys W') ∨ (∃ pre, Desc l.length pre ∧ Jx pre W')) := by
  have HR := Lib.hid hR
  have HY := Lib.hid hY
  clear hR hY
  have hB8 : (l.length : Int) ≤ 1000000 := by omega
  refine callsIn_of_wp Try.func60 rfl hF ?_ hro
  simp only [Try.ntmps60, List.size_toArray, List.length_cons, List.length_nil, Nat.reduceAdd, Nat.reduceSub, Array.replicate_succ, Array.replicate_zero, List.push_toArray, List.append_toArray, List.nil_append, List.cons_append]
  gi_wp2
  gi_loopw [3] (fun iv wr => ∃ (q : Nat) (pre : List (Fin l.length)), iv = .int .i64 ((q : Int) - 1) ∧ q + pre.length = l.length ∧ Desc l.length pre ∧ J pre wr ∧ Below n₀ W wr) (fun iv _ => ((intOf iv) + 1).toNat)
  case atStart => exact ⟨l.length, [], rfl, rfl, desc_nil _, h0, Below.refl _ _⟩
  case round =>
    obtain ⟨q, pre, rfl, hq, hD, hJs, hB⟩ := hrel
    have HD := Lib.hid hD
    have HB := Lib.hid hB
    clear hD
    have hBs2 := (hB.cell (p := ⟨Bs, 0, none⟩) hBn).trans hBs
    cases q with
    | zero =>
      clear hB
      gi_wp2
      go_end0
      exact ⟨⟨_, rfl⟩, .inl ⟨pre, ⟨HD.out, by omega⟩, hJs⟩⟩
    | succ q =>
      have hlt : q < l.length := by omega
      obtain ⟨fn, tmps, assign, body, hy, hRR⟩ := HY.out pre ⟨q, hlt⟩ wr hJs (by omega)
      have HRR := Lib.hid hRR
      obtain ⟨kv, hkv⟩ : ∃ kv, vs[q]? = some kv := ⟨vs[q]'(by omega), by simp [show q < vs.length by omega]⟩
      obtain ⟨ka, kn, kc, rfl⟩ := hsl kv (List.mem_of_getElem? hkv)
      have hg : l[q]? = some (l.get ⟨q, hlt⟩) := by simp [hlt]
      have he : bkEnc l vs ⟨q, hlt⟩ = #[.int .i64 (q : Int), .agg #[.string (l.get ⟨q, hlt⟩).1, .slice ka kn kc]] := by
        unfold bkEnc
        have : vs.getD q undef = .slice ka kn kc := by rw [List.getD_eq_getElem?_getD, hkv]; rfl
        rw [this]
        rfl
      rw [he] at hy
      have hcs := stepCells_at l vs q _ _ hg hkv
      obtain ⟨b1, o1, rfl, hb1, hcl1⟩ := (HR.out.below hB).spot (by omega) (by omega)
      have r0 := hcl1 _ _ hcs.1
      have r1 : wr.cell? ⟨b1, o1 + q * 2 + 1, none⟩ = some (.slice ka kn kc) := hcl1 _ _ hcs.2
      have hq1 : ((q + 1 : Nat) : Int) - 1 = (q : Int) := by omega
      have hq2 : (q : Int) < (l.length : Int) := by omega
      clear hcl1 hcs hg hkv he hRR hB
      rw [hq1]
      clear hq1
      generalize (l.get ⟨q, hlt⟩).1 = nm at *
      gi_wp2
      refine HRR.out.mono ?_
      rintro e W3 (⟨rfl, hJ3, hk3⟩ | ⟨rfl, hJx3⟩)
      · gi_wp2
        go_roundw
        case rel => exact ⟨q, pre ++ [⟨q, hlt⟩], rfl, by simp; omega, desc_snoc HD.out (by simp only; omega), hJ3, HB.out.trans hk3⟩
        case measure => simp [intOf]
      · gi_wp2
        refine bodyPost_ret (results_none rfl _ _ _) rfl ?_
        exact ⟨⟨_, rfl⟩, .inr ⟨pre ++ [⟨q, hlt⟩], desc_snoc HD.out (by simp only; omega), hJx3⟩⟩
theorem backward_stops (F : Fence) (n : Nat) (hF : F.fn 60) (hro : F.round = none) (hn : 1 ≤ n) (Bs n₀ : Nat) (A : Option Addr) (cap : Nat) (l : List PStep) (vs : List Value) (hvs : vs.length = l.length)
    (hsl : ∀ v ∈ vs, ∃ a n c, v = Value.slice a n c) (hlen : l.length ≤ 1000000) (w : World) (hBn : Bs < n₀) (hn₀ : n₀ ≤ w.heap.size)
    (hc : w.cell? ⟨Bs, 0, none⟩ = some (.slice A l.length cap)) (hR : Reads w n₀ 2 A l.length (stepCells l vs)) :
    SeqStopsK F n Try.prog 60 #[.pointer (some ⟨Bs, 0, none⟩)] (bkEnc l vs) (Below n₀) (fun ys => Desc l.length ys ∧ ys.length = l.length) (fun pre => Desc l.length pre) l.length w := fun lp J Jx W hW _ _ hY h0 =>
  backward1_in F n hF hro hn lp Bs n₀ A cap l vs hvs hsl hlen J Jx hY W ((hW.cell (p := ⟨Bs, 0, none⟩) (Nat.lt_of_lt_of_le hBn hn₀)).trans hc) hBn (hR.below (hW.mono hn₀)) h0
end Go.Proofs.Ytjebaibcfmjinaa
