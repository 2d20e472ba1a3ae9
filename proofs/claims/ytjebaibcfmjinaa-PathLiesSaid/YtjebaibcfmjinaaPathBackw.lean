/-
  The walks of path.find, its closure and slices.IndexFunc at keys. Condition: at most 1000000 keys.
-/
import Derived.Test.YtjebaibcfmjinaaPathRest
import Derived.RangeFuncNested
import Derived.RangeFuncBound
import Derived.RangeFuncCalls
import Derived.RangeFuncLeaves
import Derived.Shelf.Abstract
import Derived.Shelf.RegionOpen
import Derived.WalkKit
import Derived.OwnWalkIn
import Derived.TacticsInMore
import Derived.LoopNIn
import Derived.LoopIn
namespace Go.Proofs.Ytjebaibcfmjinaa
open Go.RowKit

theorem find1_any (k : PKey) (key : ByteArray) (b : Nat) (w : World) (hb : w.cell? ⟨b, 0, none⟩ = some (.string key)) (hlt : b < w.heap.size) :
    Calls Try.prog 62 #[.agg #[.string k.1, .string k.2], .pointer (some ⟨b, 0, none⟩)] w fun en w' => en = .returned (.bool (decide (k.1 = key))) ∧ Below w.heap.size w w' := by
  obtain ⟨ka, kv⟩ := k
  have HB := Lib.hid ((Below.refl w.heap.size w).alloc (Nat.le_refl _) (.cells #[.string ka, .string kv] 51))
  have hD : (ka.toList == key.toList) = decide (ka = key) := ba_beq ka key
  have HD := Lib.hid hD
  generalize decide (ka = key) = d at *
  clear hD
  go_enter Try.func62, Try.ntmps62
  go_wp2
  go_ret
  exact ⟨by rw [← HD.out]; rfl, HB.out⟩
/-- What find tells. -/
def FindIs (ks : List PKey) (key : ByteArray) (r : Int) : Prop :=
  (∃ i k, r = (i : Nat) ∧ ks[i]? = some k ∧ k.1 = key ∧ ∀ k' ∈ ks.take i, k'.1 ≠ key) ∨ (r = -1 ∧ ∀ k' ∈ ks, k'.1 ≠ key)
set_option maxHeartbeats 1000000 in
theorem indexfunc_keys (v : Value) (ks : List PKey) (key : ByteArray) (b : Nat) (w : World) (h : KeysAt w w.heap.size v ks) (hk : ks.length ≤ 1000000) (hb : w.cell? ⟨b, 0, none⟩ = some (.string key)) (hlt : b < w.heap.size) :
    Calls Try.prog 61 #[v, .func (.func 62) #[] #[.pointer (some ⟨b, 0, none⟩)]] w fun en w' => (∃ r, en = .returned (.int .i64 r) ∧ FindIs ks key r) ∧ Below w.heap.size w w' := by
  obtain ⟨A, c, rfl, hc, hm, hR⟩ := h
  have HR := Lib.hid hR
  clear hR
  generalize hn : ks.length = n at *
  have HN := Lib.hid hn
  have hn1 : (n : Int) ≤ 1000000 := by omega
  clear hn hc
  have HBC := Lib.hid (And.intro hb hlt)
  clear hb hlt
  go_enter Try.func61, Try.ntmps61
  go_wp2
  go_loopw [5, 8] (fun _ iv wr => ∃ p : Nat, iv = .int .i64 (p : Int) ∧ p ≤ n ∧ (∀ k' ∈ ks.take p, k'.1 ≠ key) ∧ Below w.heap.size w wr) (fun _ iv _ => n - (Lib.intOf iv).toNat)
  case atStart => exact ⟨0, rfl, Nat.zero_le _, by simp, Below.refl _ _⟩
  case round =>
    obtain ⟨p, rfl, hp, hT, hB⟩ := hrel
    have HB := Lib.hid hB
    have HT := Lib.hid hT
    clear hT
    by_cases hlt : p < n
    · obtain ⟨x, hx⟩ : ∃ x, ks[p]? = some x := ⟨ks[p]'(by have := HN.out; omega), by have := HN.out; simp [this, hlt]⟩
      have hq : (p : Int) < (n : Int) := by omega
      obtain ⟨b1, o1, rfl, hb1, hcl1⟩ := (HR.out.below hB).spot (by omega) (by omega)
      have hb1w : b1 < wr.heap.size := Nat.lt_of_lt_of_le hb1 hB.size
      have ha1 := pairCells_at ks p x hx
      have r0 := hcl1 _ _ ha1.1
      have r1 : wr.cell? ⟨b1, o1 + p * 2 + 1, none⟩ = some (.string x.2) := hcl1 _ _ ha1.2
      have HC := Lib.hid (find1_any x key b wr ((hB.cell (p := ⟨b, 0, none⟩) HBC.out.2).trans HBC.out.1) (Nat.lt_of_lt_of_le HBC.out.2 hB.size))
      have HX := Lib.hid hx
      clear hcl1 ha1 hx hB
      by_cases he : x.1 = key
      · have HD := Lib.hid (show decide (x.1 = key) = true by simp [he])
        rw [HD.out] at HC
        have HE := Lib.hid he
        clear he
        go_wp2_with (go_at_call 62; go_loud (refine HC.out.mono ?_; rintro en w1 ⟨rfl, hB1⟩))
        go_ret
        exact ⟨⟨(p : Int), rfl, .inl ⟨p, x, rfl, HX.out, HE.out, HT.out⟩⟩, HB.out.trans (hB1.mono HB.out.size)⟩
      · have HD := Lib.hid (show decide (x.1 = key) = false by simp [he])
        rw [HD.out] at HC
        have HE := Lib.hid he
        clear he
        go_wp2_with (go_at_call 62; go_loud (refine HC.out.mono ?_; rintro en w1 ⟨rfl, hB1⟩))
        refine ⟨⟨p + 1, by simp, hlt, ?_, HB.out.trans (hB1.mono HB.out.size)⟩, by simp [Lib.intOf]; omega⟩
        intro k' hk'
        rw [List.take_add_one, HX.out] at hk'
        rcases List.mem_append.1 hk' with h | h
        · exact HT.out k' h
        · simp at h
          subst h
          exact HE.out
    · obtain rfl : p = n := by omega
      have hq : ¬ (p : Int) < (p : Int) := by omega
      clear hB
      go_wp2
      go_ret
      refine ⟨⟨-1, rfl, .inr ⟨rfl, ?_⟩⟩, HB.out⟩
      have := HT.out
      rwa [List.take_of_length_le (by have := HN.out; omega)] at this
theorem find_any (nm key : ByteArray) (kv : Value) (ks : List PKey) (w : World) (h : KeysAt w w.heap.size kv ks) (hk : ks.length ≤ 1000000) :
    Calls Try.prog 40 #[.agg #[.string nm, kv], .string key] w fun en w' => (∃ r, en = .returned (.int .i64 r) ∧ FindIs ks key r) ∧ Below w.heap.size w w' := by
  obtain ⟨A, c, rfl, hc, hm, hR⟩ := id h
  have hB2 : Below w.heap.size w ((w.alloc (.cells #[.string nm, .slice A ks.length c] 40)).alloc (.cells #[.string key] 9)) := ((Below.refl _ w).alloc (Nat.le_refl _) _).alloc (by simp) _
  have HI := Lib.hid (indexfunc_keys (.slice A ks.length c) ks key (w.heap.size + 1) ((w.alloc (.cells #[.string nm, .slice A ks.length c] 40)).alloc (.cells #[.string key] 9)) (h.more hB2 hB2.size) hk (by simp) (by simp))
  have HB2 := Lib.hid hB2
  clear h hB2 hR
  go_enter Try.func40, Try.ntmps40
  go_wp2_with (go_at_call 61; go_loud (refine HI.out.mono ?_; rintro en w1 ⟨⟨r, rfl, hF⟩, hB1⟩; have HF := Lib.hid hF; clear hF))
  go_ret
  exact ⟨⟨_, rfl, HF.out⟩, HB2.out.trans (hB1.mono HB2.out.size)⟩
end Go.Proofs.Ytjebaibcfmjinaa
/-
  slices.Backward at steps: the contract of its iterator. Condition: at most 1000000 steps.
-/
namespace Go.Proofs.Ytjebaibcfmjinaa
open Go.RowKit Go.Shelf

attribute [local go_sem] Oper.semAt_some

def sliceA : Value → Option Addr | .slice A _ _ => A | _ => none
def sliceN : Value → Nat | .slice _ n _ => n | _ => 0
def sliceC : Value → Nat | .slice _ _ c => c | _ => 0
theorem slice_parts {A : Option Addr} {n c : Nat} : Value.slice (sliceA (.slice A n c)) (sliceN (.slice A n c)) (sliceC (.slice A n c)) = .slice A n c := rfl
/-- What a round of Backward is handed: the place, and the step there. -/
def bkEnc (l : List PStep) (vs : List Value) (i : Fin l.length) : Array Value :=
  #[.int .i64 (i.val : Int), .agg #[.string (l.get i).1, .slice (sliceA (vs.getD i.val undef)) (sliceN (vs.getD i.val undef)) (sliceC (vs.getD i.val undef))]]
/-- These places, from the last one down. -/
def Desc (n : Nat) (pre : List (Fin n)) : Prop := ∀ (a : Nat) (x : Fin n), pre[a]? = some x → x.val + a + 1 = n
theorem desc_nil (n : Nat) : Desc n [] := fun a x h => by simp at h
theorem desc_snoc {n : Nat} {pre : List (Fin n)} {x : Fin n} (h : Desc n pre) (hx : x.val + pre.length + 1 = n) : Desc n (pre ++ [x]) := by
  intro a y hy
  rcases Nat.lt_or_ge a pre.length with h1 | h1
  · rw [List.getElem?_append_left h1] at hy
    exact h a y hy
  · rw [List.getElem?_append_right h1] at hy
    have : a - pre.length = 0 := by
      have := (List.getElem?_eq_some_iff.1 hy).1
      simp at this
      omega
    rw [this] at hy
    simp at hy
    subst hy
    omega
theorem desc_mem {n : Nat} {pre : List (Fin n)} (h : Desc n pre) {i : Fin n} (hi : n < i.val + 1 + pre.length + 0 ∨ n = i.val + pre.length) : i ∈ pre := by
  have hlt : n - 1 - i.val < pre.length := by have := i.isLt; omega
  have h1 := h (n - 1 - i.val) (pre[n - 1 - i.val]) (by simp [hlt])
  have : pre[n - 1 - i.val] = i := Fin.ext (by have := i.isLt; omega)
  rw [← this]
  exact List.getElem_mem hlt

set_option maxHeartbeats 1000000 in
theorem backward_in (F : Fence) (n : Nat) (hF : F.fn 39) (hro : F.round = none) (a : Option Addr) (len cap : Nat) (w : World) :
    CallsIn F n Try.prog 39 #[.slice a len cap] w fun e w' => e = .returned (.func (.func 60) #[] #[.pointer (some ⟨w.heap.size, 0, none⟩)]) ∧ w' = w.alloc (.cells #[.slice a len cap] 32) := by
  refine callsIn_of_wp Try.func39 rfl hF ?_ hro
  simp only [Try.ntmps39, List.size_toArray, List.length_cons, List.length_nil, Nat.reduceAdd, Nat.reduceSub, Array.replicate_succ, Array.replicate_zero, List.push_toArray, List.append_toArray, List.nil_append, List.cons_append]
  gi_wp2
  go_ret
  exact ⟨rfl, rfl⟩

set_option maxRecDepth 100000 in
set_option maxHeartbeats 2000000 in
theorem backward1_in (F : Fence) (n : Nat) (hF : F.fn 60) (hro : F.round = none) (hn : 1 ≤ n) (lp Bs n₀ : Nat) (A : Option Addr) (cap : Nat) (l : List PStep) (vs : List Value) (hvs : vs.length = l.length)
    (hsl : ∀ v ∈ vs, ∃ a n c, v = Value.slice a n c) (hlen : l.length ≤ 1000000) (J Jx : List (Fin l.length) → World → Prop)
    (hY : ∀ pre x W, J pre W → pre.length < l.length → YieldAt F (n - 1) Try.prog lp (bkEnc l vs x) W fun e W' =>
      (e = .returned (.bool true) ∧ J (pre ++ [x]) W' ∧ Below n₀ W W') ∨ (e = .returned (.bool false) ∧ Jx (pre ++ [x]) W'))
    (W : World) (hBs : W.cell? ⟨Bs, 0, none⟩ = some (.slice A l.length cap)) (hBn : Bs < n₀) (hR : Reads W n₀ 2 A l.length (stepCells l vs)) (h0 : J [] W) :
    CallsIn F n Try.prog 60 #[.func (.yield lp) #[] #[], .pointer (some ⟨Bs, 0, none⟩)] W fun e W' => (∃ v, e = .returned v) ∧
      ((∃ ys, (Desc l.length ys ∧ ys.length = l.length) ∧ J ys W') ∨ (∃ pre, Desc l.length pre ∧ Jx pre W')) := by
  have HR := Lib.hid hR
  have HY := Lib.hid hY
  clear hR hY
  have hB8 : (l.length : Int) ≤ 1000000 := by omega
  refine callsIn_of_wp Try.func60 rfl hF ?_ hro
  simp only [Try.ntmps60, List.size_toArray, List.length_cons, List.length_nil, Nat.reduceAdd, Nat.reduceSub, Array.replicate_succ, Array.replicate_zero, List.push_toArray, List.append_toArray, List.nil_append, List.cons_append]
  gi_wp2
  gi_loopw [3] (fun iv wr => ∃ (q : Nat) (pre : List (Fin l.length)), iv = .int .i64 ((q : Int) - 1) ∧ q + pre.length = l.length ∧ Desc l.length pre ∧ J pre wr ∧ Below n₀ W wr) (fun iv _ => ((intOf iv) + 1).toNat)
  case atStart => exact ⟨l.length, [], rfl, rfl, desc_nil _, h0, Below.refl _ _⟩
  case round =>
    obtain ⟨q, pre, rfl, hq, hD, hJs, hB⟩ := hrel
    have HD := Lib.hid hD
    have HB := Lib.hid hB
    clear hD
    have hBs2 := (hB.cell (p := ⟨Bs, 0, none⟩) hBn).trans hBs
    cases q with
    | zero =>
      clear hB
      gi_wp2
      go_end0
      exact ⟨⟨_, rfl⟩, .inl ⟨pre, ⟨HD.out, by omega⟩, hJs⟩⟩
    | succ q =>
      have hlt : q < l.length := by omega
      obtain ⟨fn, tmps, assign, body, hy, hRR⟩ := HY.out pre ⟨q, hlt⟩ wr hJs (by omega)
      have HRR := Lib.hid hRR
      obtain ⟨kv, hkv⟩ : ∃ kv, vs[q]? = some kv := ⟨vs[q]'(by omega), by simp [show q < vs.length by omega]⟩
      obtain ⟨ka, kn, kc, rfl⟩ := hsl kv (List.mem_of_getElem? hkv)
      have hg : l[q]? = some (l.get ⟨q, hlt⟩) := by simp [hlt]
      have he : bkEnc l vs ⟨q, hlt⟩ = #[.int .i64 (q : Int), .agg #[.string (l.get ⟨q, hlt⟩).1, .slice ka kn kc]] := by
        unfold bkEnc
        have : vs.getD q undef = .slice ka kn kc := by rw [List.getD_eq_getElem?_getD, hkv]; rfl
        rw [this]
        rfl
      rw [he] at hy
      have hcs := stepCells_at l vs q _ _ hg hkv
      obtain ⟨b1, o1, rfl, hb1, hcl1⟩ := (HR.out.below hB).spot (by omega) (by omega)
      have r0 := hcl1 _ _ hcs.1
      have r1 : wr.cell? ⟨b1, o1 + q * 2 + 1, none⟩ = some (.slice ka kn kc) := hcl1 _ _ hcs.2
      have hq1 : ((q + 1 : Nat) : Int) - 1 = (q : Int) := by omega
      have hq2 : (q : Int) < (l.length : Int) := by omega
      clear hcl1 hcs hg hkv he hRR hB
      rw [hq1]
      clear hq1
      generalize (l.get ⟨q, hlt⟩).1 = nm at *
      gi_wp2
      refine HRR.out.mono ?_
      rintro e W3 (⟨rfl, hJ3, hk3⟩ | ⟨rfl, hJx3⟩)
      · gi_wp2
        go_roundw
        case rel => exact ⟨q, pre ++ [⟨q, hlt⟩], rfl, by simp; omega, desc_snoc HD.out (by simp only; omega), hJ3, HB.out.trans hk3⟩
        case measure => simp [intOf]
      · gi_wp2
        refine bodyPost_ret (results_none rfl _ _ _) rfl ?_
        exact ⟨⟨_, rfl⟩, .inr ⟨pre ++ [⟨q, hlt⟩], desc_snoc HD.out (by simp only; omega), hJx3⟩⟩
theorem backward_stops (F : Fence) (n : Nat) (hF : F.fn 60) (hro : F.round = none) (hn : 1 ≤ n) (Bs n₀ : Nat) (A : Option Addr) (cap : Nat) (l : List PStep) (vs : List Value) (hvs : vs.length = l.length)
    (hsl : ∀ v ∈ vs, ∃ a n c, v = Value.slice a n c) (hlen : l.length ≤ 1000000) (w : World) (hBn : Bs < n₀) (hn₀ : n₀ ≤ w.heap.size)
    (hc : w.cell? ⟨Bs, 0, none⟩ = some (.slice A l.length cap)) (hR : Reads w n₀ 2 A l.length (stepCells l vs)) :
    SeqStopsK F n Try.prog 60 #[.pointer (some ⟨Bs, 0, none⟩)] (bkEnc l vs) (Below n₀) (fun ys => Desc l.length ys ∧ ys.length = l.length) (fun pre => Desc l.length pre) l.length w := fun lp J Jx W hW _ _ hY h0 =>
  backward1_in F n hF hro hn lp Bs n₀ A cap l vs hvs hsl hlen J Jx hY W ((hW.cell (p := ⟨Bs, 0, none⟩) (Nat.lt_of_lt_of_le hBn hn₀)).trans hc) hBn (hR.below (hW.mono hn₀)) h0
end Go.Proofs.Ytjebaibcfmjinaa
