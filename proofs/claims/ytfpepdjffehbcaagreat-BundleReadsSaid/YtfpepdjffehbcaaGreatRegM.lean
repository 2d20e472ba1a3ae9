/-
  A region that draws its order and ends in operations that wait for all the others (stores): what it loads is taken first, calls come in whatever order, and the last operations may write what was loaded. No program in sight. Plain lemmas; no condition.
-/
import Derived.Test.YtfpepdjffehbcaaGreatBunCut
set_option linter.unusedVariables false
set_option linter.unusedSimpArgs false
namespace Go.Proofs.YtfpepdjffehbcaaGreat
open Go.RowKit

/-- All operations from m on wait for operation i. -/
def waitsN (ops : Array Oper) : Nat → Nat → Nat → Bool
  | 0, k, i => waitsB ops k i
  | n + 1, k, i => waitsB ops k i || (List.range ops.size).any fun j => waitsB ops k j && waitsN ops n j i
def lateB (ops : Array Oper) (m i : Nat) : Bool := (List.range ops.size).all fun k => decide (k < m) || waitsN ops 3 k i
/-- What a listed operation waits for is listed. -/
def Closed (ops : Array Oper) (listed : Array Bool) : Prop := ∀ (p : Nat) (o : Oper), ops[p]? = some o → listed.getD p true = true → ∀ e ∈ o.after, Region.binds .any e = true → listed.getD e.on false = true
def closedB (ops : Array Oper) (listed : Array Bool) : Bool := (List.range ops.size).all fun p => !(listed.getD p true) || ((ops[p]?).map fun o => o.after.all fun e => !(Region.binds .any e) || listed.getD e.on false).getD true
theorem closed_of {ops : Array Oper} {listed : Array Bool} (h : closedB ops listed = true) : Closed ops listed := by
  intro p o ho hl e he hb
  have h1 := List.all_eq_true.1 h p (by simpa using (Array.getElem?_eq_some_iff.1 ho).1)
  simp only [ho, hl, Option.map_some, Option.getD_some, Bool.not_true, Bool.false_or, Array.all_eq_true_iff_forall_mem] at h1
  have h2 := h1 e he
  simpa [hb] using h2
theorem waits_dir {ops : Array Oper} {k i : Nat} (h : waitsB ops k i = true) : ∃ o, ops[k]? = some o ∧ ∃ e ∈ o.after, Region.binds .any e = true ∧ e.on = i := by
  unfold waitsB at h
  cases ho : ops[k]? with
  | none => rw [ho] at h; cases h
  | some o =>
    rw [ho] at h
    simp only [Option.map_some, Option.getD_some, Array.any_eq_true] at h
    obtain ⟨q, hq, he⟩ := h
    simp only [Bool.and_eq_true, beq_iff_eq] at he
    exact ⟨o, rfl, _, Array.getElem_mem hq, he.1, he.2⟩
theorem waits_listed {ops : Array Oper} {listed : Array Bool} (hc : Closed ops listed) : ∀ (n k i : Nat), (∀ o, ops[k]? = some o → ∀ e ∈ o.after, Region.binds .any e = true → listed.getD e.on false = true) → waitsN ops n k i = true → listed.getD i false = true
  | 0, k, i, hk, h => by
    obtain ⟨o, ho, e, he, hb, rfl⟩ := waits_dir h
    exact hk o ho e he hb
  | n + 1, k, i, hk, h => by
    simp only [waitsN, Bool.or_eq_true, List.any_eq_true, Bool.and_eq_true] at h
    rcases h with h | ⟨j, -, h1, h2⟩
    · obtain ⟨o, ho, e, he, hb, rfl⟩ := waits_dir h
      exact hk o ho e he hb
    · obtain ⟨o, ho, e, he, hb, rfl⟩ := waits_dir h1
      have h3 := hk o ho e he hb
      have h4 : listed.getD e.on true = true := by
        rcases Nat.lt_or_ge e.on listed.size with h' | h'
        · simp [h'] at h3 ⊢
          exact h3
        · simp [Array.getElem?_eq_none h'] at h3
      exact waits_listed hc n e.on i (fun o2 ho2 => hc e.on o2 ho2 h4) h2
/-- Whatever order is picked, and S holds behind each operation ahead of m. -/
def wpAnyM (P : Program) (ops : Array Oper) (Q : Exit → Act → World → Prop) (S : World → Prop) (m : Nat) : Nat → Array Bool → Act → World → Prop
  | 0, listed, a, w => Region.ready .any ops listed = [] ∧ Q .normal a w
  | fuel + 1, listed, a, w =>
    (Region.ready .any ops listed = [] → Q .normal a w) ∧
    ∀ i ∈ Region.ready .any ops listed, wpOp P ops Q i (fun a' w' => (i < m → S w') ∧ wpAnyM P ops Q S m fuel (listed.setIfInBounds i true) a' w') a w
section
variable {P : Program} {ops : Array Oper} {Q : Exit → Act → World → Prop} {S : World → Prop} {m : Nat}
theorem wpAny_of_M : ∀ (fuel : Nat) (listed : Array Bool) (a : Act) (w : World), wpAnyM P ops Q S m fuel listed a w → wpAny P .any ops Q fuel listed a w
  | 0, _, _, _, h => h
  | fuel + 1, _, _, _, h => ⟨h.1, fun i hi => wpOp_mono (fun a' w' h' => wpAny_of_M fuel _ a' w' h'.2) (h.2 i hi)⟩
theorem late_lt {i j : Nat} {oj : Oper} {listed : Array Bool} (hw : lateB ops m i = true) (hc : Closed ops listed) (hoj : ops[j]? = some oj) (hall : ∀ e ∈ oj.after, Region.binds .any e = true → listed.getD e.on false = true) (hi : listed.getD i true = false) : j < m := by
  have h1 := List.all_eq_true.1 hw j (by simpa using (Array.getElem?_eq_some_iff.1 hoj).1)
  simp only [Bool.or_eq_true, decide_eq_true_eq] at h1
  rcases h1 with h | h
  · exact h
  · have h2 := waits_listed hc 3 j i (fun o ho => by rw [hoj] at ho; cases ho; exact hall) h
    rcases Nat.lt_or_ge i listed.size with h' | h'
    · simp [h'] at h2 hi
      rw [h2] at hi
      cases hi
    · simp [Array.getElem?_eq_none h'] at h2
theorem closed_set {listed : Array Bool} {j : Nat} {oj : Oper} (hc : Closed ops listed) (hoj : ops[j]? = some oj) (hall : ∀ e ∈ oj.after, Region.binds .any e = true → listed.getD e.on false = true) : Closed ops (listed.setIfInBounds j true) := by
  intro p o ho hl e he hb
  refine getD_set_true ?_
  by_cases hpj : j = p
  · subst hpj
    rw [hoj] at ho
    cases ho
    exact hall e he hb
  · rw [getD_set_ne true hpj] at hl
    exact hc p o ho hl e he hb
theorem wpAnyM_first {i : Nat} {oi : Oper} {v : Value} (hi : ops[i]? = some oi) (hw : lateB ops m i = true) (hsel : ∀ (j : Nat) (o : Oper) cs b, ops[j]? = some o → o.op ≠ .select cs b)
    (hQ : ∀ c a w, Q (.panic c) (a.put oi.dst v) w → Q (.panic c) a w) :
    ∀ (fuel : Nat) (listed : Array Bool) (a : Act) (w : World), Closed ops listed →
      (∀ j oj, ops[j]? = some oj → j ≠ i → listed.getD j true = false → (∀ e ∈ oj.after, Region.binds .any e = true → e.on ≠ i) → oi.apart ops oj = true) →
      i ∈ Region.ready .any ops listed → YieldsIf P ops S oi v a → S w →
      wpAnyM P ops Q S m fuel (listed.setIfInBounds i true) (a.put oi.dst v) w → wpAnyM P ops Q S m (fuel + 1) listed a w := by
  intro fuel
  induction fuel with
  | zero =>
    intro listed a w _ _ hr hy hS H
    refine ⟨fun h => (by rw [h] at hr; cases hr), fun j hj => ?_⟩
    by_cases hji : j = i
    · subst hji; exact hy.wpOp hi hS ⟨fun _ => hS, H⟩
    · have := ready_mono hj hji
      rw [H.1] at this
      cases this
  | succ fuel ih =>
    intro listed a w hcl hfree hr hy hS H
    refine ⟨fun h => (by rw [h] at hr; cases hr), fun j hj => ?_⟩
    by_cases hji : j = i
    · subst hji; exact hy.wpOp hi hS ⟨fun _ => hS, H⟩
    · have h1 := H.2 j (ready_mono hj hji)
      obtain ⟨hjun, oj, hoj, hall⟩ := mem_ready.1 hj
      have hnot : ∀ e ∈ oj.after, Region.binds .any e = true → e.on ≠ i := fun e he hb heq => by
        have h1 := hall e he hb
        have h0 := (mem_ready.1 hr).1
        rw [heq] at h1
        rcases Nat.lt_or_ge i listed.size with h' | h'
        · simp [h'] at h0 h1; rw [h0] at h1; cases h1
        · simp [Array.getElem?_eq_none h'] at h1
      have hjm := late_lt hw hcl hoj hall (mem_ready.1 hr).1
      have h2 := wpOp_putIf hoj (hfree j oj hoj hji hjun hnot) (fun cs b => hsel i oi cs b hi) (fun cs b => hsel j oj cs b hoj) hQ hy h1
      have hfree' : ∀ k ok, ops[k]? = some ok → k ≠ i → (listed.setIfInBounds j true).getD k true = false →
          (∀ e ∈ ok.after, Region.binds .any e = true → e.on ≠ i) → oi.apart ops ok = true := fun k ok hk hki hun hno => by
        refine hfree k ok hk hki ?_ hno
        by_cases hjk : j = k
        · subst hjk; exact hjun
        · rw [getD_set_ne true hjk] at hun; exact hun
      refine wpOp_mono (fun a' w' h3 => ⟨h3.2.1, ih (listed.setIfInBounds j true) a' w' (closed_set hcl hoj hall) hfree' (ready_mono hr (Ne.symm hji)) h3.1 (h3.2.1 hjm) ?_⟩) h2
      rw [Array.setIfInBounds_comm _ _ hji]
      exact h3.2.2
theorem wpAnyM_take {i : Nat} {oi : Oper} {d : Option Tmp} {v : Value} {fuel : Nat} {listed : Array Bool} {a : Act} {w : World} (hi : ops[i]? = some oi) (hd : oi.dst = d) (hw : lateB ops m i = true) (hc : closedB ops listed = true)
    (hs : Region.noSelect ops = true) (hf : Region.free .any ops listed i = true) (hr : (Region.ready .any ops listed).contains i = true)
    (hQ : ∀ c a w, Q (.panic c) (a.put d v) w → Q (.panic c) a w) (hy : YieldsIf P ops S oi v a) (hS : S w)
    (h : wpAnyM P ops Q S m fuel (listed.setIfInBounds i true) (a.put d v) w) : wpAnyM P ops Q S m (fuel + 1) listed a w := by
  subst hd
  exact wpAnyM_first hi hw (Region.noSelect_spec hs) hQ fuel listed a w (closed_of hc) (Region.free_spec hi hf) (by simpa using hr) hy hS h
/-- What is owed where operation i comes up ahead of m; from m on. -/
def OweE (P : Program) (ops : Array Oper) (Q : Exit → Act → World → Prop) (S : World → Prop) (m fuel : Nat) (listed : Array Bool) (a : Act) (w : World) (i : Nat) : Prop := wpOp P ops Q i (fun a' w' => (i < m → S w') ∧ wpAnyM P ops Q S m fuel (listed.setIfInBounds i true) a' w') a w
theorem wpAnyM_all {rs : List Nat} {fuel : Nat} {listed : Array Bool} {a : Act} {w : World} (hr : Region.ready .any ops listed = rs) (hne : rs ≠ []) (h : ∀ i ∈ rs, OweE P ops Q S m fuel listed a w i) : wpAnyM P ops Q S m (fuel + 1) listed a w :=
  ⟨fun h0 => absurd (hr ▸ h0) hne, fun i hi => h i (hr ▸ hi)⟩
theorem wpAnyM_one {i : Nat} {fuel : Nat} {listed : Array Bool} {a : Act} {w : World} (hr : Region.ready .any ops listed = [i]) (h : OweE P ops Q S m fuel listed a w i) : wpAnyM P ops Q S m (fuel + 1) listed a w :=
  wpAnyM_all hr (by simp) fun j hj => by rw [List.mem_singleton.1 hj]; exact h
theorem wpAnyM_two {i j : Nat} {fuel : Nat} {listed : Array Bool} {a : Act} {w : World} (hr : Region.ready .any ops listed = [i, j]) (h : OweE P ops Q S m fuel listed a w i) (h2 : OweE P ops Q S m fuel listed a w j) : wpAnyM P ops Q S m (fuel + 1) listed a w :=
  wpAnyM_all hr (by simp) fun k hk => by
    rcases List.mem_cons.1 hk with rfl | hk
    · exact h
    · rw [List.mem_singleton.1 hk]; exact h2
theorem owe_early {i : Nat} {o : Oper} {d : Option Tmp} {fuel : Nat} {listed : Array Bool} {a : Act} {w : World} (ho : ops[i]? = some o) (hd : o.dst = d)
    (h : ∀ K' : Act → World → Prop, Shut (∀ v w, S w → (S w → wpAnyM P ops Q S m fuel (listed.setIfInBounds i true) (a.put d v) w) → K' (a.put o.dst v) w) → if Region.wanted o (yielded ops a.tmps) = true then Oper.wp P o a w K' Q else K' (a.put o.dst undef) w) : OweE P ops Q S m fuel listed a w i := by
  subst hd
  exact wpOp_step ho fun K' hK => h K' fun v w hS hW => hK _ w ⟨fun _ => hS, hW hS⟩
theorem owe_late {i : Nat} {o : Oper} {d : Option Tmp} {fuel : Nat} {listed : Array Bool} {a : Act} {w : World} (ho : ops[i]? = some o) (hd : o.dst = d) (hm : m ≤ i)
    (h : ∀ K' : Act → World → Prop, Shut (∀ v w, wpAnyM P ops Q S m fuel (listed.setIfInBounds i true) (a.put d v) w → K' (a.put o.dst v) w) → if Region.wanted o (yielded ops a.tmps) = true then Oper.wp P o a w K' Q else K' (a.put o.dst undef) w) : OweE P ops Q S m fuel listed a w i := by
  subst hd
  exact wpOp_step ho fun K' hK => h K' fun v w hW => hK _ w ⟨fun hi => absurd hi (Nat.not_lt.2 hm), hW⟩
theorem wpAnyM_done {listed : Array Bool} {a : Act} {w : World} (hr : Region.ready .any ops listed = []) (h : Q .normal a w) : ∀ fuel, wpAnyM P ops Q S m fuel listed a w
  | 0 => ⟨hr, h⟩
  | _ + 1 => ⟨fun _ => h, by rw [hr]; simp⟩
theorem wp_region_M {id : Nat} {a : Act} {w : World} (S : World → Prop) (m : Nat) (hm : P.follows .mixedOrders = true) (hS : S w.drew)
    (h : S w.drew → wpAnyM P ops Q S m ops.size (Array.replicate ops.size false) a w.drew) : (Code.region id ops true).wp P Q a w :=
  wp_region_any hm (wpAny_of_M _ _ _ _ (h hS))
end
end Go.Proofs.YtfpepdjffehbcaaGreat
