/-
  The law BundleOrder answers true for every bundle and turn.
-/
import Derived.Test.YtfpepdjffehbcaaGreatRows
import Derived.Test.YtfpepdjffehbcaaGreatBunSort
import Derived.Test.YtfpepdjffehbcaaGreatBunOpen
import Derived.Test.YtfpepdjffehbcaaGreatBunAsk2
import Derived.WalkKit
import Derived.Outline
import Derived.ProofKit
import Derived.OpenShut
import Derived.ShutString
import Derived.ChangeOld
import Derived.Below
import Derived.Deep.CondSized
namespace Go.Proofs.YtfpepdjffehbcaaGreat.bundleOrder
open Go.ChangeShapes Go.WideShapes Go.ChangeAt Go.RowKit
open Go.ChangeMaps (open_string shut_string)
set_option linter.unusedVariables false

theorem own : ownKnob Tryz.prog.godebug = none := by kernel_rfl
theorem laidOut : laidOutB Tryz.prog = true := by kernel_rfl

theorem cut_cut (l : List PStep) : cutL (cutL l) = cutL l := by
  unfold cutL
  rw [← List.map_take, List.take_take, List.map_map]
  refine List.map_congr_left fun b _ => ?_
  simp [cutB, List.take_take]
theorem cut_bunin {l : List PStep} (h : BunIn l) : BunIn (cutL l) := by
  refine ⟨?_, fun b hb => ?_⟩
  · unfold cutL; rw [List.length_map, List.length_take]; omega
  · unfold cutL at hb
    obtain ⟨c, hc, rfl⟩ := List.mem_map.1 hb
    obtain ⟨h1, h2, -⟩ := h.2 c (List.mem_of_mem_take hc)
    refine ⟨h1, fun x hx => h2 x (List.mem_of_mem_take hx), ?_⟩
    simp only [cutB, List.length_take]
    omega
theorem sum_small (l : List PStep) (h : ∀ b ∈ l, b.2.length ≤ 30) : (l.map fun b => b.2.length).sum ≤ l.length * 30 := by
  induction l with
  | nil => simp
  | cons b r ih =>
    have h1 := h b (by simp)
    have h2 := ih fun x hx => h x (by simp [hx])
    simp only [List.map_cons, List.sum_cons, List.length_cons]
    omega
theorem cut_tot {l : List PStep} (h : CutSm l) : (l.map fun b => b.2.length).sum ≤ 90000000 := by
  have h1 := sum_small l h.2
  have h2 := h.1
  omega
theorem two_vars (w : World) (u : Value) (e a : Int) : Below w.heap.size w ((w.alloc (.cells #[u] 24)).alloc (.cells #[.int .i64 e, .int .i64 a] 34)) ∧ Blk ((w.alloc (.cells #[u] 24)).alloc (.cells #[.int .i64 e, .int .i64 a] 34)) w.heap.size 24 #[u] ∧ Blk ((w.alloc (.cells #[u] 24)).alloc (.cells #[.int .i64 e, .int .i64 a] 34)) (w.heap.size + 1) 34 #[.int .i64 e, .int .i64 a] := by
  have h2 := Blk.new (w.alloc (.cells #[u] 24)) 34 #[.int .i64 e, .int .i64 a]
  simp only [World.size_alloc] at h2
  exact ⟨((Below.refl w.heap.size w).alloc (Nat.le_refl _) _).alloc (by simp) _, (Blk.new w _ _).alloc _, h2⟩
theorem sortIs_fits {l r : List PStep} {e a : Int} (h : SortIs l r e a) (hin : SrtIn l) : r.length ≤ 100000000 ∧ ∀ b ∈ r, b.2.length ≤ 100000000 := by
  have hf := sortOut_fits hin
  rcases h with ⟨i, -, -, -, -, rfl⟩ | ⟨-, ⟨-, rfl, -⟩ | ⟨-, rfl, -⟩⟩
  · exact ⟨by simp, fun b hb => by cases hb⟩
  · exact ⟨by simp, fun b hb => by cases hb⟩
  · exact ⟨hf.2.1, fun b hb => (hf.1 b hb).2.2⟩
theorem cut_flat {l : List PStep} (h : CutSm l) : (flatB l).length ≤ 1000000 := by
  have h1 := flat_sum_le h.2
  have h2 := h.1
  have h3 : 30 * l.length ≤ 30 * 11 := Nat.mul_le_mul_left _ h2
  omega
theorem booksE_zero : ∀ (l : List PStep) (i : Nat) (prev : Option ByteArray) (M : List ByteArray), (booksE l i prev M).1 = 0 → (booksE l i prev M).2 = 0
  | [], _, _, _, _ => rfl
  | b :: r, i, prev, M, h => by
    unfold booksE at h ⊢
    split
    · rename_i h1
      rw [if_pos h1] at h
      split
      · rename_i h2
        rw [if_pos h2] at h
        exact booksE_zero r _ _ _ h
      · rename_i h2
        rw [if_neg h2] at h
        exact absurd h h2
    · rename_i h1
      rw [if_neg h1] at h
      exact absurd h h1
theorem check_zero {l : List PStep} (h : (checkB l).1 = 0) : (checkB l).2 = 0 := by
  unfold checkB at h ⊢
  split
  · rename_i h1
    rw [if_pos h1] at h
    exact absurd h (by decide)
  · rename_i h1
    rw [if_neg h1] at h
    exact booksE_zero l _ _ _ h
theorem sortOut_srt {l : List PStep} (h : SrtIn l) : SrtIn (sortOut l) := by
  have hf := sortOut_fits h
  refine ⟨?_, ?_, fun b hb => ⟨(hf.1 b hb).1, (hf.1 b hb).2.1⟩⟩
  · unfold sortOut
    rw [List.length_map]
    have h1 := poolL_len (lt := bl) (l.map Prod.fst)
    rw [List.length_map] at h1
    have := h.1
    omega
  · rw [flat_len]
    unfold sortOut
    rw [List.map_map]
    have h1 := sum_split (poolL bl (l.map Prod.fst)) (pool_nodup _) l
    have h2 := sum_le_sum (f := (fun b : PStep => b.2.length) ∘ fun n => (n, poolL vlt (valsOf l n))) (g := fun n => (valsOf l n).length) (l := poolL bl (l.map Prod.fst)) (fun n _ => poolL_len (lt := vlt) (valsOf l n))
    have h3 := h.2.1
    omega
/-- A Book, its values backwards, in two parts. -/
def turnB (b : PStep) : List PStep := [(b.1, b.2.reverse.drop (b.2.length / 2)), (b.1, b.2.reverse.take (b.2.length / 2))]
def turnL (m : List PStep) (q i : Nat) : List PStep := (List.range i).flatMap fun j => turnB (m.getD ((j + q) % m.length) (ByteArray.empty, []))
theorem turn_next {m : List PStep} {q i : Nat} {b : PStep} (h : m[(i + q) % m.length]? = some b) : turnL m q (i + 1) = turnL m q i ++ turnB b := by
  unfold turnL
  rw [List.range_succ, List.flatMap_append]
  simp [List.getD, h]
theorem turn_mem {m : List PStep} {q : Nat} (hq : q < m.length) {c : PStep} : c ∈ turnL m q m.length ↔ ∃ b ∈ m, c ∈ turnB b := by
  unfold turnL
  rw [List.mem_flatMap]
  constructor
  · rintro ⟨j, hj, hc⟩
    have hl : (j + q) % m.length < m.length := Nat.mod_lt _ (by omega)
    refine ⟨_, ?_, hc⟩
    have e : m.getD ((j + q) % m.length) (ByteArray.empty, []) = m[(j + q) % m.length] := by simp [List.getD, List.getElem?_eq_getElem hl]
    rw [e]
    exact List.getElem_mem hl
  · rintro ⟨b, hb, hc⟩
    obtain ⟨k, hk, rfl⟩ := List.getElem_of_mem hb
    have he : ((k + m.length - q) % m.length + q) % m.length = k := by
      rw [Nat.mod_add_mod, show k + m.length - q + q = k + m.length by omega, Nat.add_mod_right, Nat.mod_eq_of_lt hk]
    refine ⟨(k + m.length - q) % m.length, List.mem_range.2 (Nat.mod_lt _ (by omega)), ?_⟩
    have e : m.getD k (ByteArray.empty, []) = m[k] := by simp [List.getD, List.getElem?_eq_getElem hk]
    rw [he, e]
    exact hc
theorem turn_same {m : List PStep} {q : Nat} (hq : q < m.length) : SaySame m (turnL m q m.length) := by
  refine ⟨fun n => ?_, fun n v => ?_⟩
  · rw [List.mem_map, List.mem_map]
    constructor
    · rintro ⟨b, hb, rfl⟩
      exact ⟨_, (turn_mem hq).2 ⟨b, hb, List.mem_cons_self⟩, rfl⟩
    · rintro ⟨c, hc, rfl⟩
      obtain ⟨b, hb, h⟩ := (turn_mem hq).1 hc
      refine ⟨b, hb, ?_⟩
      simp only [turnB, List.mem_cons, List.not_mem_nil, or_false] at h
      rcases h with rfl | rfl <;> rfl
  · rw [valsOf_mem, valsOf_mem]
    constructor
    · rintro ⟨b, hb, rfl, hv⟩
      have hr : v ∈ b.2.reverse.take (b.2.length / 2) ++ b.2.reverse.drop (b.2.length / 2) := by rw [List.take_append_drop]; exact List.mem_reverse.2 hv
      rcases List.mem_append.1 hr with h | h
      · exact ⟨_, (turn_mem hq).2 ⟨b, hb, List.mem_cons_of_mem _ List.mem_cons_self⟩, rfl, h⟩
      · exact ⟨_, (turn_mem hq).2 ⟨b, hb, List.mem_cons_self⟩, rfl, h⟩
    · rintro ⟨c, hc, rfl, hv⟩
      obtain ⟨b, hb, h⟩ := (turn_mem hq).1 hc
      simp only [turnB, List.mem_cons, List.not_mem_nil, or_false] at h
      rcases h with rfl | rfl
      · exact ⟨b, hb, rfl, List.mem_reverse.1 (List.mem_of_mem_drop hv)⟩
      · exact ⟨b, hb, rfl, List.mem_reverse.1 (List.mem_of_mem_take hv)⟩
theorem turn_len (m : List PStep) (q i : Nat) : (turnL m q i).length = 2 * i := by
  induction i with
  | zero => rfl
  | succ i ih =>
    unfold turnL at ih ⊢
    rw [List.range_succ, List.flatMap_append, List.length_append, ih]
    simp [turnB]
    omega
theorem turn_srt {m : List PStep} {q n : Nat} (h : SrtIn m) (hb : ∀ b ∈ m, b.2.length ≤ 30) (hn : m.length = n) (hq : 0 < m.length → q < m.length) (hm : m.length ≤ 500) : SrtIn (turnL m q n) := by
  subst hn
  rcases Nat.eq_zero_or_pos m.length with h0 | h0
  · rw [List.eq_nil_of_length_eq_zero h0]
    exact ⟨by simp [turnL], by simp [turnL, flatB], fun b hb => by cases hb⟩
  · have hc : ∀ c ∈ turnL m q m.length, ∃ b ∈ m, c.1 = b.1 ∧ (∀ x ∈ c.2, x ∈ b.2) ∧ c.2.length ≤ b.2.length := fun c hc => by
      obtain ⟨b, hbm, h1⟩ := (turn_mem (hq h0)).1 hc
      simp only [turnB, List.mem_cons, List.not_mem_nil, or_false] at h1
      rcases h1 with rfl | rfl
      · exact ⟨b, hbm, rfl, fun x hx => List.mem_reverse.1 (List.mem_of_mem_drop hx), by simp⟩
      · exact ⟨b, hbm, rfl, fun x hx => List.mem_reverse.1 (List.mem_of_mem_take hx), by simp; omega⟩
    have h1 := h.1
    have h2 := flat_sum_le (l := turnL m q m.length) (k := 30) (fun c hcm => by
      obtain ⟨b, hbm, -, -, h3⟩ := hc c hcm
      have := hb b hbm
      omega)
    rw [turn_len] at h2
    refine ⟨by rw [turn_len]; omega, by omega, fun c hcm => ?_⟩
    obtain ⟨b, hbm, e, h3, -⟩ := hc c hcm
    have h4 := h.2.2 b hbm
    exact ⟨by rw [e]; exact h4.1, fun x hx => h4.2 x (h3 x hx)⟩
/-- What is got of a sorted bundle. -/
theorem get_sorted {m : List PStep} (hc : ConsB m) {b : PStep} (hb : b ∈ m) {v : PKey} (hv : v ∈ b.2) : getB (sortOut m) b.1 v.1 = (v.2, true) := by
  have hn : b.1 ∈ poolL bl (m.map Prod.fst) := (poolL_mem _ _).2 (List.mem_map.2 ⟨b, hb, rfl⟩)
  have h1 : (sortOut m).find? (fun c => decide (c.1 = b.1)) = some (b.1, poolL vlt (valsOf m b.1)) := by
    cases hf : (sortOut m).find? fun c => decide (c.1 = b.1) with
    | none =>
      have := List.find?_eq_none.1 hf (b.1, poolL vlt (valsOf m b.1)) (List.mem_map.2 ⟨b.1, hn, rfl⟩)
      simp at this
    | some c =>
      have h2 : c.1 = b.1 := by simpa using List.find?_some hf
      obtain ⟨n, -, rfl⟩ := List.mem_map.1 (List.mem_of_find?_eq_some hf)
      simp only at h2
      rw [h2]
  have hvm : v ∈ valsOf m b.1 := valsOf_mem.2 ⟨b, hb, rfl, hv⟩
  unfold getB
  rw [h1]
  simp only
  cases hf : (poolL vlt (valsOf m b.1)).find? fun x => decide (x.1 = v.1) with
  | none =>
    have := List.find?_eq_none.1 hf v ((poolL_mem _ _).2 hvm)
    simp at this
  | some x =>
    have h2 : x.1 = v.1 := by simpa using List.find?_some hf
    have h3 := (poolL_mem (lt := vlt) _ _).1 (List.mem_of_find?_eq_some hf)
    simp only
    rw [hc b.1 x v h3 hvm h2]
/-- A part of a row of its own. -/
def CutIn (W : World) (base : Nat) (kv : Value) (vl : List PKey) : Prop := (kv = .slice none 0 0 ∧ vl = []) ∨ ∃ (g n c h : Nat) (L : List PKey), W.ownsRow base 59 2 (.slice (some ⟨g, 0, none⟩) n c) n (pairCells L) ∧ L.length = n ∧ h ≤ n ∧ ((kv = .slice (some ⟨g, h * 2, none⟩) (n - h) (c - h) ∧ vl = L.drop h) ∨ (kv = .slice (some ⟨g, 0, none⟩) h c ∧ vl = L.take h))
theorem CutIn.keys {W : World} {base : Nat} {kv : Value} {vl : List PKey} (h : CutIn W base kv vl) : KeysAt W W.heap.size kv vl := by
  rcases h with ⟨rfl, rfl⟩ | ⟨g, n, c, k, L, ho, hl, hk, h⟩
  · exact ⟨none, 0, rfl, Nat.le_refl _, by simp [maxLen], ⟨rfl, fun hp => absurd hp (Nat.lt_irrefl _)⟩⟩
  · obtain ⟨A', c', e, h1, h2, hR⟩ := own_form ho
    cases e
    rcases h with ⟨rfl, rfl⟩ | ⟨rfl, rfl⟩
    · refine ⟨_, _, by rw [List.length_drop, hl], by rw [List.length_drop, hl]; omega, by omega, ?_⟩
      have e : pairCells (L.drop k) = (pairCells L).drop (k * 2) := by
        have h3 := pairs_take L k
        have h4 : pairCells L = pairCells (L.take k) ++ pairCells (L.drop k) := by
          unfold pairCells
          rw [← List.flatMap_append, List.take_append_drop]
        have h5 : (pairCells (L.take k)).length = k * 2 := by
          rw [h3, List.length_take, ho.1]
          omega
        rw [h4, ← h5, List.drop_left]
      refine ⟨by rw [e, List.length_drop, ho.1, List.length_drop, hl, Nat.sub_mul], fun hp => ⟨⟨g, k * 2, none⟩, rfl, (ho.lt g rfl).2, fun j u hj => ?_⟩⟩
      rw [e, List.getElem?_drop] at hj
      have h6 := own_cell ho (k * 2 + j) u hj
      have h7 : (⟨g, k * 2, none⟩ : Addr).add j = ⟨g, k * 2 + j, none⟩ := by by_cases hj : j = 0 <;> simp [Addr.add, hj]
      rw [h7]
      exact h6
    · refine ⟨_, _, by rw [List.length_take, hl, Nat.min_eq_left hk], by rw [List.length_take, hl, Nat.min_eq_left hk]; omega, h2, ?_⟩
      rw [List.length_take, hl, Nat.min_eq_left hk, pairs_take]
      exact hR.take hk
theorem CutIn.stays {W W' : World} {base B size n : Nat} {e : TypeId} {u kv : Value} {vl : List PKey} {ys : List Value} (h : CutIn W base kv vl) (hu : W.ownsRow B e size u n ys) (hne : 59 ≠ e) (hg : W.grownBy W' u.ownBlock) : CutIn W' base kv vl :=
  h.imp id fun ⟨g, n, c, k, L, ho, r⟩ => ⟨g, n, c, k, L, own_stays ho hu hne hg, r⟩
theorem CutIn.staysB {W W' : World} {base r : Nat} {t : TypeId} {kv : Value} {vl : List PKey} {cs : Array Value} (h : CutIn W base kv vl) (hb : Blk W r t cs) (hne : 59 ≠ t) (hg : W.grownBy W' (some r)) : CutIn W' base kv vl :=
  h.imp id fun ⟨g, n, c, k, L, ho, r⟩ => ⟨g, n, c, k, L, own_stays3 ho hb hne hg, r⟩
theorem CutIn.on {W W' : World} {base : Nat} {kv : Value} {vl : List PKey} (h : CutIn W base kv vl) (hb : Below W.heap.size W W') : CutIn W' base kv vl :=
  h.imp id fun ⟨g, n, c, k, L, ho, r⟩ => ⟨g, n, c, k, L, own_more ho hb, r⟩
/-- The turned bundle, as it grows. -/
def TurnAt (W : World) (base : Nat) (u : Value) (T : List PStep) (us : List Value) : Prop := W.ownsRow base 56 2 u T.length (stepCells T us) ∧ us.length = T.length ∧ ∀ (i : Nat) (b : PStep) (kv : Value), T[i]? = some b → us[i]? = some kv → CutIn W base kv b.2
theorem TurnAt.steps {W : World} {base : Nat} {u : Value} {T : List PStep} {us : List Value} (h : TurnAt W base u T us) : StepsR W u T us := by
  obtain ⟨h1, h2, h3⟩ := h
  obtain ⟨A, c, rfl, a1, a2, a3⟩ := own_form h1
  exact ⟨A, c, rfl, a1, a2, a3, h2, fun i b kv hb hk => (h3 i b kv hb hk).keys⟩
theorem TurnAt.on {W W' : World} {base : Nat} {u : Value} {T : List PStep} {us : List Value} (h : TurnAt W base u T us) (hb : Below W.heap.size W W') : TurnAt W' base u T us := ⟨own_more h.1 hb, h.2.1, fun i b kv h1 h2 => (h.2.2 i b kv h1 h2).on hb⟩
theorem at_push2 {α : Type} {l : List α} {x y z : α} {i : Nat} (h : (l ++ [x, y])[i]? = some z) : l[i]? = some z ∨ (i = l.length ∧ z = x) ∨ (i = l.length + 1 ∧ z = y) := by
  rcases Nat.lt_or_ge i l.length with hl | hl
  · rw [List.getElem?_append_left hl] at h
    exact .inl h
  · rw [List.getElem?_append_right hl] at h
    obtain ⟨k, rfl⟩ : ∃ k, i = l.length + k := ⟨i - l.length, by omega⟩
    rw [show l.length + k - l.length = k by omega] at h
    match k, h with
    | 0, h => exact .inr (.inl ⟨rfl, (Option.some.inj h).symm⟩)
    | 1, h => exact .inr (.inr ⟨rfl, (Option.some.inj h).symm⟩)
    | k + 2, h => simp at h
theorem stepCells_two {T : List PStep} {us : List Value} (h : us.length = T.length) (a b : PStep) (x y : Value) : stepCells (T ++ [a, b]) (us ++ [x, y]) = stepCells T us ++ [.string a.1, x, .string b.1, y] := by
  have e1 : T ++ [a, b] = (T ++ [a]) ++ [b] := by simp
  have e2 : us ++ [x, y] = (us ++ [x]) ++ [y] := by simp
  rw [e1, e2, stepCells_append _ _ b y (by simp [h]), stepCells_append _ _ a x h, List.append_assoc]
  rfl
theorem TurnAt.push {W W' : World} {base : Nat} {u u' : Value} {T : List PStep} {us : List Value} (h : TurnAt W base u T us) {a b : PStep} {x y : Value} {n : Nat} (hn : T.length = n) (ha : CutIn W base x a.2) (hb : CutIn W base y b.2) (hown : W'.ownsRow base 56 2 u' (n + 2) (stepCells T us ++ [.string a.1, x, .string b.1, y])) (hg : W.grownBy W' u.ownBlock) :
    TurnAt W' base u' (T ++ [a, b]) (us ++ [x, y]) := by
  subst hn
  refine ⟨by rw [stepCells_two h.2.1, List.length_append]; exact hown, by simp [h.2.1], fun i c kv hi hj => ?_⟩
  rcases at_push2 hi with h1 | ⟨h1, rfl⟩ | ⟨h1, rfl⟩
  · rcases at_push2 hj with h2 | ⟨h2, rfl⟩ | ⟨h2, rfl⟩
    · exact (h.2.2 i c kv h1 h2).stays h.1 (by decide) hg
    · exact absurd (List.getElem?_eq_some_iff.1 h1).1 (by have := h.2.1; omega)
    · exact absurd (List.getElem?_eq_some_iff.1 h1).1 (by have := h.2.1; omega)
  · rcases at_push2 hj with h2 | ⟨h2, rfl⟩ | ⟨h2, rfl⟩
    · exact absurd (List.getElem?_eq_some_iff.1 h2).1 (by have := h.2.1; omega)
    · exact ha.stays h.1 (by decide) hg
    · exact absurd h2 (by have := h.2.1; omega)
  · rcases at_push2 hj with h2 | ⟨h2, rfl⟩ | ⟨h2, rfl⟩
    · exact absurd (List.getElem?_eq_some_iff.1 h2).1 (by have := h.2.1; omega)
    · exact absurd h2 (by have := h.2.1; omega)
    · exact hb.stays h.1 (by decide) hg
/-- A fault that is written over. -/
theorem order_set {w3 w5 W : World} {g1 by_ : Nat} {x0 x1 ur uy : Value} {r ry : List PStep} {rs rsy : List Value} (h5 : Below w3.heap.size w3 w5) (hg : w3.heap.size ≤ g1) (hW : Below w5.heap.size w5 W) (hF : Blk W (g1 + 1) 34 #[x0, x1]) (hG : Blk W g1 24 #[ur]) (hO : BunOwn W w3.heap.size ur r rs) (hP : BunOwn W by_ uy ry rsy) :
    Below w3.heap.size w3 (((W.setCell ⟨g1 + 1, 0, none⟩ (.int .i64 0)).setCell ⟨g1 + 1, 1, none⟩ (.int .i64 0)).alloc (.cells #[uy] 24)) ∧ Blk (((W.setCell ⟨g1 + 1, 0, none⟩ (.int .i64 0)).setCell ⟨g1 + 1, 1, none⟩ (.int .i64 0)).alloc (.cells #[uy] 24)) g1 24 #[ur] ∧ Blk (((W.setCell ⟨g1 + 1, 0, none⟩ (.int .i64 0)).setCell ⟨g1 + 1, 1, none⟩ (.int .i64 0)).alloc (.cells #[uy] 24)) (g1 + 1) 34 #[.int .i64 0, .int .i64 0] ∧ Blk (((W.setCell ⟨g1 + 1, 0, none⟩ (.int .i64 0)).setCell ⟨g1 + 1, 1, none⟩ (.int .i64 0)).alloc (.cells #[uy] 24)) W.heap.size 24 #[uy] ∧ StepsR (((W.setCell ⟨g1 + 1, 0, none⟩ (.int .i64 0)).setCell ⟨g1 + 1, 1, none⟩ (.int .i64 0)).alloc (.cells #[uy] 24)) ur r rs ∧ StepsR (((W.setCell ⟨g1 + 1, 0, none⟩ (.int .i64 0)).setCell ⟨g1 + 1, 1, none⟩ (.int .i64 0)).alloc (.cells #[uy] 24)) uy ry rsy := by
  have b0 := h5.trans (hW.mono h5.size)
  have b1 := (b0.setCell (p := ⟨g1 + 1, 0, none⟩) (by simp; omega) (.int .i64 0)).setCell (p := ⟨g1 + 1, 1, none⟩) (by simp; omega) (.int .i64 0)
  have hY := Blk.new ((W.setCell ⟨g1 + 1, 0, none⟩ (.int .i64 0)).setCell ⟨g1 + 1, 1, none⟩ (.int .i64 0)) 24 #[uy]
  have hz : ((W.setCell ⟨g1 + 1, 0, none⟩ (.int .i64 0)).setCell ⟨g1 + 1, 1, none⟩ (.int .i64 0)).heap.size = W.heap.size := by simp [World.setCell]
  rw [hz] at hY
  have hba := (Below.refl ((W.setCell ⟨g1 + 1, 0, none⟩ (.int .i64 0)).setCell ⟨g1 + 1, 1, none⟩ (.int .i64 0)).heap.size ((W.setCell ⟨g1 + 1, 0, none⟩ (.int .i64 0)).setCell ⟨g1 + 1, 1, none⟩ (.int .i64 0))).alloc (Nat.le_refl _) (.cells #[uy] 24)
  have hF1 := hF.set_ 0 (.int .i64 0)
  exact ⟨b1.trans (hba.mono b1.size), ((hG.far (by simp) _).far (by simp) _).alloc _, (hF1.set_ 1 (.int .i64 0)).alloc _, hY, ((bunown_setF hF1 (bunown_setF hF hO)).on hba).steps, ((bunown_setF hF1 (bunown_setF hF hP)).on hba).steps⟩
theorem tu_set {W : World} {g : Nat} {x u v : Value} {base : Nat} {T : List PStep} {us : List Value} (hB : Blk W g 24 #[x]) (h : TurnAt W base v T us) : TurnAt (W.setCell ⟨g, 0, none⟩ u) base v T us := by
  have hs := grown_set W g 0 u
  exact ⟨own_stays3 h.1 hB (by decide) hs, h.2.1, fun i b kv h1 h2 => (h.2.2 i b kv h1 h2).staysB hB (by decide) hs⟩
set_option maxHeartbeats 32000000 in
set_option maxRecDepth 100000 in
theorem order_walk (v : Value) (turn : Int) (l : List PStep) (vs : List Value) (w : World) (h : StepsR w v l vs) (hin : BunIn l) :
    Calls Tryz.prog 6 #[.agg #[v], .int .i64 turn] w fun en w' => en = .returned (.bool true) ∧ Below w.heap.size w w' := by
  have HS := Lib.hid h
  obtain ⟨A, c, rfl, -, -, -, -, -⟩ := h
  obtain ⟨n0, hn0⟩ : ∃ n0, l.length = n0 := ⟨_, rfl⟩
  rw [hn0] at HS ⊢
  clear hn0
  have HBA := Lib.hid ((Below.refl _ w).alloc (Nat.le_refl _) (.cells #[.slice A n0 c] 24))
  have HWK := Lib.hid (fun W => bwakes_any W)
  have HCU := Lib.hid (fun (W : World) (hW : Below w.heap.size w W) => bcut_any (.slice A n0 c) l vs W (HS.out.more hW) hin)
  have HM := Lib.hid (show InB (cutL l) ∧ CutSm (cutL l) from ⟨cutL_in hin, cut_small l⟩)
  clear hin
  have HGA := Lib.hid (Blk.new w 24 #[.slice A n0 c])
  obtain ⟨i1, hi1, hy0, hy1, hy2⟩ := info_parts valueI
  obtain ⟨i2, hi2, hx0, hx1, hx2⟩ := info_parts bookI
  go_enter Tryz.func6, Tryz.ntmps6
  go_upto_region 3 with (go_at_call 8; go_must (refine (HWK.out _).mono ?_; rintro en w1 ⟨rfl, hb1⟩; have HB1 := Lib.hid (HBA.out.trans (hb1.mono HBA.out.size)); have HG1 := Lib.hid (HGA.out.below hb1 HGA.out.lt); clear hb1))
  obtain ⟨h0, hh0⟩ : ∃ h0, w.heap.size = h0 := ⟨_, rfl⟩
  have HH0 := Lib.hid hh0
  rw [hh0] at HG1 ⊢
  have k0 : w1.cell? ⟨h0, 0, none⟩ = some (.slice A n0 c) := HG1.out.cell 0
  clear hh0
  have HC1 := Lib.hid (HCU.out w1 HB1.out)
  go_wp2_with fail
  refine HC1.out.mono ?_
  rintro en w2 ⟨u, us, rfl, hO, hb2⟩
  obtain ⟨Au, cu, rfl, -, -, -⟩ := own_form hO.1
  have HG2 := Lib.hid (HG1.out.below hb2 HG1.out.lt)
  have HO2 := Lib.hid hO
  have HB2 := Lib.hid (HB1.out.trans (hb2.mono HB1.out.size))
  have k1 : w2.cell? ⟨h0, 0, none⟩ = some (.slice A n0 c) := HG2.out.cell 0
  have k2 : w2.frozen? ⟨h0, 0, none⟩ = false := HG2.out.frozen 0
  clear hO hb2 k0 HWK HCU HC1
  obtain ⟨m, hm⟩ : ∃ m, cutL l = m := ⟨_, rfl⟩
  rw [hm] at HM HO2 ⊢
  obtain ⟨na, hna⟩ : ∃ na, m.length = na := ⟨_, rfl⟩
  have HNA := Lib.hid hna
  rw [hna] at HO2 ⊢
  have hna1 : na ≤ 11 := by rw [← hna]; exact HM.out.2.1
  have hna2 : (na : Int) ≤ 11 := by omega
  clear hm hna
  go_upto_region 4 with (fail)
  clear k1 k2
  have HX3 := Lib.hid (show Below w.heap.size w (w2.setCell ⟨h0, 0, none⟩ (.slice Au na cu)) ∧ Blk (w2.setCell ⟨h0, 0, none⟩ (.slice Au na cu)) h0 24 #[.slice Au na cu] ∧ StepsR (w2.setCell ⟨h0, 0, none⟩ (.slice Au na cu)) (.slice Au na cu) m us from ⟨HB2.out.setCell (by rw [HH0.out]; exact Nat.le_refl _) _, (cut_in HG2.out HO2.out).1, (cut_in HG2.out HO2.out).2.steps⟩)
  clear HG2 HO2 HB2 HG1 HB1 HGA HBA
  generalize w2.setCell ⟨h0, 0, none⟩ (.slice Au na cu) = w3 at *
  have k0 : w3.cell? ⟨h0, 0, none⟩ = some (.slice Au na cu) := HX3.out.2.1.cell 0
  have HSR := Lib.hid (HM.out.1.srt)
  have HS3 := Lib.hid (bsort_any (.slice Au na cu) m us w3 HX3.out.2.2 HSR.out)
  go_upto_region 5 with (go_at_call 26; go_must (refine HS3.out.mono ?_; rintro en w4 ⟨⟨ur0, r, rs, e1, a1, rfl, hsi, hor⟩, hb4⟩; obtain ⟨Ar, cr, rfl, -, -, -⟩ := own_form hor.1; obtain ⟨nr, hnr⟩ : ∃ nr, r.length = nr := ⟨_, rfl⟩; rw [hnr] at hor ⊢; have HNR := Lib.hid hnr; have HSI := Lib.hid hsi; have HOR := Lib.hid hor; have HB4 := Lib.hid hb4; clear hnr hsi hor hb4 k0))
  have HB4Z := Lib.hid (HB4.out.size)
  have HTV := Lib.hid (two_vars w4 (.slice Ar nr cr) e1 a1)
  have HB5 := Lib.hid (HB4.out.trans (HTV.out.1.mono HB4.out.size))
  have HO5B := Lib.hid (HOR.out.on HTV.out.1)
  have HO5 := Lib.hid (HO5B.out.steps)
  clear HB4 HOR HS3
  generalize (w4.alloc (.cells #[.slice Ar nr cr] 24)).alloc (.cells #[.int .i64 e1, .int .i64 a1] 34) = w5 at *
  obtain ⟨g1, hg1⟩ : ∃ g1, w4.heap.size = g1 := ⟨_, rfl⟩
  rw [hg1] at HTV HB4Z ⊢
  clear hg1
  have HKP := Lib.hid (show ∀ W, Below w5.heap.size w5 W → Below w3.heap.size w3 W ∧ W.cell? ⟨h0, 0, none⟩ = some (.slice Au na cu) ∧ W.cell? ⟨g1, 0, none⟩ = some (.slice Ar nr cr) ∧ W.cell? ⟨g1 + 1, 0, none⟩ = some (.int .i64 e1) from fun W hW => by
    have hb := HB5.out.trans (hW.mono HB5.out.size)
    exact ⟨hb, (HX3.out.2.1.below hb HX3.out.2.1.lt).cell 0, (HTV.out.2.1.below hW HTV.out.2.1.lt).cell 0, (HTV.out.2.2.below hW HTV.out.2.2.lt).cell 0⟩)
  have hkk := HKP.out w5 (Below.refl _ _)
  obtain ⟨-, k0, k1, k2⟩ := hkk
  by_cases z : e1 = 0
  · subst z
    have HG := Lib.hid (show ConsB m ∧ (checkB r).1 = 0 ∧ r = sortOut m from by
      rcases HSI.out with ⟨i, -, -, h3, -⟩ | ⟨hc, ⟨h1, -, h3, -⟩ | ⟨h1, h2, -⟩⟩
      · cases h3
      · exact absurd h3.symm h1
      · exact ⟨hc, by rw [h2]; exact h1, h2⟩)
    have HRS := Lib.hid (show SrtIn r from by rw [HG.out.2.2]; exact sortOut_srt HSR.out)
    have HS5 := Lib.hid (bsort_any (.slice Ar nr cr) r rs w5 HO5.out HRS.out)
    go_upto_region 8 with (go_at_call 26; go_must (refine HS5.out.mono ?_; rintro en w6 ⟨⟨ur0, r2, rs2, e2, a2, rfl, hsi, hor⟩, hb6⟩; obtain ⟨er, rfl, rfl⟩ := sort_again HG.out.2.1 hsi; have er := er.symm; subst er; obtain ⟨Ax, cx, rfl, -, -, -⟩ := own_form hor.1; rw [HNR.out] at hor ⊢; have HOX := Lib.hid hor; have HB6 := Lib.hid hb6; clear hsi hor hb6 k0 k1 k2))
    have HTW := Lib.hid (two_vars w6 (.slice Ax nr cx) 0 0)
    have HB7 := Lib.hid (HB6.out.trans (HTW.out.1.mono HB6.out.size))
    have HO7 := Lib.hid ((HOX.out.on HTW.out.1).steps)
    clear HB6 HOX HS5
    generalize (w6.alloc (.cells #[.slice Ax nr cx] 24)).alloc (.cells #[.int .i64 0, .int .i64 0] 34) = w7 at *
    obtain ⟨g2, hg2⟩ : ∃ g2, w6.heap.size = g2 := ⟨_, rfl⟩
    rw [hg2] at HTW ⊢
    clear hg2
    obtain ⟨-, k0, k1, k2⟩ := HKP.out w7 HB7.out
    have x0 : w7.cell? ⟨g2, 0, none⟩ = some (.slice Ax nr cx) := HTW.out.2.1.cell 0
    have x1 : w7.cell? ⟨g2 + 1, 0, none⟩ = some (.int .i64 0) := HTW.out.2.2.cell 0
    have HS7 := Lib.hid (show Calls Tryz.prog 13 #[.agg #[.slice Ax nr cx], .agg #[.slice Ar nr cr]] w7 (fun e w' => e = .returned (.bool true) ∧ Below w7.heap.size w7 w') from by
      have := bsame_any (.slice Ax nr cx) (.slice Ar nr cr) r r rs2 rs w7 HO7.out (HO5.out.more HB7.out)
      exact this.mono fun e w' h => ⟨by rw [h.1, decide_eq_true (rfl : r = r)], h.2⟩)
    have HFT := Lib.hid (sortIs_fits HSI.out HSR.out)
    go_wp2_with fail
    refine HS7.out.mono ?_
    rintro en w8 ⟨rfl, hb8⟩
    have HB8 := Lib.hid (HB7.out.trans (hb8.mono HB7.out.size))
    clear hb8 k0 k1 k2 x0 x1 HS7 HO7 HTW
    obtain ⟨-, k0, k1, k2⟩ := HKP.out w8 HB8.out
    have HC8 := Lib.hid (show Calls Tryz.prog 24 #[.agg #[.slice Ar nr cr]] w8 (fun e w' => e = .returned (.agg #[.int .i64 0, .int .i64 0]) ∧ Below w8.heap.size w8 w') from by
      have hf := sortOut_fits HSR.out
      rw [← HG.out.2.2] at hf
      refine (buncheck_any _ r rs w8 (HO5.out.more HB8.out) hf.1 hf.2.1 hf.2.2).mono ?_
      rintro e w' ⟨rfl, hb⟩
      exact ⟨by unfold faultW; rw [HG.out.2.1, check_zero HG.out.2.1], hb⟩)
    go_upto_region 10 with (go_at_call 24; go_must (refine HC8.out.mono ?_; rintro en w9 ⟨rfl, hb9⟩; have HB9 := Lib.hid (HB8.out.trans (hb9.mono HB8.out.size)); clear hb9 k0 k1 k2))
    have hba := (Below.refl w9.heap.size w9).alloc (Nat.le_refl _) (.cells #[.slice none 0 0] 24)
    have HB10 := Lib.hid (HB9.out.trans (hba.mono HB9.out.size))
    have HT10 := Lib.hid (show Blk (w9.alloc (.cells #[.slice none 0 0] 24)) w9.heap.size 24 #[.slice none 0 0] ∧ Below w9.heap.size w9 (w9.alloc (.cells #[.slice none 0 0] 24)) from ⟨Blk.new w9 _ _, hba⟩)
    clear hba
    go_upto_region 11 with (fail)
    generalize w9.alloc (.cells #[.slice none 0 0] 24) = w10 at *
    obtain ⟨gt, hgt⟩ : ∃ gt, gt = w9.heap.size := ⟨_, rfl⟩
    have HGT := Lib.hid hgt
    rw [← hgt] at HT10 ⊢
    clear hgt
    obtain ⟨-, k0, k1, k2⟩ := HKP.out w10 HB10.out
    go_wp2
    clear k0 k1 k2
    have HFAR := Lib.hid (show ∀ (i : Nat) (b : PStep), m[i]? = some b → ∃ b1 o1 Ak ck, Au = some ⟨b1, o1, none⟩ ∧ ∀ W, Below w9.heap.size w9 W → W.cell? ⟨b1, o1 + i * 2, none⟩ = some (.string b.1) ∧ W.cell? ⟨b1, o1 + i * 2 + 1, none⟩ = some (.slice Ak b.2.length ck) ∧ KeysAt W W.heap.size (.slice Ak b.2.length ck) b.2 from fun i b hb => by
      obtain ⟨b1, o1, Ak, ck, e, hf⟩ := books_far HX3.out.2.2 hb
      have h9 := (HKP.out w9 HB9.out).1
      exact ⟨b1, o1, Ak, ck, e, fun W hW => hf W (h9.trans (hW.mono h9.size))⟩)
    have HK9 := Lib.hid (show ∀ W, Below w9.heap.size w9 W → Below w5.heap.size w5 W from fun W hW => HB9.out.trans (hW.mono HB9.out.size))
    have hq0 : 0 < na ∨ na = 0 := by omega
    obtain ⟨tw, htw⟩ : ∃ tw, IntKind.u64.wrap turn = tw := ⟨_, rfl⟩
    have htw0 : 0 ≤ tw := by rw [← htw, IntKind.wrap_u64]; omega
    obtain ⟨q, hq⟩ : ∃ q : Nat, tw.tmod (na : Int) = (q : Int) := ⟨(tw.tmod (na : Int)).toNat, by
      have := Int.tmod_nonneg (na : Int) htw0
      omega⟩
    have HQL := Lib.hid (show 0 < na → q < na from fun h0 => by
      have := Int.tmod_lt_of_pos tw (show (0 : Int) < (na : Int) by omega)
      omega)
    clear htw0
    have hn64 : IntKind.u64.wrap (na : Int) = (na : Int) := by rw [IntKind.wrap_u64]; omega
    go_loopw [61] (fun iv W => ∃ (i : Nat) (ut : Value) (ts : List Value), iv = .int .i64 (i : Int) ∧ i ≤ na ∧ Below w9.heap.size w9 W ∧ Blk W gt 24 #[ut] ∧ TurnAt W w9.heap.size ut (turnL m q i) ts) (fun iv _ => na - (Lib.intOf iv).toNat)
    case atStart => exact ⟨0, _, [], rfl, Nat.zero_le _, by rw [← HGT.out]; exact HT10.out.2, HT10.out.1, ⟨World.ownsRow_nil _ _ _ _, rfl, fun i b kv h => by cases h⟩⟩
    case round =>
      clear HT10 HB10
      obtain ⟨i, ut, ts, rfl, hi, hB, hG, hT⟩ := hrel
      have HB := Lib.hid hB
      have HGB := Lib.hid hG
      have HTU := Lib.hid hT
      obtain ⟨At, ct, eut, -, -, -⟩ := own_form hT.1
      have htl := turn_len m q i
      rw [htl] at eut
      subst eut
      clear hB hG hT
      by_cases hlt : i < na
      · have hql : q < na := HQL.out (by omega)
        have hq2 : (i : Int) < (na : Int) := by omega
        obtain ⟨k, hk⟩ : ∃ k, (i + q) % na = k := ⟨_, rfl⟩
        have hkl : k < na := by rw [← hk]; exact Nat.mod_lt _ (by omega)
        have hrem : ((i : Int) + (q : Int)).tmod (na : Int) = (k : Int) := by
          rw [← hk, ← Int.natCast_add]
          rfl
        have hna0 : ¬ na = 0 := by omega
        have hwq : IntKind.i64.wrap (q : Int) = (q : Int) := by rw [IntKind.wrap_i64]; omega
        have hwiq : IntKind.i64.wrap ((i : Int) + (q : Int)) = (i : Int) + (q : Int) := by rw [IntKind.wrap_i64]; omega
        obtain ⟨⟨nm, vl⟩, hb⟩ : ∃ b, m[k]? = some b := ⟨_, List.getElem?_eq_getElem (by rw [HNA.out]; exact hkl)⟩
        obtain ⟨kb, ko, Ak, ck, rfl, hfar⟩ := HFAR.out k _ hb
        obtain ⟨z0, z1, -⟩ := hfar wr HB.out
        have HBB := Lib.hid (show m[(i + q) % m.length]? = some (nm, vl) from by rw [HNA.out, hk]; exact hb)
        have HKV := Lib.hid (show ∀ W, Below w9.heap.size w9 W → KeysAt W W.heap.size (.slice Ak vl.length ck) vl from fun W hW => (hfar W hW).2.2)
        have hmk1 := HM.out.2.2 _ (List.mem_of_getElem? hb)
        simp only at z0 z1 hmk1
        obtain ⟨mk, hmk⟩ : ∃ mk, vl.length = mk := ⟨_, rfl⟩
        have HMK := Lib.hid hmk
        rw [hmk] at z1 HKV hmk1
        have hmk2 : (mk : Int) ≤ 30 := by omega
        have k0 := (HKP.out wr (HK9.out wr HB.out)).2.1
        have hkl2 : (k : Int) < (na : Int) := by omega
        have hqi : (q : Int) < (na : Int) := by omega
        clear hb hmk hfar hk
        go_upto_region 14 with (fail)
        refine wp_region_M (fun W => W.cell? ⟨h0, 0, none⟩ = some (.slice (some ⟨kb, ko, none⟩) na cu) ∧ W.cell? ⟨kb, ko + k * 2, none⟩ = some (.string nm) ∧ W.cell? ⟨kb, ko + k * 2 + 1, none⟩ = some (.slice Ak mk ck)) 19 (by kernel_rfl) (by go_keep) (fun hHeld => ?_)
        refine wpAnyM_take (i := 0) (d := (some 64)) (v := ?_) rfl rfl (by kernel_rfl) (by kernel_rfl) (by kernel_rfl) (by kernel_rfl) (by kernel_rfl) (fun _ _ _ h => h) (Or.inl ⟨by rfl, ?_⟩) (by assumption) ?_
        rotate_left
        · intro w hSw
          (try dsimp only at hSw)
          go_simp
          (try with_reducible rfl)
        (try simp only [Act.put, List.setIfInBounds_toArray, List.set_cons_zero, List.set_cons_succ])
        refine wpAnyM_take (i := 1) (d := (some 65)) (v := ?_) rfl rfl (by kernel_rfl) (by kernel_rfl) (by kernel_rfl) (by kernel_rfl) (by kernel_rfl) (fun _ _ _ h => h) (Or.inl ⟨by rfl, ?_⟩) (by assumption) ?_
        rotate_left
        · intro w hSw
          (try dsimp only at hSw)
          go_simp
          (try with_reducible rfl)
        (try simp only [Act.put, List.setIfInBounds_toArray, List.set_cons_zero, List.set_cons_succ])
        refine wpAnyM_take (i := 2) (d := (some 66)) (v := ?_) rfl rfl (by kernel_rfl) (by kernel_rfl) (by kernel_rfl) (by kernel_rfl) (by kernel_rfl) (fun _ _ _ h => h) (Or.inl ⟨by rfl, ?_⟩) (by assumption) ?_
        rotate_left
        · intro w hSw
          (try dsimp only at hSw)
          go_simp
          (try with_reducible rfl)
        (try simp only [Act.put, List.setIfInBounds_toArray, List.set_cons_zero, List.set_cons_succ])
        refine wpAnyM_take (i := 3) (d := (some 67)) (v := ?_) rfl rfl (by kernel_rfl) (by kernel_rfl) (by kernel_rfl) (by kernel_rfl) (by kernel_rfl) (fun _ _ _ h => h) (Or.inl ⟨by rfl, ?_⟩) (by assumption) ?_
        rotate_left
        · intro w hSw
          (try dsimp only at hSw)
          go_simp
          (try with_reducible rfl)
        (try simp only [Act.put, List.setIfInBounds_toArray, List.set_cons_zero, List.set_cons_succ])
        refine wpAnyM_take (i := 4) (d := (some 68)) (v := ?_) rfl rfl (by kernel_rfl) (by kernel_rfl) (by kernel_rfl) (by kernel_rfl) (by kernel_rfl) (fun _ _ _ h => h) (Or.inl ⟨by rfl, ?_⟩) (by assumption) ?_
        rotate_left
        · intro w hSw
          (try dsimp only at hSw)
          go_simp
          (try with_reducible rfl)
        (try simp only [Act.put, List.setIfInBounds_toArray, List.set_cons_zero, List.set_cons_succ])
        refine wpAnyM_take (i := 5) (d := (some 69)) (v := ?_) rfl rfl (by kernel_rfl) (by kernel_rfl) (by kernel_rfl) (by kernel_rfl) (by kernel_rfl) (fun _ _ _ h => h) (Or.inl ⟨by rfl, ?_⟩) (by assumption) ?_
        rotate_left
        · intro w hSw
          (try dsimp only at hSw)
          go_simp
          (try with_reducible rfl)
        (try simp only [Act.put, List.setIfInBounds_toArray, List.set_cons_zero, List.set_cons_succ])
        refine wpAnyM_take (i := 6) (d := (some 70)) (v := ?_) rfl rfl (by kernel_rfl) (by kernel_rfl) (by kernel_rfl) (by kernel_rfl) (by kernel_rfl) (fun _ _ _ h => h) (Or.inl ⟨by rfl, ?_⟩) (by assumption) ?_
        rotate_left
        · intro w hSw
          (try dsimp only at hSw)
          go_simp
          (try with_reducible rfl)
        (try simp only [Act.put, List.setIfInBounds_toArray, List.set_cons_zero, List.set_cons_succ])
        refine wpAnyM_take (i := 7) (d := (some 71)) (v := ?_) rfl rfl (by kernel_rfl) (by kernel_rfl) (by kernel_rfl) (by kernel_rfl) (by kernel_rfl) (fun _ _ _ h => h) (Or.inl ⟨by rfl, ?_⟩) (by assumption) ?_
        rotate_left
        · intro w hSw
          (try dsimp only at hSw)
          go_simp
          (try with_reducible rfl)
        (try simp only [Act.put, List.setIfInBounds_toArray, List.set_cons_zero, List.set_cons_succ])
        refine wpAnyM_take (i := 8) (d := (some 72)) (v := ?_) rfl rfl (by kernel_rfl) (by kernel_rfl) (by kernel_rfl) (by kernel_rfl) (by kernel_rfl) (fun _ _ _ h => h) (Or.inl ⟨by rfl, ?_⟩) (by assumption) ?_
        rotate_left
        · intro w hSw
          (try dsimp only at hSw)
          go_simp
          (try with_reducible rfl)
        (try simp only [Act.put, List.setIfInBounds_toArray, List.set_cons_zero, List.set_cons_succ])
        refine wpAnyM_take (i := 9) (d := (some 73)) (v := ?_) rfl rfl (by kernel_rfl) (by kernel_rfl) (by kernel_rfl) (by kernel_rfl) (by kernel_rfl) (fun _ _ _ h => h) (Or.inl ⟨by rfl, ?_⟩) (by assumption) ?_
        rotate_left
        · intro w hSw
          (try dsimp only at hSw)
          go_simp
          (try with_reducible rfl)
        (try simp only [Act.put, List.setIfInBounds_toArray, List.set_cons_zero, List.set_cons_succ])
        refine wpAnyM_take (i := 10) (d := (some 74)) (v := ?_) rfl rfl (by kernel_rfl) (by kernel_rfl) (by kernel_rfl) (by kernel_rfl) (by kernel_rfl) (fun _ _ _ h => h) (Or.inl ⟨by rfl, ?_⟩) (by assumption) ?_
        rotate_left
        · intro w hSw
          (try dsimp only at hSw)
          go_simp
          (try with_reducible rfl)
        (try simp only [Act.put, List.setIfInBounds_toArray, List.set_cons_zero, List.set_cons_succ])
        refine wpAnyM_take (i := 11) (d := (some 75)) (v := ?_) rfl rfl (by kernel_rfl) (by kernel_rfl) (by kernel_rfl) (by kernel_rfl) (by kernel_rfl) (fun _ _ _ h => h) (Or.inl ⟨by rfl, ?_⟩) (by assumption) ?_
        rotate_left
        · intro w hSw
          (try dsimp only at hSw)
          go_simp
          (try with_reducible rfl)
        (try simp only [Act.put, List.setIfInBounds_toArray, List.set_cons_zero, List.set_cons_succ])
        refine wpAnyM_take (i := 12) (d := (some 76)) (v := ?_) rfl rfl (by kernel_rfl) (by kernel_rfl) (by kernel_rfl) (by kernel_rfl) (by kernel_rfl) (fun _ _ _ h => h) (Or.inl ⟨by rfl, ?_⟩) (by assumption) ?_
        rotate_left
        · intro w hSw
          (try dsimp only at hSw)
          go_simp
          (try with_reducible rfl)
        (try simp only [Act.put, List.setIfInBounds_toArray, List.set_cons_zero, List.set_cons_succ])
        refine wpAnyM_take (i := 13) (d := (some 77)) (v := ?_) rfl rfl (by kernel_rfl) (by kernel_rfl) (by kernel_rfl) (by kernel_rfl) (by kernel_rfl) (fun _ _ _ h => h) (Or.inl ⟨by rfl, ?_⟩) (by assumption) ?_
        rotate_left
        · intro w hSw
          (try dsimp only at hSw)
          go_simp
          (try with_reducible rfl)
        (try simp only [Act.put, List.setIfInBounds_toArray, List.set_cons_zero, List.set_cons_succ])
        refine wpAnyM_take (i := 14) (d := (some 78)) (v := ?_) rfl rfl (by kernel_rfl) (by kernel_rfl) (by kernel_rfl) (by kernel_rfl) (by kernel_rfl) (fun _ _ _ h => h) (Or.inl ⟨by rfl, ?_⟩) (by assumption) ?_
        rotate_left
        · intro w hSw
          (try dsimp only at hSw)
          go_simp
          (try with_reducible rfl)
        (try simp only [Act.put, List.setIfInBounds_toArray, List.set_cons_zero, List.set_cons_succ])
        refine wpAnyM_take (i := 15) (d := (some 79)) (v := ?_) rfl rfl (by kernel_rfl) (by kernel_rfl) (by kernel_rfl) (by kernel_rfl) (by kernel_rfl) (fun _ _ _ h => h) (Or.inl ⟨by rfl, ?_⟩) (by assumption) ?_
        rotate_left
        · intro w hSw
          (try dsimp only at hSw)
          go_simp
          (try with_reducible rfl)
        (try simp only [Act.put, List.setIfInBounds_toArray, List.set_cons_zero, List.set_cons_succ])
        refine wpAnyM_take (i := 16) (d := (some 80)) (v := ?_) rfl rfl (by kernel_rfl) (by kernel_rfl) (by kernel_rfl) (by kernel_rfl) (by kernel_rfl) (fun _ _ _ h => h) (Or.inl ⟨by rfl, ?_⟩) (by assumption) ?_
        rotate_left
        · intro w hSw
          (try dsimp only at hSw)
          go_simp
          (try with_reducible rfl)
        (try simp only [Act.put, List.setIfInBounds_toArray, List.set_cons_zero, List.set_cons_succ])
        refine wpAnyM_take (i := 17) (d := (some 81)) (v := ?_) rfl rfl (by kernel_rfl) (by kernel_rfl) (by kernel_rfl) (by kernel_rfl) (by kernel_rfl) (fun _ _ _ h => h) (Or.inl ⟨by rfl, ?_⟩) (by assumption) ?_
        rotate_left
        · intro w hSw
          (try dsimp only at hSw)
          go_simp
          (try with_reducible rfl)
        (try simp only [Act.put, List.setIfInBounds_toArray, List.set_cons_zero, List.set_cons_succ])
        refine wpAnyM_one (i := 18) (by kernel_rfl) ?_
        refine owe_early (i := 18) (d := (some 11)) rfl rfl (fun K hK => ?_)
        go_simp
        refine hK.out _ _ (by go_keep) (fun hHeld => ?_)
        clear hK K
        (try simp only [Act.put, List.setIfInBounds_toArray, List.set_cons_zero, List.set_cons_succ])
        refine wpAnyM_one (i := 19) (by kernel_rfl) ?_
        refine owe_late (i := 19) (d := none) rfl rfl (by decide) (fun K hK => ?_)
        go_simp
        refine hK.out undef _ ?_
        clear hK K
        (try simp only [Act.put, List.setIfInBounds_toArray, List.set_cons_zero, List.set_cons_succ])
        refine wpAnyM_done (by kernel_rfl) ?_ _
        (try simp only [Act.put, List.setIfInBounds_toArray, List.set_cons_zero, List.set_cons_succ])
        have hba := ((Below.refl wr.heap.size wr).alloc (Nat.le_refl _) (.cells #[.string nm, .slice Ak mk ck] 56)).drew
        have HBK := Lib.hid (HB.out.trans (hba.mono HB.out.size))
        have HGK := Lib.hid (HGB.out.below hba HGB.out.lt)
        have HTK := Lib.hid (HTU.out.on hba)
        have HK := Lib.hid (show Blk ((wr.alloc (.cells #[.string nm, .slice Ak mk ck] 56)).drew) wr.heap.size 56 #[.string nm, .slice Ak mk ck] from Blk.new wr 56 #[.string nm, .slice Ak mk ck])
        have HRK := Lib.hid (show ∀ k, (Value.slice At (2 * i) ct).ownBlock = some k → k < wr.heap.size from fun k hk => (HTU.out.1.lt k hk).2)
        clear hba hHeld k0 z0 z1 HB HGB HTU
        generalize (wr.alloc (.cells #[.string nm, .slice Ak mk ck] 56)).drew = w14 at *
        obtain ⟨gk, hgk⟩ : ∃ gk, wr.heap.size = gk := ⟨_, rfl⟩
        rw [hgk] at HK HRK ⊢
        clear hgk
        have y1 : w14.cell? ⟨gk, 1, none⟩ = some (.slice Ak mk ck) := HK.out.cell 1
        go_wp2
        clear y1
        have HZ9 := Lib.hid HBK.out.size
        go_loopw [12, 85] (fun lv jv W => ∃ (j : Nat), jv = .int .i64 (j : Int) ∧ j ≤ mk ∧ Below w14.heap.size w14 W ∧ W.ownsRow w14.heap.size 59 2 lv j (pairCells (vl.reverse.take j)) ∧ (j = 0 → lv = .slice none 0 0)) (fun _ jv _ => mk - (Lib.intOf jv).toNat)
        case atStart => exact ⟨0, rfl, Nat.zero_le _, Below.refl _ _, World.ownsRow_nil _ _ _ _, fun _ => rfl⟩
        case round =>
          obtain ⟨j, rfl, hj, hB, hO, hN⟩ := hrel
          have HNI := Lib.hid hN
          clear hN
          have HB := Lib.hid hB
          obtain ⟨Al, cl, rfl, -, -, -⟩ := own_form hO
          have HO := Lib.hid hO
          clear hB hO
          by_cases hjm : j < mk
          · have hq3 : (j : Int) < (mk : Int) := by omega
            obtain ⟨p, hp⟩ : ∃ p, p = mk - 1 - j := ⟨_, rfl⟩
            have hpm : p < mk := by omega
            have hs1 : IntKind.i64.wrap ((mk : Int) - 1) = (mk : Int) - 1 := by rw [IntKind.wrap_i64]; omega
            have hs2 : IntKind.i64.wrap ((mk : Int) - 1 - (j : Int)) = (p : Int) := by rw [IntKind.wrap_i64]; omega
            obtain ⟨⟨xp, xt⟩, hx⟩ : ∃ x, vl[p]? = some x := ⟨_, List.getElem?_eq_getElem (by rw [HMK.out]; exact hpm)⟩
            have HRX := Lib.hid (show vl.reverse[j]? = some (xp, xt) from by
              rw [List.getElem?_reverse (by rw [HMK.out]; exact hjm), HMK.out, ← hp]
              exact hx)
            obtain ⟨bv, ov, rfl, hbv, z0, z1⟩ := keys_spot (HKV.out wr (HBK.out.trans (HB.out.mono HBK.out.size))) hx
            simp only at z0 z1
            have y1 : wr.cell? ⟨gk, 1, none⟩ = some (.slice (some ⟨bv, ov, none⟩) mk ck) := (HK.out.below HB.out HK.out.lt).cell 1
            have hpm2 : (p : Int) < (mk : Int) := by omega
            have hba := (Below.refl wr.heap.size wr).alloc (Nat.le_refl _) (.cells #[.string xp, .string xt] 59)
            have HBA := Lib.hid (HB.out.trans (hba.mono HB.out.size))
            have HOA := Lib.hid (own_more HO.out hba)
            have HRA := Lib.hid (reads_new wr #[.string xp, .string xt] 59 2 1 rfl)
            have HZA := Lib.hid HBA.out.size
            clear hp hx hba
            go_wp2_with (at_builtin; go_must (refine wpList_append_any _ rfl (.tmp 88) (.tmp 99) _ rfl w14.heap.size 59 i1 _ 2 32 Tryz.underlying54 hi1 hy0 hy1 hy2 rfl (by omega) _ j _ rfl HOA.out (wr.heap.size + 1) (some ⟨wr.heap.size, 0, none⟩) 1 1 [.string xp, .string xt] rfl HRA.out (by simp [Value.oneCell']) (by simp only [maxLen]; omega) (by omega) HZA.out ?_; intro v16 w16 hown16 hg16 hat16; have HB16 := Lib.hid (HBA.out.grown hg16 HBA.out.size (fun k hk => (HOA.out.lt k hk).1)); have HO16 := Lib.hid (show w16.ownsRow w14.heap.size 59 2 v16 (j + 1) (pairCells (vl.reverse.take (j + 1))) from by rw [List.take_add_one, HRX.out]; have h := hown16; simp only [pairCells] at h ⊢; rw [List.flatMap_append]; exact h); clear hown16 hg16 hat16))
            go_roundw
            case rel => exact ⟨j + 1, by go_num, hjm, HB16.out, HO16.out, fun e => absurd e (Nat.succ_ne_zero _)⟩
            case measure => simp [Lib.intOf]; omega
          · obtain rfl : mk = j := by omega
            have hq3 : ¬ (mk : Int) < (mk : Int) := by omega
            obtain ⟨h, hh⟩ : ∃ h, h = mk / 2 := ⟨_, rfl⟩
            have hhd : (mk : Int) / 2 = (h : Int) := by omega
            have HHH := Lib.hid hh
            have hhm : h ≤ mk := by omega
            have HOW := Lib.hid (show wr.ownsRow w9.heap.size 59 2 (.slice Al mk cl) mk (pairCells vl.reverse) from by
              have h := HO.out
              rw [List.take_of_length_le (l := vl.reverse) (by rw [List.length_reverse, HMK.out]; exact Nat.le_refl _)] at h
              exact own_base h HZ9.out)
            have HTW := Lib.hid (HTK.out.on HB.out)
            have HGW := Lib.hid (HGK.out.below HB.out HGK.out.lt)
            have HKW := Lib.hid (HK.out.below HB.out HK.out.lt)
            have HBW := Lib.hid (HBK.out.trans (HB.out.mono HBK.out.size))
            clear hh HO HB HTK HGK HK HBK
            go_upto_region 22 with (fail)
            have k0 : wr.cell? ⟨gt, 0, none⟩ = some (.slice At (2 * i) ct) := HGW.out.cell 0
            have k1 : wr.cell? ⟨gk, 0, none⟩ = some (.string nm) := HKW.out.cell 0
            by_cases hmz : mk = 0
            · have hnil := HNI.out hmz
              cases hnil
              clear hmz
              obtain rfl : h = 0 := by omega
              have HCV := Lib.hid (show CutIn wr w9.heap.size (.slice none 0 0) (vl.reverse.drop 0) ∧ CutIn wr w9.heap.size (.slice none 0 0) (vl.reverse.take 0) from by
                have e : vl = [] := List.eq_nil_of_length_eq_zero HMK.out
                rw [e]
                exact ⟨.inl ⟨rfl, rfl⟩, .inl ⟨rfl, rfl⟩⟩)
              have hba := ((Below.refl wr.heap.size wr).alloc (Nat.le_refl _) (.cells #[.string nm, .slice none 0 0, .string nm, .slice none 0 0] 56)).drew
              have HTA := Lib.hid (HTW.out.on hba)
              have HGA := Lib.hid (HGW.out.below hba HGW.out.lt)
              have HKA := Lib.hid (HKW.out.below hba HKW.out.lt)
              have HBA := Lib.hid (HBW.out.trans (hba.mono HBW.out.size))
              have HCA := Lib.hid (And.intro (HCV.out.1.on hba) (HCV.out.2.on hba))
              have HRA := Lib.hid ((reads_new wr #[.string nm, .slice none 0 0, .string nm, .slice none 0 0] 56 2 2 rfl).drew)
              have HOA := Lib.hid (show ((wr.alloc (.cells #[.string nm, .slice none 0 0, .string nm, .slice none 0 0] 56)).drew).ownsRow w9.heap.size 56 2 (.slice At (2 * i) ct) (2 * i) (stepCells (turnL m q i) ts) from by
                have h := HTA.out.1
                rw [turn_len] at h
                exact h)
              have HZA := Lib.hid HBA.out.size
              clear hba
              refine wp_region_M (fun W => W.cell? ⟨gt, 0, none⟩ = some (.slice At (2 * i) ct) ∧ W.cell? ⟨gk, 0, none⟩ = some (.string nm)) 17 (by kernel_rfl) (by go_keep) (fun hHeld => ?_)
              refine wpAnyM_take (i := 0) (d := (some 105)) (v := ?_) rfl rfl (by kernel_rfl) (by kernel_rfl) (by kernel_rfl) (by kernel_rfl) (by kernel_rfl) (fun _ _ _ h => h) (Or.inl ⟨by rfl, ?_⟩) (by assumption) ?_
              rotate_left
              · intro w hSw
                (try dsimp only at hSw)
                go_simp
                (try with_reducible rfl)
              (try simp only [Act.put, List.setIfInBounds_toArray, List.set_cons_zero, List.set_cons_succ])
              refine wpAnyM_take (i := 1) (d := (some 106)) (v := ?_) rfl rfl (by kernel_rfl) (by kernel_rfl) (by kernel_rfl) (by kernel_rfl) (by kernel_rfl) (fun _ _ _ h => h) (Or.inl ⟨by rfl, ?_⟩) (by assumption) ?_
              rotate_left
              · intro w hSw
                (try dsimp only at hSw)
                go_simp
                (try with_reducible rfl)
              (try simp only [Act.put, List.setIfInBounds_toArray, List.set_cons_zero, List.set_cons_succ])
              refine wpAnyM_take (i := 2) (d := (some 107)) (v := ?_) rfl rfl (by kernel_rfl) (by kernel_rfl) (by kernel_rfl) (by kernel_rfl) (by kernel_rfl) (fun _ _ _ h => h) (Or.inl ⟨by rfl, ?_⟩) (by assumption) ?_
              rotate_left
              · intro w hSw
                (try dsimp only at hSw)
                go_simp
                (try with_reducible rfl)
              (try simp only [Act.put, List.setIfInBounds_toArray, List.set_cons_zero, List.set_cons_succ])
              refine wpAnyM_take (i := 3) (d := (some 108)) (v := ?_) rfl rfl (by kernel_rfl) (by kernel_rfl) (by kernel_rfl) (by kernel_rfl) (by kernel_rfl) (fun _ _ _ h => h) (Or.inl ⟨by rfl, ?_⟩) (by assumption) ?_
              rotate_left
              · intro w hSw
                (try dsimp only at hSw)
                go_simp
                (try with_reducible rfl)
              (try simp only [Act.put, List.setIfInBounds_toArray, List.set_cons_zero, List.set_cons_succ])
              refine wpAnyM_take (i := 4) (d := (some 109)) (v := ?_) rfl rfl (by kernel_rfl) (by kernel_rfl) (by kernel_rfl) (by kernel_rfl) (by kernel_rfl) (fun _ _ _ h => h) (Or.inl ⟨by rfl, ?_⟩) (by assumption) ?_
              rotate_left
              · intro w hSw
                (try dsimp only at hSw)
                go_simp
                (try with_reducible rfl)
              (try simp only [Act.put, List.setIfInBounds_toArray, List.set_cons_zero, List.set_cons_succ])
              refine wpAnyM_take (i := 5) (d := (some 110)) (v := ?_) rfl rfl (by kernel_rfl) (by kernel_rfl) (by kernel_rfl) (by kernel_rfl) (by kernel_rfl) (fun _ _ _ h => h) (Or.inl ⟨by rfl, ?_⟩) (by assumption) ?_
              rotate_left
              · intro w hSw
                (try dsimp only at hSw)
                go_simp
                (try with_reducible rfl)
              (try simp only [Act.put, List.setIfInBounds_toArray, List.set_cons_zero, List.set_cons_succ])
              refine wpAnyM_take (i := 6) (d := (some 111)) (v := ?_) rfl rfl (by kernel_rfl) (by kernel_rfl) (by kernel_rfl) (by kernel_rfl) (by kernel_rfl) (fun _ _ _ h => h) (Or.inl ⟨by rfl, ?_⟩) (by assumption) ?_
              rotate_left
              · intro w hSw
                (try dsimp only at hSw)
                go_simp
                (try with_reducible rfl)
              (try simp only [Act.put, List.setIfInBounds_toArray, List.set_cons_zero, List.set_cons_succ])
              refine wpAnyM_take (i := 7) (d := (some 112)) (v := ?_) rfl rfl (by kernel_rfl) (by kernel_rfl) (by kernel_rfl) (by kernel_rfl) (by kernel_rfl) (fun _ _ _ h => h) (Or.inl ⟨by rfl, ?_⟩) (by assumption) ?_
              rotate_left
              · intro w hSw
                (try dsimp only at hSw)
                go_simp
                (try with_reducible rfl)
              (try simp only [Act.put, List.setIfInBounds_toArray, List.set_cons_zero, List.set_cons_succ])
              refine wpAnyM_take (i := 8) (d := (some 113)) (v := ?_) rfl rfl (by kernel_rfl) (by kernel_rfl) (by kernel_rfl) (by kernel_rfl) (by kernel_rfl) (fun _ _ _ h => h) (Or.inl ⟨by rfl, ?_⟩) (by assumption) ?_
              rotate_left
              · intro w hSw
                (try dsimp only at hSw)
                go_simp
                (try with_reducible rfl)
              (try simp only [Act.put, List.setIfInBounds_toArray, List.set_cons_zero, List.set_cons_succ])
              refine wpAnyM_take (i := 9) (d := (some 114)) (v := ?_) rfl rfl (by kernel_rfl) (by kernel_rfl) (by kernel_rfl) (by kernel_rfl) (by kernel_rfl) (fun _ _ _ h => h) (Or.inl ⟨by rfl, ?_⟩) (by assumption) ?_
              rotate_left
              · intro w hSw
                (try dsimp only at hSw)
                go_simp
                (try with_reducible rfl)
              (try simp only [Act.put, List.setIfInBounds_toArray, List.set_cons_zero, List.set_cons_succ])
              refine wpAnyM_take (i := 10) (d := (some 115)) (v := ?_) rfl rfl (by kernel_rfl) (by kernel_rfl) (by kernel_rfl) (by kernel_rfl) (by kernel_rfl) (fun _ _ _ h => h) (Or.inl ⟨by rfl, ?_⟩) (by assumption) ?_
              rotate_left
              · intro w hSw
                (try dsimp only at hSw)
                go_simp
                (try with_reducible rfl)
              (try simp only [Act.put, List.setIfInBounds_toArray, List.set_cons_zero, List.set_cons_succ])
              refine wpAnyM_take (i := 11) (d := (some 116)) (v := ?_) rfl rfl (by kernel_rfl) (by kernel_rfl) (by kernel_rfl) (by kernel_rfl) (by kernel_rfl) (fun _ _ _ h => h) (Or.inl ⟨by rfl, ?_⟩) (by assumption) ?_
              rotate_left
              · intro w hSw
                (try dsimp only at hSw)
                go_simp
                (try with_reducible rfl)
              (try simp only [Act.put, List.setIfInBounds_toArray, List.set_cons_zero, List.set_cons_succ])
              refine wpAnyM_take (i := 12) (d := (some 117)) (v := ?_) rfl rfl (by kernel_rfl) (by kernel_rfl) (by kernel_rfl) (by kernel_rfl) (by kernel_rfl) (fun _ _ _ h => h) (Or.inl ⟨by rfl, ?_⟩) (by assumption) ?_
              rotate_left
              · intro w hSw
                (try dsimp only at hSw)
                go_simp
                (try with_reducible rfl)
              (try simp only [Act.put, List.setIfInBounds_toArray, List.set_cons_zero, List.set_cons_succ])
              refine wpAnyM_take (i := 13) (d := (some 118)) (v := ?_) rfl rfl (by kernel_rfl) (by kernel_rfl) (by kernel_rfl) (by kernel_rfl) (by kernel_rfl) (fun _ _ _ h => h) (Or.inl ⟨by rfl, ?_⟩) (by assumption) ?_
              rotate_left
              · intro w hSw
                (try dsimp only at hSw)
                go_simp
                (try with_reducible rfl)
              (try simp only [Act.put, List.setIfInBounds_toArray, List.set_cons_zero, List.set_cons_succ])
              refine wpAnyM_one (i := 14) (by kernel_rfl) ?_
              refine owe_early (i := 14) (d := (some 119)) rfl rfl (fun K hK => ?_)
              go_simp
              refine hK.out _ _ (by go_keep) (fun hHeld => ?_)
              clear hK K
              (try simp only [Act.put, List.setIfInBounds_toArray, List.set_cons_zero, List.set_cons_succ])
              refine wpAnyM_one (i := 15) (by kernel_rfl) ?_
              refine owe_early (i := 15) (d := (some 120)) rfl rfl (fun K hK => ?_)
              refine step_append_any (by rfl) (.tmp 106) (.tmp 119) 22 (by rfl) w9.heap.size 56 i2 _ 2 40 Tryz.underlying22 hi2 hx0 hx1 hx2 rfl (by omega) (.slice At (2 * i) ct) (2 * i) (stepCells (turnL m q i) ts) (by rfl) HOA.out (wr.heap.size + 1) (some ⟨wr.heap.size, 0, none⟩) 2 2 [.string nm, .slice none 0 0, .string nm, .slice none 0 0] (by rfl) HRA.out (by simp [Value.oneCell']) (by simp only [maxLen]; omega) (by omega) HZA.out ?_
              intro v23 w23 hown23 hg23 hat23
              obtain ⟨A23, c23, rfl, -, -, -⟩ := own_form hown23
              have HT23 := Lib.hid (HTA.out.push (a := (nm, vl.reverse.drop 0)) (b := (nm, vl.reverse.take 0)) (turn_len m q i) HCA.out.1 HCA.out.2 hown23 hg23)
              have HG23 := Lib.hid (blk_stays HGA.out HOA.out (by decide) hg23)
              have HB23 := Lib.hid (HBA.out.grown hg23 HBA.out.size (fun k hk => (HOA.out.lt k hk).1))
              have q0 : w23.cell? ⟨gt, 0, none⟩ = some (.slice At (2 * i) ct) := HG23.out.cell 0
              have q1 : w23.frozen? ⟨gt, 0, none⟩ = false := HG23.out.frozen 0
              have q2 : w23.cell? ⟨gk, 0, none⟩ = some (.string nm) := (HKA.out.grown hg23 (fun e => absurd (HRK.out gk e.symm) (Nat.lt_irrefl _))).cell 0
              clear hown23 hg23 hat23
              refine hK.out _ _ (by go_keep) (fun hHeld => ?_)
              clear hK K
              (try simp only [Act.put, List.setIfInBounds_toArray, List.set_cons_zero, List.set_cons_succ])
              refine wpAnyM_take (i := 16) (d := (some 121)) (v := ?_) rfl rfl (by kernel_rfl) (by kernel_rfl) (by kernel_rfl) (by kernel_rfl) (by kernel_rfl) (fun _ _ _ h => h) (Or.inl ⟨by rfl, ?_⟩) (by assumption) ?_
              rotate_left
              · intro w hSw
                (try dsimp only at hSw)
                go_simp
                (try with_reducible rfl)
              (try simp only [Act.put, List.setIfInBounds_toArray, List.set_cons_zero, List.set_cons_succ])
              refine wpAnyM_one (i := 17) (by kernel_rfl) ?_
              refine owe_late (i := 17) (d := none) rfl rfl (by decide) (fun K hK => ?_)
              go_simp
              refine hK.out undef _ ?_
              clear hK K
              (try simp only [Act.put, List.setIfInBounds_toArray, List.set_cons_zero, List.set_cons_succ])
              refine wpAnyM_done (by kernel_rfl) ?_ _
              (try simp only [Act.put, List.setIfInBounds_toArray, List.set_cons_zero, List.set_cons_succ])
              go_wp2
              go_roundw
              case rel => exact ⟨i + 1, _, _, by go_num, hlt, HB23.out.setCell (by rw [HGT.out]; exact Nat.le_refl _) _, HG23.out.set_ 0 _, by
                rw [turn_next HBB.out]
                have h := tu_set (u := .slice A23 (2 * i + 2) c23) HG23.out HT23.out
                unfold turnB
                simp only
                rw [HMK.out]
                exact h⟩
              case measure => simp [Lib.intOf]; omega
            · obtain ⟨g, c9, hgv, -, -⟩ := own_head HOW.out (by omega) HOW.out.1
              cases hgv
              obtain ⟨_, _, e9, hcap1, hcap2, -⟩ := own_form HOW.out
              cases e9
              unfold maxLen at hcap2
              have hclh : ¬ cl = h := by omega
              have hch : (h : Int) ≤ (cl : Int) := by omega
              have hhm2 : (h : Int) ≤ (mk : Int) := by omega
              have hml : (mk : Int) ≤ (cl : Int) := by omega
              have HCV := Lib.hid (show CutIn wr w9.heap.size (.slice (some ⟨g, h * 2, none⟩) (mk - h) (cl - h)) (vl.reverse.drop h) ∧ CutIn wr w9.heap.size (.slice (some ⟨g, 0, none⟩) h cl) (vl.reverse.take h) from
                ⟨.inr ⟨g, mk, cl, h, vl.reverse, HOW.out, by rw [List.length_reverse]; exact HMK.out, hhm, .inl ⟨rfl, rfl⟩⟩, .inr ⟨g, mk, cl, h, vl.reverse, HOW.out, by rw [List.length_reverse]; exact HMK.out, hhm, .inr ⟨rfl, rfl⟩⟩⟩)
              have hba := ((Below.refl wr.heap.size wr).alloc (Nat.le_refl _) (.cells #[.string nm, .slice (some ⟨g, h * 2, none⟩) (mk - h) (cl - h), .string nm, .slice (some ⟨g, 0, none⟩) h cl] 56)).drew
              have HTA := Lib.hid (HTW.out.on hba)
              have HGA := Lib.hid (HGW.out.below hba HGW.out.lt)
              have HKA := Lib.hid (HKW.out.below hba HKW.out.lt)
              have HBA := Lib.hid (HBW.out.trans (hba.mono HBW.out.size))
              have HCA := Lib.hid (And.intro (HCV.out.1.on hba) (HCV.out.2.on hba))
              have HRA := Lib.hid ((reads_new wr #[.string nm, .slice (some ⟨g, h * 2, none⟩) (mk - h) (cl - h), .string nm, .slice (some ⟨g, 0, none⟩) h cl] 56 2 2 rfl).drew)
              have HOA := Lib.hid (show ((wr.alloc (.cells #[.string nm, .slice (some ⟨g, h * 2, none⟩) (mk - h) (cl - h), .string nm, .slice (some ⟨g, 0, none⟩) h cl] 56)).drew).ownsRow w9.heap.size 56 2 (.slice At (2 * i) ct) (2 * i) (stepCells (turnL m q i) ts) from by
                have h := HTA.out.1
                rw [turn_len] at h
                exact h)
              have HZA := Lib.hid HBA.out.size
              clear hba
              refine wp_region_M (fun W => W.cell? ⟨gt, 0, none⟩ = some (.slice At (2 * i) ct) ∧ W.cell? ⟨gk, 0, none⟩ = some (.string nm)) 17 (by kernel_rfl) (by go_keep) (fun hHeld => ?_)
              refine wpAnyM_take (i := 0) (d := (some 105)) (v := ?_) rfl rfl (by kernel_rfl) (by kernel_rfl) (by kernel_rfl) (by kernel_rfl) (by kernel_rfl) (fun _ _ _ h => h) (Or.inl ⟨by rfl, ?_⟩) (by assumption) ?_
              rotate_left
              · intro w hSw
                (try dsimp only at hSw)
                go_simp
                (try with_reducible rfl)
              (try simp only [Act.put, List.setIfInBounds_toArray, List.set_cons_zero, List.set_cons_succ])
              refine wpAnyM_take (i := 1) (d := (some 106)) (v := ?_) rfl rfl (by kernel_rfl) (by kernel_rfl) (by kernel_rfl) (by kernel_rfl) (by kernel_rfl) (fun _ _ _ h => h) (Or.inl ⟨by rfl, ?_⟩) (by assumption) ?_
              rotate_left
              · intro w hSw
                (try dsimp only at hSw)
                go_simp
                (try with_reducible rfl)
              (try simp only [Act.put, List.setIfInBounds_toArray, List.set_cons_zero, List.set_cons_succ])
              refine wpAnyM_take (i := 2) (d := (some 107)) (v := ?_) rfl rfl (by kernel_rfl) (by kernel_rfl) (by kernel_rfl) (by kernel_rfl) (by kernel_rfl) (fun _ _ _ h => h) (Or.inl ⟨by rfl, ?_⟩) (by assumption) ?_
              rotate_left
              · intro w hSw
                (try dsimp only at hSw)
                go_simp
                (try with_reducible rfl)
              (try simp only [Act.put, List.setIfInBounds_toArray, List.set_cons_zero, List.set_cons_succ])
              refine wpAnyM_take (i := 3) (d := (some 108)) (v := ?_) rfl rfl (by kernel_rfl) (by kernel_rfl) (by kernel_rfl) (by kernel_rfl) (by kernel_rfl) (fun _ _ _ h => h) (Or.inl ⟨by rfl, ?_⟩) (by assumption) ?_
              rotate_left
              · intro w hSw
                (try dsimp only at hSw)
                go_simp
                (try with_reducible rfl)
              (try simp only [Act.put, List.setIfInBounds_toArray, List.set_cons_zero, List.set_cons_succ])
              refine wpAnyM_take (i := 4) (d := (some 109)) (v := ?_) rfl rfl (by kernel_rfl) (by kernel_rfl) (by kernel_rfl) (by kernel_rfl) (by kernel_rfl) (fun _ _ _ h => h) (Or.inl ⟨by rfl, ?_⟩) (by assumption) ?_
              rotate_left
              · intro w hSw
                (try dsimp only at hSw)
                go_simp
                (try with_reducible rfl)
              (try simp only [Act.put, List.setIfInBounds_toArray, List.set_cons_zero, List.set_cons_succ])
              refine wpAnyM_take (i := 5) (d := (some 110)) (v := ?_) rfl rfl (by kernel_rfl) (by kernel_rfl) (by kernel_rfl) (by kernel_rfl) (by kernel_rfl) (fun _ _ _ h => h) (Or.inl ⟨by rfl, ?_⟩) (by assumption) ?_
              rotate_left
              · intro w hSw
                (try dsimp only at hSw)
                go_simp
                (try with_reducible rfl)
              (try simp only [Act.put, List.setIfInBounds_toArray, List.set_cons_zero, List.set_cons_succ])
              refine wpAnyM_take (i := 6) (d := (some 111)) (v := ?_) rfl rfl (by kernel_rfl) (by kernel_rfl) (by kernel_rfl) (by kernel_rfl) (by kernel_rfl) (fun _ _ _ h => h) (Or.inl ⟨by rfl, ?_⟩) (by assumption) ?_
              rotate_left
              · intro w hSw
                (try dsimp only at hSw)
                go_simp
                (try with_reducible rfl)
              (try simp only [Act.put, List.setIfInBounds_toArray, List.set_cons_zero, List.set_cons_succ])
              refine wpAnyM_take (i := 7) (d := (some 112)) (v := ?_) rfl rfl (by kernel_rfl) (by kernel_rfl) (by kernel_rfl) (by kernel_rfl) (by kernel_rfl) (fun _ _ _ h => h) (Or.inl ⟨by rfl, ?_⟩) (by assumption) ?_
              rotate_left
              · intro w hSw
                (try dsimp only at hSw)
                go_simp
                (try with_reducible rfl)
              (try simp only [Act.put, List.setIfInBounds_toArray, List.set_cons_zero, List.set_cons_succ])
              refine wpAnyM_take (i := 8) (d := (some 113)) (v := ?_) rfl rfl (by kernel_rfl) (by kernel_rfl) (by kernel_rfl) (by kernel_rfl) (by kernel_rfl) (fun _ _ _ h => h) (Or.inl ⟨by rfl, ?_⟩) (by assumption) ?_
              rotate_left
              · intro w hSw
                (try dsimp only at hSw)
                go_simp
                (try with_reducible rfl)
              (try simp only [Act.put, List.setIfInBounds_toArray, List.set_cons_zero, List.set_cons_succ])
              refine wpAnyM_take (i := 9) (d := (some 114)) (v := ?_) rfl rfl (by kernel_rfl) (by kernel_rfl) (by kernel_rfl) (by kernel_rfl) (by kernel_rfl) (fun _ _ _ h => h) (Or.inl ⟨by rfl, ?_⟩) (by assumption) ?_
              rotate_left
              · intro w hSw
                (try dsimp only at hSw)
                go_simp
                (try with_reducible rfl)
              (try simp only [Act.put, List.setIfInBounds_toArray, List.set_cons_zero, List.set_cons_succ])
              refine wpAnyM_take (i := 10) (d := (some 115)) (v := ?_) rfl rfl (by kernel_rfl) (by kernel_rfl) (by kernel_rfl) (by kernel_rfl) (by kernel_rfl) (fun _ _ _ h => h) (Or.inl ⟨by rfl, ?_⟩) (by assumption) ?_
              rotate_left
              · intro w hSw
                (try dsimp only at hSw)
                go_simp
                (try with_reducible rfl)
              (try simp only [Act.put, List.setIfInBounds_toArray, List.set_cons_zero, List.set_cons_succ])
              refine wpAnyM_take (i := 11) (d := (some 116)) (v := ?_) rfl rfl (by kernel_rfl) (by kernel_rfl) (by kernel_rfl) (by kernel_rfl) (by kernel_rfl) (fun _ _ _ h => h) (Or.inl ⟨by rfl, ?_⟩) (by assumption) ?_
              rotate_left
              · intro w hSw
                (try dsimp only at hSw)
                go_simp
                (try with_reducible rfl)
              (try simp only [Act.put, List.setIfInBounds_toArray, List.set_cons_zero, List.set_cons_succ])
              refine wpAnyM_take (i := 12) (d := (some 117)) (v := ?_) rfl rfl (by kernel_rfl) (by kernel_rfl) (by kernel_rfl) (by kernel_rfl) (by kernel_rfl) (fun _ _ _ h => h) (Or.inl ⟨by rfl, ?_⟩) (by assumption) ?_
              rotate_left
              · intro w hSw
                (try dsimp only at hSw)
                go_simp
                (try with_reducible rfl)
              (try simp only [Act.put, List.setIfInBounds_toArray, List.set_cons_zero, List.set_cons_succ])
              refine wpAnyM_take (i := 13) (d := (some 118)) (v := ?_) rfl rfl (by kernel_rfl) (by kernel_rfl) (by kernel_rfl) (by kernel_rfl) (by kernel_rfl) (fun _ _ _ h => h) (Or.inl ⟨by rfl, ?_⟩) (by assumption) ?_
              rotate_left
              · intro w hSw
                (try dsimp only at hSw)
                go_simp
                (try with_reducible rfl)
              (try simp only [Act.put, List.setIfInBounds_toArray, List.set_cons_zero, List.set_cons_succ])
              refine wpAnyM_one (i := 14) (by kernel_rfl) ?_
              refine owe_early (i := 14) (d := (some 119)) rfl rfl (fun K hK => ?_)
              go_simp
              refine hK.out _ _ (by go_keep) (fun hHeld => ?_)
              clear hK K
              (try simp only [Act.put, List.setIfInBounds_toArray, List.set_cons_zero, List.set_cons_succ])
              refine wpAnyM_one (i := 15) (by kernel_rfl) ?_
              refine owe_early (i := 15) (d := (some 120)) rfl rfl (fun K hK => ?_)
              refine step_append_any (by rfl) (.tmp 106) (.tmp 119) 22 (by rfl) w9.heap.size 56 i2 _ 2 40 Tryz.underlying22 hi2 hx0 hx1 hx2 rfl (by omega) (.slice At (2 * i) ct) (2 * i) (stepCells (turnL m q i) ts) (by rfl) HOA.out (wr.heap.size + 1) (some ⟨wr.heap.size, 0, none⟩) 2 2 [.string nm, .slice (some ⟨g, h * 2, none⟩) (mk - h) (cl - h), .string nm, .slice (some ⟨g, 0, none⟩) h cl] (by rfl) HRA.out (by simp [Value.oneCell']) (by simp only [maxLen]; omega) (by omega) HZA.out ?_
              intro v23 w23 hown23 hg23 hat23
              obtain ⟨A23, c23, rfl, -, -, -⟩ := own_form hown23
              have HT23 := Lib.hid (HTA.out.push (a := (nm, vl.reverse.drop h)) (b := (nm, vl.reverse.take h)) (turn_len m q i) HCA.out.1 HCA.out.2 hown23 hg23)
              have HG23 := Lib.hid (blk_stays HGA.out HOA.out (by decide) hg23)
              have HB23 := Lib.hid (HBA.out.grown hg23 HBA.out.size (fun k hk => (HOA.out.lt k hk).1))
              have q0 : w23.cell? ⟨gt, 0, none⟩ = some (.slice At (2 * i) ct) := HG23.out.cell 0
              have q1 : w23.frozen? ⟨gt, 0, none⟩ = false := HG23.out.frozen 0
              have q2 : w23.cell? ⟨gk, 0, none⟩ = some (.string nm) := (HKA.out.grown hg23 (fun e => absurd (HRK.out gk e.symm) (Nat.lt_irrefl _))).cell 0
              clear hown23 hg23 hat23
              refine hK.out _ _ (by go_keep) (fun hHeld => ?_)
              clear hK K
              (try simp only [Act.put, List.setIfInBounds_toArray, List.set_cons_zero, List.set_cons_succ])
              refine wpAnyM_take (i := 16) (d := (some 121)) (v := ?_) rfl rfl (by kernel_rfl) (by kernel_rfl) (by kernel_rfl) (by kernel_rfl) (by kernel_rfl) (fun _ _ _ h => h) (Or.inl ⟨by rfl, ?_⟩) (by assumption) ?_
              rotate_left
              · intro w hSw
                (try dsimp only at hSw)
                go_simp
                (try with_reducible rfl)
              (try simp only [Act.put, List.setIfInBounds_toArray, List.set_cons_zero, List.set_cons_succ])
              refine wpAnyM_one (i := 17) (by kernel_rfl) ?_
              refine owe_late (i := 17) (d := none) rfl rfl (by decide) (fun K hK => ?_)
              go_simp
              refine hK.out undef _ ?_
              clear hK K
              (try simp only [Act.put, List.setIfInBounds_toArray, List.set_cons_zero, List.set_cons_succ])
              refine wpAnyM_done (by kernel_rfl) ?_ _
              (try simp only [Act.put, List.setIfInBounds_toArray, List.set_cons_zero, List.set_cons_succ])
              go_wp2
              go_roundw
              case rel => exact ⟨i + 1, _, _, by go_num, hlt, HB23.out.setCell (by rw [HGT.out]; exact Nat.le_refl _) _, HG23.out.set_ 0 _, by
                rw [turn_next HBB.out]
                have h := tu_set (u := .slice A23 (2 * i + 2) c23) HG23.out HT23.out
                unfold turnB
                simp only
                rw [HMK.out, ← HHH.out]
                exact h⟩
              case measure => simp [Lib.intOf]; omega
      · obtain rfl : na = i := by omega
        have hq2 : ¬ (na : Int) < (na : Int) := by omega
        have HSM := Lib.hid (show SaySame m (turnL m q na) from by
          rcases hq0 with h0 | h0
          · have h1 := HQL.out h0
            rw [← HNA.out] at h1 ⊢
            exact turn_same h1
          · have e : m = [] := List.eq_nil_of_length_eq_zero (by rw [HNA.out]; exact h0)
            subst h0
            rw [e]
            exact ⟨fun n => Iff.rfl, fun n v => Iff.rfl⟩)
        have HTS := Lib.hid (show SrtIn (turnL m q na) from turn_srt HSR.out HM.out.2.2 (by rw [HNA.out]) (fun h => by have := HQL.out (by rw [HNA.out] at h; exact h); rw [HNA.out]; exact this) (by have := HM.out.2.1; omega))
        obtain ⟨T, hT⟩ : ∃ T, turnL m q na = T := ⟨_, rfl⟩
        rw [hT] at HTU HSM HTS
        rw [hT] at htl
        have HST := Lib.hid (bsort_any (.slice At (2 * na) ct) T ts wr HTU.out.steps HTS.out)
        have k3 : wr.cell? ⟨gt, 0, none⟩ = some (.slice At (2 * na) ct) := HGB.out.cell 0
        clear hT
        go_wp2_with fail
        refine HST.out.mono ?_
        rintro en w24 ⟨⟨uy0, ry, rsy, ey, ay, rfl, hsi, hor⟩, hb24⟩
        obtain ⟨er, rfl, rfl⟩ := sort_same HSM.out HSI.out hsi
        subst er
        obtain ⟨Ay, cy, rfl, -, -, -⟩ := own_form hor.1
        rw [HNR.out] at hor ⊢
        have HB24 := Lib.hid (HB.out.trans (hb24.mono HB.out.size))
        have HOY := Lib.hid hor
        have HB5Z := Lib.hid (HK9.out _ HB24.out)
        have HF24 := Lib.hid (HTV.out.2.2.below HB5Z.out HTV.out.2.2.lt)
        have hgl : g1 + 1 < w24.heap.size := HF24.out.lt
        clear hor hb24 k3
        have f0 : w24.cell? ⟨g1 + 1, 0, none⟩ = some (.int .i64 0) := HF24.out.cell 0
        have f1 : w24.cell? ⟨g1 + 1, 1, none⟩ = some (.int .i64 a1) := HF24.out.cell 1
        have f2 : w24.frozen? ⟨g1 + 1, 0, none⟩ = false := HF24.out.frozen 0
        have f3 : w24.frozen? ⟨g1 + 1, 1, none⟩ = false := HF24.out.frozen 1
        have HW := Lib.hid (show Below w5.heap.size w5 w24 ∧ Blk w24 g1 24 #[.slice Ar nr cr] ∧ BunOwn w24 w3.heap.size (.slice Ar nr cr) ry rs from ⟨HB5Z.out, HTV.out.2.1.below HB5Z.out HTV.out.2.1.lt, HO5B.out.on HB5Z.out⟩)
        have HG3 := Lib.hid (show w3.heap.size ≤ g1 from by have := HB4Z.out; omega)
        have HZ := Lib.hid (order_set (x0 := .int .i64 0) (x1 := .int .i64 a1) HB5.out HG3.out HW.out.1 HF24.out HW.out.2.1 HW.out.2.2 HOY.out)
        go_upto_region 25 with (fail)
        clear f0 f1 f2 f3
        generalize ((w24.setCell ⟨g1 + 1, 0, none⟩ (.int .i64 0)).setCell ⟨g1 + 1, 1, none⟩ (.int .i64 0)).alloc (.cells #[.slice Ay nr cy] 24) = w25 at *
        obtain ⟨gy, hgy⟩ : ∃ gy, w24.heap.size = gy := ⟨_, rfl⟩
        rw [hgy] at HZ ⊢
        clear hgy
        have HKZ := Lib.hid (show ∀ W, Below w25.heap.size w25 W → Below w3.heap.size w3 W ∧ W.cell? ⟨h0, 0, none⟩ = some (.slice Au na cu) ∧ W.cell? ⟨g1, 0, none⟩ = some (.slice Ar nr cr) ∧ StepsR W (.slice Ar nr cr) ry rs from fun W hW => by
          have hb := HZ.out.1.trans (hW.mono HZ.out.1.size)
          exact ⟨hb, (HX3.out.2.1.below hb HX3.out.2.1.lt).cell 0, (HZ.out.2.1.below hW HZ.out.2.1.lt).cell 0, HZ.out.2.2.2.2.1.more hW⟩)
        obtain ⟨-, k0, k1, hsr⟩ := HKZ.out w25 (Below.refl _ _)
        have y0 : w25.cell? ⟨gy, 0, none⟩ = some (.slice Ay nr cy) := HZ.out.2.2.2.1.cell 0
        have y1 : w25.cell? ⟨g1 + 1, 0, none⟩ = some (.int .i64 0) := HZ.out.2.2.1.cell 0
        have HSY := Lib.hid (show Calls Tryz.prog 13 #[.agg #[.slice Ar nr cr], .agg #[.slice Ay nr cy]] w25 (fun e w' => e = .returned (.bool true) ∧ Below w25.heap.size w25 w') from by
          have := bsame_any (.slice Ar nr cr) (.slice Ay nr cy) ry ry rs rsy w25 hsr HZ.out.2.2.2.2.2
          exact this.mono fun e w' h => ⟨by rw [h.1, decide_eq_true (rfl : ry = ry)], h.2⟩)
        clear hsr
        go_upto_region 27 with (go_at_call 13; go_must (refine HSY.out.mono ?_; rintro en w26 ⟨rfl, hb26⟩; have HB26 := Lib.hid hb26; clear hb26 k0 k1 y0 y1))
        obtain ⟨-, k0, k1, -⟩ := HKZ.out w26 HB26.out
        go_wp2
        clear k0 k1
        have HFAM := Lib.hid (fun (i : Nat) (b : PStep) (hb : m[i]? = some b) => books_far HX3.out.2.2 hb)
        have HGET := Lib.hid (show ∀ (b : PStep) (x : PKey), b ∈ m → x ∈ b.2 → getB ry b.1 x.1 = (x.2, true) from fun b x hb hx => by rw [HG.out.2.2]; exact get_sorted HG.out.1 hb hx)
        go_loopw [140] (fun iv W => ∃ (i : Nat), iv = .int .i64 (i : Int) ∧ i ≤ na ∧ Below w25.heap.size w25 W) (fun iv _ => na - (Lib.intOf iv).toNat)
        case atStart => exact ⟨0, rfl, Nat.zero_le _, HB26.out⟩
        case round =>
          clear HB26
          obtain ⟨i, rfl, hi, hB⟩ := hrel
          have HB := Lib.hid hB
          clear hB
          by_cases hlt : i < na
          · have hq3 : (i : Int) < (na : Int) := by omega
            obtain ⟨⟨nm, vl⟩, hb⟩ : ∃ b, m[i]? = some b := ⟨_, List.getElem?_eq_getElem (by rw [HNA.out]; exact hlt)⟩
            obtain ⟨kb, ko, Ak, ck, rfl, hfar⟩ := HFAM.out i _ hb
            obtain ⟨z0, z1, -⟩ := hfar wr (HKZ.out wr HB.out).1
            have HBB := Lib.hid (List.mem_of_getElem? hb)
            have HKV := Lib.hid (show ∀ W, Below w25.heap.size w25 W → KeysAt W W.heap.size (.slice Ak vl.length ck) vl from fun W hW => (hfar W (HKZ.out W hW).1).2.2)
            have hmk1 := HM.out.2.2 _ HBB.out
            simp only at z0 z1 hmk1
            obtain ⟨mk, hmk⟩ : ∃ mk, vl.length = mk := ⟨_, rfl⟩
            have HMK := Lib.hid hmk
            rw [hmk] at z1 HKV hmk1
            have hmk2 : (mk : Int) ≤ 30 := by omega
            have hba := (Below.refl wr.heap.size wr).alloc (Nat.le_refl _) (.cells #[.string nm, .slice Ak mk ck] 56)
            have HBA := Lib.hid (HB.out.trans (hba.mono HB.out.size))
            have HK := Lib.hid (Blk.new wr 56 #[.string nm, .slice Ak mk ck])
            clear hb hmk hfar hba
            go_upto_region 30 with (fail)
            clear z0 z1 HB
            generalize wr.alloc (.cells #[.string nm, .slice Ak mk ck] 56) = w27 at *
            obtain ⟨gk, hgk⟩ : ∃ gk, wr.heap.size = gk := ⟨_, rfl⟩
            rw [hgk] at HK ⊢
            clear hgk
            have y1 : w27.cell? ⟨gk, 1, none⟩ = some (.slice Ak mk ck) := HK.out.cell 1
            go_wp2
            clear y1
            go_loopw [147] (fun jv W => ∃ (j : Nat), jv = .int .i64 (j : Int) ∧ j ≤ mk ∧ Below w27.heap.size w27 W) (fun jv _ => mk - (Lib.intOf jv).toNat)
            case atStart => exact ⟨0, rfl, Nat.zero_le _, Below.refl _ _⟩
            case round =>
              obtain ⟨j, rfl, hj, hB⟩ := hrel
              have HB := Lib.hid hB
              clear hB
              by_cases hjm : j < mk
              · have hq4 : (j : Int) < (mk : Int) := by omega
                obtain ⟨⟨xp, xt⟩, hx⟩ : ∃ x, vl[j]? = some x := ⟨_, List.getElem?_eq_getElem (by rw [HMK.out]; exact hjm)⟩
                obtain ⟨bv, ov, rfl, hbv, z0, z1⟩ := keys_spot (HKV.out wr (HBA.out.trans (HB.out.mono HBA.out.size))) hx
                simp only at z0 z1
                have HGX := HGET.out _ _ HBB.out (List.mem_of_getElem? hx)
                simp only at HGX
                have HGX := Lib.hid HGX
                have hba := (Below.refl wr.heap.size wr).alloc (Nat.le_refl _) (.cells #[.string xp, .string xt] 59)
                have HB2 := Lib.hid (HB.out.trans (hba.mono HB.out.size))
                have HV := Lib.hid (Blk.new wr 59 #[.string xp, .string xt])
                clear hx hba
                go_upto_region 33 with (fail)
                clear z0 z1 HB
                generalize wr.alloc (.cells #[.string xp, .string xt] 59) = w28 at *
                obtain ⟨gx, hgx⟩ : ∃ gx, wr.heap.size = gx := ⟨_, rfl⟩
                rw [hgx] at HV ⊢
                clear hgx
                obtain ⟨-, k0, k1, hsr⟩ := HKZ.out w28 (HBA.out.trans (HB2.out.mono HBA.out.size))
                have y0 : w28.cell? ⟨gk, 0, none⟩ = some (.string nm) := (HK.out.below HB2.out HK.out.lt).cell 0
                have n0 : w28.cell? ⟨gx, 0, none⟩ = some (.string xp) := HV.out.cell 0
                have HGT := Lib.hid (bget_any (.slice Ar nr cr) ry rs nm xp w28 hsr HFT.out.1 HFT.out.2)
                rw [HGX.out] at HGT
                clear hsr
                go_wp2_with fail
                refine HGT.out.mono ?_
                rintro en w29 ⟨rfl, hb29⟩
                have n1 : w29.cell? ⟨gx, 1, none⟩ = some (.string xt) := (HV.out.below hb29 HV.out.lt).cell 1
                have HB29 := Lib.hid (HB2.out.trans (hb29.mono HB2.out.size))
                have hbq : (xt.toList == xt.toList) = true := by simp
                clear hb29 k0 k1 y0 n0 HB2 HV
                go_wp2
                go_roundw
                case rel => exact ⟨j + 1, by go_num, hjm, HB29.out⟩
                case measure => simp [Lib.intOf]; omega
              · obtain rfl : mk = j := by omega
                have hq4 : ¬ (mk : Int) < (mk : Int) := by omega
                go_wp2
                go_roundw
                case rel => exact ⟨i + 1, by go_num, hlt, HBA.out.trans (HB.out.mono HBA.out.size)⟩
                case measure => simp [Lib.intOf]; omega
          · obtain rfl : i = na := by omega
            have hq3 : ¬ (i : Int) < (i : Int) := by omega
            have HE := Lib.hid ((HKZ.out wr HB.out).1)
            go_wp2
            go_ret
            exact ⟨rfl, HX3.out.1.trans (HE.out.mono HX3.out.1.size)⟩
  · have z3 : (e1 != 0) = true := by simpa using z
    have HZ := Lib.hid (show nr = 0 from by
      rw [← HNR.out]
      rcases HSI.out with ⟨i, -, -, -, -, rfl⟩ | ⟨hc, ⟨h1, rfl, -, -⟩ | ⟨h1, h2, h3, -⟩⟩
      · rfl
      · rfl
      · exact absurd h3 z)
    obtain rfl : nr = 0 := HZ.out
    clear z
    go_wp2
    go_ret
    exact ⟨rfl, HX3.out.1.trans (HB5.out.mono HX3.out.1.size)⟩
set_option maxRecDepth 100000 in
theorem walk {H : Type} {enc : TypeId × Value → H} (v0 : Value) (d0 : DataW H) (p0 : List MemPlace) (base0 : Nat) (a1 : Int) (w : World) (hv0 : Value.okWide Tryz.prog w .any base0 24 v0) (w0 : DataW.Trod enc Tryz.prog w 0 (fun _ => true) true 24 v0 d0 p0) (hwt0 : ∀ n ∈ d0.weights Tryz.prog 24, n ≤ 140737488351232) (w1 : (Lit.int .i64 a1).wf = true) :
    Calls Tryz.prog 6 #[v0, .int .i64 a1] w fun e w' => e = .returned (.bool true) ∧ Below w.heap.size w w' := by
  obtain ⟨u0, l0, vs0, rfl, hs0, hi0⟩ := open_bundle hv0 w0 hwt0
  exact order_walk u0 a1 l0 vs0 w hs0 hi0

set_option maxRecDepth 100000 in
theorem contract (H : Type) (enc : TypeId × Value → H) (W : World) (base : Nat) (args : Array Value) (ds gs : List (DataW H)) (before : List MemPlace)
    (hval0 : ∀ (j : Nat) t v, Tryz.f6.params[j]? = some t → args[j]? = some v → Value.okWide Tryz.prog W .any base t v)
    (hW : DataW.Whole enc Tryz.prog Tryz.f6.params.toList Rows.bundleOrderSpec.vars false W args.toList ds gs before)
    (hsz0 : (DataW.weightsEach Tryz.prog (Tryz.f6.params.toList ++ Rows.bundleOrderSpec.plain.varTypes Tryz.prog) (ds ++ gs)).all (· ≤ reachBytes) = true) :
    Calls Tryz.prog 6 args W fun e W' => ∃ v, e = .returned v ∧ Rows.bundleOrderSpec.post enc Tryz.prog Tryz.f6 false true false false W args v W' := by
  have hval : ∀ (j : Nat) t v, Tryz.f6.params[j]? = some t → args[j]? = some v → Value.okWide Tryz.prog W .any base t v := hval0
  have hsz : (DataW.weightsEach Tryz.prog (Tryz.f6.params.toList ++ Rows.bundleOrderSpec.plain.varTypes Tryz.prog) (ds ++ gs)).all (· ≤ reachBytes) = true := hsz0
  have hW' := hW
  obtain ⟨p, q, hA0, hV, rfl, hfz, hnd⟩ := hW
  have hA : DataW.TrodAll enc Tryz.prog W 0 (fun _ => true) true Tryz.f6.params.toList args.toList ds p := hA0
  rw [Tryz.params6] at hA hval hsz
  obtain ⟨v0, vs0, d0, ds0, p0, q0, hargs, rfl, rfl, h0, r0⟩ := trodAll_cons hA
  obtain ⟨v1, vs1, d1, ds1, p1, q1, rfl, rfl, rfl, h1, r1⟩ := trodAll_cons r0
  obtain ⟨rfl, rfl, rfl⟩ := trodAll_nil r1
  obtain rfl : args = #[v0, v1] := by cases args; simp_all
  obtain ⟨rfl, rfl⟩ := trodVars_none hV
  have k0 := h0
  have lt0 : ∀ x ∈ p0, x.block < W.heap.size := by obtain ⟨m, hm⟩ := k0; exact DataW.trod_lt m _ _ _ hm
  have hwt0 : ∀ n ∈ d0.weights Tryz.prog 24, n ≤ 140737488351232 := fun n hn => by
    have := of_decide_eq_true (List.all_eq_true.1 hsz _ (DataW.weights_mem_each (j := 0) (t := 24) rfl rfl n hn))
    simpa [reachBytes] using this
  obtain ⟨a1, rfl, rfl, rfl, w1⟩ := open_int Tryz.underlying3 (hval 1 3 v1 rfl rfl) h1
  clear hA0 hval0
  refine (walk v0 d0 p0 base a1 W (hval 0 24 v0 rfl rfl) h0 hwt0 w1).mono fun e W' ⟨he, bel⟩ => ?_
  subst he
  exact ⟨_, rfl, _, _, _, [], _, [], hW', trodAll_mk1 (shut_bool Tryz.underlying4 _), (trodAll_cons_mk (Below.trod laidOut (by kernel_rfl) (of_decide_eq_true (by kernel_rfl)) k0 bel lt0) (trodAll_cons_mk (shut_int Tryz.underlying3 w1) trodAll_mk0)), rfl, bel.frame _, fun h => by cases h⟩

set_option maxRecDepth 100000 in
theorem lifted (os : Os) (started : os.Started) (H : Type) (enc : TypeId × Value → H) :
    ReturnsInHanded {} Tryz.checked os 6 .any (Rows.bundleOrderSpec.pre6 enc Tryz.prog Tryz.f6 Rows.bundleOrderRow.domain false) (Rows.bundleOrderSpec.post enc Tryz.prog Tryz.f6 false true false false) := by
  refine returnsInHanded_of_change_sized (C := Tryz.checked) own started (by kernel_rfl) Tryz.func6
    (ChangeSpec.witness6 (enc := enc) (C := Tryz.checked) false ⟨#[], #[.agg #[.slice none 0 0], .int .i64 0], []⟩ 8 (by kernel_rfl) (by kernel_rfl) (by kernel_rfl) (by kernel_rfl)) ?_
  intro W base args ds gs before hval hW _ hsz _
  exact contract H enc W base args ds gs before hval hW hsz

theorem over : Rows.bundleOrderRow.holds Tryz.pinned (OpenSpec.ofChange Rows.bundleOrderSpec) :=
  OpenClaim.holds_of_wide 6 Tryz.f6 rfl rfl rfl rfl rfl rfl rfl ⟨rfl, rfl, rfl, rfl, rfl⟩ rfl rfl rfl rfl rfl (by kernel_rfl) Tryz.func6 (by kernel_rfl)
    (of_decide_eq_true (by kernel_rfl)) (by unfold Func.isWrapper; first | (rw [if_pos (by decide +kernel)]; kernel_rfl) | (rw [if_neg (by decide +kernel)]; exact ⟨rfl, rfl⟩))
    (fun os started H enc _ => lifted os started H enc)

/-- The statement. -/
theorem proved : Rows.BundleOrderSaid := over
#print axioms proved
end Go.Proofs.YtfpepdjffehbcaaGreat.bundleOrder
