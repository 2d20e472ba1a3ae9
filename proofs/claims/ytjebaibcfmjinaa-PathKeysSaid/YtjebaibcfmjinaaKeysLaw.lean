/-
  What With and the two Without answer, made fit for the law PathKeys. No condition.
-/
import Derived.Test.YtjebaibcfmjinaaPathWithout
import Derived.Test.YtjebaibcfmjinaaRefWo
namespace Go.Proofs.Ytjebaibcfmjinaa
open Go.RowKit Go.Shelf

/-- Without's answer hangs on the path and the key alone. -/
theorem wo_det (p key : ByteArray) : ∃ (t : ByteArray) (b : Bool), ∀ (W : World) (en : Ending) (W' : World), WithoutPost p key W en W' → en = .returned (.tuple #[.string t, .bool b]) ∧ Below W.heap.size W W' := by
  cases hp : parseM p with
  | error e =>
    refine ⟨ByteArray.empty, false, fun W en W' h => ?_⟩
    obtain ⟨hB, ⟨_, rfl⟩ | ⟨l, hl, _⟩⟩ := h
    · exact ⟨rfl, hB⟩
    · rw [hp] at hl
      cases hl
  | ok l =>
    by_cases hr : ∃ r, WoIs l key r
    · obtain ⟨r, hr⟩ := hr
      cases r with
      | none =>
        refine ⟨p, false, fun W en W' h => ?_⟩
        obtain ⟨hB, ⟨⟨e, he⟩, _⟩ | ⟨l2, hl, ⟨_, rfl⟩ | ⟨l', h', rfl⟩⟩⟩ := h
        · rw [hp] at he
          cases he
        · exact ⟨rfl, hB⟩
        · rw [hp] at hl
          cases hl
          exact absurd (woIs_unique h' hr) (by simp)
      | some m =>
        refine ⟨putS (putM m), true, fun W en W' h => ?_⟩
        obtain ⟨hB, ⟨⟨e, he⟩, _⟩ | ⟨l2, hl, ⟨h', rfl⟩ | ⟨l', h', rfl⟩⟩⟩ := h
        · rw [hp] at he
          cases he
        · rw [hp] at hl
          cases hl
          exact absurd (woIs_unique h' hr) (by simp)
        · rw [hp] at hl
          cases hl
          have := woIs_unique h' hr
          cases this
          exact ⟨rfl, hB⟩
    · refine ⟨p, false, fun W en W' h => ?_⟩
      obtain ⟨hB, ⟨⟨e, he⟩, _⟩ | ⟨l2, hl, ⟨h', _⟩ | ⟨l', h', _⟩⟩⟩ := h
      · rw [hp] at he
        cases he
      · rw [hp] at hl
        cases hl
        exact absurd ⟨_, h'⟩ hr
      · rw [hp] at hl
        cases hl
        exact absurd ⟨_, h'⟩ hr
theorem with_err {p key value : ByteArray} {x y : Int} (hE : parseM p = .error (x, y)) {W : World} {en : Ending} {W' : World} (h : WithPost p key value W en W') : en = .returned (.tuple #[.string ByteArray.empty, .int .i64 x]) ∧ Below W.heap.size W W' := by
  obtain ⟨hB, ⟨e, he, ⟨y', h1⟩ | ⟨h1, _⟩, rfl⟩ | ⟨l, k, st, h1, _⟩⟩ := h
  · rw [hE] at h1
    cases h1
    exact ⟨rfl, hB⟩
  · rw [hE] at h1
    cases h1
  · rw [hE] at h1
    cases h1
theorem with_none {p key value : ByteArray} (hE : parseM p = .ok []) {W : World} {en : Ending} {W' : World} (h : WithPost p key value W en W') : en = .returned (.tuple #[.string ByteArray.empty, .int .i64 4]) ∧ Below W.heap.size W W' := by
  obtain ⟨hB, ⟨e, he, ⟨y', h1⟩ | ⟨h1, rfl⟩, rfl⟩ | ⟨l, k, st, h1, h2, _⟩⟩ := h
  · rw [hE] at h1
    cases h1
  · exact ⟨rfl, hB⟩
  · rw [hE] at h1
    cases h1
    simp at h2
theorem with_some {p key value : ByteArray} {l : List PStep} {k : Nat} {sn : ByteArray} {ks : List PKey} (hE : parseM p = .ok l) (hl : l.length = k + 1) (hst : l[k]? = some (sn, ks)) {W : World} {en : Ending} {W' : World} (h : WithPost p key value W en W') :
    en = .returned (.tuple #[.string (putS (putM (l.take k ++ [(sn, putK ks (key, value))]))), .int .i64 (putE (putM (l.take k ++ [(sn, putK ks (key, value))])))]) ∧ Below W.heap.size W W' := by
  obtain ⟨hB, ⟨e, he, ⟨y', h1⟩ | ⟨h1, rfl⟩, rfl⟩ | ⟨l', k', st, h1, h2, h3, rfl⟩⟩ := h
  · rw [hE] at h1
    cases h1
  · rw [hE] at h1
    cases h1
    simp at hl
  · rw [hE] at h1
    cases h1
    obtain rfl : k = k' := by omega
    rw [hst] at h3
    cases h3
    exact ⟨rfl, hB⟩
theorem below_al {a w : World} (h : Below a.heap.size a w) (o : Obj) : Below a.heap.size a (w.alloc o) := h.alloc h.size o
theorem blk_new2 (w : World) (t : TypeId) (o : Obj) (cs : Array Value) : Blk ((w.alloc o).alloc (.cells cs t)) (w.heap.size + 1) t cs := by
  have h := Blk.new (w.alloc o) t cs
  rwa [World.size_alloc] at h
theorem keys_print {W w7 : World} {A Ap A7 : Option Addr} {c cp c7 k m : Nat} {l L2 : List PStep} {vs news : List Value} {sn : ByteArray} {ks2 : List PKey}
    (hl : l.length = k + 1) (hn : news = (stepCells l vs).take (k * 2)) (hR : StepsR W (.slice A l.length c) l vs) (hL2 : l.take k ++ [(sn, ks2)] = L2)
    (hK7 : KeysAt w7 w7.heap.size (.slice Ap m cp) ks2) (hSM : (∀ st ∈ l, StepTiny st) ∧ l.length ≤ 64) (hS2 : StepSmall (sn, ks2))
    (k1 : k + 1 ≤ c7) (k2 : c7 ≤ maxLen) (k3 : Reads w7 w7.heap.size 2 A7 (k + 1) (news ++ [.string sn, .slice Ap m cp])) (hB7 : Below W.heap.size W w7) :
    Calls Try.prog 24 #[.slice A7 (k + 1) c7] w7 (PutPost L2 w7) := by
  obtain ⟨_, _, e, h1, h2, h3, hvl, hK⟩ := hR
  cases e
  subst hL2
  have hlen : (l.take k ++ [(sn, ks2)]).length = k + 1 := by rw [List.length_append, List.length_take]; simp; omega
  have hvlen : (vs.take k ++ [Value.slice Ap m cp]).length = k + 1 := by rw [List.length_append, List.length_take]; simp; omega
  refine rprint_any _ (l.take k ++ [(sn, ks2)]) (vs.take k ++ [.slice Ap m cp]) w7 ⟨A7, c7, by rw [hlen], by rw [hlen]; exact k1, k2, ?_, by rw [hlen, hvlen], ?_⟩ ?_ (by rw [hlen]; have := hSM.2; omega)
  · rw [hlen, stepCells_append _ _ _ _ (by rw [List.length_take, List.length_take]; omega), stepCells_take, ← hn]
    exact k3
  · intro i st kj hi hj
    rcases Nat.lt_trichotomy i k with h | rfl | h
    · rw [List.getElem?_append_left (by rw [List.length_take]; omega), List.getElem?_take, if_pos h] at hi hj
      exact (hK i st kj hi hj).more hB7 hB7.size
    · rw [List.getElem?_append_right (by rw [List.length_take]; omega), List.length_take, Nat.min_eq_left (by omega), Nat.sub_self] at hi hj
      cases hi
      cases hj
      exact hK7
    · rw [List.getElem?_eq_none (by rw [hlen]; omega)] at hi
      cases hi
  · intro st h
    rcases List.mem_append.1 h with h | h
    · exact (hSM.1 st (List.mem_of_mem_take h)).small
    · simp only [List.mem_singleton] at h
      subst h
      exact hS2
theorem putK_small {sn : ByteArray} {ks : List PKey} {key value : ByteArray} (h : StepTiny (sn, ks)) (hks : key.size ≤ 1000000) (hvs : value.size ≤ 1000000) : StepSmall (sn, putK ks (key, value)) := by
  have h0 := h.small
  have h9 := putK_len ks (key, value)
  have h8 := h.2.1
  refine ⟨h0.1, by simp only at h8 ⊢; omega, fun x hx => ?_⟩
  rcases putK_mem ks (key, value) x hx with rfl | hx
  · exact ⟨hks, hvs⟩
  · exact h0.2.2 x hx
theorem own_apart {w : World} {base r : Nat} {e t : TypeId} {size n : Nat} {v : Value} {xs : List Value} {cs : Array Value} (h : w.ownsRow base e size v n xs) (hB : Blk w r t cs) (hne : e ≠ t) : v.ownBlock = none ∨ v.ownBlock ≠ some r := by
  cases hv : v.ownBlock with
  | none => exact .inl rfl
  | some g => exact .inr fun e => own_blk h hB hne hv (by cases e; rfl)
theorem own_apart2 {w : World} {base base' : Nat} {e e' : TypeId} {size size' n n' : Nat} {v v' : Value} {xs xs' : List Value} (h : w.ownsRow base e size v n xs) (h' : w.ownsRow base' e' size' v' n' xs') (hee : e ≠ e') : v.ownBlock = none ∨ v.ownBlock ≠ v'.ownBlock := by
  cases hv : v.ownBlock with
  | none => exact .inl rfl
  | some g => exact .inr fun e => own_other h h' hee g hv e.symm
theorem own_keys {w : World} {base m : Nat} {A : Option Addr} {c : Nat} {ks : List PKey} (h : w.ownsRow base 51 2 (.slice A m c) m (pairCells ks)) (hm : ks.length = m) : KeysAt w w.heap.size (.slice A m c) ks := by
  subst hm
  obtain ⟨A', c', e, a, b, hr⟩ := own_form h
  exact ⟨A', c', e, a, b, hr⟩
end Go.Proofs.Ytjebaibcfmjinaa
