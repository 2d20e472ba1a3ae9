/-
  What Sort has heard of a bundle, the program's and the document's way, plainly. Plain lemmas; no condition.
-/
import Derived.Test.YtfpepdjffehbcaaGreatBunBytesP
import Derived.Test.YtfpepdjffehbcaaGreatBunRows
set_option linter.unusedVariables false
set_option linter.unusedSimpArgs false
namespace Go.Proofs.YtfpepdjffehbcaaGreat
open Go.RowKit

/-- A bundle's values, each with its Book's name. -/
def flatB (l : List PStep) : List (ByteArray × PKey) := l.flatMap fun b => b.2.map fun v => (b.1, v)
theorem flatB_mem {l : List PStep} {n : ByteArray} {v : PKey} : (n, v) ∈ flatB l ↔ v ∈ valsOf l n := by
  rw [valsOf_mem]
  unfold flatB
  simp only [List.mem_flatMap, List.mem_map, Prod.mk.injEq]
  exact ⟨fun ⟨b, h1, u, h2, h3, h4⟩ => ⟨b, h1, h3, h4 ▸ h2⟩, fun ⟨b, h1, h2, h3⟩ => ⟨b, h1, v, h3, h2, rfl⟩⟩
/-- The text that was said first. -/
def saidF (L : List (ByteArray × PKey)) : ByteArray × ByteArray → Option Value := fun k => (L.find? fun x => decide ((x.1, x.2.1) = k)).map fun x => .string x.2.2
theorem saidF_nil : saidF [] = fun _ => none := rfl
theorem saidF_put {L : List (ByteArray × PKey)} {n : ByteArray} {v : PKey} (h : saidF L (n, v.1) = none) : putMF (saidF L) (n, v.1) (.string v.2) = saidF (L ++ [(n, v)]) := by
  have h2 : L.find? (fun x => decide ((x.1, x.2.1) = (n, v.1))) = none := by unfold saidF at h; rw [Option.map_eq_none_iff] at h; exact h
  funext k
  unfold putMF saidF
  rw [List.find?_append]
  by_cases e : k = (n, v.1)
  · subst e
    rw [if_pos rfl, h2]
    simp
  · rw [if_neg e]
    have e2 : ¬ (n, v.1) = k := fun h => e h.symm
    simp [e2]
theorem saidF_skip {L : List (ByteArray × PKey)} {n : ByteArray} {v : PKey} {t : Value} (h : saidF L (n, v.1) = some t) : saidF (L ++ [(n, v)]) = saidF L := by
  funext k
  unfold saidF at h ⊢
  rw [List.find?_append]
  by_cases e : k = (n, v.1)
  · subst e
    cases hf : L.find? fun x => decide ((x.1, x.2.1) = (n, v.1)) with
    | none => rw [hf] at h; cases h
    | some x => simp
  · have e2 : ¬ (n, v.1) = k := fun h => e h.symm
    simp [e2]
theorem saidF_some {L : List (ByteArray × PKey)} {k : ByteArray × ByteArray} {t : Value} (h : saidF L k = some t) : ∃ x ∈ L, (x.1, x.2.1) = k ∧ t = .string x.2.2 := by
  unfold saidF at h
  cases hf : L.find? fun x => decide ((x.1, x.2.1) = k) with
  | none => rw [hf] at h; cases h
  | some x =>
    rw [hf] at h
    exact ⟨x, List.mem_of_find?_eq_some hf, by simpa using List.find?_some hf, (Option.some.inj h).symm⟩
theorem saidF_none {L : List (ByteArray × PKey)} {k : ByteArray × ByteArray} (h : saidF L k = none) : ∀ x ∈ L, (x.1, x.2.1) ≠ k := by
  unfold saidF at h
  rw [Option.map_eq_none_iff, List.find?_eq_none] at h
  intro x hx
  simpa using h x hx
/-- Nothing is said twice and unlike. -/
def ConsF (L : List (ByteArray × PKey)) : Prop := ∀ x ∈ L, ∀ y ∈ L, x.1 = y.1 → x.2.1 = y.2.1 → x.2.2 = y.2.2
theorem consF_B {l : List PStep} : ConsF (flatB l) ↔ ConsB l := by
  refine ⟨fun h n u v hu hv e => h (n, u) (flatB_mem.2 hu) (n, v) (flatB_mem.2 hv) rfl e, fun h x hx y hy e1 e2 => ?_⟩
  obtain ⟨n, u⟩ := x
  obtain ⟨m, v⟩ := y
  simp only at e1 e2
  subst e1
  exact h n u v (flatB_mem.1 hx) (flatB_mem.1 hy) e2
theorem ConsF.new {L : List (ByteArray × PKey)} {n : ByteArray} {v : PKey} (h : ConsF L) (hs : saidF L (n, v.1) = none) : ConsF (L ++ [(n, v)]) := by
  have h0 := saidF_none hs
  intro x hx y hy e1 e2
  rcases List.mem_append.1 hx with hx | hx <;> rcases List.mem_append.1 hy with hy | hy
  · exact h x hx y hy e1 e2
  · rw [List.mem_singleton.1 hy] at e1 e2
    exact absurd (by rw [e1, e2]) (h0 x hx)
  · rw [List.mem_singleton.1 hx] at e1 e2
    exact absurd (by rw [← e1, ← e2]) (h0 y hy)
  · rw [List.mem_singleton.1 hx, List.mem_singleton.1 hy]
theorem said_mem {L : List (ByteArray × PKey)} {n : ByteArray} {v : PKey} (hs : saidF L (n, v.1) = some (.string v.2)) : (n, v) ∈ L := by
  obtain ⟨x, hx, e, ht⟩ := saidF_some hs
  obtain ⟨m, a, b⟩ := x
  obtain ⟨p, q⟩ := v
  simp only [Prod.mk.injEq] at e
  simp only at ht
  injection ht with ht
  obtain ⟨rfl, rfl⟩ := e
  rw [ht]
  exact hx
theorem ConsF.same {L : List (ByteArray × PKey)} {n : ByteArray} {v : PKey} (h : ConsF L) (hs : saidF L (n, v.1) = some (.string v.2)) : ConsF (L ++ [(n, v)]) := by
  have h0 := said_mem hs
  have h1 : ∀ x, x ∈ L ++ [(n, v)] → x ∈ L := fun x hx => (List.mem_append.1 hx).elim id fun hx => by rw [List.mem_singleton.1 hx]; exact h0
  exact fun x hx y hy => h x (h1 x hx) y (h1 y hy)
theorem consF_bad {L : List (ByteArray × PKey)} {n : ByteArray} {v : PKey} {t : ByteArray} (hs : saidF L (n, v.1) = some (.string t)) (ht : t ≠ v.2) : ¬ ConsF (L ++ [(n, v)]) := by
  intro h
  obtain ⟨x, hx, e, h2⟩ := saidF_some hs
  injection h2 with h2
  have e1 := congrArg Prod.fst e
  have e2 := congrArg Prod.snd e
  simp only at e1 e2
  have := h x (List.mem_append_left _ hx) (n, v) (List.mem_append_right _ (List.mem_singleton.2 rfl)) e1 e2
  exact ht (h2.trans this)
theorem consF_sub {L M : List (ByteArray × PKey)} (hs : ∀ x ∈ L, x ∈ M) (h : ConsF M) : ConsF L := fun x hx y hy => h x (hs x hx) y (hs y hy)
/-- What is heard, j values of Book i being read. -/
def heardB (l : List PStep) (i : Nat) (b : PStep) (j : Nat) : List (ByteArray × PKey) := flatB (l.take i) ++ (b.2.take j).map fun v => (b.1, v)
theorem heard_start (l : List PStep) (i : Nat) (b : PStep) : heardB l i b 0 = flatB (l.take i) := by simp [heardB]
theorem heard_next {l : List PStep} {i j : Nat} {b : PStep} {v : PKey} (hv : b.2[j]? = some v) : heardB l i b (j + 1) = heardB l i b j ++ [(b.1, v)] := by
  unfold heardB
  rw [List.take_add_one, hv, List.map_append, ← List.append_assoc]
  rfl
theorem heard_end {l : List PStep} {i : Nat} {b : PStep} (hb : l[i]? = some b) : heardB l i b b.2.length = flatB (l.take (i + 1)) := by
  unfold heardB
  rw [List.take_length, List.take_add_one, hb]
  simp [flatB]
theorem heard_sub {l : List PStep} {i j : Nat} {b : PStep} (hb : l[i]? = some b) : ∀ x ∈ heardB l i b j, x ∈ flatB (l.take (i + 1)) := by
  intro x hx
  rw [← heard_end hb]
  unfold heardB at hx ⊢
  rcases List.mem_append.1 hx with hx | hx
  · exact List.mem_append_left _ hx
  · obtain ⟨v, hv, rfl⟩ := List.mem_map.1 hx
    exact List.mem_append_right _ (List.mem_map.2 ⟨v, by rw [List.take_length]; exact List.mem_of_mem_take hv, rfl⟩)
/-- Something is said twice and unlike: it is in the first i + 1 Books. -/
theorem heard_bad {l : List PStep} {i j : Nat} {b : PStep} {v : PKey} {t : ByteArray} (hb : l[i]? = some b) (hv : b.2[j]? = some v) (hs : saidF (heardB l i b j) (b.1, v.1) = some (.string t)) (ht : t ≠ v.2) : ¬ ConsB (l.take (i + 1)) := by
  intro h
  refine consF_bad hs ht ?_
  rw [← heard_next hv]
  exact consF_sub (heard_sub hb) (consF_B.2 h)
theorem flat_len (l : List PStep) : (flatB l).length = (l.map fun b => b.2.length).sum := by
  induction l with
  | nil => rfl
  | cons b r ih =>
    unfold flatB at ih ⊢
    rw [List.flatMap_cons, List.length_append, ih]
    simp
/-- The lists of values, name by name. -/
def SrtAt (L : List (ByteArray × PKey)) (ps : List (REnt PKey)) : Prop :=
  (∀ n v, v ∈ lookR ps n ↔ (n, v) ∈ L) ∧ (∀ n, (lookR ps n).Pairwise fun x y => x.1 ≠ y.1) ∧ ∀ n, (lookR ps n).length ≤ L.length
theorem srt_start : SrtAt [] [] := ⟨fun n v => by simp [lookR], fun n => by simp [lookR], fun n => by simp [lookR]⟩
theorem SrtAt.name {L : List (ByteArray × PKey)} {ps : List (REnt PKey)} {n : ByteArray} (h : SrtAt L ps) (hn : lookF ps n = none) (u : Value) : SrtAt L (updM ps n u []) := by
  have h0 := lookR_none (lookF_none.1 hn)
  have h1 : ∀ t, lookR (updM ps n u []) t = lookR ps t := fun t => by
    rw [lookR_upd]
    by_cases e : t = n
    · rw [if_pos e, e, h0]
    · rw [if_neg e]
  exact ⟨fun t v => by rw [h1]; exact h.1 t v, fun t => by rw [h1]; exact h.2.1 t, fun t => by rw [h1]; exact h.2.2 t⟩
theorem SrtAt.new {L : List (ByteArray × PKey)} {ps : List (REnt PKey)} {n : ByteArray} {v : PKey} (h : SrtAt L ps) (hs : saidF L (n, v.1) = none) (u : Value) : SrtAt (L ++ [(n, v)]) (updM ps n u (lookR ps n ++ [v])) := by
  have h0 := saidF_none hs
  refine ⟨fun t x => ?_, fun t => ?_, fun t => ?_⟩
  · rw [lookR_upd, List.mem_append, List.mem_singleton, ← h.1 t x]
    by_cases e : t = n
    · subst e
      rw [if_pos rfl, List.mem_append, List.mem_singleton]
      exact ⟨fun hh => hh.imp id fun e => by rw [e], fun hh => hh.imp id fun e => (Prod.mk.inj e).2⟩
    · rw [if_neg e]
      simp [e]
  · rw [lookR_upd]
    by_cases e : t = n
    · subst e
      rw [if_pos rfl]
      refine List.pairwise_append.2 ⟨h.2.1 t, by simp, fun x hx y hy => ?_⟩
      rw [List.mem_singleton.1 hy]
      exact fun e => h0 (t, x) ((h.1 t x).1 hx) (by rw [e])
    · rw [if_neg e]
      exact h.2.1 t
  · rw [lookR_upd, List.length_append]
    by_cases e : t = n
    · rw [if_pos e, List.length_append]
      have := h.2.2 n
      simp only [List.length_cons, List.length_nil]
      omega
    · rw [if_neg e]
      have := h.2.2 t
      omega
theorem SrtAt.skip {L : List (ByteArray × PKey)} {ps : List (REnt PKey)} {n : ByteArray} {v : PKey} (h : SrtAt L ps) (hs : saidF L (n, v.1) = some (.string v.2)) : SrtAt (L ++ [(n, v)]) ps := by
  have h0 := said_mem hs
  refine ⟨fun t x => ?_, h.2.1, fun t => ?_⟩
  · rw [h.1 t x, List.mem_append, List.mem_singleton]
    exact ⟨.inl, fun hh => hh.elim id fun e => by rw [e]; exact h0⟩
  · rw [List.length_append]
    have := h.2.2 t
    omega
/-- A list of values by their paths is the pool of what is said. -/
theorem srt_row {l : List PStep} {ps : List (REnt PKey)} (h : SrtAt (flatB l) ps) {n : ByteArray} {l' : List PKey} (hp : l'.Perm (lookR ps n)) (hs : l'.Pairwise fun x y => bl y.1 x.1 = false) : l' = poolL vlt (valsOf l n) := by
  have hne : l'.Pairwise fun x y => x.1 ≠ y.1 := (hp.pairwise_iff (fun {x y} (h : x.1 ≠ y.1) => h.symm)).2 (h.2.1 n)
  have hr : RiseL (fun x y => bl x.1 y.1) l' := by
    refine List.Pairwise.imp (R := fun x y => bl y.1 x.1 = false ∧ x.1 ≠ y.1) (fun {x y} ⟨h1, h2⟩ => ?_) (List.pairwise_and_iff.2 ⟨hs, hne⟩)
    cases hb : bl x.1 y.1 with
    | true => exact hb
    | false => exact absurd (blT.conn _ _ hb h1) h2
  refine poolL_eq vltT (rise_vlt hr) fun v => ?_
  rw [hp.mem_iff, h.1 n v, flatB_mem]
theorem srt_names {l : List PStep} {names : List ByteArray} (h : ∀ n, n ∈ names ↔ n ∈ l.map Prod.fst) : poolL bl names = poolL bl (l.map Prod.fst) := poolL_congr blT h
/-- The text of a path that was said first. -/
def saidP (L : List PKey) (p : ByteArray) : ByteArray := ((L.find? fun x => decide (x.1 = p)).map Prod.snd).getD ByteArray.empty
def saidPF (L : List PKey) : ByteArray → Option Value := fun p => (L.find? fun x => decide (x.1 = p)).map fun x => .string x.2
theorem saidPF_nil : saidPF [] = fun _ => none := rfl
theorem saidPF_put {L : List PKey} {v : PKey} (h : saidPF L v.1 = none) : putMF (saidPF L) v.1 (.string v.2) = saidPF (L ++ [v]) := by
  have h2 : L.find? (fun x => decide (x.1 = v.1)) = none := by unfold saidPF at h; rw [Option.map_eq_none_iff] at h; exact h
  funext k
  unfold putMF saidPF
  rw [List.find?_append]
  by_cases e : k = v.1
  · subst e
    rw [if_pos rfl, h2]
    simp
  · rw [if_neg e]
    have e2 : ¬ v.1 = k := fun h => e h.symm
    simp [e2]
theorem saidPF_skip {L : List PKey} {v : PKey} {t : Value} (h : saidPF L v.1 = some t) : saidPF (L ++ [v]) = saidPF L := by
  funext k
  unfold saidPF at h ⊢
  rw [List.find?_append]
  by_cases e : k = v.1
  · subst e
    cases hf : L.find? fun x => decide (x.1 = v.1) with
    | none => rw [hf] at h; cases h
    | some x => simp
  · have e2 : ¬ v.1 = k := fun h => e h.symm
    simp [e2]
theorem saidPF_P {L : List PKey} {p : ByteArray} (h : p ∈ L.map Prod.fst) : saidPF L p = some (.string (saidP L p)) ∧ (p, saidP L p) ∈ L := by
  unfold saidPF saidP
  cases hf : L.find? fun x => decide (x.1 = p) with
  | none =>
    obtain ⟨v, hv, e⟩ := List.mem_map.1 h
    have := List.find?_eq_none.1 hf v hv
    simp [e] at this
  | some x =>
    have h1 := List.mem_of_find?_eq_some hf
    have h2 : x.1 = p := by simpa using List.find?_some hf
    obtain ⟨a, b⟩ := x
    simp only at h2
    subst h2
    exact ⟨rfl, h1⟩
theorem saidPF_some {L : List PKey} {p : ByteArray} {t : Value} (h : saidPF L p = some t) : ∃ x ∈ L, x.1 = p ∧ t = .string x.2 := by
  unfold saidPF at h
  cases hf : L.find? fun x => decide (x.1 = p) with
  | none => rw [hf] at h; cases h
  | some x =>
    rw [hf] at h
    exact ⟨x, List.mem_of_find?_eq_some hf, by simpa using List.find?_some hf, (Option.some.inj h).symm⟩
theorem saidPF_none {L : List PKey} {p : ByteArray} (h : saidPF L p = none) : ∀ x ∈ L, x.1 ≠ p := by
  unfold saidPF at h
  rw [Option.map_eq_none_iff, List.find?_eq_none] at h
  intro x hx
  simpa using h x hx
/-- No path has two texts. -/
def ConsV (L : List PKey) : Prop := ∀ u ∈ L, ∀ v ∈ L, u.1 = v.1 → u.2 = v.2
theorem consV_B {l : List PStep} : ConsB l ↔ ∀ n, ConsV (valsOf l n) := ⟨fun h n u hu v hv e => h n u v hu hv e, fun h n u v hu hv e => h n u hu v hv e⟩
theorem consV_sub {L M : List PKey} (hs : ∀ x ∈ L, x ∈ M) (h : ConsV M) : ConsV L := fun x hx y hy => h x (hs x hx) y (hs y hy)
theorem ConsV.new {L : List PKey} {v : PKey} (h : ConsV L) (hs : saidPF L v.1 = none) : ConsV (L ++ [v]) := by
  have h0 := saidPF_none hs
  intro x hx y hy e
  rcases List.mem_append.1 hx with hx | hx <;> rcases List.mem_append.1 hy with hy | hy
  · exact h x hx y hy e
  · rw [List.mem_singleton.1 hy] at e
    exact absurd e (h0 x hx)
  · rw [List.mem_singleton.1 hx] at e
    exact absurd e.symm (h0 y hy)
  · rw [List.mem_singleton.1 hx, List.mem_singleton.1 hy]
theorem ConsV.same {L : List PKey} {v : PKey} (h : ConsV L) (hs : saidPF L v.1 = some (.string v.2)) : ConsV (L ++ [v]) := by
  obtain ⟨x, hx, e1, e2⟩ := saidPF_some hs
  injection e2 with e2
  have hx2 : x = v := Prod.ext e1 e2.symm
  have h1 : ∀ y, y ∈ L ++ [v] → y ∈ L := fun y hy => (List.mem_append.1 hy).elim id fun hy => by rw [List.mem_singleton.1 hy, ← hx2]; exact hx
  exact fun x hx y hy => h x (h1 x hx) y (h1 y hy)
theorem consV_bad {L : List PKey} {v : PKey} {t : ByteArray} (hs : saidPF L v.1 = some (.string t)) (ht : t ≠ v.2) : ¬ ConsV (L ++ [v]) := by
  intro h
  obtain ⟨x, hx, e1, e2⟩ := saidPF_some hs
  injection e2 with e2
  exact ht (e2.trans (h x (List.mem_append_left _ hx) v (List.mem_append_right _ (List.mem_singleton.2 rfl)) e1))
/-- What is heard of a name, j values of Book i being read. -/
def nameH (l : List PStep) (n : ByteArray) (i : Nat) (b : PStep) (j : Nat) : List PKey := valsOf (l.take i) n ++ b.2.take j
theorem nameH_start (l : List PStep) (n : ByteArray) (i : Nat) (b : PStep) : nameH l n i b 0 = valsOf (l.take i) n := by simp [nameH]
theorem nameH_next {l : List PStep} {n : ByteArray} {i j : Nat} {b : PStep} {v : PKey} (hv : b.2[j]? = some v) : nameH l n i b (j + 1) = nameH l n i b j ++ [v] := by
  unfold nameH
  rw [List.take_add_one, hv, ← List.append_assoc]
  rfl
theorem valsOf_next {l : List PStep} {i : Nat} {b : PStep} (hb : l[i]? = some b) (n : ByteArray) : valsOf (l.take (i + 1)) n = valsOf (l.take i) n ++ (if b.1 = n then b.2 else []) := by
  unfold valsOf
  rw [List.take_add_one, hb, List.filter_append, List.flatMap_append]
  by_cases e : b.1 = n
  · simp [e]
  · simp [e]
theorem nameH_end {l : List PStep} {n : ByteArray} {i : Nat} {b : PStep} (hb : l[i]? = some b) (hn : b.1 = n) : nameH l n i b b.2.length = valsOf (l.take (i + 1)) n := by
  unfold nameH
  rw [List.take_length, valsOf_next hb, if_pos hn]
theorem nameH_sub {l : List PStep} {n : ByteArray} {i j : Nat} {b : PStep} (hb : l[i]? = some b) (hn : b.1 = n) : ∀ x ∈ nameH l n i b j, x ∈ valsOf (l.take (i + 1)) n := by
  intro x hx
  rw [← nameH_end hb hn]
  unfold nameH at hx ⊢
  rcases List.mem_append.1 hx with hx | hx
  · exact List.mem_append_left _ hx
  · rw [List.take_length]
    exact List.mem_append_right _ (List.mem_of_mem_take hx)
/-- The Book that is told as bad, the names before the q-th being heard whole. -/
def BadOk (l : List PStep) (bad : Int) : Prop := bad = -1 ∨ ∃ k : Nat, bad = (k : Int) ∧ k < l.length ∧ ¬ ConsB (l.take (k + 1))
/-- Where no Book is told, or a later one, a name is said alike. -/
def NameOk (l : List PStep) (n : ByteArray) (i : Nat) (bad : Int) : Prop := ∀ j, j ≤ i → (bad < 0 ∨ (j : Int) ≤ bad) → ConsV (valsOf (l.take j) n)
theorem NameOk.start (l : List PStep) (n : ByteArray) (bad : Int) : NameOk l n 0 bad := fun j hj _ => by
  obtain rfl : j = 0 := by omega
  intro u hu
  simp [valsOf] at hu
theorem NameOk.less {l : List PStep} {n : ByteArray} {i : Nat} {bad : Int} (h : NameOk l n i bad) {k : Nat} (hk : bad < 0 ∨ (k : Int) < bad) : NameOk l n i (k : Int) := fun j hj hb => h j hj (by
  rcases hb with hb | hb
  · omega
  · rcases hk with hk | hk
    · exact .inl hk
    · exact .inr (by omega))
theorem NameOk.next {l : List PStep} {n : ByteArray} {i : Nat} {bad : Int} (h : NameOk l n i bad) (h2 : bad < 0 ∨ (i : Int) < bad → ConsV (valsOf (l.take (i + 1)) n)) : NameOk l n (i + 1) bad := fun j hj hb => by
  rcases Nat.lt_or_ge j (i + 1) with hl | hl
  · exact h j (by omega) hb
  · obtain rfl : j = i + 1 := by omega
    exact h2 (hb.imp id fun hb => by omega)
theorem NameOk.skip {l : List PStep} {n : ByteArray} {i : Nat} {bad : Int} {b : PStep} (h : NameOk l n i bad) (hb : l[i]? = some b) (hn : b.1 ≠ n) : NameOk l n (i + 1) bad := h.next fun h2 => by
  rw [valsOf_next hb, if_neg hn, List.append_nil]
  exact h i (Nat.le_refl _) (h2.imp id fun h2 => by omega)
/-- What Sort answers, of a Book that is told or none. -/
theorem sort_told {l : List PStep} {bad : Int} (hb : BadOk l bad) (hn : ∀ n ∈ l.map Prod.fst, NameOk l n l.length bad) : (bad = -1 ∧ ConsB l) ∨ ∃ k : Nat, bad = (k : Int) ∧ ¬ ConsB (l.take (k + 1)) ∧ ConsB (l.take k) := by
  have hall : ∀ j, j ≤ l.length → (bad < 0 ∨ (j : Int) ≤ bad) → ConsB (l.take j) := fun j hj h => consV_B.2 fun n => by
    by_cases hm : n ∈ l.map Prod.fst
    · exact hn n hm j hj h
    · intro u hu
      obtain ⟨b, hb, e, -⟩ := valsOf_mem.1 hu
      exact absurd (List.mem_map.2 ⟨b, List.mem_of_mem_take hb, e⟩) hm
  rcases hb with rfl | ⟨k, rfl, hk, hc⟩
  · refine .inl ⟨rfl, ?_⟩
    have := hall l.length (Nat.le_refl _) (.inl (by omega))
    rwa [List.take_length] at this
  · exact .inr ⟨k, rfl, hc, hall k (by omega) (.inr (by omega))⟩
/-- A Book's values as the document puts them together. -/
def bookP (L : List PKey) : List PKey := (poolL bl (L.map Prod.fst)).map fun p => (p, saidP L p)
theorem bookP_pool {L : List PKey} (h : ConsV L) : bookP L = poolL vlt L := by
  have hr : RiseL (fun x y => bl x.1 y.1) (bookP L) := by
    unfold bookP RiseL
    rw [List.pairwise_map]
    exact poolL_rise blT _
  refine poolL_eq vltT (rise_vlt hr) fun v => ?_
  unfold bookP
  rw [List.mem_map]
  constructor
  · rintro ⟨p, hp, rfl⟩
    exact (saidPF_P ((poolL_mem _ _).1 hp)).2
  · intro hv
    have hm : v.1 ∈ L.map Prod.fst := List.mem_map.2 ⟨v, hv, rfl⟩
    exact ⟨v.1, (poolL_mem _ _).2 hm, Prod.ext rfl (h _ (saidPF_P hm).2 v hv rfl)⟩
theorem bookP_len (L : List PKey) : (bookP L).length ≤ L.length := by
  unfold bookP
  rw [List.length_map]
  have := poolL_len (lt := bl) (L.map Prod.fst)
  rw [List.length_map] at this
  exact this
/-- The bundle that the document puts together. -/
def outP (l : List PStep) : List PStep := (poolL bl (l.map Prod.fst)).map fun n => (n, bookP (valsOf l n))
theorem outP_sort {l : List PStep} (h : ConsB l) : outP l = sortOut l := by
  unfold outP sortOut
  refine List.map_congr_left fun n _ => ?_
  rw [bookP_pool (consV_B.1 h n)]
end Go.Proofs.YtfpepdjffehbcaaGreat
