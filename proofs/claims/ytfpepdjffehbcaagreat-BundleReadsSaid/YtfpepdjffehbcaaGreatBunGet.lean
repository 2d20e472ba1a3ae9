/-
  The walk of bundle.Get. Condition: the texts are within the reach; at most a million Books, and values of a Book.
-/
import Derived.Test.YtfpepdjffehbcaaGreatBunRows
import Derived.Test.YtfpepdjffehbcaaGreatIdxLay
import Derived.Lib.SlBy
set_option linter.unusedVariables false
set_option linter.unusedSimpArgs false
namespace Go.Proofs.YtfpepdjffehbcaaGreat
open Go.RowKit

theorem idxBy_says {α : Type} (p : α → Bool) (d : α) : ∀ (l : List α) (i : Nat), (∃ (k : Nat) (x : α), Lib.idxByFrom (fun _ y => p y) d l i = ((i + k : Nat) : Int) ∧ l[k]? = some x ∧ p x = true ∧ ∀ (j : Nat) (y : α), j < k → l[j]? = some y → p y = false) ∨ (Lib.idxByFrom (fun _ y => p y) d l i = -1 ∧ ∀ y ∈ l, p y = false)
  | [], i => .inr ⟨rfl, by simp⟩
  | y :: r, i => by
    unfold Lib.idxByFrom
    cases h : p y
    · rcases idxBy_says p d r (i + 1) with ⟨k, x, h1, h2, h3, h4⟩ | ⟨h1, h2⟩
      · refine .inl ⟨k + 1, x, by simp only [Bool.false_eq_true, if_false, h1]; congr 1; omega, by simpa using h2, h3, fun j z hj hz => ?_⟩
        cases j with
        | zero => simp only [List.getElem?_cons_zero, Option.some.injEq] at hz; rw [← hz]; exact h
        | succ j => exact h4 j z (by omega) (by simpa using hz)
      · exact .inr ⟨by simp [h1], fun z hz => by
          rcases List.mem_cons.1 hz with rfl | hz
          · exact h
          · exact h2 z hz⟩
    · exact .inl ⟨0, y, by simp, rfl, h, fun j z hj => absurd hj (by omega)⟩
theorem find_at {α : Type} {p : α → Bool} : ∀ {l : List α} {k : Nat} {x : α}, l[k]? = some x → p x = true → (∀ (j : Nat) (y : α), j < k → l[j]? = some y → p y = false) → l.find? p = some x
  | y :: r, 0, x, h, hp, _ => by
    simp only [List.getElem?_cons_zero, Option.some.injEq] at h
    subst h
    rw [List.find?_cons_of_pos hp]
  | y :: r, k + 1, x, h, hp, hn => by
    rw [List.find?_cons_of_neg (by simp [hn 0 y (by omega) rfl])]
    exact find_at (by simpa using h) hp fun j z hj hz => hn (j + 1) z (by omega) (by simpa using hz)
theorem find_no {α : Type} {p : α → Bool} {l : List α} (h : ∀ y ∈ l, p y = false) : l.find? p = none := by
  rw [List.find?_eq_none]
  intro x hx
  rw [h x hx]
  simp
/-- What a locale has at a path. -/
def getB (l : List PStep) (n p : ByteArray) : ByteArray × Bool := match l.find? fun b => decide (b.1 = n) with
  | none => (ByteArray.empty, false)
  | some b => match b.2.find? fun v => decide (v.1 = p) with
    | none => (ByteArray.empty, false)
    | some v => (v.2, true)
/-- A Book as it stands: the name, and the slice of its values. -/
abbrev BookV := ByteArray × Value
instance : Inhabited BookV := ⟨(ByteArray.empty, .nilIface)⟩
instance : Inhabited PKey := ⟨(ByteArray.empty, ByteArray.empty)⟩
def bookVs (l : List PStep) (vs : List Value) : List BookV := (l.zip vs).map fun z => (z.1.1, z.2)
theorem bookVs_len {l : List PStep} {vs : List Value} (h : vs.length = l.length) : (bookVs l vs).length = l.length := by simp [bookVs, h]
theorem bookVs_at {l : List PStep} {vs : List Value} (h : vs.length = l.length) {k : Nat} {x : BookV} (hx : (bookVs l vs)[k]? = some x) : ∃ b, l[k]? = some b ∧ vs[k]? = some x.2 ∧ b.1 = x.1 := by
  have hk : k < l.length := by rw [← bookVs_len h]; exact (List.getElem?_eq_some_iff.1 hx).1
  have h1 : l[k]? = some l[k] := List.getElem?_eq_getElem hk
  have h2 : vs[k]? = some (vs[k]'(by omega)) := List.getElem?_eq_getElem (by omega)
  unfold bookVs at hx
  rw [List.getElem?_map, (List.getElem?_zip_eq_some (z := (l[k], vs[k]'(by omega)))).2 ⟨h1, h2⟩] at hx
  simp only [Option.map_some, Option.some.injEq] at hx
  subst hx
  exact ⟨l[k], h1, h2, rfl⟩
theorem bookVs_of {l : List PStep} {vs : List Value} (h : vs.length = l.length) {k : Nat} {b : PStep} (hb : l[k]? = some b) : ∃ kv, vs[k]? = some kv ∧ (bookVs l vs)[k]? = some (b.1, kv) := by
  have hk := (List.getElem?_eq_some_iff.1 hb).1
  have h2 : vs[k]? = some (vs[k]'(by omega)) := List.getElem?_eq_getElem (by omega)
  refine ⟨_, h2, ?_⟩
  unfold bookVs
  rw [List.getElem?_map, (List.getElem?_zip_eq_some (z := (b, vs[k]'(by omega)))).2 ⟨hb, h2⟩]
  rfl
theorem beqB (a b : ByteArray) : (a.toList == b.toList) = decide (a = b) := by
  rw [Bool.eq_iff_iff]
  simp only [beq_iff_eq, decide_eq_true_eq]
  exact ⟨fun h => by rw [Lib.toList_data, Lib.toList_data] at h; exact Go.WideShapes.bytes_inj h, fun h => by rw [h]⟩
theorem get1_pred (n : ByteArray) (B : Nat) (w : World) (hB : B < w.heap.size) (hc : w.cell? ⟨B, 0, none⟩ = some (.string n)) : PredBelow Tryz.prog 56 #[.pointer (some ⟨B, 0, none⟩)] (fun x : BookV => .agg ([.string x.1, x.2] : List Value).toArray) (fun x => decide (x.1 = n)) w := fun W x hb => by
  have k1 : W.cell? ⟨B, 0, none⟩ = some (.string n) := (hb.cell (p := ⟨B, 0, none⟩) hB).trans hc
  show Calls Tryz.prog 56 #[.agg #[.string x.1, x.2], .pointer (some ⟨B, 0, none⟩)] W _
  have he : (x.1.toList == n.toList) = decide (x.1 = n) := beqB _ _
  have hs : B < W.heap.size := Nat.lt_of_lt_of_le hB hb.size
  have HB := Lib.hid ((Below.refl _ W).alloc (Nat.le_refl _) (.cells #[.string x.1, x.2] 56))
  have k2 : (W.alloc (.cells #[.string x.1, x.2] 56)).cell? ⟨B, 0, none⟩ = some (.string n) := (HB.out.cell (p := ⟨B, 0, none⟩) hs).trans k1
  have k3 : (W.alloc (.cells #[.string x.1, x.2] 56)).cell? ⟨W.heap.size, 0, none⟩ = some (.string x.1) := (Blk.new W 56 #[.string x.1, x.2]).cell 0
  go_enter Tryz.func56, Tryz.ntmps56
  go_wp2
  go_ret
  exact ⟨by rw [← he]; rfl, hb.trans (HB.out.mono hb.size)⟩
theorem get2_pred (n : ByteArray) (B : Nat) (w : World) (hB : B < w.heap.size) (hc : w.cell? ⟨B, 0, none⟩ = some (.string n)) : PredBelow Tryz.prog 58 #[.pointer (some ⟨B, 0, none⟩)] (fun x : PKey => .agg ([.string x.1, .string x.2] : List Value).toArray) (fun x => decide (x.1 = n)) w := fun W x hb => by
  have k1 : W.cell? ⟨B, 0, none⟩ = some (.string n) := (hb.cell (p := ⟨B, 0, none⟩) hB).trans hc
  show Calls Tryz.prog 58 #[.agg #[.string x.1, .string x.2], .pointer (some ⟨B, 0, none⟩)] W _
  have he : (x.1.toList == n.toList) = decide (x.1 = n) := beqB _ _
  have hs : B < W.heap.size := Nat.lt_of_lt_of_le hB hb.size
  have HB := Lib.hid ((Below.refl _ W).alloc (Nat.le_refl _) (.cells #[.string x.1, .string x.2] 59))
  have k2 : (W.alloc (.cells #[.string x.1, .string x.2] 59)).cell? ⟨B, 0, none⟩ = some (.string n) := (HB.out.cell (p := ⟨B, 0, none⟩) hs).trans k1
  have k3 : (W.alloc (.cells #[.string x.1, .string x.2] 59)).cell? ⟨W.heap.size, 0, none⟩ = some (.string x.1) := (Blk.new W 59 #[.string x.1, .string x.2]).cell 0
  go_enter Tryz.func58, Tryz.ntmps58
  go_wp2
  go_ret
  exact ⟨by rw [← he]; rfl, hb.trans (HB.out.mono hb.size)⟩
theorem bidx_none (A : Option Addr) (c : Nat) (fv : Value) (w : World) :
    Calls Tryz.prog 55 #[.slice A 0 c, fv] w fun e w' => e = .returned (.int .i64 (-1)) ∧ w' = w := by
  go_enter Tryz.func55, Tryz.ntmps55
  go_wp2
  go_loopw [8] (fun iv wr => iv = .int .i64 0 ∧ wr = w) (fun _ _ => 0)
  case atStart => exact ⟨rfl, rfl⟩
  case round =>
    obtain ⟨rfl, rfl⟩ := hrel
    go_wp2
    go_ret
    exact ⟨rfl, rfl⟩
theorem vidx_none (A : Option Addr) (c : Nat) (fv : Value) (w : World) :
    Calls Tryz.prog 57 #[.slice A 0 c, fv] w fun e w' => e = .returned (.int .i64 (-1)) ∧ w' = w := by
  go_enter Tryz.func57, Tryz.ntmps57
  go_wp2
  go_loopw [8] (fun iv wr => iv = .int .i64 0 ∧ wr = w) (fun _ _ => 0)
  case atStart => exact ⟨rfl, rfl⟩
  case round =>
    obtain ⟨rfl, rfl⟩ := hrel
    go_wp2
    go_ret
    exact ⟨rfl, rfl⟩
def IdxPost {α : Type} (l : List α) (p : α → Bool) (w : World) (e : Ending) (w' : World) : Prop := ((∃ (k : Nat) (b : α), e = .returned (.int .i64 (k : Int)) ∧ l[k]? = some b ∧ l.find? p = some b) ∨ (e = .returned (.int .i64 (-1)) ∧ l.find? p = none)) ∧ Below w.heap.size w w'
theorem bidx_any (v : Value) (l : List PStep) (vs : List Value) (n : ByteArray) (B : Nat) (w : World) (h : StepsR w v l vs) (hB : B < w.heap.size) (hc : w.cell? ⟨B, 0, none⟩ = some (.string n)) (hn : l.length ≤ 100000000) :
    Calls Tryz.prog 55 #[v, .func (.func 56) #[] #[.pointer (some ⟨B, 0, none⟩)]] w (IdxPost l (fun b => decide (b.1 = n)) w) := by
  obtain ⟨A, c, rfl, -, -, hR, hvl, -⟩ := h
  rcases Nat.eq_zero_or_pos l.length with h0 | h0
  · obtain rfl := List.eq_nil_of_length_eq_zero h0
    exact (bidx_none A c _ w).mono fun e w' ⟨he, hw⟩ => ⟨.inr ⟨he, rfl⟩, by rw [hw]; exact Below.refl _ _⟩
  · obtain ⟨b, o, rfl, hb, hcl⟩ := hR.spot h0 (by omega)
    have hlen := bookVs_len hvl
    have hx := AnyQ.slices_IndexFunc idxBL 2 Tryz.isAgg56 Tryz.sizeOf56 (fun x : BookV => [.string x.1, x.2]) (fun _ => rfl) (fun x => decide (x.1 = n)) 56 #[.pointer (some ⟨B, 0, none⟩)] (enters_of Tryz.func56 (by kernel_rfl) rfl) b o l.length c (bookVs l vs) w
      (get1_pred n B w hB hc) (by rw [hlen]; exact Nat.le_refl _) (by omega) hb (fun j hj i v hi => by
        have hxj : (bookVs l vs)[j]? = some (bookVs l vs)[j]! := by rw [List.getElem?_eq_getElem hj, _root_.getElem!_pos _ j hj]
        obtain ⟨bk, h1, h2, h3⟩ := bookVs_at hvl hxj
        have hat := stepCells_at l vs j bk _ h1 h2
        generalize (bookVs l vs)[j]! = y at hi hat h2 h3
        match i, hi with
        | 0, hi => simp at hi; rw [← hi, ← h3]; exact hcl _ _ hat.1
        | 1, hi => simp at hi; rw [← hi]; exact hcl _ _ hat.2
        | i + 2, hi => simp at hi)
    rw [List.take_of_length_le (by rw [hlen]; exact Nat.le_refl _)] at hx
    refine hx.mono fun e w' ⟨he, hw⟩ => ⟨?_, hw⟩
    rcases idxBy_says (fun x : BookV => decide (x.1 = n)) default (bookVs l vs) 0 with ⟨k, x, e1, e2, e3, e4⟩ | ⟨e1, e2⟩
    · obtain ⟨bk, h1, h2, h3⟩ := bookVs_at hvl e2
      refine .inl ⟨k, bk, by rw [he]; unfold Lib.idxBy; rw [e1, Nat.zero_add], h1, find_at h1 (by rw [h3]; exact e3) fun j y hj hy => ?_⟩
      obtain ⟨kv, -, hk2⟩ := bookVs_of hvl hy
      exact e4 j _ hj hk2
    · refine .inr ⟨by rw [he]; unfold Lib.idxBy; rw [e1], find_no fun y hy => ?_⟩
      obtain ⟨j, hj⟩ := List.mem_iff_getElem?.1 hy
      obtain ⟨kv, -, hk2⟩ := bookVs_of hvl hj
      exact e2 _ (List.mem_of_getElem? hk2)
theorem vidx_any (v : Value) (ks : List PKey) (n : ByteArray) (B : Nat) (w : World) (h : KeysAt w w.heap.size v ks) (hB : B < w.heap.size) (hc : w.cell? ⟨B, 0, none⟩ = some (.string n)) (hn : ks.length ≤ 100000000) :
    Calls Tryz.prog 57 #[v, .func (.func 58) #[] #[.pointer (some ⟨B, 0, none⟩)]] w (IdxPost ks (fun b => decide (b.1 = n)) w) := by
  obtain ⟨A, c, rfl, -, -, hR⟩ := h
  rcases Nat.eq_zero_or_pos ks.length with h0 | h0
  · obtain rfl := List.eq_nil_of_length_eq_zero h0
    exact (vidx_none A c _ w).mono fun e w' ⟨he, hw⟩ => ⟨.inr ⟨he, rfl⟩, by rw [hw]; exact Below.refl _ _⟩
  · obtain ⟨b, o, rfl, hb, hcl⟩ := hR.spot h0 (by omega)
    have hx := AnyQ.slices_IndexFunc idxVL 2 Tryz.isAgg59 Tryz.sizeOf59 (fun x : PKey => [.string x.1, .string x.2]) (fun _ => rfl) (fun x => decide (x.1 = n)) 58 #[.pointer (some ⟨B, 0, none⟩)] (enters_of Tryz.func58 (by kernel_rfl) rfl) b o ks.length c ks w
      (get2_pred n B w hB hc) (Nat.le_refl _) (by omega) hb (fun j hj i v hi => by
        have hxj : ks[j]? = some ks[j]! := by rw [List.getElem?_eq_getElem hj, _root_.getElem!_pos _ j hj]
        have hat := pairCells_at ks j _ hxj
        generalize ks[j]! = y at hi hat
        match i, hi with
        | 0, hi => simp at hi; rw [← hi]; exact hcl _ _ hat.1
        | 1, hi => simp at hi; rw [← hi]; exact hcl _ _ hat.2
        | i + 2, hi => simp at hi)
    rw [List.take_of_length_le (Nat.le_refl _)] at hx
    refine hx.mono fun e w' ⟨he, hw⟩ => ⟨?_, hw⟩
    rcases idxBy_says (fun x : PKey => decide (x.1 = n)) default ks 0 with ⟨k, x, e1, e2, e3, e4⟩ | ⟨e1, e2⟩
    · exact .inl ⟨k, x, by rw [he]; unfold Lib.idxBy; rw [e1, Nat.zero_add], e2, find_at e2 e3 e4⟩
    · exact .inr ⟨by rw [he]; unfold Lib.idxBy; rw [e1], find_no e2⟩
set_option maxHeartbeats 4000000 in
theorem bget_any (v : Value) (l : List PStep) (vs : List Value) (n p : ByteArray) (w : World) (h : StepsR w v l vs) (hn : l.length ≤ 100000000) (hb : ∀ b ∈ l, b.2.length ≤ 100000000) :
    Calls Tryz.prog 28 #[.agg #[v], .string n, .string p] w fun en w' => en = .returned (.tuple #[.string (getB l n p).1, .bool (getB l n p).2]) ∧ Below w.heap.size w w' := by
  have HS := Lib.hid h
  have HBN := Lib.hid hb
  obtain ⟨A, c, rfl, -, -, hRd, hvl, hKs⟩ := h
  have HRD := Lib.hid hRd
  have HVL := Lib.hid hvl
  have HKS := Lib.hid hKs
  clear hRd hvl hKs hb
  obtain ⟨N, hN⟩ : ∃ N, l.length = N := ⟨_, rfl⟩
  have HN := Lib.hid hN
  rw [hN] at hn HS HRD ⊢
  have hn1 : (N : Int) ≤ 100000000 := by omega
  clear hN
  obtain ⟨W1, hW1⟩ : ∃ W1, ((w.alloc (.cells #[.slice A N c] 24)).alloc (.cells #[.string n] 9)).alloc (.cells #[.string p] 9) = W1 := ⟨_, rfl⟩
  have HB1 := Lib.hid (show Below w.heap.size w W1 from by rw [← hW1]; exact (((Below.refl _ w).alloc (Nat.le_refl _) _).alloc (by simp) _).alloc (by simp; omega) _)
  have HZ := Lib.hid (show W1.heap.size = w.heap.size + 3 from by rw [← hW1]; simp)
  have HC0 := Lib.hid (show ∀ W, Below W1.heap.size W1 W → W.cell? ⟨w.heap.size, 0, none⟩ = some (.slice A N c) ∧ W.cell? ⟨w.heap.size + 1, 0, none⟩ = some (.string n) ∧ W.cell? ⟨w.heap.size + 1 + 1, 0, none⟩ = some (.string p) from fun W hW => by
    have hz := HZ.out
    have c0 : W1.cell? ⟨w.heap.size, 0, none⟩ = some (.slice A N c) := by
      rw [← hW1]
      exact (((Blk.new w 24 #[.slice A N c]).alloc _).alloc _).cell 0
    have c1 : W1.cell? ⟨w.heap.size + 1, 0, none⟩ = some (.string n) := by
      rw [← hW1]
      have := ((Blk.new (w.alloc (.cells #[.slice A N c] 24)) 9 #[.string n]).alloc (.cells #[.string p] 9)).cell 0
      simpa using this
    have c2 : W1.cell? ⟨w.heap.size + 1 + 1, 0, none⟩ = some (.string p) := by
      rw [← hW1]
      have := (Blk.new ((w.alloc (.cells #[.slice A N c] 24)).alloc (.cells #[.string n] 9)) 9 #[.string p]).cell 0
      simpa using this
    exact ⟨(hW.cell (p := ⟨w.heap.size, 0, none⟩) (by show w.heap.size < _; omega)).trans c0, (hW.cell (p := ⟨w.heap.size + 1, 0, none⟩) (by show w.heap.size + 1 < _; omega)).trans c1, (hW.cell (p := ⟨w.heap.size + 1 + 1, 0, none⟩) (by show w.heap.size + 1 + 1 < _; omega)).trans c2⟩)
  have HI1 := Lib.hid (bidx_any (.slice A N c) l vs n (w.heap.size + 1) W1 (HS.out.more HB1.out) (by have := HZ.out; omega) (HC0.out W1 (Below.refl _ _)).2.1 (by rw [HN.out]; exact hn))
  have HI2 := Lib.hid (fun kv (ks : List PKey) W (hW : Below W1.heap.size W1 W) (hk : KeysAt W W.heap.size kv ks) (hl : ks.length ≤ 100000000) => vidx_any kv ks p (w.heap.size + 1 + 1) W hk (by have := HZ.out; have := hW.size; omega) (HC0.out W hW).2.2 hl)
  have HW1 := Lib.hid hW1
  clear hW1
  go_enter Tryz.func28, Tryz.ntmps28
  go_upto_region 1 with (fail)
  rw [HW1.out]
  obtain ⟨k0, k1, k2⟩ := HC0.out W1 (Below.refl _ _)
  have hz1 : w.heap.size < W1.heap.size := by have := HZ.out; omega
  clear HW1
  go_wp2_with fail
  refine HI1.out.mono ?_
  rintro en w2 ⟨hres, hb2⟩
  obtain ⟨q0, q1, q2⟩ := HC0.out w2 hb2
  have HB2 := Lib.hid hb2
  have HBW := Lib.hid (HB1.out.trans (hb2.mono HB1.out.size))
  clear hb2 k0 k1 k2
  rcases hres with ⟨k, b, rfl, hk, hf⟩ | ⟨rfl, hf⟩
  · obtain ⟨kv, hkv⟩ : ∃ kv, vs[k]? = some kv := ⟨_, List.getElem?_eq_getElem (by rw [HVL.out]; exact (List.getElem?_eq_some_iff.1 hk).1)⟩
    have hkN : k < N := by rw [← HN.out]; exact (List.getElem?_eq_some_iff.1 hk).1
    obtain ⟨bb, o, rfl, hbb, hcl⟩ := HRD.out.spot (by omega) (by omega)
    have hat := stepCells_at l vs k b kv hk hkv
    have z1 : w2.cell? ⟨bb, o + k * 2 + 1, none⟩ = some kv := (HBW.out.cell (p := ⟨bb, o + k * 2 + 1, none⟩) hbb).trans (hcl _ _ hat.2)
    have HKV := Lib.hid ((HKS.out k b kv hk hkv).more HBW.out HBW.out.size)
    have HBL := Lib.hid (HBN.out b (List.mem_of_getElem? hk))
    obtain ⟨nm, vl⟩ := b
    simp only at HKV HBL
    obtain ⟨Ak, ck, rfl, hck, -, hRk⟩ := HKV.out
    have HV2 := Lib.hid (HI2.out _ vl w2 HB2.out HKV.out HBL.out)
    have HRK := Lib.hid hRk
    have HG := Lib.hid (show getB l n p = (match vl.find? fun v => decide (v.1 = p) with
      | none => (ByteArray.empty, false)
      | some v => (v.2, true)) from by unfold getB; rw [hf])
    have hq1 : (k : Int) < (N : Int) := by omega
    have hq2 : ¬ (k : Int) < 0 := by omega
    have hq3 : (0 : Int) ≤ (k : Int) := by omega
    obtain ⟨mk, hmk⟩ : ∃ mk, vl.length = mk := ⟨_, rfl⟩
    have HMK := Lib.hid hmk
    rw [hmk] at z1 hck HRK HV2 HBL
    clear hmk hk hkv hat hcl hf hRk
    go_wp2_with fail
    refine HV2.out.mono ?_
    rintro en w3 ⟨hres, hb3⟩
    have HB3 := Lib.hid (HBW.out.trans (hb3.mono HBW.out.size))
    rcases hres with ⟨j, x, rfl, hj, hf⟩ | ⟨rfl, hf⟩
    · have hjm : j < mk := by rw [← HMK.out]; exact (List.getElem?_eq_some_iff.1 hj).1
      obtain ⟨bk, ok, rfl, hbk, hclk⟩ := (HRK.out.below hb3).spot (by omega) (by omega)
      have hatk := pairCells_at vl j x hj
      have y1 : w3.cell? ⟨bk, ok + j * 2 + 1, none⟩ = some (.string x.2) := hclk _ _ hatk.2
      have hj1 : (j : Int) < (mk : Int) := by omega
      have hj2 : ¬ (j : Int) < 0 := by omega
      have hj3 : (0 : Int) ≤ (j : Int) := by omega
      have HX := Lib.hid (show getB l n p = (x.2, true) from by rw [HG.out, hf])
      clear hclk hatk hj hf hb3
      generalize x.2 = xt at *
      go_wp2
      go_ret2
      exact ⟨by rw [HX.out]; rfl, HB3.out⟩
    · have HX := Lib.hid (show getB l n p = (ByteArray.empty, false) from by rw [HG.out, hf])
      clear hf hb3
      go_wp2
      go_ret2
      exact ⟨by rw [HX.out]; rfl, HB3.out⟩
  · have HX := Lib.hid (show getB l n p = (ByteArray.empty, false) from by unfold getB; rw [hf])
    clear hf
    go_wp2
    go_ret2
    exact ⟨by rw [HX.out]; rfl, HBW.out⟩
end Go.Proofs.YtfpepdjffehbcaaGreat
