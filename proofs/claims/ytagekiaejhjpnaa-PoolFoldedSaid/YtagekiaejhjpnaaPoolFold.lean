/-
  The walk of pool.Fold: unlike tables told once, and where each is. Condition: at most 1000000 tables, each within the reach, its numbers of 32 bits.
-/
import Derived.Test.YtagekiaejhjpnaaPoolText
import Derived.Test.YtagekiaejhjpnaaPutTable
import Derived.Test.YtagekiaejhjpnaaBinLay
import Derived.Test.YtagekiaejhjpnaaPoolSeek
import Derived.Maps.RangeWalk
namespace Go.Proofs.Ytagekiaejhjpnaa
open Go.RowKit Go.Shelf

theorem keyOf_string_inv {P : Program} {k : TypeId} (hk : P.underlying k = some .string) {key : Value} {kl : Lit} (h : keyOf P k key = some kl) : ∃ x : ByteArray, key = .string x ∧ kl = strL x ∧ x.size ≤ maxLen := by
  cases key <;> simp [keyOf, hk, mapKey] at h
  rename_i x
  obtain ⟨h1, h2⟩ := h
  exact ⟨x, rfl, h2.symm, h1⟩
theorem zero_rows (w : World) : (zeroValue 33).run Try.prog w = .ok (.slice none 0 0) w := by kernel_rfl
theorem intInfo : (Try.prog.info? 3).map (fun i => (i.zero, i.size, i.bytes)) = some (some (.int .i64 0), 1, 8) := by kernel_rfl
/-- What the map of texts holds behind p tables. -/
def FoldMap (w : World) (ls : List (List RowI)) (p : Nat) (f : ByteArray → Option Value) : Prop :=
  (∀ s v, f s = some v → ∃ t, s = textB t ∧ t ∈ ls.take p ∧ RowsR w w.heap.size v t) ∧ ∀ t ∈ ls.take p, (f (textB t)).isSome = true
theorem FoldMap.start (w : World) (ls : List (List RowI)) : FoldMap w ls 0 (fun _ => none) := ⟨(fun s v h => by cases h), fun t ht => by simp at ht⟩
theorem FoldMap.keep {w w' : World} {ls : List (List RowI)} {p : Nat} {f : ByteArray → Option Value} (h : FoldMap w ls p f) (hk : ∀ v t, RowsR w w.heap.size v t → RowsR w' w'.heap.size v t) : FoldMap w' ls p f :=
  ⟨fun s v hv => by obtain ⟨t, h1, h2, h3⟩ := h.1 s v hv; exact ⟨t, h1, h2, hk v t h3⟩, h.2⟩
theorem FoldMap.put {w : World} {ls : List (List RowI)} {p : Nat} {f : ByteArray → Option Value} {t : List RowI} {v : Value} (h : FoldMap w ls p f) (ht : ls[p]? = some t) (hv : RowsR w w.heap.size v t) : FoldMap w ls (p + 1) (putF f (textB t) v) := by
  have hs : ls.take (p + 1) = ls.take p ++ [t] := by rw [List.take_add_one, ht]; rfl
  refine ⟨fun s u hu => ?_, fun u hu => ?_⟩
  · unfold putF at hu
    split at hu
    · rename_i e
      cases hu
      exact ⟨t, e, by rw [hs]; simp, hv⟩
    · obtain ⟨t', h1, h2, h3⟩ := h.1 s u hu
      exact ⟨t', h1, by rw [hs]; exact List.mem_append_left _ h2, h3⟩
  · unfold putF
    split
    · rfl
    · rename_i e
      rw [hs] at hu
      rcases List.mem_append.1 hu with hu | hu
      · exact h.2 u hu
      · simp only [List.mem_singleton] at hu
        exact absurd (by rw [hu]) e
theorem rows_map {w w' : World} {b n m : Nat} {f : ByteArray → Option Value} (hm : MapS w b n m f) (hO : Only b w w') (v : Value) (t : List RowI) (h : RowsR w w.heap.size v t) : RowsR w' w'.heap.size v t := by
  obtain ⟨A, c, e, h1, h2, h3⟩ := h
  exact ⟨A, c, e, h1, h2, (reads_map hm h3 hO (Nat.le_refl _)).more hO.size⟩
/-- Numbers, read. -/
def IntsR (w : World) (B : Nat) (v : Value) (ks : List Nat) : Prop := ∃ A c, v = .slice A ks.length c ∧ ks.length ≤ c ∧ c ≤ maxLen ∧ Reads w B 1 A ks.length (ks.map fun k : Nat => Value.int .i64 (k : Int))
theorem ints_of_own {w : World} {base : Nat} {e : TypeId} {v : Value} {ks : List Nat} (h : w.ownsRow base e 1 v ks.length (ks.map fun k : Nat => Value.int .i64 (k : Int))) : IntsR w w.heap.size v ks := own_form h
theorem IntsR.on {w w' : World} {v : Value} {ks : List Nat} (h : IntsR w w.heap.size v ks) (hb : Below w.heap.size w w') : IntsR w' w'.heap.size v ks := by
  obtain ⟨A, c, e, h1, h2, h3⟩ := h
  exact ⟨A, c, e, h1, h2, (h3.below hb).more hb.size⟩
def FoldPost (ls : List (List RowI)) (w : World) (e : Ending) (w' : World) : Prop :=
  ((¬ (∀ t ∈ ls, RiseL kl t) ∧ e = .returned (.tuple #[.slice none 0 0, .slice none 0 0, .int .i64 2])) ∨
   ((∀ t ∈ ls, RiseL kl t) ∧ ∃ v av ps ks, e = .returned (.tuple #[v, av, .int .i64 0]) ∧ ps.map Prod.snd = poolL tl ls ∧ TabsP w' w'.heap.size v ps ∧ IntsR w' w'.heap.size av ks ∧ FoldAt ls ks)) ∧ Below w.heap.size w w'
/-- All keys that the map has. -/
theorem keys_all {w : World} {ls : List (List RowI)} {f : ByteArray → Option Value} {ks : List ByteArray} (hF : FoldMap w ls ls.length f) (hok : ∀ t ∈ ls, RowsOk t) (hsz : ∀ t ∈ ls, t.length * 8 ≤ 140737488351232) (hnd : ks.Nodup)
    (hk : ∀ s, strOk s → ((f s).isSome = true ↔ s ∈ ks)) (hks : ∀ s ∈ ks, strOk s) : sortT ks = (poolL tl ls).map textB := by
  rw [sortT_pool hnd, ← pool_texts hok]
  refine poolL_congr blT fun s => ⟨fun hs => ?_, fun hs => ?_⟩
  · have h1 := (hk s (hks s hs)).2 hs
    obtain ⟨v, hv⟩ := Option.isSome_iff_exists.1 h1
    obtain ⟨t, h2, h3, -⟩ := hF.1 s v hv
    rw [List.take_length] at h3
    exact List.mem_map.2 ⟨t, h3, h2.symm⟩
  · obtain ⟨t, ht, rfl⟩ := List.mem_map.1 hs
    refine (hk _ ?_).1 (hF.2 t (by rw [List.take_length]; exact ht))
    have := hsz t ht
    show (textB t).size ≤ maxLen
    rw [textB_size]
    simp only [maxLen]
    omega
theorem fold_snoc {ls : List (List RowI)} {ks : List Nat} {p k : Nat} {t : List RowI} (h : ks.length = p ∧ ∀ (i : Nat) (t : List RowI), i < p → ls[i]? = some t → ∃ k, ks[i]? = some k ∧ (poolL tl ls)[k]? = some t) (ht : ls[p]? = some t) (hk : (poolL tl ls)[k]? = some t) :
    (ks ++ [k]).length = p + 1 ∧ ∀ (i : Nat) (t : List RowI), i < p + 1 → ls[i]? = some t → ∃ k', (ks ++ [k])[i]? = some k' ∧ (poolL tl ls)[k']? = some t := by
  refine ⟨by simp [h.1], fun i t' hi ht' => ?_⟩
  rcases Nat.lt_or_ge i p with h1 | h1
  · obtain ⟨k', h2, h3⟩ := h.2 i t' h1 ht'
    exact ⟨k', by rw [List.getElem?_append_left (by rw [h.1]; exact h1)]; exact h2, h3⟩
  · obtain rfl : i = p := by omega
    rw [ht] at ht'
    cases ht'
    exact ⟨k, by rw [List.getElem?_append_right (by rw [h.1]; exact Nat.le_refl _), h.1]; simp, hk⟩
/-- The halving among the texts of tables. -/
theorem bsearch_any (A : Option Addr) (c N : Nat) (ls : List (List RowI)) (t : List RowI) (k : Nat) (w : World) (hN : (poolL tl ls).length = N) (h : Reads w w.heap.size 1 A N (((poolL tl ls).map textB).map Value.string)) (hok : ∀ t ∈ ls, RowsOk t) (hk : (poolL tl ls)[k]? = some t) (hl : N ≤ 1000000) :
    Calls Try.prog 39 #[.slice A N c, .string (textB t)] w fun e w' => (∃ o, e = .returned (.tuple #[.int .i64 (k : Nat), o])) ∧ ∃ q, w' = w.drewN q := by
  subst hN
  have hkl := (List.getElem?_eq_some_iff.1 hk).1
  obtain ⟨b, o, rfl, hb, hcl⟩ := h.spot (by omega) (by omega)
  refine (Go.Proofs.Any2.slices_BinarySearch_string binS b o (poolL tl ls).length c (fun j => (((poolL tl ls).map textB)[j]?).getD (textB t)) (textB t) w (by omega) (fun j hj => ?_)).mono ?_
  · refine hcl j _ ?_
    simp [hj]
  · rintro e w' ⟨rfl, hq⟩
    rw [halving hok hk]
    exact ⟨⟨_, rfl⟩, hq⟩
/-- The keys met so far. -/
def KeysIn (D : DataW Value) (left : Lit → Bool) (cnt : Nat) (ks : List ByteArray) (m : Nat) : Prop :=
  ks.Nodup ∧ ks.length + cnt ≤ m ∧ (∀ s, left (strL s) = (Maps.has D (strL s) && !metB ks s)) ∧ ∀ s ∈ ks, strOk s ∧ Maps.has D (strL s) = true
theorem KeysIn.start {D : DataW Value} {m : Nat} (h : Maps.size D = m) : KeysIn D (Maps.has D) (Maps.size D) [] m :=
  ⟨List.nodup_nil, by simp [h], fun s => by simp [metB], (fun s hs => by cases hs)⟩
theorem strL_key (s : ByteArray) : (strL s).sameKey (strL s) = true := WideAt.sameKey_self trivial
theorem KeysIn.step {D : DataW Value} {left : Lit → Bool} {cnt cnt' m : Nat} {ks : List ByteArray} {x : ByteArray} (h : KeysIn D left cnt ks m) (hl : left (strL x) = true) (hx : strOk x) (hc : cnt' < cnt) :
    KeysIn D (fun z => left z && !z.sameKey (strL x)) cnt' (ks ++ [x]) m := by
  obtain ⟨h1, h2, h3, h4⟩ := h
  have h5 := h3 x
  rw [hl] at h5
  have h6 : Maps.has D (strL x) = true ∧ metB ks x = false := by
    have h := (Bool.and_eq_true _ _).mp h5.symm
    exact ⟨h.1, by simpa using h.2⟩
  have hnx : x ∉ ks := fun hm => by rw [metB_iff.2 hm] at h6; cases h6.2
  refine ⟨List.nodup_append.2 ⟨h1, by simp, fun a ha b hb e => by simp at hb; subst hb; exact hnx (by rw [← e]; exact ha)⟩, by simp; omega, fun s => ?_, fun s hs => ?_⟩
  · show (left (strL s) && !(strL s).sameKey (strL x)) = _
    rw [h3 s]
    by_cases e : s = x
    · subst e
      rw [strL_key, metB_iff.2 (show s ∈ ks ++ [s] by simp)]
      simp
    · have h7 : (strL s).sameKey (strL x) = false := by
        cases hs : (strL s).sameKey (strL x)
        · rfl
        · have := WideAt.sameKey_eq hs
          unfold strL at this
          obtain ⟨⟨a⟩⟩ := s
          obtain ⟨⟨b⟩⟩ := x
          simp at this
          exact absurd (by rw [this]) e
      rw [h7]
      by_cases hm : s ∈ ks
      · rw [metB_iff.2 hm, metB_iff.2 (show s ∈ ks ++ [x] by simp [hm])]
        simp
      · rw [metB_not hm, metB_not (show s ∉ ks ++ [x] by simp [hm, e])]
        simp
  · rcases List.mem_append.1 hs with hs | hs
    · exact h4 s hs
    · simp only [List.mem_singleton] at hs
      subst hs
      exact ⟨hx, h6.1⟩
theorem KeysIn.all {D : DataW Value} {left : Lit → Bool} {cnt m : Nat} {ks : List ByteArray} (h : KeysIn D left cnt ks m) (hl : ∀ kl, left kl = false) (s : ByteArray) : Maps.has D (strL s) = true ↔ s ∈ ks := by
  constructor
  · intro hs
    have := h.2.2.1 s
    rw [hl, hs] at this
    rcases Classical.em (s ∈ ks) with hm | hm
    · exact hm
    · rw [metB_not hm] at this
      cases this
  · intro hs
    exact (h.2.2.2 s hs).2
/-- Where the tables so far stand. -/
def FoldPre (ls : List (List RowI)) (ks : List Nat) (p : Nat) : Prop := ks.length = p ∧ ∀ (i : Nat) (t : List RowI), i < p → ls[i]? = some t → ∃ k, ks[i]? = some k ∧ (poolL tl ls)[k]? = some t
set_option maxRecDepth 100000 in
set_option maxHeartbeats 32000000 in
theorem pfold_any (v : Value) (ps : List (Value × List RowI)) (w : World) (h : TabsP w w.heap.size v ps) (hok : ∀ x ∈ ps, RowsOk x.2) (hsz : ∀ x ∈ ps, x.2.length * 8 ≤ 140737488351232) (hlen : ps.length ≤ 1000000) :
    Calls Try.prog 23 #[v] w (FoldPost (ps.map Prod.snd) w) := by
  obtain ⟨A, c, rfl, hc, hm, hR, hRs⟩ := id h
  have hmm := @run_makeMap Try.prog
  obtain ⟨W1, hW1⟩ : ∃ W1, w.alloc (.map #[] 0) = W1 := ⟨_, rfl⟩
  have HB0 := Lib.hid (show Below w.heap.size w W1 from hW1 ▸ (Below.refl _ w).alloc (Nat.le_refl _) (.map #[] 0))
  have HS1 := Lib.hid (show W1.heap.size = w.heap.size + 1 by rw [← hW1]; simp)
  have HM0 := Lib.hid (show MapS W1 w.heap.size 0 0 (fun _ => none) from hW1 ▸ MapG.made w Try.prog 9 strL strOk)
  have HR := Lib.hid hR
  have HRS := Lib.hid hRs
  have HOK := Lib.hid (show ∀ t ∈ ps.map Prod.snd, RowsOk t from fun t ht => by obtain ⟨x, hx, rfl⟩ := List.mem_map.1 ht; exact hok x hx)
  have HSZ := Lib.hid (show ∀ t ∈ ps.map Prod.snd, t.length * 8 ≤ 140737488351232 from fun t ht => by obtain ⟨x, hx, rfl⟩ := List.mem_map.1 ht; exact hsz x hx)
  clear hR hRs hok hsz h
  unfold maxLen at hm
  generalize hls : ps.map Prod.snd = ls at *
  have HLS := Lib.hid hls
  have HLL := Lib.hid (show ls.length = ps.length by rw [← hls, List.length_map])
  clear hls
  generalize hn : ps.length = n at *
  have HN := Lib.hid hn
  have hn1 : (n : Int) ≤ 1000000 := by omega
  clear hn hc
  obtain ⟨i0, hi0, hz0, hz1, hz2⟩ := info_parts str_info
  obtain ⟨i1, hi1, hy0, hy1, hy2⟩ := info_parts tabInfo
  obtain ⟨i2, hi2, hx0, hx1, hx2⟩ := info_parts intInfo
  go_enter Try.func23, Try.ntmps23
  go_upto_region 2 with (fail)
  (try rw [hW1])
  clear hW1 hmm
  go_wp2
  go_loopw [21] (fun iv wr => ∃ (p m : Nat) (f : ByteArray → Option Value), iv = .int .i64 (p : Int) ∧ p ≤ n ∧ (∀ t ∈ ls.take p, RiseL kl t) ∧ MapS wr w.heap.size p m f ∧ FoldMap wr ls p f ∧ Only w.heap.size W1 wr) (fun iv _ => n - (Lib.intOf iv).toNat)
  case atStart => exact ⟨0, 0, _, rfl, Nat.zero_le _, fun t ht => by simp at ht, HM0.out, FoldMap.start _ _, Only.refl _ _⟩
  case round =>
    obtain ⟨p, m, f, rfl, hp, hT, hM, hF, hO⟩ := hrel
    have HT := Lib.hid hT
    have HM := Lib.hid hM
    have HF := Lib.hid hF
    have HON := Lib.hid hO
    have HBW := Lib.hid (show Below w.heap.size w wr from HB0.out.trans (hO.below (Nat.le_refl _) HB0.out.size))
    clear hT hM hF hO
    by_cases hlt : p < n
    · obtain ⟨⟨xv, xl⟩, hx⟩ := at_lt (l := ps) (p := p) (by have := HN.out; omega)
      have hq : (p : Int) < (n : Int) := by omega
      have hXR := HRS.out _ (List.mem_of_getElem? hx)
      obtain ⟨A3, c3, e3, -⟩ := id hXR
      simp only at e3
      subst e3
      have HXR := Lib.hid hXR
      obtain ⟨b1, o1, rfl, hb1, hcl1⟩ := (HR.out.below HBW.out).spot (by omega) (by omega)
      have r0 : wr.cell? ⟨b1, o1 + p, none⟩ = some (.slice A3 xl.length c3) := hcl1 _ _ (tab_cell hx)
      have HX := Lib.hid (show ls[p]? = some xl by rw [← HLS.out, List.getElem?_map, hx]; rfl)
      have HXO := Lib.hid (HOK.out xl (List.mem_of_getElem? HX.out))
      have HXZ := Lib.hid (HSZ.out xl (List.mem_of_getElem? HX.out))
      have HTS := Lib.hid (show (textB xl).size ≤ maxLen by have := HXZ.out; rw [textB_size]; simp only [maxLen]; omega)
      have HIS := Lib.hid (istable_any _ xl wr (HXR.out.on HBW.out))
      clear hcl1 hx hXR
      by_cases hr : RiseL kl xl
      · rw [decide_eq_true hr] at HIS
        have HRI := Lib.hid hr
        clear hr
        go_upto_region 7 with (go_at_call 27; go_loud (refine HIS.out.mono ?_; rintro e w1 ⟨v1, q, rfl, rfl, rfl⟩; have HB1 := Lib.hid (show Below wr.heap.size wr (wr.drewN q) from below_drewN (Below.refl _ _) q)))
        go_wp2_with (first
          | (go_at_call 38; go_loud (refine (ptext_any _ xl _ (HXR.out.on (HBW.out.trans (HB1.out.mono HBW.out.size))) HXO.out HXZ.out).mono ?_; rintro e w2 ⟨rfl, hb2⟩; have HB2 := Lib.hid (HB1.out.trans (hb2.mono HB1.out.size)); clear hb2))
          | (go_at_call 37; go_loud (refine (clone_any _ xl _ (HXR.out.on (HBW.out.trans (HB2.out.mono HBW.out.size))) HXZ.out).mono ?_; rintro e w3 ⟨⟨cv, rfl, ho3⟩, hb3⟩; have HB3 := Lib.hid (HB2.out.trans (hb3.mono HB2.out.size)); have HR3 := Lib.hid (rows_of_own ho3); have HM3 := Lib.hid (HM.out.on HB3.out); have HF3 := Lib.hid (HF.out.keep (fun v t hv => hv.on HB3.out)); obtain ⟨w4, hrun, hM4, hg4⟩ := HM3.out.store law_str Try.underlying65 (by simp only [maxLen]; omega) strL_inj HTS.out (key_str HTS.out) cv; have HM4 := Lib.hid hM4; have HG4 := Lib.hid (show Only w.heap.size w3 w4 from hg4); clear ho3 hb3 hM4 hg4)))
        go_roundw
        case rel =>
          refine ⟨p + 1, _, _, by go_num, hlt, fun t ht => ?_, HM4.out, (HF3.out.keep (rows_map HM3.out HG4.out)).put HX.out (rows_map HM3.out HG4.out _ _ HR3.out), ?_⟩
          · rw [List.take_add_one, HX.out] at ht
            rcases List.mem_append.1 ht with ht | ht
            · exact HT.out t ht
            · simp only [Option.toList_some, List.mem_singleton] at ht
              rw [ht]
              exact HRI.out
          · exact (HON.out.trans (Only.of_below HB3.out)).trans HG4.out
        case measure => simp [Lib.intOf]; omega
      · rw [decide_eq_false hr] at HIS
        have HRI := Lib.hid hr
        clear hr
        go_wp2_with (go_at_call 27; go_loud (refine HIS.out.mono ?_; rintro e w1 ⟨v1, q, rfl, rfl, rfl⟩))
        go_ret3
        exact ⟨.inl ⟨fun hall => HRI.out (hall xl (List.mem_of_getElem? HX.out)), rfl⟩, below_drewN HBW.out _⟩
    · obtain rfl : p = n := by omega
      have hq : ¬ (p : Int) < (p : Int) := by omega
      have HALL := Lib.hid (show ∀ t ∈ ls, RiseL kl t from fun t ht => HT.out t (by rw [List.take_of_length_le (by have := HLL.out; omega)]; exact ht))
      obtain ⟨wa, hwa⟩ : ∃ wa, wa = wr := ⟨_, rfl⟩
      subst hwa
      obtain ⟨D, hown, hms, hhas, hat⟩ := HM.out
      have HOWN := Lib.hid hown
      have HMS := Lib.hid hms
      have HHAS := Lib.hid hhas
      have hml : m ≤ p := HM.out.le
      have HBA := Lib.hid HM.out.lt
      clear hown hms hhas hat
      go_wp2_with (at_range; go_loud (refine wpList_range_own _ rfl _ 65 rfl 9 33 law_str Try.underlying65 rawE w.heap.size p D rfl HOWN.out ?_; intro w5 hrg5 hg5 hs5; have HRG5 := Lib.hid hrg5; have HB5 := Lib.hid (show Below wa.heap.size wa w5 from (Below.refl _ wa).grown hg5 (Nat.le_refl _) (fun k hk => by cases hk)); clear hrg5 hg5 hs5))
      (try go_frame)
      go_loopw [8] (fun kv wx => ∃ (left : Lit → Bool) (cnt : Nat) (ks : List ByteArray), wx.ranges Try.prog 9 rawE w.heap.size wa.heap.size p D left cnt ∧ wx.ownsRow (wa.heap.size + 1) 9 1 kv ks.length (ks.map Value.string) ∧ KeysIn D left cnt ks m ∧ Below wa.heap.size wa wx) (fun _ wx => wx.rangeLeft w.heap.size wa.heap.size)
      case atStart => exact ⟨_, _, [], HRG5.out, World.ownsRow_nil _ _ _ _, KeysIn.start HMS.out, HB5.out⟩
      case round =>
        obtain ⟨left, cnt, ks, hrg, hok, hki, hbb⟩ := hrel
        obtain ⟨A1, c1, rfl, hc1, hm1, -⟩ := own_form hok
        have HRG := Lib.hid hrg
        have HO := Lib.hid hok
        have HKI := Lib.hid hki
        have HBB := Lib.hid hbb
        have hkl : (ks.length : Int) ≤ 1000000 := by have := hki.2.1; omega
        clear hrg hok hki hbb hc1 hm1
        go_wp2_with (at_next; go_loud (refine wpList_next_ranges _ rfl _ rfl 9 law_str rawE Value.string (fun c : Value => c) (fun key kl hk => by obtain ⟨x, h, -⟩ := keyOf_string_inv Try.underlying9 hk; exact ⟨x, h⟩) (fun v y _ => ⟨v, rfl⟩) w.heap.size wa.heap.size p D left cnt rfl HRG.out ?_ ?_))
        · intro hc0 hl0
          have HKS := Lib.hid (show sortT ks = (poolL tl ls).map textB from keys_all (by rw [HLL.out]; exact HF.out) HOK.out HSZ.out HKI.out.1 (fun s hs => by rw [← HHAS.out s hs]; exact HKI.out.all hl0 s) (fun s hs => (HKI.out.2.2.2 s hs).1))
          clear hc0 hl0
          have HKN := Lib.hid (show ks.length = (poolL tl ls).length by rw [← sortT_len ks, HKS.out, List.length_map])
          generalize hN : (poolL tl ls).length = N at *
          have HPN := Lib.hid hN
          clear hN
          rw [HKN.out] at hkl
          rw [HKN.out] at HO
          rw [HKN.out]
          have HS := Lib.hid (show Calls Try.prog 29 #[.slice A1 N c1] wr (fun en w' => en = .returned (.tuple #[]) ∧ w'.ownsRow (wa.heap.size + 1) 9 1 (.slice A1 N c1) N (((poolL tl ls).map textB).map Value.string) ∧ wr.grownBy w' (Value.slice A1 N c1).ownBlock) from by
            have h := sortS_any (.slice A1 N c1) ks wr (wa.heap.size + 1) 9 (by rw [HKN.out]; exact HO.out) (by have := HKN.out; omega)
            unfold SortPost at h
            rw [HKN.out, HKS.out] at h
            exact h)
          have hN1 : (N : Int) ≤ 1000000 := by omega
          go_upto_region 16 with (go_at_call 29; go_loud (refine HS.out.mono ?_; rintro en w7 ⟨rfl, ho7, hg7⟩; have HK7 := Lib.hid (Reads.of_own ho7); have HB7 := Lib.hid (HBB.out.grown hg7 HBB.out.size (fun k hk => by have := (HO.out.lt k hk).1; omega)); clear ho7 hg7))
          have HM7 := Lib.hid (HM.out.on HB7.out)
          have HF7 := Lib.hid (HF.out.keep (fun v t hv => hv.on HB7.out))
          clear HS HRG
          go_wp2
          go_loopw [10, 48] (fun ov iv wx => ∃ (q : Nat) (qs : List (Value × List RowI)), iv = .int .i64 (q : Int) ∧ q ≤ N ∧ qs.map Prod.snd = (poolL tl ls).take q ∧ wx.ownsRow w7.heap.size 33 1 ov q (qs.map Prod.fst) ∧ (∀ x ∈ qs, RowsR w7 w7.heap.size x.1 x.2) ∧ Below w7.heap.size w7 wx) (fun _ iv _ => N - (Lib.intOf iv).toNat)
          case atStart => exact ⟨0, [], rfl, Nat.zero_le _, rfl, World.ownsRow_nil _ _ _ _, (fun x hx => by cases hx), Below.refl _ _⟩
          case round =>
            obtain ⟨q, qs, rfl, hq0, hqs, hO3, hR3, hB3⟩ := hrel
            have HQS := Lib.hid hqs
            have HO3 := Lib.hid hO3
            have HR3 := Lib.hid hR3
            have HB3 := Lib.hid hB3
            clear hqs hO3 hR3 hB3
            by_cases hlt3 : q < N
            · obtain ⟨t, ht⟩ := at_lt (l := poolL tl ls) (p := q) (by rw [HPN.out]; exact hlt3)
              have hq3 : (q : Int) < (N : Int) := by omega
              have hmem : t ∈ ls := (poolL_mem ls t).1 (List.mem_of_getElem? ht)
              obtain ⟨fv, hfv⟩ := Option.isSome_iff_exists.1 (HF7.out.2 t (by rw [List.take_of_length_le (by have := HLL.out; omega)]; exact hmem))
              obtain ⟨t', h1, h2, h3⟩ := HF7.out.1 _ _ hfv
              obtain rfl := textB_inj (HOK.out t hmem) (HOK.out t' (List.mem_of_mem_take h2)) h1
              obtain ⟨A5, c5, rfl, -⟩ := id h3
              have HTV := Lib.hid h3
              have HT := Lib.hid ht
              have hts : (textB t).size ≤ maxLen := by have := HSZ.out t hmem; rw [textB_size]; simp only [maxLen]; omega
              have hlk := (HM7.out.on HB3.out).look law_str Try.underlying65 (zero_rows wr) hts (key_str hts)
              rw [hfv] at hlk
              simp only [Option.getD_some] at hlk
              obtain ⟨b1, o1, rfl, hb1, hcl1⟩ := (HK7.out.below HB3.out).spot (by omega) (by omega)
              have r0 : wr.cell? ⟨b1, o1 + q, none⟩ = some (.string (textB t)) := hcl1 _ _ (by simp [ht])
              have HA := Lib.hid (And.intro (HO3.out.alloc (.cells #[Value.slice A5 t.length c5] 33)) (And.intro (reads_new wr #[Value.slice A5 t.length c5] 33 1 1 rfl) (show w7.heap.size ≤ (wr.alloc (.cells #[Value.slice A5 t.length c5] 33)).heap.size by have := HB3.out.size; simp; omega)))
              clear hcl1 ht h1 h2 h3 hfv hmem hts
              go_wp2_with (at_builtin; go_loud (refine wpList_append_any _ rfl (.tmp 52) (.tmp 56) _ rfl w7.heap.size 33 i1 _ 1 24 Try.underlying42 hi1 hy0 hy1 hy2 rfl (by omega) _ q (qs.map Prod.fst) rfl HA.out.1 (wr.heap.size + 1) (some ⟨wr.heap.size, 0, none⟩) 1 1 [Value.slice A5 t.length c5] rfl HA.out.2.1 (by simp [Value.oneCell']) (by simp only [maxLen]; omega) (by omega) HA.out.2.2 ?_; intro v3 w8 hown8 hg8 hat8; have HO8 := Lib.hid hown8; have HB8 := Lib.hid ((HB3.out.alloc HB3.out.size _).grown hg8 HA.out.2.2 (fun k hk => (HO3.out.lt k hk).1)); clear hown8 hg8 hat8))
              go_roundw
              case rel =>
                refine ⟨q + 1, qs ++ [(.slice A5 t.length c5, t)], by go_num, hlt3, ?_, by simpa using HO8.out, fun x hx => ?_, HB8.out⟩
                · rw [List.map_append, HQS.out, List.take_add_one, HT.out]
                  rfl
                · rcases List.mem_append.1 hx with hx | hx
                  · exact HR3.out x hx
                  · simp only [List.mem_singleton] at hx
                    subst hx
                    exact HTV.out
              case measure => simp [Lib.intOf]; omega
            · obtain rfl : q = N := by omega
              have hq3 : ¬ (q : Int) < (q : Int) := by omega
              obtain ⟨w8, hw8⟩ : ∃ w8, w8 = wr := ⟨_, rfl⟩
              subst hw8
              have HQL := Lib.hid (show qs.length = q by rw [← List.length_map (f := Prod.snd), HQS.out, List.length_take, HPN.out, Nat.min_self])
              have HQP := Lib.hid (show qs.map Prod.snd = poolL tl ls by rw [HQS.out, List.take_of_length_le (by rw [HPN.out]; exact Nat.le_refl _)])
              have HTB := Lib.hid (tabs_of_own (ps := qs) (by rw [HQL.out]; exact HO3.out) (fun x hx => (HR3.out x hx).on HB3.out))
              have HBW8 := Lib.hid (show Below w.heap.size w w8 from HBW.out.trans ((HB7.out.trans (HB3.out.mono HB7.out.size)).mono HBW.out.size))
              have HK8 := Lib.hid ((HK7.out.below HB3.out).more HB3.out.size)
              go_wp2
              go_loopw [13, 61] (fun av iv wx => ∃ (j : Nat) (js : List Nat), iv = .int .i64 (j : Int) ∧ j ≤ p ∧ FoldPre ls js j ∧ wx.ownsRow w8.heap.size 3 1 av j (js.map fun k : Nat => Value.int .i64 (k : Int)) ∧ Below w8.heap.size w8 wx) (fun _ iv _ => p - (Lib.intOf iv).toNat)
              case atStart => exact ⟨0, [], rfl, Nat.zero_le _, ⟨rfl, fun i t hi => absurd hi (by omega)⟩, World.ownsRow_nil _ _ _ _, Below.refl _ _⟩
              case round =>
                obtain ⟨j, js, rfl, hj0, hjs, hO4, hB4⟩ := hrel
                have HJS := Lib.hid hjs
                have HO4 := Lib.hid hO4
                have HB4 := Lib.hid hB4
                clear hjs hO4 hB4
                by_cases hlt4 : j < p
                · obtain ⟨⟨xv, xl⟩, hx⟩ := at_lt (l := ps) (p := j) (by have := HN.out; omega)
                  have hq4 : (j : Int) < (p : Int) := by omega
                  have hXR := HRS.out _ (List.mem_of_getElem? hx)
                  obtain ⟨A3, c3, e3, -⟩ := id hXR
                  simp only at e3
                  subst e3
                  have HXR := Lib.hid hXR
                  have HBX := Lib.hid (HBW8.out.trans (HB4.out.mono HBW8.out.size))
                  obtain ⟨b1, o1, rfl, hb1, hcl1⟩ := (HR.out.below HBX.out).spot (by omega) (by omega)
                  have r0 : wr.cell? ⟨b1, o1 + j, none⟩ = some (.slice A3 xl.length c3) := hcl1 _ _ (tab_cell hx)
                  have HX := Lib.hid (show ls[j]? = some xl by rw [← HLS.out, List.getElem?_map, hx]; rfl)
                  have HXO := Lib.hid (HOK.out xl (List.mem_of_getElem? HX.out))
                  have HXZ := Lib.hid (HSZ.out xl (List.mem_of_getElem? HX.out))
                  obtain ⟨k, hk⟩ := pool_at (List.mem_of_getElem? HX.out)
                  have HKX := Lib.hid hk
                  clear hcl1 hx hXR hk
                  go_upto_region 26 with (first
                    | (go_at_call 38; go_loud (refine (ptext_any _ xl _ (HXR.out.on HBX.out) HXO.out HXZ.out).mono ?_; rintro e w9 ⟨rfl, hb9⟩; have HB9 := Lib.hid (HB4.out.trans (hb9.mono HB4.out.size)); have HO9 := Lib.hid (own_more HO4.out hb9); clear hb9))
                    | (go_at_call 39; go_loud (refine (bsearch_any A1 c1 q ls xl k _ HPN.out ((HK8.out.below HB9.out).more HB9.out.size) HOK.out HKX.out (by omega)).mono ?_; rintro e w10 ⟨⟨ob, rfl⟩, q10, rfl⟩)))
                  have HA := Lib.hid (fun q : Nat => And.intro ((show (w9.drewN q).ownsRow w8.heap.size 3 1 _ j (js.map fun k : Nat => Value.int .i64 (k : Int)) from HO9.out).alloc (.cells #[.int .i64 (k : Int)] 3)) (And.intro (reads_new (w9.drewN q) #[.int .i64 (k : Int)] 3 1 1 rfl) (show w8.heap.size ≤ ((w9.drewN q).alloc (.cells #[.int .i64 (k : Int)] 3)).heap.size by have := HB9.out.size; simp; omega)))
                  go_wp2_with (at_builtin; go_loud (refine wpList_append_any _ rfl (.tmp 72) (.tmp 74) _ rfl w8.heap.size 3 i2 _ 1 8 Try.underlying44 hi2 hx0 hx1 hx2 rfl (by omega) _ j (js.map fun k : Nat => Value.int .i64 (k : Int)) rfl (HA.out _).1 (w9.heap.size + 1) (some ⟨w9.heap.size, 0, none⟩) 1 1 [.int .i64 (k : Int)] rfl (HA.out _).2.1 (by simp [Value.oneCell']) (by simp only [maxLen]; omega) (by omega) (HA.out 0).2.2 ?_; intro v3 w11 hown11 hg11 hat11; have HO11 := Lib.hid hown11; have HB11 := Lib.hid (((below_drewN HB9.out _).alloc (below_drewN HB9.out _).size _).grown hg11 (HA.out 0).2.2 (fun k hk => (HO9.out.lt k hk).1)); clear hown11 hg11 hat11))
                  go_roundw
                  case rel => exact ⟨j + 1, js ++ [k], by go_num, hlt4, fold_snoc HJS.out HX.out HKX.out, by simpa using HO11.out, HB11.out⟩
                  case measure => simp [Lib.intOf]; omega
                · obtain rfl : j = p := by omega
                  have hq4 : ¬ (j : Int) < (j : Int) := by omega
                  have HJL := Lib.hid HJS.out.1
                  have HIN := Lib.hid (ints_of_own (ks := js) (by rw [HJL.out]; exact HO4.out))
                  have HFA := Lib.hid (show FoldAt ls js from ⟨by rw [HJL.out, HLL.out], fun i t ht => HJS.out.2 i t (by have := (List.getElem?_eq_some_iff.1 ht).1; have := HLL.out; omega) ht⟩)
                  go_wp2
                  go_ret3
                  exact ⟨.inr ⟨HALL.out, _, _, qs, js, rfl, HQP.out, HTB.out.on HB4.out, HIN.out, HFA.out⟩, HBW8.out.trans (HB4.out.mono HBW8.out.size)⟩
        · intro x cv kl ya yb w6 cnt6 hkey hlk hRv hat6 hrg6 hlt6 hg6 hs6 hen6
          obtain ⟨x', ex, rfl, hxs⟩ := keyOf_string_inv Try.underlying9 hkey
          cases ex
          have HRG6 := Lib.hid hrg6
          have HKI6 := Lib.hid (HKI.out.step hlk hxs hlt6)
          have HLT6 := Lib.hid hlt6
          have HO6 := Lib.hid (HO.out.kept hg6 (.inr (fun e => by have := (HO.out.lt _ e).1; omega)))
          have HB6 := Lib.hid (HBB.out.grown hg6 HBB.out.size (fun k hk => by cases hk; exact Nat.le_refl _))
          have HKC := Lib.hid HKI.out.2.1
          clear hkey hlk hRv hat6 hrg6 hlt6 hg6 hs6 hxs
          have HA := Lib.hid (And.intro (HO6.out.alloc (.cells #[.string x] 9)) (And.intro (reads_new w6 #[.string x] 9 1 1 rfl) (show wa.heap.size + 1 ≤ (w6.alloc (.cells #[.string x] 9)).heap.size by have := HB6.out.size; simp; omega)))
          go_wp2_with (at_builtin; go_loud (refine wpList_append_any _ rfl (.tmp 40) (.tmp 42) _ rfl (wa.heap.size + 1) 9 i0 _ 1 16 Try.underlying22 hi0 hz0 hz1 hz2 rfl (by omega) _ ks.length (ks.map Value.string) rfl HA.out.1 (w6.heap.size + 1) (some ⟨w6.heap.size, 0, none⟩) 1 1 [.string x] rfl HA.out.2.1 (by simp [Value.oneCell']) (by simp only [maxLen]; omega) (by omega) HA.out.2.2 ?_; intro v3 w8 hown8 hg8 hat8; have HO8 := Lib.hid hown8; have HRG8 := Lib.hid ((HRG6.out.alloc (.cells #[.string x] 9)).kept hg8 (fun e => by have := (HA.out.1.lt _ e.symm).1; have := HBA.out; omega) (fun e => by have := (HA.out.1.lt _ e.symm).1; omega)); have HB8 := Lib.hid ((HB6.out.alloc HB6.out.size (.cells #[.string x] 9)).grown hg8 (by have := HA.out.2.2; omega) (fun k hk => by have := (HA.out.1.lt k hk).1; omega)); clear hown8 hg8 hat8))
          go_roundw
          case rel => exact ⟨_, cnt6, ks ++ [x], HRG8.out, by simpa using HO8.out, HKI6.out, HB8.out⟩
          case measure => rw [HRG8.out.left_eq, HRG.out.left_eq]; exact HLT6.out
theorem pfold_no {v : Value} {ls : List (List RowI)} {w : World} (h : Calls Try.prog 23 #[v] w (FoldPost ls w)) (hn : ¬ ∀ t ∈ ls, RiseL kl t) :
    Calls Try.prog 23 #[v] w fun e w' => e = .returned (.tuple #[.slice none 0 0, .slice none 0 0, .int .i64 2]) ∧ Below w.heap.size w w' :=
  h.mono fun _ _ ⟨hc, hb⟩ => ⟨hc.elim (fun h => h.2) (fun h => absurd h.1 hn), hb⟩
theorem pfold_ok {v : Value} {ls : List (List RowI)} {w : World} (h : Calls Try.prog 23 #[v] w (FoldPost ls w)) (hn : ∀ t ∈ ls, RiseL kl t) :
    Calls Try.prog 23 #[v] w fun e w' => (∃ v av ps ks, e = .returned (.tuple #[v, av, .int .i64 0]) ∧ ps.map Prod.snd = poolL tl ls ∧ TabsP w' w'.heap.size v ps ∧ IntsR w' w'.heap.size av ks ∧ FoldAt ls ks) ∧ Below w.heap.size w w' :=
  h.mono fun _ _ ⟨hc, hb⟩ => ⟨hc.elim (fun h => absurd hn h.1) (fun h => h.2), hb⟩
end Go.Proofs.Ytagekiaejhjpnaa
